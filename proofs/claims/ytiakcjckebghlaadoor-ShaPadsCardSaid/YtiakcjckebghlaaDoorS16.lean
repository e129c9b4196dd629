/-
  Sha: what a padded text is: the law's walk.
-/
import Derived.Test.YtiakcjckebghlaaDoorS12
namespace Go.Proofs.YtiakcjckebghlaaDoor
open Go.RowKit Go.Shelf

theorem be64_at (n j : Nat) (hj : j < 8) : (be64 n)[j]? = some (UInt8.ofNat (n / 256 ^ (7 - j))) := by
  have h : j = 0 ∨ j = 1 ∨ j = 2 ∨ j = 3 ∨ j = 4 ∨ j = 5 ∨ j = 6 ∨ j = 7 := by omega
  rcases h with rfl | rfl | rfl | rfl | rfl | rfl | rfl | rfl <;> simp [be64]
theorem pad_head (l : List UInt8) : (padL l).take l.length = l := by
  simp [padL]
theorem pad_128 (l : List UInt8) : (padL l)[l.length]? = some 128 := by
  simp [padL]
theorem pad_zero (l : List UInt8) (i : Nat) (h1 : l.length + 1 ≤ i) (h2 : i < (padL l).length - 8) : (padL l)[i]? = some 0 := by
  have hb : (be64 (8 * l.length)).length = 8 := rfl
  have hlen : (padL l).length = l.length + 1 + zerosN l.length + 8 := by simp [padL, hb]; omega
  unfold padL
  rw [List.getElem?_append_left (by simp; omega), List.getElem?_append_right (by simp; omega)]
  simp only [List.length_append, List.length_cons, List.length_nil]
  rw [List.getElem?_replicate, if_pos (by omega)]
theorem pad_tail (l : List UInt8) (j : Nat) (hj : j < 8) : (padL l)[(padL l).length - 8 + j]? = some (UInt8.ofNat (8 * l.length / 256 ^ (7 - j))) := by
  have hb : (be64 (8 * l.length)).length = 8 := rfl
  have hlen : (padL l).length = l.length + 1 + zerosN l.length + 8 := by simp [padL, hb]; omega
  rw [hlen, ← be64_at _ j hj]
  unfold padL
  rw [List.getElem?_append_right (by simp; omega)]
  congr 1
  simp; omega
theorem ofL_get (l : List UInt8) (i : Nat) (h : i < (ofL l).size) (c : UInt8) (hc : l[i]? = some c) : (ofL l)[i] = c := by
  obtain ⟨h', he⟩ := List.getElem?_eq_some_iff.1 hc
  rw [← he]; rfl
theorem pad_facts (a : ByteArray) : ∃ P m : Nat, (ofL (padL a.data.toList)).size = P ∧ P = 64 * m ∧ a.size + 9 ≤ P ∧ P ≤ a.size + 72 ∧ (ofL (padL a.data.toList)).extract 0 a.size = a ∧
    (∀ h : a.size < (ofL (padL a.data.toList)).size, (ofL (padL a.data.toList))[a.size] = 128) ∧
    (∀ i (h : i < (ofL (padL a.data.toList)).size), a.size + 1 ≤ i → i < P - 8 → (ofL (padL a.data.toList))[i] = 0) ∧
    (∀ j (h : P - 8 + j < (ofL (padL a.data.toList)).size), j < 8 → (ofL (padL a.data.toList))[P - 8 + j] = UInt8.ofNat (8 * a.size / 256 ^ (7 - j))) := by
  have hl : a.data.toList.length = a.size := (Lib.size_eq a).symm
  have hP : (padL a.data.toList).length = 64 * ((a.size + 72) / 64) := by rw [padL_len, hl]
  refine ⟨(padL a.data.toList).length, (a.size + 72) / 64, ofL_size _, hP, by omega, by omega, ?_, ?_, ?_, ?_⟩
  · have h := pad_head a.data.toList
    rw [hl] at h
    rw [← ofL_toL a]
    apply ByteArray.ext
    apply Array.toList_inj.1
    simp only [ByteArray.data_extract, Array.toList_extract, List.extract, toL_ofL, List.drop_zero, Nat.sub_zero]
    rw [ofL_toL]; exact h
  · intro h
    exact ofL_get _ _ h _ (by rw [← pad_128 a.data.toList, hl])
  · intro i h h1 h2
    exact ofL_get _ _ h _ (pad_zero _ _ (by rw [hl]; exact h1) h2)
  · intro j h hj
    exact ofL_get _ _ h _ (by rw [pad_tail _ _ hj, hl])
set_option maxHeartbeats 4000000 in
theorem pads_walk (s : ByteArray) (w : World) (hC : ConstT 1 w) (hlt1 : 1 < w.heap.size) : Calls Tryd.prog 5 #[.string s] w fun e w' => e = .returned (.bool true) ∧ Below w.heap.size w w' := by
  go_enter Tryd.func5, Tryd.ntmps5
  go_wp2_with fail
  refine (shown_any _ hC hlt1).mono ?_
  rintro e w1 ⟨rfl, hb1⟩
  have hz1 := hb1.size
  go_wp2_with fail
  refine (cut_any _ _).mono ?_
  rintro e w2 ⟨rfl, rfl⟩
  have h1 := cutB_size s
  generalize cutB s = a at *
  have hx1 := fun W => pad_any a (by omega) W
  obtain ⟨P, m, hP, hPm, hP9, hP72, hcut, h128, hzero, htail⟩ := pad_facts a
  generalize ofL (padL a.data.toList) = p at *
  replace hx1 := Lib.hid hx1
  replace hzero := Lib.hid hzero
  replace htail := Lib.hid htail
  have hn : a.size < p.size := by omega
  have h128n := h128 hn
  have hc1 : ((p.size : Int)) % 64 = 0 := by omega
  have hc2 : ¬ ((p.size : Int) < (a.size : Int) + 9) := by omega
  have hc3 : ¬ ((a.size : Int) + 72 < (p.size : Int)) := by omega
  have hc4 : (a.size : Int) ≤ (p.size : Int) := by omega
  have hc5 : (a.size : Int) < (p.size : Int) := by omega
  have hpz : p.size ≤ 372 := by omega
  replace hPm := Lib.hid hPm
  replace hP := Lib.hid hP
  clear h128 hlt1 hC
  go_wp2_with fail
  refine (hx1.out _).mono ?_
  rintro e w3 ⟨rfl, hb3⟩
  have hB3 := hb1.trans (hb3.mono hz1)
  clear hb1 hb3 hz1 hx1
  obtain ⟨q, hq⟩ : ∃ q, P - 8 = q := ⟨_, rfl⟩
  rw [hq] at hzero htail
  have hq8 : (p.size : Int) - 8 = (q : Int) := by have := hP.out; omega
  have hqn : p.size = q + 8 := by have := hP.out; omega
  replace hqn := Lib.hid hqn
  go_wp2_with fail
  go_loopw [6] (fun i wr => ∃ k : Nat, a.size + 1 ≤ k ∧ k ≤ q ∧ i = .int .i64 (k : Int) ∧ Below w.heap.size w wr) (fun i _ => 400 - (intOf i).toNat)
  case atStart => exact ⟨a.size + 1, Nat.le_refl _, by have := hqn.out; omega, by go_num, hB3⟩
  case round =>
    obtain ⟨k, hk1, hk2, rfl, hb⟩ := hrel
    by_cases hkq : k < q
    · have hkp : k < p.size := by have := hqn.out; omega
      have hkz := hzero.out k hkp hk1 hkq
      have hk3 : (k : Int) < (q : Int) := by omega
      have hk4 : (k : Int) < (p.size : Int) := by omega
      go_wp2
      go_roundw
      case rel => exact ⟨k + 1, by omega, by omega, by go_num, hb⟩
      case measure => simp [intOf]; omega
    · obtain rfl : k = q := by omega
      go_wp2_with fail
      go_loopw [7, 8] (fun b i wr => ∃ j : Nat, j ≤ 8 ∧ b = .int .i64 ((8 * a.size / 256 ^ (8 - j) : Nat) : Int) ∧ i = .int .i64 ((k + j : Nat) : Int) ∧ Below w.heap.size w wr) (fun _ i _ => 400 - (intOf i).toNat)
      case atStart => exact ⟨0, Nat.zero_le _, by rw [Nat.div_eq_of_lt (by omega)]; rfl, rfl, hb⟩
      case round =>
        obtain ⟨j, hj, rfl, rfl, hb⟩ := hrel
        by_cases hj8 : j < 8
        · have hkp : k + j < p.size := by have := hqn.out; omega
          have hkz := htail.out j hkp hj8
          have hbn : 8 * a.size / 256 ^ (8 - (j + 1)) = 256 * (8 * a.size / 256 ^ (8 - j)) + (UInt8.ofNat (8 * a.size / 256 ^ (7 - j))).toNat := by
            rw [show 8 - (j + 1) = 7 - j by omega, show 8 - j = (7 - j) + 1 by omega, Nat.pow_succ, ← Nat.div_div_eq_div_mul, UInt8.toNat_ofNat']
            omega
          have hbz : 8 * a.size / 256 ^ (8 - j) ≤ 10 := by
            have hp : 256 ^ (8 - j) = 256 * 256 ^ (7 - j) := by rw [show 8 - j = (7 - j) + 1 by omega, Nat.pow_succ, Nat.mul_comm]
            rw [hp, ← Nat.div_div_eq_div_mul]
            exact Nat.le_trans (Nat.div_le_self _ _) (by omega)
          generalize UInt8.ofNat (8 * a.size / 256 ^ (7 - j)) = c at hkz hbn
          have hcl := c.toNat_lt
          generalize 8 * a.size / 256 ^ (8 - j) = bt at hbn hbz
          replace hbn := Lib.hid hbn
          obtain ⟨ii, hii⟩ : ∃ ii, k + j = ii := ⟨_, rfl⟩
          simp only [hii] at hkz hkp ⊢
          have hi3 : (ii : Int) < (p.size : Int) := by omega
          have hi4 : p.size ≤ 372 := hpz
          replace hii := Lib.hid hii
          go_wp2
          go_roundw
          case rel => exact ⟨j + 1, by omega, by rw [hbn.out]; go_num, by have := hii.out; go_num, hb⟩
          case measure => simp [intOf]; omega
        · obtain rfl : j = 8 := by omega
          have hk8 : ((k + 8 : Nat) : Int) = (p.size : Int) := by have := hqn.out; omega
          have hb0 : 8 * a.size / 256 ^ (8 - 8) = 8 * a.size := by simp
          rw [hk8, hb0]
          replace hk8 := Lib.hid hk8
          have hn8 : ((8 * a.size : Nat) : Int) = 8 * (a.size : Int) := by omega
          rw [hn8]
          replace hn8 := Lib.hid hn8
          clear hb0
          go_wp2
          go_ret
          exact ⟨rfl, hb⟩
end Go.Proofs.YtiakcjckebghlaaDoor
