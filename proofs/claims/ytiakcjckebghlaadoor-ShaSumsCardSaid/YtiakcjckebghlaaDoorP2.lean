/-
  Sha: a text with its padding, by the program: the walk.
-/
import Derived.Test.YtiakcjckebghlaaDoorP1
namespace Go.Proofs.YtiakcjckebghlaaDoor
open Go.RowKit Go.Shelf

def padZ (l : List UInt8) (z : Nat) : List UInt8 := l ++ [128] ++ List.replicate z 0
theorem padZ_succ (l : List UInt8) (z : Nat) : padZ l (z + 1) = padZ l z ++ [0] := by
  unfold padZ; rw [List.replicate_succ']; simp
theorem padZ_len (l : List UInt8) (z : Nat) : (padZ l z).length = l.length + 1 + z := by simp [padZ]; omega
def padB (l : List UInt8) (j : Nat) : List UInt8 := padZ l (zerosN l.length) ++ (be64 (8 * l.length)).take j
theorem padB_zero (l : List UInt8) : padB l 0 = padZ l (zerosN l.length) := by simp [padB]
theorem padB_all (l : List UInt8) : padB l 8 = padL l := by simp [padB, padL, padZ, be64]
theorem padB_succ (l : List UInt8) (j : Nat) (hj : j < 8) : padB l (j + 1) = padB l j ++ [UInt8.ofNat (8 * l.length / 2 ^ (56 - 8 * j))] := by
  unfold padB
  rw [List.append_assoc]
  congr 1
  have h : j = 0 ∨ j = 1 ∨ j = 2 ∨ j = 3 ∨ j = 4 ∨ j = 5 ∨ j = 6 ∨ j = 7 := by omega
  rcases h with rfl | rfl | rfl | rfl | rfl | rfl | rfl | rfl <;> simp [be64]
theorem padB_len (l : List UInt8) (j : Nat) (hj : j ≤ 8) : (padB l j).length ≤ l.length + 73 := by
  have : (be64 (8 * l.length)).length = 8 := rfl
  unfold padB zerosN
  rw [List.length_append, padZ_len, List.length_take, this]; omega

set_option maxHeartbeats 4000000 in
theorem pad_any (s : ByteArray) (hs : s.size ≤ 1000) (w : World) : Calls Tryd.prog 13 #[.string s] w fun e w' => e = .returned (.string (ofL (padL s.data.toList))) ∧ Below w.heap.size w w' := by
  have hconv : ∀ W, (convert 9 41 (.string s)).run Tryd.prog W = _ := fun W => Lib.run_convert_string_bytes W 9 41 5 s Tryd.underlying9 Tryd.underlying41 Tryd.underlying5
  have hB := below_bytes (w := w) s
  have hM := RowM.ofString w s hs
  have hls : s.data.toList.length = s.size := (Lib.size_eq s).symm
  replace hls := Lib.hid hls
  have hsz : w.heap.size ≤ (Lib.bytesWorld w 5 s).heap.size := hB.size
  replace hsz := Lib.hid hsz
  replace hM := Lib.hid hM
  go_enter Tryd.func13, Tryd.ntmps13
  go_wp2_with (at_builtin; refine wpList_append_m rfl _ _ rfl w.heap.size _ s.data.toList rfl (hM.out.alloc _) (by have := hsz.out; simp; omega) (by rw [hls.out]; omega) ⟨(Lib.bytesWorld w 5 s).heap.size, 0, none⟩ 128 128 rfl rfl (by simp [go_sem]) ?_; intro v1 w1 hM1 hB1)
  have hb1 : Below w.heap.size w w1 := (hB.alloc hB.size _).trans hB1
  clear hM hconv hB hB1
  have hM0 : RowM w.heap.size v1 (padZ s.data.toList 0) w1 := by simpa [padZ] using hM1
  clear hM1
  go_loopw [4] (fun o wr => ∃ z : Nat, z ≤ zerosN s.size ∧ RowM w.heap.size o (padZ s.data.toList z) wr ∧ Below w.heap.size w wr) (fun o wr => match o with | .slice _ n _ => 2000 - n | _ => 0)
  case atStart => exact ⟨0, Nat.zero_le _, hM0, hb1⟩
  case round =>
    obtain ⟨z, hz, hM, hb⟩ := hrel
    have HM := Lib.hid hM
    obtain ⟨g, cap, cur, fz, rfl, -⟩ := hM
    have hlen : (padZ s.data.toList z).length = s.size + 1 + z := by rw [padZ_len, hls.out]
    have hsu := padZ_succ s.data.toList z
    have hlsu : (padZ s.data.toList (z + 1)).length = s.size + 1 + (z + 1) := by rw [padZ_len, hls.out]
    rw [hlen] at HM ⊢
    replace hlsu := Lib.hid hlsu
    replace hsu := Lib.hid hsu
    have HL := Lib.hid hlen
    clear hlen
    by_cases hlt : z < zerosN s.size
    · have hne : ¬ (((s.size + 1 + z : Nat) : Int) % 64 = 56) := by unfold zerosN at hlt; omega
      have hm1 : s.size + 1 + z ≤ 1100 := by unfold zerosN at hz; omega
      have hnx : s.size + 1 + (z + 1) = s.size + 1 + z + 1 := by omega
      replace hnx := Lib.hid hnx
      generalize hmm : s.size + 1 + z = m at hne HM HL hm1 hnx ⊢
      replace hmm := Lib.hid hmm
      have hs0 : (0 : Int) ≤ (m : Int) := by omega
      go_wp2_with (at_builtin; refine wpList_append_m rfl _ _ rfl w.heap.size _ (padZ s.data.toList z) rfl (HM.out.alloc _) (by have := hb.size; simp; omega) (by rw [HL.out]; omega) ⟨wr.heap.size, 0, none⟩ 0 0 rfl rfl (by simp [go_sem]) ?_; intro v2 w2 hM2 hB2)
      rw [← hsu.out] at hM2
      have HM2 := Lib.hid hM2
      obtain ⟨g2, cap2, cur2, fz2, rfl, -⟩ := hM2
      rw [hlsu.out, hnx.out] at HM2 ⊢
      go_roundw
      case rel => exact ⟨z + 1, by omega, HM2.out, (hb.alloc hb.size _).trans hB2⟩
      case measure => show 2000 - (m + 1) < 2000 - m; omega
    · obtain rfl : z = zerosN s.size := by omega
      have heq : ((s.size + 1 + zerosN s.size : Nat) : Int) % 64 = 56 := by unfold zerosN; omega
      have hm1 : s.size + 1 + zerosN s.size ≤ 1100 := by unfold zerosN; omega
      have hP0 : padB s.data.toList 0 = padZ s.data.toList (zerosN s.size) := by rw [padB_zero, hls.out]
      replace hP0 := Lib.hid hP0
      generalize s.size + 1 + zerosN s.size = m at heq HM HL hm1 ⊢
      have hN : (s.size : Int) * 8 = ((8 * s.size : Nat) : Int) := by omega
      have hbs := fun j hj => padB_succ s.data.toList j hj
      have hbl := fun j hj => padB_len s.data.toList j hj
      simp only [hls.out] at hbs hbl
      have hN2 : 8 * s.size ≤ 8000 := by omega
      replace hbs := Lib.hid hbs
      have HM0 : RowM w.heap.size (.slice (some ⟨g, 0, none⟩) m cap) (padB s.data.toList 0) wr := by rw [hP0.out]; exact HM.out
      have HM1 := Lib.hid HM0
      clear HM HL hP0 HM0
      go_wp2_with fail
      rw [hN]
      generalize 8 * s.size = N at hbs hN2 ⊢
      clear hN
      go_loopw [4, 5] (fun o i wr => ∃ j : Nat, j ≤ 8 ∧ i = .int .i64 (56 - 8 * (j : Int)) ∧ RowM w.heap.size o (padB s.data.toList j) wr ∧ Below w.heap.size w wr) (fun _ i _ => (intOf i + 8).toNat)
      case atStart => exact ⟨0, by omega, rfl, HM1.out, hb⟩
      case round =>
        obtain ⟨j, hj, rfl, hM, hb⟩ := hrel
        have HM := Lib.hid hM
        obtain ⟨g, cap, cur, fz, rfl, -⟩ := hM
        have hl1 := hbl j hj
        have HL := Lib.hid (rfl : (padB s.data.toList j).length = (padB s.data.toList j).length)
        generalize hln : (padB s.data.toList j).length = ln at HM hl1 ⊢
        replace hln := Lib.hid hln
        have h : j = 0 ∨ j = 1 ∨ j = 2 ∨ j = 3 ∨ j = 4 ∨ j = 5 ∨ j = 6 ∨ j = 7 ∨ j = 8 := by omega
        rcases h with rfl | rfl | rfl | rfl | rfl | rfl | rfl | rfl | rfl
        · have hsu := hbs.out 0 (by decide)
          replace hsu := Lib.hid hsu
          have hzv : ((N : Int) / 72057594037927936) = (((UInt8.ofNat (N / 2 ^ (56 - 8 * 0))).toNat : Nat) : Int) := by simp <;> omega
          replace hzv := Lib.hid hzv
          go_wp2_with (at_builtin; refine wpList_append_m rfl _ _ rfl w.heap.size _ (padB s.data.toList 0) rfl (HM.out.alloc _) (by have := hb.size; simp; omega) (by have := hbl 0 (by decide); omega) ⟨wr.heap.size, 0, none⟩ _ ((N : Int) / 72057594037927936) hzv.out rfl (by simp [go_sem]) ?_; intro v2 w2 hM2 hB2)
          rw [← hsu.out] at hM2
          go_roundw
          case rel => exact ⟨1, by omega, rfl, hM2, (hb.alloc hb.size _).trans hB2⟩
          case measure => first | (simp [intOf]; done) | (simp [intOf]; omega)
        · have hsu := hbs.out 1 (by decide)
          replace hsu := Lib.hid hsu
          have hzv : ((N : Int) / 281474976710656) = (((UInt8.ofNat (N / 2 ^ (56 - 8 * 1))).toNat : Nat) : Int) := by simp <;> omega
          replace hzv := Lib.hid hzv
          go_wp2_with (at_builtin; refine wpList_append_m rfl _ _ rfl w.heap.size _ (padB s.data.toList 1) rfl (HM.out.alloc _) (by have := hb.size; simp; omega) (by have := hbl 1 (by decide); omega) ⟨wr.heap.size, 0, none⟩ _ ((N : Int) / 281474976710656) hzv.out rfl (by simp [go_sem]) ?_; intro v2 w2 hM2 hB2)
          rw [← hsu.out] at hM2
          go_roundw
          case rel => exact ⟨2, by omega, rfl, hM2, (hb.alloc hb.size _).trans hB2⟩
          case measure => first | (simp [intOf]; done) | (simp [intOf]; omega)
        · have hsu := hbs.out 2 (by decide)
          replace hsu := Lib.hid hsu
          have hzv : ((N : Int) / 1099511627776) = (((UInt8.ofNat (N / 2 ^ (56 - 8 * 2))).toNat : Nat) : Int) := by simp <;> omega
          replace hzv := Lib.hid hzv
          go_wp2_with (at_builtin; refine wpList_append_m rfl _ _ rfl w.heap.size _ (padB s.data.toList 2) rfl (HM.out.alloc _) (by have := hb.size; simp; omega) (by have := hbl 2 (by decide); omega) ⟨wr.heap.size, 0, none⟩ _ ((N : Int) / 1099511627776) hzv.out rfl (by simp [go_sem]) ?_; intro v2 w2 hM2 hB2)
          rw [← hsu.out] at hM2
          go_roundw
          case rel => exact ⟨3, by omega, rfl, hM2, (hb.alloc hb.size _).trans hB2⟩
          case measure => first | (simp [intOf]; done) | (simp [intOf]; omega)
        · have hsu := hbs.out 3 (by decide)
          replace hsu := Lib.hid hsu
          have hzv : ((N : Int) / 4294967296) = (((UInt8.ofNat (N / 2 ^ (56 - 8 * 3))).toNat : Nat) : Int) := by simp <;> omega
          replace hzv := Lib.hid hzv
          go_wp2_with (at_builtin; refine wpList_append_m rfl _ _ rfl w.heap.size _ (padB s.data.toList 3) rfl (HM.out.alloc _) (by have := hb.size; simp; omega) (by have := hbl 3 (by decide); omega) ⟨wr.heap.size, 0, none⟩ _ ((N : Int) / 4294967296) hzv.out rfl (by simp [go_sem]) ?_; intro v2 w2 hM2 hB2)
          rw [← hsu.out] at hM2
          go_roundw
          case rel => exact ⟨4, by omega, rfl, hM2, (hb.alloc hb.size _).trans hB2⟩
          case measure => first | (simp [intOf]; done) | (simp [intOf]; omega)
        · have hsu := hbs.out 4 (by decide)
          replace hsu := Lib.hid hsu
          have hzv : ((N : Int) / 16777216) = (((UInt8.ofNat (N / 2 ^ (56 - 8 * 4))).toNat : Nat) : Int) := by simp <;> omega
          replace hzv := Lib.hid hzv
          go_wp2_with (at_builtin; refine wpList_append_m rfl _ _ rfl w.heap.size _ (padB s.data.toList 4) rfl (HM.out.alloc _) (by have := hb.size; simp; omega) (by have := hbl 4 (by decide); omega) ⟨wr.heap.size, 0, none⟩ _ ((N : Int) / 16777216) hzv.out rfl (by simp [go_sem]) ?_; intro v2 w2 hM2 hB2)
          rw [← hsu.out] at hM2
          go_roundw
          case rel => exact ⟨5, by omega, rfl, hM2, (hb.alloc hb.size _).trans hB2⟩
          case measure => first | (simp [intOf]; done) | (simp [intOf]; omega)
        · have hsu := hbs.out 5 (by decide)
          replace hsu := Lib.hid hsu
          have hzv : ((N : Int) / 65536) = (((UInt8.ofNat (N / 2 ^ (56 - 8 * 5))).toNat : Nat) : Int) := by simp <;> omega
          replace hzv := Lib.hid hzv
          go_wp2_with (at_builtin; refine wpList_append_m rfl _ _ rfl w.heap.size _ (padB s.data.toList 5) rfl (HM.out.alloc _) (by have := hb.size; simp; omega) (by have := hbl 5 (by decide); omega) ⟨wr.heap.size, 0, none⟩ _ ((N : Int) / 65536) hzv.out rfl (by simp [go_sem]) ?_; intro v2 w2 hM2 hB2)
          rw [← hsu.out] at hM2
          go_roundw
          case rel => exact ⟨6, by omega, rfl, hM2, (hb.alloc hb.size _).trans hB2⟩
          case measure => first | (simp [intOf]; done) | (simp [intOf]; omega)
        · have hsu := hbs.out 6 (by decide)
          replace hsu := Lib.hid hsu
          have hzv : ((N : Int) / 256) = (((UInt8.ofNat (N / 2 ^ (56 - 8 * 6))).toNat : Nat) : Int) := by simp <;> omega
          replace hzv := Lib.hid hzv
          go_wp2_with (at_builtin; refine wpList_append_m rfl _ _ rfl w.heap.size _ (padB s.data.toList 6) rfl (HM.out.alloc _) (by have := hb.size; simp; omega) (by have := hbl 6 (by decide); omega) ⟨wr.heap.size, 0, none⟩ _ ((N : Int) / 256) hzv.out rfl (by simp [go_sem]) ?_; intro v2 w2 hM2 hB2)
          rw [← hsu.out] at hM2
          go_roundw
          case rel => exact ⟨7, by omega, rfl, hM2, (hb.alloc hb.size _).trans hB2⟩
          case measure => first | (simp [intOf]; done) | (simp [intOf]; omega)
        · have hsu := hbs.out 7 (by decide)
          replace hsu := Lib.hid hsu
          have hzv : ((N : Int) % 256) = (((UInt8.ofNat (N / 2 ^ (56 - 8 * 7))).toNat : Nat) : Int) := by simp <;> omega
          replace hzv := Lib.hid hzv
          go_wp2_with (at_builtin; refine wpList_append_m rfl _ _ rfl w.heap.size _ (padB s.data.toList 7) rfl (HM.out.alloc _) (by have := hb.size; simp; omega) (by have := hbl 7 (by decide); omega) ⟨wr.heap.size, 0, none⟩ _ ((N : Int) % 256) hzv.out rfl (by simp [go_sem]) ?_; intro v2 w2 hM2 hB2)
          rw [← hsu.out] at hM2
          go_roundw
          case rel => exact ⟨8, by omega, rfl, hM2, (hb.alloc hb.size _).trans hB2⟩
          case measure => first | (simp [intOf]; done) | (simp [intOf]; omega)
        · have hcv := HM.out.conv
          rw [padB_all] at hcv
          clear hbs
          go_wp2
          go_ret
          exact ⟨rfl, hb⟩
end Go.Proofs.YtiakcjckebghlaaDoor
