/-
  Sha: a text with its padding, by the document.
-/
import Derived.Test.YtiakcjckebghlaaDoorP2
namespace Go.Proofs.YtiakcjckebghlaaDoor
open Go.RowKit Go.Shelf

def tailB (N j : Nat) : List UInt8 := (be64 N).drop (8 - j)
theorem tailB_succ (N j : Nat) (hj : j < 8) : tailB N (j + 1) = UInt8.ofNat (N / 256 ^ j) :: tailB N j := by
  have h : j = 0 ∨ j = 1 ∨ j = 2 ∨ j = 3 ∨ j = 4 ∨ j = 5 ∨ j = 6 ∨ j = 7 := by omega
  rcases h with rfl | rfl | rfl | rfl | rfl | rfl | rfl | rfl <;> simp [tailB, be64]
theorem tailB_len (N j : Nat) (hj : j ≤ 8) : (tailB N j).length = j := by simp [tailB, be64]; omega
theorem padR (l : List UInt8) : padL l = padZ l (zerosN l.length) ++ tailB (8 * l.length) 8 := rfl

theorem conv_one' (W : World) (x : UInt8) (z : Int) (hz : z = (x.toNat : Int)) : (convert 41 9 (.slice (some ⟨W.heap.size, 0, none⟩) 1 1)).run Tryd.prog (W.alloc (.cells #[.int .u8 z] 5)) = .ok (.string (ofL [x])) (W.alloc (.cells #[.int .u8 z] 5)) := by
  subst hz
  refine run_convert_bytes_back _ 41 9 5 ⟨W.heap.size, 0, none⟩ 1 [x] Tryd.underlying41 Tryd.underlying5 Tryd.underlying9 fun j hj => ?_
  obtain rfl : j = 0 := by simpa using hj
  rw [show ((⟨W.heap.size, 0, none⟩ : Addr).add 0) = ⟨W.heap.size, 0, none⟩ by simp [Addr.add]]
  simp [go_sem]

set_option maxHeartbeats 4000000 in
theorem rpad_any (s : ByteArray) (hs : s.size ≤ 1000) (w : World) : Calls Tryd.prog 14 #[.string s] w fun e w' => e = .returned (.string (ofL (padL s.data.toList))) ∧ Below w.heap.size w w' := by
  have hls : s.data.toList.length = s.size := (Lib.size_eq s).symm
  replace hls := Lib.hid hls
  have h0 : s ++ ⟨#[128]⟩ = ofL (padZ s.data.toList 0) := by
    have e : padZ s.data.toList 0 = s.data.toList ++ [128] := by simp [padZ]
    rw [e, ← ofL_append, ofL_toL]; rfl
  replace h0 := Lib.hid h0
  go_enter Tryd.func14, Tryd.ntmps14
  go_wp2_with fail
  go_loop [0] (fun o => ∃ z : Nat, z ≤ zerosN s.size ∧ o = .string (ofL (padZ s.data.toList z))) (fun o => match o with | .string b => 2000 - b.size | _ => 0)
  case atStart => exact ⟨0, Nat.zero_le _, by rw [h0.out]⟩
  case round =>
    obtain ⟨z, hz, rfl⟩ := hrel
    have hlen : (ofL (padZ s.data.toList z)).size = s.size + 1 + z := by rw [ofL_size, padZ_len, hls.out]
    have hsu : ofL (padZ s.data.toList (z + 1)) = ofL (padZ s.data.toList z) ++ ⟨#[0]⟩ := by rw [padZ_succ, ← ofL_append]; rfl
    have hlen2 : (ofL (padZ s.data.toList (z + 1))).size = s.size + 1 + (z + 1) := by rw [ofL_size, padZ_len, hls.out]
    replace hsu := Lib.hid hsu
    replace hlen2 := Lib.hid hlen2
    by_cases hlt : z < zerosN s.size
    · have hne : ¬ (((s.size + 1 + z : Nat) : Int) % 64 = 56) := by unfold zerosN at hlt; omega
      have hm1 : s.size + 1 + z ≤ 1100 := by unfold zerosN at hz; omega
      have hl2 := hlen2.out
      generalize ofL (padZ s.data.toList z) = o at hlen hsu ⊢
      generalize hmm : s.size + 1 + z = m at hlen hne hm1 ⊢
      replace hmm := Lib.hid hmm
      have hs0 : (0 : Int) ≤ (m : Int) := by omega
      have HL := Lib.hid hlen
      clear hl2
      go_wp2
      go_round
      case rel => exact ⟨z + 1, by omega, by rw [hsu.out]⟩
      case measure =>
        have e1 := hsu.out
        have e2 := hlen2.out
        have e3 := HL.out
        have e4 := hmm.out
        show 2000 - (o ++ ⟨#[0]⟩ : ByteArray).size < 2000 - o.size
        rw [← e1, e2, e3]; omega
    · obtain rfl : z = zerosN s.size := by omega
      have heq : ((s.size + 1 + zerosN s.size : Nat) : Int) % 64 = 56 := by unfold zerosN; omega
      have hm1 : s.size + 1 + zerosN s.size ≤ 1100 := by unfold zerosN; omega
      have hfin : ofL (padL s.data.toList) = ofL (padZ s.data.toList (zerosN s.size)) ++ ofL (tailB (8 * s.size) 8) := by rw [padR, hls.out, ← ofL_append]
      replace hfin := Lib.hid hfin
      generalize ofL (padZ s.data.toList (zerosN s.size)) = o at hlen hfin ⊢
      generalize s.size + 1 + zerosN s.size = m at hlen heq hm1 ⊢
      have hN : (8 : Int) * (s.size : Int) = ((8 * s.size : Nat) : Int) := by omega
      have hN2 : 8 * s.size ≤ 8000 := by omega
      have hop : o.size ≤ 1100 := by omega
      replace hN := Lib.hid hN
      go_wp2_with fail
      rw [hN.out]
      clear hN
      generalize 8 * s.size = N at hN2 hfin ⊢
      clear heq hlen hm1 hsu hlen2
      go_loopw [3, 4, 5] (fun n t i wr => ∃ j : Nat, j ≤ 8 ∧ n = .int .i64 ((N / 256 ^ j : Nat) : Int) ∧ t = .string (ofL (tailB N j)) ∧ i = .int .i64 (j : Int) ∧ Below w.heap.size w wr) (fun _ _ i _ => 8 - (intOf i).toNat)
      case atStart => exact ⟨0, by omega, by simp, rfl, rfl, Below.refl _ _⟩
      case round =>
        obtain ⟨j, hj, rfl, rfl, rfl, hb⟩ := hrel
        have htl : (ofL (tailB N j)).size = j := by rw [ofL_size, tailB_len N j hj]
        by_cases hj8 : j < 8
        · have hts : ofL (tailB N (j + 1)) = ofL [UInt8.ofNat (N / 256 ^ j)] ++ ofL (tailB N j) := by rw [tailB_succ N j hj8, ofL_append]; rfl
          have hnd : N / 256 ^ (j + 1) = N / 256 ^ j / 256 := by rw [Nat.pow_succ, Nat.div_div_eq_div_mul]
          have hnb : N / 256 ^ j ≤ 8000 := Nat.le_trans (Nat.div_le_self _ _) hN2
          have hxz : (((N / 256 ^ j : Nat) : Int)) % 256 = ((UInt8.ofNat (N / 256 ^ j)).toNat : Int) := by simp
          replace hts := Lib.hid hts
          replace hnd := Lib.hid hnd
          have hts1 : (ofL (tailB N j)).size ≤ 8 := by omega
          generalize ofL (tailB N j) = t at hts hts1 ⊢
          generalize N / 256 ^ j = q at hts hnd hnb hxz ⊢
          generalize UInt8.ofNat q = xx at hts hxz
          have hcv : ∀ W : World, (convert 41 9 (.slice (some ⟨W.heap.size, 0, none⟩) 1 1)).run Tryd.prog (W.alloc (.cells #[.int .u8 ((q : Int) % 256)] 5)) = .ok (.string (ofL [xx])) (W.alloc (.cells #[.int .u8 ((q : Int) % 256)] 5)) := fun W => conv_one' W xx _ hxz
          have hs1 : (ofL [xx]).size = 1 := rfl
          have hq0 : (0 : Int) ≤ (q : Int) := by omega
          have hcv1 := hcv wr
          clear hcv hxz htl
          go_wp2
          go_roundw
          case rel => exact ⟨j + 1, by omega, by rw [hnd.out]; simp, by rw [hts.out], by go_num, ba hb _⟩
          case measure => simp [intOf]; omega
        · obtain rfl : j = 8 := by omega
          have ht8 : (ofL (tailB N 8)).size = 8 := by rw [ofL_size, tailB_len N 8 (Nat.le_refl _)]
          generalize ofL (tailB N 8) = t at hfin ht8 ⊢
          clear htl
          go_wp2
          go_ret
          exact ⟨by rw [hfin.out]; rfl, hb⟩
end Go.Proofs.YtiakcjckebghlaaDoor
