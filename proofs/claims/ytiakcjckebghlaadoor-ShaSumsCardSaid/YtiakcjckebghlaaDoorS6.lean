/-
  Sha: a block added to a state.
-/
import Derived.Test.YtiakcjckebghlaaDoorS5
import Derived.Deep.RegionWith
namespace Go.Proofs.YtiakcjckebghlaaDoor
open Go.RowKit Go.Shelf

def ConstT (g : Nat) (W : World) : Prop := ∀ k, k < 64 → W.cell? ⟨g, k, none⟩ = some (.int .u32 ((consts.getD k 0).toNat : Int))
theorem ConstT.of {g n b : Nat} {W W' : World} (h : ConstT g W) (hO : Off n b W W') (h1 : g < n) (h2 : g ≠ b) : ConstT g W' := fun k hk => (hO.cell (x := ⟨g, k, none⟩) h1 h2).trans (h k hk)
theorem index57 (cs : Array Value) (hsz : cs.size = 64) (k : Nat) (z : Int) (h : cs[k]? = some (.int .u32 z)) (w : World) : (Instr.index 57 (.agg cs) (.int .i64 (k : Int))).run Tryd.prog w = .ok (.int .u32 z) w := by
  have hk : k < 64 := by have := (Array.getElem?_eq_some_iff.1 h).1; omega
  have hk2 : (k : Int) < 64 := by omega
  have hv : cs[k] = .int .u32 z := (Array.getElem?_eq_some_iff.1 h).2
  unfold Instr.index
  simp [asIntOf, run_underlying Tryd.underlying57, go_sem, hk, h]

set_option maxHeartbeats 4000000 in
theorem add_any (M T : Nat) (s : St) (b : ByteArray) (hb : b.size = 64) (w : World) (hS : StAt w M T s) (hC : ConstT 1 w) (hlt1 : 1 < w.heap.size) (hM1 : 1 ≠ M) : Calls Tryd.prog 21 #[.pointer (some ⟨M, 0, none⟩), .string b] w fun e w' => e = .returned (.tuple #[]) ∧ StAt w' M T (compress s b.data.toList) ∧ Off w.heap.size M w w' := by
  have HS := Lib.hid hS
  have HC := Lib.hid hC
  have hltM := hS.lt
  obtain ⟨c0, c1, c2, c3, c4, c5, c6, c7⟩ := cells8 (show w.heap[M]? = some (.cells (row8 s.a.toNat s.b.toNat s.c.toNat s.d.toNat s.e.toNat s.f.toNat s.g.toNat s.h.toNat) T (0, 0)) from hS)
  clear hS hC
  go_enter Tryd.func21, Tryd.ntmps21
  go_wp2_with fail
  refine (words_any b hb _).mono ?_
  rintro e w1 ⟨rfl, hb1⟩
  have hA : StAt (w.alloc (.cells s.cells 33)) w.heap.size 33 s := heap_alloc_last w _
  have hA1 : StAt w1 w.heap.size 33 s := (hb1.block w.heap.size (by simp)).trans hA
  have hB1 : Below w.heap.size w w1 := (ba (Below.refl _ _) (.cells s.cells 33)).trans (hb1.mono (by simp))
  have hC1 : ConstT 1 w1 := HC.out.of (Off.of (ob := M) hB1) hlt1 hM1
  have hS1 : StAt w1 M T s := (hB1.block M hltM).trans HS.out
  have hs1 : w.heap.size + 1 ≤ w1.heap.size := by have := hb1.size; simp at this; exact this
  have hcs : (wrow (wordsTo b.data.toList 64)).size = 64 := wrow_size _ (by rw [wordsTo_len]; exact Nat.le_refl _)
  have hat : ∀ k, k < 64 → (wrow (wordsTo b.data.toList 64))[k]? = some (.int .u32 (((wordsTo b.data.toList 64).getD k 0).toNat : Int)) := fun k hk => wrow_at _ k (by rw [wordsTo_len]; exact hk)
  have hfin : compress s b.data.toList = addS s (roundsTo (wordsTo b.data.toList 64) s 64) := rfl
  generalize wordsTo b.data.toList 64 = ws at hcs hat hfin
  replace hfin := Lib.hid hfin
  have HCS := Lib.hid hcs
  have HAT := Lib.hid hat
  have HB1 := Lib.hid hB1
  have HC1 := Lib.hid hC1
  have HS1 := Lib.hid hS1
  have HA1 := Lib.hid hA1
  clear hb1 hB1 hA hA1 hC1 hS1 hcs hat c0 c1 c2 c3 c4 c5 c6 c7
  generalize hcc : wrow ws = cs at HCS HAT
  go_wp2_with fail
  go_loopw [6, 7, 15] (fun _ _ i wr => ∃ k : Nat, k ≤ 64 ∧ i = .int .i64 (k : Int) ∧ StAt wr w.heap.size 33 (roundsTo ws s k) ∧ Off w1.heap.size w.heap.size w1 wr) (fun _ _ i _ => 64 - (intOf i).toNat)
  case atStart => exact ⟨0, by omega, rfl, HA1.out, Off.refl _ _ _⟩
  case round =>
    obtain ⟨k, hk, rfl, hR, hO⟩ := hrel
    by_cases hk64 : k < 64
    · have hix : ∀ W, (Instr.index 57 (.agg cs) (.int .i64 (k : Int))).run Tryd.prog W = .ok (.int .u32 ((ws.getD k 0).toNat : Int)) W := fun W => index57 cs HCS.out k _ (HAT.out k hk64) W
      have hck : wr.cell? ⟨1, k, none⟩ = some (.int .u32 ((consts.getD k 0).toNat : Int)) := (HC1.out.of hO (by omega) (by omega)) k hk64
      have HRD := Lib.hid (round_any w.heap.size 33 (roundsTo ws s k) (ws.getD k 0) (consts.getD k 0) wr hR)
      have hnx : roundsTo ws s (k + 1) = roundS (roundsTo ws s k) (ws.getD k 0) (consts.getD k 0) := rfl
      generalize ws.getD k 0 = x at hix HRD hnx
      generalize consts.getD k 0 = y at hck HRD hnx
      have hk0 : (0 : Int) ≤ (k : Int) := Int.natCast_nonneg _
      have hk1 : (k : Int) < 64 := by omega
      replace hnx := Lib.hid hnx
      have hsz := hO.size
      clear hR
      go_wp2_with fail
      refine HRD.out.mono ?_
      rintro e w2 ⟨rfl, hR2, hO2⟩
      have HR2 := Lib.hid hR2
      clear hR2 hix hck
      go_wp2
      go_roundw
      case rel => exact ⟨k + 1, by omega, by go_num, by rw [hnx.out]; exact HR2.out, hO.trans ⟨hO2.os, hO2.tape, hO2.output, hO2.size, fun q hq hn => hO2.block q (by omega) hn⟩⟩
      case measure => simp [intOf]; omega
    · obtain rfl : k = 64 := by omega
      have hS2 : StAt wr M T s := (hO.block M (by omega) (by omega)).trans HS1.out
      have HP := Lib.hid (put_any M T w.heap.size 33 s (roundsTo ws s 64) wr.drew hS2 hR (by omega))
      have hsz := hO.size
      have hOff : Off w.heap.size M w wr := (Off.of HB1.out).trans ⟨hO.os, hO.tape, hO.output, hO.size, fun q hq _ => hO.block q (by omega) (by omega)⟩
      clear hS2 hR
      go_wp2_with fail
      go_region_with ((go_at_call 31; refine HP.out.mono ?_; rintro e w2 ⟨rfl, hS3, hO3⟩))
      all_goals
        go_wp2
        go_end0
        exact ⟨rfl, by rw [hfin.out]; exact hS3, (hOff.trans (.of (belowN (Below.refl _ _) 1))).trans ⟨hO3.os, hO3.tape, hO3.output, hO3.size, fun q hq hn => hO3.block q (show q < wr.heap.size by omega) hn⟩⟩
end Go.Proofs.YtiakcjckebghlaaDoor
