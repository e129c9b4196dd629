/-
  The walk of the law's own first look ('shown').
-/
import Derived.Test.YtbajhnmgimggfaaW5
namespace Go.Proofs.Ytbajhnmgimggfaa
open Go.RowKit Go.Shelf

def crv (g s e : Int) : Value := .tuple #[.agg #[.int .i64 g, .int .i64 s], .int .i64 e]
theorem cr_crv (g s e : Int) : cr ((g, s), e) = .tuple #[.agg #[.int .i64 g, .int .i64 s], .int .i64 e] := rfl

def l93 : List I64 := [⟨9, by decide, by decide⟩, ⟨3, by decide, by decide⟩]

set_option maxHeartbeats 2000000 in
theorem shown_any (w : World) : Calls Try.prog 9 #[] w fun e w' => e = .returned (.bool true) ∧ Below w.heap.size w w' := by
  have e1 : newS 10 = ((10, 0), 0) := by decide +kernel
  have e2 : chgS 10 0 0 7 = ((10, 7), 0) := by decide +kernel
  have e3 : chgS 10 7 5 0 = ((15, 7), 0) := by decide +kernel
  have e4 : chgS 15 7 0 9 = ((0, 0), 130) := by decide +kernel
  have e5 : leftS 15 7 = 8 := by decide +kernel
  have e6 : mostS 15 7 l93 = 3 := by decide +kernel
  replace e1 := Lib.hid e1
  replace e2 := Lib.hid e2
  replace e3 := Lib.hid e3
  replace e4 := Lib.hid e4
  replace e5 := Lib.hid e5
  replace e6 := Lib.hid e6
  go_enter Try.func9, Try.ntmps9
  go_wp2_with fail
  refine (new_any _ _).mono ?_
  rintro e w1 ⟨rfl, hb⟩
  rw [e1.out, cr_crv]
  have hB1 : Below w.heap.size w w1 := hb
  clear hb
  go_wp2_with fail
  refine (spend_any _ _ _ _).mono ?_
  rintro e w2 ⟨rfl, hb⟩
  rw [e2.out, cr_crv]
  have hB2 : Below w.heap.size w w2 := Below.trans (ba hB1 _) (hb.mono (by have := hB1.size; simp; omega))
  clear hb
  go_wp2_with fail
  refine (grant_any _ _ _ _).mono ?_
  rintro e w3 ⟨rfl, hb⟩
  rw [e3.out, cr_crv]
  have hB3 : Below w.heap.size w w3 := Below.trans (ba hB2 _) (hb.mono (by have := hB2.size; simp; omega))
  clear hb
  go_wp2_with fail
  refine (spend_any _ _ _ _).mono ?_
  rintro e w4 ⟨rfl, hb⟩
  rw [e4.out, cr_crv]
  obtain ⟨c0, c1, f0, f1⟩ := box4 (b := w3.heap.size) hb (by simp) (x := .int .i64 15) (y := .int .i64 7) (by simp [go_sem]) (by simp [go_sem]) (by simp [go_sem]) (by simp [go_sem])
  have hB4 : Below w.heap.size w w4 := Below.trans (ba hB3 _) (hb.mono (by have := hB3.size; simp; omega))
  have y4 : w3.heap.size < w4.heap.size := by have := hb.size; simp at this; omega
  clear hb f0 f1
  go_wp2_with fail
  refine (cleft_any _ _ _).mono ?_
  rintro e w5 ⟨rfl, hb⟩
  rw [e5.out]
  have d0 : w5.cell? ⟨w3.heap.size, 0, none⟩ = some (.int .i64 15) := (hb.cell (p := ⟨w3.heap.size, 0, none⟩) (by simp; omega)).trans (by simp [go_sem, y4, c0])
  have d1 : w5.cell? ⟨w3.heap.size, 1, none⟩ = some (.int .i64 7) := (hb.cell (p := ⟨w3.heap.size, 1, none⟩) (by simp; omega)).trans (by simp [go_sem, y4, c1])
  have hB5 : Below w.heap.size w w5 := Below.trans (ba hB4 _) (hb.mono (by have := hB4.size; simp; omega))
  clear hb c0 c1
  go_wp2_with fail
  refine (most_any 15 7 (some ⟨w5.heap.size, 0, none⟩) 2 2 l93 (by decide) _ (.inr ⟨w5.heap.size, 0, 2, rfl, by simp, fun j hj => ?_⟩)).mono ?_
  · have hj2 : j < 2 := hj
    obtain rfl | rfl : j = 0 ∨ j = 1 := by omega
    · simp [go_sem, l93]
    · simp [go_sem, l93]
  rintro e w6 ⟨rfl, hb⟩
  rw [e6.out]
  have hB6 : Below w.heap.size w w6 := Below.trans (ba hB5 _) (hb.mono (by have := hB5.size; simp; omega))
  go_wp2
  go_ret
  exact ⟨rfl, hB6⟩
end Go.Proofs.Ytbajhnmgimggfaa
