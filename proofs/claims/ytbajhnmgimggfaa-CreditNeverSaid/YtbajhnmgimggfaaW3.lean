/-
  The walks of credit's Grant and Spend, and of the document's.
-/
import Derived.Test.YtbajhnmgimggfaaW2
namespace Go.Proofs.Ytbajhnmgimggfaa
open Go.RowKit

set_option maxHeartbeats 1000000 in
theorem grant_any (g s n : Int) (w : World) : Calls Try.prog 19 #[.agg #[.int .i64 g, .int .i64 s], .int .i64 n] w fun e w' => e = .returned (cr (chgS g s n 0)) ∧ Below w.heap.size w w' := by
  go_enter Try.func19, Try.ntmps19
  go_wp2_with fail
  refine (changed_any _ _ _ _ _).mono ?_
  rintro e w1 ⟨rfl, hb⟩
  obtain ⟨c2, c3, f2, f3⟩ := box4 (b := w.heap.size + 1) hb (by simp) (x := .int .i64 0) (y := .int .i64 0) (by simp [go_sem]) (by simp [go_sem]) (by simp [go_sem]) (by simp [go_sem])
  have hB : Below w.heap.size w w1 := Below.trans (by repeat (first | exact Below.refl _ _ | assumption | refine ba ?_ _ | refine Below.setCell ?_ (by simp; try omega) _)) (hb.mono (by simp; try omega))
  clear hb
  unfold cr
  go_wp2
  refine bodyPost_ret (v := cr (chgS g s n 0)) (by simp [results, Try.results19, go_sem, cr, c2, c3]) rfl ⟨rfl, (by repeat (first | exact Below.refl _ _ | assumption | refine ba ?_ _ | refine Below.setCell ?_ (by simp; try omega) _))⟩

set_option maxHeartbeats 1000000 in
theorem spend_any (g s n : Int) (w : World) : Calls Try.prog 21 #[.agg #[.int .i64 g, .int .i64 s], .int .i64 n] w fun e w' => e = .returned (cr (chgS g s 0 n)) ∧ Below w.heap.size w w' := by
  go_enter Try.func21, Try.ntmps21
  go_wp2_with fail
  refine (changed_any _ _ _ _ _).mono ?_
  rintro e w1 ⟨rfl, hb⟩
  obtain ⟨c2, c3, f2, f3⟩ := box4 (b := w.heap.size + 1) hb (by simp) (x := .int .i64 0) (y := .int .i64 0) (by simp [go_sem]) (by simp [go_sem]) (by simp [go_sem]) (by simp [go_sem])
  have hB : Below w.heap.size w w1 := Below.trans (by repeat (first | exact Below.refl _ _ | assumption | refine ba ?_ _ | refine Below.setCell ?_ (by simp; try omega) _)) (hb.mono (by simp; try omega))
  clear hb
  unfold cr
  go_wp2
  refine bodyPost_ret (v := cr (chgS g s 0 n)) (by simp [results, Try.results21, go_sem, cr, c2, c3]) rfl ⟨rfl, (by repeat (first | exact Below.refl _ _ | assumption | refine ba ?_ _ | refine Below.setCell ?_ (by simp; try omega) _))⟩

set_option maxHeartbeats 2000000 in
theorem rgrant_any (g s n : Int) (w : World) : Calls Try.prog 20 #[.agg #[.int .i64 g, .int .i64 s], .int .i64 n] w fun e w' => e = .returned (cr (rgrantS g s n)) ∧ Below w.heap.size w w' := by
  go_enter Try.func20, Try.ntmps20
  go_wp2_with fail
  refine (rright_any _ _ _).mono ?_
  rintro e w1 ⟨rfl, hb⟩
  obtain ⟨c0, c1, f0, f1⟩ := box4 (b := w.heap.size) hb (by simp; try omega) (x := .int .i64 g) (y := .int .i64 s) (by simp [go_sem]) (by simp [go_sem]) (by simp [go_sem]) (by simp [go_sem])
  obtain ⟨c2, c3, f2, f3⟩ := box4 (b := w.heap.size + 1) hb (by simp) (x := .int .i64 0) (y := .int .i64 0) (by simp [go_sem]) (by simp [go_sem]) (by simp [go_sem]) (by simp [go_sem])
  have hB : Below w.heap.size w w1 := Below.trans (by repeat (first | exact Below.refl _ _ | assumption | refine ba ?_ _ | refine Below.setCell ?_ (by simp; try omega) _)) (hb.mono (by simp; try omega))
  have hz := hb.size
  simp only [World.size_alloc] at hz
  have y0 : w.heap.size < w1.heap.size := by omega
  have y1 : w.heap.size + 1 < w1.heap.size := by omega
  clear hb hz
  have bad : rightB g s = false ∨ n < 0 → Hid (rgrantS g s n = ((0, 0), 2)) := fun h => Lib.hid (by rw [rgrantS, if_pos h])
  cases hr : rightB g s
  · have e := bad (.inl hr)
    clear bad hr
    go_wp2
    refine bodyPost_ret (v := cr (rgrantS g s n)) (by rw [e.out]; simp [results, Try.results20, go_sem, cr, c2, c3]) rfl ⟨rfl, (by repeat (first | exact Below.refl _ _ | assumption | refine ba ?_ _ | refine Below.setCell ?_ (by simp; try omega) _))⟩
  by_cases hn : n < 0
  · have e := bad (.inr hn)
    clear bad hr
    go_wp2
    refine bodyPost_ret (v := cr (rgrantS g s n)) (by rw [e.out]; simp [results, Try.results20, go_sem, cr, c2, c3]) rfl ⟨rfl, (by repeat (first | exact Below.refl _ _ | assumption | refine ba ?_ _ | refine Below.setCell ?_ (by simp; try omega) _))⟩
  clear bad
  have good : ¬ (rightB g s = false ∨ n < 0) := fun h => h.elim (fun h => by rw [hr] at h; cases h) hn
  replace good := Lib.hid good
  clear hr
  go_wp2_with fail
  refine (rleft_any _ _ _).mono ?_
  rintro e w2 ⟨rfl, hb⟩
  obtain ⟨d0, d1, i0, i1⟩ := box4 (b := w.heap.size) hb y0 c0 c1 f0 f1
  obtain ⟨d2, d3, i2, i3⟩ := box4 (b := w.heap.size + 1) hb y1 c2 c3 f2 f3
  have hB2 : Below w.heap.size w w2 := hB.trans (hb.mono hB.size)
  clear hb hB c0 c1 c2 c3 f0 f1 f2 f3
  by_cases h1 : wrap64 (65536 - leftS g s) < n
  · have e : rgrantS g s n = ((0, 0), 130) := by rw [rgrantS, if_neg good.out, if_pos (.inl h1)]
    replace e := Lib.hid e
    go_wp2
    refine bodyPost_ret (v := cr (rgrantS g s n)) (by rw [e.out]; simp [results, Try.results20, go_sem, cr, d2, d3]) rfl ⟨rfl, (by repeat (first | exact Below.refl _ _ | assumption | refine ba ?_ _ | refine Below.setCell ?_ (by simp; try omega) _))⟩
  by_cases h2 : wrap64 (1000000000000 - g) < n
  · have e : rgrantS g s n = ((0, 0), 130) := by rw [rgrantS, if_neg good.out, if_pos (.inr h2)]
    replace e := Lib.hid e
    go_wp2
    refine bodyPost_ret (v := cr (rgrantS g s n)) (by rw [e.out]; simp [results, Try.results20, go_sem, cr, d2, d3]) rfl ⟨rfl, (by repeat (first | exact Below.refl _ _ | assumption | refine ba ?_ _ | refine Below.setCell ?_ (by simp; try omega) _))⟩
  have e : rgrantS g s n = ((wrap64 (g + n), s), 0) := by rw [rgrantS, if_neg good.out, if_neg (fun h => h.elim h1 h2)]
  replace e := Lib.hid e
  go_wp2
  refine bodyPost_ret (v := cr (rgrantS g s n)) (by rw [e.out]; simp [results, Try.results20, go_sem, cr, d2, d3]) rfl ⟨rfl, (by repeat (first | exact Below.refl _ _ | assumption | refine ba ?_ _ | refine Below.setCell ?_ (by simp; try omega) _))⟩

set_option maxHeartbeats 2000000 in
theorem rspend_any (g s n : Int) (w : World) : Calls Try.prog 22 #[.agg #[.int .i64 g, .int .i64 s], .int .i64 n] w fun e w' => e = .returned (cr (rspendS g s n)) ∧ Below w.heap.size w w' := by
  go_enter Try.func22, Try.ntmps22
  go_wp2_with fail
  refine (rright_any _ _ _).mono ?_
  rintro e w1 ⟨rfl, hb⟩
  obtain ⟨c0, c1, f0, f1⟩ := box4 (b := w.heap.size) hb (by simp; try omega) (x := .int .i64 g) (y := .int .i64 s) (by simp [go_sem]) (by simp [go_sem]) (by simp [go_sem]) (by simp [go_sem])
  obtain ⟨c2, c3, f2, f3⟩ := box4 (b := w.heap.size + 1) hb (by simp) (x := .int .i64 0) (y := .int .i64 0) (by simp [go_sem]) (by simp [go_sem]) (by simp [go_sem]) (by simp [go_sem])
  have hB : Below w.heap.size w w1 := Below.trans (by repeat (first | exact Below.refl _ _ | assumption | refine ba ?_ _ | refine Below.setCell ?_ (by simp; try omega) _)) (hb.mono (by simp; try omega))
  have hz := hb.size
  simp only [World.size_alloc] at hz
  have y0 : w.heap.size < w1.heap.size := by omega
  have y1 : w.heap.size + 1 < w1.heap.size := by omega
  clear hb hz
  have bad : rightB g s = false ∨ n < 0 → Hid (rspendS g s n = ((0, 0), 2)) := fun h => Lib.hid (by rw [rspendS, if_pos h])
  cases hr : rightB g s
  · have e := bad (.inl hr)
    clear bad hr
    go_wp2
    refine bodyPost_ret (v := cr (rspendS g s n)) (by rw [e.out]; simp [results, Try.results22, go_sem, cr, c2, c3]) rfl ⟨rfl, (by repeat (first | exact Below.refl _ _ | assumption | refine ba ?_ _ | refine Below.setCell ?_ (by simp; try omega) _))⟩
  by_cases hn : n < 0
  · have e := bad (.inr hn)
    clear bad hr
    go_wp2
    refine bodyPost_ret (v := cr (rspendS g s n)) (by rw [e.out]; simp [results, Try.results22, go_sem, cr, c2, c3]) rfl ⟨rfl, (by repeat (first | exact Below.refl _ _ | assumption | refine ba ?_ _ | refine Below.setCell ?_ (by simp; try omega) _))⟩
  clear bad
  have good : ¬ (rightB g s = false ∨ n < 0) := fun h => h.elim (fun h => by rw [hr] at h; cases h) hn
  replace good := Lib.hid good
  clear hr
  go_wp2_with fail
  refine (rleft_any _ _ _).mono ?_
  rintro e w2 ⟨rfl, hb⟩
  obtain ⟨d0, d1, i0, i1⟩ := box4 (b := w.heap.size) hb y0 c0 c1 f0 f1
  obtain ⟨d2, d3, i2, i3⟩ := box4 (b := w.heap.size + 1) hb y1 c2 c3 f2 f3
  have hB2 : Below w.heap.size w w2 := hB.trans (hb.mono hB.size)
  clear hb hB c0 c1 c2 c3 f0 f1 f2 f3
  by_cases h1 : leftS g s < n
  · have e : rspendS g s n = ((0, 0), 130) := by rw [rspendS, if_neg good.out, if_pos h1]
    replace e := Lib.hid e
    go_wp2
    refine bodyPost_ret (v := cr (rspendS g s n)) (by rw [e.out]; simp [results, Try.results22, go_sem, cr, d2, d3]) rfl ⟨rfl, (by repeat (first | exact Below.refl _ _ | assumption | refine ba ?_ _ | refine Below.setCell ?_ (by simp; try omega) _))⟩
  have e : rspendS g s n = ((g, wrap64 (s + n)), 0) := by rw [rspendS, if_neg good.out, if_neg h1]
  replace e := Lib.hid e
  go_wp2
  refine bodyPost_ret (v := cr (rspendS g s n)) (by rw [e.out]; simp [results, Try.results22, go_sem, cr, d2, d3]) rfl ⟨rfl, (by repeat (first | exact Below.refl _ _ | assumption | refine ba ?_ _ | refine Below.setCell ?_ (by simp; try omega) _))⟩

end Go.Proofs.Ytbajhnmgimggfaa
