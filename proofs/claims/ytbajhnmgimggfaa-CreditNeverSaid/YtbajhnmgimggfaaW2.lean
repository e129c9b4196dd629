/-
  The walks of credit's functions that change credit, and of the document's.
-/
import Derived.Test.YtbajhnmgimggfaaW1
namespace Go.Proofs.Ytbajhnmgimggfaa
open Go.RowKit

theorem ba {w W : World} (h : Below w.heap.size w W) (o : Obj) : Below w.heap.size w (W.alloc o) := h.alloc h.size o

/-- credit, and an error's number -/
def cr (x : (Int × Int) × Int) : Value := .tuple #[.agg #[.int .i64 x.1.1, .int .i64 x.1.2], .int .i64 x.2]
def newS (n : Int) : (Int × Int) × Int := if n < 0 ∨ 65536 < n then ((0, 0), 2) else ((n, 0), 0)
def leftS (g s : Int) : Int := if rightB g s = true then wrap64 (g - s) else 0
def chgS (g s a b : Int) : (Int × Int) × Int :=
  if rightB g s = false ∨ a < 0 ∨ b < 0 then ((0, 0), 2)
  else if 1000000000000 < a ∨ wrap64 (g - s) < b then ((0, 0), 130)
  else if (wrap64 (g + a) = 0 ∧ wrap64 (s + b) = 0) ∨ rightB (wrap64 (g + a)) (wrap64 (s + b)) = true then ((wrap64 (g + a), wrap64 (s + b)), 0)
  else ((0, 0), 130)
def rgrantS (g s n : Int) : (Int × Int) × Int :=
  if rightB g s = false ∨ n < 0 then ((0, 0), 2)
  else if wrap64 (65536 - leftS g s) < n ∨ wrap64 (1000000000000 - g) < n then ((0, 0), 130)
  else ((wrap64 (g + n), s), 0)
def rspendS (g s n : Int) : (Int × Int) × Int :=
  if rightB g s = false ∨ n < 0 then ((0, 0), 2)
  else if leftS g s < n then ((0, 0), 130)
  else ((g, wrap64 (s + n)), 0)

theorem new_any (n : Int) (w : World) : Calls Try.prog 11 #[.int .i64 n] w fun e w' => e = .returned (cr (newS n)) ∧ Below w.heap.size w w' := by
  by_cases h : n < 0 ∨ 65536 < n
  · have e : newS n = ((0, 0), 2) := by rw [newS, if_pos h]
    replace e := Lib.hid e
    rcases h with h | h
    all_goals
      go_enter Try.func11, Try.ntmps11
      go_wp2
      refine bodyPost_ret (v := cr (newS n)) (by rw [e.out]; simp [results, Try.results11, go_sem, cr]) rfl ⟨rfl, (by repeat (first | exact Below.refl _ _ | assumption | refine ba ?_ _ | refine Below.setCell ?_ (by simp; try omega) _))⟩
  · have e : newS n = ((n, 0), 0) := by rw [newS, if_neg h]
    replace e := Lib.hid e
    have h1 : ¬ n < 0 := fun x => h (.inl x)
    have h2 : ¬ 65536 < n := fun x => h (.inr x)
    clear h
    go_enter Try.func11, Try.ntmps11
    go_wp2
    refine bodyPost_ret (v := cr (newS n)) (by rw [e.out]; simp [results, Try.results11, go_sem, cr]) rfl ⟨rfl, (by repeat (first | exact Below.refl _ _ | assumption | refine ba ?_ _ | refine Below.setCell ?_ (by simp; try omega) _))⟩

theorem rnew_any (n : Int) (w : World) : Calls Try.prog 12 #[.int .i64 n] w fun e w' => e = .returned (cr (newS n)) ∧ Below w.heap.size w w' := by
  by_cases h : n < 0 ∨ 65536 < n
  · have e : newS n = ((0, 0), 2) := by rw [newS, if_pos h]
    replace e := Lib.hid e
    rcases h with h | h
    all_goals
      go_enter Try.func12, Try.ntmps12
      go_wp2
      refine bodyPost_ret (v := cr (newS n)) (by rw [e.out]; simp [results, Try.results12, go_sem, cr]) rfl ⟨rfl, (by repeat (first | exact Below.refl _ _ | assumption | refine ba ?_ _ | refine Below.setCell ?_ (by simp; try omega) _))⟩
  · have e : newS n = ((n, 0), 0) := by rw [newS, if_neg h]
    replace e := Lib.hid e
    have h1 : ¬ n < 0 := fun x => h (.inl x)
    have h2 : ¬ 65536 < n := fun x => h (.inr x)
    clear h
    go_enter Try.func12, Try.ntmps12
    go_wp2
    refine bodyPost_ret (v := cr (newS n)) (by rw [e.out]; simp [results, Try.results12, go_sem, cr]) rfl ⟨rfl, (by repeat (first | exact Below.refl _ _ | assumption | refine ba ?_ _ | refine Below.setCell ?_ (by simp; try omega) _))⟩

theorem n_any (g s : Int) (w : World) : Calls Try.prog 24 #[.agg #[.int .i64 g, .int .i64 s]] w fun e w' => e = .returned (.int .i64 (wrap64 (g - s))) ∧ Below w.heap.size w w' := by
  go_enter Try.func24, Try.ntmps24
  go_wp2
  go_ret
  exact ⟨rfl, (Below.refl _ _).alloc (Nat.le_refl _) _⟩

theorem rright_any (g s : Int) (w : World) : Calls Try.prog 14 #[.agg #[.int .i64 g, .int .i64 s]] w fun e w' => e = .returned (.bool (rightB g s)) ∧ Below w.heap.size w w' := by
  by_cases h1 : 0 ≤ s
  · by_cases h2 : s ≤ g
    · by_cases h3 : g ≤ 1000000000000
      · have e : rightB g s = decide (wrap64 (g - s) ≤ 65536) := by simp [rightB, spentB, grantedB, leftB, h1, h2, h3]
        replace e := Lib.hid e
        go_enter Try.func14, Try.ntmps14
        go_wp2
        go_ret
        exact ⟨by rw [e.out, show wrap64 (g - s) = g - s from IntWalk.wrap64_in _ ⟨by omega, by omega⟩]; rfl, (Below.refl _ _).alloc (Nat.le_refl _) _⟩
      · have e : rightB g s = false := by simp [rightB, spentB, grantedB, leftB, h1, h2, h3]
        replace e := Lib.hid e
        go_enter Try.func14, Try.ntmps14
        go_wp2
        go_ret
        exact ⟨by rw [e.out]; rfl, (Below.refl _ _).alloc (Nat.le_refl _) _⟩
    · have e : rightB g s = false := by simp [rightB, spentB, grantedB, leftB, h1, h2]
      replace e := Lib.hid e
      go_enter Try.func14, Try.ntmps14
      go_wp2
      go_ret
      exact ⟨by rw [e.out]; rfl, (Below.refl _ _).alloc (Nat.le_refl _) _⟩
  · have e : rightB g s = false := by simp [rightB, spentB, grantedB, leftB, h1]
    replace e := Lib.hid e
    go_enter Try.func14, Try.ntmps14
    go_wp2
    go_ret
    exact ⟨by rw [e.out]; rfl, (Below.refl _ _).alloc (Nat.le_refl _) _⟩

/-- a box of credit, and what a call leaves of it -/
theorem box_kept {w W W1 : World} {b : Nat} {x y : Value} (h : Below W.heap.size W W1) (hb : b < W.heap.size) (h0 : W.cell? ⟨b, 0, none⟩ = some x) (h1 : W.cell? ⟨b, 1, none⟩ = some y) (h2 : W.frozen? ⟨b, 0, none⟩ = false) (h3 : W.frozen? ⟨b, 1, none⟩ = false) (hw : Below w.heap.size w W) :
    W1.cell? ⟨b, 0, none⟩ = some x ∧ W1.cell? ⟨b, 1, none⟩ = some y ∧ W1.frozen? ⟨b, 0, none⟩ = false ∧ W1.frozen? ⟨b, 1, none⟩ = false ∧ Below w.heap.size w W1 ∧ W.heap.size ≤ W1.heap.size :=
  ⟨(h.cell (p := ⟨b, 0, none⟩) hb).trans h0, (h.cell (p := ⟨b, 1, none⟩) hb).trans h1, (h.frozen (p := ⟨b, 0, none⟩) hb).trans h2, (h.frozen (p := ⟨b, 1, none⟩) hb).trans h3, hw.trans (h.mono hw.size), h.size⟩

theorem cleft_any (g s : Int) (w : World) : Calls Try.prog 15 #[.agg #[.int .i64 g, .int .i64 s]] w fun e w' => e = .returned (.int .i64 (leftS g s)) ∧ Below w.heap.size w w' := by
  go_enter Try.func15, Try.ntmps15
  go_wp2_with fail
  refine (right_any _ _ _).mono ?_
  rintro e w1 ⟨rfl, hb⟩
  obtain ⟨c0, c1, f0, f1, hB, hz⟩ := box_kept (w := w) (b := w.heap.size) hb (by simp) (x := .int .i64 g) (y := .int .i64 s) (by simp [go_sem]) (by simp [go_sem]) (by simp [go_sem]) (by simp [go_sem]) (by repeat (first | exact Below.refl _ _ | assumption | refine ba ?_ _ | refine Below.setCell ?_ (by simp; try omega) _))
  clear hb
  cases h : rightB g s
  · have H := Lib.hid h
    clear h
    go_wp2
    go_ret
    exact ⟨by rw [leftS, if_neg (by rw [H.out]; simp)]; rfl, hB⟩
  · have H := Lib.hid h
    clear h
    go_wp2
    go_ret
    exact ⟨by rw [leftS, if_pos H.out]; rfl, (by repeat (first | exact Below.refl _ _ | assumption | refine ba ?_ _ | refine Below.setCell ?_ (by simp; try omega) _))⟩

theorem rleft_any (g s : Int) (w : World) : Calls Try.prog 16 #[.agg #[.int .i64 g, .int .i64 s]] w fun e w' => e = .returned (.int .i64 (leftS g s)) ∧ Below w.heap.size w w' := by
  go_enter Try.func16, Try.ntmps16
  go_wp2_with fail
  refine (rright_any _ _ _).mono ?_
  rintro e w1 ⟨rfl, hb⟩
  obtain ⟨c0, c1, f0, f1, hB, hz⟩ := box_kept (w := w) (b := w.heap.size) hb (by simp) (x := .int .i64 g) (y := .int .i64 s) (by simp [go_sem]) (by simp [go_sem]) (by simp [go_sem]) (by simp [go_sem]) (by repeat (first | exact Below.refl _ _ | assumption | refine ba ?_ _ | refine Below.setCell ?_ (by simp; try omega) _))
  clear hb
  cases h : rightB g s
  · have H := Lib.hid h
    clear h
    go_wp2
    go_ret
    exact ⟨by rw [leftS, if_neg (by rw [H.out]; simp)]; rfl, hB⟩
  · have H := Lib.hid h
    clear h
    go_wp2
    go_ret
    exact ⟨by rw [leftS, if_pos H.out]; rfl, (by repeat (first | exact Below.refl _ _ | assumption | refine ba ?_ _ | refine Below.setCell ?_ (by simp; try omega) _))⟩

theorem wr (n : Int) (h : -9223372036854775808 ≤ n) (k : n ≤ 9223372036854775807) : wrap64 n = n := IntWalk.wrap64_in n ⟨h, k⟩

theorem wp_scope_once {P : Program} {c rest : Code} {Q : Exit → Act → World → Prop} {a : Act} {w : World} (l : Nat) (hf : findLabel c l = some rest)
    (h : c.wp P (Exit.jump l (fun a w => rest.wp P (Exit.noGoto Q) a w) Q) a w) : (Code.scope c).wp P Q a w :=
  wp_scope_jumps l (fun a w => rest.wp P (Exit.noGoto Q) a w) (fun _ _ => 0) hf h fun _ _ hJ => Code.wp_mono (fun e _ _ q => by cases e <;> first | exact q | exact (show False from q).elim) hJ

theorem box4 {W W1 : World} {b : Nat} (h : Below W.heap.size W W1) (hb : b < W.heap.size) {x y : Value} (h0 : W.cell? ⟨b, 0, none⟩ = some x) (h1 : W.cell? ⟨b, 1, none⟩ = some y) (h2 : W.frozen? ⟨b, 0, none⟩ = false) (h3 : W.frozen? ⟨b, 1, none⟩ = false) :
    W1.cell? ⟨b, 0, none⟩ = some x ∧ W1.cell? ⟨b, 1, none⟩ = some y ∧ W1.frozen? ⟨b, 0, none⟩ = false ∧ W1.frozen? ⟨b, 1, none⟩ = false :=
  ⟨(h.cell (p := ⟨b, 0, none⟩) hb).trans h0, (h.cell (p := ⟨b, 1, none⟩) hb).trans h1, (h.frozen (p := ⟨b, 0, none⟩) hb).trans h2, (h.frozen (p := ⟨b, 1, none⟩) hb).trans h3⟩

set_option maxHeartbeats 4000000 in
theorem changed_any (g s a b : Int) (w : World) : Calls Try.prog 28 #[.agg #[.int .i64 g, .int .i64 s], .int .i64 a, .int .i64 b] w fun e w' => e = .returned (cr (chgS g s a b)) ∧ Below w.heap.size w w' := by
  go_enter Try.func28, Try.ntmps28
  go_wp2_with fail
  refine wp_scope_once 0 rfl ?_
  go_wp2_with fail
  refine (right_any _ _ _).mono ?_
  rintro e w1 ⟨rfl, hb⟩
  obtain ⟨c0, c1, f0, f1⟩ := box4 (b := w.heap.size) hb (by simp; try omega) (x := .int .i64 g) (y := .int .i64 s) (by simp [go_sem]) (by simp [go_sem]) (by simp [go_sem]) (by simp [go_sem])
  obtain ⟨c2, c3, f2, f3⟩ := box4 (b := w.heap.size + 1) hb (by simp; try omega) (x := .int .i64 0) (y := .int .i64 0) (by simp [go_sem]) (by simp [go_sem]) (by simp [go_sem]) (by simp [go_sem])
  obtain ⟨c4, c5, f4, f5⟩ := box4 (b := w.heap.size + 1 + 1) hb (by simp) (x := .int .i64 0) (y := .int .i64 0) (by simp [go_sem]) (by simp [go_sem]) (by simp [go_sem]) (by simp [go_sem])
  obtain ⟨c6, c7, f6, f7⟩ := box4 (b := w.heap.size + 1 + 1 + 1) hb (by simp) (x := .int .i64 0) (y := .int .i64 0) (by simp [go_sem]) (by simp [go_sem]) (by simp [go_sem]) (by simp [go_sem])
  have hB : Below w.heap.size w w1 := Below.trans (by repeat (first | exact Below.refl _ _ | assumption | refine ba ?_ _ | refine Below.setCell ?_ (by simp; try omega) _)) (hb.mono (by simp; omega))
  have hz := hb.size
  simp only [World.size_alloc] at hz
  clear hb
  have z0 : w.heap.size < w1.heap.size := by omega
  have z1 : w.heap.size + 1 < w1.heap.size := by omega
  have z2 : w.heap.size + 1 + 1 < w1.heap.size := by omega
  have z3 : w.heap.size + 1 + 1 + 1 < w1.heap.size := by omega
  clear hz
  have bad : rightB g s = false ∨ a < 0 ∨ b < 0 → Hid (chgS g s a b = ((0, 0), 2)) := fun h => Lib.hid (by rw [chgS, if_pos h])
  cases hr : rightB g s
  · have e := bad (.inl hr)
    clear bad hr
    go_wp2_with fail
    go_step3
    refine ⟨rfl, ?_⟩
    show Code.wp Try.prog _ (Exit.noGoto _) _ _
    go_wp2
    rw [Exit.noGoto_ret]
    show bodyPost Try.prog Try.f28 _ Exit.ret _ _
    refine bodyPost_ret (v := cr (chgS g s a b)) (by rw [e.out]; simp [results, Try.results28, go_sem, cr, c2, c3]) rfl ⟨rfl, (by repeat (first | exact Below.refl _ _ | assumption | refine ba ?_ _ | refine Below.setCell ?_ (by simp; try omega) _))⟩
  by_cases ha : a < 0
  · have e := bad (.inr (.inl ha))
    clear bad hr
    go_wp2_with fail
    go_step3
    refine ⟨rfl, ?_⟩
    show Code.wp Try.prog _ (Exit.noGoto _) _ _
    go_wp2
    rw [Exit.noGoto_ret]
    show bodyPost Try.prog Try.f28 _ Exit.ret _ _
    refine bodyPost_ret (v := cr (chgS g s a b)) (by rw [e.out]; simp [results, Try.results28, go_sem, cr, c2, c3]) rfl ⟨rfl, (by repeat (first | exact Below.refl _ _ | assumption | refine ba ?_ _ | refine Below.setCell ?_ (by simp; try omega) _))⟩
  by_cases hbb : b < 0
  · have e := bad (.inr (.inr hbb))
    clear bad hr
    go_wp2_with fail
    go_step3
    refine ⟨rfl, ?_⟩
    show Code.wp Try.prog _ (Exit.noGoto _) _ _
    go_wp2
    rw [Exit.noGoto_ret]
    show bodyPost Try.prog Try.f28 _ Exit.ret _ _
    refine bodyPost_ret (v := cr (chgS g s a b)) (by rw [e.out]; simp [results, Try.results28, go_sem, cr, c2, c3]) rfl ⟨rfl, (by repeat (first | exact Below.refl _ _ | assumption | refine ba ?_ _ | refine Below.setCell ?_ (by simp; try omega) _))⟩
  clear bad
  have good : ¬ (rightB g s = false ∨ a < 0 ∨ b < 0) := fun h => h.elim (fun h => by rw [hr] at h; cases h) (fun h => h.elim ha hbb)
  replace good := Lib.hid good
  clear hr
  by_cases h1 : 1000000000000 < a
  · have e : chgS g s a b = ((0, 0), 130) := by rw [chgS, if_neg good.out, if_pos (.inl h1)]
    replace e := Lib.hid e
    go_wp2
    simp only [Exit.jump]
    show bodyPost Try.prog Try.f28 _ Exit.ret _ _
    refine bodyPost_ret (v := cr (chgS g s a b)) (by rw [e.out]; simp [results, Try.results28, go_sem, cr, c2, c3]) rfl ⟨rfl, (by repeat (first | exact Below.refl _ _ | assumption | refine ba ?_ _ | refine Below.setCell ?_ (by simp; try omega) _))⟩
  by_cases h2 : wrap64 (g - s) < b
  · have e : chgS g s a b = ((0, 0), 130) := by rw [chgS, if_neg good.out, if_pos (.inr h2)]
    replace e := Lib.hid e
    go_wp2_with (go_at_call 24; go_in)
    simp only [Exit.jump]
    show bodyPost Try.prog Try.f28 _ Exit.ret _ _
    refine bodyPost_ret (v := cr (chgS g s a b)) (by rw [e.out]; simp [results, Try.results28, go_sem, cr, c2, c3, z1]) rfl ⟨rfl, (by repeat (first | exact Below.refl _ _ | assumption | refine ba ?_ _ | refine Below.setCell ?_ (by simp; try omega) _))⟩
  have go2 : ¬ (1000000000000 < a ∨ wrap64 (g - s) < b) := fun h => h.elim h1 h2
  replace go2 := Lib.hid go2
  by_cases h3 : wrap64 (g + a) = 0
  · by_cases h4 : wrap64 (s + b) = 0
    · have e : chgS g s a b = ((wrap64 (g + a), wrap64 (s + b)), 0) := by rw [chgS, if_neg good.out, if_neg go2.out, if_pos (.inl ⟨h3, h4⟩)]
      rw [h3, h4] at e
      replace e := Lib.hid e
      go_wp2_with (go_at_call 24; go_in)
      simp only [Exit.jump]
      show bodyPost Try.prog Try.f28 _ Exit.ret _ _
      refine bodyPost_ret (v := cr (chgS g s a b)) (by rw [e.out]; simp [results, Try.results28, go_sem, cr, c2, c3, z1]) rfl ⟨rfl, (by repeat (first | exact Below.refl _ _ | assumption | refine ba ?_ _ | refine Below.setCell ?_ (by simp; try omega) _))⟩
    · have go3 : ¬ (wrap64 (g + a) = 0 ∧ wrap64 (s + b) = 0) := fun h => h4 h.2
      replace go3 := Lib.hid go3
      replace h3 := Lib.hid h3
      go_wp2_with (go_at_call 24; go_in)
      refine (right_any _ _ _).mono ?_
      rintro e w2 ⟨rfl, hb⟩
      obtain ⟨d2, d3, i2, i3⟩ := box4 (b := w.heap.size + 1) hb (by simp; omega) (x := .int .i64 0) (y := .int .i64 0) (by simp [go_sem, z1, c2]) (by simp [go_sem, z1, c3]) (by simp [go_sem, z1, f2]) (by simp [go_sem, z1, f3])
      obtain ⟨d4, d5, i4, i5⟩ := box4 (b := w.heap.size + 1 + 1) hb (by simp; omega) (x := .int .i64 0) (y := .int .i64 0) (by simp [go_sem, z2, c4]) (by simp [go_sem, z2, c5]) (by simp [go_sem, z2, f4]) (by simp [go_sem, z2, f5])
      obtain ⟨d6, d7, i6, i7⟩ := box4 (b := w.heap.size + 1 + 1 + 1) hb (by simp; omega) (x := .int .i64 (wrap64 (g + a))) (y := .int .i64 (wrap64 (s + b))) (by simp [go_sem, z3, c6]) (by simp [go_sem, z3, c7]) (by simp [go_sem, z3, f6]) (by simp [go_sem, z3, f7])
      have hB2 : Below w.heap.size w w2 := Below.trans (by repeat (first | exact Below.refl _ _ | assumption | refine ba ?_ _ | refine Below.setCell ?_ (by simp; try omega) _)) (hb.mono (by simp; omega))
      have hz := hb.size
      simp only [World.size_alloc, World.size_setCell] at hz
      have y0 : w.heap.size < w2.heap.size := by omega
      have y1 : w.heap.size + 1 < w2.heap.size := by omega
      have y2 : w.heap.size + 1 + 1 < w2.heap.size := by omega
      have y3 : w.heap.size + 1 + 1 + 1 < w2.heap.size := by omega
      clear hb hz c0 c1 c2 c3 c4 c5 c6 c7 f0 f1 f2 f3 f4 f5 f6 f7 z0 z1 z2 z3 hB
      cases hr : rightB (wrap64 (g + a)) (wrap64 (s + b))
      · have e : chgS g s a b = ((0, 0), 130) := by rw [chgS, if_neg good.out, if_neg go2.out, if_neg (fun h => h.elim go3.out (fun h => by rw [hr] at h; cases h))]
        replace e := Lib.hid e
        clear hr
        go_wp2
        simp only [Exit.jump]
        show bodyPost Try.prog Try.f28 _ Exit.ret _ _
        refine bodyPost_ret (v := cr (chgS g s a b)) (by rw [e.out]; simp [results, Try.results28, go_sem, cr, d2, d3]) rfl ⟨rfl, (by repeat (first | exact Below.refl _ _ | assumption | refine ba ?_ _ | refine Below.setCell ?_ (by simp; try omega) _))⟩
      · have e : chgS g s a b = ((wrap64 (g + a), wrap64 (s + b)), 0) := by rw [chgS, if_neg good.out, if_neg go2.out, if_pos (.inr hr)]
        replace e := Lib.hid e
        clear hr
        go_wp2
        simp only [Exit.jump]
        show bodyPost Try.prog Try.f28 _ Exit.ret _ _
        refine bodyPost_ret (v := cr (chgS g s a b)) (by rw [e.out]; simp [results, Try.results28, go_sem, cr, d2, d3]) rfl ⟨rfl, (by repeat (first | exact Below.refl _ _ | assumption | refine ba ?_ _ | refine Below.setCell ?_ (by simp; try omega) _))⟩
  · have go3 : ¬ (wrap64 (g + a) = 0 ∧ wrap64 (s + b) = 0) := fun h => h3 h.1
    replace go3 := Lib.hid go3
    go_wp2_with (go_at_call 24; go_in)
    refine (right_any _ _ _).mono ?_
    rintro e w2 ⟨rfl, hb⟩
    obtain ⟨d2, d3, i2, i3⟩ := box4 (b := w.heap.size + 1) hb (by simp; omega) (x := .int .i64 0) (y := .int .i64 0) (by simp [go_sem, z1, c2]) (by simp [go_sem, z1, c3]) (by simp [go_sem, z1, f2]) (by simp [go_sem, z1, f3])
    obtain ⟨d4, d5, i4, i5⟩ := box4 (b := w.heap.size + 1 + 1) hb (by simp; omega) (x := .int .i64 0) (y := .int .i64 0) (by simp [go_sem, z2, c4]) (by simp [go_sem, z2, c5]) (by simp [go_sem, z2, f4]) (by simp [go_sem, z2, f5])
    obtain ⟨d6, d7, i6, i7⟩ := box4 (b := w.heap.size + 1 + 1 + 1) hb (by simp; omega) (x := .int .i64 (wrap64 (g + a))) (y := .int .i64 (wrap64 (s + b))) (by simp [go_sem, z3, c6]) (by simp [go_sem, z3, c7]) (by simp [go_sem, z3, f6]) (by simp [go_sem, z3, f7])
    have hB2 : Below w.heap.size w w2 := Below.trans (by repeat (first | exact Below.refl _ _ | assumption | refine ba ?_ _ | refine Below.setCell ?_ (by simp; try omega) _)) (hb.mono (by simp; omega))
    have hz := hb.size
    simp only [World.size_alloc, World.size_setCell] at hz
    have y0 : w.heap.size < w2.heap.size := by omega
    have y1 : w.heap.size + 1 < w2.heap.size := by omega
    have y2 : w.heap.size + 1 + 1 < w2.heap.size := by omega
    have y3 : w.heap.size + 1 + 1 + 1 < w2.heap.size := by omega
    clear hb hz c0 c1 c2 c3 c4 c5 c6 c7 f0 f1 f2 f3 f4 f5 f6 f7 z0 z1 z2 z3 hB
    cases hr : rightB (wrap64 (g + a)) (wrap64 (s + b))
    · have e : chgS g s a b = ((0, 0), 130) := by rw [chgS, if_neg good.out, if_neg go2.out, if_neg (fun h => h.elim go3.out (fun h => by rw [hr] at h; cases h))]
      replace e := Lib.hid e
      clear hr
      go_wp2
      simp only [Exit.jump]
      show bodyPost Try.prog Try.f28 _ Exit.ret _ _
      refine bodyPost_ret (v := cr (chgS g s a b)) (by rw [e.out]; simp [results, Try.results28, go_sem, cr, d2, d3]) rfl ⟨rfl, (by repeat (first | exact Below.refl _ _ | assumption | refine ba ?_ _ | refine Below.setCell ?_ (by simp; try omega) _))⟩
    · have e : chgS g s a b = ((wrap64 (g + a), wrap64 (s + b)), 0) := by rw [chgS, if_neg good.out, if_neg go2.out, if_pos (.inr hr)]
      replace e := Lib.hid e
      clear hr
      go_wp2
      simp only [Exit.jump]
      show bodyPost Try.prog Try.f28 _ Exit.ret _ _
      refine bodyPost_ret (v := cr (chgS g s a b)) (by rw [e.out]; simp [results, Try.results28, go_sem, cr, d2, d3]) rfl ⟨rfl, (by repeat (first | exact Below.refl _ _ | assumption | refine ba ?_ _ | refine Below.setCell ?_ (by simp; try omega) _))⟩
end Go.Proofs.Ytbajhnmgimggfaa
