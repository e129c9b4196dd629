/-
  The walk of the law CreditParts.
-/
import Derived.Test.YtbajhnmgimggfaaNothing
namespace Go.Proofs.Ytbajhnmgimggfaa
open Go.RowKit Go.Shelf

theorem spend_ok {g s n : Int} (h : 0 ≤ s ∧ s ≤ g ∧ g ≤ 1000000000000 ∧ g - s ≤ 65536) (hn : 0 ≤ n) : chgS g s 0 n = if g - s < n then ((0, 0), 130) else ((g, s + n), 0) := by
  have hr := (right_iff g s).2 h
  rw [chg_spend, rspendS, left_right hr, if_neg (by rw [hr]; simp; omega)]
  by_cases hl : g - s < n
  · rw [if_pos hl, if_pos hl]
  · rw [if_neg hl, if_neg hl, wr_id (by omega)]
theorem grant_ok {g s n : Int} (h : 0 ≤ s ∧ s ≤ g ∧ g ≤ 1000000000000 ∧ g - s ≤ 65536) (hn : 0 ≤ n) : chgS g s n 0 = if 65536 - (g - s) < n ∨ 1000000000000 - g < n then ((0, 0), 130) else ((g + n, s), 0) := by
  have hr := (right_iff g s).2 h
  have e1 : wrap64 (65536 - (g - s)) = 65536 - (g - s) := wr_id (by omega)
  have e2 : wrap64 (1000000000000 - g) = 1000000000000 - g := wr_id (by omega)
  rw [chg_grant, rgrantS, left_right hr, if_neg (by rw [hr]; simp; omega), e1, e2]
  by_cases hl : 65536 - (g - s) < n ∨ 1000000000000 - g < n
  · rw [if_pos hl, if_pos hl]
  · rw [if_neg hl, if_neg hl, wr_id (by omega)]
theorem chg_bad {g s a b : Int} (h : rightB g s = false) : chgS g s a b = ((0, 0), 2) := by unfold chgS; rw [if_pos (.inl h)]

/-- at once, or in parts -/
def PartsC (ec fc gc ea eb ga gb : Int) : Prop := (ec = 2 ∧ fc = 2) ∨ (ec = 130 ∧ fc = 130) ∨ (ec = 130 ∧ fc = 0 ∧ gc = 130) ∨ (ec = 0 ∧ fc = 0 ∧ gc = 0 ∧ ga = ea ∧ gb = eb)
def PartsCase (E F G : (Int × Int) × Int) : Prop := PartsC E.2 F.2 G.2 E.1.1 E.1.2 G.1.1 G.1.2
theorem spend_parts {g s a b : Int} (ha : 0 ≤ a) (hb : 0 ≤ b) : PartsCase (chgS g s 0 (a + b)) (chgS g s 0 a) (chgS (chgS g s 0 a).1.1 (chgS g s 0 a).1.2 0 b) := by
  unfold PartsCase PartsC
  cases hr : rightB g s
  · rw [chg_bad hr, chg_bad hr]; exact .inl ⟨rfl, rfl⟩
  · have h := (right_iff g s).1 hr
    rw [spend_ok h (by omega : 0 ≤ a + b), spend_ok h ha]
    by_cases h1 : g - s < a
    · rw [if_pos (by omega), if_pos h1]; exact .inr (.inl ⟨rfl, rfl⟩)
    · rw [if_neg h1]
      simp only []
      rw [spend_ok (n := b) (by omega) hb]
      by_cases h2 : g - s < a + b
      · rw [if_pos h2, if_pos (by omega)]; exact .inr (.inr (.inl (by simp)))
      · rw [if_neg h2, if_neg (by omega)]; exact .inr (.inr (.inr (by simp; omega)))
theorem grant_parts {g s a b : Int} (ha : 0 ≤ a) (hb : 0 ≤ b) : PartsCase (chgS g s (a + b) 0) (chgS g s a 0) (chgS (chgS g s a 0).1.1 (chgS g s a 0).1.2 b 0) := by
  unfold PartsCase PartsC
  cases hr : rightB g s
  · rw [chg_bad hr, chg_bad hr]; exact .inl ⟨rfl, rfl⟩
  · have h := (right_iff g s).1 hr
    rw [grant_ok h (by omega : 0 ≤ a + b), grant_ok h ha]
    by_cases h1 : 65536 - (g - s) < a ∨ 1000000000000 - g < a
    · rw [if_pos (by omega), if_pos h1]; exact .inr (.inl ⟨rfl, rfl⟩)
    · rw [if_neg h1]
      simp only []
      rw [grant_ok (n := b) (by omega) hb]
      by_cases h2 : 65536 - (g - s) < a + b ∨ 1000000000000 - g < a + b
      · rw [if_pos h2, if_pos (by omega)]; exact .inr (.inr (.inl (by simp)))
      · rw [if_neg h2, if_neg (by omega)]; exact .inr (.inr (.inr (by simp; omega)))

set_option maxRecDepth 100000 in
set_option maxHeartbeats 8000000 in
theorem parts_in (g s a b : Int) (k1 : ¬ a < 0) (k2 : ¬ b < 0) (k3 : ¬ 1000000 < a) (k4 : ¬ 1000000 < b) (w : World) : Calls Try.prog 5 #[.agg #[.int .i64 g, .int .i64 s], .int .i64 a, .int .i64 b] w fun e w' => e = .returned (.bool true) ∧ Below w.heap.size w w' := by
  have hB := Below.refl w.heap.size w
  have hw : IntKind.i64.wrap (a + b) = a + b := IntWalk.i64_in _ (by omega)
  have hS := Lib.hid (spend_parts (g := g) (s := s) (a := a) (b := b) (by omega) (by omega))
  have hG := Lib.hid (grant_parts (g := g) (s := s) (a := a) (b := b) (by omega) (by omega))
  go_enter Try.func5, Try.ntmps5
  go_wp2_with fail
  refine (shown_any _).mono ?_
  rintro e w1 ⟨rfl, hb⟩
  have bA := Box2.fresh hb
  replace hB := bstep hB hb
  clear hb
  have c0bA := bA.1
  have c1bA := bA.2
  have zbA := cell_lt bA.1
  go_wp2_with fail
  clear c0bA c1bA zbA
  refine (spend_any _ _ _ _).mono ?_
  rintro e w2 ⟨rfl, hb⟩
  replace bA := bA.below hb
  replace hB := bcall hB hb
  clear hb
  simp only [cr]
  clear k1 k2 k3 k4
  have c0bA := bA.1
  have c1bA := bA.2
  have zbA := cell_lt bA.1
  go_wp2_with fail
  clear c0bA c1bA zbA
  refine (spend_any _ _ _ _).mono ?_
  rintro e w3 ⟨rfl, hb⟩
  replace bA := bA.step hb
  have b8 := Box2.fresh hb
  replace hB := bstep hB hb
  clear hb
  simp only [cr]
  have c0bA := bA.1
  have c1bA := bA.2
  have zbA := cell_lt bA.1
  have c0b8 := b8.1
  have c1b8 := b8.2
  have zb8 := cell_lt b8.1
  go_wp2_with fail
  clear c0bA c1bA zbA c0b8 c1b8 zb8
  refine (spend_any _ _ _ _).mono ?_
  rintro e w4 ⟨rfl, hb⟩
  replace bA := bA.step hb
  replace b8 := b8.step hb
  have b10 := Box2.fresh hb
  replace hB := bstep hB hb
  clear hb
  simp only [cr]
  have c0bA := bA.1
  have c1bA := bA.2
  have zbA := cell_lt bA.1
  have c0b8 := b8.1
  have c1b8 := b8.2
  have zb8 := cell_lt b8.1
  have c0b10 := b10.1
  have c1b10 := b10.2
  have zb10 := cell_lt b10.1
  go_wp2_with fail
  clear c0bA c1bA zbA c0b8 c1b8 zb8 c0b10 c1b10 zb10
  refine (grant_any _ _ _ _).mono ?_
  rintro e w5 ⟨rfl, hb⟩
  replace bA := bA.step hb
  replace b8 := b8.step hb
  replace b10 := b10.step hb
  have b12 := Box2.fresh hb
  replace hB := bstep hB hb
  clear hb
  simp only [cr]
  have c0bA := bA.1
  have c1bA := bA.2
  have zbA := cell_lt bA.1
  have c0b8 := b8.1
  have c1b8 := b8.2
  have zb8 := cell_lt b8.1
  have c0b10 := b10.1
  have c1b10 := b10.2
  have zb10 := cell_lt b10.1
  have c0b12 := b12.1
  have c1b12 := b12.2
  have zb12 := cell_lt b12.1
  go_wp2_with fail
  clear c0bA c1bA zbA c0b8 c1b8 zb8 c0b10 c1b10 zb10 c0b12 c1b12 zb12
  refine (grant_any _ _ _ _).mono ?_
  rintro e w6 ⟨rfl, hb⟩
  replace bA := bA.step hb
  replace b8 := b8.step hb
  replace b10 := b10.step hb
  replace b12 := b12.step hb
  have b14 := Box2.fresh hb
  replace hB := bstep hB hb
  clear hb
  simp only [cr]
  have c0bA := bA.1
  have c1bA := bA.2
  have zbA := cell_lt bA.1
  have c0b8 := b8.1
  have c1b8 := b8.2
  have zb8 := cell_lt b8.1
  have c0b10 := b10.1
  have c1b10 := b10.2
  have zb10 := cell_lt b10.1
  have c0b12 := b12.1
  have c1b12 := b12.2
  have zb12 := cell_lt b12.1
  have c0b14 := b14.1
  have c1b14 := b14.2
  have zb14 := cell_lt b14.1
  go_wp2_with fail
  clear c0bA c1bA zbA c0b8 c1b8 zb8 c0b10 c1b10 zb10 c0b12 c1b12 zb12 c0b14 c1b14 zb14
  refine (grant_any _ _ _ _).mono ?_
  rintro e w7 ⟨rfl, hb⟩
  replace bA := bA.step hb
  replace b8 := b8.step hb
  replace b10 := b10.step hb
  replace b12 := b12.step hb
  replace b14 := b14.step hb
  have b16 := Box2.fresh hb
  replace hB := bstep hB hb
  clear hb
  simp only [cr]
  have c0bA := bA.1
  have c1bA := bA.2
  have zbA := cell_lt bA.1
  have c0b8 := b8.1
  have c1b8 := b8.2
  have zb8 := cell_lt b8.1
  have c0b10 := b10.1
  have c1b10 := b10.2
  have zb10 := cell_lt b10.1
  have c0b12 := b12.1
  have c1b12 := b12.2
  have zb12 := cell_lt b12.1
  have c0b14 := b14.1
  have c1b14 := b14.2
  have zb14 := cell_lt b14.1
  have c0b16 := b16.1
  have c1b16 := b16.2
  have zb16 := cell_lt b16.1
  go_upto_region 10 with fail
  clear c0bA c1bA zbA c0b8 c1b8 zb8 c0b10 c1b10 zb10 c0b12 c1b12 zb12 c0b14 c1b14 zb14 c0b16 c1b16 zb16
  replace b8 := b8.alloc (.cells #[.int .i64 (chgS (chgS g s a 0).1.1 (chgS g s a 0).1.2 b 0).1.1, .int .i64 (chgS (chgS g s a 0).1.1 (chgS g s a 0).1.2 b 0).1.2] 23)
  replace b12 := b12.alloc (.cells #[.int .i64 (chgS (chgS g s a 0).1.1 (chgS g s a 0).1.2 b 0).1.1, .int .i64 (chgS (chgS g s a 0).1.1 (chgS g s a 0).1.2 b 0).1.2] 23)
  replace b14 := b14.alloc (.cells #[.int .i64 (chgS (chgS g s a 0).1.1 (chgS g s a 0).1.2 b 0).1.1, .int .i64 (chgS (chgS g s a 0).1.1 (chgS g s a 0).1.2 b 0).1.2] 23)
  have b18 := Box2.fresh (W := w7) (t := 23) (x := .int .i64 (chgS (chgS g s a 0).1.1 (chgS g s a 0).1.2 b 0).1.1) (y := .int .i64 (chgS (chgS g s a 0).1.1 (chgS g s a 0).1.2 b 0).1.2) (Below.refl _ _)
  replace hB := ba hB (.cells #[.int .i64 (chgS (chgS g s a 0).1.1 (chgS g s a 0).1.2 b 0).1.1, .int .i64 (chgS (chgS g s a 0).1.1 (chgS g s a 0).1.2 b 0).1.2] 23)
  clear bA b10 b16 hw
  generalize w7.heap.size = c18 at b18 ⊢
  generalize World.alloc w7 _ = w9 at b8 b12 b14 b18 hB ⊢
  obtain ⟨x80, x81⟩ := b8
  obtain ⟨x120, x121⟩ := b12
  obtain ⟨x140, x141⟩ := b14
  obtain ⟨x180, x181⟩ := b18
  replace hS : Hid (PartsC _ _ _ _ _ _ _) := hS
  replace hG : Hid (PartsC _ _ _ _ _ _ _) := hG
  generalize (chgS (chgS g s 0 a).1.1 (chgS g s 0 a).1.2 0 b).2 = gc at *
  generalize (chgS (chgS g s 0 a).1.1 (chgS g s 0 a).1.2 0 b).1.1 = ga at *
  generalize (chgS (chgS g s 0 a).1.1 (chgS g s 0 a).1.2 0 b).1.2 = gb at *
  generalize (chgS (chgS g s a 0).1.1 (chgS g s a 0).1.2 b 0).2 = gc2 at *
  generalize (chgS (chgS g s a 0).1.1 (chgS g s a 0).1.2 b 0).1.1 = ga2 at *
  generalize (chgS (chgS g s a 0).1.1 (chgS g s a 0).1.2 b 0).1.2 = gb2 at *
  generalize (chgS g s 0 (a + b)).2 = ec at *
  generalize (chgS g s 0 (a + b)).1.1 = ea at *
  generalize (chgS g s 0 (a + b)).1.2 = eb at *
  generalize (chgS g s (a + b) 0).2 = ec2 at *
  generalize (chgS g s (a + b) 0).1.1 = ea2 at *
  generalize (chgS g s (a + b) 0).1.2 = eb2 at *
  generalize (chgS g s 0 a).2 = fc at *
  generalize (chgS g s a 0).2 = fc2 at *
  go_cut [20] (fun s wx => s = .bool true ∧ wx = w9)
  case first =>
    rcases (hS.out) with ⟨rfl, rfl⟩ | ⟨rfl, rfl⟩ | ⟨rfl, rfl, rfl⟩ | ⟨rfl, rfl, rfl, rfl, rfl⟩
    all_goals (clear hS; go_wp2_with fail; go_meet; exact ⟨by simp, rfl⟩)
  case rest =>
  obtain ⟨rfl, rfl⟩ := hcut
  go_upto_region 11 with fail
  go_cut [21] (fun s wx => s = .bool true ∧ wx = wc)
  case first =>
    rcases hG.out with ⟨rfl, rfl⟩ | ⟨rfl, rfl⟩ | ⟨rfl, rfl, rfl⟩ | ⟨rfl, rfl, rfl, rfl, rfl⟩
    all_goals (clear hG; go_wp2_with fail; go_meet; exact ⟨by simp, rfl⟩)
  case rest =>
  obtain ⟨rfl, rfl⟩ := hcut
  go_wp2
  go_ret
  exact ⟨rfl, by assumption⟩

set_option maxRecDepth 100000 in
set_option maxHeartbeats 8000000 in
theorem parts_walk (g s a b : Int) (w : World) : Calls Try.prog 5 #[.agg #[.int .i64 g, .int .i64 s], .int .i64 a, .int .i64 b] w fun e w' => e = .returned (.bool true) ∧ Below w.heap.size w w' := by
  by_cases k1 : a < 0
  · have hB := Below.refl w.heap.size w
    go_enter Try.func5, Try.ntmps5
    go_wp2_with fail
    refine (shown_any _).mono ?_
    rintro e w1 ⟨rfl, hb⟩
    replace hB := bstep hB hb
    go_wp2
    go_ret
    exact ⟨rfl, by assumption⟩
  by_cases k2 : b < 0
  · have hB := Below.refl w.heap.size w
    go_enter Try.func5, Try.ntmps5
    go_wp2_with fail
    refine (shown_any _).mono ?_
    rintro e w1 ⟨rfl, hb⟩
    replace hB := bstep hB hb
    go_wp2
    go_ret
    exact ⟨rfl, by assumption⟩
  by_cases k3 : 1000000 < a
  · have hB := Below.refl w.heap.size w
    go_enter Try.func5, Try.ntmps5
    go_wp2_with fail
    refine (shown_any _).mono ?_
    rintro e w1 ⟨rfl, hb⟩
    replace hB := bstep hB hb
    go_wp2
    go_ret
    exact ⟨rfl, by assumption⟩
  by_cases k4 : 1000000 < b
  · have hB := Below.refl w.heap.size w
    go_enter Try.func5, Try.ntmps5
    go_wp2_with fail
    refine (shown_any _).mono ?_
    rintro e w1 ⟨rfl, hb⟩
    replace hB := bstep hB hb
    go_wp2
    go_ret
    exact ⟨rfl, by assumption⟩
  exact parts_in g s a b k1 k2 k3 k4 w
end Go.Proofs.Ytbajhnmgimggfaa
