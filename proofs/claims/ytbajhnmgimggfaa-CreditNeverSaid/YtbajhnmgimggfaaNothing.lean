/-
  The walk of the law CreditNothing.
-/
import Derived.Test.YtbajhnmgimggfaaW7
import Derived.Deep.RegionHeld3
import Derived.IntWalk
import Derived.Deep.DeepCutAuto
namespace Go.Proofs.Ytbajhnmgimggfaa
open Go.RowKit Go.Shelf

def BoxI (W : World) (b : Nat) (p : Int × Int) : Prop := W.cell? ⟨b, 0, none⟩ = some (.int .i64 p.1) ∧ W.cell? ⟨b, 1, none⟩ = some (.int .i64 p.2)
theorem BoxI.below {W W' : World} {b : Nat} {p : Int × Int} (h : BoxI W b p) (hb : Below W.heap.size W W') : BoxI W' b p := Box2.below h hb
theorem BoxI.lt {W : World} {b : Nat} {p : Int × Int} (h : BoxI W b p) : b < W.heap.size := cell_lt h.1

/-- what a region that draws must leave alone -/
def Hd (w : World) (bs : List (Nat × (Int × Int))) (W : World) : Prop := Below w.heap.size w W ∧ ∀ x ∈ bs, BoxI W x.1 x.2
def Sx (w : World) (a : Nat) (r : Int × Int) (bs : List (Nat × (Int × Int))) (W : World) : Prop := (W.cell? ⟨a, 0, none⟩ = some (.int .i64 r.1) ∧ W.cell? ⟨a, 1, none⟩ = some (.int .i64 r.2)) ∧ Hd w bs W
def Slt (w : World) (a : Nat) (bs : List (Nat × (Int × Int))) (n : Nat) : Prop := a < n ∧ w.heap.size ≤ n ∧ ∀ x ∈ bs, x.1 < n
section
variable {w W W' : World} {a : Nat} {r : Int × Int} {bs : List (Nat × (Int × Int))}
theorem Sx.lt (h : Sx w a r bs W) : Slt w a bs W.heap.size := ⟨BoxI.lt h.1, h.2.1.size, fun x hx => BoxI.lt (h.2.2 x hx)⟩
theorem Sx.below (h : Sx w a r bs W) (hb : Below W.heap.size W W') : Sx w a r bs W' := ⟨BoxI.below h.1 hb, bcall h.2.1 hb, fun x hx => (h.2.2 x hx).below hb⟩
theorem Sx.bel (hb : Below W.heap.size W W') (h : Sx w a r bs W) : Sx w a r bs W' := h.below hb
theorem Sx.drew (h : Sx w a r bs W) : Sx w a r bs W.drew := h.below (Below.refl _ _).drew
theorem Sx.alloc (h : Sx w a r bs W) (o : Obj) : Sx w a r bs (W.alloc o) := h.below ((Below.refl _ _).alloc (Nat.le_refl _) o)
theorem Sx.set {d o : Nat} {v : Value} {n : Nat} (h : Sx w a r bs W) (lt : Slt w a bs n) (hd : n ≤ d) : Sx w a r bs (W.setCell ⟨d, o, none⟩ v) := by
  obtain ⟨⟨a1, a2⟩, hB, hbs⟩ := h
  obtain ⟨l1, l2, l3⟩ := lt
  have k : ∀ (x y : Nat), x < n → (W.setCell ⟨d, o, none⟩ v).cell? ⟨x, y, none⟩ = W.cell? ⟨x, y, none⟩ := fun x y hx => World.cell?_setCell_far W _ _ _ (by simp; omega)
  exact ⟨⟨(k _ _ l1).trans a1, (k _ _ l1).trans a2⟩, hB.setCell (Nat.le_trans l2 hd) _, fun x hx => ⟨(k _ _ (l3 x hx)).trans (hbs x hx).1, (k _ _ (l3 x hx)).trans (hbs x hx).2⟩⟩
theorem Sx.realloc {z o : Obj} {n : Nat} (h : Sx w a r bs (W.alloc z)) (lt : Slt w a bs n) (hn : n ≤ W.heap.size) : Sx w a r bs (W.alloc o) := by
  obtain ⟨⟨a1, a2⟩, hB, hbs⟩ := h
  obtain ⟨l1, l2, l3⟩ := lt
  have k : ∀ (x y : Nat), x < n → (W.alloc o).cell? ⟨x, y, none⟩ = (W.alloc z).cell? ⟨x, y, none⟩ := fun x y hx =>
    (((Below.refl W.heap.size W).alloc (Nat.le_refl _) o).cell (p := ⟨x, y, none⟩) (by simp; omega)).trans (((Below.refl W.heap.size W).alloc (Nat.le_refl _) z).cell (p := ⟨x, y, none⟩) (by simp; omega)).symm
  refine ⟨⟨(k _ _ l1).trans a1, (k _ _ l1).trans a2⟩, ⟨hB.os, hB.tape, hB.output, by have := hB.size; simpa using this, fun x hx => ?_⟩, fun x hx => ⟨(k _ _ (l3 x hx)).trans (hbs x hx).1, (k _ _ (l3 x hx)).trans (hbs x hx).2⟩⟩
  have e1 := ((Below.refl W.heap.size W).alloc (Nat.le_refl _) o).block x (by omega)
  have e2 := ((Below.refl W.heap.size W).alloc (Nat.le_refl _) z).block x (by omega)
  rw [e1, ← e2]; exact hB.block x hx
end
theorem undrew {n : Nat} {W W' : World} (h : Below n W.drew W') : Below n W W' := ⟨h.os, h.tape, h.output, h.size, h.block⟩
theorem box4f {W0 W1 : World} {x y : Value} {t : TypeId} (h : Below (W0.alloc (.cells #[x, y] t)).heap.size (W0.alloc (.cells #[x, y] t)) W1) :
    W1.cell? ⟨W0.heap.size, 0, none⟩ = some x ∧ W1.cell? ⟨W0.heap.size, 1, none⟩ = some y ∧ W1.frozen? ⟨W0.heap.size, 0, none⟩ = false ∧ W1.frozen? ⟨W0.heap.size, 1, none⟩ = false :=
  box4 h (by simp) (by simp [go_sem]) (by simp [go_sem]) (by simp [go_sem]) (by simp [go_sem])
theorem box4g {W W1 : World} {b : Nat} {x y : Value} (h : Below W.heap.size W W1) (h0 : W.cell? ⟨b, 0, none⟩ = some x) (h1 : W.cell? ⟨b, 1, none⟩ = some y) (h2 : W.frozen? ⟨b, 0, none⟩ = false) (h3 : W.frozen? ⟨b, 1, none⟩ = false) :
    W1.cell? ⟨b, 0, none⟩ = some x ∧ W1.cell? ⟨b, 1, none⟩ = some y ∧ W1.frozen? ⟨b, 0, none⟩ = false ∧ W1.frozen? ⟨b, 1, none⟩ = false := box4 h (cell_lt h0) h0 h1 h2 h3

theorem nothing_right {g s : Int} (hr : rightB g s = true) : chgS g s 0 0 = ((g, s), 0) ∧ chgS g s 0 (leftS g s) = ((g, g), 0) ∧ (chgS g s 0 (IntKind.i64.wrap (leftS g s + 1))).2 = 130 ∧ leftS g g = 0 := by
  have h := (right_iff g s).1 hr
  have hw : IntKind.i64.wrap (g - s + 1) = g - s + 1 := IntWalk.i64_in _ (by omega)
  have hrg : rightB g g = true := (right_iff g g).2 (by omega)
  rw [left_right hr, left_right hrg, hw]
  refine ⟨?_, ?_, ?_, by omega⟩
  · rw [chg_spend, rspendS, left_right hr, if_neg (by rw [hr]; simp), if_neg (by omega), Int.add_zero, wr_id (by omega)]
  · rw [chg_spend, rspendS, left_right hr, if_neg (by rw [hr]; simp; omega), if_neg (by omega), wr_id (by omega)]
    rw [show s + (g - s) = g by omega]
  · rw [chg_spend, rspendS, left_right hr, if_neg (by rw [hr]; simp; omega), if_pos (by omega)]
theorem nothing_wrong {g s : Int} (hr : rightB g s = false) : (chgS g s 0 0).2 = 2 ∧ (chgS g s 0 (leftS g s)).2 = 2 ∧ (chgS g s 0 (IntKind.i64.wrap (leftS g s + 1))).2 = 2 := by
  have h : ∀ a b, chgS g s a b = ((0, 0), 2) := fun a b => by unfold chgS; rw [if_pos (.inl hr)]
  rw [h, h, h]; exact ⟨rfl, rfl, rfl⟩

set_option maxRecDepth 100000 in
set_option maxHeartbeats 8000000 in
theorem nothing_walk (g s : Int) (w : World) : Calls Try.prog 8 #[.agg #[.int .i64 g, .int .i64 s]] w fun e w' => e = .returned (.bool true) ∧ Below w.heap.size w w' := by
  have hB := Below.refl w.heap.size w
  go_enter Try.func8, Try.ntmps8
  go_wp2_with fail
  refine (shown_any _).mono ?_
  rintro e w1 ⟨rfl, hb⟩
  have bA := Box2.fresh hb
  replace hB := bstep hB hb
  clear hb
  have c0bA := bA.1
  have c1bA := bA.2
  have zbA := cell_lt bA.1
  go_wp2_with fail
  clear c0bA c1bA zbA
  refine (grant_any _ _ _ _).mono ?_
  rintro e w2 ⟨rfl, hb⟩
  replace bA := bA.below hb
  replace hB := bcall hB hb
  clear hb
  simp only [cr]
  have c0bA := bA.1
  have c1bA := bA.2
  have zbA := cell_lt bA.1
  go_wp2_with fail
  clear c0bA c1bA zbA
  refine (spend_any _ _ _ _).mono ?_
  rintro e w3 ⟨rfl, hb⟩
  replace bA := bA.step hb
  have bB := Box2.fresh hb
  replace hB := bstep hB hb
  clear hb
  simp only [cr]
  have c0bA := bA.1
  have c1bA := bA.2
  have zbA := cell_lt bA.1
  have c0bB := bB.1
  have c1bB := bB.2
  have zbB := cell_lt bB.1
  go_upto_region 4 with fail
  clear c0bA c1bA zbA c0bB c1bB zbB
  replace bA := bA.alloc (.cells #[.int .i64 (chgS g s 0 0).1.1, .int .i64 (chgS g s 0 0).1.2] 23)
  replace bB := bB.alloc (.cells #[.int .i64 (chgS g s 0 0).1.1, .int .i64 (chgS g s 0 0).1.2] 23)
  have bC := Box2.fresh (W := w3) (t := 23) (x := .int .i64 (chgS g s 0 0).1.1) (y := .int .i64 (chgS g s 0 0).1.2) (Below.refl _ _)
  replace hB := ba hB (.cells #[.int .i64 (chgS g s 0 0).1.1, .int .i64 (chgS g s 0 0).1.2] 23)
  generalize hc : w3.heap.size = c at bC ⊢
  generalize w2.heap.size = b at bB ⊢
  generalize World.alloc w3 _ = w4 at bA bB bC hB ⊢
  clear hc
  have hS : Sx w w.heap.size (g, s) [(b, (chgS g s 0 0).1), (c, (chgS g s 0 0).1)] w4 := ⟨bA, hB, by simp only [List.forall_mem_cons]; exact ⟨bB, bC, by simp⟩⟩
  clear bA bB bC hB
  go_cut [8, 9] (fun s8 s9 wx => ∃ dn, s8 = .pointer (some ⟨dn, 0, none⟩) ∧ s9 = .int .i64 (chgS g s 0 (leftS g s)).2 ∧ Sx w w.heap.size (g, s) [(b, (chgS g s 0 0).1), (c, (chgS g s 0 0).1)] wx ∧ BoxI wx dn (chgS g s 0 (leftS g s)).1)
  case first =>
    have lt := hS.lt
    go_region_held3 (fun W => (W.cell? ⟨w.heap.size, 0, none⟩ = some (.int .i64 (g, s).1) ∧ W.cell? ⟨w.heap.size, 1, none⟩ = some (.int .i64 (g, s).2)) ∧ Hd w [(b, (chgS g s 0 0).1), (c, (chgS g s 0 0).1)] W)
      (first
        | exact Sx.drew (by assumption) | exact Sx.bel (w := w) (a := w.heap.size) (r := (g, s)) (bs := [(b, (chgS g s 0 0).1), (c, (chgS g s 0 0).1)]) (by assumption) (by assumption) | exact Sx.alloc (w := w) (a := w.heap.size) (r := (g, s)) (bs := [(b, (chgS g s 0 0).1), (c, (chgS g s 0 0).1)]) (by assumption) _
        | (refine Sx.realloc (w := w) (a := w.heap.size) (r := (g, s)) (bs := [(b, (chgS g s 0 0).1), (c, (chgS g s 0 0).1)]) (by assumption) lt ?_ <;> (first | omega | (simp; done) | (simp; omega)))
        | (refine Sx.set (Sx.set (w := w) (a := w.heap.size) (r := (g, s)) (bs := [(b, (chgS g s 0 0).1), (c, (chgS g s 0 0).1)]) (by assumption) lt ?_) lt ?_ <;> (first | omega | (simp; done) | (simp; omega))))
      (first
        | (go_at_call 15; refine (cleft_any _ _ (World.alloc _ _)).mono ?_; rintro e w' ⟨rfl, hb⟩; have hs : w4.heap.size ≤ w'.heap.size := (by have h := hb.size; simp at h ⊢; omega); have hbox := box4f hb; obtain ⟨k0, k1, f0, f1⟩ := hbox)
        | (go_at_call 15; refine (cleft_any _ _ (World.drew (World.alloc _ _))).mono ?_; rintro e w' ⟨rfl, hb⟩; have hs : w4.heap.size ≤ w'.heap.size := (by have h := hb.size; simp at h ⊢; omega); have hbox := box4f (undrew hb); obtain ⟨k0, k1, f0, f1⟩ := hbox)
        | (go_at_call 15; refine (cleft_any _ _ _).mono ?_; rintro e w' ⟨rfl, hb⟩; have hs : w4.heap.size ≤ w'.heap.size := (by have h := hb.size; simp at h ⊢; omega); have hbox := box4g (x := .int .i64 0) (y := .int .i64 0) hb (by assumption) (by assumption) (by assumption) (by assumption); obtain ⟨k0, k1, f0, f1⟩ := hbox)
        | (go_at_call 15; refine (cleft_any _ _ _).mono ?_; rintro e w' ⟨rfl, hb⟩; have hs : w4.heap.size ≤ w'.heap.size := (by have h := hb.size; simp at h ⊢; omega))
        | (go_at_call 21; refine (spend_any _ _ _ (World.alloc _ _)).mono ?_; rintro e w' ⟨rfl, hb⟩; have hs : w4.heap.size ≤ w'.heap.size := (by have h := hb.size; simp at h ⊢; omega); have hbox := box4f hb; obtain ⟨k0, k1, f0, f1⟩ := hbox; simp only [cr])
        | (go_at_call 21; refine (spend_any _ _ _ (World.drew (World.alloc _ _))).mono ?_; rintro e w' ⟨rfl, hb⟩; have hs : w4.heap.size ≤ w'.heap.size := (by have h := hb.size; simp at h ⊢; omega); have hbox := box4f (undrew hb); obtain ⟨k0, k1, f0, f1⟩ := hbox; simp only [cr])
        | (go_at_call 21; refine (spend_any _ _ _ _).mono ?_; rintro e w' ⟨rfl, hb⟩; have hs : w4.heap.size ≤ w'.heap.size := (by have h := hb.size; simp at h ⊢; omega); have hbox := box4g (x := .int .i64 0) (y := .int .i64 0) hb (by assumption) (by assumption) (by assumption) (by assumption); obtain ⟨k0, k1, f0, f1⟩ := hbox; simp only [cr])
        | (go_at_call 21; refine (spend_any _ _ _ _).mono ?_; rintro e w' ⟨rfl, hb⟩; have hs : w4.heap.size ≤ w'.heap.size := (by have h := hb.size; simp at h ⊢; omega); simp only [cr]))
    all_goals (go_wp2_with fail; go_meet; exact ⟨_, rfl, rfl, by assumption, by simp [go_sem, *], by simp [go_sem, *]⟩)
  case rest =>
  clear hS
  obtain ⟨d, rfl, rfl, hS, hd⟩ := hcut
  replace hS : Sx w w.heap.size (g, s) [(d, (chgS g s 0 (leftS g s)).1), (b, (chgS g s 0 0).1), (c, (chgS g s 0 0).1)] wc := ⟨hS.1, hS.2.1, by have h := hS.2.2; simp only [List.forall_mem_cons] at h ⊢; exact ⟨hd, h⟩⟩
  clear hd
  go_upto_region 5 with fail
  go_cut [10, 11] (fun s8 s9 wx => ∃ dn, s8 = .pointer (some ⟨dn, 0, none⟩) ∧ s9 = .int .i64 (chgS g s 0 (IntKind.i64.wrap (leftS g s + 1))).2 ∧ Sx w w.heap.size (g, s) [(d, (chgS g s 0 (leftS g s)).1), (b, (chgS g s 0 0).1), (c, (chgS g s 0 0).1)] wx ∧ BoxI wx dn (chgS g s 0 (IntKind.i64.wrap (leftS g s + 1))).1)
  case first =>
    have lt := hS.lt
    go_region_held3 (fun W => (W.cell? ⟨w.heap.size, 0, none⟩ = some (.int .i64 (g, s).1) ∧ W.cell? ⟨w.heap.size, 1, none⟩ = some (.int .i64 (g, s).2)) ∧ Hd w [(d, (chgS g s 0 (leftS g s)).1), (b, (chgS g s 0 0).1), (c, (chgS g s 0 0).1)] W)
      (first
        | exact Sx.drew (by assumption) | exact Sx.bel (w := w) (a := w.heap.size) (r := (g, s)) (bs := [(d, (chgS g s 0 (leftS g s)).1), (b, (chgS g s 0 0).1), (c, (chgS g s 0 0).1)]) (by assumption) (by assumption) | exact Sx.alloc (w := w) (a := w.heap.size) (r := (g, s)) (bs := [(d, (chgS g s 0 (leftS g s)).1), (b, (chgS g s 0 0).1), (c, (chgS g s 0 0).1)]) (by assumption) _
        | (refine Sx.realloc (w := w) (a := w.heap.size) (r := (g, s)) (bs := [(d, (chgS g s 0 (leftS g s)).1), (b, (chgS g s 0 0).1), (c, (chgS g s 0 0).1)]) (by assumption) lt ?_ <;> (first | omega | (simp; done) | (simp; omega)))
        | (refine Sx.set (Sx.set (w := w) (a := w.heap.size) (r := (g, s)) (bs := [(d, (chgS g s 0 (leftS g s)).1), (b, (chgS g s 0 0).1), (c, (chgS g s 0 0).1)]) (by assumption) lt ?_) lt ?_ <;> (first | omega | (simp; done) | (simp; omega))))
      (first
        | (go_at_call 15; refine (cleft_any _ _ (World.alloc _ _)).mono ?_; rintro e w' ⟨rfl, hb⟩; have hs : wc.heap.size ≤ w'.heap.size := (by have h := hb.size; simp at h ⊢; omega); have hbox := box4f hb; obtain ⟨k0, k1, f0, f1⟩ := hbox)
        | (go_at_call 15; refine (cleft_any _ _ (World.drew (World.alloc _ _))).mono ?_; rintro e w' ⟨rfl, hb⟩; have hs : wc.heap.size ≤ w'.heap.size := (by have h := hb.size; simp at h ⊢; omega); have hbox := box4f (undrew hb); obtain ⟨k0, k1, f0, f1⟩ := hbox)
        | (go_at_call 15; refine (cleft_any _ _ _).mono ?_; rintro e w' ⟨rfl, hb⟩; have hs : wc.heap.size ≤ w'.heap.size := (by have h := hb.size; simp at h ⊢; omega); have hbox := box4g (x := .int .i64 0) (y := .int .i64 0) hb (by assumption) (by assumption) (by assumption) (by assumption); obtain ⟨k0, k1, f0, f1⟩ := hbox)
        | (go_at_call 15; refine (cleft_any _ _ _).mono ?_; rintro e w' ⟨rfl, hb⟩; have hs : wc.heap.size ≤ w'.heap.size := (by have h := hb.size; simp at h ⊢; omega))
        | (go_at_call 21; refine (spend_any _ _ _ (World.alloc _ _)).mono ?_; rintro e w' ⟨rfl, hb⟩; have hs : wc.heap.size ≤ w'.heap.size := (by have h := hb.size; simp at h ⊢; omega); have hbox := box4f hb; obtain ⟨k0, k1, f0, f1⟩ := hbox; simp only [cr])
        | (go_at_call 21; refine (spend_any _ _ _ (World.drew (World.alloc _ _))).mono ?_; rintro e w' ⟨rfl, hb⟩; have hs : wc.heap.size ≤ w'.heap.size := (by have h := hb.size; simp at h ⊢; omega); have hbox := box4f (undrew hb); obtain ⟨k0, k1, f0, f1⟩ := hbox; simp only [cr])
        | (go_at_call 21; refine (spend_any _ _ _ _).mono ?_; rintro e w' ⟨rfl, hb⟩; have hs : wc.heap.size ≤ w'.heap.size := (by have h := hb.size; simp at h ⊢; omega); have hbox := box4g (x := .int .i64 0) (y := .int .i64 0) hb (by assumption) (by assumption) (by assumption) (by assumption); obtain ⟨k0, k1, f0, f1⟩ := hbox; simp only [cr])
        | (go_at_call 21; refine (spend_any _ _ _ _).mono ?_; rintro e w' ⟨rfl, hb⟩; have hs : wc.heap.size ≤ w'.heap.size := (by have h := hb.size; simp at h ⊢; omega); simp only [cr]))
    all_goals (go_wp2_with fail; go_meet; exact ⟨_, rfl, rfl, by assumption, by simp [go_sem, *], by simp [go_sem, *]⟩)
  case rest =>
  clear hS
  obtain ⟨d2, rfl, rfl, hS, hd2⟩ := hcut
  clear hd2
  obtain ⟨hA, hB, hbs⟩ := hS
  simp only [List.forall_mem_cons] at hbs
  obtain ⟨hd, hb0, hc0, -⟩ := hbs
  have hA : BoxI wc w.heap.size (g, s) := hA
  have a0 := hA.1
  have a1 := hA.2
  go_wp2_with fail
  refine (right_any _ _ _).mono ?_
  rintro e w5 ⟨rfl, hb⟩
  clear a0 a1
  replace hA := hA.below hb
  replace hd := hd.below hb
  replace hb0 := hb0.below hb
  replace hc0 := hc0.below hb
  replace hB := bcall hB hb
  clear hb
  rcases Bool.eq_false_or_eq_true (rightB g s) with hr | hr
  · obtain ⟨e0, e1, e2, e3⟩ := nothing_right hr
    rw [e1] at hd
    rw [e0] at hb0 hc0
    rw [hr, e0, e1, e2]
    have a0 := hA.1
    have a1 := hA.2
    have b0 := hb0.1
    have b1 := hb0.2
    have c0 := hc0.1
    have c1 := hc0.2
    have d0 := hd.1
    have d1 := hd.2
    clear e0 e1 e2 hr
    go_wp2_with fail
    refine (cleft_any _ _ _).mono ?_
    rintro e w6 ⟨rfl, hb⟩
    replace hB := bcall hB hb
    clear hb a0 a1 b0 b1 c0 c1 d0 d1 hA hb0 hc0 hd
    rw [e3]
    go_wp2
    go_ret
    exact ⟨by simp, by assumption⟩
  · obtain ⟨e0, e1, e2⟩ := nothing_wrong hr
    rw [hr, e0, e1, e2]
    go_wp2
    go_ret
    exact ⟨by simp, by assumption⟩
end Go.Proofs.Ytbajhnmgimggfaa
