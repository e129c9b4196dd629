/-
  The walk of the law CreditTells.
-/
import Derived.Test.YtbajhnmgimggfaaNothing
namespace Go.Proofs.Ytbajhnmgimggfaa
open Go.RowKit Go.Shelf

theorem Ints.call {W W' : World} {sv : Value} {zs : List I64} (h : Ints W.heap.size W sv zs) (hb : Below W.heap.size W W') : Ints W'.heap.size W' sv zs := (h.below hb).wide hb.size
theorem Ints.step {W W' : World} {o : Obj} {sv : Value} {zs : List I64} (h : Ints W.heap.size W sv zs) (hb : Below (W.alloc o).heap.size (W.alloc o) W') : Ints W'.heap.size W' sv zs :=
  (h.call ((Below.refl _ _).alloc (Nat.le_refl _) o)).call hb
def Cel (W : World) (b : Nat) (x y : Int) : Prop := W.cell? ⟨b, 0, none⟩ = some (.int .i64 x) ∧ W.cell? ⟨b, 1, none⟩ = some (.int .i64 y)
def Ty (w : World) (sv : Value) (zs : List I64) (W : World) : Prop := Below w.heap.size w W ∧ Ints W.heap.size W sv zs
def Sy (w : World) (a b c : Nat) (r p q : Int × Int) (sv : Value) (zs : List I64) (W : World) : Prop :=
  ((W.cell? ⟨a, 0, none⟩ = some (.int .i64 r.1) ∧ W.cell? ⟨a, 1, none⟩ = some (.int .i64 r.2)) ∧ (W.cell? ⟨b, 0, none⟩ = some (.int .i64 p.1) ∧ W.cell? ⟨b, 1, none⟩ = some (.int .i64 p.2)) ∧
    (W.cell? ⟨c, 0, none⟩ = some (.int .i64 q.1) ∧ W.cell? ⟨c, 1, none⟩ = some (.int .i64 q.2))) ∧ Ty w sv zs W
section
variable {w W W' : World} {a b c : Nat} {r p q : Int × Int} {sv : Value} {zs : List I64}
theorem Sy.bel (hb : Below W.heap.size W W') (h : Sy w a b c r p q sv zs W) : Sy w a b c r p q sv zs W' :=
  ⟨⟨BoxI.below h.1.1 hb, BoxI.below h.1.2.1 hb, BoxI.below h.1.2.2 hb⟩, bcall h.2.1 hb, h.2.2.call hb⟩
theorem Sy.drew (h : Sy w a b c r p q sv zs W) : Sy w a b c r p q sv zs W.drew := Sy.bel (Below.refl _ _).drew h
theorem Sy.ints (h : Sy w a b c r p q sv zs W) : Ints W.heap.size W sv zs := h.2.2
theorem Sy.base (h : Sy w a b c r p q sv zs W) : Below w.heap.size w W := h.2.1
end

set_option maxRecDepth 100000 in
set_option maxHeartbeats 8000000 in
theorem tells_walk (g s n : Int) (a : Option Addr) (len cap : Nat) (zs : List I64) (w : World) (hlen : len ≤ cap) (hz : zs.length ≤ 9223372036854775807) (hI : Ints w.heap.size w (.slice a len cap) zs) :
    Calls Try.prog 3 #[.agg #[.int .i64 g, .int .i64 s], .int .i64 n, .slice a len cap] w fun e w' => e = .returned (.bool true) ∧ Below w.heap.size w w' := by
  have HI := Lib.hid hI
  have HL := Lib.hid hlen
  have HZ := Lib.hid hz
  clear hI hlen hz
  have hr20 : (zs.take 20).length * 8 ≤ 140737488351232 := by simp; omega
  replace hr20 := Lib.hid hr20
  have hB := Below.refl w.heap.size w
  go_enter Try.func3, Try.ntmps3
  go_wp2_with fail
  refine (shown_any _).mono ?_
  rintro e w1 ⟨rfl, hb⟩
  have bA := Box2.fresh hb
  replace hB := bstep hB hb
  clear hb
  have c0bA := bA.1
  have c1bA := bA.2
  have zbA := cell_lt bA.1
  go_wp2_with fail
  clear c0bA c1bA zbA
  refine (few_any _ _ _ zs _ HL.out HZ.out (Ints.wide hB.size (Ints.below hB HI.out))).mono ?_
  rintro e w2 ⟨⟨len', cap', rfl, hJ⟩, rfl⟩
  have c0bA := bA.1
  have c1bA := bA.2
  have zbA := cell_lt bA.1
  go_wp2_with fail
  clear c0bA c1bA zbA
  refine (new_any _ _).mono ?_
  rintro e w3 ⟨rfl, hb⟩
  replace bA := bA.below hb
  replace hJ := hJ.call hb
  replace hB := bcall hB hb
  clear hb
  simp only [cr]
  have c0bA := bA.1
  have c1bA := bA.2
  have zbA := cell_lt bA.1
  go_wp2_with fail
  clear c0bA c1bA zbA
  refine (rnew_any _ _).mono ?_
  rintro e w4 ⟨rfl, hb⟩
  replace bA := bA.step hb
  replace hJ := hJ.step hb
  have b8 := Box2.fresh hb
  replace hB := bstep hB hb
  clear hb
  simp only [cr]
  have c0bA := bA.1
  have c1bA := bA.2
  have zbA := cell_lt bA.1
  have c0b8 := b8.1
  have c1b8 := b8.2
  have zb8 := cell_lt b8.1
  go_upto_region 5 with fail
  clear c0bA c1bA zbA c0b8 c1b8 zb8
  replace bA := bA.alloc (.cells #[.int .i64 (newS n).1.1, .int .i64 (newS n).1.2] 23)
  replace b8 := b8.alloc (.cells #[.int .i64 (newS n).1.1, .int .i64 (newS n).1.2] 23)
  have b10 := Box2.fresh (W := w4) (t := 23) (x := .int .i64 (newS n).1.1) (y := .int .i64 (newS n).1.2) (Below.refl _ _)
  replace hB := ba hB (.cells #[.int .i64 (newS n).1.1, .int .i64 (newS n).1.2] 23)
  replace hJ := hJ.call ((Below.refl _ _).alloc (Nat.le_refl _) (.cells #[.int .i64 (newS n).1.1, .int .i64 (newS n).1.2] 23))
  generalize w4.heap.size = c10 at b10 ⊢
  generalize w3.heap.size = c8 at b8 ⊢
  generalize World.alloc w4 _ = w9 at bA b8 b10 hB hJ ⊢
  have hS : Sy w w.heap.size c8 c10 (g, s) (newS n).1 (newS n).1 (.slice a len' cap') (zs.take 20) w9 := ⟨⟨bA, b8, b10⟩, hB, hJ⟩
  clear bA b8 b10 hB hJ
  go_region_held3 (fun W => ((W.cell? ⟨w.heap.size, 0, none⟩ = some (.int .i64 g) ∧ W.cell? ⟨w.heap.size, 1, none⟩ = some (.int .i64 s)) ∧ (W.cell? ⟨c8, 0, none⟩ = some (.int .i64 (newS n).1.1) ∧ W.cell? ⟨c8, 1, none⟩ = some (.int .i64 (newS n).1.2)) ∧ (W.cell? ⟨c10, 0, none⟩ = some (.int .i64 (newS n).1.1) ∧ W.cell? ⟨c10, 1, none⟩ = some (.int .i64 (newS n).1.2))) ∧ Ty w (.slice a len' cap') (zs.take 20) W)
    (first
      | exact Sy.drew (by assumption)
      | exact Sy.bel (w := w) (a := w.heap.size) (b := c8) (c := c10) (r := (g, s)) (p := (newS n).1) (q := (newS n).1) (sv := .slice a len' cap') (zs := zs.take 20) (by assumption) (by assumption))
    (first
      | (go_at_call 13; refine (right_any _ _ _).mono ?_; rintro e w' ⟨rfl, hb⟩)
      | (go_at_call 14; refine (rright_any _ _ _).mono ?_; rintro e w' ⟨rfl, hb⟩)
      | (go_at_call 15; refine (cleft_any _ _ _).mono ?_; rintro e w' ⟨rfl, hb⟩)
      | (go_at_call 16; refine (rleft_any _ _ _).mono ?_; rintro e w' ⟨rfl, hb⟩)
      | (go_at_call 17; refine (most_any _ _ _ _ _ (zs.take 20) hr20.out _ (Sy.ints (w := w) (a := w.heap.size) (b := c8) (c := c10) (r := (g, s)) (p := (newS n).1) (q := (newS n).1) (sv := .slice a len' cap') (zs := zs.take 20) (by assumption))).mono ?_; rintro e w' ⟨rfl, hb⟩)
      | (go_at_call 18; refine (rmost_any _ _ _ _ _ (zs.take 20) hr20.out _ (Sy.ints (w := w) (a := w.heap.size) (b := c8) (c := c10) (r := (g, s)) (p := (newS n).1) (q := (newS n).1) (sv := .slice a len' cap') (zs := zs.take 20) (by assumption))).mono ?_; rintro e w' ⟨rfl, hb⟩))
  all_goals (have hB := Sy.base (w := w) (a := w.heap.size) (b := c8) (c := c10) (r := (g, s)) (p := (newS n).1) (q := (newS n).1) (sv := .slice a len' cap') (zs := zs.take 20) (by assumption); go_wp2; go_ret; exact ⟨by simp, by assumption⟩)
end Go.Proofs.Ytbajhnmgimggfaa
