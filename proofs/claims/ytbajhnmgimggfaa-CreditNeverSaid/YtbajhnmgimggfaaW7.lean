/-
  Plain laws of credit: what the program computes is what the document says.
-/
import Derived.Test.YtbajhnmgimggfaaW6
namespace Go.Proofs.Ytbajhnmgimggfaa
open Go.RowKit Go.Shelf

theorem right_iff (g s : Int) : rightB g s = true ↔ (0 ≤ s ∧ s ≤ g ∧ g ≤ 1000000000000 ∧ g - s ≤ 65536) := by
  unfold rightB spentB grantedB leftB wrap64
  simp only [Bool.and_eq_true, decide_eq_true_eq]
  omega
theorem right_not (g s : Int) : rightB g s = false ↔ ¬ (0 ≤ s ∧ s ≤ g ∧ g ≤ 1000000000000 ∧ g - s ≤ 65536) := by
  rw [← right_iff]; simp
theorem left_right {g s : Int} (h : rightB g s = true) : leftS g s = g - s := by
  have := (right_iff g s).1 h
  rw [leftS, if_pos h, wrap64]; omega
theorem wr_id {n : Int} (h : -9223372036854775808 ≤ n ∧ n ≤ 9223372036854775807) : wrap64 n = n := by unfold wrap64; omega

/-- credit granted, in plain numbers -/
theorem chg_grant (g s n : Int) : chgS g s n 0 = rgrantS g s n := by
  unfold chgS rgrantS
  by_cases hr : rightB g s = true
  · have h := (right_iff g s).1 hr
    rw [left_right hr]
    by_cases hn : n < 0
    · rw [if_pos (.inr (.inl hn)), if_pos (.inr hn)]
    · have k1 : ¬ (rightB g s = false ∨ n < 0 ∨ (0 : Int) < 0) := by rw [hr]; simp; omega
      have k2 : ¬ (rightB g s = false ∨ n < 0) := by rw [hr]; simp; omega
      rw [if_neg k1, if_neg k2]
      have e1 : wrap64 (g - s) = g - s := wr_id (by omega)
      have e2 : wrap64 (65536 - (g - s)) = 65536 - (g - s) := wr_id (by omega)
      have e3 : wrap64 (1000000000000 - g) = 1000000000000 - g := wr_id (by omega)
      have e4 : wrap64 (s + 0) = s := by rw [Int.add_zero]; exact wr_id (by omega)
      rw [e1, e2, e3, e4]
      by_cases hb : 1000000000000 < n
      · rw [if_pos (.inl hb), if_pos (.inl (by omega))]
      · have e5 : wrap64 (g + n) = g + n := wr_id (by omega)
        rw [if_neg (by omega), e5]
        by_cases hk : 65536 - (g - s) < n ∨ 1000000000000 - g < n
        · rw [if_pos hk, if_neg]
          rintro (h' | h')
          · omega
          · rw [right_iff] at h'; omega
        · rw [if_neg hk, if_pos (.inr ((right_iff _ _).2 (by omega)))]
  · have hr' : rightB g s = false := by simpa using hr
    rw [if_pos (.inl hr'), if_pos (.inl hr')]
theorem chg_spend (g s n : Int) : chgS g s 0 n = rspendS g s n := by
  unfold chgS rspendS
  by_cases hr : rightB g s = true
  · have h := (right_iff g s).1 hr
    rw [left_right hr]
    by_cases hn : n < 0
    · rw [if_pos (.inr (.inr hn)), if_pos (.inr hn)]
    · have k1 : ¬ (rightB g s = false ∨ (0 : Int) < 0 ∨ n < 0) := by rw [hr]; simp; omega
      have k2 : ¬ (rightB g s = false ∨ n < 0) := by rw [hr]; simp; omega
      rw [if_neg k1, if_neg k2]
      have e1 : wrap64 (g - s) = g - s := wr_id (by omega)
      have e4 : wrap64 (g + 0) = g := by rw [Int.add_zero]; exact wr_id (by omega)
      rw [e1, e4]
      by_cases hb : g - s < n
      · rw [if_pos (.inr hb), if_pos hb]
      · have e5 : wrap64 (s + n) = s + n := wr_id (by omega)
        rw [if_neg (by omega), if_neg hb, e5, if_pos (.inr ((right_iff _ _).2 (by omega)))]
  · have hr' : rightB g s = false := by simpa using hr
    rw [if_pos (.inl hr'), if_pos (.inl hr')]

/-! ### a box of credit that nobody writes -/
def Box2 (W : World) (b : Nat) (x y : Value) : Prop := W.cell? ⟨b, 0, none⟩ = some x ∧ W.cell? ⟨b, 1, none⟩ = some y
theorem cell_lt {W : World} {b o : Nat} {x : Value} (h : W.cell? ⟨b, o, none⟩ = some x) : b < W.heap.size := by
  rcases Nat.lt_or_ge b W.heap.size with h' | h'
  · exact h'
  · simp [World.cell?, Array.getElem?_eq_none h'] at h
theorem Box2.below {W W' : World} {b : Nat} {x y : Value} (h : Box2 W b x y) (hb : Below W.heap.size W W') : Box2 W' b x y :=
  ⟨(hb.cell (p := ⟨b, 0, none⟩) (cell_lt h.1)).trans h.1, (hb.cell (p := ⟨b, 1, none⟩) (cell_lt h.1)).trans h.2⟩
theorem Box2.alloc {W : World} {b : Nat} {x y : Value} (h : Box2 W b x y) (o : Obj) : Box2 (W.alloc o) b x y :=
  h.below ((Below.refl _ _).alloc (Nat.le_refl _) o)
theorem Box2.step {W W' : World} {b : Nat} {x y : Value} {o : Obj} (h : Box2 W b x y) (hb : Below (W.alloc o).heap.size (W.alloc o) W') : Box2 W' b x y := (h.alloc o).below hb
theorem Box2.fresh {W W' : World} {x y : Value} {t : TypeId} (hb : Below (W.alloc (.cells #[x, y] t)).heap.size (W.alloc (.cells #[x, y] t)) W') : Box2 W' W.heap.size x y :=
  Box2.below (W := W.alloc (.cells #[x, y] t)) ⟨by simp [go_sem], by simp [go_sem]⟩ hb
theorem below_call {n : Nat} {w W W' : World} (hB : Below n w W) (hn : n ≤ W.heap.size) (hb : Below W.heap.size W W') : Below n w W' := hB.trans (hb.mono hn)
theorem bstep {w W W' : World} {o : Obj} (hB : Below w.heap.size w W) (hb : Below (W.alloc o).heap.size (W.alloc o) W') : Below w.heap.size w W' := (ba hB o).trans (hb.mono (ba hB o).size)
theorem bcall {w W W' : World} (hB : Below w.heap.size w W) (hb : Below W.heap.size W W') : Below w.heap.size w W' := hB.trans (hb.mono hB.size)
end Go.Proofs.Ytbajhnmgimggfaa
