/-
  The walk of the law CreditTurns.
-/
import Derived.Test.YtbajhnmgimggfaaW7
namespace Go.Proofs.Ytbajhnmgimggfaa
open Go.RowKit Go.Shelf

set_option maxHeartbeats 4000000 in
theorem turns_walk (g s n : Int) (w : World) : Calls Try.prog 4 #[.agg #[.int .i64 g, .int .i64 s], .int .i64 n] w fun e w' => e = .returned (.bool true) ∧ Below w.heap.size w w' := by
  have hB := Below.refl w.heap.size w
  go_enter Try.func4, Try.ntmps4
  go_wp2_with fail
  refine (shown_any _).mono ?_
  rintro e w1 ⟨rfl, hb⟩
  have bA := Box2.fresh hb
  replace hB := bstep hB hb
  clear hb
  have c0bA := bA.1
  have c1bA := bA.2
  have zbA := cell_lt bA.1
  go_wp2_with fail
  clear c0bA c1bA zbA
  refine (grant_any _ _ _ _).mono ?_
  rintro e w2 ⟨rfl, hb⟩
  replace bA := bA.below hb
  replace hB := bcall hB hb
  clear hb
  simp only [cr]
  have c0bA := bA.1
  have c1bA := bA.2
  have zbA := cell_lt bA.1
  go_wp2_with fail
  clear c0bA c1bA zbA
  refine (rgrant_any _ _ _ _).mono ?_
  rintro e w3 ⟨rfl, hb⟩
  replace bA := bA.step hb
  have bB := Box2.fresh hb
  replace hB := bstep hB hb
  clear hb
  rw [← chg_grant]
  simp only [cr]
  have c0bA := bA.1
  have c1bA := bA.2
  have zbA := cell_lt bA.1
  have c0bB := bB.1
  have c1bB := bB.2
  have zbB := cell_lt bB.1
  go_wp2_with fail
  clear c0bA c1bA zbA c0bB c1bB zbB
  refine (spend_any _ _ _ _).mono ?_
  rintro e w4 ⟨rfl, hb⟩
  replace bA := bA.step hb
  replace bB := bB.step hb
  have bC := Box2.fresh hb
  replace hB := bstep hB hb
  clear hb
  simp only [cr]
  have c0bA := bA.1
  have c1bA := bA.2
  have zbA := cell_lt bA.1
  have c0bB := bB.1
  have c1bB := bB.2
  have zbB := cell_lt bB.1
  have c0bC := bC.1
  have c1bC := bC.2
  have zbC := cell_lt bC.1
  go_wp2_with fail
  clear c0bA c1bA zbA c0bB c1bB zbB c0bC c1bC zbC
  refine (rspend_any _ _ _ _).mono ?_
  rintro e w5 ⟨rfl, hb⟩
  replace bA := bA.step hb
  replace bB := bB.step hb
  replace bC := bC.step hb
  have bD := Box2.fresh hb
  replace hB := bstep hB hb
  clear hb
  rw [← chg_spend]
  simp only [cr]
  have c0bA := bA.1
  have c1bA := bA.2
  have zbA := cell_lt bA.1
  have c0bB := bB.1
  have c1bB := bB.2
  have zbB := cell_lt bB.1
  have c0bC := bC.1
  have c1bC := bC.2
  have zbC := cell_lt bC.1
  have c0bD := bD.1
  have c1bD := bD.2
  have zbD := cell_lt bD.1
  go_wp2
  go_ret
  exact ⟨rfl, (by repeat (first | exact Below.refl _ _ | assumption | refine ba ?_ _ | refine Below.setCell ?_ (by simp; try omega) _))⟩
end Go.Proofs.Ytbajhnmgimggfaa
