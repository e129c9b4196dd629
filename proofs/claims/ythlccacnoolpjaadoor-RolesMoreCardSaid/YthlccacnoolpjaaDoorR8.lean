/-
  Roles: the document's May and Verbs; two rows of numbers held against each other.
-/
import Derived.Test.YthlccacnoolpjaaDoorR7
namespace Go.Proofs.YthlccacnoolpjaaDoor
open Go.RowKit Go.Shelf

theorem mayS_table (r v : Int) : mayS r v = table.any (fun x => mayV r x && (x.n == v)) := by
  unfold mayS verbsS
  rw [List.any_map, List.any_filter]
  rfl
theorem mayV_none (r : Int) (h : ¬ r = 1 ∧ ¬ r = 2 ∧ ¬ r = 3) (x : VerbR) (hx : x ∈ table) : mayV r x = false := by
  have e : setsS r = 0 := by rw [setsS, if_neg h.2.2, if_neg h.2.1, if_neg h.1]
  unfold mayV
  rw [e]
  simp only [table, vb, List.mem_cons, List.not_mem_nil, or_false] at hx
  rcases hx with rfl | rfl | rfl | rfl | rfl | rfl | rfl | rfl | rfl | rfl <;> decide +kernel
theorem mayS_none (r v : Int) (h : ¬ r = 1 ∧ ¬ r = 2 ∧ ¬ r = 3) : mayS r v = false := by
  rw [mayS_table, List.any_eq_false]
  intro x hx
  simp [mayV_none r h x hx]
theorem mayS_out (r v : Int) (h : ∀ k : Nat, k < 10 → v ≠ ((k + 1 : Nat) : Int)) : mayS r v = false := by
  rw [mayS_table, List.any_eq_false]
  intro x hx
  have hn : x.n ≠ v := by
    simp [table, vb] at hx
    rcases hx with rfl | rfl | rfl | rfl | rfl | rfl | rfl | rfl | rfl | rfl
    · exact fun e => h 0 (by omega) (by simpa using e.symm)
    · exact fun e => h 1 (by omega) (by simpa using e.symm)
    · exact fun e => h 2 (by omega) (by simpa using e.symm)
    · exact fun e => h 3 (by omega) (by simpa using e.symm)
    · exact fun e => h 4 (by omega) (by simpa using e.symm)
    · exact fun e => h 5 (by omega) (by simpa using e.symm)
    · exact fun e => h 6 (by omega) (by simpa using e.symm)
    · exact fun e => h 7 (by omega) (by simpa using e.symm)
    · exact fun e => h 8 (by omega) (by simpa using e.symm)
    · exact fun e => h 9 (by omega) (by simpa using e.symm)
  simp [hn]
set_option maxHeartbeats 8000000 in
theorem rmay_any (r v : Int) (w : World) : Calls Tryd.prog 17 #[.int .i64 r, .int .i64 v] w fun e w' => e = .returned (.bool (mayS r v)) ∧ w = w' := by
  by_cases hv : v = 1 ∨ v = 2 ∨ v = 3 ∨ v = 4 ∨ v = 5 ∨ v = 6 ∨ v = 7 ∨ v = 8 ∨ v = 9 ∨ v = 10
  · by_cases hr : r = 1 ∨ r = 2 ∨ r = 3
    · rcases hv with rfl | rfl | rfl | rfl | rfl | rfl | rfl | rfl | rfl | rfl <;> rcases hr with rfl | rfl | rfl
      all_goals
        go_enter Tryd.func17, Tryd.ntmps17
        go_wp2
        go_ret
        refine ⟨congrArg (fun b => Ending.returned (Value.bool b)) (?_ : _ = mayS _ _), rfl⟩
        decide +kernel
    · have e := mayS_none r v (by omega)
      have h1 : ¬ r = 1 := by omega
      have h2 : ¬ r = 2 := by omega
      have h3 : ¬ r = 3 := by omega
      replace e := Lib.hid e
      rcases hv with rfl | rfl | rfl | rfl | rfl | rfl | rfl | rfl | rfl | rfl
      all_goals
        by_cases hlo : r < 1
        · have hlo' : ¬ 1 ≤ r := by omega
          clear hr
          go_enter Tryd.func17, Tryd.ntmps17
          go_wp2
          go_ret
          exact ⟨by rw [e.out]; first | rfl | simp [*], rfl⟩
        · have hlo' : 1 ≤ r := by omega
          have hhi : ¬ r ≤ 3 := by omega
          clear hr
          go_enter Tryd.func17, Tryd.ntmps17
          go_wp2
          go_ret
          exact ⟨by rw [e.out]; first | rfl | simp [*], rfl⟩
  · have e := mayS_out r v (fun k hk => by omega)
    have h1 : ¬ v = 1 := by omega
    have h2 : ¬ v = 2 := by omega
    have h3 : ¬ v = 3 := by omega
    have h4 : ¬ v = 4 := by omega
    have h5 : ¬ v = 5 := by omega
    have h6 : ¬ v = 6 := by omega
    have h7 : ¬ v = 7 := by omega
    have h8 : ¬ v = 8 := by omega
    have h9 : ¬ v = 9 := by omega
    have h10 : ¬ v = 10 := by omega
    replace e := Lib.hid e
    clear hv
    go_enter Tryd.func17, Tryd.ntmps17
    go_wp2
    go_ret
    exact ⟨by rw [e.out]; rfl, rfl⟩
end Go.Proofs.YthlccacnoolpjaaDoor
