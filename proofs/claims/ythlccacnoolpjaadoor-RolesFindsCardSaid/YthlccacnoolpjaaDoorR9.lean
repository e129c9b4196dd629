/-
  Roles: the document's Verbs; two rows of numbers held against each other.
-/
import Derived.Test.YthlccacnoolpjaaDoorR8
import Derived.OwnWalk
namespace Go.Proofs.YthlccacnoolpjaaDoor
open Go.RowKit Go.Shelf

def rv (r : Int) (k : Nat) : List Int := ((List.range k).map fun j => ((j + 1 : Nat) : Int)).filter (mayS r)
theorem rv_yes (r : Int) (k : Nat) (h : mayS r ((k + 1 : Nat) : Int) = true) : rv r (k + 1) = rv r k ++ [((k + 1 : Nat) : Int)] := by
  unfold rv
  rw [List.range_succ, List.map_append, List.filter_append]
  congr 1
  simp only [List.map_cons, List.map_nil, List.filter_cons, h, if_true, List.filter_nil]
theorem rv_no (r : Int) (k : Nat) (h : mayS r ((k + 1 : Nat) : Int) = false) : rv r (k + 1) = rv r k := by
  unfold rv
  rw [List.range_succ, List.map_append, List.filter_append]
  simp only [List.map_cons, List.map_nil, List.filter_cons, h, List.filter_nil]
  rw [if_neg (by simp), List.append_nil]
theorem rv_len (r : Int) (k : Nat) : (rv r k).length ≤ k := by
  have := List.length_filter_le (mayS r) ((List.range k).map fun j => ((j + 1 : Nat) : Int))
  simpa [rv] using this
theorem rv_all (r : Int) : rv r 10 = verbsS r := by
  by_cases h : r = 1 ∨ r = 2 ∨ r = 3
  · rcases h with rfl | rfl | rfl <;> decide +kernel
  · have e1 : verbsS r = [] := by
      rw [verbsS, List.filter_eq_nil_iff.2 (fun x hx => by rw [mayV_none r (by omega) x hx]; simp)]; rfl
    rw [e1, rv, List.filter_eq_nil_iff.2 (fun x _ => by rw [mayS_none r x (by omega)]; simp)]

set_option maxHeartbeats 2000000 in
theorem rverbs_any (r : Int) (w : World) : Calls Tryd.prog 20 #[.int .i64 r] w fun e w' => ∃ v, e = .returned v ∧ Nums w' v (verbsS r) ∧ Below w.heap.size w w' := by
  obtain ⟨i0, hi, hz0, hz1, hz2⟩ := info_parts info3
  go_enter Tryd.func20, Tryd.ntmps20
  go_wp2_with fail
  go_loopw [3, 4] (fun o i wr => ∃ k : Nat, k ≤ 10 ∧ i = .int .i64 ((k + 1 : Nat) : Int) ∧ wr.ownsRow w.heap.size 3 1 o (rv r k).length ((rv r k).map fun z => .int .i64 z) ∧ Below w.heap.size w wr) (fun _ i _ => 11 - (intOf i).toNat)
  case atStart => exact ⟨0, Nat.zero_le _, rfl, World.ownsRow_nil _ _ _ _, Below.refl _ _⟩
  case round =>
    obtain ⟨k, hk, rfl, hown, hnx⟩ := hrel
    have hsize := hnx.size
    have hlen := rv_len r k
    by_cases hlt : k < 10
    · have hle : (((k + 1 : Nat) : Int)) ≤ 10 := by omega
      generalize hz : ((k + 1 : Nat) : Int) = z at hle ⊢
      have hz2' : IntKind.i64.wrap (z + 1) = z + 1 := by rw [IntKind.wrap_i64]; omega
      cases hm : mayS r z
      · have hv := rv_no r k (by rw [hz]; exact hm)
        replace hv := Lib.hid hv
        replace hz := Lib.hid hz
        go_wp2_with fail
        refine (rmay_any r z wr).mono ?_
        rintro e w1 ⟨rfl, rfl⟩
        rw [hm]
        clear hm
        go_wp2
        go_roundw
        case rel => exact ⟨k + 1, by omega, by rw [← hz.out]; simp, by rw [hv.out]; exact hown, hnx⟩
        case measure => have hzz := hz.out; simp only [intOf]; omega
      · have hv := rv_yes r k (by rw [hz]; exact hm)
        rw [hz] at hv
        replace hv := Lib.hid hv
        replace hz := Lib.hid hz
        go_wp2_with fail
        refine (rmay_any r z wr).mono ?_
        rintro e w1 ⟨rfl, rfl⟩
        rw [hm]
        clear hm
        go_wp2_with (at_builtin; refine wpList_append_own _ rfl _ _ 31 rfl w.heap.size 3 i0 (.int .i64 0) 1 8 Tryd.underlying31 hi hz0 hz1 hz2 rfl (by decide) _ _ _ rfl (hown.alloc _) ⟨wr.heap.size, 0, none⟩ 1 1 [.int .i64 z] rfl rfl (cell_one_new _ _ _) (fun x hx => by simp at hx; subst hx; rfl) (by unfold maxLen; omega) (by omega) (by simp; omega) ?_; intro v' w3 hown' hgrow3 hnil3)
        go_roundw
        case rel => exact ⟨k + 1, by omega, by rw [← hz.out]; simp, by rw [hv.out, List.map_append, List.length_append]; exact hown', (hnx.alloc hsize _).grown hgrow3 (by simp; omega) (fun q hq => (hown.lt q hq).1)⟩
        case measure => have hzz := hz.out; simp only [intOf]; omega
    · obtain rfl : k = 10 := by omega
      have hN := Nums.of_row hown
      rw [rv_all] at hN
      clear hown
      go_wp2
      go_ret
      exact ⟨_, rfl, hN, hnx⟩
end Go.Proofs.YthlccacnoolpjaaDoor
