/-
  Roles: the verbs of a role as numbers; May.
-/
import Derived.Test.YthlccacnoolpjaaDoorR5
namespace Go.Proofs.YthlccacnoolpjaaDoor
open Go.RowKit Go.Shelf

/-- a slice of numbers -/
def Nums (W : World) (v : Value) (zs : List Int) : Prop :=
  (v = .slice none 0 0 ∧ zs = []) ∨ ∃ b off cap, v = .slice (some ⟨b, off, none⟩) zs.length cap ∧ b < W.heap.size ∧ ∀ j, j < zs.length → W.cell? ⟨b, off + j, none⟩ = some (.int .i64 (zs[j]?.getD 0))
theorem Nums.below {W W' : World} {v : Value} {zs : List Int} (h : Nums W v zs) (hb : Below W.heap.size W W') : Nums W' v zs := by
  rcases h with e | ⟨b, off, cap, e, hl, hc⟩
  · exact .inl e
  · exact .inr ⟨b, off, cap, e, Nat.lt_of_lt_of_le hl hb.size, fun j hj => (hb.cell (p := ⟨b, off + j, none⟩) hl).trans (hc j hj)⟩
theorem Nums.of_row {W : World} {base : Nat} {v : Value} {zs : List Int} (h : W.ownsRow base 3 1 v zs.length (zs.map fun z => .int .i64 z)) : Nums W v zs := by
  rcases h.2 with ⟨rfl, h0⟩ | ⟨g, cap, cur, rfl, hb, hg, hr⟩
  · exact .inl ⟨rfl, by simpa using h0⟩
  · refine .inr ⟨g, 0, cap, rfl, (Array.getElem?_eq_some_iff.1 hg).1, fun j hj => ?_⟩
    obtain ⟨_, _, _, ht⟩ := hr
    rw [cell_of_row W g _ _ _ _ hg, Nat.zero_add, ← Array.getElem?_toList]
    have e1 : (cur.toList.take (zs.length * 1))[j]? = cur.toList[j]? := List.getElem?_take_of_lt (by omega)
    rw [← e1, ht]
    simp [hj]

theorem verbs_any (r : Int) (w : World) {tt : TypeId} {fr : Nat × Nat} (hT : w.heap[2]? = some (.cells tabCells tt fr)) :
    Calls Tryd.prog 19 #[.int .i64 r] w fun e w' => ∃ v, e = .returned v ∧ Nums w' v (verbsS r) ∧ Below w.heap.size w w' :=
  (verbs_row r w hT).mono fun e w' ⟨v, he, hv, hb⟩ => ⟨v, he, Nums.of_row (base := w.heap.size) (by
    have h := hv
    rw [show (table.filter (mayV r)).length = (verbsS r).length by simp [verbsS], show nums (table.filter (mayV r)) = (verbsS r).map (fun z => .int .i64 z) by simp [nums, verbsS]] at h
    exact h), hb⟩

theorem verbsS_len (r : Int) : (verbsS r).length ≤ 10 := by
  have := List.length_filter_le (mayV r) table
  rw [verbsS, List.length_map]; exact this

def mayS (r v : Int) : Bool := (verbsS r).any (· == v)
theorem any_take (zs : List Int) (v : Int) (k : Nat) (hk : k < zs.length) (h : (zs.take k).any (· == v) = false) : (zs.take (k + 1)).any (· == v) = ((zs[k]?.getD 0) == v) := by
  rw [List.take_succ_eq_append_getElem hk, List.any_append, h]
  simp [hk]
set_option maxHeartbeats 1000000 in
theorem mayf_any (r v : Int) (w : World) {tt : TypeId} {fr : Nat × Nat} (hT : w.heap[2]? = some (.cells tabCells tt fr)) :
    Calls Tryd.prog 16 #[.int .i64 r, .int .i64 v] w fun e w' => e = .returned (.bool (mayS r v)) ∧ Below w.heap.size w w' := by
  go_enter Tryd.func16, Tryd.ntmps16
  go_wp2_with fail
  refine (verbs_any r w hT).mono ?_
  rintro e w1 ⟨u, rfl, hN, hb⟩
  have hlen := verbsS_len r
  have hm : mayS r v = (verbsS r).any (· == v) := rfl
  generalize verbsS r = zs at hN hlen hm
  replace hm := Lib.hid hm
  have hu : ∃ a cap, u = .slice a zs.length cap := by
    rcases hN with ⟨rfl, rfl⟩ | ⟨b, off, cap, rfl, _⟩
    · exact ⟨none, 0, rfl⟩
    · exact ⟨_, cap, rfl⟩
  obtain ⟨a, cap, rfl⟩ := hu
  have HN := Lib.hid hN
  clear hN hT
  go_wp2_with fail
  go_loop [10] (fun i => ∃ k : Nat, k ≤ zs.length ∧ i = .int .i64 k ∧ (zs.take k).any (· == v) = false) (fun i => zs.length - (intOf i).toNat)
  case atStart => exact ⟨0, Nat.zero_le _, rfl, by simp⟩
  case round =>
    obtain ⟨k, hk, rfl, hno⟩ := hrel
    replace hno := Lib.hid hno
    by_cases hlt : k < zs.length
    · rcases HN.out with ⟨h, rfl⟩ | ⟨b, off, c, h, hbl, hc⟩
      · simp at hlt
      cases h
      have hck := hc k hlt
      have hs := any_take zs v k hlt hno.out
      clear hc HN
      generalize zs[k]?.getD 0 = z at hck hs
      replace hs := Lib.hid hs
      by_cases hz : z = v
      · have hres : zs.any (· == v) = true := by
          have h1 : (zs.take (k + 1)).any (· == v) = true := by rw [hs.out]; simpa using hz
          rw [← List.take_append_drop (k + 1) zs, List.any_append, h1]; rfl
        replace hres := Lib.hid hres
        subst hz
        go_wp2
        go_ret
        exact ⟨by rw [hm.out, hres.out]; rfl, hb⟩
      · go_wp2
        go_round
        case rel => exact ⟨k + 1, by omega, by go_num, by rw [hs.out]; simpa using hz⟩
        case measure => simp [intOf]; omega
    · obtain rfl : k = zs.length := by omega
      have hres : zs.any (· == v) = false := by have := hno.out; rwa [List.take_length] at this
      replace hres := Lib.hid hres
      clear HN hno
      go_wp2
      go_ret
      exact ⟨by rw [hm.out, hres.out]; rfl, hb⟩
end Go.Proofs.YthlccacnoolpjaaDoor
