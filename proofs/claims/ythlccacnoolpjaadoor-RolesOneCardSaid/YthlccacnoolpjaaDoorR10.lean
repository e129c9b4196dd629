/-
  Roles: two rows of the same numbers are the same.
-/
import Derived.Test.YthlccacnoolpjaaDoorR9
namespace Go.Proofs.YthlccacnoolpjaaDoor
open Go.RowKit Go.Shelf

theorem Nums.len {W : World} {v : Value} {zs : List Int} (h : Nums W v zs) : ∃ a cap, v = .slice a zs.length cap := by
  rcases h with ⟨rfl, rfl⟩ | ⟨b, off, cap, rfl, _⟩
  · exact ⟨none, 0, rfl⟩
  · exact ⟨_, cap, rfl⟩
set_option maxHeartbeats 2000000 in
theorem ints_same (u v : Value) (zs : List Int) (h10 : zs.length ≤ 1000) (w : World) (hu : Nums w u zs) (hv : Nums w v zs) : Calls Tryd.prog 18 #[u, v] w fun e w' => e = .returned (.bool true) ∧ Below w.heap.size w w' := by
  obtain ⟨a, ca, rfl⟩ := hu.len
  obtain ⟨b, cb, rfl⟩ := hv.len
  have HU := Lib.hid hu
  have HV := Lib.hid hv
  clear hu hv
  go_enter Tryd.func18, Tryd.ntmps18
  go_wp2_with fail
  go_loopw [5] (fun i wr => ∃ k : Nat, k ≤ zs.length ∧ i = .int .i64 (k : Int) ∧ Below w.heap.size w wr) (fun i _ => zs.length - (intOf i).toNat)
  case atStart => exact ⟨0, Nat.zero_le _, rfl, Below.refl _ _⟩
  case round =>
    obtain ⟨k, hk, rfl, hb⟩ := hrel
    by_cases hlt : k < zs.length
    · rcases HU.out.below hb with ⟨h, rfl⟩ | ⟨b1, o1, c1, h, hl1, hc1⟩
      · simp at hlt
      cases h
      rcases HV.out.below hb with ⟨h, rfl⟩ | ⟨b2, o2, c2, h, hl2, hc2⟩
      · simp at hlt
      cases h
      have d1 := hc1 k hlt
      have d2 := hc2 k hlt
      clear hc1 hc2 HU HV
      generalize zs[k]?.getD 0 = z at d1 d2
      have hk0 : (0 : Int) ≤ (k : Int) := Int.natCast_nonneg _
      have hk1 : (k : Int) < (zs.length : Int) := by omega
      go_wp2_with fail
      go_quiet (fail)
      go_wp2
      go_roundw
      case rel => exact ⟨k + 1, by omega, by go_num, belowN hb _⟩
      case measure => simp [intOf]; omega
    · obtain rfl : k = zs.length := by omega
      clear HU HV
      go_wp2
      go_ret
      exact ⟨rfl, hb⟩
end Go.Proofs.YthlccacnoolpjaaDoor
