/-
  Sha: a state put to another.
-/
import Derived.Test.YtiakcjckebghlaaDoorS3
namespace Go.Proofs.YtiakcjckebghlaaDoor
open Go.RowKit Go.Shelf

/-- s, where the first k words of v are put to it -/
def putTo (s v : St) (k : Nat) : St := ⟨if 0 < k then s.a + v.a else s.a, if 1 < k then s.b + v.b else s.b, if 2 < k then s.c + v.c else s.c, if 3 < k then s.d + v.d else s.d, if 4 < k then s.e + v.e else s.e, if 5 < k then s.f + v.f else s.f, if 6 < k then s.g + v.g else s.g, if 7 < k then s.h + v.h else s.h⟩
theorem putTo_all (s v : St) : putTo s v 8 = addS s v := rfl
theorem putTo_zero (s v : St) : putTo s v 0 = s := rfl

set_option maxHeartbeats 4000000 in
theorem put_any (M T nb T' : Nat) (s v : St) (w : World) (hS : StAt w M T s) (hV : StAt w nb T' v) (hne : nb ≠ M) : Calls Tryd.prog 31 #[.pointer (some ⟨M, 0, none⟩), .slice (some ⟨nb, 0, none⟩) 8 8] w fun e w' => e = .returned (.tuple #[]) ∧ StAt w' M T (addS s v) ∧ Off w.heap.size M w w' := by
  have hlt := hS.lt
  have hltv := hV.lt
  have HS := Lib.hid hS
  have HV := Lib.hid hV
  have HN := Lib.hid hne
  clear hS hV hne
  go_enter Tryd.func31, Tryd.ntmps31
  go_wp2_with fail
  go_loopw [8] (fun i wr => ∃ k : Nat, k ≤ 8 ∧ i = .int .i64 (k : Int) ∧ StAt wr M T (putTo s v k) ∧ Off w.heap.size M w wr) (fun i _ => 8 - (intOf i).toNat)
  case atStart => exact ⟨0, by omega, rfl, HS.out, Off.refl _ _ _⟩
  case round =>
    obtain ⟨k, hk, rfl, hA, hO⟩ := hrel
    have hAV : StAt wr nb T' v := (hO.block nb hltv HN.out).trans HV.out
    have h : k = 0 ∨ k = 1 ∨ k = 2 ∨ k = 3 ∨ k = 4 ∨ k = 5 ∨ k = 6 ∨ k = 7 ∨ k = 8 := by omega
    rcases h with rfl | rfl | rfl | rfl | rfl | rfl | rfl | rfl | rfl
    · have c1 : wr.cell? ⟨M, 0, none⟩ = some (.int .u32 (s.a.toNat : Int)) := hA.at 0
      have c2 : wr.cell? ⟨nb, 0, none⟩ = some (.int .u32 (v.a.toNat : Int)) := hAV.at 0
      have f1 := hA.frozen 0
      have HA := Lib.hid hA
      have HE := Lib.hid (add32 s.a v.a)
      clear hA hAV
      go_wp2_with fail
      go_region
      all_goals
        go_wp2
        go_roundw
        case rel =>
          have h5 := heap_set (i := 0) HA.out (Value.int .u32 (((s.a.toNat : Int) + (v.a.toNat : Int)) % 4294967296))
          refine ⟨1, by omega, rfl, ?_, (hO.trans (off_setCell _)).trans (.of (belowN (Below.refl _ _) 1))⟩
          have e := HE.out
          rw [e] at h5
          first | exact h5 | (rw [e]; exact h5)
        case measure => simp [intOf]
    · have c1 : wr.cell? ⟨M, 1, none⟩ = some (.int .u32 (s.b.toNat : Int)) := hA.at 1
      have c2 : wr.cell? ⟨nb, 1, none⟩ = some (.int .u32 (v.b.toNat : Int)) := hAV.at 1
      have f1 := hA.frozen 1
      have HA := Lib.hid hA
      have HE := Lib.hid (add32 s.b v.b)
      clear hA hAV
      go_wp2_with fail
      go_region
      all_goals
        go_wp2
        go_roundw
        case rel =>
          have h5 := heap_set (i := 1) HA.out (Value.int .u32 (((s.b.toNat : Int) + (v.b.toNat : Int)) % 4294967296))
          refine ⟨2, by omega, rfl, ?_, (hO.trans (off_setCell _)).trans (.of (belowN (Below.refl _ _) 1))⟩
          have e := HE.out
          rw [e] at h5
          first | exact h5 | (rw [e]; exact h5)
        case measure => simp [intOf]
    · have c1 : wr.cell? ⟨M, 2, none⟩ = some (.int .u32 (s.c.toNat : Int)) := hA.at 2
      have c2 : wr.cell? ⟨nb, 2, none⟩ = some (.int .u32 (v.c.toNat : Int)) := hAV.at 2
      have f1 := hA.frozen 2
      have HA := Lib.hid hA
      have HE := Lib.hid (add32 s.c v.c)
      clear hA hAV
      go_wp2_with fail
      go_region
      all_goals
        go_wp2
        go_roundw
        case rel =>
          have h5 := heap_set (i := 2) HA.out (Value.int .u32 (((s.c.toNat : Int) + (v.c.toNat : Int)) % 4294967296))
          refine ⟨3, by omega, rfl, ?_, (hO.trans (off_setCell _)).trans (.of (belowN (Below.refl _ _) 1))⟩
          have e := HE.out
          rw [e] at h5
          first | exact h5 | (rw [e]; exact h5)
        case measure => simp [intOf]
    · have c1 : wr.cell? ⟨M, 3, none⟩ = some (.int .u32 (s.d.toNat : Int)) := hA.at 3
      have c2 : wr.cell? ⟨nb, 3, none⟩ = some (.int .u32 (v.d.toNat : Int)) := hAV.at 3
      have f1 := hA.frozen 3
      have HA := Lib.hid hA
      have HE := Lib.hid (add32 s.d v.d)
      clear hA hAV
      go_wp2_with fail
      go_region
      all_goals
        go_wp2
        go_roundw
        case rel =>
          have h5 := heap_set (i := 3) HA.out (Value.int .u32 (((s.d.toNat : Int) + (v.d.toNat : Int)) % 4294967296))
          refine ⟨4, by omega, rfl, ?_, (hO.trans (off_setCell _)).trans (.of (belowN (Below.refl _ _) 1))⟩
          have e := HE.out
          rw [e] at h5
          first | exact h5 | (rw [e]; exact h5)
        case measure => simp [intOf]
    · have c1 : wr.cell? ⟨M, 4, none⟩ = some (.int .u32 (s.e.toNat : Int)) := hA.at 4
      have c2 : wr.cell? ⟨nb, 4, none⟩ = some (.int .u32 (v.e.toNat : Int)) := hAV.at 4
      have f1 := hA.frozen 4
      have HA := Lib.hid hA
      have HE := Lib.hid (add32 s.e v.e)
      clear hA hAV
      go_wp2_with fail
      go_region
      all_goals
        go_wp2
        go_roundw
        case rel =>
          have h5 := heap_set (i := 4) HA.out (Value.int .u32 (((s.e.toNat : Int) + (v.e.toNat : Int)) % 4294967296))
          refine ⟨5, by omega, rfl, ?_, (hO.trans (off_setCell _)).trans (.of (belowN (Below.refl _ _) 1))⟩
          have e := HE.out
          rw [e] at h5
          first | exact h5 | (rw [e]; exact h5)
        case measure => simp [intOf]
    · have c1 : wr.cell? ⟨M, 5, none⟩ = some (.int .u32 (s.f.toNat : Int)) := hA.at 5
      have c2 : wr.cell? ⟨nb, 5, none⟩ = some (.int .u32 (v.f.toNat : Int)) := hAV.at 5
      have f1 := hA.frozen 5
      have HA := Lib.hid hA
      have HE := Lib.hid (add32 s.f v.f)
      clear hA hAV
      go_wp2_with fail
      go_region
      all_goals
        go_wp2
        go_roundw
        case rel =>
          have h5 := heap_set (i := 5) HA.out (Value.int .u32 (((s.f.toNat : Int) + (v.f.toNat : Int)) % 4294967296))
          refine ⟨6, by omega, rfl, ?_, (hO.trans (off_setCell _)).trans (.of (belowN (Below.refl _ _) 1))⟩
          have e := HE.out
          rw [e] at h5
          first | exact h5 | (rw [e]; exact h5)
        case measure => simp [intOf]
    · have c1 : wr.cell? ⟨M, 6, none⟩ = some (.int .u32 (s.g.toNat : Int)) := hA.at 6
      have c2 : wr.cell? ⟨nb, 6, none⟩ = some (.int .u32 (v.g.toNat : Int)) := hAV.at 6
      have f1 := hA.frozen 6
      have HA := Lib.hid hA
      have HE := Lib.hid (add32 s.g v.g)
      clear hA hAV
      go_wp2_with fail
      go_region
      all_goals
        go_wp2
        go_roundw
        case rel =>
          have h5 := heap_set (i := 6) HA.out (Value.int .u32 (((s.g.toNat : Int) + (v.g.toNat : Int)) % 4294967296))
          refine ⟨7, by omega, rfl, ?_, (hO.trans (off_setCell _)).trans (.of (belowN (Below.refl _ _) 1))⟩
          have e := HE.out
          rw [e] at h5
          first | exact h5 | (rw [e]; exact h5)
        case measure => simp [intOf]
    · have c1 : wr.cell? ⟨M, 7, none⟩ = some (.int .u32 (s.h.toNat : Int)) := hA.at 7
      have c2 : wr.cell? ⟨nb, 7, none⟩ = some (.int .u32 (v.h.toNat : Int)) := hAV.at 7
      have f1 := hA.frozen 7
      have HA := Lib.hid hA
      have HE := Lib.hid (add32 s.h v.h)
      clear hA hAV
      go_wp2_with fail
      go_region
      all_goals
        go_wp2
        go_roundw
        case rel =>
          have h5 := heap_set (i := 7) HA.out (Value.int .u32 (((s.h.toNat : Int) + (v.h.toNat : Int)) % 4294967296))
          refine ⟨8, by omega, rfl, ?_, (hO.trans (off_setCell _)).trans (.of (belowN (Below.refl _ _) 1))⟩
          have e := HE.out
          rw [e] at h5
          first | exact h5 | (rw [e]; exact h5)
        case measure => simp [intOf]
    · have HA := Lib.hid hA
      clear hA hAV
      go_wp2
      go_end0
      exact ⟨rfl, HA.out, hO⟩
end Go.Proofs.YtiakcjckebghlaaDoor
