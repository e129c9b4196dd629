/-
  Sha: where a rune stands among the digits.
-/
import Derived.Test.YtiakcjckebghlaaDoorH3
import Derived.Laws.Runes
import Derived.Laws.RangeAny
import Derived.Laws.RangeString
import Derived.Lib.OthersKept
import Derived.Deep.QuietTactic
import Derived.BigQuiet
import Derived.Scope
namespace Go.Proofs.YtiakcjckebghlaaDoor
open Go.RowKit Go.Shelf

theorem indexByte_high (s : ByteArray) (a e : Nat) (c : UInt8) (hs : ∀ b ∈ s.data.toList, b.toNat < 128) (hc : 128 ≤ c.toNat) : Lib.indexByte (s.extract a e).data.toList c = -1 := by
  rw [← Lib.firstIdx_eq]
  exact firstIdx_ascii s a e c hs hc
theorem dgs_ascii : ∀ b ∈ dgs.data.toList, b.toNat < 128 := by decide +kernel

set_option maxHeartbeats 4000000 in
set_option maxRecDepth 100000 in
theorem rune_bad (r : Int) (h1 : 128 ≤ r) (h2 : r ≠ 65533) (hv : Lib.validRune r = false) (w : World) : Calls Tryd.prog 24 #[.string dgs, .int .i32 r] w fun e w' => e = .returned (.int .i64 (-1)) ∧ Below w.heap.size w w' := by
  have HV := Lib.hid hv
  clear hv
  have h3 : ¬ r < 128 := by omega
  have h4 : 0 ≤ r := by omega
  go_enter Tryd.func24, Tryd.ntmps24
  go_wp2_with fail
  refine (utf8_ValidRune r _).mono ?_
  rintro e w' ⟨rfl, rfl⟩
  rw [HV.out]
  go_wp2
  go_ret
  exact ⟨rfl, Below.refl _ _⟩
theorem qleft {P : Program} {f : FuncId} {args : Array Value} {w : World} {n : Nat} {v : Value}
    (h : Calls P f args (w.drewN n) fun e w' => e = .returned v ∧ w.drewN n = w') : Calls P f args (w.drewN n) fun e w'' => e = .returned v ∧ ∃ m, w'' = w.drewN m :=
  h.mono fun _ _ ⟨he, hm⟩ => ⟨he, n, hm.symm⟩
theorem idx_high (a e : Nat) (c : Nat) (h1 : 128 ≤ c) (h2 : c < 256) (w : World) : Calls Tryd.prog 32 #[.string (dgs.extract a e), .int .u8 (c : Int)] w fun e w' => e = .returned (.int .i64 (-1)) ∧ w = w' :=
  (strings_IndexByte (dgs.extract a e) c w).mono fun e' w' ⟨he, hw⟩ => ⟨by
    rw [he, indexByte_high dgs a e _ dgs_ascii (by simp; omega)], hw.symm⟩
set_option maxHeartbeats 4000000 in
set_option maxRecDepth 100000 in
theorem rune_good (r : Int) (h1 : 128 ≤ r) (h2 : r ≠ 65533) (hv : Lib.validRune r = true) (w : World) : Calls Tryd.prog 24 #[.string dgs, .int .i32 r] w fun e w' => e = .returned (.int .i64 (-1)) ∧ Below w.heap.size w w' := by
  have HV := Lib.hid hv
  have hv2 : Utf8.valid r = true := (validRune_eq r).trans hv
  obtain ⟨z1, z2, z3⟩ := encode_facts r hv2 h1
  clear hv hv2
  have h3 : ¬ r < 128 := by omega
  have h4 : 0 ≤ r := by omega
  generalize hrs : Utf8.encode r = rs at z1 z2 z3
  have hm : rs.size = 2 ∨ rs.size = 3 ∨ rs.size = 4 := by omega
  rcases hm with hm | hm | hm
  · have hi : 1 < rs.size := by omega
    have hc1 : 128 ≤ (rs[1]'hi).toNat := by
      have h := z3 (by omega)
      simpa [hm] using h
    have hc2 := (rs[1]'hi).toNat_lt
    have e0 : (dgs[1]'(by decide)).toNat = 49 := by decide +kernel
    have e2 : (((dgs[1]'(by decide)).toNat : Int) != ((rs[1]'hi).toNat : Int)) = true := by rw [e0]; simp; omega
    clear e0
    clear z1 z2 z3
    go_enter Tryd.func24, Tryd.ntmps24
    go_wp2_with fail
    refine (utf8_ValidRune r _).mono ?_
    rintro e w' ⟨rfl, rfl⟩
    rw [HV.out]
    go_wp2_with fail
    refine wp_scope_straight ?_
    go_wp2_with fail
    go_loopw [9] (fun i wr => i = .int .i64 1 ∧ wr = w') (fun _ _ => 0)
    case atStart => exact ⟨rfl, rfl⟩
    case round =>
      obtain ⟨rfl, rfl⟩ := hrel
      go_wp2_with fail
      refine wp_scope_straight ?_
      go_wp2_with fail
      go_quiet (fail)
      rename_i nq
      have hB : Below wr.heap.size wr (wr.drewN nq) := bdraw (Below.refl _ _) _
      generalize wr.drewN nq = W1 at hB ⊢
      go_wp2_with fail
      go_quiet ((go_at_call 32; exact qleft (idx_high _ _ _ hc1 hc2 _)))
      go_wp2
      rw [Exit.noGoto_ret]
      change bodyPost Tryd.prog Tryd.f24 (fun e w' => e = Ending.returned (Value.int IntKind.i64 (-1)) ∧ Below wr.heap.size wr w') Exit.ret _ _
      go_ret
      exact ⟨rfl, bdraw hB _⟩
  · have hi : 2 < rs.size := by omega
    have hc1 : 128 ≤ (rs[2]'hi).toNat := by
      have h := z3 (by omega)
      simpa [hm] using h
    have hc2 := (rs[2]'hi).toNat_lt
    have e0 : (dgs[2]'(by decide)).toNat = 50 := by decide +kernel
    have e2 : (((dgs[2]'(by decide)).toNat : Int) != ((rs[2]'hi).toNat : Int)) = true := by rw [e0]; simp; omega
    clear e0
    clear z1 z2 z3
    go_enter Tryd.func24, Tryd.ntmps24
    go_wp2_with fail
    refine (utf8_ValidRune r _).mono ?_
    rintro e w' ⟨rfl, rfl⟩
    rw [HV.out]
    go_wp2_with fail
    refine wp_scope_straight ?_
    go_wp2_with fail
    go_loopw [9] (fun i wr => i = .int .i64 2 ∧ wr = w') (fun _ _ => 0)
    case atStart => exact ⟨rfl, rfl⟩
    case round =>
      obtain ⟨rfl, rfl⟩ := hrel
      go_wp2_with fail
      refine wp_scope_straight ?_
      go_wp2_with fail
      go_quiet (fail)
      rename_i nq
      have hB : Below wr.heap.size wr (wr.drewN nq) := bdraw (Below.refl _ _) _
      generalize wr.drewN nq = W1 at hB ⊢
      go_wp2_with fail
      go_quiet ((go_at_call 32; exact qleft (idx_high _ _ _ hc1 hc2 _)))
      go_wp2
      rw [Exit.noGoto_ret]
      change bodyPost Tryd.prog Tryd.f24 (fun e w' => e = Ending.returned (Value.int IntKind.i64 (-1)) ∧ Below wr.heap.size wr w') Exit.ret _ _
      go_ret
      exact ⟨rfl, bdraw hB _⟩
  · have hi : 3 < rs.size := by omega
    have hc1 : 128 ≤ (rs[3]'hi).toNat := by
      have h := z3 (by omega)
      simpa [hm] using h
    have hc2 := (rs[3]'hi).toNat_lt
    have e0 : (dgs[3]'(by decide)).toNat = 51 := by decide +kernel
    have e2 : (((dgs[3]'(by decide)).toNat : Int) != ((rs[3]'hi).toNat : Int)) = true := by rw [e0]; simp; omega
    clear e0
    clear z1 z2 z3
    go_enter Tryd.func24, Tryd.ntmps24
    go_wp2_with fail
    refine (utf8_ValidRune r _).mono ?_
    rintro e w' ⟨rfl, rfl⟩
    rw [HV.out]
    go_wp2_with fail
    refine wp_scope_straight ?_
    go_wp2_with fail
    go_loopw [9] (fun i wr => i = .int .i64 3 ∧ wr = w') (fun _ _ => 0)
    case atStart => exact ⟨rfl, rfl⟩
    case round =>
      obtain ⟨rfl, rfl⟩ := hrel
      go_wp2_with fail
      refine wp_scope_straight ?_
      go_wp2_with fail
      go_quiet (fail)
      rename_i nq
      have hB : Below wr.heap.size wr (wr.drewN nq) := bdraw (Below.refl _ _) _
      generalize wr.drewN nq = W1 at hB ⊢
      go_wp2_with fail
      go_quiet ((go_at_call 32; exact qleft (idx_high _ _ _ hc1 hc2 _)))
      go_wp2
      rw [Exit.noGoto_ret]
      change bodyPost Tryd.prog Tryd.f24 (fun e w' => e = Ending.returned (Value.int IntKind.i64 (-1)) ∧ Below wr.heap.size wr w') Exit.ret _ _
      go_ret
      exact ⟨rfl, bdraw hB _⟩

set_option maxHeartbeats 4000000 in
set_option maxRecDepth 100000 in
theorem rune_error (w : World) : Calls Tryd.prog 24 #[.string dgs, .int .i32 65533] w fun e w' => e = .returned (.int .i64 (-1)) ∧ Below w.heap.size w w' := by
  go_enter Tryd.func24, Tryd.ntmps24
  go_wp2_with fail
  go_loopw [5, 6] (fun _ _ wr => ∃ pos : Nat, pos ≤ dgs.size ∧ wr.heap[w.heap.size]? = some (.stringIter dgs pos) ∧ Below w.heap.size w wr) (fun _ _ wr => dgs.size - wr.iterPos w.heap.size)
  case atStart => exact ⟨0, Nat.zero_le _, World.iter_heap w dgs 0, (Below.refl _ _).alloc (Nat.le_refl _) _⟩
  case round =>
    obtain ⟨pos, hle, hit, hb⟩ := hrel
    have hp0 : wr.iterPos w.heap.size = pos := by simp [World.iterPos, hit]
    by_cases hp : pos < dgs.size
    · have hnx : ∀ ty, (Instr.next (.pointer (some ⟨w.heap.size, 0, none⟩)) true ty).run Tryd.prog wr = _ := fun ty => Lib.run_next_any_at wr w.heap.size dgs pos ty hit hp
      have hbw := Lib.below_iterAt hb (k := w.heap.size) (Nat.le_refl _) dgs (pos + (Utf8.decode dgs pos).2)
      have hlo : dgs[pos].toNat < 128 := dgs_ascii _ (Array.getElem_mem_toList (xs := dgs.data) hp)
      have hd := decode_ascii dgs pos hp hlo
      simp only [hd] at hnx hbw
      have hit2 := Lib.iterAt_heap wr w.heap.size dgs pos (pos + 1) hit
      have hi2 : ∀ W : World, W.heap[w.heap.size]? = some (.stringIter dgs (pos + 1)) → W.iterPos w.heap.size = pos + 1 := fun W h => by simp [World.iterPos, h]
      have hi3 := hi2 _ hit2
      clear hd hi2 hit
      generalize dgs[pos].toNat = c at hnx hlo
      have hz : ¬ (c : Int) = 65533 := by omega
      replace hi3 := Lib.hid hi3
      replace hit2 := Lib.hid hit2
      go_wp2
      go_roundw
      case rel => exact ⟨pos + 1, by omega, hit2.out, hbw⟩
      case measure => rw [hi3.out, hp0]; omega
    · have hnx : ∀ ty, (Instr.next (.pointer (some ⟨w.heap.size, 0, none⟩)) true ty).run Tryd.prog wr = _ := fun ty => Lib.run_next_end_at wr w.heap.size dgs pos ty hit hp
      clear hit hp0
      go_wp2
      go_ret
      exact ⟨rfl, by assumption⟩
end Go.Proofs.YtiakcjckebghlaaDoor
