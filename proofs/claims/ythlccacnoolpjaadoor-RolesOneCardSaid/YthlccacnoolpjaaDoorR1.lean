/-
  Roles: the words of roles, what roles may, the verbs' table and its iterator.
-/
import Derived.Test.YthlccacnoolpjaaDoorK
import Derived.BigQuiet
namespace Go.Proofs.YthlccacnoolpjaaDoor
open Go.RowKit Go.Shelf

theorem belowN {n : Nat} {w W : World} (h : Below n w W) (k : Nat) : Below n w (W.drewN k) := ⟨h.os, h.tape, h.output, h.size, h.block⟩

/-! ### words of roles -/
def sViewer : ByteArray := ⟨#[118, 105, 101, 119, 101, 114]⟩
def sKeeper : ByteArray := ⟨#[107, 101, 101, 112, 101, 114]⟩
def sGovernor : ByteArray := ⟨#[103, 111, 118, 101, 114, 110, 111, 114]⟩
def ent0 : MapEntry := ⟨.string sViewer, .int .i64 1, 0⟩
def ent1 : MapEntry := ⟨.string sKeeper, .int .i64 2, 1⟩
def ent2 : MapEntry := ⟨.string sGovernor, .int .i64 3, 2⟩
def roleS (s : ByteArray) : Int × Int := if s = sViewer then (1, 0) else if s = sKeeper then (2, 0) else if s = sGovernor then (3, 0) else (0, 120)

theorem upd_str {w : World} {es : Array MapEntry} {c : Nat} {k : ByteArray} {v : Value} (h : Instr.findNow .string (.string k) es.toList 0 = some none) : (Instr.mapUpdate 45 (.map (some w.heap.size)) (.string k) v).run Tryd.prog (w.alloc (.map es c)) =
    .ok () (w.alloc (.map (es.push ⟨.string k, v, c⟩) (c + 1))) := by
  rw [run_mapUpdate_new Tryd.underlying45 Tryd.underlying9 (.inr rfl) (heap_alloc_last _ _) h, putLast]

theorem names_any (w : World) : Calls Tryd.prog 26 #[] w fun e w' => e = .returned (.map (some w.heap.size)) ∧ w.alloc (.map #[ent0, ent1, ent2] 3) = w' := by
  have hmm := @run_makeMap Tryd.prog
  have u0 : (Instr.mapUpdate 45 (.map (some w.heap.size)) (.string ⟨#[118, 105, 101, 119, 101, 114]⟩) (.int .i64 1)).run Tryd.prog (w.alloc (.map #[] 0)) = .ok () (w.alloc (.map #[ent0] 1)) := upd_str rfl
  have u1 : (Instr.mapUpdate 45 (.map (some w.heap.size)) (.string ⟨#[107, 101, 101, 112, 101, 114]⟩) (.int .i64 2)).run Tryd.prog (w.alloc (.map #[ent0] 1)) = .ok () (w.alloc (.map #[ent0, ent1] 2)) := upd_str (by kernel_rfl)
  have u2 : (Instr.mapUpdate 45 (.map (some w.heap.size)) (.string ⟨#[103, 111, 118, 101, 114, 110, 111, 114]⟩) (.int .i64 3)).run Tryd.prog (w.alloc (.map #[ent0, ent1] 2)) = .ok () (w.alloc (.map #[ent0, ent1, ent2] 3)) := upd_str (by kernel_rfl)
  go_enter Tryd.func26, Tryd.ntmps26
  go_wp2
  go_ret
  exact ⟨rfl, rfl⟩

theorem zero3 (w : World) : (zeroValue 3).run Tryd.prog w = .ok (.int .i64 0) w := by kernel_rfl
theorem same_str (s k : ByteArray) : Instr.sameNow .string (.string s) (.string k) = some (s == k) := rfl
theorem find_names (s : ByteArray) : Instr.findNow .string (.string s) #[ent0, ent1, ent2].toList 0 =
    some (if s = sViewer then some (0, .int .i64 1) else if s = sKeeper then some (1, .int .i64 2) else if s = sGovernor then some (2, .int .i64 3) else none) := by
  have e : ∀ k : ByteArray, s = k → (s == k) = true := fun k h => (MapKept.bytes_beq s k).2 h
  have f : ∀ k : ByteArray, s ≠ k → (s == k) = false := fun k h => Bool.eq_false_iff.2 (fun e => h ((MapKept.bytes_beq s k).1 e))
  by_cases h0 : s = sViewer
  · rw [if_pos h0]
    simp only [Instr.findNow, ent0, same_str, e _ h0]
  · rw [if_neg h0]
    by_cases h1 : s = sKeeper
    · rw [if_pos h1]
      simp only [Instr.findNow, ent0, ent1, same_str, f _ h0, e _ h1]
    · rw [if_neg h1]
      by_cases h2 : s = sGovernor
      · rw [if_pos h2]
        simp only [Instr.findNow, ent0, ent1, ent2, same_str, f _ h0, f _ h1, e _ h2]
      · rw [if_neg h2]
        simp only [Instr.findNow, ent0, ent1, ent2, same_str, f _ h0, f _ h1, f _ h2]

theorem role_any (s : ByteArray) (w : World) : Calls Tryd.prog 10 #[.string s] w fun e w' => e = .returned (.tuple #[.int .i64 (roleS s).1, .int .i64 (roleS s).2]) ∧ Below w.heap.size w w' := by
  have hM := heap_alloc_last w (.map #[ent0, ent1, ent2] 3)
  have hf := find_names s
  have hz := zero3 (w.alloc (.map #[ent0, ent1, ent2] 3))
  by_cases hhit : ∃ i n, Instr.findNow .string (.string s) #[ent0, ent1, ent2].toList 0 = some (some (i, .int .i64 n)) ∧ roleS s = (n, 0)
  · obtain ⟨i, n, hh, hr⟩ := hhit
    have lk : (Instr.lookup 45 (.map (some w.heap.size)) (.string s) true).run Tryd.prog (w.alloc (.map #[ent0, ent1, ent2] 3)) = .ok (.tuple #[.int .i64 n, .bool true]) _ := run_lookup_hit Tryd.underlying45 Tryd.underlying9 (.inr rfl) hM hh true
    replace hr := Lib.hid hr
    clear hM hf hz hh
    go_enter Tryd.func10, Tryd.ntmps10
    go_wp2_with (go_at_call 26; refine (names_any _).mono ?_; rintro e w' ⟨rfl, rfl⟩)
    go_ret2
    exact ⟨by rw [hr.out]; rfl, ba (Below.refl _ _) _⟩
  · have hn : Instr.findNow .string (.string s) #[ent0, ent1, ent2].toList 0 = some none ∧ roleS s = (0, 120) := by
      by_cases h0 : s = sViewer
      · exact absurd ⟨0, 1, by rw [hf, if_pos h0], by rw [roleS, if_pos h0]⟩ hhit
      by_cases h1 : s = sKeeper
      · exact absurd ⟨1, 2, by rw [hf, if_neg h0, if_pos h1], by rw [roleS, if_neg h0, if_pos h1]⟩ hhit
      by_cases h2 : s = sGovernor
      · exact absurd ⟨2, 3, by rw [hf, if_neg h0, if_neg h1, if_pos h2], by rw [roleS, if_neg h0, if_neg h1, if_pos h2]⟩ hhit
      exact ⟨by rw [hf, if_neg h0, if_neg h1, if_neg h2], by rw [roleS, if_neg h0, if_neg h1, if_neg h2]⟩
    have lk : (Instr.lookup 45 (.map (some w.heap.size)) (.string s) true).run Tryd.prog (w.alloc (.map #[ent0, ent1, ent2] 3)) = .ok (.tuple #[.int .i64 0, .bool false]) _ := run_lookup_miss Tryd.underlying45 Tryd.underlying9 (.inr rfl) hz hM hn.1 true
    have hr := Lib.hid hn.2
    clear hM hf hz hn hhit
    go_enter Tryd.func10, Tryd.ntmps10
    go_wp2_with (go_at_call 26; refine (names_any _).mono ?_; rintro e w' ⟨rfl, rfl⟩)
    go_ret2
    exact ⟨by rw [hr.out]; rfl, ba (Below.refl _ _) _⟩

/-! ### what a role may -/
def setsS (n : Int) : Int := if n = 3 then 7 else if n = 2 then 3 else if n = 1 then 1 else 0
theorem sets_any (n : Int) (w : World) : Calls Tryd.prog 36 #[.int .i64 n] w fun e w' => e = .returned (.int .i64 (setsS n)) ∧ w' = w := by
  by_cases h3 : n = 3
  · subst h3
    go_enter Tryd.func36, Tryd.ntmps36
    go_wp2
    go_ret
    exact ⟨rfl, rfl⟩
  by_cases h2 : n = 2
  · subst h2
    go_enter Tryd.func36, Tryd.ntmps36
    go_wp2
    go_ret
    exact ⟨rfl, rfl⟩
  by_cases h1 : n = 1
  · subst h1
    go_enter Tryd.func36, Tryd.ntmps36
    go_wp2
    go_ret
    exact ⟨rfl, rfl⟩
  have e : setsS n = 0 := by rw [setsS, if_neg h3, if_neg h2, if_neg h1]
  replace e := Lib.hid e
  go_enter Tryd.func36, Tryd.ntmps36
  go_wp2
  go_ret
  exact ⟨by rw [e.out]; rfl, rfl⟩

/-- a verb of the table -/
structure VerbR where
  n : Int
  word : ByteArray
  set : Int
def VerbR.val (v : VerbR) : Value := .agg #[.int .i64 v.n, .string v.word, .int .i64 v.set]
def mayV (r : Int) (v : VerbR) : Bool := bits .and .i64 (setsS r) v.set != 0
theorem may_any (r : Int) (v : VerbR) (w : World) : Calls Tryd.prog 30 #[.int .i64 r, .agg #[.int .i64 v.n, .string v.word, .int .i64 v.set]] w fun e w' => e = .returned (.bool (mayV r v)) ∧ Below w.heap.size w w' := by
  go_enter Tryd.func30, Tryd.ntmps30
  go_wp2
  go_quiet ((go_at_call 36; exact Calls.quiet_of_same (sets_any _ _)))
  go_wp2
  go_ret
  exact ⟨rfl, belowN (ba (Below.refl _ _) _) _⟩
end Go.Proofs.YthlccacnoolpjaaDoor
