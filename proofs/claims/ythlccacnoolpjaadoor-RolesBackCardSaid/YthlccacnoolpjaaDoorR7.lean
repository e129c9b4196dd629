/-
  Roles: the document's Role, Verb, Word, May, Verbs.
-/
import Derived.Test.YthlccacnoolpjaaDoorR6
namespace Go.Proofs.YthlccacnoolpjaaDoor
open Go.RowKit Go.Shelf

def wordAt (k : Nat) : ByteArray := (table[k]?.getD v0).word
def roleAt (k : Nat) : ByteArray := ([sViewer, sKeeper, sGovernor][k]?).getD ⟨#[]⟩
/-- the document's two tables -/
def VerbsT (W : World) : Prop := ∀ k, k < 10 → W.cell? ⟨1, k, none⟩ = some (.string (wordAt k))
def RolesT (W : World) : Prop := ∀ k, k < 3 → W.cell? ⟨0, k, none⟩ = some (.string (roleAt k))

theorem beq_ne {a b : ByteArray} (h : a ≠ b) : (a.toList == b.toList) = false := by
  rw [← beq_toListBytes]
  exact Bool.eq_false_iff.2 (fun e => h ((MapKept.bytes_beq a b).1 e))
theorem beq_same (a : ByteArray) : (a.toList == a.toList) = true := by simp

theorem table_n (k : Nat) (hk : k < 10) : (table[k]?.getD v0).n = ((k + 1 : Nat) : Int) := by
  have h : k = 0 ∨ k = 1 ∨ k = 2 ∨ k = 3 ∨ k = 4 ∨ k = 5 ∨ k = 6 ∨ k = 7 ∨ k = 8 ∨ k = 9 := by omega
  rcases h with rfl | rfl | rfl | rfl | rfl | rfl | rfl | rfl | rfl | rfl
  all_goals rfl
theorem verbS_hit (s : ByteArray) (k : Nat) (hk : k < 10) (h : (table.take k).filter (fun v => v.word == s) = []) (he : wordAt k = s) : verbS s = (((k + 1 : Nat) : Int), 0) := by
  have e : table = table.take k ++ (table[k]?.getD v0) :: table.drop (k + 1) := by
    have hl : k < table.length := hk
    rw [List.getElem?_eq_getElem hl, Option.getD_some, ← List.drop_eq_getElem_cons hl, List.take_append_drop]
  rw [verbS, e, List.filter_append, h]
  have hw : ((table[k]?.getD v0).word == s) = true := (MapKept.bytes_beq _ _).2 he
  simp only [List.nil_append, List.filter_cons, hw, if_true]
  rw [table_n k hk]
theorem verbS_miss (s : ByteArray) (h : (table.take 10).filter (fun v => v.word == s) = []) : verbS s = (0, 121) := by
  have e : table.take 10 = table := rfl
  rw [e] at h
  rw [verbS, h]

set_option maxHeartbeats 1000000 in
theorem rverb_any (s : ByteArray) (w : World) (hV : VerbsT w) : Calls Tryd.prog 13 #[.string s] w fun e w' => e = .returned (.tuple #[.int .i64 (verbS s).1, .int .i64 (verbS s).2]) ∧ w = w' := by
  have HV := Lib.hid hV
  clear hV
  go_enter Tryd.func13, Tryd.ntmps13
  go_wp2_with fail
  go_loop [4] (fun i => ∃ k : Nat, k ≤ 10 ∧ i = .int .i64 k ∧ (table.take k).filter (fun v => v.word == s) = []) (fun i => 10 - (intOf i).toNat)
  case atStart => exact ⟨0, Nat.zero_le _, rfl, rfl⟩
  case round =>
    obtain ⟨k, hk, rfl, hno⟩ := hrel
    replace hno := Lib.hid hno
    by_cases hlt : k < 10
    · have hck := HV.out k hlt
      have ht := take_table k hlt
      have hit := verbS_hit s k hlt hno.out
      have hwd : (table[k]?.getD v0).word = wordAt k := rfl
      generalize table[k]?.getD v0 = v at ht hwd
      generalize wordAt k = wk at hck hit hwd
      replace ht := Lib.hid ht
      replace hit := Lib.hid hit
      replace hwd := Lib.hid hwd
      clear HV
      by_cases hz : wk = s
      · have hres := hit.out hz
        replace hres := Lib.hid hres
        subst hz
        have hb := beq_same wk
        go_wp2
        go_ret2
        exact ⟨by rw [hres.out]; simp, rfl⟩
      · have hb := beq_ne hz
        have hnx : (table.take (k + 1)).filter (fun v => v.word == s) = [] := by
          have : (v.word == s) = false := by rw [hwd.out, beq_toListBytes]; exact hb
          rw [ht.out, List.filter_append, hno.out]
          simp [this]
        replace hnx := Lib.hid hnx
        clear hz
        go_wp2
        go_round
        case rel => exact ⟨k + 1, by omega, by go_num, hnx.out⟩
        case measure => simp [intOf]; omega
    · obtain rfl : k = 10 := by omega
      have hres := verbS_miss s hno.out
      replace hres := Lib.hid hres
      clear HV
      go_wp2
      go_ret2
      exact ⟨by rw [hres.out]; rfl, rfl⟩

theorem roleS_at (k : Nat) (hk : k < 3) : roleS (roleAt k) = (((k + 1 : Nat) : Int), 0) := by
  have h : k = 0 ∨ k = 1 ∨ k = 2 := by omega
  rcases h with rfl | rfl | rfl <;> decide +kernel
theorem roleS_miss (s : ByteArray) (h : ∀ j, j < 3 → roleAt j ≠ s) : roleS s = (0, 120) := by
  have h0 : ¬ s = sViewer := fun e => h 0 (by omega) e.symm
  have h1 : ¬ s = sKeeper := fun e => h 1 (by omega) e.symm
  have h2 : ¬ s = sGovernor := fun e => h 2 (by omega) e.symm
  rw [roleS, if_neg h0, if_neg h1, if_neg h2]
set_option maxHeartbeats 1000000 in
theorem rrole_any (s : ByteArray) (w : World) (hV : RolesT w) : Calls Tryd.prog 11 #[.string s] w fun e w' => e = .returned (.tuple #[.int .i64 (roleS s).1, .int .i64 (roleS s).2]) ∧ w = w' := by
  have HV := Lib.hid hV
  clear hV
  go_enter Tryd.func11, Tryd.ntmps11
  go_wp2_with fail
  go_loop [4] (fun i => ∃ k : Nat, k ≤ 3 ∧ i = .int .i64 k ∧ ∀ j, j < k → roleAt j ≠ s) (fun i => 3 - (intOf i).toNat)
  case atStart => exact ⟨0, Nat.zero_le _, rfl, fun j hj => by omega⟩
  case round =>
    obtain ⟨k, hk, rfl, hno⟩ := hrel
    replace hno := Lib.hid hno
    by_cases hlt : k < 3
    · have hck := HV.out k hlt
      have hit := roleS_at k hlt
      have hwd : ∀ wk, roleAt k = wk → wk ≠ s → ∀ j, j < k + 1 → roleAt j ≠ s := fun wk h1 h2 j hj => by
        rcases Nat.lt_or_ge j k with h | h
        · exact hno.out j h
        · obtain rfl : j = k := by omega
          rw [h1]; exact h2
      replace hwd := hwd _ rfl
      generalize roleAt k = wk at hck hit hwd
      replace hit := Lib.hid hit
      replace hwd := Lib.hid hwd
      clear HV
      by_cases hz : wk = s
      · subst hz
        have hb := beq_same wk
        go_wp2
        go_ret2
        exact ⟨by rw [hit.out]; simp, rfl⟩
      · have hb := beq_ne hz
        have hnx := hwd.out hz
        replace hnx := Lib.hid hnx
        clear hz hwd
        go_wp2
        go_round
        case rel => exact ⟨k + 1, by omega, by go_num, hnx.out⟩
        case measure => simp [intOf]; omega
    · obtain rfl : k = 3 := by omega
      have hres := roleS_miss s hno.out
      replace hres := Lib.hid hres
      clear HV hno
      go_wp2
      go_ret2
      exact ⟨by rw [hres.out]; rfl, rfl⟩

theorem wordS_out (n : Int) (h : n < 1 ∨ 10 < n) : wordS n = (⟨#[]⟩, 121) := by
  have e : table.filter (fun v => v.n == n) = [] := by
    rw [List.filter_eq_nil_iff]
    intro v hv
    simp [table, vb] at hv
    rcases hv with rfl | rfl | rfl | rfl | rfl | rfl | rfl | rfl | rfl | rfl <;> simp <;> omega
  rw [wordS, e]
theorem wordS_in (k : Nat) (hk : k < 10) : wordS ((k + 1 : Nat) : Int) = (wordAt k, 0) := by
  have h : k = 0 ∨ k = 1 ∨ k = 2 ∨ k = 3 ∨ k = 4 ∨ k = 5 ∨ k = 6 ∨ k = 7 ∨ k = 8 ∨ k = 9 := by omega
  rcases h with rfl | rfl | rfl | rfl | rfl | rfl | rfl | rfl | rfl | rfl
  all_goals rfl
set_option maxHeartbeats 1000000 in
theorem rword_any (n : Int) (w : World) (hV : VerbsT w) : Calls Tryd.prog 15 #[.int .i64 n] w fun e w' => e = .returned (.tuple #[.string (wordS n).1, .int .i64 (wordS n).2]) ∧ w = w' := by
  by_cases h1 : n < 1
  · have e := wordS_out n (.inl h1)
    replace e := Lib.hid e
    clear hV
    go_enter Tryd.func15, Tryd.ntmps15
    go_wp2
    go_ret2
    exact ⟨by rw [e.out]; rfl, rfl⟩
  by_cases h2 : 10 < n
  · have e := wordS_out n (.inr h2)
    replace e := Lib.hid e
    clear hV
    go_enter Tryd.func15, Tryd.ntmps15
    go_wp2
    go_ret2
    exact ⟨by rw [e.out]; rfl, rfl⟩
  obtain ⟨k, rfl⟩ : ∃ k : Nat, n = ((k + 1 : Nat) : Int) := ⟨(n - 1).toNat, by omega⟩
  have hk : k < 10 := by omega
  have e := wordS_in k hk
  have hc := hV k hk
  have hw : IntKind.i64.wrap (((k + 1 : Nat) : Int) - 1) = (k : Int) := by rw [IntKind.wrap_i64]; omega
  generalize wordAt k = wk at e hc
  replace e := Lib.hid e
  clear hV
  go_enter Tryd.func15, Tryd.ntmps15
  have e2 : wordS ((k : Int) + 1) = (wk, 0) := e.out
  replace e2 := Lib.hid e2
  clear e
  go_wp2
  go_ret2
  exact ⟨by rw [e2.out]; rfl, rfl⟩
end Go.Proofs.YthlccacnoolpjaaDoor
