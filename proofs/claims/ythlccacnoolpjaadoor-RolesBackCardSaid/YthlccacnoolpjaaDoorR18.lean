/-
  Roles: the walks of the laws RolesBack, RolesMore, RolesOne; what they lean on.
-/
import Derived.Test.YthlccacnoolpjaaDoorR17
namespace Go.Proofs.YthlccacnoolpjaaDoor
open Go.RowKit Go.Shelf

theorem back_word (n : Int) : wordS n = (⟨#[]⟩, 121) ∨ ∃ t, wordS n = (t, 0) ∧ verbS t = (n, 0) := by
  by_cases h : n < 1 ∨ 10 < n
  · exact .inl (wordS_out n h)
  · obtain ⟨k, rfl⟩ : ∃ k : Nat, n = ((k + 1 : Nat) : Int) := ⟨(n - 1).toNat, by omega⟩
    have hk : k < 10 := by omega
    refine .inr ⟨_, wordS_in k hk, ?_⟩
    have h : k = 0 ∨ k = 1 ∨ k = 2 ∨ k = 3 ∨ k = 4 ∨ k = 5 ∨ k = 6 ∨ k = 7 ∨ k = 8 ∨ k = 9 := by omega
    rcases h with rfl | rfl | rfl | rfl | rfl | rfl | rfl | rfl | rfl | rfl <;> decide +kernel
theorem word_of_table (v : VerbR) (hv : v ∈ table) : wordS v.n = (v.word, 0) := by
  simp only [table, vb, List.mem_cons, List.not_mem_nil, or_false] at hv
  rcases hv with rfl | rfl | rfl | rfl | rfl | rfl | rfl | rfl | rfl | rfl <;> decide +kernel
theorem back_verb (s : ByteArray) : verbS s = (0, 121) ∨ ∃ m, verbS s = (m, 0) ∧ wordS m = (s, 0) := by
  cases h : table.filter (fun v => v.word == s) with
  | nil => exact .inl (by rw [verbS, h])
  | cons v r =>
    have hm : v ∈ table.filter (fun v => v.word == s) := by rw [h]; exact List.mem_cons_self
    rw [List.mem_filter] at hm
    refine .inr ⟨v.n, by rw [verbS, h], ?_⟩
    rw [word_of_table v hm.1, (MapKept.bytes_beq _ _).1 hm.2]

set_option maxRecDepth 100000 in
set_option maxHeartbeats 4000000 in
theorem back_walk (v : Int) (s : ByteArray) (w : World) (hT : TabT w) : Calls Tryd.prog 6 #[.int .i64 v, .string s] w fun e w' => e = .returned (.bool true) ∧ Below w.heap.size w w' := by
  have T0 := Lib.hid hT
  clear hT
  have B1 := Lib.hid (back_word v)
  go_enter Tryd.func6, Tryd.ntmps6
  go_wp2_with fail
  refine (shown_any _ T0.out).mono ?_
  rintro e w1 ⟨rfl, hb1⟩
  have T1 := Lib.hid (T0.out.below hb1)
  go_wp2_with fail
  refine (cut_any _ _).mono ?_
  rintro e w2 ⟨rfl, rfl⟩
  generalize cutS 100 s = c
  have B2 := Lib.hid (back_verb c)
  go_wp2_with fail
  refine (word_t _ _ T1.out).mono ?_
  rintro e w2 ⟨rfl, hb2⟩
  have hB := bcall hb1 hb2
  have T2 := Lib.hid (T1.out.below hb2)
  clear hb1 hb2 T1
  generalize wordS v = z at B1
  obtain ⟨z1, z2⟩ := z
  simp only
  go_wp2_with fail
  refine (verb_t _ _ T2.out).mono ?_
  rintro e w3 ⟨rfl, hb3⟩
  have hB2 := bcall hB hb3
  have T3 := Lib.hid (T2.out.below hb3)
  clear hB hb3 T2
  go_wp2_with fail
  refine (verb_t _ _ T3.out).mono ?_
  rintro e w4 ⟨rfl, hb4⟩
  have hB3 := bcall hB2 hb4
  have T4 := Lib.hid (T3.out.below hb4)
  clear hB2 hb4 T3
  generalize verbS c = q at B2
  obtain ⟨q1, q2⟩ := q
  simp only
  go_wp2_with fail
  refine (word_t _ _ T4.out).mono ?_
  rintro e w5 ⟨rfl, hb5⟩
  have hB4 := bcall hB3 hb5
  clear hB3 hb5 T4
  rcases B1.out with h1 | ⟨t, h1, h2⟩
  · cases h1
    rcases B2.out with h3 | ⟨m, h3, h4⟩
    · cases h3
      clear B1 B2
      go_wp2
      go_ret
      exact ⟨rfl, hB4⟩
    · cases h3
      rw [h4]
      clear B1 B2 h4
      go_wp2
      go_ret
      exact ⟨rfl, hB4⟩
  · cases h1
    rw [h2]
    rcases B2.out with h3 | ⟨m, h3, h4⟩
    · cases h3
      clear B1 B2 h2
      go_wp2
      go_ret
      exact ⟨rfl, hB4⟩
    · cases h3
      rw [h4]
      clear B1 B2 h4 h2
      go_wp2
      go_ret
      exact ⟨rfl, hB4⟩

theorem mayV_mono (a b : Int) {x : VerbR} (h1 : mayV a x = true) (hx : x ∈ table) (hab : a ≤ b) (hb3 : b ≤ 3) : mayV b x = true := by
  have ha : a = 1 ∨ a = 2 ∨ a = 3 := by
    by_cases h : a = 1 ∨ a = 2 ∨ a = 3
    · exact h
    · rw [mayV_none a (by omega) x hx] at h1; cases h1
  have hb : b = 1 ∨ b = 2 ∨ b = 3 := by omega
  simp only [table, vb, List.mem_cons, List.not_mem_nil, or_false] at hx
  rcases ha with rfl | rfl | rfl <;> rcases hb with rfl | rfl | rfl <;> first | exact h1 | (exfalso; omega) | skip
  all_goals rcases hx with rfl | rfl | rfl | rfl | rfl | rfl | rfl | rfl | rfl | rfl <;> first | rfl | exact absurd h1 (by decide +kernel)
theorem mayS_mono (a b v : Int) (h : mayS a v = true) (hab : a ≤ b) (hb3 : b ≤ 3) : mayS b v = true := by
  rw [mayS_table, List.any_eq_true] at h ⊢
  obtain ⟨x, hx, h⟩ := h
  rw [Bool.and_eq_true] at h
  exact ⟨x, hx, by rw [mayV_mono a b h.1 hx hab hb3, h.2]; rfl⟩
theorem any_succ (zs : List Int) (v : Int) (k : Nat) (hk : k < zs.length) : (zs.take (k + 1)).any (· == v) = ((zs.take k).any (· == v) || ((zs[k]?.getD 0) == v)) := by
  rw [List.take_succ_eq_append_getElem hk, List.any_append]
  simp [hk]
set_option maxRecDepth 100000 in
set_option maxHeartbeats 4000000 in
theorem more_walk (a b v : Int) (w : World) (hT : TabT w) : Calls Tryd.prog 5 #[.int .i64 a, .int .i64 b, .int .i64 v] w fun e w' => e = .returned (.bool true) ∧ Below w.heap.size w w' := by
  have T0 := Lib.hid hT
  clear hT
  go_enter Tryd.func5, Tryd.ntmps5
  go_wp2_with fail
  refine (shown_any _ T0.out).mono ?_
  rintro e w1 ⟨rfl, hb1⟩
  have T1 := Lib.hid (T0.out.below hb1)
  go_wp2_with fail
  refine (verbs_t _ _ T1.out).mono ?_
  rintro e w2 ⟨u, rfl, hN, hb2⟩
  have hB := bcall hb1 hb2
  have T2 := Lib.hid (T1.out.below hb2)
  clear hb1 hb2 T1
  have hlen := verbsS_len a
  have hm : mayS a v = (verbsS a).any (· == v) := rfl
  generalize verbsS a = zs at hN hlen hm
  obtain ⟨p, cap, rfl⟩ := hN.len
  have HN := Lib.hid hN
  have HM := Lib.hid hm
  clear hN hm
  go_wp2_with fail
  go_loop [8, 10] (fun n i => ∃ k : Nat, k ≤ zs.length ∧ i = .int .i64 k ∧ n = .bool ((zs.take k).any (· == v))) (fun _ i => zs.length - (intOf i).toNat)
  case atStart => exact ⟨0, Nat.zero_le _, rfl, by simp⟩
  case round =>
    obtain ⟨k, hk, rfl, rfl⟩ := hrel
    by_cases hlt : k < zs.length
    · rcases HN.out with ⟨h, rfl⟩ | ⟨q, off, c, h, hbl, hc⟩
      · simp at hlt
      cases h
      have hck := hc k hlt
      have hs := any_succ zs v k hlt
      clear hc
      generalize zs[k]?.getD 0 = z at hck hs
      replace hs := Lib.hid hs
      have hk0 : (0 : Int) ≤ (k : Int) := Int.natCast_nonneg _
      have hk1 : (k : Int) < (zs.length : Int) := by omega
      generalize hin : (zs.take k).any (· == v) = g at hs
      replace hin := Lib.hid hin
      cases g
      · go_wp2
        go_round
        case rel => exact ⟨k + 1, by omega, by go_num, by rw [hs.out]; simp⟩
        case measure => simp [intOf]; omega
      · go_wp2
        go_round
        case rel => exact ⟨k + 1, by omega, by go_num, by rw [hs.out]; simp⟩
        case measure => simp [intOf]; omega
    · obtain rfl : k = zs.length := by omega
      have hin : (zs.take zs.length).any (· == v) = mayS a v := by rw [HM.out, List.take_of_length_le (Nat.le_refl _)]
      rw [hin]
      clear hin HN HM
      have HO := Lib.hid (mayS_mono a b v)
      cases hg : mayS a v
      · have HG := Lib.hid hg
        clear hg
        by_cases h1 : b < a
        all_goals by_cases h2 : 3 < b
        all_goals
          go_wp2_with fail
          refine (may_t _ _ _ T2.out).mono ?_
          rintro e w3 ⟨rfl, hb3⟩
          have hB2 := bcall hB hb3
          clear hB hb3
          rw [HG.out]
          go_wp2
          go_ret
          exact ⟨rfl, hB2⟩
      · have HG := Lib.hid hg
        clear hg
        by_cases h1 : b < a
        · go_wp2_with fail
          refine (may_t _ _ _ T2.out).mono ?_
          rintro e w3 ⟨rfl, hb3⟩
          have hB2 := bcall hB hb3
          clear hB hb3
          rw [HG.out]
          go_wp2
          go_ret
          exact ⟨rfl, hB2⟩
        by_cases h2 : 3 < b
        · go_wp2_with fail
          refine (may_t _ _ _ T2.out).mono ?_
          rintro e w3 ⟨rfl, hb3⟩
          have hB2 := bcall hB hb3
          clear hB hb3
          rw [HG.out]
          go_wp2
          go_ret
          exact ⟨rfl, hB2⟩
        have HR := Lib.hid (HO.out HG.out (by omega) (by omega))
        go_wp2_with fail
        refine (may_t _ _ _ T2.out).mono ?_
        rintro e w3 ⟨rfl, hb3⟩
        have hB2 := bcall hB hb3
        have T3 := Lib.hid (T2.out.below hb3)
        clear hB hb3
        rw [HG.out]
        go_wp2_with fail
        refine (may_t _ _ _ T3.out).mono ?_
        rintro e w4 ⟨rfl, hb4⟩
        have hB3 := bcall hB2 hb4
        clear hB2 hb4
        rw [HR.out]
        go_wp2
        go_ret
        exact ⟨rfl, hB3⟩

def isIn (c : ByteArray) (n : Int) (o : Opr) : Bool := o.1 == c && o.2 == n
theorem one_law (fs : List Opr) (c : ByteArray) : findS fs c = (0, 120) ∨ ∃ n, findS fs c = (n, 0) ∧ fs.any (isIn c n) = true ∧ 1 ≤ n ∧ n ≤ 3 := by
  cases hr : rightS fs
  · exact .inl (findS_wrong _ _ hr)
  cases hf : fs.find? (fun o => o.1 == c) with
  | none => exact .inl (by rw [findS, hf]; simp)
  | some o =>
    have hm := List.mem_of_find?_eq_some hf
    have hp : (o.1 == c) = true := List.find?_some (p := fun o : Opr => o.1 == c) hf
    have hg : goodO o = true := by
      have h := hr
      rw [rightS, Bool.and_eq_true, List.all_eq_true] at h
      exact h.2 o hm
    obtain ⟨s, r⟩ := o
    have h4 := ((good_split s r).1 hg).2.2
    refine .inr ⟨r, by rw [findS, if_pos hr, hf], List.any_eq_true.2 ⟨(s, r), hm, ?_⟩, h4.1, h4.2⟩
    simp only [isIn]
    rw [hp]; simp
theorem isIn_succ (c : ByteArray) (n : Int) (zs : List Opr) (k : Nat) (hk : k < zs.length) : (zs.take (k + 1)).any (isIn c n) = ((zs.take k).any (isIn c n) || isIn c n (zs[k]?.getD opr0)) := by
  rw [List.take_succ_eq_append_getElem hk, List.any_append]
  simp [hk]
set_option maxRecDepth 100000 in
set_option maxHeartbeats 4000000 in
theorem one_walk (u : Value) (zs : List Opr) (s : ByteArray) (v : Int) (w : World) (hT : TabT w) (hu : Ops w u zs) : Calls Tryd.prog 7 #[u, .string s, .int .i64 v] w fun e w' => e = .returned (.bool true) ∧ Below w.heap.size w w' := by
  have T0 := Lib.hid hT
  have U0 := Lib.hid hu
  clear hT hu
  go_enter Tryd.func7, Tryd.ntmps7
  go_wp2_with fail
  refine (shown_any _ T0.out).mono ?_
  rintro e w1 ⟨rfl, hb1⟩
  have T1 := Lib.hid (T0.out.below hb1)
  go_wp2_with fail
  refine (few_any _ _ _ (U0.out.below hb1)).mono ?_
  rintro e w2 ⟨f, rfl, hF, hb2⟩
  have hB := bcall hb1 hb2
  have hl : (fewTo zs 12).length ≤ 1000 := by simp [fewTo]; omega
  generalize fewTo zs 12 = fs at hF hl
  have F2 := Lib.hid hF
  have T2 := Lib.hid (T1.out.below hb2)
  clear hb1 hb2 hF T1
  go_wp2_with fail
  refine (cut_any _ _).mono ?_
  rintro e w3 ⟨rfl, rfl⟩
  generalize cutS 100 s = c
  go_wp2_with fail
  refine (find_any _ _ _ hl _ F2.out).mono ?_
  rintro e w3 ⟨rfl, hb3⟩
  have hB2 := bcall hB hb3
  have F3 := Lib.hid (F2.out.below hb3)
  have T3 := Lib.hid (T2.out.below hb3)
  clear hB hb3 F2 T2
  have HO := Lib.hid (one_law fs c)
  generalize findS fs c = p at HO
  obtain ⟨n, e1⟩ := p
  simp only
  obtain ⟨a, cap, rfl⟩ := F3.out.len
  go_wp2_with fail
  go_loop [10, 11] (fun g i => ∃ k : Nat, k ≤ fs.length ∧ i = .int .i64 k ∧ g = .bool ((fs.take k).any (isIn c n))) (fun _ i => fs.length - (intOf i).toNat)
  case atStart => exact ⟨0, Nat.zero_le _, rfl, by simp⟩
  case round =>
    obtain ⟨k, hk, rfl, rfl⟩ := hrel
    by_cases hlt : k < fs.length
    · rcases F3.out with ⟨h, rfl⟩ | ⟨q, off, cp, h, hbl, hc⟩
      · simp at hlt
      cases h
      obtain ⟨d1, d2⟩ := hc k hlt
      have hs := isIn_succ c n fs k hlt
      clear hc
      generalize fs[k]?.getD opr0 = z at d1 d2 hs
      obtain ⟨t, r⟩ := z
      simp only at d1 d2
      replace hs := Lib.hid hs
      have hk0 : (0 : Int) ≤ (k : Int) := Int.natCast_nonneg _
      have hk1 : (k : Int) < (fs.length : Int) := by omega
      generalize hin : (fs.take k).any (isIn c n) = g at hs
      replace hin := Lib.hid hin
      cases g
      · cases hz : t == c
        · have hz2 := hz
          rw [beq_toListBytes] at hz2
          have hq : isIn c n (t, r) = false := by simp only [isIn]; rw [hz]; rfl
          replace hq := Lib.hid hq
          clear hz
          go_wp2
          go_round
          case rel => exact ⟨k + 1, by omega, by go_num, by rw [hs.out, hq.out]; rfl⟩
          case measure => simp [intOf]; omega
        · have hz2 := hz
          rw [beq_toListBytes] at hz2
          have hq : isIn c n (t, r) = (r == n) := by simp only [isIn]; rw [hz]; rfl
          replace hq := Lib.hid hq
          clear hz
          go_wp2
          go_round
          case rel => exact ⟨k + 1, by omega, by go_num, by rw [hs.out, hq.out]; rfl⟩
          case measure => simp [intOf]; omega
      · go_wp2
        go_round
        case rel => exact ⟨k + 1, by omega, by go_num, by rw [hs.out]; rfl⟩
        case measure => simp [intOf]; omega
    · obtain rfl : k = fs.length := by omega
      have hin : (fs.take fs.length).any (isIn c n) = fs.any (isIn c n) := by rw [List.take_of_length_le (Nat.le_refl _)]
      rw [hin]
      clear hin F3 hl
      rcases HO.out with h1 | ⟨n', h1, h2, h3, h4⟩
      · cases h1
        have HG := Lib.hid (mayS_none 0 v (by omega))
        generalize fs.any (isIn c 0) = g
        clear HO
        go_wp2_with fail
        refine (may_t _ _ _ T3.out).mono ?_
        rintro e w3 ⟨rfl, hb3⟩
        have hB3 := bcall hB2 hb3
        clear hB2 hb3
        rw [HG.out]
        go_wp2
        go_ret
        exact ⟨rfl, hB3⟩
      · cases h1
        rw [h2]
        clear HO h2
        go_wp2
        go_ret
        exact ⟨rfl, hB2⟩
end Go.Proofs.YthlccacnoolpjaaDoor
