/-
  Roles: whose role it is, by the program; which operators are right, by the document.
-/
import Derived.Test.YthlccacnoolpjaaDoorR13
namespace Go.Proofs.YthlccacnoolpjaaDoor
open Go.RowKit Go.Shelf

def hasTo (zs : List Opr) (s : ByteArray) (k : Nat) : Bool := (zs.take k).any (fun o => o.1 == s)
def findS (zs : List Opr) (s : ByteArray) : Int × Int := if rightS zs then (match zs.find? (fun o => o.1 == s) with | some o => (o.2, 0) | none => (0, 120)) else (0, 120)
theorem has_succ (zs : List Opr) (s : ByteArray) (k : Nat) (hk : k < zs.length) (h : hasTo zs s k = false) : hasTo zs s (k + 1) = ((zs[k]?.getD opr0).1 == s) := by
  unfold hasTo at h ⊢
  rw [List.take_succ_eq_append_getElem hk, List.any_append, h]
  simp [hk]
theorem find_none {zs : List Opr} {s : ByteArray} (h : zs.any (fun o => o.1 == s) = false) : zs.find? (fun o => o.1 == s) = none := by
  rw [List.find?_eq_none]
  rw [List.any_eq_false] at h
  exact h
theorem findS_hit (zs : List Opr) (s : ByteArray) (k : Nat) (hk : k < zs.length) (hr : rightS zs = true) (h : hasTo zs s k = false) (e : ((zs[k]?.getD opr0).1 == s) = true) : findS zs s = ((zs[k]?.getD opr0).2, 0) := by
  have h1 : zs.find? (fun o => o.1 == s) = some zs[k] := by
    simp only [List.getElem?_eq_getElem hk, Option.getD_some] at e
    have hd := List.drop_eq_getElem_cons hk
    have ht := List.take_append_drop k zs
    have hn := find_none h
    generalize zs[k] = z at e hd
    rw [← ht, List.find?_append, hn, hd]
    simp only [Option.none_or, List.find?_cons]
    rw [e]
  rw [findS, if_pos hr, h1]
  simp [List.getElem?_eq_getElem hk]
theorem findS_miss (zs : List Opr) (s : ByteArray) (h : hasTo zs s zs.length = false) : findS zs s = (0, 120) := by
  unfold hasTo at h
  rw [List.take_of_length_le (Nat.le_refl _)] at h
  rw [findS, find_none h]
  simp
theorem findS_wrong (zs : List Opr) (s : ByteArray) (h : rightS zs = false) : findS zs s = (0, 120) := by
  rw [findS, h]; simp

set_option maxHeartbeats 2000000 in
theorem find_any (u : Value) (zs : List Opr) (s : ByteArray) (h1000 : zs.length ≤ 1000) (w : World) (hu : Ops w u zs) : Calls Tryd.prog 22 #[u, .string s] w fun e w' => e = .returned (.tuple #[.int .i64 (findS zs s).1, .int .i64 (findS zs s).2]) ∧ Below w.heap.size w w' := by
  obtain ⟨a, ca, rfl⟩ := hu.len
  have HU := Lib.hid hu
  clear hu
  cases hrt : rightS zs
  · have hres := findS_wrong zs s hrt
    replace hres := Lib.hid hres
    replace hrt := Lib.hid hrt
    go_enter Tryd.func22, Tryd.ntmps22
    go_wp2_with fail
    refine (right_any _ zs h1000 _ HU.out).mono ?_
    rintro e w1 ⟨rfl, hb⟩
    rw [hrt.out]
    go_wp2
    go_ret2
    exact ⟨by rw [hres.out]; rfl, hb⟩
  have HR := Lib.hid hrt
  clear hrt
  go_enter Tryd.func22, Tryd.ntmps22
  go_wp2_with fail
  refine (right_any _ zs h1000 _ HU.out).mono ?_
  rintro e w1 ⟨rfl, hb1⟩
  rw [HR.out]
  have HU1 := Lib.hid (HU.out.below hb1)
  go_wp2_with fail
  go_loopw [13] (fun i wr => ∃ k : Nat, k ≤ zs.length ∧ i = .int .i64 (k : Int) ∧ hasTo zs s k = false ∧ Below w1.heap.size w1 wr) (fun i _ => zs.length - (intOf i).toNat)
  case atStart => exact ⟨0, Nat.zero_le _, rfl, by simp [hasTo], Below.refl _ _⟩
  case round =>
    obtain ⟨k, hk, rfl, hno, hb⟩ := hrel
    replace hno := Lib.hid hno
    by_cases hlt : k < zs.length
    · rcases HU1.out.below hb with ⟨h, rfl⟩ | ⟨b1, o1, c1, h, hl1, hc1⟩
      · simp at hlt
      cases h
      obtain ⟨d1, d2⟩ := hc1 k hlt
      have hsu := has_succ zs s k hlt hno.out
      have hit := findS_hit zs s k hlt HR.out hno.out
      clear hc1
      generalize zs[k]?.getD opr0 = z at d1 d2 hsu hit
      obtain ⟨t, r⟩ := z
      simp only at d1 d2 hsu hit
      have hk0 : (0 : Int) ≤ (k : Int) := Int.natCast_nonneg _
      have hk1 : (k : Int) < (zs.length : Int) := by omega
      have hAB := bcall hb1 (hb.alloc hb.size (.cells #[.string t, .int .i64 r] 42))
      have hA1 : Below w1.heap.size w1 (wr.alloc (.cells #[.string t, .int .i64 r] 42)) := hb.alloc hb.size _
      cases hz : t == s
      · rw [hz] at hsu
        replace hsu := Lib.hid hsu
        have hz2 := hz
        rw [beq_toListBytes] at hz2
        clear hit hz
        go_wp2
        go_roundw
        case rel => exact ⟨k + 1, by omega, by go_num, hsu.out, hA1⟩
        case measure => simp [intOf]; omega
      · have hres := hit hz
        replace hres := Lib.hid hres
        have hz2 := hz
        rw [beq_toListBytes] at hz2
        clear hit hz hsu
        go_wp2
        go_ret2
        exact ⟨by rw [hres.out]; rfl, hAB⟩
    · obtain rfl : k = zs.length := by omega
      have hres := findS_miss zs s hno.out
      replace hres := Lib.hid hres
      clear hno
      go_wp2
      go_ret2
      exact ⟨by rw [hres.out]; rfl, bcall hb1 hb⟩

theorem fresh_to_false (zs : List Opr) (k : Nat) (hk : k < zs.length) (hg : goodO (zs[k]?.getD opr0) = false) : rightS zs = false := by
  rw [rightS, all_not zs k hk hg, Bool.and_false]
theorem right_dup (zs : List Opr) (k : Nat) (hk : k < zs.length) (hn : (zs[k]?.getD opr0).1 ∈ (zs.take k).map (·.1)) : rightS zs = false := by
  rw [rightS, fresh_not zs k hk hn]; rfl
def metTo (zs : List Opr) (s : ByteArray) (k : Nat) : Bool := hasTo zs s k
theorem met_not (zs : List Opr) (s : ByteArray) (k : Nat) (h : hasTo zs s k = false) : s ∉ (zs.take k).map (·.1) := by
  intro hm
  obtain ⟨o, ho, rfl⟩ := List.mem_map.1 hm
  unfold hasTo at h
  rw [List.any_eq_false] at h
  exact h o ho ((MapKept.bytes_beq _ _).2 rfl)
theorem met_mem (zs : List Opr) (s : ByteArray) (j k : Nat) (hj : j < k) (hk : k < zs.length) (e : ((zs[j]?.getD opr0).1 == s) = true) : s ∈ (zs.take k).map (·.1) := by
  have hj' : j < zs.length := by omega
  simp only [List.getElem?_eq_getElem hj', Option.getD_some] at e
  refine List.mem_map.2 ⟨zs[j], ?_, (MapKept.bytes_beq _ _).1 e⟩
  have : j < (zs.take k).length := by simp; omega
  have e2 : (zs.take k)[j] = zs[j] := by simp
  rw [← e2]; exact List.getElem_mem this
theorem right_end (zs : List Opr) (h1 : freshTo zs zs.length = true) (h2 : (zs.take zs.length).all goodO = true) : rightS zs = decide (zs.length ≤ 10) := by
  rw [List.take_of_length_le (Nat.le_refl _)] at h2
  rw [rightS, fresh_all zs h1, h2]; simp
theorem good_split (s : ByteArray) (r : Int) : goodO (s, r) = true ↔ ¬ s.toList = [] ∧ wordR s = true ∧ 1 ≤ r ∧ r ≤ 3 := by
  have h1 : (s == ByteArray.empty) = decide (s.toList = []) := by
    rw [beq_toListBytes]
    by_cases h : s.toList = []
    · rw [h]; decide +kernel
    · simp only [h, decide_false]
      have : ByteArray.empty.toList = [] := by decide +kernel
      rw [this]; simpa using h
  have h2 : roledS r = decide (1 ≤ r ∧ r ≤ 3) := by
    unfold roledS setsS
    by_cases h3 : r = 3
    · subst h3; rfl
    by_cases h2 : r = 2
    · subst h2; rfl
    by_cases h1 : r = 1
    · subst h1; rfl
    rw [if_neg h3, if_neg h2, if_neg h1]
    have : ¬ (1 ≤ r ∧ r ≤ 3) := by omega
    simp [this]
  simp only [goodO, namedS, h1, h2]
  simp [and_assoc]

set_option maxHeartbeats 4000000 in
theorem rright_any (u : Value) (zs : List Opr) (h1000 : zs.length ≤ 1000) (w : World) (hu : Ops w u zs) : Calls Tryd.prog 25 #[u] w fun e w' => e = .returned (.bool (rightS zs)) ∧ Below w.heap.size w w' := by
  obtain ⟨a, ca, rfl⟩ := hu.len
  have HU := Lib.hid hu
  clear hu
  go_enter Tryd.func25, Tryd.ntmps25
  go_wp2_with fail
  go_loopw [3] (fun i wr => ∃ k : Nat, k ≤ zs.length ∧ i = .int .i64 (k : Int) ∧ freshTo zs k = true ∧ (zs.take k).all goodO = true ∧ Below w.heap.size w wr) (fun i _ => zs.length - (intOf i).toNat)
  case atStart => exact ⟨0, Nat.zero_le _, rfl, by simp [freshTo], by simp, Below.refl _ _⟩
  case round =>
    obtain ⟨k, hk, rfl, hfr, hal, hb⟩ := hrel
    replace hfr := Lib.hid hfr
    replace hal := Lib.hid hal
    by_cases hlt : k < zs.length
    · rcases HU.out.below hb with ⟨h, rfl⟩ | ⟨b1, o1, c1, h, hl1, hc1⟩
      · simp at hlt
      cases h
      have HC := Lib.hid hc1
      obtain ⟨d1, d2⟩ := hc1 k hlt
      have hal2 := all_take zs k hlt
      have hfs := fresh_succ zs k hlt hfr.out
      have hdup := right_dup zs k hlt
      have hgn := fresh_to_false zs k hlt
      have hmem := fun s j hj => met_mem zs s j k hj hlt
      have hz0 : zs[k]?.getD opr0 = zs[k]?.getD opr0 := rfl
      clear hc1
      generalize hz : zs[k]?.getD opr0 = z at d1 d2 hal2 hfs hdup hgn
      clear hz0
      obtain ⟨s, r⟩ := z
      simp only at d1 d2 hal2 hfs hdup hgn
      replace hal2 := Lib.hid hal2
      replace hfs := Lib.hid hfs
      replace hdup := Lib.hid hdup
      replace hgn := Lib.hid hgn
      replace hmem := Lib.hid hmem
      replace hz := Lib.hid hz
      have hk0 : (0 : Int) ≤ (k : Int) := Int.natCast_nonneg _
      have hk1 : (k : Int) < (zs.length : Int) := by omega
      by_cases hs : s.toList = []
      · have hres := hgn.out (Bool.eq_false_iff.2 fun h => ((good_split s r).1 h).1 hs)
        replace hres := Lib.hid hres
        go_wp2_with fail
        go_ret
        exact ⟨ret_bool (by rw [hres.out]), hb⟩
      cases hw : wordR s
      · have hres := hgn.out (Bool.eq_false_iff.2 fun h => by have := ((good_split s r).1 h).2.1; rw [hw] at this; cases this)
        replace hres := Lib.hid hres
        replace hw := Lib.hid hw
        go_wp2_with fail
        refine (rwright_any s _).mono ?_
        rintro e w1 ⟨rfl, rfl⟩
        rw [hw.out]
        go_wp2
        go_ret
        exact ⟨ret_bool (by rw [hres.out]), hb⟩
      replace hw := Lib.hid hw
      by_cases hr1 : r < 1
      · have hres := hgn.out (Bool.eq_false_iff.2 fun h => by have := ((good_split s r).1 h).2.2; omega)
        replace hres := Lib.hid hres
        go_wp2_with fail
        refine (rwright_any s _).mono ?_
        rintro e w1 ⟨rfl, rfl⟩
        rw [hw.out]
        go_wp2
        go_ret
        exact ⟨ret_bool (by rw [hres.out]), hb⟩
      by_cases hr3 : 3 < r
      · have hres := hgn.out (Bool.eq_false_iff.2 fun h => by have := ((good_split s r).1 h).2.2; omega)
        replace hres := Lib.hid hres
        go_wp2_with fail
        refine (rwright_any s _).mono ?_
        rintro e w1 ⟨rfl, rfl⟩
        rw [hw.out]
        go_wp2
        go_ret
        exact ⟨ret_bool (by rw [hres.out]), hb⟩
      have hgood := (good_split s r).2 ⟨hs, hw.out, by omega, by omega⟩
      have hal3 : (zs.take (k + 1)).all goodO = true := by rw [hal2.out, hal.out, hgood]; rfl
      replace hal3 := Lib.hid hal3
      replace hgood := Lib.hid hgood
      have hs2 : s.toList.isEmpty = false := by simpa using hs
      have hr4 : 1 ≤ r := by omega
      have hr5 : r ≤ 3 := by omega
      go_wp2_with fail
      refine (rwright_any s _).mono ?_
      rintro e w1 ⟨rfl, rfl⟩
      rw [hw.out]
      go_wp2_with fail
      have HD := Lib.hid d1
      have hl := Lib.hid hlt
      clear d1 d2 hr1 hr3 hs hs2 hr4 hr5
      go_loopw [4] (fun i wr2 => ∃ j : Nat, j ≤ k ∧ i = .int .i64 (j : Int) ∧ hasTo zs s j = false ∧ Below wr.heap.size wr wr2) (fun i _ => k - (intOf i).toNat)
      case atStart => exact ⟨0, Nat.zero_le _, rfl, by simp [hasTo], Below.refl _ _⟩
      case round =>
        obtain ⟨j, hj, rfl, hno, hb2⟩ := hrel
        replace hno := Lib.hid hno
        by_cases hjk : j < k
        · have hj9 : j < zs.length := by omega
          have e1 := (hb2.cell (p := ⟨b1, o1 + j * 2, none⟩) hl1).trans (HC.out j hj9).1
          have e2 := (hb2.cell (p := ⟨b1, o1 + k * 2, none⟩) hl1).trans HD.out
          have hsu := has_succ zs s j hj9 hno.out
          have hme := hmem.out s j hjk
          generalize zs[j]?.getD opr0 = y at e1 hsu hme
          obtain ⟨t, r2⟩ := y
          simp only at e1 hsu hme
          have hj0 : (0 : Int) ≤ (j : Int) := Int.natCast_nonneg _
          have hj1 : (j : Int) < (zs.length : Int) := by omega
          cases hz : t == s
          · rw [hz] at hsu
            replace hsu := Lib.hid hsu
            have hz2 := hz
            rw [beq_toListBytes] at hz2
            clear hz hme
            go_wp2_with fail
            go_quiet (fail)
            go_wp2
            go_roundw
            case rel => exact ⟨j + 1, by omega, by go_num, hsu.out, belowN hb2 _⟩
            case measure => simp [intOf]; omega
          · have hres := hdup.out (hme hz)
            replace hres := Lib.hid hres
            have hz2 := hz
            rw [beq_toListBytes] at hz2
            clear hz hme hsu
            go_wp2_with fail
            go_quiet (fail)
            go_wp2
            go_ret
            exact ⟨ret_bool (by rw [hres.out]), belowN (bcall hb hb2) _⟩
        · obtain rfl : j = k := by omega
          have hf2 := hfs.out (met_not _ _ _ hno.out)
          replace hf2 := Lib.hid hf2
          clear hno
          go_wp2
          have hlt := hl.out
          go_roundw
          case rel => exact ⟨j + 1, by omega, by go_num, hf2.out, hal3.out, bcall hb hb2⟩
          case measure => simp [intOf]; omega
    · obtain rfl : k = zs.length := by omega
      have hres := right_end zs hfr.out hal.out
      replace hres := Lib.hid hres
      clear hfr hal
      go_wp2
      go_ret
      exact ⟨ret_bool (by rw [hres.out]; exact decide_eq_decide.2 (by omega)), hb⟩
end Go.Proofs.YthlccacnoolpjaaDoor
