/-
  Roles: operators: a slice of them; are.
-/
import Derived.Test.YthlccacnoolpjaaDoorR11
namespace Go.Proofs.YthlccacnoolpjaaDoor
open Go.RowKit Go.Shelf

/-- an operator: its name and its role -/
abbrev Opr := ByteArray × Int
def opr0 : Opr := (⟨#[]⟩, 0)
/-- a slice of operators -/
def Ops (W : World) (v : Value) (zs : List Opr) : Prop :=
  (v = .slice none 0 0 ∧ zs = []) ∨ ∃ b off cap, v = .slice (some ⟨b, off, none⟩) zs.length cap ∧ b < W.heap.size ∧
    ∀ j, j < zs.length → W.cell? ⟨b, off + j * 2, none⟩ = some (.string (zs[j]?.getD opr0).1) ∧ W.cell? ⟨b, off + j * 2 + 1, none⟩ = some (.int .i64 (zs[j]?.getD opr0).2)
theorem Ops.below {W W' : World} {v : Value} {zs : List Opr} (h : Ops W v zs) (hb : Below W.heap.size W W') : Ops W' v zs := by
  rcases h with e | ⟨b, off, cap, e, hl, hc⟩
  · exact .inl e
  · exact .inr ⟨b, off, cap, e, Nat.lt_of_lt_of_le hl hb.size, fun j hj => ⟨(hb.cell (p := ⟨b, off + j * 2, none⟩) hl).trans (hc j hj).1, (hb.cell (p := ⟨b, off + j * 2 + 1, none⟩) hl).trans (hc j hj).2⟩⟩
theorem Ops.len {W : World} {v : Value} {zs : List Opr} (h : Ops W v zs) : ∃ a cap, v = .slice a zs.length cap := by
  rcases h with ⟨rfl, rfl⟩ | ⟨b, off, cap, rfl, _⟩
  · exact ⟨none, 0, rfl⟩
  · exact ⟨_, cap, rfl⟩
def goodO (o : Opr) : Bool := namedS o.1 && roledS o.2
theorem all_take (zs : List Opr) (k : Nat) (hk : k < zs.length) : (zs.take (k + 1)).all goodO = ((zs.take k).all goodO && goodO (zs[k]?.getD opr0)) := by
  rw [List.take_succ_eq_append_getElem hk, List.all_append]
  simp [hk]
theorem all_not (zs : List Opr) (k : Nat) (hk : k < zs.length) (h : goodO (zs[k]?.getD opr0) = false) : zs.all goodO = false := by
  have e := all_take zs k hk
  rw [h, Bool.and_false] at e
  rw [← List.take_append_drop (k + 1) zs, List.all_append, e]; rfl

set_option maxHeartbeats 2000000 in
theorem are_any (u : Value) (zs : List Opr) (h1000 : zs.length ≤ 1000) (q : Nat) (w : World) (hu : Ops w u zs) (q0 : w.cell? ⟨q, 0, none⟩ = some (.func (.func 32) #[] #[])) (q1 : w.cell? ⟨q, 1, none⟩ = some (.func (.func 33) #[] #[])) :
    Calls Tryd.prog 31 #[u, .slice (some ⟨q, 0, none⟩) 2 2] w fun e w' => e = .returned (.bool (zs.all goodO)) ∧ Below w.heap.size w w' := by
  obtain ⟨a, ca, rfl⟩ := hu.len
  have HU := Lib.hid hu
  clear hu
  have Q0 := Lib.hid q0
  have Q1 := Lib.hid q1
  clear q0 q1
  go_enter Tryd.func31, Tryd.ntmps31
  go_wp2_with fail
  go_loopw [11] (fun i wr => ∃ k : Nat, k ≤ zs.length ∧ i = .int .i64 (k : Int) ∧ (zs.take k).all goodO = true ∧ Below w.heap.size w wr) (fun i _ => zs.length - (intOf i).toNat)
  case atStart => exact ⟨0, Nat.zero_le _, rfl, by simp, Below.refl _ _⟩
  case round =>
    obtain ⟨k, hk, rfl, hal, hb⟩ := hrel
    replace hal := Lib.hid hal
    by_cases hlt : k < zs.length
    · rcases HU.out.below hb with ⟨h, rfl⟩ | ⟨b1, o1, c1, h, hl1, hc1⟩
      · simp at hlt
      cases h
      obtain ⟨d1, d2⟩ := hc1 k hlt
      have hsu := all_take zs k hlt
      have hno := all_not zs k hlt
      clear hc1
      generalize zs[k]?.getD opr0 = z at d1 d2 hsu hno
      obtain ⟨s, r⟩ := z
      simp only at d1 d2
      have q0 := cell_stays Q0.out (hb.mono (by omega))
      have q1 := cell_stays Q1.out (hb.mono (by omega))
      replace hsu := Lib.hid hsu
      replace hno := Lib.hid hno
      have hk0 : (0 : Int) ≤ (k : Int) := Int.natCast_nonneg _
      have hk1 : (k : Int) < (zs.length : Int) := by omega
      go_wp2_with fail
      have hB1 : Below w.heap.size w (wr.alloc (.cells #[.string s, .int .i64 r] 42)) := hb.alloc (hb.size) _
      have d1 : (wr.alloc (.cells #[.string s, .int .i64 r] 42)).cell? ⟨wr.heap.size, 0, none⟩ = some (.string s) := by simp [go_sem]
      have d2 : (wr.alloc (.cells #[.string s, .int .i64 r] 42)).cell? ⟨wr.heap.size, 1, none⟩ = some (.int .i64 r) := by simp [go_sem]
      have hlt0 : wr.heap.size < (wr.alloc (.cells #[.string s, .int .i64 r] 42)).heap.size := by simp
      generalize wr.alloc (.cells #[.string s, .int .i64 r] 42) = W0 at hB1 d1 d2 hlt0 ⊢
      generalize wr.heap.size = B at d1 d2 hlt0 ⊢
      have D1 := Lib.hid d1
      have D2 := Lib.hid d2
      clear d1 d2 q0 q1 hb
      go_loopw [17] (fun i wr => ∃ j : Nat, j ≤ 2 ∧ i = .int .i64 (j : Int) ∧ (1 ≤ j → namedS s = true) ∧ (2 ≤ j → roledS r = true) ∧ Below W0.heap.size W0 wr) (fun i _ => 2 - (intOf i).toNat)
      case atStart => exact ⟨0, Nat.zero_le _, rfl, by omega, by omega, Below.refl _ _⟩
      case round =>
        obtain ⟨j, hj, rfl, hj1, hj2, hb⟩ := hrel
        replace hj1 := Lib.hid hj1
        replace hj2 := Lib.hid hj2
        have q0 := cell_stays Q0.out ((hB1.trans (hb.mono hB1.size)))
        have q1 := cell_stays Q1.out ((hB1.trans (hb.mono hB1.size)))
        have d1 := cell_stays D1.out hb
        have d2 := cell_stays D2.out hb
        have hj3 : j = 0 ∨ j = 1 ∨ j = 2 := by omega
        have HL := Lib.hid hlt
        clear hlt hk0 hk1 hl1
        rcases hj3 with rfl | rfl | rfl
        · go_wp2_with fail
          refine (named_any _ _ _).mono ?_
          rintro e w1 ⟨rfl, hb1⟩
          have hbb := bcall hb hb1
          have hB2 := bcall hB1 hbb
          clear q0 q1 d1 d2 hb hb1
          cases hn : namedS s
          · have hres : zs.all goodO = false := hno.out (by rw [goodO, hn]; rfl)
            replace hres := Lib.hid hres
            go_wp2
            go_ret
            exact ⟨by rw [hres.out]; rfl, hB2⟩
          · have hn2 := Lib.hid hn
            clear hn
            go_wp2
            go_roundw
            case rel => exact ⟨1, by omega, rfl, fun _ => hn2.out, by omega, hbb⟩
            case measure => simp [intOf]
        · have hn := hj1.out (Nat.le_refl _)
          go_wp2_with fail
          refine (roled_any _ _ _).mono ?_
          rintro e w1 ⟨rfl, hb1⟩
          have hbb := bcall hb hb1
          have hB2 := bcall hB1 hbb
          clear q0 q1 d1 d2 hb hb1
          replace hn := Lib.hid hn
          cases hr : roledS r
          · have hres : zs.all goodO = false := hno.out (by simp only [goodO]; rw [hr, Bool.and_false])
            replace hres := Lib.hid hres
            go_wp2
            go_ret
            exact ⟨by rw [hres.out]; rfl, hB2⟩
          · have hr2 := Lib.hid hr
            clear hr
            go_wp2
            go_roundw
            case rel => exact ⟨2, by omega, rfl, fun _ => hn.out, fun _ => hr2.out, hbb⟩
            case measure => simp [intOf]
        · have hg : goodO (s, r) = true := by simp only [goodO]; rw [hj1.out (by omega), hj2.out (by omega)]; rfl
          have hal2 : (zs.take (k + 1)).all goodO = true := by rw [hsu.out, hal.out, hg]; rfl
          replace hal2 := Lib.hid hal2
          replace hg := Lib.hid hg
          clear q0 q1 d1 d2
          go_wp2
          have hlt := HL.out
          go_roundw
          case rel => exact ⟨k + 1, by omega, by go_num, hal2.out, bcall hB1 hb⟩
          case measure => simp [intOf]; omega
    · obtain rfl : k = zs.length := by omega
      have hres : zs.all goodO = true := by have h := hal.out; rwa [List.take_of_length_le (Nat.le_refl _)] at h
      replace hres := Lib.hid hres
      clear HU hal
      go_wp2
      go_ret
      exact ⟨by rw [hres.out]; rfl, hb⟩
end Go.Proofs.YthlccacnoolpjaaDoor
