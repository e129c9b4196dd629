/-
  Roles: the walks of the laws RolesTells, RolesFinds, RolesBack.
-/
import Derived.Test.YthlccacnoolpjaaDoorR16
namespace Go.Proofs.YthlccacnoolpjaaDoor
open Go.RowKit Go.Shelf

theorem VerbsT.below {W W' : World} (h : VerbsT W) (hl : 1 < W.heap.size) (hb : Below W.heap.size W W') : VerbsT W' := fun k hk => (hb.cell (p := ⟨1, k, none⟩) hl).trans (h k hk)
theorem RolesT.below {W W' : World} (h : RolesT W) (hl : 0 < W.heap.size) (hb : Below W.heap.size W W') : RolesT W' := fun k hk => (hb.cell (p := ⟨0, k, none⟩) hl).trans (h k hk)
theorem TabT.lt {W : World} (h : TabT W) : 2 < W.heap.size := by
  obtain ⟨_, _, h⟩ := h
  exact (Array.getElem?_eq_some_iff.1 h).1

/-- all three tables -/
def Tabs (W : World) : Prop := TabT W ∧ VerbsT W ∧ RolesT W
theorem Tabs.below {W W' : World} (h : Tabs W) (hb : Below W.heap.size W W') : Tabs W' :=
  ⟨h.1.below hb, h.2.1.below (by have := h.1.lt; omega) hb, h.2.2.below (by have := h.1.lt; omega) hb⟩

set_option maxRecDepth 100000 in
set_option maxHeartbeats 4000000 in
theorem tells_walk (s : ByteArray) (r v : Int) (w : World) (hT : Tabs w) : Calls Tryd.prog 3 #[.string s, .int .i64 r, .int .i64 v] w fun e w' => e = .returned (.bool true) ∧ Below w.heap.size w w' := by
  have T0 := Lib.hid hT
  clear hT
  go_enter Tryd.func3, Tryd.ntmps3
  go_wp2_with fail
  refine (shown_any _ T0.out.1).mono ?_
  rintro e w1 ⟨rfl, hb1⟩
  have T1 := Lib.hid (T0.out.below hb1)
  go_wp2_with fail
  refine (cut_any _ _).mono ?_
  rintro e w2 ⟨rfl, rfl⟩
  generalize cutS 100 s = c
  go_wp2_with fail
  refine (role_any _ _).mono ?_
  rintro e w2 ⟨rfl, hb2⟩
  have hB := bcall hb1 hb2
  have T2 := Lib.hid (T1.out.below hb2)
  clear hb1 hb2 T1
  go_wp2_with fail
  refine (rrole_any _ _ T2.out.2.2).mono ?_
  rintro e w3 ⟨rfl, rfl⟩
  generalize roleS c = p
  obtain ⟨p1, p2⟩ := p
  simp only
  go_wp2_with fail
  refine (verb_t _ _ T2.out.1).mono ?_
  rintro e w3 ⟨rfl, hb3⟩
  have hB2 := bcall hB hb3
  have T3 := Lib.hid (T2.out.below hb3)
  clear hB hb3 T2
  go_wp2_with fail
  refine (rverb_any _ _ T3.out.2.1).mono ?_
  rintro e w4 ⟨rfl, rfl⟩
  generalize verbS c = q
  obtain ⟨q1, q2⟩ := q
  simp only
  go_wp2_with fail
  refine (word_t _ _ T3.out.1).mono ?_
  rintro e w4 ⟨rfl, hb4⟩
  have hB3 := bcall hB2 hb4
  have T4 := Lib.hid (T3.out.below hb4)
  clear hB2 hb4 T3
  go_wp2_with fail
  refine (rword_any _ _ T4.out.2.1).mono ?_
  rintro e w5 ⟨rfl, rfl⟩
  generalize wordS v = z
  obtain ⟨z1, z2⟩ := z
  simp only
  go_wp2_with fail
  refine (may_t _ _ _ T4.out.1).mono ?_
  rintro e w5 ⟨rfl, hb5⟩
  have hB4 := bcall hB3 hb5
  have T5 := Lib.hid (T4.out.below hb5)
  clear hB3 hb5 T4
  go_wp2_with fail
  refine (rmay_any _ _ _).mono ?_
  rintro e w6 ⟨rfl, rfl⟩
  generalize mayS r v = m
  go_wp2_with fail
  refine (verbs_t _ _ T5.out.1).mono ?_
  rintro e w6 ⟨a, rfl, hN, hb6⟩
  have hB5 := bcall hB4 hb6
  clear hB4 hb6 T5
  go_wp2_with fail
  refine (rverbs_any _ _).mono ?_
  rintro e w7 ⟨b, rfl, hM, hb7⟩
  have hB6 := bcall hB5 hb7
  have hN2 := hN.below hb7
  clear hB5 hb7 hN
  go_wp2_with fail
  refine (ints_same _ _ _ (by have := verbsS_len r; omega) _ hN2 hM).mono ?_
  rintro e w8 ⟨rfl, hb8⟩
  go_wp2
  go_ret
  exact ⟨rfl, bcall hB6 hb8⟩

set_option maxRecDepth 100000 in
set_option maxHeartbeats 4000000 in
theorem finds_walk (u : Value) (zs : List Opr) (s : ByteArray) (w : World) (hT : TabT w) (hu : Ops w u zs) : Calls Tryd.prog 4 #[u, .string s] w fun e w' => e = .returned (.bool true) ∧ Below w.heap.size w w' := by
  have T0 := Lib.hid hT
  have U0 := Lib.hid hu
  clear hT hu
  go_enter Tryd.func4, Tryd.ntmps4
  go_wp2_with fail
  refine (shown_any _ T0.out).mono ?_
  rintro e w1 ⟨rfl, hb1⟩
  go_wp2_with fail
  refine (few_any _ _ _ (U0.out.below hb1)).mono ?_
  rintro e w2 ⟨f, rfl, hF, hb2⟩
  have hB := bcall hb1 hb2
  have hl : (fewTo zs 12).length ≤ 1000 := by simp [fewTo]; omega
  generalize fewTo zs 12 = fs at hF hl
  have F2 := Lib.hid hF
  have HL := Lib.hid hl
  clear hb1 hb2 hF hl
  go_wp2_with fail
  refine (cut_any _ _).mono ?_
  rintro e w3 ⟨rfl, rfl⟩
  generalize cutS 100 s = c
  go_wp2_with fail
  refine (find_any _ _ _ HL.out _ F2.out).mono ?_
  rintro e w3 ⟨rfl, hb3⟩
  have hB2 := bcall hB hb3
  have F3 := Lib.hid (F2.out.below hb3)
  clear hB hb3 F2
  go_wp2_with fail
  refine (rfind_any _ _ _ HL.out _ F3.out).mono ?_
  rintro e w4 ⟨rfl, hb4⟩
  have hB3 := bcall hB2 hb4
  have F4 := Lib.hid (F3.out.below hb4)
  clear hB2 hb4 F3
  generalize findS fs c = p
  obtain ⟨p1, p2⟩ := p
  simp only
  go_wp2_with fail
  refine (right_any _ _ HL.out _ F4.out).mono ?_
  rintro e w5 ⟨rfl, hb5⟩
  have hB4 := bcall hB3 hb5
  have F5 := Lib.hid (F4.out.below hb5)
  clear hB3 hb5 F4
  go_wp2_with fail
  refine (rright_any _ _ HL.out _ F5.out).mono ?_
  rintro e w6 ⟨rfl, hb6⟩
  generalize rightS fs = m
  have hB5 := bcall hB4 hb6
  clear hB4 hb6 F5
  go_wp2
  go_ret
  exact ⟨rfl, hB5⟩
end Go.Proofs.YthlccacnoolpjaaDoor
