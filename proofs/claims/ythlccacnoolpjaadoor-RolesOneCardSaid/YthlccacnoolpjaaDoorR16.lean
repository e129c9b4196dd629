/-
  Roles: what the laws show first.
-/
import Derived.Test.YthlccacnoolpjaaDoorR15
namespace Go.Proofs.YthlccacnoolpjaaDoor
open Go.RowKit Go.Shelf

def TabT (W : World) : Prop := ∃ tt fr, W.heap[2]? = some (.cells tabCells tt fr)
theorem TabT.below {W W' : World} (h : TabT W) (hb : Below W.heap.size W W') : TabT W' := by
  obtain ⟨tt, fr, h⟩ := h
  exact ⟨tt, fr, obj_kept hb h⟩
theorem verb_t (s : ByteArray) (w : World) (hT : TabT w) : Calls Tryd.prog 12 #[.string s] w fun e w' => e = .returned (.tuple #[.int .i64 (verbS s).1, .int .i64 (verbS s).2]) ∧ Below w.heap.size w w' := by
  obtain ⟨tt, fr, h⟩ := hT
  exact verb_any s w h
theorem word_t (n : Int) (w : World) (hT : TabT w) : Calls Tryd.prog 14 #[.int .i64 n] w fun e w' => e = .returned (.tuple #[.string (wordS n).1, .int .i64 (wordS n).2]) ∧ Below w.heap.size w w' := by
  obtain ⟨tt, fr, h⟩ := hT
  exact word_any n w h
theorem verbs_t (r : Int) (w : World) (hT : TabT w) : Calls Tryd.prog 19 #[.int .i64 r] w fun e w' => ∃ v, e = .returned v ∧ Nums w' v (verbsS r) ∧ Below w.heap.size w w' := by
  obtain ⟨tt, fr, h⟩ := hT
  exact verbs_any r w h
theorem may_t (r v : Int) (w : World) (hT : TabT w) : Calls Tryd.prog 16 #[.int .i64 r, .int .i64 v] w fun e w' => e = .returned (.bool (mayS r v)) ∧ Below w.heap.size w w' := by
  obtain ⟨tt, fr, h⟩ := hT
  exact mayf_any r v w h

theorem verb_kill (w : World) (hT : TabT w) : Calls Tryd.prog 12 #[.string ⟨#[107, 105, 108, 108]⟩] w fun e w' => e = .returned (.tuple #[.int .i64 8, .int .i64 0]) ∧ Below w.heap.size w w' :=
  (verb_t _ w hT).mono fun e w' ⟨he, hb⟩ => ⟨by rw [he, show verbS ⟨#[107, 105, 108, 108]⟩ = (8, 0) by decide +kernel], hb⟩
theorem verb_Kill (w : World) (hT : TabT w) : Calls Tryd.prog 12 #[.string ⟨#[75, 105, 108, 108]⟩] w fun e w' => e = .returned (.tuple #[.int .i64 0, .int .i64 121]) ∧ Below w.heap.size w w' :=
  (verb_t _ w hT).mono fun e w' ⟨he, hb⟩ => ⟨by rw [he, show verbS ⟨#[75, 105, 108, 108]⟩ = (0, 121) by decide +kernel], hb⟩
theorem word_8 (w : World) (hT : TabT w) : Calls Tryd.prog 14 #[.int .i64 8] w fun e w' => e = .returned (.tuple #[.string ⟨#[107, 105, 108, 108]⟩, .int .i64 0]) ∧ Below w.heap.size w w' :=
  (word_t _ w hT).mono fun e w' ⟨he, hb⟩ => ⟨by rw [he, show wordS 8 = (⟨#[107, 105, 108, 108]⟩, 0) by decide +kernel], hb⟩
theorem role_gov (w : World) : Calls Tryd.prog 10 #[.string ⟨#[103, 111, 118, 101, 114, 110, 111, 114]⟩] w fun e w' => e = .returned (.tuple #[.int .i64 3, .int .i64 0]) ∧ Below w.heap.size w w' :=
  (role_any _ w).mono fun e w' ⟨he, hb⟩ => ⟨by rw [he, show roleS ⟨#[103, 111, 118, 101, 114, 110, 111, 114]⟩ = (3, 0) by decide +kernel], hb⟩
theorem find_ann (w : World) (b : Nat) (h0 : w.cell? ⟨b, 0, none⟩ = some (.string ⟨#[97, 110, 110]⟩)) (h1 : w.cell? ⟨b, 1, none⟩ = some (.int .i64 2)) :
    Calls Tryd.prog 22 #[.slice (some ⟨b, 0, none⟩) 1 1, .string ⟨#[97, 110, 110]⟩] w fun e w' => e = .returned (.tuple #[.int .i64 2, .int .i64 0]) ∧ Below w.heap.size w w' :=
  (find_any _ [(⟨#[97, 110, 110]⟩, 2)] _ (by simp) w (.inr ⟨b, 0, 1, rfl, cell_lt h0, fun j hj => by
    obtain rfl : j = 0 := by simpa using hj
    exact ⟨h0, h1⟩⟩)).mono fun e w' ⟨he, hb⟩ => ⟨by rw [he, show findS [(⟨#[97, 110, 110]⟩, 2)] ⟨#[97, 110, 110]⟩ = (2, 0) by decide +kernel], hb⟩
theorem may_28 (w : World) (hT : TabT w) : Calls Tryd.prog 16 #[.int .i64 2, .int .i64 8] w fun e w' => e = .returned (.bool true) ∧ Below w.heap.size w w' :=
  (may_t _ _ w hT).mono fun e w' ⟨he, hb⟩ => ⟨by rw [he, show mayS 2 8 = true by decide +kernel], hb⟩
theorem may_18 (w : World) (hT : TabT w) : Calls Tryd.prog 16 #[.int .i64 1, .int .i64 8] w fun e w' => e = .returned (.bool false) ∧ Below w.heap.size w w' :=
  (may_t _ _ w hT).mono fun e w' ⟨he, hb⟩ => ⟨by rw [he, show mayS 1 8 = false by decide +kernel], hb⟩
theorem verbs_1 (w : World) (hT : TabT w) : Calls Tryd.prog 19 #[.int .i64 1] w fun e w' => ∃ v, e = .returned v ∧ Nums w' v [9, 10] ∧ Below w.heap.size w w' :=
  (verbs_t _ w hT).mono fun e w' ⟨v, he, hn, hb⟩ => ⟨v, he, by rwa [show verbsS 1 = [9, 10] by decide +kernel] at hn, hb⟩

set_option maxRecDepth 100000 in
set_option maxHeartbeats 2000000 in
theorem shown_any (w : World) (hT : TabT w) : Calls Tryd.prog 8 #[] w fun e w' => e = .returned (.bool true) ∧ Below w.heap.size w w' := by
  have T0 := Lib.hid hT
  clear hT
  go_enter Tryd.func8, Tryd.ntmps8
  go_wp2_with fail
  refine (verb_kill _ T0.out).mono ?_
  rintro e w1 ⟨rfl, hb1⟩
  have T1 := Lib.hid (T0.out.below hb1)
  go_wp2_with fail
  refine (word_8 _ T1.out).mono ?_
  rintro e w2 ⟨rfl, hb2⟩
  have T2 := Lib.hid (T1.out.below hb2)
  go_wp2_with fail
  refine (role_gov _).mono ?_
  rintro e w3 ⟨rfl, hb3⟩
  have T3 := Lib.hid (T2.out.below hb3)
  go_wp2_with fail
  refine (verb_Kill _ T3.out).mono ?_
  rintro e w4 ⟨rfl, hb4⟩
  have T4 := Lib.hid (T3.out.below hb4)
  have hB4 := bcall (bcall (bcall hb1 hb2) hb3) hb4
  clear hb1 hb2 hb3 hb4 T1 T2 T3
  go_wp2_with fail
  refine (find_ann _ _ (by simp [go_sem]) (by simp [go_sem])).mono ?_
  rintro e w5 ⟨rfl, hb5⟩
  have hB5 := bstep hB4 hb5
  have T5 := Lib.hid ((T4.out.below (ba (Below.refl _ _) _)).below hb5)
  clear hb5 T4
  go_wp2_with fail
  refine (may_28 _ T5.out).mono ?_
  rintro e w6 ⟨rfl, hb6⟩
  have T6 := Lib.hid (T5.out.below hb6)
  go_wp2_with fail
  refine (may_18 _ T6.out).mono ?_
  rintro e w7 ⟨rfl, hb7⟩
  have T7 := Lib.hid (T6.out.below hb7)
  go_wp2_with fail
  refine (verbs_1 _ T7.out).mono ?_
  rintro e w8 ⟨v, rfl, hN, hb8⟩
  have hB8 := bcall (bcall (bcall hB5 hb6) hb7) hb8
  clear hb6 hb7 hb8 T5 T6 T7
  go_wp2_with fail
  refine (ints_same _ _ [9, 10] (by simp) _ (hN.below (ba (Below.refl _ _) _)) (.inr ⟨w8.heap.size, 0, 2, rfl, by simp, fun j hj => ?_⟩)).mono ?_
  · have : j = 0 ∨ j = 1 := by simp at hj; omega
    rcases this with rfl | rfl <;> simp [go_sem]
  rintro e w9 ⟨rfl, hb9⟩
  go_wp2
  go_ret
  exact ⟨rfl, bstep hB8 hb9⟩
end Go.Proofs.YthlccacnoolpjaaDoor
