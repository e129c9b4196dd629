/-
  Sha: digits of two texts; digits in two parts; the document's digits: the laws' walks.
-/
import Derived.Test.YtiakcjckebghlaaDoorS11
namespace Go.Proofs.YtiakcjckebghlaaDoor
open Go.RowKit Go.Shelf

theorem toL_append (a b : ByteArray) : (a ++ b).data.toList = a.data.toList ++ b.data.toList := by
  simp [ByteArray.data_append]
theorem size_append (a b : ByteArray) : (a ++ b).size = a.size + b.size := by simp
set_option maxHeartbeats 4000000 in
theorem joins_walk (s t : ByteArray) (w : World) (hC : ConstT 1 w) (hlt1 : 1 < w.heap.size) : Calls Tryd.prog 7 #[.string s, .string t] w fun e w' => e = .returned (.bool true) ∧ Below w.heap.size w w' := by
  go_enter Tryd.func7, Tryd.ntmps7
  go_wp2_with fail
  refine (shown_any _ hC hlt1).mono ?_
  rintro e w1 ⟨rfl, hb1⟩
  have hz1 := hb1.size
  go_wp2_with fail
  refine (cut_any _ _).mono ?_
  rintro e w2 ⟨rfl, rfl⟩
  go_wp2_with fail
  refine (cut_any _ _).mono ?_
  rintro e w2 ⟨rfl, rfl⟩
  have h1 := cutB_size s
  have h2 := cutB_size t
  have hj : ofL (hexL (cutB s ++ cutB t).data.toList) = ofL (hexL (cutB s).data.toList) ++ ofL (hexL (cutB t).data.toList) := by rw [toL_append, hexL_append, ofL_append]
  have hl1 : (ofL (hexL (cutB s).data.toList)).size ≤ 600 := by rw [ofL_size, hexL_len]; have : (cutB s).data.toList.length = (cutB s).size := (Lib.size_eq _).symm; omega
  have hl2 : (ofL (hexL (cutB t).data.toList)).size ≤ 600 := by rw [ofL_size, hexL_len]; have : (cutB t).data.toList.length = (cutB t).size := (Lib.size_eq _).symm; omega
  have hx1 := fun W => hex_any (cutB s) (by omega) W
  have hx2 := fun W => hex_any (cutB t) (by omega) W
  have hx3 := fun W => hex_any (cutB s ++ cutB t) (by rw [size_append]; omega) W
  rw [hj] at hx3
  generalize cutB s = a at *
  generalize cutB t = b at *
  generalize ofL (hexL a.data.toList) = x at *
  generalize ofL (hexL b.data.toList) = y at *
  replace hx1 := Lib.hid hx1
  replace hx2 := Lib.hid hx2
  replace hx3 := Lib.hid hx3
  clear hj
  have n1 : ¬((9223372036854775807 : Int) < (a.size : Int) + (b.size : Int)) := by omega
  have n2 : ¬((9223372036854775807 : Int) < (x.size : Int) + (y.size : Int)) := by omega
  go_wp2_with fail
  refine (hx3.out _).mono ?_
  rintro e w3 ⟨rfl, hb3⟩
  go_wp2_with fail
  refine (hx1.out _).mono ?_
  rintro e w4 ⟨rfl, hb4⟩
  go_wp2_with fail
  refine (hx2.out _).mono ?_
  rintro e w5 ⟨rfl, hb5⟩
  have hB5 : Below w.heap.size w w5 := ((hb1.trans (hb3.mono hz1)).trans (hb4.mono (Nat.le_trans hz1 hb3.size))).trans (hb5.mono (Nat.le_trans hz1 (Nat.le_trans hb3.size hb4.size)))
  clear hb1 hb3 hb4 hb5
  go_wp2
  go_ret
  exact ⟨rfl, hB5⟩
end Go.Proofs.YtiakcjckebghlaaDoor
