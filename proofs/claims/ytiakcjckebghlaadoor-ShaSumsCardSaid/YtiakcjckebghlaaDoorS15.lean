/-
  Sha: sums and padded texts as the document tells: the law's walk.
-/
import Derived.Test.YtiakcjckebghlaaDoorS12
import Derived.Test.YtiakcjckebghlaaDoorS17
namespace Go.Proofs.YtiakcjckebghlaaDoor
open Go.RowKit Go.Shelf

theorem constT_below {g n : Nat} {W W' : World} (h : ConstT g W) (hb : Below n W W') (hg : g < n) : ConstT g W' := fun k hk => by
  have e : W'.cell? ⟨g, k, none⟩ = W.cell? ⟨g, k, none⟩ := by unfold World.cell?; rw [hb.block g hg]
  exact e.trans (h k hk)
set_option maxHeartbeats 4000000 in
theorem sums_walk (s : ByteArray) (w : World) (hC : ConstT 1 w) (hlt1 : 1 < w.heap.size) (hR : ConstT 0 w) : Calls Tryd.prog 3 #[.string s] w fun e w' => e = .returned (.bool true) ∧ Below w.heap.size w w' := by
  replace hR := Lib.hid hR
  have HC := Lib.hid hC
  go_enter Tryd.func3, Tryd.ntmps3
  go_wp2_with fail
  refine (shown_any _ hC hlt1).mono ?_
  rintro e w1 ⟨rfl, hb1⟩
  have hz1 := hb1.size
  clear hC
  go_wp2_with fail
  refine (cut_any _ _).mono ?_
  rintro e w2 ⟨rfl, rfl⟩
  have h1 := cutB_size s
  have hC1 : ConstT 1 w1 := constT_below HC.out hb1 hlt1
  have hR1 : ConstT 0 w1 := constT_below hR.out hb1 (by omega)
  have hx1 := sum_any (cutB s) (by omega)
  have hx2 := rsum_any (cutB s) (by omega)
  have hx3 := pad_any (cutB s) (by omega)
  have hx4 := rpad_any (cutB s) (by omega)
  generalize cutB s = a at *
  generalize ofL (sumL a.data.toList) = x at *
  generalize ofL (padL a.data.toList) = y at *
  replace hC1 := Lib.hid hC1
  replace hR1 := Lib.hid hR1
  replace hx1 := Lib.hid hx1
  replace hx2 := Lib.hid hx2
  replace hx3 := Lib.hid hx3
  replace hx4 := Lib.hid hx4
  go_wp2_with fail
  refine (hx1.out w1 hC1.out (by omega)).mono ?_
  rintro e w3 ⟨rfl, hb3⟩
  have hz3 := hb3.size
  have hR3 := Lib.hid (constT_below hR1.out hb3 (by omega))
  go_wp2_with fail
  refine (hx2.out w3 hR3.out (by omega)).mono ?_
  rintro e w4 ⟨rfl, hb4⟩
  have hz4 := hb4.size
  go_wp2_with fail
  refine (hx3.out _).mono ?_
  rintro e w5 ⟨rfl, hb5⟩
  have hz5 := hb5.size
  go_wp2_with fail
  refine (hx4.out _).mono ?_
  rintro e w6 ⟨rfl, hb6⟩
  have hB := (((hb1.trans (hb3.mono (by omega))).trans (hb4.mono (by omega))).trans (hb5.mono (by omega))).trans (hb6.mono (by omega))
  clear hb1 hb3 hb4 hb5 hb6
  go_wp2
  go_ret
  exact ⟨rfl, hB⟩
end Go.Proofs.YtiakcjckebghlaaDoor
