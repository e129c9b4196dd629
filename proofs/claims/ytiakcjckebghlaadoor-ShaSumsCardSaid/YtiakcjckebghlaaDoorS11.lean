/-
  Sha: what is shown ahead of every law; a text's head.
-/
import Derived.Test.YtiakcjckebghlaaDoorS10
import Derived.Lib.LaidTab
import Derived.Stop.LaidErr
import Derived.OpenShut
namespace Go.Proofs.YtiakcjckebghlaaDoor
open Go.RowKit Go.Shelf

def cutB (s : ByteArray) : ByteArray := s.extract 0 (min s.size 300)
theorem cutB_size (s : ByteArray) : (cutB s).size ≤ 300 := by simp [cutB]; omega
theorem cut_any (s : ByteArray) (w : World) : Calls Tryd.prog 10 #[.string s] w fun e w' => e = .returned (.string (cutB s)) ∧ w = w' := by
  have hmin : ∀ n : Nat, (min (n : Int) 300) = ((min n 300 : Nat) : Int) := fun n => by omega
  go_enter Tryd.func10, Tryd.ntmps10
  go_wp2_with fail
  go_ret
  exact ⟨rfl, rfl⟩

theorem abc_sum : ofL (hexL (sumL [97, 98, 99])) = ⟨#[98, 97, 55, 56, 49, 54, 98, 102, 56, 102, 48, 49, 99, 102, 101, 97, 52, 49, 52, 49, 52, 48, 100, 101, 53, 100, 97, 101, 50, 50, 50, 51, 98, 48, 48, 51, 54, 49, 97, 51, 57, 54, 49, 55, 55, 97, 57, 99, 98, 52, 49, 48, 102, 102, 54, 49, 102, 50, 48, 48, 49, 53, 97, 100]⟩ := by
  rw [show hexL (sumL [97, 98, 99]) = [98, 97, 55, 56, 49, 54, 98, 102, 56, 102, 48, 49, 99, 102, 101, 97, 52, 49, 52, 49, 52, 48, 100, 101, 53, 100, 97, 101, 50, 50, 50, 51, 98, 48, 48, 51, 54, 49, 97, 51, 57, 54, 49, 55, 55, 97, 57, 99, 98, 52, 49, 48, 102, 102, 54, 49, 102, 50, 48, 48, 49, 53, 97, 100] by decide +kernel]; rfl
theorem nil_sum : ofL (hexL (sumL [])) = ⟨#[101, 51, 98, 48, 99, 52, 52, 50, 57, 56, 102, 99, 49, 99, 49, 52, 57, 97, 102, 98, 102, 52, 99, 56, 57, 57, 54, 102, 98, 57, 50, 52, 50, 55, 97, 101, 52, 49, 101, 52, 54, 52, 57, 98, 57, 51, 52, 99, 97, 52, 57, 53, 57, 57, 49, 98, 55, 56, 53, 50, 98, 56, 53, 53]⟩ := by
  rw [show hexL (sumL []) = [101, 51, 98, 48, 99, 52, 52, 50, 57, 56, 102, 99, 49, 99, 49, 52, 57, 97, 102, 98, 102, 52, 99, 56, 57, 57, 54, 102, 98, 57, 50, 52, 50, 55, 97, 101, 52, 49, 101, 52, 54, 52, 57, 98, 57, 51, 52, 99, 97, 52, 57, 53, 57, 57, 49, 98, 55, 56, 53, 50, 98, 56, 53, 53] by decide +kernel]; rfl
theorem pad_nil : (ofL (padL [])).size = 64 := by rw [ofL_size, padL_len]; rfl
theorem un_a : unhexS ⟨#[48, 48, 102, 102]⟩ = (⟨#[0, 255]⟩, 0) := by decide +kernel
theorem un_b : (unhexS ⟨#[48, 70]⟩).2 = 40 := by decide +kernel
set_option maxHeartbeats 4000000 in
theorem shown_any (w : World) (hC : ConstT 1 w) (hlt1 : 1 < w.heap.size) : Calls Tryd.prog 9 #[] w fun e w' => e = .returned (.bool true) ∧ Below w.heap.size w w' := by
  have HC := Lib.hid hC
  clear hC
  go_enter Tryd.func9, Tryd.ntmps9
  go_wp2_with fail
  refine (sum_any ⟨#[97, 98, 99]⟩ (by decide) _ HC.out hlt1).mono ?_
  rintro e w1 ⟨rfl, hb1⟩
  have hz1 := hb1.size
  go_wp2_with fail
  refine (hex_any _ (by rw [ofL_size]; decide +kernel) _).mono ?_
  rintro e w2 ⟨rfl, hb2⟩
  rw [toL_ofL, abc_sum]
  have hB2 := hb1.trans (hb2.mono hz1)
  clear hb1 hb2
  have hz2 := hB2.size
  go_wp2_with fail
  refine (sum_any ⟨#[]⟩ (by decide) _ (HC.out.of (Off.of (ob := 0) hB2) hlt1 (by omega)) (by omega)).mono ?_
  rintro e w3 ⟨rfl, hb3⟩
  have hB3 := hB2.trans (hb3.mono hz2)
  have hz3 := hB3.size
  clear hb3 hB2 hz2
  go_wp2_with fail
  refine (hex_any _ (by rw [ofL_size]; decide +kernel) _).mono ?_
  rintro e w4 ⟨rfl, hb4⟩
  rw [toL_ofL, nil_sum]
  have hB4 := hB3.trans (hb4.mono hz3)
  have hz4 := hB4.size
  clear hb4 hB3 hz3
  go_wp2_with fail
  refine (unhex_any _ (by decide) _).mono ?_
  rintro e w5 ⟨rfl, hb5⟩
  rw [un_a]
  have hB5 := hB4.trans (hb5.mono hz4)
  have hz5 := hB5.size
  clear hb5 hB4 hz4
  go_wp2_with fail
  refine (unhex_any _ (by decide) _).mono ?_
  rintro e w6 ⟨rfl, hb6⟩
  rw [un_b]
  have hB6 := hB5.trans (hb6.mono hz5)
  have hz6 := hB6.size
  clear hb6 hB5 hz5
  have hpn := pad_nil
  go_wp2_with fail
  refine (pad_any _ (by decide) _).mono ?_
  rintro e w7 ⟨rfl, hb7⟩
  have hB7 := hB6.trans (hb7.mono hz6)
  generalize ofL (padL []) = p at hpn ⊢
  go_wp2
  go_ret
  exact ⟨rfl, hB7⟩
end Go.Proofs.YtiakcjckebghlaaDoor
