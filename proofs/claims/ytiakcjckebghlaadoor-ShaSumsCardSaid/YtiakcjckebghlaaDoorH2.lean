/-
  Sha: digits of a text, by the document.
-/
import Derived.Test.YtiakcjckebghlaaDoorS2
import Derived.Deep.QuietTactic
import Derived.Laws.Concat
namespace Go.Proofs.YtiakcjckebghlaaDoor
open Go.RowKit Go.Shelf

theorem bdraw {n : Nat} {w W : World} (h : Below n w W) (k : Nat) : Below n w (W.drewN k) := ⟨h.os, h.tape, h.output, h.size, h.block⟩
def ofL (l : List UInt8) : ByteArray := ⟨l.toArray⟩
theorem ofL_toL (s : ByteArray) : ofL s.data.toList = s := by cases s; rfl
theorem toL_ofL (l : List UInt8) : (ofL l).data.toList = l := rfl
theorem ofL_size (l : List UInt8) : (ofL l).size = l.length := by simp [ofL, ByteArray.size]
theorem ofL_append (a b : List UInt8) : ofL a ++ ofL b = ofL (a ++ b) := by
  apply ByteArray.ext
  apply Array.toList_inj.1
  simp [ofL, ByteArray.data_append]
abbrev dgs : ByteArray := ⟨#[48, 49, 50, 51, 52, 53, 54, 55, 56, 57, 97, 98, 99, 100, 101, 102]⟩
theorem dgs_cut (n : Nat) (hn : n < 16) : dgs.extract n (n + 1) = ofL [digL n] := by
  have h : n = 0 ∨ n = 1 ∨ n = 2 ∨ n = 3 ∨ n = 4 ∨ n = 5 ∨ n = 6 ∨ n = 7 ∨ n = 8 ∨ n = 9 ∨ n = 10 ∨ n = 11 ∨ n = 12 ∨ n = 13 ∨ n = 14 ∨ n = 15 := by omega
  rcases h with rfl | rfl | rfl | rfl | rfl | rfl | rfl | rfl | rfl | rfl | rfl | rfl | rfl | rfl | rfl | rfl <;> decide +kernel
theorem hexL_append : ∀ (a b : List UInt8), hexL (a ++ b) = hexL a ++ hexL b
  | [], b => rfl
  | x :: r, b => by simp only [List.cons_append, hexL, hexL_append r b]
theorem hexL_len : ∀ l : List UInt8, (hexL l).length = 2 * l.length
  | [] => rfl
  | x :: r => by simp only [hexL, List.length_cons, hexL_len r]; omega
theorem hex_succ (s : ByteArray) (k : Nat) (h : k < s.size) : ofL (hexL (s.data.toList.take (k + 1))) = ofL (hexL (s.data.toList.take k)) ++ ofL [digL (s[k].toNat / 16)] ++ ofL [digL (s[k].toNat % 16)] := by
  rw [List.take_succ_eq_append_getElem (by simpa using h), hexL_append, ofL_append, ofL_append, List.append_assoc]
  rfl

set_option maxHeartbeats 2000000 in
theorem rhex_any (s : ByteArray) (hs : s.size ≤ 1000) (w : World) : Calls Tryd.prog 18 #[.string s] w fun e w' => e = .returned (.string (ofL (hexL s.data.toList))) ∧ Below w.heap.size w w' := by
  go_enter Tryd.func18, Tryd.ntmps18
  go_wp2_with fail
  go_loopw [4, 5] (fun o i wr => ∃ k : Nat, k ≤ s.size ∧ i = .int .i64 (k : Int) ∧ o = .string (ofL (hexL (s.data.toList.take k))) ∧ Below w.heap.size w wr) (fun _ i _ => s.size - (intOf i).toNat)
  case atStart => exact ⟨0, Nat.zero_le _, rfl, rfl, Below.refl _ _⟩
  case round =>
    obtain ⟨k, hk, rfl, rfl, hb⟩ := hrel
    by_cases hlt : k < s.size
    · have hsu := hex_succ s k hlt
      have hos : (ofL (hexL (s.data.toList.take k))).size ≤ 2000 := by
        rw [ofL_size, hexL_len, List.length_take]; omega
      generalize ofL (hexL (s.data.toList.take k)) = o at hsu hos ⊢
      have hc := s[k].toNat_lt
      generalize hcd : s[k].toNat = c at hsu hc
      have hn := dgs_cut (c / 16) (by omega)
      have hm := dgs_cut (c % 16) (by omega)
      replace hsu := Lib.hid hsu
      replace hn := Lib.hid hn
      replace hm := Lib.hid hm
      have e1 : (c : Int) / 16 = ((c / 16 : Nat) : Int) := by omega
      have e2 : (c : Int) % 16 = ((c % 16 : Nat) : Int) := by omega
      have g1 : c / 16 < 16 := by omega
      have g2 : c % 16 < 16 := by omega
      replace e1 := Lib.hid e1
      replace e2 := Lib.hid e2
      go_wp2_with fail
      rw [e1.out, e2.out]
      clear e1 e2
      generalize c / 16 = n at hsu hn g1 ⊢
      generalize c % 16 = m at hsu hm g2 ⊢
      have hlen : dgs.size = 16 := rfl
      have n1 : IntKind.i64.wrap ((n : Int) + 1) = (n : Int) + 1 := by rw [IntKind.wrap_i64]; omega
      have n2 : (0 : Int) ≤ (n : Int) + 1 := by omega
      have n3 : ((n : Int) + 1).toNat = n + 1 := by omega
      have n4 : (n : Int) + 1 ≤ 16 := by omega
      have n5 : (n : Int) ≤ (n : Int) + 1 := by omega
      have m1 : IntKind.i64.wrap ((m : Int) + 1) = (m : Int) + 1 := by rw [IntKind.wrap_i64]; omega
      have m2 : (0 : Int) ≤ (m : Int) + 1 := by omega
      have m3 : ((m : Int) + 1).toNat = m + 1 := by omega
      have m4 : (m : Int) + 1 ≤ 16 := by omega
      have m5 : (m : Int) ≤ (m : Int) + 1 := by omega
      have a1 : ¬ (9223372036854775807 < o.size + (dgs.extract n (n + 1)).size) := by rw [hn.out, ofL_size]; simp; omega
      have a2 : ¬ (9223372036854775807 < o.size + (dgs.extract n (n + 1)).size + (dgs.extract m (m + 1)).size) := by rw [hn.out, hm.out, ofL_size, ofL_size]; simp; omega
      go_quiet (fail)
      clear n1 n2 n3 n4 n5 m1 m2 m3 m4 m5
      go_wp2
      go_roundw
      case rel => exact ⟨k + 1, by omega, by go_num, by rw [hsu.out, ← hn.out, ← hm.out], bdraw hb _⟩
      case measure => simp [intOf]; omega
    · obtain rfl : k = s.size := by omega
      have e : s.data.toList.take s.size = s.data.toList := List.take_of_length_le (Nat.le_of_eq (Lib.size_eq s).symm)
      rw [e]
      go_wp2
      go_ret
      exact ⟨rfl, hb⟩
end Go.Proofs.YtiakcjckebghlaaDoor
