/-
  Sha: digits of a text, by the program.
-/
import Derived.Test.YtiakcjckebghlaaDoorH1
import Derived.Test.YtiakcjckebghlaaDoorH2
import Derived.Lib.ConvBytes
namespace Go.Proofs.YtiakcjckebghlaaDoor
open Go.RowKit Go.Shelf

theorem below_bytes {w : World} (s : ByteArray) : Below w.heap.size w (Lib.bytesWorld w 5 s) :=
  ⟨rfl, rfl, rfl, by rw [Lib.bytesWorld_size]; omega, fun k hk => Lib.bytesWorld_at_old w 5 s k hk⟩
theorem byteCells_len (l : List UInt8) : (Lib.byteCells l).length = l.length := by simp [Lib.byteCells]
theorem dgs_at (n : Nat) (hn : n < 16) : ∃ h : n < dgs.size, dgs[n] = digL n := by
  have h : n = 0 ∨ n = 1 ∨ n = 2 ∨ n = 3 ∨ n = 4 ∨ n = 5 ∨ n = 6 ∨ n = 7 ∨ n = 8 ∨ n = 9 ∨ n = 10 ∨ n = 11 ∨ n = 12 ∨ n = 13 ∨ n = 14 ∨ n = 15 := by omega
  rcases h with rfl | rfl | rfl | rfl | rfl | rfl | rfl | rfl | rfl | rfl | rfl | rfl | rfl | rfl | rfl | rfl <;> exact ⟨by decide, by decide +kernel⟩

set_option maxHeartbeats 2000000 in
theorem hex_any (s : ByteArray) (hs : s.size ≤ 1000) (w : World) : Calls Tryd.prog 17 #[.string s] w fun e w' => e = .returned (.string (ofL (hexL s.data.toList))) ∧ Below w.heap.size w w' := by
  have hconv : ∀ W, (convert 9 41 (.string s)).run Tryd.prog W = _ := fun W => Lib.run_convert_string_bytes W 9 41 5 s Tryd.underlying9 Tryd.underlying41 Tryd.underlying5
  go_enter Tryd.func17, Tryd.ntmps17
  go_wp2_with fail
  have hb0 : Below w.heap.size w (w.alloc (.cells #[.pointer none, .slice none 0 0] 51)) := ba (Below.refl _ _) _
  have hB := below_bytes (w := w.alloc (.cells #[.pointer none, .slice none 0 0] 51)) s
  have hz := Lib.bytesWorld_size (w.alloc (.cells #[.pointer none, .slice none 0 0] 51)) 5 s
  have hr := fun j => Lib.bytesWorld_cell (w.alloc (.cells #[.pointer none, .slice none 0 0] 51)) 5 s j
  have hbk : (Lib.bytesWorld (w.alloc (.cells #[.pointer none, .slice none 0 0] 51)) 5 s).heap[w.heap.size]? = some (.cells #[.pointer none, .slice none 0 0] 51 (0, 0)) := (hB.block w.heap.size (by simp)).trans (heap_alloc_last w _)
  have hB2 := hb0.trans (hB.mono hb0.size)
  generalize Lib.bytesWorld (w.alloc (.cells #[.pointer none, .slice none 0 0] 51)) 5 s = W1 at hz hr hbk hB2 ⊢
  simp only [World.size_alloc] at hz hr ⊢
  have HR := Lib.hid hr
  have HZ := Lib.hid hz
  have hgc : w.heap.size + 2 ≤ W1.heap.size := by omega
  have hA0 : BAt w.heap.size (w.heap.size + 2) (Lib.byteCells (hexL (s.data.toList.take 0))) W1 := ⟨by omega, hgc, _, _, .inl rfl, hbk, by simpa [hexL, Lib.byteCells] using World.ownsRow_nil W1 _ _ _⟩
  clear hconv hb0 hB hz hr hbk
  go_wp2_with fail
  go_loopw [9] (fun i wr => ∃ k : Nat, k ≤ s.size ∧ i = .int .i64 (k : Int) ∧ BAt w.heap.size (w.heap.size + 2) (Lib.byteCells (hexL (s.data.toList.take k))) wr ∧ OffB (w.heap.size + 2) w.heap.size W1 wr) (fun i _ => s.size - (intOf i).toNat)
  case atStart => exact ⟨0, Nat.zero_le _, rfl, hA0, OffB.refl _ _ _⟩
  case round =>
    obtain ⟨k, hk, rfl, hA, hO⟩ := hrel
    by_cases hlt : k < s.size
    · have hl : k < s.data.toList.length := by simpa using hlt
      have hc0 : wr.cell? ⟨w.heap.size + 1, k, none⟩ = some (.int .u8 ((s.data.toList.getD k 0).toNat : Int)) := (hO.cell (x := ⟨w.heap.size + 1, k, none⟩) (by simp) (by simp)).trans (HR.out k hlt)
      have hge : s.data.toList.getD k 0 = s[k] := by rw [List.getD, List.getElem?_eq_getElem hl]; rfl
      rw [hge] at hc0
      have hsu : hexL (s.data.toList.take (k + 1)) = hexL (s.data.toList.take k) ++ [digL (s[k].toNat / 16)] ++ [digL (s[k].toNat % 16)] := by
        rw [List.take_succ_eq_append_getElem hl, hexL_append, List.append_assoc]; rfl
      have hos : (hexL (s.data.toList.take k)).length ≤ 2000 := by rw [hexL_len, List.length_take]; omega
      generalize hexL (s.data.toList.take k) = o at hsu hos hA
      have hcb := s[k].toNat_lt
      generalize s[k].toNat = c at hc0 hsu hcb
      obtain ⟨hn, en⟩ := dgs_at (c / 16) (by omega)
      obtain ⟨hm, em⟩ := dgs_at (c % 16) (by omega)
      have hand : bits .and .u8 (c : Int) 15 = (c : Int) % 16 := u8_and15 _ (by omega) (by omega)
      replace hsu := Lib.hid hsu
      go_wp2_with fail
      refine (writeByte_any _ _ _ _ _ hA (by rw [byteCells_len]; omega)).mono ?_
      rintro e1 w2 ⟨rfl, hA2, hO2⟩
      clear hA hc0
      go_wp2_with fail
      refine (writeByte_any _ _ _ _ _ hA2 (by rw [List.length_append, byteCells_len]; simp; omega)).mono ?_
      rintro e2 w3 ⟨rfl, hA3, hO3⟩
      clear hA2 hand en em
      go_wp2
      go_roundw
      case rel => exact ⟨k + 1, by omega, by go_num, by rw [hsu.out]; simpa [Lib.byteCells] using hA3, (hO.trans hO2).trans hO3⟩
      case measure => simp [intOf]; omega
    · obtain rfl : k = s.size := by omega
      have e : s.data.toList.take s.size = s.data.toList := List.take_of_length_le (Nat.le_of_eq (Lib.size_eq s).symm)
      rw [e] at hA
      go_wp2_with fail
      refine (string_any _ _ _ _ hA).mono ?_
      rintro e1 w1 ⟨rfl, hb1⟩
      go_wp2
      go_ret
      exact ⟨rfl, (hB2.trans (hO.below (by omega) (Nat.le_refl _))).trans hb1⟩
end Go.Proofs.YtiakcjckebghlaaDoor
