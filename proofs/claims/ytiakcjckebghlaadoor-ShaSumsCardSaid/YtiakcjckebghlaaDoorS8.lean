/-
  Sha: the sum by the document: a word, rows of a state that is being added to.
-/
import Derived.Test.YtiakcjckebghlaaDoorS10
import Derived.Test.YtiakcjckebghlaaDoorP3
namespace Go.Proofs.YtiakcjckebghlaaDoor
open Go.RowKit Go.Shelf

theorem getD_at (s : ByteArray) (k : Nat) (h : k < s.size) : s.data.toList.getD k 0 = s[k] := by
  have : k < s.data.toList.length := by rw [← Lib.size_eq]; exact h
  rw [List.getD_eq_getElem?_getD, List.getElem?_eq_getElem this]; rfl
theorem byteW_mod (b : UInt8) : (b.toNat : Int) % 4294967296 = ((byteW b).toNat : Int) := by
  have := b.toNat_lt
  simp [byteW]; omega
theorem word4_bits (a b c d : UInt8) : bits BinOp.or IntKind.u32 (bits BinOp.or IntKind.u32 (bits BinOp.or IntKind.u32 ((a.toNat : Int) % 4294967296 * 16777216 % 4294967296) ((b.toNat : Int) % 4294967296 * 65536 % 4294967296)) ((c.toNat : Int) % 4294967296 * 256 % 4294967296)) ((d.toNat : Int) % 4294967296) = ((word4 a b c d).toNat : Int) := by
  have h1 := shl32 (byteW a) 24 16777216 (by decide)
  have h2 := shl32 (byteW b) 16 65536 (by decide)
  have h3 := shl32 (byteW c) 8 256 (by decide)
  rw [byteW_mod, byteW_mod, byteW_mod, byteW_mod]
  rw [show ((byteW a).toNat : Int) * 16777216 % 4294967296 = _ from h1, show ((byteW b).toNat : Int) * 65536 % 4294967296 = _ from h2, show ((byteW c).toNat : Int) * 256 % 4294967296 = _ from h3, or32, or32, or32]; rfl
set_option maxHeartbeats 4000000 in
theorem word_any (s : ByteArray) (hs : s.size = 4) (w : World) : Calls Tryd.prog 22 #[.string s] w fun e w' => e = .returned (.int .u32 ((wordAtB s.data.toList 0).toNat : Int)) ∧ Below w.heap.size w w' := by
  have h0 : 0 < s.size := by omega
  have h1 : 1 < s.size := by omega
  have h2 : 2 < s.size := by omega
  have h3 : 3 < s.size := by omega
  have hw : wordAtB s.data.toList 0 = word4 s[0] s[1] s[2] s[3] := by
    simp only [wordAtB, Nat.mul_zero, Nat.zero_add, getD_at s _ h0, getD_at s _ h1, getD_at s _ h2, getD_at s _ h3]
  replace hw := Lib.hid hw
  go_enter Tryd.func22, Tryd.ntmps22
  go_wp2_with fail
  go_quiet (fail)
  go_wp2
  go_ret
  exact ⟨ret_int (by rw [hw.out]; exact word4_bits _ _ _ _), belowN (Below.refl _ _) _⟩
theorem put_at (s v : St) (i : Nat) (hi : i < 8) : (putTo s v i).cells[i]? = some (.int .u32 ((wAt s i).toNat : Int)) := by
  have h : i = 0 ∨ i = 1 ∨ i = 2 ∨ i = 3 ∨ i = 4 ∨ i = 5 ∨ i = 6 ∨ i = 7 := by omega
  rcases h with rfl | rfl | rfl | rfl | rfl | rfl | rfl | rfl <;> simp [putTo, St.cells, wAt]
theorem put_set (s v : St) (i : Nat) (hi : i < 8) : (putTo s v i).cells.setIfInBounds i (.int .u32 ((wAt s i + wAt v i).toNat : Int)) = (putTo s v (i + 1)).cells := by
  have h : i = 0 ∨ i = 1 ∨ i = 2 ∨ i = 3 ∨ i = 4 ∨ i = 5 ∨ i = 6 ∨ i = 7 := by omega
  rcases h with rfl | rfl | rfl | rfl | rfl | rfl | rfl | rfl <;> simp [putTo, St.cells, wAt]
theorem cells_at (v : St) (i : Nat) (hi : i < 8) : v.cells[i]? = some (.int .u32 ((wAt v i).toNat : Int)) := by
  have h : i = 0 ∨ i = 1 ∨ i = 2 ∨ i = 3 ∨ i = 4 ∨ i = 5 ∨ i = 6 ∨ i = 7 := by omega
  rcases h with rfl | rfl | rfl | rfl | rfl | rfl | rfl | rfl <;> simp [St.cells, wAt]
theorem word_cut (p : ByteArray) (k j : Nat) (hj : j < 16) : wordAtB (p.extract (64 * k + 4 * j) (64 * k + 4 * j + 4)).data.toList 0 = wordAtB (chunk p k).data.toList j := by
  have h1 : (p.extract (64 * k + 4 * j) (64 * k + 4 * j + 4)).data.toList = (p.data.toList.drop (64 * k + 4 * j)).take 4 := by
    simp only [ByteArray.data_extract, Array.toList_extract, List.extract]
    congr 1; omega
  have h2 : (chunk p k).data.toList = (p.data.toList.drop (64 * k)).take 64 := by rw [chunk_take, rest_drop]
  have h3 : ∀ i, i < 4 → ((p.data.toList.drop (64 * k + 4 * j)).take 4).getD (4 * 0 + i) 0 = ((p.data.toList.drop (64 * k)).take 64).getD (4 * j + i) 0 := fun i hi => by
    simp only [List.getD_eq_getElem?_getD, List.getElem?_take, List.getElem?_drop]
    rw [if_pos (by omega), if_pos (by omega), show 64 * k + 4 * j + (4 * 0 + i) = 64 * k + (4 * j + i) by omega]
  have e0 := h3 0 (by omega)
  have e1 := h3 1 (by omega)
  have e2 := h3 2 (by omega)
  have e3 := h3 3 (by omega)
  simp only [Nat.add_zero] at e0
  rw [h1, h2]
  simp only [wordAtB, e0, e1, e2, e3]
end Go.Proofs.YtiakcjckebghlaaDoor
