/-
  Sha: a text with its padding, by the program.
-/
import Derived.Test.YtiakcjckebghlaaDoorH6
import Derived.ArgAppend
namespace Go.Proofs.YtiakcjckebghlaaDoor
open Go.RowKit Go.Shelf

/-- a row of bytes that may be appended to (a mark may stand behind it) -/
def RowM (base : Nat) (v : Value) (l : List UInt8) (W : World) : Prop :=
  ∃ g cap cur fz, v = .slice (some ⟨g, 0, none⟩) l.length cap ∧ base ≤ g ∧ W.heap[g]? = some (.cells cur 5 fz) ∧ (fz = (0, 0) ∨ cap ≤ fz.1) ∧ l.length ≤ cap ∧ cap ≤ maxLen ∧ cur.size = cap ∧ cur.toList.take l.length = Lib.byteCells l
theorem bytes_len (l : List UInt8) : (Lib.byteCells l).length = l.length := by simp [Lib.byteCells]
theorem RowM.alloc {base : Nat} {v : Value} {l : List UInt8} {W : World} (h : RowM base v l W) (o : Obj) : RowM base v l (W.alloc o) := by
  obtain ⟨g, cap, cur, fz, h1, h2, h3, h4⟩ := h
  exact ⟨g, cap, cur, fz, h1, h2, heap_alloc_old W o h3, h4⟩
theorem RowM.cell {W : World} {g : Nat} {cur : Array Value} {fz : Nat × Nat} {l : List UInt8} (h3 : W.heap[g]? = some (.cells cur 5 fz)) (h8 : cur.toList.take l.length = Lib.byteCells l) (j : Nat) (x : Value) (hx : (Lib.byteCells l)[j]? = some x) : W.cell? ⟨g, j, none⟩ = some x := by
  have hj : j < l.length := by have := (List.getElem?_eq_some_iff.1 hx).1; rwa [bytes_len] at this
  rw [cell_of_row W g j _ _ _ h3, ← Array.getElem?_toList]
  have e1 : (cur.toList.take l.length)[j]? = cur.toList[j]? := List.getElem?_take_of_lt hj
  rw [← e1, h8, hx]
theorem RowM.conv {base : Nat} {v : Value} {l : List UInt8} {W : World} (h : RowM base v l W) : (convert 41 9 v).run Tryd.prog W = .ok (.string (ofL l)) W := by
  obtain ⟨g, cap, cur, fz, rfl, h2, h3, h4, h5, h6, h7, h8⟩ := h
  refine run_convert_bytes_back W 41 9 5 ⟨g, 0, none⟩ cap l Tryd.underlying41 Tryd.underlying5 Tryd.underlying9 fun j hj => ?_
  rw [show ((⟨g, 0, none⟩ : Addr).add j) = ⟨g, j, none⟩ by unfold Addr.add; split <;> simp_all]
  exact RowM.cell h3 h8 j _ (by simp [Lib.byteCells, hj])
theorem RowM.ofString (W : World) (s : ByteArray) (hs : s.size ≤ 1000) : RowM W.heap.size (.slice (some ⟨W.heap.size, 0, none⟩) s.size (grownCap W s.size 0 5)) s.data.toList (Lib.bytesWorld W 5 s) := by
  have hge := grownCap_ge W s.size 0 5
  have hz : (Lib.bytesCells W 5 s).size = grownCap W s.size 0 5 := by
    have : s.data.size = s.size := rfl
    simp [Lib.bytesCells]; omega
  have hl : s.data.toList.length = s.size := (Lib.size_eq s).symm
  refine ⟨W.heap.size, grownCap W s.size 0 5, Lib.bytesCells W 5 s, _, by rw [hl], Nat.le_refl _, Lib.bytesWorld_at_new W 5 s, .inr ?_, by rw [hl]; exact hge, grownCap_le_maxLen W s.size 0 5 (by unfold maxLen; omega), hz, ?_⟩
  · rw [hz]; exact Nat.le_refl _
  · rw [hl]
    simp only [Lib.bytesCells, Array.toList_append, Array.toList_map]
    have e : (List.map (fun b : UInt8 => Value.int IntKind.u8 b.toNat) s.data.toList).length = s.size := by rw [List.length_map, hl]
    rw [List.take_append_of_le_length (by omega), List.take_of_length_le (by omega)]
    rfl

theorem wpList_append_m {w : World} {ops : Array Oper} {rest : List Oper} {o : Oper} {a : Act} {Q : Exit → Act → World → Prop}
    (hg : o.guard = none) (s x : Operand) (hop : o.op = Op.call { callee := Callee.builtin Builtin.append, args := #[s, x], argTypes := #[41, 41] })
    (base : Nat) (v : Value) (l : List UInt8) (hs : a.eval s = v) (hM : RowM base v l w) (hbase : base ≤ w.heap.size) (hl : l.length ≤ 10000)
    (ad : Addr) (c : UInt8) (z : Int) (hz : z = (c.toNat : Int)) (hx : a.eval x = .slice (some ad) 1 1) (hc : w.cell? ad = some (.int .u8 z))
    (hK : ∀ v' w', RowM base v' (l ++ [c]) w' → Below base w w' → wpList Tryd.prog ops Q rest (a.put o.dst v') w') :
    wpList Tryd.prog ops Q (o :: rest) a w := by
  subst hz
  obtain ⟨i0, hi, hz0, hz1, hz2⟩ := info_parts info5
  obtain ⟨g, cap, cur, fz, rfl, h2, h3, h4, h5, h6, h7, h8⟩ := hM
  have hadd : ∀ j u, [Value.int .u8 (c.toNat : Int)][j]? = some u → w.cell? (ad.add j) = some u := fun j u hj => by
    match j, hj with
    | 0, hj =>
      simp at hj; subst hj
      rw [show ad.add 0 = ad by simp [Addr.add]]; exact hc
  refine wpList_append_arg w hg s x 41 hop 5 i0 (.int .u8 0) 1 1 Tryd.underlying41 hi hz0 hz1 hz2 rfl (by decide) g 0 l.length cap (Lib.byteCells l) hs (by rw [bytes_len]; omega)
    (fun j u hj => by rw [Nat.zero_add]; exact RowM.cell h3 h8 j u hj) ad 1 1 [.int .u8 (c.toNat : Int)] hx rfl hadd (fun u hu => by simp at hu; subst hu; rfl) (fun hr j hj => ?_) (by unfold maxLen; omega) (by omega) (fun hr => ?_) (fun hr v' w' hown hgr => ?_)
  · obtain rfl : j = 0 := by simpa using hj
    constructor
    · rw [cell_of_row w g _ _ _ _ h3]
      rw [Array.getElem?_eq_getElem (by omega)]; rfl
    · simp only [World.frozen?, h3]
      rcases h4 with rfl | h4
      · simp
      · obtain ⟨lo, hi2⟩ := fz
        simp only at h4 ⊢
        simp only [Bool.and_eq_false_iff, decide_eq_false_iff_not]
        left; omega
  · refine hK _ _ ⟨g, cap, cur.setIfInBounds (0 + l.length * 1) (.int .u8 (c.toNat : Int)), fz, by rw [List.length_append]; rfl, h2, ?_, h4, by simp; omega, h6, by simpa using h7, ?_⟩ ⟨rfl, rfl, rfl, by simp [World.setCells, World.setCell], fun k hk => by simp only [World.setCells]; exact Below.heap_setCell _ _ _ _ (by simp; omega)⟩
    · simp [World.setCells, World.setCell, Array.getElem?_modify, h3]
    · simp only [Nat.zero_add, Nat.mul_one, List.length_append, List.length_cons, List.length_nil, Array.toList_setIfInBounds]
      have hcl : cur.toList.length = cap := h7
      rw [List.take_succ_eq_append_getElem (by simp; omega)]
      simp only [List.getElem_set_self, Lib.byteCells, List.map_append, List.map_cons, List.map_nil]
      congr 1
      rw [List.take_set_of_le (by omega)]
      exact h8
  · rcases hown.2 with ⟨_, h0⟩ | ⟨g', cap', cur', rfl, hb', hg', hn', hm', hs', ht'⟩
    · omega
    · refine hK _ _ ⟨g', cap', cur', (0, 0), by rw [List.length_append]; rfl, by omega, hg', .inl rfl, by simpa using hn', hm', by simpa using hs', ?_⟩ ((Below.refl base w).grown hgr hbase (fun k hk => by cases hk))
      simp only [Nat.mul_one] at ht'
      rw [List.length_append]
      simpa [Lib.byteCells] using ht'
end Go.Proofs.YtiakcjckebghlaaDoor
