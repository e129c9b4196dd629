/-
  A slice of numbers as the call finds it.
-/
import Derived.Test.YtbajhnmgimggfaaRow
import Derived.ChangeSlices
namespace Go.Proofs.Ytbajhnmgimggfaa
open Go.ChangeShapes Go.WideShapes Go.ChangeAt Go.RowKit Go.Joins

theorem okWide_has {P : Program} {W : World} {base : Nat} {t e : TypeId} {a : Addr} {len cap : Nat} (ht : P.underlying t = some (.slice e)) (h : Value.okWide P W .any base t (.slice (some a) len cap)) :
    len ≤ cap ∧ (cap : Int) ≤ IntKind.i64.max ∧ W.has P .any base a e cap := by
  have h2 : Cell.okWide P W .any base t (.slice (some a) len cap) := by
    unfold Value.okWide at h
    rw [ht] at h
    exact h
  unfold Cell.okWide at h2
  rw [ht] at h2
  have h3 : Cell.ok P W .any base t (.slice (some a) len cap) := h2
  unfold Cell.ok at h3
  rw [ht] at h3
  exact h3

theorem has_lt {P : Program} {W : World} {base : Nat} {e : TypeId} {a : Addr} {n : Nat} (h : W.has P .any base a e n) : a.spot = none ∧ a.block < W.heap.size := by
  obtain ⟨_, hs, row, cells, hr, _⟩ := h
  refine ⟨hs, ?_⟩
  rcases Nat.lt_or_ge a.block W.heap.size with h' | h'
  · exact h'
  · simp [World.shape?, Array.getElem?_eq_none h'] at hr

theorem wf_range {n : Int} (h : (Lit.int .i64 n).wf = true) : InRange n := by
  have : IntKind.i64.min ≤ n ∧ n ≤ IntKind.i64.max := by simpa [Lit.wf] using h
  exact this

open Classical in
noncomputable def toI (z : Int) : I64 := if h : InRange z then ⟨z, h⟩ else z0
theorem toI_val {z : Int} (h : InRange z) : (toI z).1 = z := by unfold toI; rw [dif_pos h]

theorem open_zs {H : Type} {enc : TypeId × Value → H} {P : Program} {W : World} {base : Nat} {t e : TypeId} {v : Value} {d : DataW H} {ps : List MemPlace}
    (ht : P.underlying t = some (.slice e)) (he : P.underlying e = some (.int .i64)) (hc : P.cellsOf e = 1)
    (hval : Value.okWide P W .any base t v) (h : DataW.Trod enc P W 0 (fun _ => true) true t v d ps) :
    ∃ a len cap, ∃ zs : List I64, v = .slice a len cap ∧ len ≤ cap ∧ zs.length ≤ 9223372036854775807 ∧ Ints W.heap.size W (.slice a len cap) zs := by
  obtain ⟨a0, len0, cap0, rfl⟩ := okWide_slice ht hval
  obtain ⟨fuel, hf⟩ := h
  rcases open_ints ht he hc hf with ⟨hcs, hx⟩ | ⟨a, len, cap, zs, hcs, _, hl, hm, hz, hx, hcell, hwz⟩
  · simp [Value.cells] at hcs
    obtain ⟨rfl, rfl, rfl⟩ := hcs
    exact ⟨none, 0, 0, [], rfl, Nat.le_refl _, by simp, .inl ⟨rfl, rfl⟩⟩
  · simp [Value.cells] at hcs
    obtain ⟨rfl, rfl, rfl⟩ := hcs
    obtain ⟨hs, hb⟩ := has_lt (okWide_has ht hval).2.2
    obtain ⟨b, off, spot⟩ := a
    simp only at hs hb
    subst hs
    have hm' : cap0 ≤ 9223372036854775807 := hm
    simp only [if_true] at hz
    refine ⟨_, _, _, (zs.take len0).map toI, rfl, hl, by simp; omega, .inr ⟨b, off, cap0, ?_, hb, fun j hj => ?_⟩⟩
    · simp; omega
    · simp only [List.length_map, List.length_take] at hj
      have h1 := hcell j (by omega)
      have hjz : j < zs.length := by omega
      have e1 : ((zs.take len0).map toI)[j]?.getD z0 = toI (zs[j]) := by
        simp [List.getElem?_eq_getElem hjz, show j < len0 by omega]
      rw [e1, toI_val (wf_range (hwz _ (List.getElem_mem hjz)))]
      have e2 : zs.getD j 0 = zs[j] := by simp [List.getD, List.getElem?_eq_getElem hjz]
      rw [e2] at h1
      have ea : (⟨b, off, none⟩ : Addr).add j = ⟨b, off + j, none⟩ := by
        simp only [Addr.add]
        split
        · subst_vars; simp
        · rfl
      rw [← ea]; exact h1
end Go.Proofs.Ytbajhnmgimggfaa
