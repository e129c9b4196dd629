/-
  Roles: a slice of operators as the call finds it.
-/
import Derived.Test.YthlccacnoolpjaaDoorR19
import Derived.Deep.Slices
import Derived.ChangeSlices
namespace Go.Proofs.YthlccacnoolpjaaDoor
open Go.ChangeShapes Go.WideShapes Go.ChangeAt Go.RowKit Go.Joins Go.Deep

theorem okWide_has {P : Program} {W : World} {base : Nat} {t e : TypeId} {a : Addr} {len cap : Nat} (ht : P.underlying t = some (.slice e)) (h : Value.okWide P W .any base t (.slice (some a) len cap)) :
    len ≤ cap ∧ (cap : Int) ≤ IntKind.i64.max ∧ W.has P .any base a e cap := by
  have h2 : Cell.okWide P W .any base t (.slice (some a) len cap) := by
    unfold Value.okWide at h
    rw [ht] at h
    exact h
  unfold Cell.okWide at h2
  rw [ht] at h2
  have h3 : Cell.ok P W .any base t (.slice (some a) len cap) := h2
  unfold Cell.ok at h3
  rw [ht] at h3
  exact h3
theorem has_lt {P : Program} {W : World} {base : Nat} {e : TypeId} {a : Addr} {n : Nat} (h : W.has P .any base a e n) : a.spot = none ∧ a.block < W.heap.size := by
  obtain ⟨_, hs, row, cells, hr, _⟩ := h
  refine ⟨hs, ?_⟩
  rcases Nat.lt_or_ge a.block W.heap.size with h' | h'
  · exact h'
  · simp [World.shape?, Array.getElem?_eq_none h'] at hr
theorem addr_add (b off j : Nat) : (⟨b, off, none⟩ : Addr).add j = ⟨b, off + j, none⟩ := by
  simp only [Addr.add]
  split
  · subst_vars; simp
  · rfl
theorem c42 : Tryd.prog.cellsOf 42 = 2 := by kernel_rfl

open Classical in
theorem open_ops {H : Type} {enc : TypeId × Value → H} {W : World} {base : Nat} {v : Value} {d : DataW H} {ps : List MemPlace} (hval : Value.okWide Tryd.prog W .any base 34 v) (h : DataW.Trod enc Tryd.prog W 0 (fun _ => true) true 34 v d ps) :
    ∃ zs : List Opr, Ops W v zs := by
  obtain ⟨a0, len0, cap0, rfl⟩ := okWide_slice Tryd.underlying34 hval
  obtain ⟨fuel, hf⟩ := h
  rcases open_slice Tryd.underlying34 hf with ⟨hcs, _⟩ | ⟨a, len, cap, m, n, D, Pl, hcs, _, hl, hm, hmm, _, hi⟩
  · simp [Value.cells] at hcs
    obtain ⟨rfl, rfl, rfl⟩ := hcs
    exact ⟨[], .inl ⟨rfl, rfl⟩⟩
  · simp [Value.cells] at hcs
    obtain ⟨rfl, rfl, rfl⟩ := hcs
    obtain ⟨hs, hb⟩ := has_lt (okWide_has Tryd.underlying34 hval).2.2
    obtain ⟨b, off, spot⟩ := a
    simp only at hs hb
    subst hs
    have key : ∀ j, ∃ o : Opr, j < len0 → W.cell? ⟨b, off + j * 2, none⟩ = some (.string o.1) ∧ W.cell? ⟨b, off + j * 2 + 1, none⟩ = some (.int .i64 o.2) := fun j => by
      by_cases hj : j < len0
      · obtain ⟨cs', hc, ht⟩ := hi j (by simp at hmm; omega)
        rw [c42] at hc
        obtain ⟨ys, n', _, _, hlen, hyl, hfl⟩ := DataW.trod_struct Tryd.underlying42 ht
        obtain ⟨_, hcl, hat⟩ := World.cells?_some hc
        rw [c42] at hlen
        have f0 : DataW.trod enc Tryd.prog W 0 (fun _ => true) true n' 9 ((cs'.drop 0).take (Tryd.prog.cellsOf 9)) = ys[0]? := hfl 0 _ rfl
        have f1 : DataW.trod enc Tryd.prog W 0 (fun _ => true) true n' 3 ((cs'.drop 1).take (Tryd.prog.cellsOf 3)) = ys[1]? := hfl 1 _ rfl
        rw [c9] at f0
        rw [c3] at f1
        match cs', hlen, ys, hyl with
        | [x0, x1], _, [y0, y1], _ =>
          simp only [List.drop_zero, List.drop_succ_cons, List.take_succ_cons, List.take_zero, List.getElem?_cons_zero, List.getElem?_cons_succ] at f0 f1
          obtain ⟨s, e0, _, _⟩ := DataW.trod_string Tryd.underlying9 f0
          obtain ⟨g, e1, _, _⟩ := DataW.trod_int Tryd.underlying3 f1
          simp only [List.cons.injEq, and_true] at e0 e1
          have h0 := hat 0 (by omega)
          have h1 := hat 1 (by omega)
          rw [addr_add, addr_add] at h0 h1
          refine ⟨(s, g), fun _ => ⟨?_, ?_⟩⟩
          · rw [← e0]; exact h0
          · rw [← e1]; exact h1
      · exact ⟨opr0, fun h => absurd h hj⟩
    refine ⟨(List.range len0).map fun j => Classical.choose (key j), .inr ⟨b, off, cap0, by simp, hb, fun j hj => ?_⟩⟩
    simp only [List.length_map, List.length_range] at hj
    have e : ((List.range len0).map fun j => Classical.choose (key j))[j]?.getD opr0 = Classical.choose (key j) := by simp [hj]
    rw [e]
    exact Classical.choose_spec (key j) hj
end Go.Proofs.YthlccacnoolpjaaDoor
