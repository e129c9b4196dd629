/-
  Sha: what the laws' rows list: the constants' tables.
-/
import Derived.Test.YtiakcjckebghlaaDoorS11
namespace Go.Proofs.YtiakcjckebghlaaDoor
open Go.RowKit Go.Shelf

theorem chunksL {α : Type} : ∀ (l cs : List α), cs.length = l.length → (∀ (i : Nat) x, l[i]? = some x → (cs.drop i).take 1 = [x]) → cs = l
  | [], cs, h, _ => List.length_eq_zero_iff.1 h
  | x :: r, [], h, _ => by simp at h
  | x :: r, c :: cs, h, hi => by
    have h0 := hi 0 x rfl
    simp at h0
    have ih := chunksL r cs (by simpa using h) (fun i y hy => by
      have h1 := hi (i + 1) y (by simpa using hy)
      simpa using h1)
    rw [h0, ih]

section
variable {H : Type} {enc : TypeId × Value → H} {P : Program} {w : World} {base : Nat} {sp : Nat → Bool} {held : Bool} {fuel : Nat} {t e : TypeId} {n : Nat} {cs : List Value} {p : List MemPlace}
theorem ints_of {k : IntKind} {zs : List Int} (ht : P.underlying t = some (.array n e)) (he : P.underlying e = some (.int k)) (hce : P.cellsOf e = 1) (hct : P.cellsOf t = n)
    (h : DataW.trod enc P w base sp held fuel t cs = some (.agg (zs.map fun z => .lit (.int k z)), p)) : cs = zs.map fun z => Value.int k z := by
  obtain ⟨xs, m, _, hx, hl, hxl, hi⟩ := DataW.trod_array ht h
  rw [hce] at hi
  simp only [Prod.mk.injEq, DataW.agg.injEq] at hx
  have hbl : zs.length = n := by have := congrArg List.length hx.1; simp at this; omega
  refine chunksL _ cs (by simp; omega) (fun i x hx' => ?_)
  have hib : i < zs.length := by
    have := (List.getElem?_eq_some_iff.1 hx').1
    simpa using this
  have hix : i < xs.length := by omega
  have h1 := hi i (by omega)
  rw [List.getElem?_eq_getElem hix, Nat.mul_one] at h1
  obtain ⟨g, hg, hy, _⟩ := DataW.trod_int he h1
  have h2 := congrArg (·[i]?) hx.1
  simp only [List.getElem?_map, List.getElem?_eq_getElem hib, List.getElem?_eq_getElem hix, Option.map_some, Option.some.injEq, hy, DataW.lit.injEq, Lit.int.injEq, true_and] at h2
  simp only [List.getElem?_map, List.getElem?_eq_getElem hib, Option.map_some, Option.some.injEq] at hx'
  rw [hg, ← hx', h2]
end

theorem laid_heap {P : Program} {nm : String} {d : DataW Unit} {r : List (String × DataW Unit)} {W : World} {g t : Nat} (hg : P.globalNamed nm = some g) (hty : (P.globals[g]?).map (·.type) = some t) (h : laidMet P ((nm, d) :: r) W) :
    ∃ cs tt fr fuel p, W.heap[g]? = some (.cells cs tt fr) ∧ DataW.trod (fun _ => ()) P W 0 (fun _ => true) false fuel t cs.toList = some (d, p) := by
  obtain ⟨ps, ⟨g', t', cs, fuel, p, q, hg', ht', hvar, hd, _, _⟩, _⟩ := h
  obtain rfl := Option.some.inj (hg.symm.trans hg')
  obtain rfl := Option.some.inj (hty.symm.trans ht')
  unfold World.var? at hvar
  rw [hg] at hvar
  simp only [Option.bind_some] at hvar
  split at hvar
  · rename_i c tt fr hh
    cases hvar
    exact ⟨_, tt, fr, fuel, p, hh, hd⟩
  · cases hvar

theorem c30 : Tryd.prog.cellsOf 30 = 1 := by kernel_rfl
theorem c44 : Tryd.prog.cellsOf 44 = 64 := by kernel_rfl
theorem constT_of {r : List (String × DataW Unit)} {W : World} (h : laidMet Tryd.prog (("wicketgate/sha.constants", Rows.laid_wicketgate_sha_constants) :: r) W) : ConstT 1 W ∧ 1 < W.heap.size := by
  obtain ⟨cs, tt, fr, fuel, p, hh, hd⟩ := laid_heap (g := 1) (t := 44) (by kernel_rfl) (by kernel_rfl) h
  have e := ints_of (k := .u32) (zs := consts.map fun c => (c.toNat : Int)) Tryd.underlying44 Tryd.underlying30 c30 c44 hd
  refine ⟨fun k hk => ?_, (Array.getElem?_eq_some_iff.1 hh).1⟩
  have hl : k < consts.length := hk
  rw [cell_of_row W 1 k cs tt fr hh, ← Array.getElem?_toList, e]
  simp [List.getElem?_map, List.getD_eq_getElem?_getD, List.getElem?_eq_getElem hl]
theorem constR_of {r : List (String × DataW Unit)} {W : World} (h : laidMet Tryd.prog (("wicketgate/wicketgateref04.constant", Rows.laid_wicketgate_wicketgateref04_constant) :: r) W) : ConstT 0 W := by
  obtain ⟨cs, tt, fr, fuel, p, hh, hd⟩ := laid_heap (g := 0) (t := 44) (by kernel_rfl) (by kernel_rfl) h
  have e := ints_of (k := .u32) (zs := consts.map fun c => (c.toNat : Int)) Tryd.underlying44 Tryd.underlying30 c30 c44 hd
  intro k hk
  have hl : k < consts.length := hk
  rw [cell_of_row W 0 k cs tt fr hh, ← Array.getElem?_toList, e]
  simp [List.getElem?_map, List.getD_eq_getElem?_getD, List.getElem?_eq_getElem hl]
end Go.Proofs.YtiakcjckebghlaaDoor
