/-
  Roles: what the laws' rows list: the three tables.
-/
import Derived.Test.YthlccacnoolpjaaDoorR18
import Derived.Lib.LaidTab
import Derived.Stop.LaidErr
import Derived.OpenShut
namespace Go.Proofs.YthlccacnoolpjaaDoor
open Go.RowKit Go.Shelf

theorem chunks {α : Type} (k : Nat) : ∀ (l : List (List α)) (cs : List α), cs.length = l.length * k → (∀ i x, l[i]? = some x → (cs.drop (i * k)).take k = x) → cs = l.flatten
  | [], cs, h, _ => by
    have : cs.length = 0 := by simpa using h
    exact List.length_eq_zero_iff.1 this
  | x :: r, cs, h, hi => by
    have h0 : cs.take k = x := by simpa using hi 0 x rfl
    have ih := chunks k r (cs.drop k) (by rw [List.length_drop, h, List.length_cons, Nat.succ_mul]; omega) (fun i y hy => by
      have h1 := hi (i + 1) y (by simpa using hy)
      rw [List.drop_drop, show k + i * k = (i + 1) * k by rw [Nat.succ_mul]; omega]
      exact h1)
    rw [List.flatten_cons, ← ih, ← h0, List.take_append_drop]

section
variable {H : Type} {enc : TypeId × Value → H} {P : Program} {w : World} {base : Nat} {sp : Nat → Bool} {held : Bool} {fuel : Nat} {t e : TypeId} {n : Nat} {cs : List Value} {p : List MemPlace}
theorem strs_of {bs : List (List UInt8)} (ht : P.underlying t = some (.array n e)) (he : P.underlying e = some .string) (hce : P.cellsOf e = 1) (hct : P.cellsOf t = n)
    (h : DataW.trod enc P w base sp held fuel t cs = some (.agg (bs.map fun b => .lit (.string b)), p)) : cs = bs.map fun b => Value.string ⟨b.toArray⟩ := by
  obtain ⟨xs, m, _, hx, hl, hxl, hi⟩ := DataW.trod_array ht h
  rw [hce] at hi
  simp only [Prod.mk.injEq, DataW.agg.injEq] at hx
  have hbl : bs.length = n := by have := congrArg List.length hx.1; simp at this; omega
  have key := chunks 1 (bs.map fun b => [Value.string ⟨b.toArray⟩]) cs (by simp; omega) (fun i x hx' => by
    have hib : i < bs.length := by
      have := (List.getElem?_eq_some_iff.1 hx').1
      simpa using this
    have hix : i < xs.length := by omega
    have h1 := hi i (by omega)
    rw [List.getElem?_eq_getElem hix] at h1
    obtain ⟨s, hs, hy, _⟩ := DataW.trod_string he h1
    have h2 := congrArg (·[i]?) hx.1
    simp only [List.getElem?_map, List.getElem?_eq_getElem hib, List.getElem?_eq_getElem hix, Option.map_some, Option.some.injEq, hy, DataW.lit.injEq, Lit.string.injEq] at h2
    have h3 : s = ⟨bs[i].toArray⟩ := by
      cases s with
      | mk d => simp only at h2; rw [h2]
    simp only [List.getElem?_map, List.getElem?_eq_getElem hib, Option.map_some, Option.some.injEq] at hx'
    rw [hs, h3, ← hx'])
  rw [key]
  clear key hx hi h hl hxl hbl
  induction bs with
  | nil => rfl
  | cons b r ih => simp only [List.map_cons, List.flatten_cons, ih]; rfl

def verbD {H : Type} (v : VerbR) : DataW H := .agg [.lit (.int .i64 v.n), .lit (.string v.word.data.toList), .lit (.int .i64 v.set)]
theorem vrow_of {v : VerbR} (h52 : P.underlying 52 = Tryd.prog.underlying 52) (h3 : P.underlying 3 = some (.int .i64)) (h9 : P.underlying 9 = some .string) (c52 : P.cellsOf 52 = 3) (c3 : P.cellsOf 3 = 1) (c9 : P.cellsOf 9 = 1)
    (h : DataW.trod enc P w base sp held fuel 52 cs = some (verbD v, p)) : cs = v.cells := by
  obtain ⟨xs, m, _, hx, hl, hxl, hi⟩ := DataW.trod_struct (h52.trans Tryd.underlying52) h
  rw [c52] at hl
  have f0 : DataW.trod enc P w base sp held m 3 ((cs.drop 0).take (P.cellsOf 3)) = xs[0]? := hi 0 _ rfl
  have f1 : DataW.trod enc P w base sp held m 9 ((cs.drop 1).take (P.cellsOf 9)) = xs[1]? := hi 1 _ rfl
  have f2 : DataW.trod enc P w base sp held m 3 ((cs.drop 2).take (P.cellsOf 3)) = xs[2]? := hi 2 _ rfl
  rw [c3] at f0 f2
  rw [c9] at f1
  match cs, hl, xs, hxl with
  | [a0, a1, a2], _, [x0, x1, x2], _ =>
    simp only [List.drop_zero, List.drop_succ_cons, List.take_succ_cons, List.take_zero, List.getElem?_cons_zero, List.getElem?_cons_succ] at f0 f1 f2
    obtain ⟨g0, e0, y0, _⟩ := DataW.trod_int h3 f0
    obtain ⟨s1, e1, y1, _⟩ := DataW.trod_string h9 f1
    obtain ⟨g2, e2, y2, _⟩ := DataW.trod_int h3 f2
    subst y0 y1 y2
    simp only [verbD, Prod.mk.injEq, DataW.agg.injEq, List.map_cons, List.map_nil, List.cons.injEq, DataW.lit.injEq, Lit.int.injEq, Lit.string.injEq, and_true, true_and] at hx
    obtain ⟨⟨r0, r1, r2⟩, _⟩ := hx
    simp only [List.cons.injEq, and_true] at e0 e1 e2
    have h4 : s1 = v.word := by
      cases s1 with
      | mk d =>
        cases hw : v.word with
        | mk d2 =>
          rw [hw] at r1
          simp only at r1
          rw [Array.toList_inj.1 r1]
    rw [VerbR.cells, e0, e1, e2, ← r0, h4, ← r2]
theorem vrows_of {vs : List VerbR} (ht : P.underlying t = some (.array n 52)) (h52 : P.underlying 52 = Tryd.prog.underlying 52) (h3 : P.underlying 3 = some (.int .i64)) (h9 : P.underlying 9 = some .string) (c52 : P.cellsOf 52 = 3) (c3 : P.cellsOf 3 = 1) (c9 : P.cellsOf 9 = 1) (hct : P.cellsOf t = n * 3)
    (h : DataW.trod enc P w base sp held fuel t cs = some (.agg (vs.map verbD), p)) : cs = (vs.map VerbR.cells).flatten := by
  obtain ⟨xs, m, _, hx, hl, hxl, hi⟩ := DataW.trod_array ht h
  rw [c52] at hi
  simp only [Prod.mk.injEq, DataW.agg.injEq] at hx
  have hbl : vs.length = n := by have := congrArg List.length hx.1; simp at this; omega
  refine chunks 3 (vs.map VerbR.cells) cs (by simp; omega) (fun i x hx' => ?_)
  have hib : i < vs.length := by
    have := (List.getElem?_eq_some_iff.1 hx').1
    simpa using this
  have hix : i < xs.length := by omega
  have h1 := hi i (by omega)
  rw [List.getElem?_eq_getElem hix] at h1
  have h2 := congrArg (·[i]?) hx.1
  simp only [List.getElem?_map, List.getElem?_eq_getElem hib, List.getElem?_eq_getElem hix, Option.map_some, Option.some.injEq] at h2
  have h4 : DataW.trod enc P w base sp held m 52 ((cs.drop (i * 3)).take 3) = some (verbD vs[i], xs[i].2) := by rw [h1, h2]
  simp only [List.getElem?_map, List.getElem?_eq_getElem hib, Option.map_some, Option.some.injEq] at hx'
  rw [vrow_of h52 h3 h9 c52 c3 c9 h4, hx']
end

theorem laid_heap {P : Program} {nm : String} {d : DataW Unit} {r : List (String × DataW Unit)} {W : World} {g t : Nat} (hg : P.globalNamed nm = some g) (hty : (P.globals[g]?).map (·.type) = some t) (h : laidMet P ((nm, d) :: r) W) :
    ∃ cs tt fr fuel p, W.heap[g]? = some (.cells cs tt fr) ∧ DataW.trod (fun _ => ()) P W 0 (fun _ => true) false fuel t cs.toList = some (d, p) := by
  obtain ⟨ps, ⟨g', t', cs, fuel, p, q, hg', ht', hvar, hd, _, _⟩, _⟩ := h
  obtain rfl := Option.some.inj (hg.symm.trans hg')
  obtain rfl := Option.some.inj (hty.symm.trans ht')
  unfold World.var? at hvar
  rw [hg] at hvar
  simp only [Option.bind_some] at hvar
  split at hvar
  · rename_i c tt fr hh
    cases hvar
    exact ⟨_, tt, fr, fuel, p, hh, hd⟩
  · cases hvar

theorem c52 : Tryd.prog.cellsOf 52 = 3 := by kernel_rfl
theorem c3 : Tryd.prog.cellsOf 3 = 1 := by kernel_rfl
theorem c9 : Tryd.prog.cellsOf 9 = 1 := by kernel_rfl
theorem c62 : Tryd.prog.cellsOf 62 = 10 * 3 := by kernel_rfl
theorem c54 : Tryd.prog.cellsOf 54 = 10 := by kernel_rfl
theorem c47 : Tryd.prog.cellsOf 47 = 3 := by kernel_rfl
theorem tabT_of {r : List (String × DataW Unit)} {W : World} (h : laidMet Tryd.prog (("wicketgate/roles.verbs", Rows.laid_wicketgate_roles_verbs) :: r) W) : TabT W := by
  obtain ⟨cs, tt, fr, fuel, p, hh, hd⟩ := laid_heap (g := 2) (t := 62) (by kernel_rfl) (by kernel_rfl) h
  have e := vrows_of (vs := table) Tryd.underlying62 rfl Tryd.underlying3 Tryd.underlying9 c52 c3 c9 c62 hd
  refine ⟨tt, fr, ?_⟩
  rw [hh]
  have e2 : cs = tabCells := by
    apply Array.toList_inj.1
    rw [e, tabCells, List.flatMap_def]
  rw [e2]
theorem cells_at {W : World} {g : Nat} {cs : Array Value} {tt : TypeId} {fr : Nat × Nat} (h : W.heap[g]? = some (.cells cs tt fr)) (k : Nat) : W.cell? ⟨g, k, none⟩ = cs.toList[k]? := by
  rw [cell_of_row W g k cs tt fr h]; simp
theorem verbsT_of {r : List (String × DataW Unit)} {W : World} (h : laidMet Tryd.prog (("wicketgate/wicketgateref12.verbs", Rows.laid_wicketgate_wicketgateref12_verbs) :: r) W) : VerbsT W := by
  obtain ⟨cs, tt, fr, fuel, p, hh, hd⟩ := laid_heap (g := 1) (t := 54) (by kernel_rfl) (by kernel_rfl) h
  have e := strs_of (bs := table.map fun v => v.word.data.toList) Tryd.underlying54 Tryd.underlying9 c9 c54 hd
  intro k hk
  rw [cells_at hh, e]
  have h : k = 0 ∨ k = 1 ∨ k = 2 ∨ k = 3 ∨ k = 4 ∨ k = 5 ∨ k = 6 ∨ k = 7 ∨ k = 8 ∨ k = 9 := by omega
  rcases h with rfl | rfl | rfl | rfl | rfl | rfl | rfl | rfl | rfl | rfl <;> rfl
theorem rolesT_of {r : List (String × DataW Unit)} {W : World} (h : laidMet Tryd.prog (("wicketgate/wicketgateref12.roles", Rows.laid_wicketgate_wicketgateref12_roles) :: r) W) : RolesT W := by
  obtain ⟨cs, tt, fr, fuel, p, hh, hd⟩ := laid_heap (g := 0) (t := 47) (by kernel_rfl) (by kernel_rfl) h
  have e := strs_of (bs := [sViewer, sKeeper, sGovernor].map fun v => v.data.toList) Tryd.underlying47 Tryd.underlying9 c9 c47 hd
  intro k hk
  rw [cells_at hh, e]
  have h : k = 0 ∨ k = 1 ∨ k = 2 := by omega
  rcases h with rfl | rfl | rfl <;> rfl
theorem tabs_of {W : World} (h : laidMet Tryd.prog Rows.rolesTellsRow.laid W) : Tabs W :=
  ⟨tabT_of (laidMet.tail (laidMet.tail h)), verbsT_of h, rolesT_of (laidMet.tail h)⟩
end Go.Proofs.YthlccacnoolpjaaDoor
