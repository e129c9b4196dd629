/-
  Roles: all verbs that a role may.
-/
import Derived.Test.YthlccacnoolpjaaDoorR4
import Derived.RangeFuncBox
import Derived.Maps.AppendAt
namespace Go.Proofs.YthlccacnoolpjaaDoor
open Go.RowKit Go.Shelf

theorem Boxed.appendedO {W w1 : World} {n₀ B : Nat} {t e : TypeId} {size : Nat} {v v' : Value} {k m : Nat} {xs ys : List Value} {tmp : Obj}
    (hv : Boxed W B t v) (hte : t ≠ e) (hrow : W.ownsRow n₀ e size v k xs) (hn₀ : n₀ ≤ W.heap.size)
    (hown' : w1.ownsRow n₀ e size v' m ys) (hgrow : (W.alloc tmp).grownBy w1 v.ownBlock) :
    Boxed w1 B t v ∧ Boxed (w1.setCell ⟨B, 0, none⟩ v') B t v' ∧ (w1.setCell ⟨B, 0, none⟩ v').ownsRow n₀ e size v' m ys ∧ KeepsOthers W (w1.setCell ⟨B, 0, none⟩ v') ∧ Off n₀ B W (w1.setCell ⟨B, 0, none⟩ v') := by
  have hv1 : Boxed w1 B t v := (hv.alloc tmp).kept hgrow (hv.not_row hte hrow)
  refine ⟨hv1, hv1.set v', hown'.kept (grownBy_setCell' w1 B v') (.inr (hv1.not_row hte hown').symm), ?_, ?_⟩
  · refine ((KeepsOthers.alloc W tmp).trans (KeepsOthers.of_grownBy hgrow fun j o ej hj => ?_)).trans (KeepsOthers.setCell _ _ _)
    rcases (hrow.alloc tmp).2 with ⟨rfl, _⟩ | ⟨g, cap, cur, rfl, _, hgb, _⟩
    · simp [Value.ownBlock] at ej
    · obtain rfl : g = j := by simpa [Value.ownBlock] using ej
      rw [hgb] at hj; cases hj; rfl
  · have hA : Below n₀ W w1 := by
      refine ((Below.refl n₀ W).alloc hn₀ tmp).grown hgrow (by simp; omega) fun j ej => ?_
      rcases hrow.2 with ⟨rfl, _⟩ | ⟨g, cap, cur, rfl, hb, _, _⟩
      · simp [Value.ownBlock] at ej
      · obtain rfl : g = j := by simpa [Value.ownBlock] using ej
        exact hb
    exact (Off.of hA).trans ⟨rfl, rfl, rfl, by simp [World.setCell], fun k _ ho => Below.heap_setCell _ _ _ _ ho⟩
theorem Off.below {n₀ ob m : Nat} {A B : World} (h : Off n₀ ob A B) (h1 : m ≤ n₀) (h2 : m ≤ ob) : Below m A B := ⟨h.os, h.tape, h.output, h.size, fun k hk => h.block k (by omega) (by omega)⟩
theorem info3 : (Tryd.prog.info? 3).map (fun i => (i.zero, i.size, i.bytes)) = some (some (.int .i64 0), 1, 8) := by kernel_rfl
def verbsS (r : Int) : List Int := (table.filter (mayV r)).map (·.n)
def nums (pre : List VerbR) : List Value := pre.map fun v => .int .i64 v.n

section
attribute [local go_sem] Oper.semAt_some
set_option maxRecDepth 100000 in
set_option maxHeartbeats 4000000 in
theorem verbs_row (r : Int) (w : World) {tt : TypeId} {fr : Nat × Nat} (hT : w.heap[2]? = some (.cells tabCells tt fr)) :
    Calls Tryd.prog 19 #[.int .i64 r] w fun e w' => ∃ v, e = .returned v ∧ w'.ownsRow w.heap.size 3 1 v (table.filter (mayV r)).length (nums (table.filter (mayV r))) ∧ Below w.heap.size w w' := by
  have HT := Lib.hid hT
  have h2 : 2 < w.heap.size := (Array.getElem?_eq_some_iff.1 hT).1
  clear hT
  obtain ⟨i0, hi, hz0, hz1, hz2⟩ := info_parts info3
  refine (callsIn_wide (n := 9)).1 ?_
  refine callsIn_of_wp_marks Tryd.func19 rfl trivial ?_ rfl
  simp only [Tryd.ntmps19, List.size_toArray, List.length_cons, List.length_nil, Nat.reduceAdd, Nat.reduceSub, Array.replicate_succ, Array.replicate_zero, List.push_toArray, List.append_toArray, List.nil_append, List.cons_append]
  gi_wp2_with fail
  refine ⟨trivial, ?_⟩
  refine (callsIn_wide.2 (that_any _ _ _ _)).mono ?_
  rintro e w3 ⟨rfl, rfl⟩
  gi_wp2_with fail
  have b1 := (Boxed.new w 31 (.slice none 0 0)).alloc (.cells #[.func (.func 30) #[.int .i64 r] #[]] 53)
  have b4 := Boxed.new (w.alloc (.cells #[.slice none 0 0] 31)) 53 (.func (.func 30) #[.int .i64 r] #[])
  simp only [World.size_alloc] at b4
  have hB0 : Below w.heap.size w ((w.alloc (.cells #[.slice none 0 0] 31)).alloc (.cells #[.func (.func 30) #[.int .i64 r] #[]] 53)) := ba (ba (Below.refl _ _) _) _
  have hsz : ((w.alloc (.cells #[.slice none 0 0] 31)).alloc (.cells #[.func (.func 30) #[.int .i64 r] #[]] 53)).heap.size = w.heap.size + 2 := by simp
  generalize (w.alloc (.cells #[.slice none 0 0] 31)).alloc (.cells #[.func (.func 30) #[.int .i64 r] #[]] 53) = W0 at b1 b4 hB0 hsz ⊢
  have hT0 := (hB0.block 2 h2).trans HT.out
  refine wpIn_rangeFunc_ownH rfl (by omega) (gf := 35) (lb := #[.pointer (some ⟨w.heap.size + 1, 0, none⟩)]) rfl trivial (enters_of Tryd.func35 (by kernel_rfl) rfl)
    (that_stops (9 - 1) (by omega) (w.heap.size + 1) W0.heap.size w.heap.size 30 #[.int .i64 r] #[] (mayV r) (fun _ => True)
      (fun _ _ _ _ => trivial) (enters_of Tryd.func30 (by kernel_rfl) rfl)
      (fun v _ A _ => may_any r v A) W0 b4.cell (by omega) (by omega) (Nat.le_refl _) hT0 trivial)
    Off.trans (off_b (Nat.le_refl _)) (Below.refl _ _) (fun _ => rfl)
    (fun pre W => (∃ v, Boxed W w.heap.size 31 v ∧ W.ownsRow W0.heap.size 3 1 v pre.length (nums pre) ∧ True) ∧ Below w.heap.size W0 W)
    (fun _ _ _ => False)
    (OwnFrom.and (Own.from (holdsRow_own W0.heap.size w.heap.size 31 3 1 (fun pre => pre.length) nums (fun _ _ => True)) _) (ownFrom_below (by omega) (by omega)))
    (fun _ _ _ _ _ hs _ _ => hs)
    ⟨⟨_, b1, World.ownsRow_nil _ _ _ _, trivial⟩, Below.refl _ _⟩
    (fun x a' W => ∃ Bx, W0.heap.size ≤ Bx ∧ W.heap[Bx]? = some (.cells #[.int .i64 x.n, .string x.word, .int .i64 x.set] 52 (0, 0)) ∧ a' = { tmps := #[.int .i64 r, undef, .slice none 0 0, .pointer (some ⟨w.heap.size, 0, none⟩), .pointer (some ⟨Bx, 0, none⟩),
      .int .i64 r, .func (.func 30) #[.int .i64 r] #[], .func (.func 35) #[] #[.pointer (some ⟨w.heap.size + 1, 0, none⟩)], .agg #[.int .i64 x.n, .string x.word, .int .i64 x.set], undef, undef, undef, undef, undef, undef], defers := [] })
    (fun x a' s X Y row hs hg hr => by obtain ⟨Bx, h1, h2, h3⟩ := hs; exact ⟨Bx, h1, own_cells (β := Unit) () X Y row h2 hg hr, h3⟩)
    ?assign ?body ?done ?stop
  case assign =>
    rintro l pre x W K ⟨⟨v, hv, hrow, -⟩, hB1⟩ hK
    have hWz := hB1.size
    obtain ⟨xn, xw, xs⟩ := x
    simp only [VerbR.val]
    gi_wp2
    exact hK _ _ ((KeepsOthers.alloc _ _).from _) (.of ((Below.refl _ W).alloc hWz _)) ⟨⟨v, hv.alloc _, hrow.alloc _, trivial⟩, hB1.alloc (by omega) _⟩ ⟨W.heap.size, by omega, World.alloc_heap_new W _, rfl⟩
  case body =>
    rintro l pre x a' W hl ⟨rr, hr⟩ ⟨⟨v, hv, hrow, -⟩, hB1⟩ ⟨Bx, hBx, bX, rfl⟩ hlt
    have d0 := cell_of_row W Bx 0 _ _ _ bX
    simp at d0
    have hc := hv.cell
    have hBlt := cell_lt d0
    gi_wp2_with (gi_at_builtin; refine wpListIn_append_own _ rfl _ _ 31 rfl W0.heap.size 3 i0 (.int .i64 0) 1 8 Tryd.underlying31 hi hz0 hz1 hz2 rfl (by decide) _ _ _ rfl (hrow.alloc _) ⟨W.heap.size, 0, none⟩ 1 1 [.int .i64 x.n] rfl rfl (cell_one_new _ _ _) (by simp [Value.oneCell']) (by have : maxLen = 9223372036854775807 := rfl; omega) (by omega) (by have := hB1.size; simp; omega) ?_; intro v' w1 hown' hgrow _; obtain ⟨g', cap', rfl⟩ := ownsRow_succ hown'; obtain ⟨hv1, hv2, hr2, hk2, hb2⟩ := Boxed.appendedO hv (by decide) hrow hB1.size hown' hgrow; have hc1 := hv1.cell; have hf1 := hv1.frozen)
    exact ⟨hk2.from _, hb2, ⟨_, hv2, by simpa [nums] using hr2, trivial⟩, hB1.trans (hb2.below (by omega) (Nat.le_refl _))⟩
  case done =>
    rintro D ys W hD rfl ⟨⟨v, hv, hrow, -⟩, hB1⟩ hK
    have hc := hv.cell
    gi_wp2
    refine ⟨by simp, .inl ⟨_, _, rfl, run_takeDeferred hK, ?_⟩⟩
    refine ⟨_, results_tmp rfl _ _ _, v, rfl, ?_, (hB0.trans hB1).trans (belowK_b (w := w) (Nat.le_refl _) W D _ _ (by omega) hK rfl rfl)⟩
    have h := ownsRow_putObj hrow (.deferred none) hK rfl
    refine ⟨h.1, ?_⟩
    rcases h.2 with h | ⟨g, cap, cur, e1, e2, e3⟩
    · exact .inl h
    · exact .inr ⟨g, cap, cur, e1, by omega, e3⟩
  case stop =>
    rintro D c pre W _ _ h _
    exact h.elim
end
end Go.Proofs.YthlccacnoolpjaaDoor
