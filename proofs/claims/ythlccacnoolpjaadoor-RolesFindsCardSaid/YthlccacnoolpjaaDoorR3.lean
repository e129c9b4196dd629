/-
  Roles: verbs of words, words of verbs, what a role may.
-/
import Derived.Test.YthlccacnoolpjaaDoorR2
namespace Go.Proofs.YthlccacnoolpjaaDoor
open Go.RowKit Go.Shelf

theorem verb1_any (v : VerbR) (b : Nat) (s : ByteArray) (w : World) (hc : w.cell? ⟨b, 0, none⟩ = some (.string s)) : Calls Tryd.prog 28 #[.agg #[.int .i64 v.n, .string v.word, .int .i64 v.set], .pointer (some ⟨b, 0, none⟩)] w fun e w' => e = .returned (.bool (v.word == s)) ∧ Below w.heap.size w w' := by
  have hb := cell_lt hc
  go_enter Tryd.func28, Tryd.ntmps28
  go_wp2
  go_ret
  exact ⟨by rw [beq_toListBytes]; rfl, ba (Below.refl _ _) _⟩
theorem word1_any (v : VerbR) (b : Nat) (n : Int) (w : World) (hc : w.cell? ⟨b, 0, none⟩ = some (.int .i64 n)) : Calls Tryd.prog 29 #[.agg #[.int .i64 v.n, .string v.word, .int .i64 v.set], .pointer (some ⟨b, 0, none⟩)] w fun e w' => e = .returned (.bool (v.n == n)) ∧ Below w.heap.size w w' := by
  have hb := cell_lt hc
  go_enter Tryd.func29, Tryd.ntmps29
  go_wp2
  go_ret
  exact ⟨rfl, ba (Below.refl _ _) _⟩

theorem that_stops (n : Nat) (hn : 1 ≤ n) (Bs n₀ ob : Nat) (kf : Nat) (bs cs : Array Value) (p : VerbR → Bool) (Env : World → Prop) (henv : ∀ A B, Env A → Off n₀ ob A B → Env B)
    (eg : ∀ args w, (callFunc kf args).run Tryd.prog w = .ok (.enter kf args) w)
    (hp : ∀ v ∈ table, ∀ A, Env A → Calls Tryd.prog kf (bs.push v.val ++ cs) A fun e B => e = .returned (.bool (p v)) ∧ Below A.heap.size A B)
    (w : World) (hBs : w.cell? ⟨Bs, 0, none⟩ = some (.func (.func kf) bs cs)) (hbn : Bs < n₀) (hbo : Bs ≠ ob) (hn0 : n₀ ≤ w.heap.size) {tt : TypeId} {fr : Nat × Nat} (hT : w.heap[2]? = some (.cells tabCells tt fr)) (hE : Env w) :
    SeqStopsK Fence.wide n Tryd.prog 35 #[.pointer (some ⟨Bs, 0, none⟩)] (fun v => #[v.val]) (Off n₀ ob) (fun ys => ys = table.filter p) (fun pre => pre <+: table.filter p) 10 w := fun l J Jx W hW hJ _ hY h0 => by
  have h2 : 2 < w.heap.size := (Array.getElem?_eq_some_iff.1 hT).1
  refine (that1_in n hn l Bs n₀ ob kf bs cs p Env henv eg hp J Jx _ hJ hY W ((hW.cell (p := ⟨Bs, 0, none⟩) (cell_lt hBs)).trans hBs) hbn hbo (Nat.le_trans hn0 hW.size) ((hW.block 2 h2).trans hT) h0 (henv _ _ hE (.ofb hW hn0))).mono ?_
  rintro e W' ⟨he, h | ⟨pre, h1, h2⟩⟩
  · exact ⟨he, .inl ⟨_, rfl, h⟩⟩
  · exact ⟨he, .inr ⟨pre, h1, h2⟩⟩

theorem own_cells {β : Type} {B0 B t : Nat} {cs : Array Value} {fr : Nat × Nat} : OwnFrom B0 (fun (_ : β) (W : World) => W.heap[B]? = some (.cells cs t fr)) := by
  intro s W W' row hs hg hr
  have hlt := (Array.getElem?_eq_some_iff.1 hs).1
  rw [hg.block B hlt (fun e => ?_)]
  · exact hs
  · obtain ⟨_, o, ho, hc⟩ := hr B e.symm
    rw [hs] at ho
    cases ho
    simp [Obj.isCells] at hc

def verbS (s : ByteArray) : Int × Int := match table.filter (fun v => v.word == s) with
  | v :: _ => (v.n, 0)
  | [] => (0, 121)

section
attribute [local go_sem] Oper.semAt_some
set_option maxRecDepth 100000 in
set_option maxHeartbeats 4000000 in
theorem verb_any (s : ByteArray) (w : World) {tt : TypeId} {fr : Nat × Nat} (hT : w.heap[2]? = some (.cells tabCells tt fr)) :
    Calls Tryd.prog 12 #[.string s] w fun e w' => e = .returned (.tuple #[.int .i64 (verbS s).1, .int .i64 (verbS s).2]) ∧ Below w.heap.size w w' := by
  have HT := Lib.hid hT
  have h2 : 2 < w.heap.size := (Array.getElem?_eq_some_iff.1 hT).1
  clear hT
  refine (callsIn_wide (n := 9)).1 ?_
  refine callsIn_of_wp_marks Tryd.func12 rfl trivial ?_ rfl
  simp only [Tryd.ntmps12, List.size_toArray, List.length_cons, List.length_nil, Nat.reduceAdd, Nat.reduceSub, Array.replicate_succ, Array.replicate_zero, List.push_toArray, List.append_toArray, List.nil_append, List.cons_append]
  gi_wp2_with fail
  refine ⟨trivial, ?_⟩
  refine (callsIn_wide.2 (that_any _ _ _ _)).mono ?_
  rintro e w3 ⟨rfl, rfl⟩
  gi_wp2_with fail
  have b1 := (((Boxed.new w 9 (.string s)).alloc (.cells #[.int .i64 0] 3)).alloc (.cells #[.int .i64 0] 24)).alloc (.cells #[.func (.func 28) #[] #[.pointer (some ⟨w.heap.size, 0, none⟩)]] 53)
  have b2 := ((Boxed.new (w.alloc (.cells #[.string s] 9)) 3 (.int .i64 0)).alloc (.cells #[.int .i64 0] 24)).alloc (.cells #[.func (.func 28) #[] #[.pointer (some ⟨w.heap.size, 0, none⟩)]] 53)
  have b3 := (Boxed.new ((w.alloc (.cells #[.string s] 9)).alloc (.cells #[.int .i64 0] 3)) 24 (.int .i64 0)).alloc (.cells #[.func (.func 28) #[] #[.pointer (some ⟨w.heap.size, 0, none⟩)]] 53)
  have b4 := Boxed.new (((w.alloc (.cells #[.string s] 9)).alloc (.cells #[.int .i64 0] 3)).alloc (.cells #[.int .i64 0] 24)) 53 (.func (.func 28) #[] #[.pointer (some ⟨w.heap.size, 0, none⟩)])
  simp only [World.size_alloc] at b2 b3 b4
  have hB0 : Below w.heap.size w ((((w.alloc (.cells #[.string s] 9)).alloc (.cells #[.int .i64 0] 3)).alloc (.cells #[.int .i64 0] 24)).alloc (.cells #[.func (.func 28) #[] #[.pointer (some ⟨w.heap.size, 0, none⟩)]] 53)) := ba (ba (ba (ba (Below.refl _ _) _) _) _) _
  have hsz : ((((w.alloc (.cells #[.string s] 9)).alloc (.cells #[.int .i64 0] 3)).alloc (.cells #[.int .i64 0] 24)).alloc (.cells #[.func (.func 28) #[] #[.pointer (some ⟨w.heap.size, 0, none⟩)]] 53)).heap.size = w.heap.size + 4 := by simp
  generalize ((((w.alloc (.cells #[.string s] 9)).alloc (.cells #[.int .i64 0] 3)).alloc (.cells #[.int .i64 0] 24)).alloc (.cells #[.func (.func 28) #[] #[.pointer (some ⟨w.heap.size, 0, none⟩)]] 53)) = W0 at b1 b2 b3 b4 hB0 hsz ⊢
  have hT0 := (hB0.block 2 h2).trans HT.out
  refine wpIn_rangeFunc_ownH rfl (by omega) (gf := 35) (lb := #[.pointer (some ⟨w.heap.size + 1 + 1 + 1, 0, none⟩)]) rfl trivial (enters_of Tryd.func35 (by kernel_rfl) rfl)
    (that_stops (9 - 1) (by omega) (w.heap.size + 1 + 1 + 1) W0.heap.size (w.heap.size + 1) 28 #[] #[.pointer (some ⟨w.heap.size, 0, none⟩)] (fun v => v.word == s) (fun W => W.cell? ⟨w.heap.size, 0, none⟩ = some (.string s))
      (fun A B hA hO => (hO.cell (x := ⟨w.heap.size, 0, none⟩) (by simp; omega) (by simp)).trans hA) (enters_of Tryd.func28 (by kernel_rfl) rfl)
      (fun v _ A hA => verb1_any v _ s A hA) W0 b4.cell (by omega) (by omega) (Nat.le_refl _) hT0 b1.cell)
    Off.trans (off_b (Nat.le_refl _)) (Below.refl _ _) (fun _ => rfl)
    (fun pre W => pre = [] ∧ Boxed W (w.heap.size + 1) 3 (.int .i64 0) ∧ Boxed W (w.heap.size + 1 + 1) 24 (.int .i64 0) ∧ Below w.heap.size W0 W)
    (fun c pre W => (c = .ret ∧ ∃ v : VerbR, pre = [v] ∧ Boxed W (w.heap.size + 1) 3 (.int .i64 v.n)) ∧ Boxed W (w.heap.size + 1 + 1) 24 (.int .i64 0) ∧ Below w.heap.size W0 W)
    (OwnFrom.and (fun _ _ _ _ hs _ _ => hs) (OwnFrom.and (Own.from (boxed_own _ _ (fun _ => _)) _) (OwnFrom.and (Own.from (boxed_own _ _ (fun _ => _)) _) (ownFrom_below (by omega) (by omega)))))
    (fun c => OwnFrom.and (fun s X Y row hs hg hr => ⟨hs.1, hs.2.choose, hs.2.choose_spec.1, boxed_own _ _ (fun (_ : Unit) => Value.int .i64 hs.2.choose.n) () X Y row hs.2.choose_spec.2 hg (fun r e => (hr r e).2)⟩)
      (OwnFrom.and (Own.from (boxed_own _ _ (fun _ => _)) _) (ownFrom_below (by omega) (by omega))))
    ⟨rfl, b2, b3, Below.refl _ _⟩
    (fun x a' W => ∃ Bx, w.heap.size + 4 ≤ Bx ∧ W.heap[Bx]? = some (.cells #[.int .i64 x.n, .string x.word, .int .i64 x.set] 52 (0, 0)) ∧ a' = { tmps := #[.string s, .pointer (some ⟨w.heap.size, 0, none⟩), .pointer (some ⟨w.heap.size + 1, 0, none⟩), .pointer (some ⟨w.heap.size + 1 + 1, 0, none⟩), .pointer (some ⟨Bx, 0, none⟩),
      .func (.func 28) #[] #[.pointer (some ⟨w.heap.size, 0, none⟩)], .func (.func 35) #[] #[.pointer (some ⟨w.heap.size + 1 + 1 + 1, 0, none⟩)], .agg #[.int .i64 x.n, .string x.word, .int .i64 x.set], undef, undef], defers := [] })
    (fun x a' s X Y row hs hg hr => by obtain ⟨Bx, h1, h2, h3⟩ := hs; exact ⟨Bx, h1, own_cells (β := Unit) () X Y row h2 hg hr, h3⟩)
    ?assign ?body ?done ?stop
  case assign =>
    rintro l pre x W K ⟨hpre, c2, c3, hB1⟩ hK
    have hWz := hB1.size
    obtain ⟨xn, xw, xs⟩ := x
    simp only [VerbR.val]
    gi_wp2
    exact hK _ _ ((KeepsOthers.alloc _ _).from _) (.of ((Below.refl _ W).alloc hWz _)) ⟨hpre, c2.alloc _, c3.alloc _, hB1.alloc (by omega) _⟩ ⟨W.heap.size, by omega, World.alloc_heap_new W _, rfl⟩
  case body =>
    rintro l pre x a' W hl ⟨r, hr⟩ ⟨rfl, c2, c3, hB1⟩ ⟨Bx, hBx, bX, rfl⟩ hlt
    have d0 := cell_of_row W Bx 0 _ _ _ bX
    have k2 := c2.cell
    have k3 := c3.cell
    have f2 := c2.frozen
    have f3 := c3.frozen
    simp at d0
    gi_wp2
    have k1 : KeepsFrom W0.heap.size W ((W.setCell ⟨w.heap.size + 1, 0, none⟩ (.int .i64 x.n)).setCell ⟨w.heap.size + 1 + 1, 0, none⟩ (.int .i64 0)) := ((KeepsOthers.setCell _ _ _).trans (KeepsOthers.setCell _ _ _)).from _
    exact ⟨k1, ⟨rfl, x, rfl, (c2.set _).other (by omega) _⟩, (c3.other (by omega) _).set _, (hB1.setCell (by first | (simp; done) | (simp; omega)) _).setCell (by first | (simp; done) | (simp; omega)) _⟩
  case done =>
    rintro D ys W hD rfl ⟨hys, c2, c3, hB1⟩ hK
    have e : verbS s = (0, 121) := by rw [verbS, hys]
    replace e := Lib.hid e
    have k2 := c2.cell
    have k3 := c3.cell
    have f2 := c2.frozen
    have f3 := c3.frozen
    have c2' := (c2.set (.int .i64 0)).other (show w.heap.size + 1 ≠ w.heap.size + 1 + 1 by omega) (.int .i64 121)
    have c3' := (c3.other (show w.heap.size + 1 + 1 ≠ w.heap.size + 1 by omega) (.int .i64 0)).set (.int .i64 121)
    have hK' : ((W.setCell ⟨w.heap.size + 1, 0, none⟩ (.int .i64 0)).setCell ⟨w.heap.size + 1 + 1, 0, none⟩ (.int .i64 121)).heap[D]? = some (.deferred (some [])) := by
      rw [Below.heap_setCell _ _ _ _ (by simp; omega), Below.heap_setCell _ _ _ _ (by simp; omega)]; exact hK
    have hB2 : Below w.heap.size W0 ((W.setCell ⟨w.heap.size + 1, 0, none⟩ (.int .i64 0)).setCell ⟨w.heap.size + 1 + 1, 0, none⟩ (.int .i64 121)) := (hB1.setCell (by first | (simp; done) | (simp; omega)) _).setCell (by first | (simp; done) | (simp; omega)) _
    gi_wp2
    generalize (W.setCell ⟨w.heap.size + 1, 0, none⟩ (.int .i64 0)).setCell ⟨w.heap.size + 1 + 1, 0, none⟩ (.int .i64 121) = X at *
    have q2 := (c2'.kept (grownBy_putObj' X D (.deferred none)) (by intro e; cases e; omega)).cell
    have q3 := (c3'.kept (grownBy_putObj' X D (.deferred none)) (by intro e; cases e; omega)).cell
    refine ⟨by simp, .inl ⟨_, _, rfl, run_takeDeferred hK', ?_⟩⟩
    exact ⟨.tuple #[.int .i64 0, .int .i64 121], by simp [results, Tryd.results12, go_sem, q2, q3], by rw [e.out], (hB0.trans hB2).trans (belowK_b (w := w) (Nat.le_refl _) X D _ _ (by omega) hK' rfl rfl)⟩
  case stop =>
    rintro D c pre W hD hpre ⟨⟨rfl, v, rfl, c2⟩, c3, hB1⟩ hK
    have e : verbS s = (v.n, 0) := by
      obtain ⟨t, ht⟩ := hpre
      rw [verbS, ← ht]; rfl
    replace e := Lib.hid e
    have k2 := c2.cell
    have k3 := c3.cell
    gi_wp2
    have q2 := (c2.kept (grownBy_putObj' W D (.deferred none)) (by intro e; cases e; omega)).cell
    have q3 := (c3.kept (grownBy_putObj' W D (.deferred none)) (by intro e; cases e; omega)).cell
    refine ⟨by simp, .inl ⟨_, _, rfl, run_takeDeferred hK, ?_⟩⟩
    exact ⟨.tuple #[.int .i64 v.n, .int .i64 0], by simp [results, Tryd.results12, go_sem, q2, q3], by rw [e.out], (hB0.trans hB1).trans (belowK_b (w := w) (Nat.le_refl _) W D _ _ (by omega) hK rfl rfl)⟩
end
end Go.Proofs.YthlccacnoolpjaaDoor
