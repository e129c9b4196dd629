/-
  Roles: words of verbs.
-/
import Derived.Test.YthlccacnoolpjaaDoorR3
namespace Go.Proofs.YthlccacnoolpjaaDoor
open Go.RowKit Go.Shelf

def wordS (n : Int) : ByteArray × Int := match table.filter (fun v => v.n == n) with
  | v :: _ => (v.word, 0)
  | [] => (⟨#[]⟩, 121)

section
attribute [local go_sem] Oper.semAt_some
set_option maxRecDepth 100000 in
set_option maxHeartbeats 4000000 in
theorem word_any (n : Int) (w : World) {tt : TypeId} {fr : Nat × Nat} (hT : w.heap[2]? = some (.cells tabCells tt fr)) :
    Calls Tryd.prog 14 #[.int .i64 n] w fun e w' => e = .returned (.tuple #[.string (wordS n).1, .int .i64 (wordS n).2]) ∧ Below w.heap.size w w' := by
  have HT := Lib.hid hT
  have h2 : 2 < w.heap.size := (Array.getElem?_eq_some_iff.1 hT).1
  clear hT
  refine (callsIn_wide (n := 9)).1 ?_
  refine callsIn_of_wp_marks Tryd.func14 rfl trivial ?_ rfl
  simp only [Tryd.ntmps14, List.size_toArray, List.length_cons, List.length_nil, Nat.reduceAdd, Nat.reduceSub, Array.replicate_succ, Array.replicate_zero, List.push_toArray, List.append_toArray, List.nil_append, List.cons_append]
  gi_wp2_with fail
  refine ⟨trivial, ?_⟩
  refine (callsIn_wide.2 (that_any _ _ _ _)).mono ?_
  rintro e w3 ⟨rfl, rfl⟩
  gi_wp2_with fail
  have b1 := (((Boxed.new w 3 (.int .i64 n)).alloc (.cells #[.string ⟨#[]⟩] 9)).alloc (.cells #[.int .i64 0] 24)).alloc (.cells #[.func (.func 29) #[] #[.pointer (some ⟨w.heap.size, 0, none⟩)]] 53)
  have b2 := ((Boxed.new (w.alloc (.cells #[.int .i64 n] 3)) 9 (.string ⟨#[]⟩)).alloc (.cells #[.int .i64 0] 24)).alloc (.cells #[.func (.func 29) #[] #[.pointer (some ⟨w.heap.size, 0, none⟩)]] 53)
  have b3 := (Boxed.new ((w.alloc (.cells #[.int .i64 n] 3)).alloc (.cells #[.string ⟨#[]⟩] 9)) 24 (.int .i64 0)).alloc (.cells #[.func (.func 29) #[] #[.pointer (some ⟨w.heap.size, 0, none⟩)]] 53)
  have b4 := Boxed.new (((w.alloc (.cells #[.int .i64 n] 3)).alloc (.cells #[.string ⟨#[]⟩] 9)).alloc (.cells #[.int .i64 0] 24)) 53 (.func (.func 29) #[] #[.pointer (some ⟨w.heap.size, 0, none⟩)])
  simp only [World.size_alloc] at b2 b3 b4
  have hB0 : Below w.heap.size w ((((w.alloc (.cells #[.int .i64 n] 3)).alloc (.cells #[.string ⟨#[]⟩] 9)).alloc (.cells #[.int .i64 0] 24)).alloc (.cells #[.func (.func 29) #[] #[.pointer (some ⟨w.heap.size, 0, none⟩)]] 53)) := ba (ba (ba (ba (Below.refl _ _) _) _) _) _
  have hsz : ((((w.alloc (.cells #[.int .i64 n] 3)).alloc (.cells #[.string ⟨#[]⟩] 9)).alloc (.cells #[.int .i64 0] 24)).alloc (.cells #[.func (.func 29) #[] #[.pointer (some ⟨w.heap.size, 0, none⟩)]] 53)).heap.size = w.heap.size + 4 := by simp
  generalize ((((w.alloc (.cells #[.int .i64 n] 3)).alloc (.cells #[.string ⟨#[]⟩] 9)).alloc (.cells #[.int .i64 0] 24)).alloc (.cells #[.func (.func 29) #[] #[.pointer (some ⟨w.heap.size, 0, none⟩)]] 53)) = W0 at b1 b2 b3 b4 hB0 hsz ⊢
  have hT0 := (hB0.block 2 h2).trans HT.out
  refine wpIn_rangeFunc_ownH rfl (by omega) (gf := 35) (lb := #[.pointer (some ⟨w.heap.size + 1 + 1 + 1, 0, none⟩)]) rfl trivial (enters_of Tryd.func35 (by kernel_rfl) rfl)
    (that_stops (9 - 1) (by omega) (w.heap.size + 1 + 1 + 1) W0.heap.size (w.heap.size + 1) 29 #[] #[.pointer (some ⟨w.heap.size, 0, none⟩)] (fun v => v.n == n) (fun W => W.cell? ⟨w.heap.size, 0, none⟩ = some (.int .i64 n))
      (fun A B hA hO => (hO.cell (x := ⟨w.heap.size, 0, none⟩) (by simp; omega) (by simp)).trans hA) (enters_of Tryd.func29 (by kernel_rfl) rfl)
      (fun v _ A hA => word1_any v _ n A hA) W0 b4.cell (by omega) (by omega) (Nat.le_refl _) hT0 b1.cell)
    Off.trans (off_b (Nat.le_refl _)) (Below.refl _ _) (fun _ => rfl)
    (fun pre W => pre = [] ∧ Boxed W (w.heap.size + 1) 9 (.string ⟨#[]⟩) ∧ Boxed W (w.heap.size + 1 + 1) 24 (.int .i64 0) ∧ Below w.heap.size W0 W)
    (fun c pre W => (c = .ret ∧ ∃ v : VerbR, pre = [v] ∧ Boxed W (w.heap.size + 1) 9 (.string v.word)) ∧ Boxed W (w.heap.size + 1 + 1) 24 (.int .i64 0) ∧ Below w.heap.size W0 W)
    (OwnFrom.and (fun _ _ _ _ hs _ _ => hs) (OwnFrom.and (Own.from (boxed_own _ _ (fun _ => _)) _) (OwnFrom.and (Own.from (boxed_own _ _ (fun _ => _)) _) (ownFrom_below (by omega) (by omega)))))
    (fun c => OwnFrom.and (fun s X Y row hs hg hr => ⟨hs.1, hs.2.choose, hs.2.choose_spec.1, boxed_own _ _ (fun (_ : Unit) => Value.string hs.2.choose.word) () X Y row hs.2.choose_spec.2 hg (fun r e => (hr r e).2)⟩)
      (OwnFrom.and (Own.from (boxed_own _ _ (fun _ => _)) _) (ownFrom_below (by omega) (by omega))))
    ⟨rfl, b2, b3, Below.refl _ _⟩
    (fun x a' W => ∃ Bx, w.heap.size + 4 ≤ Bx ∧ W.heap[Bx]? = some (.cells #[.int .i64 x.n, .string x.word, .int .i64 x.set] 52 (0, 0)) ∧ a' = { tmps := #[.int .i64 n, .pointer (some ⟨w.heap.size, 0, none⟩), .pointer (some ⟨w.heap.size + 1, 0, none⟩), .pointer (some ⟨w.heap.size + 1 + 1, 0, none⟩), .pointer (some ⟨Bx, 0, none⟩),
      .func (.func 29) #[] #[.pointer (some ⟨w.heap.size, 0, none⟩)], .func (.func 35) #[] #[.pointer (some ⟨w.heap.size + 1 + 1 + 1, 0, none⟩)], .agg #[.int .i64 x.n, .string x.word, .int .i64 x.set], undef, undef], defers := [] })
    (fun x a' s X Y row hs hg hr => by obtain ⟨Bx, h1, h2, h3⟩ := hs; exact ⟨Bx, h1, own_cells (β := Unit) () X Y row h2 hg hr, h3⟩)
    ?assign ?body ?done ?stop
  case assign =>
    rintro l pre x W K ⟨hpre, c2, c3, hB1⟩ hK
    have hWz := hB1.size
    obtain ⟨xn, xw, xs⟩ := x
    simp only [VerbR.val]
    gi_wp2
    exact hK _ _ ((KeepsOthers.alloc _ _).from _) (.of ((Below.refl _ W).alloc hWz _)) ⟨hpre, c2.alloc _, c3.alloc _, hB1.alloc (by omega) _⟩ ⟨W.heap.size, by omega, World.alloc_heap_new W _, rfl⟩
  case body =>
    rintro l pre x a' W hl ⟨r, hr⟩ ⟨rfl, c2, c3, hB1⟩ ⟨Bx, hBx, bX, rfl⟩ hlt
    have d0 := cell_of_row W Bx 1 _ _ _ bX
    have k2 := c2.cell
    have k3 := c3.cell
    have f2 := c2.frozen
    have f3 := c3.frozen
    simp at d0
    gi_wp2
    have k1 : KeepsFrom W0.heap.size W ((W.setCell ⟨w.heap.size + 1, 0, none⟩ (.string x.word)).setCell ⟨w.heap.size + 1 + 1, 0, none⟩ (.int .i64 0)) := ((KeepsOthers.setCell _ _ _).trans (KeepsOthers.setCell _ _ _)).from _
    exact ⟨k1, ⟨rfl, x, rfl, (c2.set _).other (by omega) _⟩, (c3.other (by omega) _).set _, (hB1.setCell (by first | (simp; done) | (simp; omega)) _).setCell (by first | (simp; done) | (simp; omega)) _⟩
  case done =>
    rintro D ys W hD rfl ⟨hys, c2, c3, hB1⟩ hK
    have e : wordS n = (⟨#[]⟩, 121) := by rw [wordS, hys]
    replace e := Lib.hid e
    have k2 := c2.cell
    have k3 := c3.cell
    have f2 := c2.frozen
    have f3 := c3.frozen
    have c2' := (c2.set (.string ⟨#[]⟩)).other (show w.heap.size + 1 ≠ w.heap.size + 1 + 1 by omega) (.int .i64 121)
    have c3' := (c3.other (show w.heap.size + 1 + 1 ≠ w.heap.size + 1 by omega) (.string ⟨#[]⟩)).set (.int .i64 121)
    have hK' : ((W.setCell ⟨w.heap.size + 1, 0, none⟩ (.string ⟨#[]⟩)).setCell ⟨w.heap.size + 1 + 1, 0, none⟩ (.int .i64 121)).heap[D]? = some (.deferred (some [])) := by
      rw [Below.heap_setCell _ _ _ _ (by simp; omega), Below.heap_setCell _ _ _ _ (by simp; omega)]; exact hK
    have hB2 : Below w.heap.size W0 ((W.setCell ⟨w.heap.size + 1, 0, none⟩ (.string ⟨#[]⟩)).setCell ⟨w.heap.size + 1 + 1, 0, none⟩ (.int .i64 121)) := (hB1.setCell (by first | (simp; done) | (simp; omega)) _).setCell (by first | (simp; done) | (simp; omega)) _
    gi_wp2
    generalize (W.setCell ⟨w.heap.size + 1, 0, none⟩ (.string ⟨#[]⟩)).setCell ⟨w.heap.size + 1 + 1, 0, none⟩ (.int .i64 121) = X at *
    have q2 := (c2'.kept (grownBy_putObj' X D (.deferred none)) (by intro e; cases e; omega)).cell
    have q3 := (c3'.kept (grownBy_putObj' X D (.deferred none)) (by intro e; cases e; omega)).cell
    refine ⟨by simp, .inl ⟨_, _, rfl, run_takeDeferred hK', ?_⟩⟩
    exact ⟨.tuple #[.string ⟨#[]⟩, .int .i64 121], by simp [results, Tryd.results14, go_sem, q2, q3], by rw [e.out], (hB0.trans hB2).trans (belowK_b (w := w) (Nat.le_refl _) X D _ _ (by omega) hK' rfl rfl)⟩
  case stop =>
    rintro D c pre W hD hpre ⟨⟨rfl, v, rfl, c2⟩, c3, hB1⟩ hK
    have e : wordS n = (v.word, 0) := by
      obtain ⟨t, ht⟩ := hpre
      rw [wordS, ← ht]; rfl
    replace e := Lib.hid e
    have k2 := c2.cell
    have k3 := c3.cell
    gi_wp2
    have q2 := (c2.kept (grownBy_putObj' W D (.deferred none)) (by intro e; cases e; omega)).cell
    have q3 := (c3.kept (grownBy_putObj' W D (.deferred none)) (by intro e; cases e; omega)).cell
    refine ⟨by simp, .inl ⟨_, _, rfl, run_takeDeferred hK, ?_⟩⟩
    exact ⟨.tuple #[.string v.word, .int .i64 0], by simp [results, Tryd.results14, go_sem, q2, q3], by rw [e.out], (hB0.trans hB1).trans (belowK_b (w := w) (Nat.le_refl _) W D _ _ (by omega) hK rfl rfl)⟩
end
end Go.Proofs.YthlccacnoolpjaaDoor
