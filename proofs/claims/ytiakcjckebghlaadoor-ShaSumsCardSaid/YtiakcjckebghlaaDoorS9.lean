/-
  Sha: a loop over the blocks of a text.
-/
import Derived.Test.YtiakcjckebghlaaDoorS7
namespace Go.Proofs.YtiakcjckebghlaaDoor
open Go.RowKit Go.Shelf

/-- the loop's record as it stands while all goes well -/
def recB (fn : FuncId) (tmps : Array Value) (ps : Array Tmp) (assign body : Code) (D : Nat) (st : LoopState) : Loop := { state := st, pending := none, fn := fn, tmps := tmps, params := ps, assign := assign, body := body, defers := D }

theorem range_blocks {g : Operand} {ps : Array Tmp} {assign body : Code} {Q : Exit → Act → World → Prop} {a : Act} {w : World} (n : Nat) (hn : 2 ≤ n) (M Bs : Nat) (s : ByteArray) (hs : s.size ≤ 2000) (m : Nat) (hm : s.size = 64 * m)
    (hg : a.eval g = .func (.func 28) #[] #[.pointer (some ⟨Bs, 0, none⟩)]) (hps : ps.size = 1) (hMw : M < w.heap.size) (hBM : Bs ≠ M)
    (I : Nat → World → Prop)
    (hal : ∀ k W o, I k W → I k (W.alloc o)) (hput : ∀ k W l o, w.heap.size ≤ l → I k W → I k (W.putObj l o)) (hset : ∀ k W v, I k W → I k (W.setCell ⟨Bs, 0, none⟩ v))
    (h0 : I 0 w) (hB : Boxed w Bs 9 (.string s)) (a1 : Nat → Act)
    (hassign : ∀ (l k : Nat) (W : World) (K : Act → World → Prop), K (a1 k) W →
      assign.wpIn (Fence.wide.inRound l) (n - 1 - 1) Tryd.prog (Exit.then K (fun _ _ _ => False)) { tmps := (ps.zip #[.string (chunk s k)]).foldl (fun t (p, v) => t.setIfInBounds p v) a.tmps, defers := [] } W)
    (hbody : ∀ (l k : Nat) (W : World), k < m → w.heap.size ≤ W.heap.size → I k W →
      body.wpIn (Fence.wide.inRound l) (n - 1 - 1) Tryd.prog (Exit.then (fun _ W' => I (k + 1) W' ∧ W.heap.size ≤ W'.heap.size ∧ ∀ j, j < W.heap.size → j ≠ M → W'.heap[j]? = W.heap[j]?) (fun _ _ _ => False)) (a1 k) W)
    (hdone : ∀ (D : Nat) (W : World), w.heap.size ≤ D → I m W → W.heap[D]? = some (.deferred (some [])) → Q .normal { a with defers := { target := .collected D, args := #[] } :: a.defers } W) :
    (Code.rangeFunc g ps assign body).wpIn Fence.wide n Tryd.prog Q a w := by
  have hBw := hB.lt
  refine wpIn_rangeFunc fun fn hfn => ?_
  obtain ⟨W0, hW0⟩ : ∃ W0, (w.alloc (.deferred (some []))).alloc (.loop (recB fn a.tmps ps assign body w.heap.size .ready)) = W0 := ⟨_, rfl⟩
  refine ⟨w.heap.size + 1, [{ target := .collected w.heap.size, args := #[] }], W0, { target := .fn (.func 28) #[.pointer (some ⟨Bs, 0, none⟩)], args := #[.func (.yield (w.heap.size + 1)) #[] #[]] }, W0, 28,
    #[.func (.yield (w.heap.size + 1)) #[] #[], .pointer (some ⟨Bs, 0, none⟩)], W0, ?_, ?_, fun _ _ => trivial, ?_, fun _ => by omega, ?_⟩
  · rw [← hW0]; exact run_enterLoop_outer _ _ _ _ _
  · simp only [resolve, hg]
    simp [go_sem]
  · have eg := enters_of Tryd.func28 (by kernel_rfl) rfl
    simp [invoke, go_sem, eg]
  · have hL : W0.heap[w.heap.size + 1]? = some (.loop (recB fn a.tmps ps assign body w.heap.size .ready)) := by
      rw [← hW0]
      have := World.alloc_heap_new (w.alloc (.deferred (some []))) (.loop (recB fn a.tmps ps assign body w.heap.size .ready))
      rwa [World.size_alloc] at this
    have hD : W0.heap[w.heap.size]? = some (.deferred (some [])) := by
      rw [← hW0]; exact (Below.heap_alloc _ _ _ (by simp)).trans (World.alloc_heap_new w _)
    have hI0 : I 0 W0 := by rw [← hW0]; exact hal _ _ _ (hal _ _ _ h0)
    have hB0 : Boxed W0 Bs 9 (.string s) := by rw [← hW0]; exact (hB.alloc _).alloc _
    refine (blocks1_in (n - 1) (by omega) (w.heap.size + 1) Bs s hs m hm
      (fun k W => I k W ∧ W.heap[w.heap.size + 1]? = some (.loop (recB fn a.tmps ps assign body w.heap.size .ready)) ∧ W.heap[w.heap.size]? = some (.deferred (some [])))
      (fun k W v h => ⟨hset _ _ _ h.1, (Below.heap_setCell _ _ _ _ (by show _ ≠ Bs; omega)).trans h.2.1, (Below.heap_setCell _ _ _ _ (by show _ ≠ Bs; omega)).trans h.2.2⟩)
      ?_ W0 hB0 ⟨hI0, hL, hD⟩).mono ?_
    · rintro k W hk ⟨hI, hl, hd⟩
      have hlt : w.heap.size + 1 < W.heap.size := (Array.getElem?_eq_some_iff.1 hl).1
      have hy := run_yield (P := Tryd.prog) (args := #[.string (chunk s k)]) hl (by simp [recB, hps])
      refine ⟨fn, _, assign, body, hy, roundIn_of_wpIn hfn (hassign _ k W _ ?_)⟩
      have hbr : (Instr.beginRound (w.heap.size + 1)).run Tryd.prog W = .ok () (W.putObj (w.heap.size + 1) (.loop (recB fn a.tmps ps assign body w.heap.size .busy))) := run_beginRound hl rfl
      refine ⟨_, hbr, ?_⟩
      have hl2 : (W.putObj (w.heap.size + 1) (.loop (recB fn a.tmps ps assign body w.heap.size .busy))).heap[w.heap.size + 1]? = some (.loop (recB fn a.tmps ps assign body w.heap.size .busy)) := World.putObj_heap_same hlt
      have hd2 : (W.putObj (w.heap.size + 1) (.loop (recB fn a.tmps ps assign body w.heap.size .busy))).heap[w.heap.size]? = some (.deferred (some [])) := (World.putObj_heap_other (by omega)).trans hd
      have hb2 : (W.putObj (w.heap.size + 1) (.loop (recB fn a.tmps ps assign body w.heap.size .busy))).heap[Bs]? = W.heap[Bs]? := World.putObj_heap_other (by omega)
      have hs2 : (W.putObj (w.heap.size + 1) (.loop (recB fn a.tmps ps assign body w.heap.size .busy))).heap.size = W.heap.size := by simp
      refine wpIn_mono (hbody _ k _ hk (by rw [hs2]; omega) (hput _ _ _ _ (by omega) hI)) ?_
      rintro e a3 W3 hp
      cases e with
      | normal =>
        obtain ⟨hi3, hz3, hk3⟩ := hp
        have hl3 := (hk3 (w.heap.size + 1) (by rw [hs2]; exact hlt) (by omega)).trans hl2
        have hd3 := (hk3 w.heap.size (by rw [hs2]; omega) (by omega)).trans hd2
        have hb3 := (hk3 Bs (by rw [hs2]; omega) hBM).trans hb2
        have hend : (Instr.endRound (w.heap.size + 1) none).run Tryd.prog W3 = .ok (.bool true) (W3.putObj (w.heap.size + 1) (.loop (recB fn a.tmps ps assign body w.heap.size .ready))) := run_endRound (P := Tryd.prog) none hl3
        exact ⟨_, _, hend, rfl, ⟨hput _ _ _ _ (by omega) hi3, World.putObj_heap_same (Array.getElem?_eq_some_iff.1 hl3).1, (World.putObj_heap_other (by omega)).trans hd3⟩, (World.putObj_heap_other (by omega)).trans hb3⟩
      | _ => exact hp.elim
    · rintro e W2 ⟨⟨v, rfl⟩, hi, hl, hd⟩
      have hend := run_endLoop (P := Tryd.prog) hl (by simp [recB])
      exact ⟨none, _, hend, hdone _ _ (Nat.le_refl _) (hput _ _ _ _ (by omega) hi) ((World.putObj_heap_other (by omega)).trans hd)⟩
end Go.Proofs.YtiakcjckebghlaaDoor
