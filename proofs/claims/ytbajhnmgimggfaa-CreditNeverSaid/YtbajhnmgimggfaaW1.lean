/-
  The walks of credit's leaves: the map of rules, and Right.
-/
import Derived.Test.YtbajhnmgimggfaaRows
import Derived.WalkKit
import Derived.WalkLawsBesides
import Derived.WalkSpells
import Derived.Lib.Hide
namespace Go.Proofs.Ytbajhnmgimggfaa
open Go.RowKit

/-! ### maps with whatever elements: a store of a new key, a look-up -/
theorem checkKey_plain {P : Program} {t : TypeId} {d : TypeDesc} (ht : P.underlying t = some d) (hd : d = .int .i64 ∨ d = .string) (b : Bool) (v : Value) (w : World) : (Instr.checkKey b 10000 t v).run P w = .ok () w := by
  show (Instr.checkKey b (9999 + 1) t v).run P w = _
  unfold Instr.checkKey
  rw [Sem.run_bind, run_underlying ht]
  rcases hd with rfl | rfl <;> rfl

theorem findKey_now {P : Program} {t : TypeId} {d : TypeDesc} (ht : P.underlying t = some d) {k : Value} {es : List MapEntry} {r : Option (Nat × Value)} (h : Instr.findNow d k es 0 = some r) (w : World) : (Instr.findKey t k es).run P w = .ok r w := by
  unfold Instr.findKey
  rw [Sem.run_bind, run_underlying ht]
  simp [Result.andThen, h]

theorem run_mapUpdate_new {P : Program} {T K E : TypeId} {d : TypeDesc} (hT : P.underlying T = some (.map K E)) (hK : P.underlying K = some d) (hd : d = .int .i64 ∨ d = .string) {w : World} {r : Nat} {es : Array MapEntry} {c : Nat}
    (hb : w.heap[r]? = some (.map es c)) {k v : Value} (h : Instr.findNow d k es.toList 0 = some none) :
    (Instr.mapUpdate T (.map (some r)) k v).run P w = .ok () { w with heap := w.heap.setIfInBounds r (.map (es.push ⟨k, v, c⟩) (c + 1)) } := by
  unfold Instr.mapUpdate
  simp only [Sem.run_bind, run_underlying hT, Result.andThen, MapKept.run_getObj_map hb, checkKey_plain hK hd, findKey_now hK h, MapKept.run_setObj_map _ hb]

theorem run_lookup_hit {P : Program} {T K E : TypeId} {d : TypeDesc} (hT : P.underlying T = some (.map K E)) (hK : P.underlying K = some d) (hd : d = .int .i64 ∨ d = .string) {w : World} {r : Nat} {es : Array MapEntry} {c : Nat}
    (hb : w.heap[r]? = some (.map es c)) {k v : Value} {i : Nat} (h : Instr.findNow d k es.toList 0 = some (some (i, v))) (ok : Bool) :
    (Instr.lookup T (.map (some r)) k ok).run P w = .ok (if ok then .tuple #[v, .bool true] else v) w := by
  unfold Instr.lookup
  simp only [Sem.run_bind, run_underlying hT, Result.andThen, MapKept.run_getObj_map hb, checkKey_plain hK hd, findKey_now hK h, Sem.run_pure]

theorem putLast (w : World) (o o' : Obj) : ({ (w.alloc o) with heap := (w.alloc o).heap.setIfInBounds w.heap.size o' } : World) = w.alloc o' := by
  show World.mk ((w.heap.push o).setIfInBounds w.heap.size o') _ _ _ _ = World.mk (w.heap.push o') _ _ _ _
  congr 1
  apply Array.ext_getElem?
  intro i
  simp only [Array.getElem?_setIfInBounds, Array.getElem?_push, Array.size_push]
  by_cases h : w.heap.size = i
  · subst h; simp
  · rw [if_neg h, if_neg (fun e => h e.symm), if_neg (fun e => h e.symm)]
theorem heap_alloc_last (w : World) (o : Obj) : (w.alloc o).heap[w.heap.size]? = some o := by
  show (w.heap.push o)[w.heap.size]? = _
  simp

def rule0 : MapEntry := ⟨.int .i64 0, .func (.func 29) #[] #[], 0⟩
def rule1 : MapEntry := ⟨.int .i64 1, .func (.func 30) #[] #[], 1⟩
def rule2 : MapEntry := ⟨.int .i64 2, .func (.func 31) #[] #[], 2⟩

theorem upd_last {w : World} {es : Array MapEntry} {c : Nat} {k : Int} {v : Value} (h : Instr.findNow (.int .i64) (.int .i64 k) es.toList 0 = some none) : (Instr.mapUpdate 39 (.map (some w.heap.size)) (.int .i64 k) v).run Try.prog (w.alloc (.map es c)) =
    .ok () (w.alloc (.map (es.push ⟨.int .i64 k, v, c⟩) (c + 1))) := by
  rw [run_mapUpdate_new Try.underlying39 Try.underlying3 (.inl rfl) (heap_alloc_last _ _) h, putLast]

theorem rules_any (w : World) : Calls Try.prog 23 #[] w fun e w' => e = .returned (.map (some w.heap.size)) ∧ w.alloc (.map #[rule0, rule1, rule2] 3) = w' := by
  have hmm := @run_makeMap Try.prog
  have u0 : (Instr.mapUpdate 39 (.map (some w.heap.size)) (.int .i64 0) (.func (.func 29) #[] #[])).run Try.prog (w.alloc (.map #[] 0)) = .ok () (w.alloc (.map #[rule0] 1)) := upd_last rfl
  have u1 : (Instr.mapUpdate 39 (.map (some w.heap.size)) (.int .i64 1) (.func (.func 30) #[] #[])).run Try.prog (w.alloc (.map #[rule0] 1)) = .ok () (w.alloc (.map #[rule0, rule1] 2)) := upd_last rfl
  have u2 : (Instr.mapUpdate 39 (.map (some w.heap.size)) (.int .i64 2) (.func (.func 31) #[] #[])).run Try.prog (w.alloc (.map #[rule0, rule1] 2)) = .ok () (w.alloc (.map #[rule0, rule1, rule2] 3)) := upd_last rfl
  go_enter Try.func23, Try.ntmps23
  go_wp2
  go_ret
  exact ⟨rfl, rfl⟩

/-- what the three rules, and Right, compute -/
def spentB (g s : Int) : Bool := decide (0 ≤ s) && decide (s ≤ g)
def grantedB (g : Int) : Bool := decide (g ≤ 1000000000000)
def leftB (g s : Int) : Bool := decide (wrap64 (g - s) ≤ 65536)
def rightB (g s : Int) : Bool := spentB g s && (grantedB g && leftB g s)

theorem spent_any (g s : Int) (w : World) : Calls Try.prog 29 #[.agg #[.int .i64 g, .int .i64 s]] w fun e w' => e = .returned (.bool (spentB g s)) ∧ Below w.heap.size w w' := by
  by_cases h : 0 ≤ s
  · go_enter Try.func29, Try.ntmps29
    go_wp2
    go_ret
    exact ⟨by simp [h, spentB], (Below.refl _ _).alloc (Nat.le_refl _) _⟩
  · have e : spentB g s = false := by simp [spentB, h]
    go_enter Try.func29, Try.ntmps29
    go_wp2
    go_ret
    exact ⟨rfl, (Below.refl _ _).alloc (Nat.le_refl _) _⟩
theorem granted_any (g s : Int) (w : World) : Calls Try.prog 30 #[.agg #[.int .i64 g, .int .i64 s]] w fun e w' => e = .returned (.bool (grantedB g)) ∧ Below w.heap.size w w' := by
  go_enter Try.func30, Try.ntmps30
  go_wp2
  go_ret
  exact ⟨rfl, (Below.refl _ _).alloc (Nat.le_refl _) _⟩
theorem left_any (g s : Int) (w : World) : Calls Try.prog 31 #[.agg #[.int .i64 g, .int .i64 s]] w fun e w' => e = .returned (.bool (leftB g s)) ∧ Below w.heap.size w w' := by
  go_enter Try.func31, Try.ntmps31
  go_wp2
  go_ret
  exact ⟨rfl, ((Below.refl _ _).alloc (Nat.le_refl _) _).alloc (by simp) _⟩

theorem bcell {W w1 : World} {B : Nat} (hb : Below B W w1) : (∀ b o, b < B → w1.cell? ⟨b, o, none⟩ = W.cell? ⟨b, o, none⟩) ∧ (∀ b o, b < B → w1.frozen? ⟨b, o, none⟩ = W.frozen? ⟨b, o, none⟩) :=
  ⟨fun b o h => hb.cell (p := ⟨b, o, none⟩) h, fun b o h => hb.frozen (p := ⟨b, o, none⟩) h⟩
theorem heap_alloc_old (w : World) (o : Obj) {r : Nat} {x : Obj} (h : w.heap[r]? = some x) : (w.alloc o).heap[r]? = some x := by
  rw [Below.heap_alloc _ _ _ (Array.getElem?_eq_some_iff.1 h).1]; exact h
theorem Below.obj {B : Nat} {W W' : World} (h : Below B W W') {r : Nat} {x : Obj} (hr : r < B) (hx : W.heap[r]? = some x) : W'.heap[r]? = some x := (h.block r hr).trans hx
theorem run_len_map {P : Program} {w : World} {r : Nat} {es : Array MapEntry} {c : Nat} {t k e : TypeId} (ht : P.underlying t = some (.map k e)) (hb : w.heap[r]? = some (.map es c)) (ty : TypeId) : (Builtin.len_ #[t] ty #[.map (some r)]).run P w = .ok (.int .i64 es.size) w := by
  unfold Builtin.len_
  simp only [List.getElem?_toArray, List.getElem?_cons_zero, Sem.run_bind, run_underlying ht, Result.andThen, MapKept.run_getObj_map hb, Sem.run_pure]
  rfl

theorem right_any (g s : Int) (w : World) : Calls Try.prog 13 #[.agg #[.int .i64 g, .int .i64 s]] w fun e w' => e = .returned (.bool (rightB g s)) ∧ Below w.heap.size w w' := by
  obtain ⟨W, hW⟩ : ∃ W, (w.alloc (.cells #[.int .i64 g, .int .i64 s] 23)).alloc (.map #[rule0, rule1, rule2] 3) = W := ⟨_, rfl⟩
  have hM : W.heap[w.heap.size + 1]? = some (.map #[rule0, rule1, rule2] 3) := by
    have := heap_alloc_last (w.alloc (.cells #[.int .i64 g, .int .i64 s] 23)) (.map #[rule0, rule1, rule2] 3)
    rw [World.size_alloc] at this
    rw [← hW]; exact this
  have hB : Below w.heap.size w W := by rw [← hW]; exact ((Below.refl _ _).alloc (Nat.le_refl _) _).alloc (by simp) _
  have hz : W.heap.size = w.heap.size + 2 := by rw [← hW]; simp
  have c0 : W.cell? ⟨w.heap.size, 0, none⟩ = some (.int .i64 g) := by rw [← hW]; simp [go_sem]
  have c1 : W.cell? ⟨w.heap.size, 1, none⟩ = some (.int .i64 s) := by rw [← hW]; simp [go_sem]
  have hz := Lib.hid hz
  have lk : ∀ (V : World), Below W.heap.size W V → (∀ k v i, Instr.findNow (.int .i64) (.int .i64 k) #[rule0, rule1, rule2].toList 0 = some (some (i, v)) → (Instr.lookup 39 (.map (some (w.heap.size + 1))) (.int .i64 k) false).run Try.prog V = .ok v V) ∧
      V.cell? ⟨w.heap.size, 0, none⟩ = some (.int .i64 g) ∧ V.cell? ⟨w.heap.size, 1, none⟩ = some (.int .i64 s) := fun V hV =>
    ⟨fun k v i hf => run_lookup_hit Try.underlying39 Try.underlying3 (.inl rfl) (Below.obj hV (by have := hz.out; omega) hM) hf false,
     (hV.cell (p := ⟨w.heap.size, 0, none⟩) (by have := hz.out; simp; omega)).trans c0, (hV.cell (p := ⟨w.heap.size, 1, none⟩) (by have := hz.out; simp; omega)).trans c1⟩
  have hlen := run_len_map (P := Try.prog) Try.underlying39 hM 3
  have l0 := (lk W (Below.refl _ _)).1 0 (.func (.func 29) #[] #[]) 0 rfl
  have hR : ∀ b V, rightB g s = b → Below W.heap.size W V → Ending.returned (.bool b) = Ending.returned (.bool (rightB g s)) ∧ Below w.heap.size w V := fun b V e hV => ⟨by rw [e], hB.trans (hV.mono (by have := hz.out; omega))⟩
  have LK := Lib.hid lk
  have HR := Lib.hid hR
  have HW := Lib.hid hW
  clear lk hR hB hM hW
  go_enter Try.func13, Try.ntmps13
  go_wp2_with (go_at_call 23; refine (rules_any _).mono ?_; rintro e w' ⟨rfl, rfl⟩; rw [HW.out])
  refine wp_loop_rounds 4 ?_
  rw [rounds_succ]
  go_wp2_with fail
  refine (spent_any _ _ _).mono ?_
  rintro e w1 ⟨rfl, hb1⟩
  obtain ⟨k1, d1, d2⟩ := LK.out w1 hb1
  have l1 := k1 1 (.func (.func 30) #[] #[]) 1 rfl
  clear k1
  cases h1 : spentB g s
  · have H1 := Lib.hid h1
    clear h1
    go_wp2
    go_ret
    exact HR.out _ _ (by simp [rightB, H1.out]) hb1
  have H1 := Lib.hid h1
  clear h1
  go_wp2_with fail
  rw [rounds_succ]
  go_wp2_with fail
  refine (granted_any _ _ _).mono ?_
  rintro e w2 ⟨rfl, hb2⟩
  replace hb2 := hb1.trans (hb2.mono hb1.size)
  obtain ⟨k1, d1, d2⟩ := LK.out w2 hb2
  have l2 := k1 2 (.func (.func 31) #[] #[]) 2 rfl
  clear k1
  cases h2 : grantedB g
  · have H2 := Lib.hid h2
    clear h2
    go_wp2
    go_ret
    exact HR.out _ _ (by simp [rightB, H1.out, H2.out]) hb2
  have H2 := Lib.hid h2
  clear h2
  go_wp2_with fail
  rw [rounds_succ]
  go_wp2_with fail
  refine (left_any _ _ _).mono ?_
  rintro e w3 ⟨rfl, hb3⟩
  replace hb3 := hb2.trans (hb3.mono hb2.size)
  cases h3 : leftB g s
  · have H3 := Lib.hid h3
    clear h3
    go_wp2
    go_ret
    exact HR.out _ _ (by simp [rightB, H1.out, H2.out, H3.out]) hb3
  have H3 := Lib.hid h3
  clear h3
  go_wp2_with fail
  rw [rounds_succ]
  go_wp2
  go_ret
  exact HR.out _ _ (by simp [rightB, H1.out, H2.out, H3.out]) hb3
end Go.Proofs.Ytbajhnmgimggfaa
