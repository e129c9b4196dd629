/-
  Roles: the verbs' table, the iterator over those of its verbs that are so.
-/
import Derived.Test.YthlccacnoolpjaaDoorR1
import Derived.RangeFuncNested
import Derived.RangeFuncBound
import Derived.RangeFuncCalls
import Derived.RangeFuncLeaves
import Derived.Shelf.Abstract
import Derived.Shelf.RegionOpen
import Derived.OwnWalkIn
import Derived.TacticsInMore
import Derived.LoopNIn
import Derived.LoopIn
namespace Go.Proofs.YthlccacnoolpjaaDoor
open Go.RowKit Go.Shelf

/-- the verbs' table -/
def vb (n : Int) (w : List UInt8) (s : Int) : VerbR := ⟨n, ⟨w.toArray⟩, s⟩
def table : List VerbR := [vb 1 [99, 114, 101, 97, 116, 101] 4, vb 2 [115, 117, 115, 112, 101, 110, 100] 2, vb 3 [114, 101, 115, 117, 109, 101] 2, vb 4 [100, 114, 97, 105, 110] 2, vb 5 [100, 101, 108, 101, 116, 101] 4,
  vb 6 [114, 111, 116, 97, 116, 101] 4, vb 7 [97, 99, 108] 4, vb 8 [107, 105, 108, 108] 2, vb 9 [108, 105, 115, 116] 1, vb 10 [115, 104, 111, 119] 1]
def VerbR.cells (v : VerbR) : List Value := [.int .i64 v.n, .string v.word, .int .i64 v.set]
def tabCells : Array Value := (table.flatMap VerbR.cells).toArray
def v0 : VerbR := vb 0 [] 0

theorem that_any (fn : Fn) (bs cs : Array Value) (w : World) : Calls Tryd.prog 27 #[.func fn bs cs] w fun e w' => e = .returned (.func (.func 35) #[] #[.pointer (some ⟨w.heap.size, 0, none⟩)]) ∧ w.alloc (.cells #[.func fn bs cs] 53) = w' := by
  go_enter Tryd.func27, Tryd.ntmps27
  go_wp2
  go_ret
  exact ⟨rfl, rfl⟩

theorem wpListIn_load_row {F : Fence} {n : Nat} {P : Program} {ops : Array Oper} {rest : List Oper} {o : Oper} {a : Act} {Q : Exit → Act → World → Prop} {w : World} (hg : o.guard = none) (ty : TypeId) (x : Operand) (ho : o.op = .load ty x)
    (g : Nat) (hx : a.eval x = .pointer (some ⟨g, 0, none⟩)) (t : TypeId) (cs : Array Value) (fr : Nat × Nat) (d : TypeDesc) (hc : w.heap[g]? = some (.cells cs t fr))
    (hu : P.underlying ty = some d) (hd : (match d with | .struct _ | .array _ _ => true | _ => false) = true) (hi : (P.info? ty).map (·.size) = some cs.size)
    (h : wpListIn F n P ops Q rest (a.put o.dst (.agg cs)) w) : wpListIn F n P ops Q (o :: rest) a w := by
  refine wpListIn_plain hg fun K' hK' => ?_
  unfold Oper.wpIn
  refine ⟨by simp [Oper.about, ho], ?_⟩
  rw [Oper.semAt_plain F _ _ (by rw [ho]; intro c hc'; cases hc')]
  unfold execOp
  simp only [ho, hx, Instr.loadAt, Instr.sureAddr, Sem.run_bind, Sem.run_pure, Result.andThen_ok, run_loadVar_row w g t ty cs fr d hc hu hd hi]
  exact hK' _ _ h

theorem index_tab (k : Nat) (hk : k < 10) (w : World) : (Instr.index 62 (.agg tabCells) (.int .i64 k)).run Tryd.prog w = .ok ((table[k]?.getD v0).val) w := by
  have h : k = 0 ∨ k = 1 ∨ k = 2 ∨ k = 3 ∨ k = 4 ∨ k = 5 ∨ k = 6 ∨ k = 7 ∨ k = 8 ∨ k = 9 := by omega
  rcases h with rfl | rfl | rfl | rfl | rfl | rfl | rfl | rfl | rfl | rfl
  all_goals rfl

/-- what lay below n₀ is as it was, but for one block -/
structure Off (n₀ ob : Nat) (W W' : World) : Prop where
  os : W'.os = W.os
  tape : W'.tape = W.tape
  output : W'.output = W.output
  size : W.heap.size ≤ W'.heap.size
  block : ∀ k, k < n₀ → k ≠ ob → W'.heap[k]? = W.heap[k]?
theorem Off.trans {n₀ ob : Nat} {A B C : World} (h : Off n₀ ob A B) (k : Off n₀ ob B C) : Off n₀ ob A C :=
  ⟨k.os.trans h.os, k.tape.trans h.tape, k.output.trans h.output, Nat.le_trans h.size k.size, fun i hi ho => (k.block i hi ho).trans (h.block i hi ho)⟩
theorem Off.of {n₀ ob : Nat} {A B : World} (h : Below n₀ A B) : Off n₀ ob A B := ⟨h.os, h.tape, h.output, h.size, fun k hk _ => h.block k hk⟩
theorem Off.ofb {n₀ ob : Nat} {A B : World} (h : Below A.heap.size A B) (hn : n₀ ≤ A.heap.size) : Off n₀ ob A B := .of (h.mono hn)
theorem Off.cell {n₀ ob : Nat} {A B : World} (h : Off n₀ ob A B) {x : Addr} (h1 : x.block < n₀) (h2 : x.block ≠ ob) : B.cell? x = A.cell? x := by unfold World.cell?; rw [h.block _ h1 h2]
theorem off_b {n₀ ob : Nat} {w : World} (hn : n₀ ≤ w.heap.size) (W : World) (l : Nat) (o o' : Obj) (hl : w.heap.size ≤ l) (h : W.heap[l]? = some o) (a : o.isCells = false) (b : o.isWalk = false) : Off n₀ ob W (W.putObj l o') := .of (belowK_b hn W l o o' hl h a b)
theorem grown_below {A B : World} (h : Below A.heap.size A B) : A.grownBy B none := ⟨h.os, h.tape, h.output, h.size, fun k hk _ => h.block k hk⟩
theorem abide_below {β : Type} {B : Nat} {J : β → World → Prop} (hJ : AbidesFrom B J) {s : β} {W W' : World} (h : J s W) (hb : Below W.heap.size W W') : J s W' :=
  hJ s W W' none h (grown_below hb) (fun r e => by cases e)
theorem take_table (k : Nat) (hk : k < 10) : table.take (k + 1) = table.take k ++ [table[k]?.getD v0] := by
  have hl : k < table.length := hk
  rw [List.take_succ_eq_append_getElem hl, List.getElem?_eq_getElem hl]; rfl
theorem mem_table (k : Nat) (hk : k < 10) : table[k]?.getD v0 ∈ table := by
  have hl : k < table.length := hk
  rw [List.getElem?_eq_getElem hl]; exact List.getElem_mem hl

section
attribute [local go_sem] Oper.semAt_some
set_option maxRecDepth 100000 in
set_option maxHeartbeats 4000000 in
theorem that1_in (n : Nat) (hn : 1 ≤ n) (l Bs n₀ ob : Nat) (kf : Nat) (bs cs : Array Value) (p : VerbR → Bool) (Env : World → Prop) (henv : ∀ A B, Env A → Off n₀ ob A B → Env B)
    (eg : ∀ args w, (callFunc kf args).run Tryd.prog w = .ok (.enter kf args) w)
    (hp : ∀ v ∈ table, ∀ A, Env A → Calls Tryd.prog kf (bs.push v.val ++ cs) A fun e B => e = .returned (.bool (p v)) ∧ Below A.heap.size A B)
    (J Jx : List VerbR → World → Prop) (B0 : Nat) (hJ : AbidesFrom B0 J)
    (hY : ∀ pre x W1, J pre W1 → pre.length < 10 → YieldAt Fence.wide (n - 1) Tryd.prog l #[x.val] W1 fun e W' =>
      (e = .returned (.bool true) ∧ J (pre ++ [x]) W' ∧ Off n₀ ob W1 W') ∨ (e = .returned (.bool false) ∧ Jx (pre ++ [x]) W'))
    (W : World) (hBs : W.cell? ⟨Bs, 0, none⟩ = some (.func (.func kf) bs cs)) (hbn : Bs < n₀) (hbo : Bs ≠ ob) (hn0 : n₀ ≤ W.heap.size) {tt : TypeId} {fr : Nat × Nat} (hT : W.heap[2]? = some (.cells tabCells tt fr)) (h0 : J [] W) (hE : Env W) :
    CallsIn Fence.wide n Tryd.prog 35 #[.func (.yield l) #[] #[], .pointer (some ⟨Bs, 0, none⟩)] W fun e W' => (∃ v, e = .returned v) ∧
      (J (table.filter p) W' ∨ ∃ pre, pre <+: table.filter p ∧ Jx pre W') := by
  refine callsIn_of_wp Tryd.func35 rfl trivial ?_ rfl
  simp only [Tryd.ntmps35, List.size_toArray, List.length_cons, List.length_nil, Nat.reduceAdd, Nat.reduceSub, Array.replicate_succ, Array.replicate_zero, List.push_toArray, List.append_toArray, List.nil_append, List.cons_append]
  gi_wp2
  refine wpIn_wide.2 (wp_scope_straight ((wpIn_wide (n := n)).1 ?_))
  gi_wp2
  refine wpIn_label ?_
  gi_step
  gi_step
  gi_step
  gi_step
  refine wpListIn_load_row rfl 62 (.global 2) rfl 2 rfl tt tabCells fr _ hT Tryd.underlying62 rfl (by kernel_rfl) ?_
  simp only [Act.put, List.setIfInBounds_toArray, List.set_cons_zero, List.set_cons_succ]
  have hix := index_tab
  generalize tabCells = T at hix ⊢
  replace hix := Lib.hid hix
  replace henv := Lib.hid henv
  replace hp := Lib.hid hp
  gi_wp2_with fail
  gi_loopw [6] (fun i wr => ∃ k : Nat, k ≤ 10 ∧ i = .int .i64 k ∧ J ((table.take k).filter p) wr ∧ Off n₀ ob W wr) (fun i _ => 10 - (intOf i).toNat)
  case atStart => exact ⟨0, Nat.zero_le _, rfl, h0, .of (Below.refl _ _)⟩
  case round =>
    obtain ⟨k, hk, rfl, hJs, hof⟩ := hrel
    have hcb := (hof.cell (x := ⟨Bs, 0, none⟩) hbn hbo).trans hBs
    have hEr := henv.out _ _ hE hof
    by_cases hlt : k < 10
    · have hi := hix.out k hlt wr
      have hm := mem_table k hlt
      have ht := take_table k hlt
      generalize table[k]?.getD v0 = v at hi hm ht
      have hpv := hp.out v hm
      obtain ⟨vn, vw, vs⟩ := v
      simp only [VerbR.val] at hi hpv
      replace hm := Lib.hid hm
      replace ht := Lib.hid ht
      replace hpv := Lib.hid hpv
      have hBr : Bs < wr.heap.size := cell_lt hcb
      have hoA : Off n₀ ob wr (wr.alloc (.cells #[.int .i64 vn, .string vw, .int .i64 vs] 52)) := .of ((Below.refl _ _).alloc (Nat.le_trans hn0 hof.size) _)
      have hJA : J (List.filter p (table.take k)) (wr.alloc (.cells #[.int .i64 vn, .string vw, .int .i64 vs] 52)) := abide_below hJ hJs ((Below.refl _ _).alloc (Nat.le_refl _) _)
      gi_wp2_with fail
      refine ⟨trivial, ?_⟩
      refine (callsIn_wide.2 (hpv.out _ (henv.out _ _ hEr hoA))).mono ?_
      rintro e w3 ⟨rfl, hb⟩
      have hJ3 := abide_below hJ hJA hb
      have ho3 := (hof.trans hoA).trans (Off.ofb hb (Nat.le_trans hn0 (hof.trans hoA).size))
      have c0 := (hb.cell (p := ⟨wr.heap.size, 0, none⟩) (by simp)).trans (show _ = some (.int .i64 vn) by simp [go_sem])
      have c1 := (hb.cell (p := ⟨wr.heap.size, 1, none⟩) (by simp)).trans (show _ = some (.string vw) by simp [go_sem])
      have c2 := (hb.cell (p := ⟨wr.heap.size, 2, none⟩) (by simp)).trans (show _ = some (.int .i64 vs) by simp [go_sem])
      clear hb hJs hJA hcb hi hoA hof hEr hpv
      cases hpx : p ⟨vn, vw, vs⟩
      · have hf : List.filter p (table.take (k + 1)) = List.filter p (table.take k) := by rw [ht.out]; simp [hpx]
        replace hf := Lib.hid hf
        gi_wp2
        refine ⟨fun f h => (by cases h), ?_⟩
        gi_wp2
        go_roundw
        case rel => exact ⟨k + 1, by omega, by simp, by rw [hf.out]; exact hJ3, ho3⟩
        case measure => simp [intOf]; omega
      · have hf : List.filter p (table.take (k + 1)) = List.filter p (table.take k) ++ [⟨vn, vw, vs⟩] := by rw [ht.out]; simp [hpx]
        have hfp : List.filter p (table.take (k + 1)) <+: List.filter p table := List.IsPrefix.filter _ (List.take_prefix _ _)
        have hlen : (List.filter p (table.take k)).length < 10 := Nat.lt_of_le_of_lt (List.length_filter_le _ _) (by simp; omega)
        obtain ⟨fn, tmps, assign, body, hy, hR⟩ := hY _ ⟨vn, vw, vs⟩ w3 hJ3 hlen
        simp only [VerbR.val] at hy hR
        replace hf := Lib.hid hf
        replace hfp := Lib.hid hfp
        gi_wp2
        refine hR.mono ?_
        rintro e W3 (⟨rfl, hJ4, hk4⟩ | ⟨rfl, hJx4⟩)
        · gi_wp2
          go_roundw
          case rel => exact ⟨k + 1, by omega, by simp, by rw [hf.out]; exact hJ4, ho3.trans hk4⟩
          case measure => simp [intOf]; omega
        · gi_wp2
          rw [Exit.noGoto_normal]
          refine bodyPost_end (results_none rfl _ _ _) rfl ?_
          exact ⟨⟨_, rfl⟩, .inr ⟨_, hfp.out, by rw [hf.out]; exact hJx4⟩⟩
    · obtain rfl : k = 10 := by omega
      gi_wp2
      rw [Exit.noGoto_normal]
      refine bodyPost_end (results_none rfl _ _ _) rfl ?_
      exact ⟨⟨_, rfl⟩, .inl hJs⟩
end
end Go.Proofs.YthlccacnoolpjaaDoor
