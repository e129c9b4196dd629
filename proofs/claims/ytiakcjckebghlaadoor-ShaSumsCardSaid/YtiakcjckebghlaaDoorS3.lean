/-
  Sha: the state; a round of it.
-/
import Derived.Test.YtiakcjckebghlaaDoorS2
import Derived.BigRegion
import Derived.Laws.EntriesVeiled
import Derived.Deep.QuietTactic
import Derived.Deep.RegionLaw
import Derived.Laws.CopyOwn
namespace Go.Proofs.YtiakcjckebghlaaDoor
open Go.RowKit Go.Shelf

/-- what lay below n₀ is as it was, but for one block -/
structure Off (n₀ ob : Nat) (W W' : World) : Prop where
  os : W'.os = W.os
  tape : W'.tape = W.tape
  output : W'.output = W.output
  size : W.heap.size ≤ W'.heap.size
  block : ∀ k, k < n₀ → k ≠ ob → W'.heap[k]? = W.heap[k]?
theorem Off.refl (n₀ ob : Nat) (A : World) : Off n₀ ob A A := ⟨rfl, rfl, rfl, Nat.le_refl _, fun _ _ _ => rfl⟩
theorem Off.trans {n₀ ob : Nat} {A B C : World} (h : Off n₀ ob A B) (k : Off n₀ ob B C) : Off n₀ ob A C :=
  ⟨k.os.trans h.os, k.tape.trans h.tape, k.output.trans h.output, Nat.le_trans h.size k.size, fun i hi ho => (k.block i hi ho).trans (h.block i hi ho)⟩
theorem Off.of {n₀ ob : Nat} {A B : World} (h : Below n₀ A B) : Off n₀ ob A B := ⟨h.os, h.tape, h.output, h.size, fun k hk _ => h.block k hk⟩
theorem Off.cell {n₀ ob : Nat} {A B : World} (h : Off n₀ ob A B) {x : Addr} (h1 : x.block < n₀) (h2 : x.block ≠ ob) : B.cell? x = A.cell? x := by unfold World.cell?; rw [h.block _ h1 h2]
theorem Off.below {n₀ ob m : Nat} {A B : World} (h : Off n₀ ob A B) (h1 : m ≤ n₀) (h2 : m ≤ ob) : Below m A B := ⟨h.os, h.tape, h.output, h.size, fun k hk => h.block k (by omega) (by omega)⟩
theorem belowN {n : Nat} {w W : World} (h : Below n w W) (k : Nat) : Below n w (W.drewN k) := ⟨h.os, h.tape, h.output, h.size, h.block⟩

theorem quiet_left {P : Program} {f : FuncId} {args : Array Value} {w : World} {n : Nat} {v : Value}
    (h : Calls P f args (w.drewN n) fun e w' => e = .returned v ∧ w.drewN n = w') : Calls P f args (w.drewN n) fun e w'' => e = .returned v ∧ ∃ m, w'' = w.drewN m :=
  h.mono fun _ _ ⟨he, hm⟩ => ⟨he, n, hm.symm⟩

def St.cells (s : St) : Array Value := #[.int .u32 (s.a.toNat : Int), .int .u32 (s.b.toNat : Int), .int .u32 (s.c.toNat : Int), .int .u32 (s.d.toNat : Int), .int .u32 (s.e.toNat : Int), .int .u32 (s.f.toNat : Int), .int .u32 (s.g.toNat : Int), .int .u32 (s.h.toNat : Int)]
/-- the state in a block -/
def StAt (W : World) (b T : Nat) (s : St) : Prop := W.heap[b]? = some (.cells s.cells T (0, 0))
theorem StAt.lt {W : World} {b T : Nat} {s : St} (h : StAt W b T s) : b < W.heap.size := (Array.getElem?_eq_some_iff.1 h).1
theorem StAt.at {W : World} {b T : Nat} {s : St} (h : StAt W b T s) (k : Nat) : W.cell? ⟨b, k, none⟩ = s.cells[k]? := cell_of_row W b k _ _ _ h
theorem StAt.frozen {W : World} {b T : Nat} {s : St} (h : StAt W b T s) (k : Nat) : W.frozen? ⟨b, k, none⟩ = false := by simp [World.frozen?, show W.heap[b]? = _ from h]
theorem heap_set {W : World} {b T i : Nat} {cs : Array Value} {fr : Nat × Nat} (h : W.heap[b]? = some (.cells cs T fr)) (v : Value) : (W.setCell ⟨b, i, none⟩ v).heap[b]? = some (.cells (cs.setIfInBounds i v) T fr) := by
  simp [World.setCell, Array.getElem?_modify, h]

theorem first_any (w : World) : Calls Tryd.prog 19 #[] w fun e w' => e = .returned (.agg st0.cells) ∧ Below w.heap.size w w' := by
  go_enter Tryd.func19, Tryd.ntmps19
  go_wp2
  exact bodyPost_ret (v := .agg st0.cells) (by simp [results, Tryd.results19, go_sem]; rfl) rfl ⟨rfl, ba (Below.refl _ _) _⟩

def row8 (a b c d e f g h : Int) : Array Value := #[.int .u32 a, .int .u32 b, .int .u32 c, .int .u32 d, .int .u32 e, .int .u32 f, .int .u32 g, .int .u32 h]
def tI (h l e f g k x : Int) : Int := (h + l + bits .xor .u32 (bits .and .u32 e f) (bits .and .u32 (bits .xor .u32 IntKind.u32.max e) g) + k + x) % 4294967296
def uI (u a b c : Int) : Int := (u + bits .xor .u32 (bits .xor .u32 (bits .and .u32 a b) (bits .and .u32 a c)) (bits .and .u32 b c)) % 4294967296
theorem cells8 {W : World} {B T : Nat} {a b c d e f g h : Int} (H : W.heap[B]? = some (.cells (row8 a b c d e f g h) T (0, 0))) :
    W.cell? ⟨B, 0, none⟩ = some (.int .u32 a) ∧ W.cell? ⟨B, 1, none⟩ = some (.int .u32 b) ∧ W.cell? ⟨B, 2, none⟩ = some (.int .u32 c) ∧ W.cell? ⟨B, 3, none⟩ = some (.int .u32 d) ∧
    W.cell? ⟨B, 4, none⟩ = some (.int .u32 e) ∧ W.cell? ⟨B, 5, none⟩ = some (.int .u32 f) ∧ W.cell? ⟨B, 6, none⟩ = some (.int .u32 g) ∧ W.cell? ⟨B, 7, none⟩ = some (.int .u32 h) :=
  ⟨cell_of_row W B 0 _ _ _ H, cell_of_row W B 1 _ _ _ H, cell_of_row W B 2 _ _ _ H, cell_of_row W B 3 _ _ _ H, cell_of_row W B 4 _ _ _ H, cell_of_row W B 5 _ _ _ H, cell_of_row W B 6 _ _ _ H, cell_of_row W B 7 _ _ _ H⟩
theorem froz8 {W : World} {B T : Nat} {cs : Array Value} (H : W.heap[B]? = some (.cells cs T (0, 0))) (k : Nat) : W.frozen? ⟨B, k, none⟩ = false := by simp [World.frozen?, H]

/-- copy into a row that is known whole, as one step of a region that draws. -/
theorem step_copy_row {P : Program} {ops : Array Oper} {o : Oper} {a : Act} {w : World} {K : Act → World → Prop} {Q : Exit → Act → World → Prop} {E : Prop} (hgd : o.guard = none) (d s : Operand) (dT sT : TypeId)
    (ho : o.op = .call { callee := .builtin .copy, args := #[d, s], argTypes := #[dT, sT] }) (elem : TypeId) (hu : P.underlying dT = some (.slice elem)) (hsz : (P.info? elem).map (·.size) = some 1)
    (g off dLen dCap : Nat) (ad : Addr) (sLen sCap : Nat) (hd : a.eval d = .slice (some ⟨g, off, none⟩) dLen dCap) (hs : a.eval s = .slice (some ad) sLen sCap)
    (cur : Array Value) (t : TypeId) (hg : w.heap[g]? = some (.cells cur t (0, 0))) (cs : List Value) (hn : cs.length = Nat.min sLen dLen)
    (hsrc : ∀ j v, cs[j]? = some v → w.cell? (ad.add j) = some v) (hfit : off + cs.length ≤ cur.size) (h1 : ∀ v ∈ cs, v.oneCell' = true)
    (h : K (a.put o.dst (goInt cs.length)) (w.setRow g (cur.toList.take off ++ cs ++ cur.toList.drop (off + cs.length)).toArray)) :
    if Region.wanted o (yielded ops a.tmps) = true then Oper.wp P o a w K Q else E := by
  have hw : Region.wanted o (yielded ops a.tmps) = true := by simp [Region.wanted, hgd]
  rw [if_pos hw]
  have hrun := run_copy_row (P := P) w dT sT o.type elem g off dLen dCap ad sLen sCap cur t cs hu hsz hg hn hsrc hfit h1
  unfold Oper.wp
  simp only [execOp, ho, resolve, invoke, builtin, Sem.run_bind, Sem.run_pure, Result.andThen_ok, List.map_toArray, List.map_cons, List.map_nil, hd, hs, hrun]
  exact h
theorem off_setRow {B : Nat} {n : Nat} {w : World} (cs : Array Value) : Off n B w (w.setRow B cs) :=
  ⟨rfl, rfl, rfl, by simp [World.setRow], fun k _ ho => setRow_other w B k cs ho⟩
theorem off_setCell {B n i : Nat} {w : World} (v : Value) : Off n B w (w.setCell ⟨B, i, none⟩ v) :=
  ⟨rfl, rfl, rfl, by simp [World.setCell], fun k _ ho => Below.heap_setCell _ _ _ _ ho⟩
theorem addr_add (b off j : Nat) : (⟨b, off, none⟩ : Addr).add j = ⟨b, off + j, none⟩ := by
  simp only [Addr.add]
  split
  · subst_vars; simp
  · rfl
theorem src_of {W : World} {B T : Nat} {row : Array Value} {cs rest : List Value} (H : W.heap[B]? = some (.cells row T (0, 0))) (e : row.toList = cs ++ rest) : ∀ j v, cs[j]? = some v → W.drew.cell? ((⟨B, 0, none⟩ : Addr).add j) = some v := fun j v hv => by
  rw [addr_add, Nat.zero_add]
  refine (cell_of_row W B j row T (0, 0) H).trans ?_
  have hj : j < cs.length := (List.getElem?_eq_some_iff.1 hv).1
  rw [← Array.getElem?_toList, e, List.getElem?_append_left hj, hv]
theorem size31 : (Tryd.prog.info? 31).map (·.size) = some 1 := by kernel_rfl

set_option maxHeartbeats 4000000 in
set_option maxRecDepth 100000 in
theorem round_raw (B T : Nat) (na nb nc nd ne nf ng nh x k l u : Int) (w : World) (hS : w.heap[B]? = some (.cells (row8 na nb nc nd ne nf ng nh) T (0, 0)))
    (hl : ∀ W, Calls Tryd.prog 37 #[.int .u32 ne] W fun e W' => e = .returned (.int .u32 l) ∧ W = W') (hu : ∀ W, Calls Tryd.prog 38 #[.int .u32 na] W fun e W' => e = .returned (.int .u32 u) ∧ W = W') :
    Calls Tryd.prog 29 #[.pointer (some ⟨B, 0, none⟩), .int .u32 x, .int .u32 k] w fun e w' => e = .returned (.tuple #[]) ∧ w'.heap[B]? = some (.cells (row8 ((tI nh l ne nf ng k x + uI u na nb nc) % 4294967296) na nb nc ((nd + tI nh l ne nf ng k x) % 4294967296) ne nf ng) T (0, 0)) ∧ Off w.heap.size B w w' := by
  have HS := Lib.hid hS
  have HL := Lib.hid hl
  have HU := Lib.hid hu
  have hlt := (Array.getElem?_eq_some_iff.1 hS).1
  obtain ⟨c0, c1, c2, c3, c4, c5, c6, c7⟩ := cells8 hS
  clear hS hl hu
  go_enter Tryd.func29, Tryd.ntmps29
  go_wp2_with fail
  go_quiet (fail)
  rename_i nq
  have hO : Off w.heap.size B w ((w.alloc (.cells #[.func (.func 37) #[] #[], .func (.func 38) #[] #[]] 69)).drewN nq) := .of (belowN (ba (Below.refl _ _) _) _)
  have d0 : ((w.alloc (.cells #[.func (.func 37) #[] #[], .func (.func 38) #[] #[]] 69)).drewN nq).cell? ⟨w.heap.size, 0, none⟩ = some (.func (.func 37) #[] #[]) := by simp [go_sem]
  have d1 : ((w.alloc (.cells #[.func (.func 37) #[] #[], .func (.func 38) #[] #[]] 69)).drewN nq).cell? ⟨w.heap.size, 1, none⟩ = some (.func (.func 38) #[] #[]) := by simp [go_sem]
  have hS1 : ((w.alloc (.cells #[.func (.func 37) #[] #[], .func (.func 38) #[] #[]] 69)).drewN nq).heap[B]? = some (.cells (row8 na nb nc nd ne nf ng nh) T (0, 0)) := heap_alloc_old w _ HS.out
  generalize (w.alloc (.cells #[.func (.func 37) #[] #[], .func (.func 38) #[] #[]] 69)).drewN nq = W1 at hO d0 d1 hS1 ⊢
  clear c0 c1 c2 c3 c4 c5 c6 c7
  obtain ⟨c0, c1, c2, c3, c4, c5, c6, c7⟩ := cells8 hS1
  have HO := Lib.hid hO
  have HS1 := Lib.hid hS1
  clear hO hS1 c0 c1 c2 c3 c4 c5 c6
  go_wp2_with fail
  go_quiet ((go_at_call 37; exact quiet_left (HL.out _)))
  rename_i nq
  have HO2 := Lib.hid (HO.out.trans (.of (belowN (Below.refl w.heap.size W1) nq)))
  have hS2 : (W1.drewN nq).heap[B]? = some (.cells (row8 na nb nc nd ne nf ng nh) T (0, 0)) := HS1.out
  have e1 : (W1.drewN nq).cell? ⟨w.heap.size, 1, none⟩ = some (.func (.func 38) #[] #[]) := d1
  generalize W1.drewN nq = W2 at HO2 hS2 e1 ⊢
  have HS2 := Lib.hid hS2
  clear HO HS1 d0 d1 c7 hS2
  go_wp2_with fail
  refine (HU.out _).mono ?_
  rintro e w' ⟨rfl, rfl⟩
  go_wp2_with fail
  generalize htI : (nh + l + bits .xor .u32 (bits .and .u32 ne nf) (bits .and .u32 (bits .xor .u32 IntKind.u32.max ne) ng) + k + x) % 4294967296 = nt
  generalize huI : (u + bits .xor .u32 (bits .xor .u32 (bits .and .u32 na nb) (bits .and .u32 na nc)) (bits .and .u32 nb nc)) % 4294967296 = nu
  replace htI := Lib.hid htI
  replace huI := Lib.hid huI
  obtain ⟨c0, c1, c2, c3, c4, c5, c6, c7⟩ := cells8 HS2.out
  have f0 := froz8 HS2.out 0
  have f1 := froz8 HS2.out 1
  have f2 := froz8 HS2.out 2
  have f3 := froz8 HS2.out 3
  have f4 := froz8 HS2.out 4
  have f5 := froz8 HS2.out 5
  have f6 := froz8 HS2.out 6
  have f7 := froz8 HS2.out 7
  have hsrc := src_of (cs := [Value.int .u32 na, .int .u32 nb, .int .u32 nc, .int .u32 nd, .int .u32 ne, .int .u32 nf, .int .u32 ng]) (rest := [.int .u32 nh]) HS2.out rfl
  replace hsrc := Lib.hid hsrc
  go_region_law (refine step_copy_row rfl (.tmp 80) (.tmp 83) 60 60 rfl 31 Tryd.underlying60 size31 B 1 7 7 ⟨B, 0, none⟩ 7 8 rfl rfl _ T HS2.out [.int .u32 na, .int .u32 nb, .int .u32 nc, .int .u32 nd, .int .u32 ne, .int .u32 nf, .int .u32 ng] rfl hsrc.out (by simp [row8]) (by intro v hv; simp at hv; rcases hv with rfl | rfl | rfl | rfl | rfl | rfl | rfl <;> rfl) ?_)
  have HO3 := Lib.hid ((HO2.out.trans (.of (belowN (Below.refl w.heap.size W2) 1))).trans (off_setRow (n := w.heap.size) (w := W2.drewN 1) (List.toArray (List.take 1 (row8 na nb nc nd ne nf ng nh).toList ++ [Value.int .u32 na, .int .u32 nb, .int .u32 nc, .int .u32 nd, .int .u32 ne, .int .u32 nf, .int .u32 ng] ++ List.drop (1 + 7) (row8 na nb nc nd ne nf ng nh).toList))))
  have hS3 : (W2.drew.setRow B (List.toArray (List.take 1 (row8 na nb nc nd ne nf ng nh).toList ++ [Value.int .u32 na, .int .u32 nb, .int .u32 nc, .int .u32 nd, .int .u32 ne, .int .u32 nf, .int .u32 ng] ++ List.drop (1 + 7) (row8 na nb nc nd ne nf ng nh).toList))).heap[B]? = some (.cells (row8 na na nb nc nd ne nf ng) T (0, 0)) := setRow_heap W2.drew B _ _ T _ HS2.out
  change Exit.then _ _ _ _ (W2.drew.setRow B (List.toArray (List.take 1 (row8 na nb nc nd ne nf ng nh).toList ++ [Value.int .u32 na, .int .u32 nb, .int .u32 nc, .int .u32 nd, .int .u32 ne, .int .u32 nf, .int .u32 ng] ++ List.drop (1 + 7) (row8 na nb nc nd ne nf ng nh).toList)))
  change Hid (Off w.heap.size B w (W2.drew.setRow B (List.toArray (List.take 1 (row8 na nb nc nd ne nf ng nh).toList ++ [Value.int .u32 na, .int .u32 nb, .int .u32 nc, .int .u32 nd, .int .u32 ne, .int .u32 nf, .int .u32 ng] ++ List.drop (1 + 7) (row8 na nb nc nd ne nf ng nh).toList)))) at HO3
  clear c0 c1 c2 c3 c4 c5 c6 c7 f0 f1 f2 f3 f4 f5 f6 f7 hsrc HO2
  generalize W2.drew.setRow B (List.toArray (List.take 1 (row8 na nb nc nd ne nf ng nh).toList ++ [Value.int .u32 na, .int .u32 nb, .int .u32 nc, .int .u32 nd, .int .u32 ne, .int .u32 nf, .int .u32 ng] ++ List.drop (1 + 7) (row8 na nb nc nd ne nf ng nh).toList)) = W3 at HO3 hS3 ⊢
  have HS3 := Lib.hid hS3
  clear HS2
  have c4 : W3.cell? ⟨B, 4, none⟩ = some (.int .u32 nd) := (cells8 hS3).2.2.2.2.1
  have c0 : W3.cell? ⟨B, 0, none⟩ = some (.int .u32 na) := (cells8 hS3).1
  have f4 := froz8 hS3 4
  have f0 := froz8 hS3 0
  clear hS3
  go_wp2_with fail
  go_region
  all_goals
    go_wp2
    go_end0
    refine ⟨rfl, ?_, ((HO3.out.trans (off_setCell _)).trans (off_setCell _)).trans (.of (belowN (Below.refl _ _) 1))⟩
    have h5 := heap_set (i := 0) (heap_set (i := 4) HS3.out (Value.int .u32 ((nd + nt) % 4294967296))) (Value.int .u32 ((nt + nu) % 4294967296))
    have e1 : tI nh l ne nf ng k x = nt := htI.out
    have e2 : uI u na nb nc = nu := huI.out
    rw [e1, e2]
    exact h5

theorem max32 (e : W32) : bits .xor .u32 IntKind.u32.max (e.toNat : Int) = ((~~~e).toNat : Int) := by
  have h := xor32 (BitVec.allOnes 32) e
  rw [BitVec.allOnes_xor] at h
  exact h
theorem tI_eq (h l e f g k x : W32) : tI h.toNat l.toNat e.toNat f.toNat g.toNat k.toNat x.toNat = ((h + l + (e &&& f ^^^ ~~~e &&& g) + k + x).toNat : Int) := by
  unfold tI
  rw [max32, and32, and32, xor32]
  simp only [BitVec.toNat_add]
  omega
theorem uI_eq (u a b c : W32) : uI u.toNat a.toNat b.toNat c.toNat = ((u + (a &&& b ^^^ a &&& c ^^^ b &&& c)).toNat : Int) := by
  unfold uI
  rw [and32, and32, and32, xor32, xor32]
  simp only [BitVec.toNat_add]
  omega
theorem St.cells_eq (s : St) : s.cells = row8 s.a.toNat s.b.toNat s.c.toNat s.d.toNat s.e.toNat s.f.toNat s.g.toNat s.h.toNat := rfl
theorem round_any (b T : Nat) (s : St) (x k : W32) (w : World) (hS : StAt w b T s) : Calls Tryd.prog 29 #[.pointer (some ⟨b, 0, none⟩), .int .u32 (x.toNat : Int), .int .u32 (k.toNat : Int)] w fun e w' => e = .returned (.tuple #[]) ∧ StAt w' b T (roundS s x k) ∧ Off w.heap.size b w w' := by
  refine (round_raw b T s.a.toNat s.b.toNat s.c.toNat s.d.toNat s.e.toNat s.f.toNat s.g.toNat s.h.toNat x.toNat k.toNat (lowerS s.e).toNat (upperS s.a).toNat w hS (lower_any s.e) (upper_any s.a)).mono ?_
  rintro e w' ⟨he, hh, hO⟩
  refine ⟨he, ?_, hO⟩
  rw [tI_eq, uI_eq, add32, add32] at hh
  exact hh
end Go.Proofs.YtiakcjckebghlaaDoor
