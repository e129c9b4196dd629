/-
  Sha: the words of a block, by the program.
-/
import Derived.Test.YtiakcjckebghlaaDoorS4
import Derived.Test.YtiakcjckebghlaaDoorH3
import Derived.StillTailTactics
import Derived.Laws.Rows
import Derived.Laws.Tables
namespace Go.Proofs.YtiakcjckebghlaaDoor
open Go.RowKit Go.Shelf

def wrow (ws : List W32) : Array Value := (ws.map val ++ List.replicate (64 - ws.length) (val 0)).toArray
theorem wrow_size (ws : List W32) (h : ws.length ≤ 64) : (wrow ws).size = 64 := by simp [wrow]; omega
theorem wrow_at (ws : List W32) (i : Nat) (h : i < ws.length) : (wrow ws)[i]? = some (val (ws.getD i 0)) := by
  have : i < (ws.map val).length := by simpa using h
  simp [wrow, List.getElem?_append_left this, List.getD, h]
theorem wrow_end (ws : List W32) (h : ws.length < 64) : (wrow ws)[ws.length]? = some (val 0) := by
  have : (ws.map val).length = ws.length := by simp
  simp only [wrow, List.getElem?_toArray]
  rw [List.getElem?_append_right (by omega), this, Nat.sub_self, List.getElem?_replicate, if_pos (by omega)]
theorem wrow_set (ws : List W32) (x : W32) (h : ws.length < 64) : (wrow ws).setIfInBounds ws.length (val x) = wrow (ws ++ [x]) := by
  apply Array.toList_inj.1
  simp only [wrow, List.setIfInBounds_toArray]
  have e : 64 - ws.length = (64 - (ws ++ [x]).length) + 1 := by simp; omega
  rw [List.set_append_right _ _ (by simp), e, List.replicate_succ]
  simp
theorem wordsTo_len (b : List UInt8) : ∀ k, (wordsTo b k).length = k
  | 0 => rfl
  | k + 1 => by simp [wordsTo, wordsTo_len b k]
theorem wordsTo_succ (b : List UInt8) (k : Nat) : wordsTo b (k + 1) = wordsTo b k ++ [if k < 16 then wordAtB b k else nextW (wordsTo b k) k] := rfl

/-- the first j bytes of a word -/
def acc (c : List UInt8) : Nat → W32
  | 0 => 0
  | j + 1 => acc c j <<< 8 ||| byteW (c.getD j 0)
theorem fold4 (a b c d : W32) : ((((0#32 <<< 8 ||| a) <<< 8 ||| b) <<< 8 ||| c) <<< 8 ||| d) = a <<< 24 ||| b <<< 16 ||| c <<< 8 ||| d := by
  simp only [BitVec.shiftLeft_or_distrib, BitVec.zero_shiftLeft, BitVec.zero_or, ← BitVec.shiftLeft_add]
theorem acc4 (c : List UInt8) : acc c 4 = word4 (c.getD 0 0) (c.getD 1 0) (c.getD 2 0) (c.getD 3 0) := by
  have h : acc c 4 = ((((0#32 <<< 8 ||| byteW (c.getD 0 0)) <<< 8 ||| byteW (c.getD 1 0)) <<< 8 ||| byteW (c.getD 2 0)) <<< 8 ||| byteW (c.getD 3 0)) := rfl
  rw [h, fold4, word4]
theorem byteW_val (b : UInt8) : ((byteW b).toNat : Int) = (b.toNat : Int) := by
  have := b.toNat_lt
  simp [byteW]
theorem acc_word (b : ByteArray) (hb : b.size = 64) (k : Nat) (hk : k < 16) : acc (b.extract (4 * k) (4 * k + 4)).data.toList 4 = wordAtB b.data.toList k := by
  have hl : b.data.toList.length = 64 := by rw [← hb]; exact (Lib.size_eq b).symm
  have e : ∀ j, j < 4 → (b.extract (4 * k) (4 * k + 4)).data.toList.getD j 0 = b.data.toList.getD (4 * k + j) 0 := fun j hj => by
    simp only [ByteArray.data_extract, Array.toList_extract, List.getD]
    rw [List.extract_eq_take_drop, List.getElem?_take_of_lt (by omega), List.getElem?_drop]
  rw [acc4, e 0 (by omega), e 1 (by omega), e 2 (by omega), e 3 (by omega)]; rfl
theorem set_same {cs : Array Value} {k : Nat} {v : Value} (h : cs[k]? = some v) : cs.setIfInBounds k v = cs := by
  apply Array.ext_getElem?
  intro i
  rw [Array.getElem?_setIfInBounds]
  by_cases e : k = i
  · subst e
    rw [if_pos rfl, if_pos (Array.getElem?_eq_some_iff.1 h).1, h]
  · rw [if_neg e]
theorem set_set {cs : Array Value} {k : Nat} {v u : Value} : (cs.setIfInBounds k v).setIfInBounds k u = cs.setIfInBounds k u := by
  apply Array.ext_getElem?
  intro i
  simp only [Array.getElem?_setIfInBounds, Array.size_setIfInBounds]
  by_cases e : k = i
  · simp [e]
  · simp [e]
theorem acc_step (c : List UInt8) (j : Nat) : bits .or .u32 (((acc c j).toNat : Int) * 256 % 4294967296) ((c.getD j 0).toNat : Int) = ((acc c (j + 1)).toNat : Int) := by
  have h1 := shl32 (acc c j) 8 256 (by decide)
  have h2 := or32 (acc c j <<< 8) (byteW (c.getD j 0))
  rw [← byteW_val, show ((acc c j).toNat : Int) * 256 % 4294967296 = _ from h1, h2]; rfl

theorem wl_load_row {P : Program} {ops : Array Oper} {rest : List Oper} {o : Oper} {a : Act} {w : World} {Q : Exit → Act → World → Prop} (hgd : o.guard = none) (ty : TypeId) (x : Operand) (ho : o.op = .load ty x)
    (g : Nat) (hx : a.eval x = .pointer (some ⟨g, 0, none⟩)) (t : TypeId) (cs : Array Value) (fr : Nat × Nat) (d : TypeDesc) (hg : w.heap[g]? = some (.cells cs t fr))
    (hu : P.underlying ty = some d) (hd : (match d with | .struct _ | .array _ _ => true | _ => false) = true) (hi : (P.info? ty).map (·.size) = some cs.size)
    (h : wpList P ops Q rest (a.put o.dst (.agg cs)) w) : wpList P ops Q (o :: rest) a w :=
  wpList_plain hgd fun _ hK => wp_load_row ty x ho g hx t cs fr d hg hu hd hi (hK _ _ h)
theorem wl_store_row {P : Program} {ops : Array Oper} {rest : List Oper} {o : Oper} {a : Act} {w : World} {Q : Exit → Act → World → Prop} (hgd : o.guard = none) (ty : TypeId) (x y : Operand) (ho : o.op = .store ty x y)
    (g : Nat) (cells : Array Value) (hx : a.eval x = .pointer (some ⟨g, 0, none⟩)) (hy : a.eval y = .agg cells)
    (t : TypeId) (old : Array Value) (hg : w.heap[g]? = some (.cells old t (0, 0))) (hi : (P.info? ty).map (·.size) = some cells.size)
    (hold : old.size = cells.size) (h1 : cells.all (·.oneCell') = true)
    (h : wpList P ops Q rest (a.put o.dst undef) (w.setRow g cells)) : wpList P ops Q (o :: rest) a w :=
  wpList_plain hgd fun _ hK => wp_store_row ty x y ho g cells hx hy t old hg hi hold h1 (hK _ _ h)
theorem size57 : (Tryd.prog.info? 57).map (·.size) = some 64 := by kernel_rfl

set_option maxHeartbeats 4000000 in
set_option maxRecDepth 100000 in
theorem words_any (b : ByteArray) (hb : b.size = 64) (w : World) : Calls Tryd.prog 30 #[.string b] w fun e w' => e = .returned (.agg (wrow (wordsTo b.data.toList 64))) ∧ Below w.heap.size w w' := by
  have hconv : ∀ W s, (convert 9 41 (.string s)).run Tryd.prog W = _ := fun W s => Lib.run_convert_string_bytes W 9 41 5 s Tryd.underlying9 Tryd.underlying41 Tryd.underlying5
  have hbl : b.data.toList.length = 64 := by rw [← hb]; exact (Lib.size_eq b).symm
  replace hbl := Lib.hid hbl
  replace hconv := Lib.hid hconv
  go_enter Tryd.func30, Tryd.ntmps30
  go_wp2_with fail
  have hZ : ∀ W : World, (W.alloc (.cells (wrow []) 57)).heap[W.heap.size]? = some (.cells (wrow []) 57 (0, 0)) := fun W => heap_alloc_last W _
  change Code.wp _ _ _ _ ((w.alloc (.cells (wrow []) 57)).alloc (.cells (wrow []) 57))
  have hA := heap_alloc_old (w.alloc (.cells (wrow []) 57)) (.cells (wrow []) 57) (hZ w)
  have hC := hZ (w.alloc (.cells (wrow []) 57))
  have hB0 : Below w.heap.size w ((w.alloc (.cells (wrow []) 57)).alloc (.cells (wrow []) 57)) := ba (ba (Below.refl _ _) _) _
  have hsz : ((w.alloc (.cells (wrow []) 57)).alloc (.cells (wrow []) 57)).heap.size = w.heap.size + 2 := by simp
  rw [World.size_alloc] at hC
  generalize (w.alloc (.cells (wrow []) 57)).alloc (.cells (wrow []) 57) = W0 at hA hC hB0 hsz ⊢
  clear hZ
  have HA := Lib.hid hA
  have HSZ := Lib.hid hsz
  have HC := Lib.hid hC
  clear hA hC hsz
  go_loopw [7] (fun i wr => ∃ k : Nat, k ≤ 64 ∧ i = .int .i64 (k : Int) ∧ wr.heap[w.heap.size + 1]? = some (.cells (wrow (wordsTo b.data.toList k)) 57 (0, 0)) ∧ Below (w.heap.size + 1) W0 wr) (fun i _ => 64 - (intOf i).toNat)
  case atStart => exact ⟨0, by omega, rfl, HC.out, Below.refl _ _⟩
  case round =>
    obtain ⟨k, hk, rfl, hR, hb2⟩ := hrel
    by_cases hk64 : k < 64
    · have hlen := wordsTo_len b.data.toList k
      have hws := wordsTo_succ b.data.toList k
      have hge : w.heap.size + 2 ≤ wr.heap.size := by have := hb2.size; rw [HSZ.out] at this; exact this
      by_cases hk16 : k < 16
      · rw [if_pos hk16] at hws
        have hacc := acc_word b hb k hk16
        have hex : (b.extract (4 * k) (4 * k + 4)).size = 4 := by simp [ByteArray.size_extract]; omega
        generalize wordsTo b.data.toList k = ws at hR hlen hws
        generalize wordAtB b.data.toList k = x at hws hacc
        have hset := wrow_set ws x (by omega)
        have hend := wrow_end ws (by omega)
        rw [hlen] at hset hend
        rw [← hws] at hset
        replace hset := Lib.hid hset
        replace hend := Lib.hid hend
        replace hws := Lib.hid hws
        replace hlen := Lib.hid hlen
        replace hacc := Lib.hid hacc
        have HR := Lib.hid hR
        clear hR
        have n1 : (0 : Int) ≤ 4 * (k : Int) := by omega
        have n2 : 4 * (k : Int) + 4 ≤ 64 := by omega
        have hcv := hconv.out wr (b.extract (4 * k) (4 * k + 4))
        rw [hex] at hcv
        go_wp2_with fail
        have hBW := below_bytes (w := wr) (b.extract (4 * k) (4 * k + 4))
        have hrd := Lib.bytesWorld_cell wr 5 (b.extract (4 * k) (4 * k + 4))
        rw [hex] at hrd
        have hw1 := (hBW.block (w.heap.size + 1) (by omega)).trans HR.out
        have hb3 := hb2.trans (hBW.mono (by omega))
        have hs1 := hBW.size
        generalize Lib.bytesWorld wr 5 (b.extract (4 * k) (4 * k + 4)) = W1 at hrd hw1 hb3 hs1 ⊢
        generalize (b.extract (4 * k) (4 * k + 4)).data.toList = c at hrd hacc
        clear hBW hcv hex
        generalize grownCap wr 4 0 5 = gc
        generalize wr.heap.size = R at hrd hs1 hge ⊢
        have HRD := Lib.hid hrd
        have HW1 := Lib.hid hw1
        clear hrd hw1
        go_loopw [6, 21] (fun _ i w2 => ∃ j : Nat, j ≤ 4 ∧ i = .int .i64 (j : Int) ∧ w2.heap[w.heap.size + 1]? = some (.cells ((wrow ws).setIfInBounds k (val (acc c j))) 57 (0, 0)) ∧ Off (R + 1) (w.heap.size + 1) W1 w2) (fun _ i _ => 4 - (intOf i).toNat)
        case atStart => exact ⟨0, by omega, rfl, by rw [set_same (v := val (acc c 0)) hend.out]; exact HW1.out, Off.refl _ _ _⟩
        case round =>
          obtain ⟨j, hj, rfl, hR2, hO⟩ := hrel
          by_cases hj4 : j < 4
          · have hne : R ≠ w.heap.size + 1 := by omega
            have c1 : wr.cell? ⟨R, j, none⟩ = some (.int .u8 ((c.getD j 0).toNat : Int)) := (hO.cell (x := ⟨R, j, none⟩) (by simp) hne).trans (HRD.out j hj4)
            have hsz : (wrow ws).size = 64 := wrow_size ws (by rw [hlen.out]; omega)
            have c2 : wr.cell? ⟨w.heap.size + 1, k, none⟩ = some (.int .u32 ((acc c j).toNat : Int)) := by
              rw [cell_of_row wr _ k _ _ _ hR2, Array.getElem?_setIfInBounds, if_pos rfl, if_pos (by omega)]; rfl
            have f2 := froz8 hR2 k
            have hst := acc_step c j
            have hvl : val (acc c (j + 1)) = .int .u32 ((acc c (j + 1)).toNat : Int) := rfl
            have HR2 := Lib.hid hR2
            replace hvl := Lib.hid hvl
            have hst2 := Lib.hid hst
            clear hst
            generalize hzz : acc c j = z at c2
            replace hzz := Lib.hid hzz
            have hcb := (c.getD j 0).toNat_lt
            generalize hcc : (c.getD j 0).toNat = cb at c1 hcb
            replace hcc := Lib.hid hcc
            clear hR2 hsz
            go_wp2
            go_roundw
            case rel =>
              refine ⟨j + 1, by omega, by go_num, ?_, hO.trans (off_setCell _)⟩
              have h5 := heap_set (i := k) HR2.out (Value.int .u32 (bits .or .u32 ((z.toNat : Int) * 256 % 4294967296) (cb : Int)))
              have e1 := hst2.out
              rw [hzz.out, hcc.out] at e1
              rw [set_set] at h5
              rw [hvl.out, ← e1]
              exact h5
            case measure => simp [intOf]; omega
          · obtain rfl : j = 4 := by omega
            have hfin : (wrow ws).setIfInBounds k (val (acc c 4)) = wrow (wordsTo b.data.toList (k + 1)) := by rw [hacc.out, hset.out]
            rw [hfin] at hR2
            have HR2 := Lib.hid hR2
            clear hR2 hfin
            go_wp2
            go_roundw
            case rel => exact ⟨k + 1, by omega, by go_num, HR2.out, hb3.trans (hO.below (by omega) (Nat.le_refl _))⟩
            case measure => simp [intOf]; omega
      · rw [if_neg hk16] at hws
        have hsz : (wrow (wordsTo b.data.toList k)).size = 64 := wrow_size _ (by omega)
        generalize wordsTo b.data.toList k = ws at hR hlen hws hsz
        have hset := wrow_set ws (nextW ws k) (by omega)
        rw [hlen, ← hws] at hset
        have g1 : wr.cell? ⟨w.heap.size + 1, k - 16, none⟩ = some (.int .u32 ((ws.getD (k - 16) 0).toNat : Int)) := (cell_of_row wr _ (k - 16) _ _ _ hR).trans (wrow_at ws _ (by omega))
        have g2 : wr.cell? ⟨w.heap.size + 1, k - 15, none⟩ = some (.int .u32 ((ws.getD (k - 15) 0).toNat : Int)) := (cell_of_row wr _ (k - 15) _ _ _ hR).trans (wrow_at ws _ (by omega))
        have g3 : wr.cell? ⟨w.heap.size + 1, k - 7, none⟩ = some (.int .u32 ((ws.getD (k - 7) 0).toNat : Int)) := (cell_of_row wr _ (k - 7) _ _ _ hR).trans (wrow_at ws _ (by omega))
        have g4 : wr.cell? ⟨w.heap.size + 1, k - 2, none⟩ = some (.int .u32 ((ws.getD (k - 2) 0).toNat : Int)) := (cell_of_row wr _ (k - 2) _ _ _ hR).trans (wrow_at ws _ (by omega))
        have g5 : ∃ old, wr.cell? ⟨w.heap.size + 1, k, none⟩ = some old := ⟨_, (cell_of_row wr _ k _ _ _ hR).trans (Array.getElem?_eq_getElem (by omega))⟩
        obtain ⟨old, g5⟩ := g5
        have f5 := froz8 hR k
        have hnx : nextW ws k = ws.getD (k - 16) 0 + sch0 (ws.getD (k - 15) 0) + ws.getD (k - 7) 0 + sch1 (ws.getD (k - 2) 0) := rfl
        generalize ws.getD (k - 16) 0 = x1 at g1 hnx
        generalize ws.getD (k - 15) 0 = x2 at g2 hnx
        generalize ws.getD (k - 7) 0 = x3 at g3 hnx
        generalize ws.getD (k - 2) 0 = x4 at g4 hnx
        have v1 : IntKind.i64.wrap ((k : Int) - 16) = ((k - 16 : Nat) : Int) := by rw [IntKind.wrap_i64]; omega
        have v2 : IntKind.i64.wrap ((k : Int) - 15) = ((k - 15 : Nat) : Int) := by rw [IntKind.wrap_i64]; omega
        have v3 : IntKind.i64.wrap ((k : Int) - 7) = ((k - 7 : Nat) : Int) := by rw [IntKind.wrap_i64]; omega
        have v4 : IntKind.i64.wrap ((k : Int) - 2) = ((k - 2 : Nat) : Int) := by rw [IntKind.wrap_i64]; omega
        have l1 : ((k - 16 : Nat) : Int) < 64 := by omega
        have z1 : (0 : Int) ≤ ((k - 16 : Nat) : Int) := by omega
        have l2 : ((k - 15 : Nat) : Int) < 64 := by omega
        have z2 : (0 : Int) ≤ ((k - 15 : Nat) : Int) := by omega
        have l3 : ((k - 7 : Nat) : Int) < 64 := by omega
        have z3 : (0 : Int) ≤ ((k - 7 : Nat) : Int) := by omega
        have l4 : ((k - 2 : Nat) : Int) < 64 := by omega
        have z4 : (0 : Int) ≤ ((k - 2 : Nat) : Int) := by omega
        generalize k - 16 = i1 at g1 v1 l1 z1
        generalize k - 15 = i2 at g2 v2 l2 z2
        generalize k - 7 = i3 at g3 v3 l3 z3
        generalize k - 2 = i4 at g4 v4 l4 z4
        have l5 : (k : Int) < 64 := by omega
        have HC0 := Lib.hid (sch0_any x2)
        have HC1 := Lib.hid (sch1_any x4)
        have HR := Lib.hid hR
        replace hnx := Lib.hid hnx
        replace hset := Lib.hid hset
        replace hws := Lib.hid hws
        replace hlen := Lib.hid hlen
        clear hR hsz
        go_wp2_with fail
        refine wp_region_still_tail 23 (by kernel_rfl) (by kernel_rfl) ?_
        have q1 : wr.drew.cell? ⟨w.heap.size + 1, i1, none⟩ = some (.int .u32 (x1.toNat : Int)) := g1
        have q2 : wr.drew.cell? ⟨w.heap.size + 1, i2, none⟩ = some (.int .u32 (x2.toNat : Int)) := g2
        have q3 : wr.drew.cell? ⟨w.heap.size + 1, i3, none⟩ = some (.int .u32 (x3.toNat : Int)) := g3
        have q4 : wr.drew.cell? ⟨w.heap.size + 1, i4, none⟩ = some (.int .u32 (x4.toNat : Int)) := g4
        have q5 : wr.drew.cell? ⟨w.heap.size + 1, k, none⟩ = some old := g5
        have q6 : wr.drew.frozen? ⟨w.heap.size + 1, k, none⟩ = false := f5
        have HR3 : wr.drew.heap[w.heap.size + 1]? = some (.cells (wrow ws) 57 (0, 0)) := HR.out
        have hb4 : Below (w.heap.size + 1) W0 wr.drew := belowN hb2 1
        change wpStill _ _ wr.drew _ _ _
        clear g1 g2 g3 g4 g5 f5
        generalize hW2 : wr.drew = W2 at q1 q2 q3 q4 q5 q6 HR3 hb4 ⊢
        replace hW2 := Lib.hid hW2
        replace HR3 := Lib.hid HR3
        simp only [List.take_succ_cons, List.take_zero, List.drop_succ_cons, List.drop_zero]
        repeat (first | still_step | still_call ((HC0.out _).mono fun _ _ h => ⟨h.1, h.2.symm⟩) | still_call ((HC1.out _).mono fun _ _ h => ⟨h.1, h.2.symm⟩))
        refine wpStill_nil ?_
        change wpList _ _ _ _ _ wr.drew
        rw [hW2.out]
        have hnv : IntKind.u32.wrap (IntKind.u32.wrap (IntKind.u32.wrap ((x1.toNat : Int) + ((sch0 x2).toNat : Int)) + (x3.toNat : Int)) + ((sch1 x4).toNat : Int)) = ((nextW ws k).toNat : Int) := by
          simp only [IntKind.wrap_u32]
          rw [add32, add32, add32, hnx.out]
        rw [hnv]
        have hvl : val (nextW ws k) = .int .u32 ((nextW ws k).toNat : Int) := rfl
        generalize nextW ws k = y at hset hws hvl ⊢
        replace hvl := Lib.hid hvl
        clear hnv q1 q2 q3 q4 v1 v2 v3 v4 l1 l2 l3 l4 z1 z2 z3 z4
        go_wp2
        go_roundw
        case rel =>
          have h5 := heap_set (i := k) HR3.out (Value.int .u32 (y.toNat : Int))
          rw [← hvl.out, hset.out] at h5
          refine ⟨k + 1, by omega, by go_num, ?_, hb4.setCell (by simp) _⟩
          rw [← hvl.out]; exact h5
        case measure => simp [intOf]; omega
    · obtain rfl : k = 64 := by omega
      have hsz : (wrow (wordsTo b.data.toList 64)).size = 64 := wrow_size _ (by rw [wordsTo_len]; exact Nat.le_refl _)
      have h2 : wr.heap[w.heap.size]? = some (.cells (wrow []) 57 (0, 0)) := (hb2.block w.heap.size (Nat.lt_succ_self _)).trans HA.out
      have hone : (wrow (wordsTo b.data.toList 64)).all (·.oneCell') = true := by
        rw [Array.all_eq_true_iff_forall_mem]
        intro x hx
        simp only [wrow, List.mem_toArray, List.mem_append, List.mem_map, List.mem_replicate] at hx
        rcases hx with ⟨z, _, rfl⟩ | ⟨_, rfl⟩ <;> rfl
      generalize hcs : wrow (wordsTo b.data.toList 64) = cs at hR hsz hone ⊢
      replace hcs := Lib.hid hcs
      have hi57 : (Tryd.prog.info? 57).map (·.size) = some cs.size := by rw [hsz]; exact size57
      have ho57 : (wrow []).size = cs.size := by rw [hsz]; rfl
      have hb5 : Below w.heap.size w (wr.setRow w.heap.size cs) := (hB0.trans (hb2.mono (Nat.le_succ _))).trans ⟨rfl, rfl, rfl, by simp [World.setRow], fun q hq => setRow_other wr _ q cs (by omega)⟩
      have hr5 : (wr.setRow w.heap.size cs).heap[w.heap.size]? = some (.cells cs 57 (0, 0)) := setRow_heap wr _ _ cs 57 _ h2
      have hz0 : (wrow []) = wrow [] := rfl
      generalize wrow [] = Z at h2 ho57
      replace hi57 := Lib.hid hi57
      replace ho57 := Lib.hid ho57
      replace hone := Lib.hid hone
      replace hR := Lib.hid hR
      replace h2 := Lib.hid h2
      replace hr5 := Lib.hid hr5
      clear hz0 hsz
      go_wp2_with (first | (refine wl_load_row rfl 57 (.tmp 3) rfl (w.heap.size + 1) rfl 57 cs (0, 0) _ hR.out Tryd.underlying57 rfl hi57.out ?_) | (refine wl_store_row rfl 57 (.tmp 2) (.tmp 59) rfl w.heap.size cs rfl rfl 57 Z h2.out hi57.out ho57.out hone.out ?_))
      refine bodyPost_ret (v := .agg cs) ?_ rfl ⟨by rw [hcs.out], hb5⟩
      have hl := run_loadVar_row (P := Tryd.prog) (wr.setRow w.heap.size cs) w.heap.size 57 57 cs (0, 0) _ hr5.out Tryd.underlying57 rfl hi57.out
      simp only [Act.put, Array.setIfInBounds, List.size_toArray, List.length_cons, List.length_nil]
      simp [results, Tryd.results30, asAddr, hl]
end Go.Proofs.YtiakcjckebghlaaDoor
