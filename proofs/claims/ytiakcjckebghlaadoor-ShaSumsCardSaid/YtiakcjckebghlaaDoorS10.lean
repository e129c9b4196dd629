/-
  Sha: a text's sum, by the program.
-/
import Derived.Test.YtiakcjckebghlaaDoorS9
import Derived.Test.YtiakcjckebghlaaDoorP2
import Derived.ChangeKeysEq
namespace Go.Proofs.YtiakcjckebghlaaDoor
open Go.RowKit Go.Shelf

theorem padL_len (l : List UInt8) : (padL l).length = 64 * ((l.length + 72) / 64) := by
  have : (be64 (8 * l.length)).length = 8 := rfl
  simp only [padL, List.length_append, List.length_replicate, this, List.length_cons, List.length_nil, zerosN]; omega
theorem rest_drop (p : ByteArray) (n : Nat) : (restB p n).data.toList = p.data.toList.drop (64 * n) := by
  simp only [restB, ByteArray.data_extract, Array.toList_extract, List.extract]
  exact List.take_of_length_le (by have : p.data.toList.length = p.size := (Lib.size_eq p).symm; simp [this])
theorem chunk_take (p : ByteArray) (n : Nat) : (chunk p n).data.toList = (restB p n).data.toList.take 64 := by
  simp [chunk]
theorem stN_blocks (p : ByteArray) (m : Nat) : ∀ n, (blocksL m (restB p n).data.toList).foldl compress (stN p n) = stN p (n + m) := by
  induction m with
  | zero => intro n; rfl
  | succ m ih =>
    intro n
    have h := ih (n + 1)
    rw [show n + (m + 1) = n + 1 + m by omega, ← h]
    simp only [blocksL, List.foldl_cons]
    rw [← chunk_take, rest_drop, rest_drop, List.drop_drop]
    rfl
theorem blocks_any (s : ByteArray) (w : World) : Calls Tryd.prog 20 #[.string s] w fun e w' => e = .returned (.func (.func 28) #[] #[.pointer (some ⟨w.heap.size, 0, none⟩)]) ∧ w.alloc (.cells #[.string s] 9) = w' := by
  go_enter Tryd.func20, Tryd.ntmps20
  go_wp2
  go_ret
  exact ⟨rfl, rfl⟩

theorem eql33 (a b c d e f g h : Int) (W : World) : (Op.equalIn 10000 33 (.agg (row8 a b c d e f g h)) (.agg (row8 a b c d e f g h))).run Tryd.prog W = .ok true W := by
  have hi : ∀ (x : Int) W, (Op.equalIn 9999 31 (.int .u32 x) (.int .u32 x)).run Tryd.prog W = .ok true W := fun x W => by
    rw [show (9999 : Nat) = 9998 + 1 from rfl, run_equalIn_int W 9998 31 .u32 .u32 x x Tryd.underlying31]; simp
  have hc : Tryd.prog.cellsOf 31 = 1 := by kernel_rfl
  obtain ⟨i31, h31⟩ : ∃ i, Tryd.prog.info? 31 = some i := ⟨_, rfl⟩
  have hp : ∀ (i : Nat) (x : Value) (W : World), (row8 a b c d e f g h)[i]? = some x → (part 31 (row8 a b c d e f g h) (i * 1)).run Tryd.prog W = .ok x W := fun i x W hx => by
    unfold part
    simp [hx]
  rw [show (10000 : Nat) = 9999 + 1 from rfl, run_equalIn_array W 9999 _ _ Tryd.underlying33 h31, hc]
  simp only [show List.range 8 = [0, 1, 2, 3, 4, 5, 6, 7] from rfl, Op.eqItems, Sem.run_bind, hp 0 (.int .u32 a) _ rfl, hp 1 (.int .u32 b) _ rfl, hp 2 (.int .u32 c) _ rfl, hp 3 (.int .u32 d) _ rfl, hp 4 (.int .u32 e) _ rfl, hp 5 (.int .u32 f) _ rfl, hp 6 (.int .u32 g) _ rfl, hp 7 (.int .u32 h) _ rfl, hi, Result.andThen_ok, Sem.run_pure, Bool.not_true, Bool.false_eq_true, if_false]

def wAt (s : St) (k : Nat) : W32 := [s.a, s.b, s.c, s.d, s.e, s.f, s.g, s.h].getD k 0
def outTo (s : St) : Nat → List UInt8
  | 0 => []
  | k + 1 => outTo s k ++ out4 (wAt s k)
theorem outS_to (s : St) : outTo s 8 = outS s := by simp [outTo, outS, wAt]
theorem outTo_len (s : St) (k : Nat) : (outTo s k).length = 4 * k := by
  induction k with
  | zero => rfl
  | succ k ih => rw [outTo, List.length_append, ih]; simp [out4]; omega
theorem index33 (s : St) (k : Nat) (hk : k < 8) (W : World) : (Instr.index 33 (.agg (row8 s.a.toNat s.b.toNat s.c.toNat s.d.toNat s.e.toNat s.f.toNat s.g.toNat s.h.toNat)) (.int .i64 (k : Int))).run Tryd.prog W = .ok (.int .u32 ((wAt s k).toNat : Int)) W := by
  have h : k = 0 ∨ k = 1 ∨ k = 2 ∨ k = 3 ∨ k = 4 ∨ k = 5 ∨ k = 6 ∨ k = 7 := by omega
  rcases h with rfl | rfl | rfl | rfl | rfl | rfl | rfl | rfl
  all_goals rfl

theorem out4_cells (x : W32) : Lib.byteCells (out4 x) = [.int .u8 ((x.toNat : Int) / 16777216), .int .u8 ((x.toNat : Int) / 65536 % 256), .int .u8 ((x.toNat : Int) / 256 % 256), .int .u8 ((x.toNat : Int) % 256)] := by
  have h := x.isLt
  simp only [out4, Lib.byteCells, List.map_cons, List.map_nil, List.cons.injEq, Value.int.injEq, true_and, and_true, BitVec.toNat_ushiftRight, Nat.shiftRight_eq_div_pow, UInt8.toNat_ofNat']
  refine ⟨?_, ?_, ?_, ?_⟩ <;> omega
theorem cell_four_new (w : World) (a b c d : Value) {t : TypeId} : ∀ j u, [a, b, c, d][j]? = some u → (w.alloc (.cells #[a, b, c, d] t)).cell? ((⟨w.heap.size, 0, none⟩ : Addr).add j) = some u := fun j u hu => by
  rw [addr_add, Nat.zero_add]
  refine (cell_of_row _ w.heap.size j #[a, b, c, d] t (0, 0) (heap_alloc_last w _)).trans ?_
  simpa using hu

section
attribute [local go_sem] Oper.semAt_some
set_option maxRecDepth 100000 in
set_option maxHeartbeats 4000000 in
theorem sum_any (s : ByteArray) (hs : s.size ≤ 1000) (w : World) (hC : ConstT 1 w) (hlt1 : 1 < w.heap.size) : Calls Tryd.prog 11 #[.string s] w fun e w' => e = .returned (.string (ofL (sumL s.data.toList))) ∧ Below w.heap.size w w' := by
  have HC := Lib.hid hC
  clear hC
  have hF := first_any
  have h00 : stN (ofL (padL s.data.toList)) 0 = st0 := rfl
  generalize st0 = st at hF h00
  replace h00 := Lib.hid h00
  have hcs : st.cells = row8 st.a.toNat st.b.toNat st.c.toNat st.d.toNat st.e.toNat st.f.toNat st.g.toNat st.h.toNat := rfl
  simp only [hcs, row8] at hF
  refine (callsIn_wide (n := 9)).1 ?_
  refine callsIn_of_wp_marks Tryd.func11 rfl trivial ?_ rfl
  refine wpIn_wide.2 ?_
  simp only [Tryd.ntmps11, List.size_toArray, List.length_cons, List.length_nil, Nat.reduceAdd, Nat.reduceSub, Array.replicate_succ, Array.replicate_zero, List.push_toArray, List.append_toArray, List.nil_append, List.cons_append]
  go_wp2_with fail
  refine (hF _).mono ?_
  rintro e w1 ⟨rfl, hb1⟩
  go_wp2_with fail
  refine (hF _).mono ?_
  rintro e w2 ⟨rfl, hb2⟩
  have hM1 : StAt (w1.alloc (.cells st.cells 36)) w1.heap.size 36 st := heap_alloc_last w1 _
  have hB1 : Below w.heap.size w w2 := ((hb1.alloc hb1.size _).alloc (Nat.le_trans hb1.size (by simp)) _).trans (hb2.mono (Nat.le_trans hb1.size (by simp; omega)))
  have hM2 : StAt w2 w1.heap.size 36 st := (hb2.block _ (by simp; omega)).trans ((Below.heap_alloc _ _ _ (by simp)).trans hM1)
  have hP2 : Boxed w2 (w1.heap.size + 1) 29 (.pointer (some ⟨w1.heap.size, 0, none⟩)) := (hb2.block _ (by simp)).trans (by have := World.alloc_heap_new (w1.alloc (.cells st.cells 36)) (.cells #[Value.pointer (some ⟨w1.heap.size, 0, none⟩)] 29); rwa [World.size_alloc] at this)
  have hz2 : w1.heap.size + 2 ≤ w2.heap.size := by have := hb2.size; simp at this; exact this
  have hz1 := hb1.size
  generalize w1.heap.size = M at *
  clear hM1 hb1 hb2
  have hcellP := hP2.cell
  replace hB1 := Lib.hid hB1
  replace hM2 := Lib.hid hM2
  replace hP2 := Lib.hid hP2
  clear hF
  go_wp2_with fail
  obtain ⟨w3, hw3⟩ : ∃ w3, w2.alloc (.cells (row8 st.a.toNat st.b.toNat st.c.toNat st.d.toNat st.e.toNat st.f.toNat st.g.toNat st.h.toNat) 33) = w3 := ⟨_, rfl⟩
  have hrow : w3.heap[w2.heap.size]? = some (.cells (row8 st.a.toNat st.b.toNat st.c.toNat st.d.toNat st.e.toNat st.f.toNat st.g.toNat st.h.toNat) 33 (0, 0)) := by rw [← hw3]; exact heap_alloc_last w2 _
  have hB3 : Below w2.heap.size w2 w3 := by rw [← hw3]; exact (Below.refl _ _).alloc (Nat.le_refl _) _
  have hM3 : StAt w3 M 36 st := (hB3.block M (by omega)).trans hM2.out
  have hP3 : Boxed w3 (M + 1) 29 (.pointer (some ⟨M, 0, none⟩)) := (hB3.block (M + 1) (by omega)).trans hP2.out
  obtain ⟨c0, c1, c2, c3, c4, c5, c6, c7⟩ := cells8 hrow
  obtain ⟨d0, d1, d2, d3, d4, d5, d6, d7⟩ := cells8 (show w3.heap[M]? = some (.cells (row8 st.a.toNat st.b.toNat st.c.toNat st.d.toNat st.e.toNat st.f.toNat st.g.toNat st.h.toNat) 36 (0, 0)) from hM3)
  have hcP := hP3.cell
  simp only [row8] at hw3
  rw [hw3]
  replace hB3 := Lib.hid hB3
  replace hM3 := Lib.hid hM3
  replace hP3 := Lib.hid hP3
  clear hrow hcellP hw3
  generalize hB4 : w2.heap.size = B4 at *
  clear hB4
  have heq := fun W => eql33 st.a.toNat st.b.toNat st.c.toNat st.d.toNat st.e.toNat st.f.toNat st.g.toNat st.h.toNat W
  simp only [row8] at heq
  have hgu : Tryd.prog.eqGuardType Tryd.prog.depth 33 = false := by kernel_rfl
  go_quiet (fail)
  clear heq hgu c0 c1 c2 c3 c4 c5 c6 c7 d0 d1 d2 d3 d4 d5 d6 d7 hcP
  generalize Value.agg #[Value.int IntKind.u32 ↑(BitVec.toNat st.a), Value.int IntKind.u32 ↑(BitVec.toNat st.b), Value.int IntKind.u32 ↑(BitVec.toNat st.c), Value.int IntKind.u32 ↑(BitVec.toNat st.d),
              Value.int IntKind.u32 ↑(BitVec.toNat st.e), Value.int IntKind.u32 ↑(BitVec.toNat st.f), Value.int IntKind.u32 ↑(BitVec.toNat st.g), Value.int IntKind.u32 ↑(BitVec.toNat st.h)] = Z at *
  obtain ⟨w4, hw4⟩ : ∃ w4, w3.drewN nq = w4 := ⟨_, rfl⟩
  have hM4 : StAt w4 M 36 st := by rw [← hw4]; exact hM3.out
  have hP4 : Boxed w4 (M + 1) 29 (.pointer (some ⟨M, 0, none⟩)) := by rw [← hw4]; exact hP3.out
  have hB4 : Below w.heap.size w w4 := by rw [← hw4]; exact belowN (hB1.out.trans (hB3.out.mono (by omega))) _
  have hz4 : M + 2 ≤ w4.heap.size := hP4.lt
  rw [hw4]
  clear hw4 hM3 hP3 hB3 hM2 hP2 hB1 hz2
  replace hM4 := Lib.hid hM4
  replace hP4 := Lib.hid hP4
  replace hB4 := Lib.hid hB4
  go_wp2_with fail
  refine (pad_any s hs _).mono ?_
  rintro e w5 ⟨rfl, hb5⟩
  have hls : s.data.toList.length = s.size := (Lib.size_eq s).symm
  have hpz : (ofL (padL s.data.toList)).size = 64 * ((s.size + 72) / 64) := by rw [ofL_size, padL_len, hls]
  have hfin : sumL s.data.toList = outS (stN (ofL (padL s.data.toList)) ((s.size + 72) / 64)) := by
    have hL : (padL s.data.toList).length / 64 = (s.size + 72) / 64 := by rw [padL_len, hls]; omega
    have h := stN_blocks (ofL (padL s.data.toList)) ((s.size + 72) / 64) 0
    rw [restB_zero, toL_ofL, Nat.zero_add] at h
    rw [sumL, hL, ← h]; rfl
  replace hfin := Lib.hid hfin
  have hm2 : (s.size + 72) / 64 ≤ 17 := by omega
  generalize ofL (padL s.data.toList) = p at *
  generalize (s.size + 72) / 64 = m at *
  clear hls
  have hM5 : StAt w5 M 36 st := (hb5.block M (by omega)).trans hM4.out
  have hP5 : Boxed w5 (M + 1) 29 (.pointer (some ⟨M, 0, none⟩)) := (hb5.block (M + 1) (by omega)).trans hP4.out
  have hB5 : Below w.heap.size w w5 := hB4.out.trans (hb5.mono (by omega))
  have hz5 : M + 2 ≤ w5.heap.size := hP5.lt
  clear hM4 hP4 hB4 hb5 hz4
  replace hM5 := Lib.hid hM5
  replace hP5 := Lib.hid hP5
  replace hB5 := Lib.hid hB5
  replace HC := HC.out
  replace HC := Lib.hid HC
  go_wp2_with fail
  refine (blocks_any _ _).mono ?_
  rintro e w6 ⟨rfl, rfl⟩
  go_wp2_with fail
  refine (wpIn_wide (n := 9)).1 ?_
  refine range_blocks 9 (by omega) M w5.heap.size p (by omega) m hpz rfl rfl (by simp; omega) (by omega)
    (fun k W => StAt W M 36 (stN p k) ∧ Boxed W (M + 1) 29 (.pointer (some ⟨M, 0, none⟩)) ∧ Below w.heap.size w W)
    ?hal ?hput ?hset ?h0 (Boxed.new w5 9 (.string p)) (fun k => { tmps := #[.string s, undef, .string { data := #[] }, .pointer (some ⟨M + 1, 0, none⟩), .pointer (some ⟨B4, 0, none⟩), .string (chunk p k), undef, undef, undef, Z, Z, .pointer (some ⟨M, 0, none⟩), Z, .pointer (some ⟨M, 0, none⟩), .pointer (some ⟨M, 0, none⟩), .pointer (some ⟨M, 0, none⟩), Z, Z, .bool true, .string s, .string p, .func (.func 28) #[] #[.pointer (some ⟨w5.heap.size, 0, none⟩)], .string (chunk p k), undef, undef, undef, undef, undef, undef, undef, undef, undef, undef, undef, undef, undef, undef, undef, undef, undef, undef, undef, undef, undef, undef, undef, undef, undef, undef, undef], defers := [] }) ?hassign ?hbody ?hdone
  case hal =>
    rintro k W o ⟨h1, h2, h3⟩
    exact ⟨heap_alloc_old W o h1, h2.alloc o, h3.alloc h3.size o⟩
  case hput =>
    rintro k W l o hl ⟨h1, h2, h3⟩
    simp at hl
    refine ⟨(World.putObj_heap_other (by omega)).trans h1, (World.putObj_heap_other (by omega)).trans h2, h3.os, h3.tape, h3.output, by have := h3.size; simpa using this, fun j hj => (World.putObj_heap_other (by omega)).trans (h3.block j hj)⟩
  case hset =>
    rintro k W v ⟨h1, h2, h3⟩
    exact ⟨(Below.heap_setCell _ _ _ _ (by show M ≠ w5.heap.size; omega)).trans h1, (Below.heap_setCell _ _ _ _ (by show M + 1 ≠ w5.heap.size; omega)).trans h2, h3.setCell (by show w.heap.size ≤ w5.heap.size; omega) v⟩
  case h0 => exact ⟨by rw [h00.out]; exact heap_alloc_old _ _ hM5.out, hP5.out.alloc _, hB5.out.alloc hB5.out.size _⟩
  case hassign =>
    rintro l k W K hK
    gi_wp2
    exact hK
  case hbody =>
    rintro l k W hk hWz ⟨h1, h2, h3⟩
    have hcz := chunk_size p k m hpz hk
    have hC : ConstT 1 W := HC.out.of (Off.of (ob := M) h3) hlt1 (by omega)
    have hA := add_any M 36 (stN p k) (chunk p k) hcz W h1 hC (by have := h3.size; omega) (by omega)
    have hnx : stN p (k + 1) = compress (stN p k) (chunk p k).data.toList := rfl
    rw [← hnx] at hA
    have hcp := h2.cell
    generalize chunk p k = c at *
    replace hA := Lib.hid hA
    replace hnx := Lib.hid hnx
    have hw3 := h3.size
    simp at hWz
    gi_wp2_with fail
    refine ⟨trivial, ?_⟩
    refine (CallsIn.inRound l (callsIn_wide.2 hA.out)).mono ?_
    rintro e W2 ⟨rfl, hS2, hO2⟩
    have hr1 : Boxed W2 (M + 1) 29 (.pointer (some ⟨M, 0, none⟩)) := (hO2.block (M + 1) (by omega) (by omega)).trans h2
    have hr2 : Below w.heap.size w W2 := h3.trans (hO2.below hw3 (by omega))
    gi_wp2
    exact ⟨⟨hS2, hr1, hr2⟩, hO2.size, hO2.block⟩
  case hdone =>
    rintro D W hD ⟨h1, h2, h3⟩ hK
    simp at hD
    have hcp := h2.cell
    have hob := outS_to (stN p m)
    obtain ⟨c0, c1, c2, c3, c4, c5, c6, c7⟩ := cells8 (show W.heap[M]? = some (.cells (row8 (stN p m).a.toNat (stN p m).b.toNat (stN p m).c.toNat (stN p m).d.toNat (stN p m).e.toNat (stN p m).f.toNat (stN p m).g.toNat (stN p m).h.toNat) 36 (0, 0)) from h1)
    have hix := index33 (stN p m)
    simp only [row8] at hix
    generalize stN p m = q at *
    replace hix := Lib.hid hix
    replace hob := Lib.hid hob
    replace h3 := Lib.hid h3
    replace hK := Lib.hid hK
    go_wp2_with fail
    go_loopw [6, 30] (fun o i wr => ∃ k : Nat, k ≤ 8 ∧ i = .int .i64 (k : Int) ∧ wr.ownsRow W.heap.size 5 1 o (4 * k) (Lib.byteCells (outTo q k)) ∧ Below W.heap.size W wr) (fun _ i _ => 8 - (intOf i).toNat)
    case atStart => exact ⟨0, Nat.zero_le _, rfl, World.ownsRow_nil _ _ _ _, Below.refl _ _⟩
    case round =>
      obtain ⟨k, hk, rfl, hown, hb⟩ := hrel
      replace hown := Lib.hid hown
      obtain ⟨i0, hi, hz0, hz1, hz2⟩ := info_parts info5
      by_cases hk8 : k < 8
      · have hxk := hix.out k hk8 wr
        have hot : Lib.byteCells (outTo q (k + 1)) = Lib.byteCells (outTo q k) ++ Lib.byteCells (out4 (wAt q k)) := by simp [outTo, Lib.byteCells]
        replace hot := Lib.hid hot
        have hnews : Lib.byteCells (out4 (wAt q k)) = [.int .u8 (((wAt q k).toNat : Int) / 16777216), .int .u8 (((wAt q k).toNat : Int) / 65536 % 256), .int .u8 (((wAt q k).toNat : Int) / 256 % 256), .int .u8 (((wAt q k).toNat : Int) % 256)] := out4_cells _
        generalize wAt q k = x at hxk hot hnews
        rw [hnews] at hot
        have hk4 : 4 * k + 4 ≤ 32 := by omega
        have hwr := hb.size
        go_wp2_with (at_builtin; refine wpList_append_own _ rfl _ _ 41 rfl W.heap.size 5 i0 (.int .u8 0) 1 1 Tryd.underlying41 hi hz0 hz1 hz2 rfl (by decide) _ _ _ rfl (hown.out.alloc _) ⟨wr.heap.size, 0, none⟩ 4 4 [.int .u8 ((x.toNat : Int) / 16777216), .int .u8 ((x.toNat : Int) / 65536 % 256), .int .u8 ((x.toNat : Int) / 256 % 256), .int .u8 ((x.toNat : Int) % 256)] rfl rfl (cell_four_new _ _ _ _ _) (fun u hu => by simp at hu; rcases hu with rfl | rfl | rfl | rfl <;> rfl) (by unfold maxLen; omega) (by omega) (by simp; omega) ?_; intro v' w3 hown' hgrow3 hnil3)
        have hb3 : Below W.heap.size W w3 := (hb.alloc hb.size _).grown hgrow3 (by simp; omega) (fun g hg => by have := (hown.out.lt g hg).1; omega)
        rw [← hot.out, show 4 * k + 4 = 4 * (k + 1) by omega] at hown'
        go_wp2
        go_roundw
        case rel => exact ⟨k + 1, by omega, by go_num, hown', hb3⟩
        case measure => simp [intOf]; omega
      · obtain rfl : k = 8 := by omega
        rw [hob.out] at hown
        obtain ⟨g, cap, rfl⟩ := ownsRow_succ (k := 31) hown.out
        have hconv : ∀ (L : Nat), L = 32 → (convert 41 9 (.slice (some ⟨g, 0, none⟩) L cap)).run Tryd.prog wr = .ok (.string (ofL (outS q))) wr := fun L hL => by
          subst hL
          refine run_convert_bytes_back wr 41 9 5 ⟨g, 0, none⟩ cap (outS q) Tryd.underlying41 Tryd.underlying5 Tryd.underlying9 fun j hj => ?_
          exact hown.out.cells rfl j _ (by simp [Lib.byteCells, hj])
        have hc1 := hconv _ rfl
        have hKr : wr.heap[D]? = some (.deferred (some [])) := (hb.block D (Array.getElem?_eq_some_iff.1 hK.out).1).trans hK.out
        go_wp2_with fail
        refine ⟨by simp, .inl ⟨_, _, rfl, run_takeDeferred hKr, ?_⟩⟩
        exact ⟨.string (ofL (outS q)), by simp [results, Tryd.results11, go_sem], by rw [hfin.out], (h3.out.trans (hb.mono h3.out.size)).trans (belowK_b (w := w) (Nat.le_refl _) wr D _ _ (by have := h3.out.size; omega) hKr rfl rfl)⟩
end
end Go.Proofs.YtiakcjckebghlaaDoor
