/-
  Sha: a text's sum, by the document.
-/
import Derived.Test.YtiakcjckebghlaaDoorS18
import Derived.BigQuiet
import Derived.StillTailTactics
namespace Go.Proofs.YtiakcjckebghlaaDoor
open Go.RowKit Go.Shelf

set_option maxRecDepth 100000 in
set_option maxHeartbeats 8000000 in
theorem rsum_any (s : ByteArray) (hs : s.size ≤ 1000) (w : World) (hC : ConstT 0 w) (hlt0 : 0 < w.heap.size) : Calls Tryd.prog 12 #[.string s] w fun e w' => e = .returned (.string (ofL (sumL s.data.toList))) ∧ Below w.heap.size w w' := by
  replace hC := Lib.hid hC
  go_enter Tryd.func12, Tryd.ntmps12
  go_wp2_with fail
  refine (rpad_any s hs _).mono ?_
  rintro e w1 ⟨rfl, hb1⟩
  have hls : s.data.toList.length = s.size := (Lib.size_eq s).symm
  have hpz : (ofL (padL s.data.toList)).size = 64 * ((s.size + 72) / 64) := by rw [ofL_size, padL_len, hls]
  have hfin : sumL s.data.toList = outS (stN (ofL (padL s.data.toList)) ((s.size + 72) / 64)) := by
    have hL : (padL s.data.toList).length / 64 = (s.size + 72) / 64 := by rw [padL_len, hls]; omega
    have h := stN_blocks (ofL (padL s.data.toList)) ((s.size + 72) / 64) 0
    rw [restB_zero, toL_ofL, Nat.zero_add] at h
    rw [sumL, hL, ← h]; rfl
  replace hfin := Lib.hid hfin
  have h00 : stN (ofL (padL s.data.toList)) 0 = st0 := rfl
  have hm2 : (s.size + 72) / 64 ≤ 17 := by omega
  generalize ofL (padL s.data.toList) = p at *
  generalize (s.size + 72) / 64 = m at *
  clear hls
  replace h00 := Lib.hid h00
  replace hpz := Lib.hid hpz
  go_wp2_with fail
  obtain ⟨M, hM⟩ : ∃ M, w1.heap.size = M := ⟨_, rfl⟩
  have hA0 : StAt (w1.alloc (.cells st0.cells 43)) M 43 st0 := by rw [← hM]; exact heap_alloc_last w1 _
  have hB0 : Below w.heap.size w (w1.alloc (.cells st0.cells 43)) := hb1.alloc hb1.size _
  have hz0 : (w1.alloc (.cells st0.cells 43)).heap.size = M + 1 := by rw [World.size_alloc, hM]
  have hC0 : ConstT 0 (w1.alloc (.cells st0.cells 43)) := fun i hi => (cell_below0 hB0 hlt0).trans (hC.out i hi)
  replace hC0 := Lib.hid hC0
  clear hC
  have hwM : w.heap.size ≤ M := by rw [← hM]; exact hb1.size
  change Code.wp _ _ _ _ (w1.alloc (.cells st0.cells 43))
  simp only [hM]
  generalize w1.alloc (.cells st0.cells 43) = W0 at *
  clear hM hb1
  replace hA0 := Lib.hid hA0
  replace hB0 := Lib.hid hB0
  replace hz0 := Lib.hid hz0
  go_loopw [4] (fun t wr => ∃ k : Nat, k ≤ m ∧ t = .int .i64 (64 * (k : Int)) ∧ StAt wr M 43 (stN p k) ∧ Below M W0 wr) (fun t _ => 2000 - (intOf t).toNat)
  case atStart => exact ⟨0, Nat.zero_le _, rfl, by rw [h00.out]; exact hA0.out, Below.refl _ _⟩
  case round =>
    obtain ⟨k, hk, rfl, hA, hb⟩ := hrel
    by_cases hkm : k < m
    · have hks : 64 * (k : Int) < (p.size : Int) := by have := hpz.out; omega
      have hsn : stN p (k + 1) = addS (stN p k) (roundsTo (wordsTo (chunk p k).data.toList 64) (stN p k) 64) := rfl
      replace hsn := Lib.hid hsn
      have hcz := chunk_size p k m hpz.out hkm
      have hwc := fun j hj => word_cut p k j hj
      have hcut : ∀ j, j < 16 → 64 * k + 4 * j + 4 ≤ p.size := fun j hj => by have := hpz.out; omega
      have hp2 : p.size ≤ 1088 := by have := hpz.out; omega
      replace hcut := Lib.hid hcut
      replace hcz := Lib.hid hcz
      replace hwc := Lib.hid hwc
      have hmz := hb.size
      have hz := hz0.out
      rw [hz] at hmz
      clear hz
      replace hb := Lib.hid hb
      generalize (chunk p k).data.toList = c at hsn hwc hcz
      generalize stN p k = st at hA hsn
      generalize hss : stN p (k + 1) = st' at hsn
      replace hss := Lib.hid hss
      replace hA := Lib.hid hA
      go_wp2_with fail
      change Code.wp _ _ _ _ (wr.alloc (.cells (wrow []) 44))
      have hR0 : (wr.alloc (.cells (wrow []) 44)).heap[wr.heap.size]? = some (.cells (wrow []) 44 (0, 0)) := heap_alloc_last wr _
      have hA2 : StAt (wr.alloc (.cells (wrow []) 44)) M 43 st := heap_alloc_old _ _ hA.out
      have hb2 : Below M W0 (wr.alloc (.cells (wrow []) 44)) := hb.out.alloc (by omega) _
      have hz2 : (wr.alloc (.cells (wrow []) 44)).heap.size = wr.heap.size + 1 := World.size_alloc _ _
      clear hA hb
      generalize wr.alloc (.cells (wrow []) 44) = W2 at *
      generalize wr.heap.size = R at *
      replace hA2 := Lib.hid hA2
      replace hR0 := Lib.hid hR0
      replace hb2 := Lib.hid hb2
      replace hz2 := Lib.hid hz2
      go_loopw [6] (fun i wq => ∃ j : Nat, j ≤ 16 ∧ i = .int .i64 (j : Int) ∧ wq.heap[R]? = some (.cells (wrow (wordsTo c j)) 44 (0, 0)) ∧ Below R W2 wq ∧ R < wq.heap.size) (fun i _ => 16 - (intOf i).toNat)
      case atStart => exact ⟨0, Nat.zero_le _, rfl, hR0.out, Below.refl _ _, by rw [hz2.out]; omega⟩
      case round =>
        obtain ⟨j, hj, rfl, hR, hbj, hzj⟩ := hrel
        have hlen := wordsTo_len c j
        have hws := wordsTo_succ c j
        by_cases hj16 : j < 16
        · rw [if_pos hj16] at hws
          have hwcj := hwc.out j hj16
          have hex : (p.extract (64 * k + 4 * j) (64 * k + 4 * j + 4)).size = 4 := by have := hcut.out j hj16; simp [ByteArray.size_extract]; omega
          have hset := wrow_set (wordsTo c j) (wordAtB c j) (by omega)
          have hend := wrow_end (wordsTo c j) (by omega)
          rw [hlen] at hset hend
          rw [← hws] at hset
          have n1 : (0 : Int) ≤ 64 * (k : Int) + 4 * (j : Int) := by omega
          have n2 : 64 * (k : Int) + 4 * (j : Int) + 4 ≤ (p.size : Int) := by have := hcut.out j hj16; omega
          have n3 : (j : Int) < 64 := by omega
          have n4 : (k : Int) ≤ 17 := by omega
          have hcall := word_any _ hex
          rw [hwcj] at hcall
          generalize wordAtB c j = x at hws hset hcall
          generalize wordsTo c j = ws at hR hlen hws hset hend
          replace hset := Lib.hid hset
          replace hend := Lib.hid hend
          replace hws := Lib.hid hws
          replace hlen := Lib.hid hlen
          replace hex := Lib.hid hex
          replace hcall := Lib.hid hcall
          have HR := Lib.hid hR
          clear hR hwcj
          go_wp2_with fail
          refine (hcall.out _).mono ?_
          rintro e w3 ⟨rfl, hb3⟩
          have hR3 := (hb3.block R hzj).trans HR.out
          have hb4 := hbj.trans (hb3.mono (by omega))
          have hz4 : R < w3.heap.size := by have := hb3.size; omega
          have c5 : w3.cell? ⟨R, j, none⟩ = some (val 0) := (cell_of_row w3 _ j _ _ _ hR3).trans hend.out
          have f5 := froz8 hR3 j
          have HR3 := Lib.hid hR3
          clear hR3 hb3 HR
          simp only [Act.put]
          repeat go_step
          have h5 := heap_set (i := j) HR3.out (val x)
          rw [hset.out] at h5
          exact ⟨⟨j + 1, by omega, by go_num, h5, hb4.setCell (by simp) _, by simpa [World.setCell] using hz4⟩, by simp [intOf]; omega⟩
        · rw [show j = 16 by omega] at hR
          have HR := Lib.hid hR
          have hj17 : ¬ ((j : Int) < 16) := by omega
          clear hR hws hlen hj16
          go_wp2_with fail
          go_loopw [7] (fun i wq => ∃ j : Nat, 16 ≤ j ∧ j ≤ 64 ∧ i = .int .i64 (j : Int) ∧ wq.heap[R]? = some (.cells (wrow (wordsTo c j)) 44 (0, 0)) ∧ Below R W2 wq ∧ R < wq.heap.size) (fun i _ => 64 - (intOf i).toNat)
          case atStart => exact ⟨16, Nat.le_refl _, by omega, rfl, HR.out, hbj, hzj⟩
          case round =>
            clear HR hbj hzj
            obtain ⟨j, hj0, hj, rfl, hR, hbj, hzj⟩ := hrel
            have hlen := wordsTo_len c j
            have hws := wordsTo_succ c j
            by_cases hj64 : j < 64
            · rw [if_neg (by omega)] at hws
              have hsz : (wrow (wordsTo c j)).size = 64 := wrow_size _ (by omega)
              generalize wordsTo c j = ws at hR hlen hws hsz
              have hset := wrow_set ws (nextW ws j) (by omega)
              rw [hlen, ← hws] at hset
              have g1 : wr.cell? ⟨R, j - 16, none⟩ = some (.int .u32 ((ws.getD (j - 16) 0).toNat : Int)) := (cell_of_row wr _ (j - 16) _ _ _ hR).trans (wrow_at ws _ (by omega))
              have g2 : wr.cell? ⟨R, j - 15, none⟩ = some (.int .u32 ((ws.getD (j - 15) 0).toNat : Int)) := (cell_of_row wr _ (j - 15) _ _ _ hR).trans (wrow_at ws _ (by omega))
              have g3 : wr.cell? ⟨R, j - 7, none⟩ = some (.int .u32 ((ws.getD (j - 7) 0).toNat : Int)) := (cell_of_row wr _ (j - 7) _ _ _ hR).trans (wrow_at ws _ (by omega))
              have g4 : wr.cell? ⟨R, j - 2, none⟩ = some (.int .u32 ((ws.getD (j - 2) 0).toNat : Int)) := (cell_of_row wr _ (j - 2) _ _ _ hR).trans (wrow_at ws _ (by omega))
              have g5 : ∃ old, wr.cell? ⟨R, j, none⟩ = some old := ⟨_, (cell_of_row wr _ j _ _ _ hR).trans (Array.getElem?_eq_getElem (by omega))⟩
              obtain ⟨old, g5⟩ := g5
              have f5 := froz8 hR j
              have hnx : nextW ws j = ws.getD (j - 16) 0 + sch0 (ws.getD (j - 15) 0) + ws.getD (j - 7) 0 + sch1 (ws.getD (j - 2) 0) := rfl
              generalize ws.getD (j - 16) 0 = x1 at g1 hnx
              generalize ws.getD (j - 15) 0 = x2 at g2 hnx
              generalize ws.getD (j - 7) 0 = x3 at g3 hnx
              generalize ws.getD (j - 2) 0 = x4 at g4 hnx
              have v1 : IntKind.i64.wrap ((j : Int) - 16) = ((j - 16 : Nat) : Int) := by rw [IntKind.wrap_i64]; omega
              have v2 : IntKind.i64.wrap ((j : Int) - 15) = ((j - 15 : Nat) : Int) := by rw [IntKind.wrap_i64]; omega
              have v3 : IntKind.i64.wrap ((j : Int) - 7) = ((j - 7 : Nat) : Int) := by rw [IntKind.wrap_i64]; omega
              have v4 : IntKind.i64.wrap ((j : Int) - 2) = ((j - 2 : Nat) : Int) := by rw [IntKind.wrap_i64]; omega
              have l1 : ((j - 16 : Nat) : Int) < 64 := by omega
              have z1 : (0 : Int) ≤ ((j - 16 : Nat) : Int) := by omega
              have l2 : ((j - 15 : Nat) : Int) < 64 := by omega
              have z2 : (0 : Int) ≤ ((j - 15 : Nat) : Int) := by omega
              have l3 : ((j - 7 : Nat) : Int) < 64 := by omega
              have z3 : (0 : Int) ≤ ((j - 7 : Nat) : Int) := by omega
              have l4 : ((j - 2 : Nat) : Int) < 64 := by omega
              have z4 : (0 : Int) ≤ ((j - 2 : Nat) : Int) := by omega
              generalize j - 16 = i1 at g1 v1 l1 z1
              generalize j - 15 = i2 at g2 v2 l2 z2
              generalize j - 7 = i3 at g3 v3 l3 z3
              generalize j - 2 = i4 at g4 v4 l4 z4
              have l5 : (j : Int) < 64 := by omega
              have HC7 := Lib.hid (turn_7 x2)
              have HC18 := Lib.hid (turn_18 x2)
              have HC17 := Lib.hid (turn_17 x4)
              have HC19 := Lib.hid (turn_19 x4)
              have HR := Lib.hid hR
              replace hnx := Lib.hid hnx
              replace hset := Lib.hid hset
              replace hws := Lib.hid hws
              replace hlen := Lib.hid hlen
              clear hR hsz
              go_wp2_with fail
              refine wp_region_still_tail 29 (by kernel_rfl) (by kernel_rfl) ?_
              have q1 : wr.drew.cell? ⟨R, i1, none⟩ = some (.int .u32 (x1.toNat : Int)) := g1
              have q3 : wr.drew.cell? ⟨R, i3, none⟩ = some (.int .u32 (x3.toNat : Int)) := g3
              have q5 : wr.drew.cell? ⟨R, j, none⟩ = some old := g5
              have q6 : wr.drew.frozen? ⟨R, j, none⟩ = false := f5
              have HR3 : wr.drew.heap[R]? = some (.cells (wrow ws) 44 (0, 0)) := HR.out
              have hb4 : Below R W2 wr.drew := belowN hbj 1
              have hz4 : R < wr.drew.heap.size := hzj
              change wpStill _ _ wr.drew _ _ _
              clear g1 g2 g3 g4 g5 f5 HR hbj hzj v2 v4 l2 z2 l4 z4
              generalize hW3 : wr.drew = W3 at q1 q3 q5 q6 HR3 hb4 hz4 ⊢
              replace hW3 := Lib.hid hW3
              replace HR3 := Lib.hid HR3
              simp only [List.take_succ_cons, List.take_zero, List.drop_succ_cons, List.drop_zero]
              still_step
              still_step
              still_step
              still_step
              still_step
              still_step
              still_call ((HC7.out _).mono fun _ _ h => ⟨h.1, h.2.symm⟩)
              still_step
              still_call ((HC18.out _).mono fun _ _ h => ⟨h.1, h.2.symm⟩)
              still_step
              still_step
              still_step
              still_step
              still_step
              still_step
              still_step
              still_step
              still_step
              still_step
              still_step
              still_call ((HC17.out _).mono fun _ _ h => ⟨h.1, h.2.symm⟩)
              still_step
              still_call ((HC19.out _).mono fun _ _ h => ⟨h.1, h.2.symm⟩)
              still_step
              still_step
              still_step
              still_step
              still_step
              still_step
              refine wpStill_nil ?_
              change wpList _ _ _ _ _ wr.drew
              rw [hW3.out]
              have hnv : IntKind.u32.wrap (IntKind.u32.wrap (IntKind.u32.wrap ((x1.toNat : Int) + bits BinOp.xor IntKind.u32 (bits BinOp.xor IntKind.u32 ((rot x2 7).toNat : Int) ((rot x2 18).toNat : Int)) ((x2.toNat : Int) / 8)) + (x3.toNat : Int)) + bits BinOp.xor IntKind.u32 (bits BinOp.xor IntKind.u32 ((rot x4 17).toNat : Int) ((rot x4 19).toNat : Int)) ((x4.toNat : Int) / 1024)) = ((nextW ws j).toNat : Int) := by
                simp only [IntKind.wrap_u32, sch0_bits, sch1_bits]
                rw [add32, add32, add32, hnx.out]
              rw [hnv]
              have hvl : val (nextW ws j) = .int .u32 ((nextW ws j).toNat : Int) := rfl
              generalize nextW ws j = y at hset hws hvl ⊢
              replace hvl := Lib.hid hvl
              clear hnv q1 q3 v1 v3 l1 l3 z1 z3
              go_wp2
              go_roundw
              case rel =>
                have h5 := heap_set (i := j) HR3.out (Value.int .u32 (y.toNat : Int))
                rw [← hvl.out, hset.out] at h5
                refine ⟨j + 1, by omega, by omega, by go_num, ?_, hb4.setCell (by simp) _, by simpa [World.setCell] using hz4⟩
                rw [← hvl.out]; exact h5
              case measure => simp [intOf]; omega
            · rw [show j = 64 by omega] at hR
              have hat : ∀ i, i < 64 → (wrow (wordsTo c 64))[i]? = some (.int .u32 (((wordsTo c 64).getD i 0).toNat : Int)) := fun i hi => wrow_at _ i (by rw [wordsTo_len]; exact hi)
              have hj65 : ¬ ((j : Int) < 64) := by omega
              clear hws hlen hj64
              generalize wordsTo c 64 = ws at hR hat hsn
              generalize wrow ws = cs at hR hat
              have hA3 : StAt wr M 43 st := (hbj.block M (by omega)).trans hA2.out
              have hb3 : Below M W0 wr := hb2.out.trans (hbj.mono (by omega))
              have hCR : ConstT 0 wr := fun i hi => (cell_below0 hb3 (by omega)).trans (hC0.out i hi)
              obtain ⟨d0, d1, d2, d3, d4, d5, d6, d7⟩ := cells8 (show wr.heap[M]? = some (.cells (row8 st.a.toNat st.b.toNat st.c.toNat st.d.toNat st.e.toNat st.f.toNat st.g.toNat st.h.toNat) 43 (0, 0)) from hA3)
              have HA3 := Lib.hid hA3
              have HR := Lib.hid hR
              have HAT := Lib.hid hat
              have HCR := Lib.hid hCR
              have HB3 := Lib.hid hb3
              clear hA3 hR hat hCR hb3 hbj
              go_wp2_with fail
              change Code.wp _ _ _ _ (wr.alloc (.cells st.cells 43))
              clear d0 d1 d2 d3 d4 d5 d6 d7
              have hV0 : StAt (wr.alloc (.cells st.cells 43)) wr.heap.size 43 st := heap_alloc_last wr _
              have hA4 : StAt (wr.alloc (.cells st.cells 43)) M 43 st := heap_alloc_old _ _ HA3.out
              have hR4 : (wr.alloc (.cells st.cells 43)).heap[R]? = some (.cells cs 44 (0, 0)) := heap_alloc_old _ _ HR.out
              have hC4 : ConstT 0 (wr.alloc (.cells st.cells 43)) := fun i hi => (cell_below0 ((Below.refl wr.heap.size wr).alloc (Nat.le_refl _) _) (Nat.lt_of_le_of_lt (Nat.zero_le _) hzj)).trans (HCR.out i hi)
              have hb4 : Below M W0 (wr.alloc (.cells st.cells 43)) := HB3.out.alloc (by omega) _
              have hz4 : (wr.alloc (.cells st.cells 43)).heap.size = wr.heap.size + 1 := World.size_alloc _ _
              clear HA3 HR HCR HB3
              generalize wr.alloc (.cells st.cells 43) = W4 at *
              generalize wr.heap.size = V at *
              replace hV0 := Lib.hid hV0
              replace hA4 := Lib.hid hA4
              replace hR4 := Lib.hid hR4
              replace hC4 := Lib.hid hC4
              replace hb4 := Lib.hid hb4
              replace hz4 := Lib.hid hz4
              go_loopw [11] (fun i wq => ∃ n : Nat, n ≤ 64 ∧ i = .int .i64 (n : Int) ∧ StAt wq V 43 (roundsTo ws st n) ∧ Below V W4 wq) (fun i _ => 64 - (intOf i).toNat)
              case atStart => exact ⟨0, Nat.zero_le _, rfl, hV0.out, Below.refl _ _⟩
              case round =>
                obtain ⟨n, hn, rfl, hS, hbn⟩ := hrel
                by_cases hn64 : n < 64
                · have hnx : roundsTo ws st (n + 1) = roundS (roundsTo ws st n) (ws.getD n 0) (consts.getD n 0) := rfl
                  have hVz : V < wr.heap.size := hS.lt
                  have gk : wr.cell? ⟨0, n, none⟩ = some (.int .u32 ((consts.getD n 0).toNat : Int)) := (cell_below0 hbn (by omega)).trans (hC4.out n hn64)
                  have gw : wr.cell? ⟨R, n, none⟩ = some (.int .u32 ((ws.getD n 0).toNat : Int)) := (cell_of_row wr R n _ _ _ ((hbn.block R hzj).trans hR4.out)).trans (HAT.out n hn64)
                  generalize ws.getD n 0 = x at gw hnx
                  generalize consts.getD n 0 = y at gk hnx
                  generalize roundsTo ws st n = q at hS hnx
                  generalize hqq : roundsTo ws st (n + 1) = q' at hnx
                  replace hqq := Lib.hid hqq
                  have n0 : (0 : Int) ≤ (n : Int) := by omega
                  have n1 : (n : Int) < 64 := by omega
                  have HL6 := Lib.hid (turn_6 q.e)
                  have HL11 := Lib.hid (turn_11 q.e)
                  have HL25 := Lib.hid (turn_25 q.e)
                  have HU2 := Lib.hid (turn_2 q.a)
                  have HU13 := Lib.hid (turn_13 q.a)
                  have HU22 := Lib.hid (turn_22 q.a)
                  obtain ⟨c0, c1, c2, c3, c4, c5, c6, c7⟩ := cells8 (show wr.heap[V]? = some (.cells (row8 q.a.toNat q.b.toNat q.c.toNat q.d.toNat q.e.toNat q.f.toNat q.g.toNat q.h.toNat) 43 (0, 0)) from hS)
                  have HS := Lib.hid hS
                  replace hnx := Lib.hid hnx
                  clear hS
                  go_wp2_with fail
                  refine wp_region_still_lit (by kernel_rfl) (by kernel_rfl) ?_
                  have HS1 : StAt wr.drew V 43 q := HS.out
                  have hbn1 : Below V W4 wr.drew := belowN hbn 1
                  have gk1 : wr.drew.cell? ⟨0, n, none⟩ = some (.int .u32 (y.toNat : Int)) := gk
                  have gw1 : wr.drew.cell? ⟨R, n, none⟩ = some (.int .u32 (x.toNat : Int)) := gw
                  change wpStill _ _ wr.drew _ _ _
                  generalize hW1 : wr.drew = W5 at HS1 hbn1 gk1 gw1 ⊢
                  replace hW1 := Lib.hid hW1
                  clear c0 c1 c2 c3 c4 c5 c6 c7 gk gw hbn HS
                  obtain ⟨c0, c1, c2, c3, c4, c5, c6, c7⟩ := cells8 (show W5.heap[V]? = some (.cells (row8 q.a.toNat q.b.toNat q.c.toNat q.d.toNat q.e.toNat q.f.toNat q.g.toNat q.h.toNat) 43 (0, 0)) from HS1)
                  replace HS1 := Lib.hid HS1
                  still_step
                  still_step
                  still_step
                  still_call ((HL6.out _).mono fun _ _ h => ⟨h.1, h.2.symm⟩)
                  still_step
                  still_call ((HL11.out _).mono fun _ _ h => ⟨h.1, h.2.symm⟩)
                  still_step
                  still_step
                  still_call ((HL25.out _).mono fun _ _ h => ⟨h.1, h.2.symm⟩)
                  still_step
                  still_step
                  still_step
                  still_step
                  still_step
                  still_step
                  still_step
                  still_step
                  still_step
                  still_step
                  still_step
                  still_step
                  still_step
                  still_step
                  still_step
                  still_step
                  still_step
                  still_step
                  still_step
                  still_step
                  still_step
                  still_step
                  refine wpStill_nil ?_
                  change Exit.then _ _ _ _ wr.drew
                  rw [hW1.out, tS_bits q x y]
                  generalize bits BinOp.xor IntKind.u32 (if IntKind.u32.signed = true then -1 else IntKind.u32.max) (q.e.toNat : Int) = ne
                  generalize htt : tS q x y = t
                  replace htt := Lib.hid htt
                  simp only [Exit.then]
                  go_step
                  go_step
                  refine wp_region_still_lit (by kernel_rfl) (by kernel_rfl) ?_
                  have HS2 : StAt W5.drew V 43 q := HS1.out
                  have hbn2 : Below V W4 W5.drew := belowN hbn1 1
                  change wpStill _ _ W5.drew _ _ _
                  generalize hW2 : W5.drew = W6 at HS2 hbn2 ⊢
                  replace hW2 := Lib.hid hW2
                  clear c0 c1 c2 c3 c4 c5 c6 c7 gk1 gw1 hbn1 HS1
                  obtain ⟨c0, c1, c2, c3, c4, c5, c6, c7⟩ := cells8 (show W6.heap[V]? = some (.cells (row8 q.a.toNat q.b.toNat q.c.toNat q.d.toNat q.e.toNat q.f.toNat q.g.toNat q.h.toNat) 43 (0, 0)) from HS2)
                  replace HS2 := Lib.hid HS2
                  still_step
                  still_call ((HU2.out _).mono fun _ _ h => ⟨h.1, h.2.symm⟩)
                  still_step
                  still_call ((HU13.out _).mono fun _ _ h => ⟨h.1, h.2.symm⟩)
                  still_step
                  still_step
                  still_call ((HU22.out _).mono fun _ _ h => ⟨h.1, h.2.symm⟩)
                  still_step
                  still_step
                  still_step
                  still_step
                  still_step
                  still_step
                  still_step
                  still_step
                  still_step
                  still_step
                  still_step
                  still_step
                  still_step
                  still_step
                  still_step
                  still_step
                  still_step
                  still_step
                  refine wpStill_nil ?_
                  change Exit.then _ _ _ _ W5.drew
                  rw [hW2.out, uS_bits q]
                  generalize huu : uS q = u
                  replace huu := Lib.hid huu
                  simp only [Exit.then]
                  go_step
                  iterate 55 go_step
                  rw [add32 t u, add32 q.d t]
                  refine wl_store_row rfl 43 (.tmp 10) (.tmp 168) rfl V (St.cells ⟨t + u, q.a, q.b, q.c, q.d + t, q.e, q.f, q.g⟩) rfl rfl 43 q.cells HS2.out size43 rfl (cells_one _) ?_
                  have hq : q' = ⟨t + u, q.a, q.b, q.c, q.d + t, q.e, q.f, q.g⟩ := by rw [hnx.out, ← htt.out, ← huu.out]; rfl
                  rw [← hq]
                  have hS6 : StAt (W6.setRow V q'.cells) V 43 q' := setRow_heap W6 V _ _ 43 _ HS2.out
                  have hb6 : Below V W4 (W6.setRow V q'.cells) := hbn2.trans ⟨rfl, rfl, rfl, by simp [World.setRow], fun z hz => setRow_other W6 _ z _ (by omega)⟩
                  replace hq := Lib.hid hq
                  generalize W6.setRow V q'.cells = W7 at hS6 hb6 ⊢
                  replace hS6 := Lib.hid hS6
                  replace hb6 := Lib.hid hb6
                  clear c0 c1 c2 c3 c4 c5 c6 c7 HS2 hbn2 hW2 hW1
                  simp only [Act.put]
                  repeat go_step
                  refine ⟨⟨n + 1, by omega, by go_num, ?_, hb6.out⟩, by simp [intOf]; omega⟩
                  rw [hqq.out]; exact hS6.out
                · rw [show n = 64 by omega] at hS
                  have hn65 : ¬ ((n : Int) < 64) := by omega
                  clear hn64
                  generalize roundsTo ws st 64 = v at hS hsn
                  have hA5 : StAt wr M 43 st := (hbn.block M (by omega)).trans hA4.out
                  have hb5 : Below M W0 wr := hb4.out.trans (hbn.mono (by omega))
                  have hS5 := Lib.hid hS
                  have hVz : V < wr.heap.size := hS.lt
                  clear hS hbn hA4 hb4 hC4 hR4 hV0 HAT
                  obtain ⟨W5, rfl⟩ : ∃ W5 : World, W5 = wr := ⟨_, rfl⟩
                  replace hA5 := Lib.hid hA5
                  replace hb5 := Lib.hid hb5
                  go_wp2_with fail
                  go_loopw [16] (fun i wq => ∃ n : Nat, n ≤ 8 ∧ i = .int .i64 (n : Int) ∧ StAt wq M 43 (putTo st v n) ∧ Off W5.heap.size M W5 wq) (fun i _ => 8 - (intOf i).toNat)
                  case atStart => exact ⟨0, Nat.zero_le _, rfl, by rw [putTo_zero]; exact hA5.out, Off.refl _ _ _⟩
                  case round =>
                    obtain ⟨e, he, rfl, hM, hO⟩ := hrel
                    have hSV : StAt wr V 43 v := (hO.block V hVz (by omega)).trans hS5.out
                    by_cases he8 : e < 8
                    · have gM : wr.cell? ⟨M, e, none⟩ = some (.int .u32 ((wAt st e).toNat : Int)) := (hM.at e).trans (put_at st v e he8)
                      have gV : wr.cell? ⟨V, e, none⟩ = some (.int .u32 ((wAt v e).toNat : Int)) := (hSV.at e).trans (cells_at v e he8)
                      have fM := hM.frozen e
                      have hset := put_set st v e he8
                      have HM := Lib.hid hM
                      have m0 : (0 : Int) ≤ (e : Int) := by omega
                      have m1 : (e : Int) < 8 := by omega
                      generalize wAt st e = xs at gM hset
                      generalize wAt v e = xv at gV hset
                      replace hset := Lib.hid hset
                      clear hM hSV
                      go_wp2_with fail
                      refine wp_region_still_tail 9 (by kernel_rfl) (by kernel_rfl) ?_
                      have HM1 : StAt wr.drew M 43 (putTo st v e) := HM.out
                      have hO1 : Off W5.heap.size M W5 wr.drew := hO.trans (.of (belowN (Below.refl _ _) 1))
                      have gM1 : wr.drew.cell? ⟨M, e, none⟩ = some (.int .u32 (xs.toNat : Int)) := gM
                      have gV1 : wr.drew.cell? ⟨V, e, none⟩ = some (.int .u32 (xv.toNat : Int)) := gV
                      have fM1 : wr.drew.frozen? ⟨M, e, none⟩ = false := fM
                      change wpStill _ _ wr.drew _ _ _
                      generalize hW6 : wr.drew = W6 at HM1 hO1 gM1 gV1 fM1 ⊢
                      replace hW6 := Lib.hid hW6
                      replace HM1 := Lib.hid HM1
                      clear gM gV fM HM hO
                      simp only [List.take_succ_cons, List.take_zero, List.drop_succ_cons, List.drop_zero]
                      iterate 9 still_step
                      refine wpStill_nil ?_
                      change wpList _ _ _ _ _ wr.drew
                      rw [hW6.out]
                      go_wp2
                      refine ⟨⟨e + 1, by omega, by go_num, ?_, hO1.trans (off_setCell _)⟩, by simp [intOf]; omega⟩
                      have h5 := heap_set (i := e) HM1.out (Value.int .u32 (((xs.toNat : Int) + (xv.toNat : Int)) % 4294967296))
                      have ha := add32 xs xv
                      rw [ha, hset.out] at h5
                      rw [ha]; exact h5
                    · rw [show e = 8 by omega, putTo_all] at hM
                      have hbf : Below M W0 wr := hb5.out.trans (hO.below (by omega) (Nat.le_refl _))
                      have he9 : ¬ ((e : Int) < 8) := by omega
                      have n4 : (k : Int) ≤ 17 := by omega
                      have HM := Lib.hid hM
                      clear he8 hM hSV hO
                      go_wp2
                      refine ⟨⟨k + 1, by omega, by rw [show (64 * (k : Int) + 64) = 64 * ((k + 1 : Nat) : Int) by omega], ?_, hbf⟩, by simp [intOf]; omega⟩
                      rw [hss.out, hsn.out]; exact HM.out
    · have hkm2 : k = m := by omega
      have hks : ¬ (64 * (k : Int) < (p.size : Int)) := by have := hpz.out; omega
      rw [hkm2] at hA
      have hBw : Below w.heap.size w wr := hB0.out.trans (hb.mono hwM)
      have hob := outS_to (stN p m)
      generalize stN p m = q at *
      have HA := Lib.hid hA
      replace hob := Lib.hid hob
      replace hBw := Lib.hid hBw
      clear hA hb hkm hkm2
      obtain ⟨W5, rfl⟩ : ∃ W5 : World, W5 = wr := ⟨_, rfl⟩
      go_wp2_with fail
      go_loopw [17, 18] (fun o i wq => ∃ n : Nat, n ≤ 8 ∧ o = .string (ofL (outTo q n)) ∧ i = .int .i64 (n : Int) ∧ Below W5.heap.size W5 wq) (fun _ i _ => 8 - (intOf i).toNat)
      case atStart => exact ⟨0, Nat.zero_le _, rfl, rfl, Below.refl _ _⟩
      case round =>
        obtain ⟨n, hn, rfl, rfl, hb⟩ := hrel
        have hol : (ofL (outTo q n)).size = 4 * n := by rw [ofL_size, outTo_len]
        by_cases hn8 : n < 8
        · have hSM : StAt wr M 43 q := (hb.block M HA.out.lt).trans HA.out
          have gM : wr.cell? ⟨M, n, none⟩ = some (.int .u32 ((wAt q n).toNat : Int)) := (hSM.at n).trans (cells_at q n hn8)
          have hon : ofL (outTo q (n + 1)) = ofL (outTo q n) ++ ofL (out4 (wAt q n)) := by rw [outTo, ofL_append]
          have m0 : (0 : Int) ≤ (n : Int) := by omega
          have m1 : (n : Int) < 8 := by omega
          have hcv := conv_four wr (wAt q n)
          have ho2 : (ofL (outTo q n)).size ≤ 32 := by omega
          have h44 : (ofL (out4 (wAt q n))).size = 4 := by rw [ofL_size]; rfl
          generalize ofL (outTo q n) = o at hol hon ho2 ⊢
          generalize hox : ofL (out4 (wAt q n)) = ox at hon hcv h44
          generalize wAt q n = x at gM hcv hox
          replace hon := Lib.hid hon
          replace hox := Lib.hid hox
          clear hSM hol
          go_wp2
          exact ⟨⟨n + 1, by omega, by rw [hon.out], by go_num, ba hb _⟩, by simp [intOf]; omega⟩
        · have hn9 : ¬ ((n : Int) < 8) := by omega
          have e8 : outTo q n = outS q := by rw [show n = 8 by omega]; exact hob.out
          rw [e8]
          clear e8 hol hn8
          go_wp2
          go_ret
          exact ⟨by rw [hfin.out]; rfl, hBw.out.trans (hb.mono hBw.out.size)⟩
end Go.Proofs.YtiakcjckebghlaaDoor
