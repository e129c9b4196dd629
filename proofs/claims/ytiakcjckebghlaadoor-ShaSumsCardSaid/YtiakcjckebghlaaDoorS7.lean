/-
  Sha: the blocks of a text, one by one.
-/
import Derived.Test.YtiakcjckebghlaaDoorS6
import Derived.RangeFuncNested
import Derived.RangeFuncBound
import Derived.RangeFuncCalls
import Derived.RangeFuncLeaves
import Derived.Shelf.RegionOpen
import Derived.LoopNIn
import Derived.LoopIn
import Derived.TacticsInMore
namespace Go.Proofs.YtiakcjckebghlaaDoor
open Go.RowKit Go.Shelf

/-- what is left of a text behind k blocks; the next of them -/
def restB (s : ByteArray) (k : Nat) : ByteArray := s.extract (64 * k) s.size
def chunk (s : ByteArray) (k : Nat) : ByteArray := (restB s k).extract 0 64
theorem restB_zero (s : ByteArray) : restB s 0 = s := by
  simp [restB]
theorem restB_size (s : ByteArray) (k : Nat) : (restB s k).size = s.size - 64 * k := by
  simp [restB]
theorem restB_succ (s : ByteArray) (k : Nat) : (restB s k).extract 64 (restB s k).size = restB s (k + 1) := by
  rw [restB_size]
  unfold restB
  ext1
  simp only [ByteArray.data_extract, Array.extract_extract]
  congr 1 <;> omega
theorem chunk_size (s : ByteArray) (k m : Nat) (h : s.size = 64 * m) (hk : k < m) : (chunk s k).size = 64 := by
  simp only [chunk, ByteArray.size_extract, restB_size]; omega
def stN (s : ByteArray) : Nat → St
  | 0 => st0
  | k + 1 => compress (stN s k) (chunk s k).data.toList

/-- the size of the text in a box -/
def boxN (W : World) (B : Nat) : Nat := match W.cell? ⟨B, 0, none⟩ with
  | some (.string s) => s.size
  | _ => 0
theorem boxN_of {W : World} {B t : Nat} {s : ByteArray} (h : Boxed W B t (.string s)) : boxN W B = s.size := by simp [boxN, h.cell]

section
attribute [local go_sem] Oper.semAt_some
set_option maxRecDepth 100000 in
set_option maxHeartbeats 4000000 in
theorem blocks1_in (n : Nat) (hn : 1 ≤ n) (l Bs : Nat) (s : ByteArray) (hs : s.size ≤ 2000) (m : Nat) (hm : s.size = 64 * m) (J : Nat → World → Prop)
    (hJ : ∀ k W v, J k W → J k (W.setCell ⟨Bs, 0, none⟩ v))
    (hY : ∀ k W, k < m → J k W → YieldAt Fence.wide (n - 1) Tryd.prog l #[.string (chunk s k)] W fun e W' => e = .returned (.bool true) ∧ J (k + 1) W' ∧ W'.heap[Bs]? = W.heap[Bs]?)
    (W : World) (hB : Boxed W Bs 9 (.string s)) (h0 : J 0 W) :
    CallsIn Fence.wide n Tryd.prog 28 #[.func (.yield l) #[] #[], .pointer (some ⟨Bs, 0, none⟩)] W fun e W' => (∃ v, e = .returned v) ∧ J m W' := by
  refine callsIn_of_wp Tryd.func28 rfl trivial ?_ rfl
  simp only [Tryd.ntmps28, List.size_toArray, List.length_cons, List.length_nil, Nat.reduceAdd, Nat.reduceSub, Array.replicate_succ, Array.replicate_zero, List.push_toArray, List.append_toArray, List.nil_append, List.cons_append]
  replace hJ := Lib.hid hJ
  gi_wp2_with fail
  refine wpIn_wide.2 (wp_scope_straight ((wpIn_wide (n := n)).1 ?_))
  gi_wp2
  refine wpIn_label ?_
  gi_step
  gi_step
  gi_step
  gi_loopw [3, 4, 5, 6, 7, 8, 9, 10, 11, 12] (fun _ _ _ _ _ _ _ _ _ _ wr => ∃ k : Nat, k ≤ m ∧ J k wr ∧ Boxed wr Bs 9 (.string (restB s k))) (fun _ _ _ _ _ _ _ _ _ _ wr => boxN wr Bs)
  case atStart => exact ⟨0, Nat.zero_le _, h0, by rw [restB_zero]; exact hB⟩
  case round =>
    obtain ⟨k, hk, hJk, hBk⟩ := hrel
    have hsz := restB_size s k
    have hsu := restB_succ s k
    have hc := hBk.cell
    have hf := hBk.frozen
    have hmu := boxN_of hBk
    by_cases hlt : k < m
    · have hcz := chunk_size s k m hm hlt
      have hcs : (restB s k).extract 0 64 = chunk s k := rfl
      have hr64 : 64 ≤ (restB s k).size := by omega
      have hr2 : (restB s k).size ≤ 2000 := by omega
      obtain ⟨fn, tmps, assign, body, hy, hR⟩ := hY k wr hlt hJk
      rw [← hcs] at hy
      generalize hrk : restB s k = r at *
      replace hsu := Lib.hid hsu
      replace hsz := Lib.hid hsz
      replace hmu := Lib.hid hmu
      replace hBk := Lib.hid hBk
      clear hY hJk hB h0 hs hcz hcs
      gi_wp2
      refine hR.mono ?_
      rintro e W3 ⟨rfl, hJ4, hk4⟩
      have hB4 : Boxed W3 Bs 9 (.string r) := hk4.trans hBk.out
      have hc4 := hB4.cell
      have hf4 := hB4.frozen
      clear hc hf hR hy hk4
      gi_wp2
      go_roundw
      case rel => exact ⟨k + 1, by omega, hJ.out _ _ _ hJ4, by rw [← hsu.out]; exact hB4.set _⟩
      case measure =>
        rw [boxN_of (hB4.set _), hmu.out]
        simp; omega
    · obtain rfl : k = m := by omega
      have hr0 : (restB s k).size = 0 := by omega
      generalize hrk : restB s k = r at *
      clear hY hB h0 hs hsu hmu
      gi_wp2
      rw [Exit.noGoto_normal]
      refine bodyPost_end (results_none rfl _ _ _) rfl ?_
      exact ⟨⟨_, rfl⟩, hJk⟩
end
end Go.Proofs.YtiakcjckebghlaaDoor
