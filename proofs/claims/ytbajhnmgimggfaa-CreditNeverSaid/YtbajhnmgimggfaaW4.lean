/-
  The walks of what credit.Most calls, of Most, of the document's Most, of few.
-/
import Derived.Test.YtbajhnmgimggfaaW3
import Derived.RangeFuncNested
import Derived.RangeFuncBound
import Derived.RangeFuncCalls
import Derived.RangeFuncLeaves
import Derived.Shelf.Abstract
import Derived.Shelf.RegionOpen
import Derived.OwnWalkIn
import Derived.TacticsInMore
import Derived.LoopNIn
import Derived.LoopIn
namespace Go.Proofs.Ytbajhnmgimggfaa
open Go.RowKit Go.Shelf

/-- the least of two, the most of two, as Go has them -/
def mn (x y : Int) : Int := if y < x then y else x
def mx (x y : Int) : Int := if y > x then y else x
/-- a number that is one of 64 bits -/
def InRange (z : Int) : Prop := -9223372036854775808 ≤ z ∧ z ≤ 9223372036854775807
abbrev I64 := { z : Int // InRange z }
def z0 : I64 := ⟨0, by decide, by decide⟩
/-- the numbers of a slice -/
def Ints (n₀ : Nat) (W : World) (sv : Value) (zs : List I64) : Prop :=
  (sv = .slice none 0 0 ∧ zs = []) ∨ ∃ b off cap, sv = .slice (some ⟨b, off, none⟩) zs.length cap ∧ b < n₀ ∧ ∀ j, j < zs.length → W.cell? ⟨b, off + j, none⟩ = some (.int .i64 (zs[j]?.getD z0).1)
theorem Ints.below {n₀ : Nat} {A B : World} (h : Below n₀ A B) {sv : Value} {zs : List I64} : Ints n₀ A sv zs → Ints n₀ B sv zs
  | .inl e => .inl e
  | .inr ⟨b, off, cap, e, hb, hc⟩ => .inr ⟨b, off, cap, e, hb, fun j hj => (h.cell (p := ⟨b, off + j, none⟩) hb).trans (hc j hj)⟩
theorem Ints.wide {n₀ n₁ : Nat} {A : World} (h : n₀ ≤ n₁) {sv : Value} {zs : List I64} : Ints n₀ A sv zs → Ints n₁ A sv zs
  | .inl e => .inl e
  | .inr ⟨b, off, cap, e, hb, hc⟩ => .inr ⟨b, off, cap, e, by omega, hc⟩

theorem most1_any (bm : Nat) (m : Int) (w : World) (hc : w.cell? ⟨bm, 0, none⟩ = some (.int .i64 m)) : Calls Try.prog 27 #[.pointer (some ⟨bm, 0, none⟩)] w fun e w' => e = .returned (.int .i64 m) ∧ Below w.heap.size w w' := by
  go_enter Try.func27, Try.ntmps27
  go_wp2
  go_ret
  exact ⟨rfl, Below.refl _ _⟩

theorem n0_any (n : Int) (hn : InRange n) (w : World) : Calls Try.prog 24 #[.agg #[.int .i64 n, .int .i64 0]] w fun e w' => e = .returned (.int .i64 n) ∧ Below w.heap.size w w' := by
  refine (n_any n 0 w).mono ?_
  rintro e w' ⟨rfl, h⟩
  exact ⟨by rw [Int.sub_zero, IntWalk.wrap64_in n hn], h⟩

theorem mn_self (n : Int) : mn n n = n := by simp [mn]

set_option maxHeartbeats 2000000 in
theorem least_any (b bm : Nat) (n m : Int) (hn : InRange n) (w : World) (hb : b < w.heap.size) (hbm : bm < w.heap.size) (h0 : w.cell? ⟨b, 0, none⟩ = some (.func (.func 24) #[.agg #[.int .i64 n, .int .i64 0]] #[])) (h1 : w.cell? ⟨b, 1, none⟩ = some (.func (.func 27) #[] #[.pointer (some ⟨bm, 0, none⟩)]))
    (hc : w.cell? ⟨bm, 0, none⟩ = some (.int .i64 m)) : Calls Try.prog 26 #[.slice (some ⟨b, 0, none⟩) 2 2] w fun e w' => e = .returned (.int .i64 (mn n m)) ∧ Below w.heap.size w w' := by
  have HN := Lib.hid hn
  clear hn
  have keep : ∀ V : World, Below w.heap.size w V → V.cell? ⟨b, 0, none⟩ = some (.func (.func 24) #[.agg #[.int .i64 n, .int .i64 0]] #[]) ∧ V.cell? ⟨b, 1, none⟩ = some (.func (.func 27) #[] #[.pointer (some ⟨bm, 0, none⟩)]) ∧ V.cell? ⟨bm, 0, none⟩ = some (.int .i64 m) := fun V hV =>
    ⟨(hV.cell (p := ⟨b, 0, none⟩) hb).trans h0, (hV.cell (p := ⟨b, 1, none⟩) hb).trans h1, (hV.cell (p := ⟨bm, 0, none⟩) hbm).trans hc⟩
  have KEEP := Lib.hid keep
  clear keep
  by_cases hlt : m < n
  all_goals
    first
      | (have hmn : mn n m = m := by rw [mn, if_pos hlt])
      | (have hmn : mn n m = n := by rw [mn, if_neg hlt])
    replace hmn := Lib.hid hmn
    go_enter Try.func26, Try.ntmps26
    go_wp2_with fail
    refine (n0_any _ HN.out _).mono ?_
    rintro e w1 ⟨rfl, hb1⟩
    obtain ⟨a0, a1, a2⟩ := KEEP.out w1 hb1
    go_wp2_with fail
    refine wp_loop_rounds 3 ?_
    rw [rounds_succ]
    go_wp2_with fail
    refine (n0_any _ HN.out _).mono ?_
    rintro e w2 ⟨rfl, hb2⟩
    replace hb2 := hb1.trans (hb2.mono hb1.size)
    obtain ⟨d0, d1, d2⟩ := KEEP.out w2 hb2
    go_wp2_with fail
    rw [rounds_succ]
    go_wp2_with fail
    refine (most1_any _ m _ (by assumption)).mono ?_
    rintro e w3 ⟨rfl, hb3⟩
    replace hb3 := hb2.trans (hb3.mono hb2.size)
    go_wp2_with fail
    rw [rounds_succ]
    go_wp2
    go_ret
    exact ⟨by rw [hmn.out]; rfl, hb3⟩

/-- what has come when k rounds are over -/
def upto {α : Type} (f : Nat → α) (k : Nat) : List α := (List.range k).map f
theorem upto_succ {α : Type} (f : Nat → α) (k : Nat) : upto f (k + 1) = upto f k ++ [f k] := by simp [upto, List.range_succ]
theorem upto_length {α : Type} (f : Nat → α) (k : Nat) : (upto f k).length = k := by simp [upto]
theorem upto_all {α : Type} (zs : List α) (d : α) : upto (fun j => zs[j]?.getD d) zs.length = zs := by
  apply List.ext_getElem
  · simp [upto]
  · intro i h1 h2
    simp [upto, h2]

theorem each_any (a : Option Addr) (len cap : Nat) (w : World) : Calls Try.prog 25 #[.slice a len cap] w fun e w' => e = .returned (.func (.func 32) #[] #[.pointer (some ⟨w.heap.size, 0, none⟩)]) ∧ w.alloc (.cells #[.slice a len cap] 24) = w' := by
  go_enter Try.func25, Try.ntmps25
  go_wp2
  go_ret
  exact ⟨rfl, rfl⟩

section
attribute [local go_sem] Oper.semAt_some
set_option maxRecDepth 100000 in
set_option maxHeartbeats 2000000 in
theorem each1_in (n : Nat) (hn : 1 ≤ n) (l Bs n₀ b off len cap : Nat) (zs : List I64) (hreach : len * 8 ≤ 140737488351232) (hb : b < n₀) (J Jx : List I64 → World → Prop)
    (hY : ∀ pre x W, J pre W → pre.length < len → YieldAt Fence.wide (n - 1) Try.prog l #[.int .i64 x.1] W fun e W' =>
      (e = .returned (.bool true) ∧ J (pre ++ [x]) W' ∧ Below n₀ W W') ∨ (e = .returned (.bool false) ∧ Jx (pre ++ [x]) W'))
    (W : World) (hBs : W.cell? ⟨Bs, 0, none⟩ = some (.slice (some ⟨b, off, none⟩) len cap)) (hc : ∀ j, j < len → W.cell? ⟨b, off + j, none⟩ = some (.int .i64 (zs[j]?.getD z0).1)) (h0 : J [] W) :
    CallsIn Fence.wide n Try.prog 32 #[.func (.yield l) #[] #[], .pointer (some ⟨Bs, 0, none⟩)] W fun e W' => (∃ v, e = .returned v) ∧
      ((∃ ys, ys = upto (fun j => zs[j]?.getD z0) len ∧ J ys W') ∨ (∃ pre, (∃ k, k ≤ len ∧ pre = upto (fun j => zs[j]?.getD z0) k) ∧ Jx pre W')) := by
  refine callsIn_of_wp Try.func32 rfl trivial ?_ rfl
  simp only [Try.ntmps32, List.size_toArray, List.length_cons, List.length_nil, Nat.reduceAdd, Nat.reduceSub, Array.replicate_succ, Array.replicate_zero, List.push_toArray, List.append_toArray, List.nil_append, List.cons_append]
  gi_wp2
  refine wpIn_wide.2 (wp_scope_straight ((wpIn_wide (n := n)).1 ?_))
  gi_wp2
  refine wpIn_label ?_
  gi_wp2
  gi_loopw [7] (fun i wr => ∃ k : Nat, k ≤ len ∧ i = .int .i64 k ∧ J (upto (fun j => zs[j]?.getD z0) k) wr ∧ Below n₀ W wr)
    (fun i _ => len - (intOf i).toNat)
  case atStart => exact ⟨0, Nat.zero_le _, rfl, h0, Below.refl _ _⟩
  case round =>
    obtain ⟨k, hk, rfl, hJs, hnx⟩ := hrel
    have hcx : k < len → wr.cell? ⟨b, off + k, none⟩ = some (.int .i64 (zs[k]?.getD z0).1) := fun h => (hnx.cell (p := ⟨b, off + k, none⟩) hb).trans (hc k h)
    by_cases hlt : k < len
    · obtain ⟨fn, tmps, assign, body, hy, hR⟩ := hY _ (zs[k]?.getD z0) wr hJs (by rw [upto_length]; exact hlt)
      have hcx' := hcx hlt
      gi_wp2
      refine hR.mono ?_
      rintro e W3 (⟨rfl, hJ3, hk3⟩ | ⟨rfl, hJx3⟩)
      · gi_wp2
        go_roundw
        case rel => exact ⟨k + 1, by omega, by simp, by rw [upto_succ]; exact hJ3, hnx.trans hk3⟩
        case measure => simp [intOf]; omega
      · gi_wp2
        rw [Exit.noGoto_normal]
        refine bodyPost_end (results_none rfl _ _ _) rfl ?_
        exact ⟨⟨_, rfl⟩, .inr ⟨_, ⟨k + 1, by omega, (upto_succ _ _).symm⟩, hJx3⟩⟩
    · obtain rfl : k = len := by omega
      gi_wp2
      rw [Exit.noGoto_normal]
      refine bodyPost_end (results_none rfl _ _ _) rfl ?_
      exact ⟨⟨_, rfl⟩, .inl ⟨_, rfl, hJs⟩⟩

set_option maxRecDepth 100000 in
set_option maxHeartbeats 1000000 in
theorem each1_nil_in (n : Nat) (l Bs : Nat) (J : List I64 → World → Prop) (W : World) (hBs : W.cell? ⟨Bs, 0, none⟩ = some (.slice none 0 0)) (h0 : J [] W) :
    CallsIn Fence.wide n Try.prog 32 #[.func (.yield l) #[] #[], .pointer (some ⟨Bs, 0, none⟩)] W fun e W' => (∃ v, e = .returned v) ∧ J [] W' := by
  refine callsIn_of_wp Try.func32 rfl trivial ?_ rfl
  simp only [Try.ntmps32, List.size_toArray, List.length_cons, List.length_nil, Nat.reduceAdd, Nat.reduceSub, Array.replicate_succ, Array.replicate_zero, List.push_toArray, List.append_toArray, List.nil_append, List.cons_append]
  gi_wp2
  refine wpIn_wide.2 (wp_scope_straight ((wpIn_wide (n := n)).1 ?_))
  gi_wp2
  refine wpIn_label ?_
  gi_wp2
  gi_loopw [7] (fun i wr => i = .int .i64 0 ∧ J [] wr) (fun _ _ => 0)
  case atStart => exact ⟨rfl, h0⟩
  case round =>
    obtain ⟨rfl, hJs⟩ := hrel
    gi_wp2
    rw [Exit.noGoto_normal]
    refine bodyPost_end (results_none rfl _ _ _) rfl ?_
    exact ⟨⟨_, rfl⟩, hJs⟩

theorem upto_take {α : Type} (zs : List α) (d : α) {k : Nat} (hk : k ≤ zs.length) : upto (fun j => zs[j]?.getD d) k = zs.take k := by
  apply List.ext_getElem
  · simp [upto, hk]
  · intro i h1 h2
    have : i < zs.length := by simp [upto] at h1; omega
    simp [upto, this]

theorem each_stops (n : Nat) (hn : 1 ≤ n) (Bs n₀ : Nat) (sv : Value) (zs : List I64) (hreach : zs.length * 8 ≤ 140737488351232) (w : World) (hBs : Bs < w.heap.size) (hn₀ : n₀ ≤ w.heap.size)
    (hc : w.cell? ⟨Bs, 0, none⟩ = some sv) (hI : Ints n₀ w sv zs) :
    SeqStopsK Fence.wide n Try.prog 32 #[.pointer (some ⟨Bs, 0, none⟩)] (fun x : I64 => #[Value.int .i64 x.1]) (Below n₀) (fun ys => ys = zs) (fun pre => pre <+: zs) zs.length w := fun l J Jx W hW _ _ hY h0 => by
  have hc' := (hW.cell (p := ⟨Bs, 0, none⟩) hBs).trans hc
  rcases hI.below (hW.mono hn₀) with ⟨rfl, rfl⟩ | ⟨b, off, cap, rfl, hb, hcs⟩
  · exact (each1_nil_in n l Bs J W hc' h0).mono fun e W' ⟨he, hj⟩ => ⟨he, .inl ⟨_, rfl, hj⟩⟩
  · refine (each1_in n hn l Bs n₀ b off zs.length cap zs hreach hb J Jx hY W hc' hcs h0).mono ?_
    rintro e W' ⟨he, ⟨ys, rfl, hj⟩ | ⟨pre, ⟨k, hk, rfl⟩, hj⟩⟩
    · exact ⟨he, .inl ⟨_, upto_all zs z0, hj⟩⟩
    · exact ⟨he, .inr ⟨_, by rw [upto_take zs z0 hk]; exact List.take_prefix _ _, hj⟩⟩

/-- what Most computes -/
def foldM (n : Int) (zs : List I64) : Int := zs.foldl (fun a z => mn a z.1) n
def mostS (g s : Int) (zs : List I64) : Int := mx (foldM (leftS g s) zs) 0
theorem foldM_snoc (n : Int) (pre : List I64) (x : I64) : foldM n (pre ++ [x]) = mn (foldM n pre) x.1 := by simp [foldM]
theorem mn_range {a b : Int} (ha : InRange a) (hb : InRange b) : InRange (mn a b) := by unfold mn; split <;> assumption
theorem foldM_range : ∀ (zs : List I64) (n : Int), InRange n → InRange (foldM n zs)
  | [], _, h => h
  | z :: zs, n, h => foldM_range zs (mn n z.1) (mn_range h z.2)
theorem leftS_range (g s : Int) : InRange (leftS g s) := by
  unfold leftS
  split
  · unfold InRange wrap64; omega
  · exact z0.2
theorem foldM_zero : ∀ (zs : List I64) (n : Int), n ≤ 0 → foldM n zs ≤ 0
  | [], _, h => h
  | z :: zs, n, h => foldM_zero zs (mn n z.1) (by unfold mn; split <;> omega)

end
end Go.Proofs.Ytbajhnmgimggfaa
