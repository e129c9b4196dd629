/-
  The walks of credit's Most, of the document's Most, of few.
-/
import Derived.Test.YtbajhnmgimggfaaW4
namespace Go.Proofs.Ytbajhnmgimggfaa
open Go.RowKit Go.Shelf
section
attribute [local go_sem] Oper.semAt_some

theorem keeps_of_below {B : Nat} {W W' : World} (h : Below W.heap.size W W') : KeepsFrom B W W' :=
  ⟨h.size, fun k _ _ hk _ => (h.block k (Array.getElem?_eq_some_iff.1 hk).1).trans hk⟩
theorem boxed_below {W W' : World} {B : Nat} {t : TypeId} {v : Value} (h : Boxed W B t v) (hb : Below W.heap.size W W') : Boxed W' B t v := (hb.block B h.lt).trans h

set_option maxRecDepth 100000 in
set_option maxHeartbeats 4000000 in
theorem most_any (g s : Int) (a : Option Addr) (len cap : Nat) (zs : List I64) (hreach : zs.length * 8 ≤ 140737488351232) (w : World) (hI : Ints w.heap.size w (.slice a len cap) zs) :
    Calls Try.prog 17 #[.agg #[.int .i64 g, .int .i64 s], .slice a len cap] w fun e w' => e = .returned (.int .i64 (mostS g s zs)) ∧ Below w.heap.size w w' := by
  have HI := Lib.hid hI
  clear hI
  refine (callsIn_wide (n := 9)).1 ?_
  refine callsIn_of_wp_marks Try.func17 rfl trivial ?_ rfl
  simp only [Try.ntmps17, List.size_toArray, List.length_cons, List.length_nil, Nat.reduceAdd, Nat.reduceSub, Array.replicate_succ, Array.replicate_zero, List.push_toArray, List.append_toArray, List.nil_append, List.cons_append]
  gi_wp2_with fail
  refine ⟨trivial, ?_⟩
  refine (callsIn_wide.2 (right_any _ _ _)).mono ?_
  rintro e w1 ⟨rfl, hb⟩
  obtain ⟨c0, c1, f0, f1, hB, hz⟩ := box_kept (w := w) (b := w.heap.size) hb (by simp) (x := .int .i64 g) (y := .int .i64 s) (by simp [go_sem]) (by simp [go_sem]) (by simp [go_sem]) (by simp [go_sem]) (by repeat (first | exact Below.refl _ _ | assumption | refine ba ?_ _ | refine Below.setCell ?_ (by simp; try omega) _))
  clear hb hz
  cases hr : rightB g s
  · have e : mostS g s zs = 0 := by
      have h0 : leftS g s = 0 := by rw [leftS, if_neg (by rw [hr]; simp)]
      have h1 := foldM_zero zs 0 (by omega)
      rw [mostS, h0, mx]
      split <;> omega
    replace e := Lib.hid e
    clear hr
    gi_wp2
    exact ⟨_, results_tmp rfl _ _ _, by rw [e.out]; rfl, hB⟩
  have hl : wrap64 (g - s) = leftS g s := by rw [leftS, if_pos hr]
  replace hl := Lib.hid hl
  clear hr
  gi_wp2_with fail
  refine ⟨trivial, ?_⟩
  refine (callsIn_wide.2 (n_any _ _ _)).mono ?_
  rintro e w2 ⟨rfl, hb⟩
  rw [hl.out]
  have hB2 : Below w.heap.size w w2 := hB.trans (hb.mono hB.size)
  clear hb hl c0 c1 f0 f1 hB
  gi_wp2_with fail
  refine ⟨trivial, ?_⟩
  refine (callsIn_wide.2 (each_any _ _ _ _)).mono ?_
  rintro e w3 ⟨rfl, rfl⟩
  gi_wp2_with fail
  have hs0 := leftS_range g s
  have hrange : ∀ pre, InRange (foldM (leftS g s) pre) := fun pre => foldM_range pre _ hs0
  clear hs0
  have HR := Lib.hid hrange
  clear hrange
  have bN := (Boxed.new w2 3 (.int .i64 (leftS g s))).alloc (.cells #[.slice a len cap] 24)
  have bE := Boxed.new (w2.alloc (.cells #[.int .i64 (leftS g s)] 3)) 24 (.slice a len cap)
  rw [World.size_alloc] at bE
  have hB0 : Below w.heap.size w ((w2.alloc (.cells #[.int .i64 (leftS g s)] 3)).alloc (.cells #[.slice a len cap] 24)) := ba (ba hB2 _) _
  have hsz : ((w2.alloc (.cells #[.int .i64 (leftS g s)] 3)).alloc (.cells #[.slice a len cap] 24)).heap.size = w2.heap.size + 2 := by simp
  obtain ⟨W0, hW0⟩ : ∃ W0, (w2.alloc (.cells #[.int .i64 (leftS g s)] 3)).alloc (.cells #[.slice a len cap] 24) = W0 := ⟨_, rfl⟩
  rw [hW0] at bN bE hB0 hsz ⊢
  clear hW0
  have hwz : w.heap.size ≤ w2.heap.size := hB2.size
  have hI0 : Ints w.heap.size W0 (.slice a len cap) zs := HI.out.below hB0
  have HI0 := Lib.hid hI0
  clear hI0
  refine wpIn_rangeFunc_ownH rfl (by omega) (gf := 32) (lb := #[.pointer (some ⟨w2.heap.size + 1, 0, none⟩)]) rfl trivial (enters_of Try.func32 (by kernel_rfl) rfl)
    (each_stops (9 - 1) (by omega) (w2.heap.size + 1) w.heap.size (.slice a len cap) zs hreach W0 (by omega) (by omega) bE.cell HI0.out) belowK_t (belowK_b (by omega)) (Below.refl _ _) (fun _ => rfl)
    (fun pre W => Boxed W w2.heap.size 3 (.int .i64 (foldM (leftS g s) pre)) ∧ Below w.heap.size w W)
    (fun _ _ _ => False)
    (OwnFrom.and (Own.from (boxed_own _ _ _) _) (ownFrom_below (Nat.le_refl _) (by omega)))
    (fun _ _ _ _ _ hs _ _ => hs)
    ⟨bN, hB0⟩
    (fun x a' W => ∃ Bx, w2.heap.size < Bx ∧ Boxed W Bx 3 (.int .i64 x.1) ∧ a' = { tmps := #[.agg #[.int .i64 g, .int .i64 s], .slice a len cap, .pointer (some ⟨w.heap.size, 0, none⟩), undef, .int .i64 0, .pointer (some ⟨w2.heap.size, 0, none⟩), .pointer (some ⟨Bx, 0, none⟩), .agg #[.int .i64 g, .int .i64 s], .bool true, .bool false, .agg #[.int .i64 g, .int .i64 s], .agg #[.int .i64 g, .int .i64 s], .int .i64 (leftS g s), .slice a len cap, .func (.func 32) #[] #[.pointer (some ⟨w2.heap.size + 1, 0, none⟩)], .int .i64 x.1, undef, undef, undef, undef, undef, undef, undef, undef, undef], defers := [] })
    (fun x a' _ X Y row hs hg hr => by obtain ⟨Bx, h1, h2, h3⟩ := hs; exact ⟨Bx, h1, boxed_own Bx 3 (fun (_ : Unit) => Value.int .i64 x.1) () X Y row h2 hg (fun r e => (hr r e).2), h3⟩)
    ?assign ?body ?done ?stop
  case assign =>
    rintro l pre x W K ⟨bN1, hB1⟩ hK
    gi_wp2
    exact hK _ _ ((KeepsOthers.alloc _ _).from _) ((Below.refl _ W).alloc hB1.size _) ⟨bN1.alloc _, ba hB1 _⟩ ⟨W.heap.size, bN1.lt, Boxed.new W 3 _, rfl⟩
  case body =>
    rintro l pre x a' W hl ⟨r, hr⟩ ⟨bN1, hB1⟩ ⟨Bx, hBx, bX, rfl⟩ hlt
    have cN := bN1.cell
    gi_wp2_with fail
    refine ⟨trivial, ?_⟩
    have bXW := bX.lt
    refine (CallsIn.inRound l (callsIn_wide.2 (least_any W.heap.size Bx (foldM (leftS g s) pre) x.1 (HR.out pre) _ (by simp) (by simp; omega) (by simp [go_sem]) (by simp [go_sem]) (bX.alloc _).cell))).mono ?_
    rintro e w3 ⟨rfl, hb⟩
    rw [← foldM_snoc]
    have hA : Below W.heap.size W (W.alloc (.cells #[.func (.func 24) #[.agg #[.int .i64 (foldM (leftS g s) pre), .int .i64 0]] #[], .func (.func 27) #[] #[.pointer (some ⟨Bx, 0, none⟩)]] 44)) := ba (Below.refl _ _) _
    have hb3 : Below W.heap.size W w3 := hA.trans (hb.mono (by simp))
    have bN3 := boxed_below bN1 hb3
    have cN3 := bN3.cell
    have fN3 := bN3.frozen
    clear hb hA
    gi_wp2
    have k1 : KeepsFrom W0.heap.size W (w3.setCell ⟨w2.heap.size, 0, none⟩ (.int .i64 (foldM (leftS g s) (pre ++ [x])))) := (keeps_of_below hb3).trans ((KeepsOthers.setCell _ _ _).from _)
    have k2 : Below w.heap.size W (w3.setCell ⟨w2.heap.size, 0, none⟩ (.int .i64 (foldM (leftS g s) (pre ++ [x])))) := Below.setCell (hb3.mono hB1.size) (p := ⟨w2.heap.size, 0, none⟩) hwz _
    exact ⟨k1, k2, bN3.set _, hB1.trans k2⟩
  case done =>
    rintro D ys W hD rfl ⟨bN1, hB1⟩ hK
    have cN := bN1.cell
    by_cases hp : foldM (leftS g s) ys < 0
    · have e : mostS g s ys = 0 := by rw [mostS, mx, if_pos hp]
      replace e := Lib.hid e
      gi_wp2
      refine ⟨by simp, .inl ⟨_, _, rfl, run_takeDeferred hK, ?_⟩⟩
      exact ⟨_, results_tmp rfl _ _ _, by rw [e.out]; rfl, hB1.trans (belowK_b (w := w) (Nat.le_refl _) W D _ _ (by omega) hK rfl rfl)⟩
    · have e : mostS g s ys = foldM (leftS g s) ys := by rw [mostS, mx, if_neg (by omega)]
      replace e := Lib.hid e
      gi_wp2
      refine ⟨by simp, .inl ⟨_, _, rfl, run_takeDeferred hK, ?_⟩⟩
      exact ⟨_, results_tmp rfl _ _ _, by rw [e.out]; rfl, hB1.trans (belowK_b (w := w) (Nat.le_refl _) W D _ _ (by omega) hK rfl rfl)⟩
  case stop =>
    rintro D c pre W _ _ h _
    exact h.elim
end

theorem few_any (a : Option Addr) (len cap : Nat) (zs : List I64) (w : World) (hlen : len ≤ cap) (hz : zs.length ≤ 9223372036854775807) (hI : Ints w.heap.size w (.slice a len cap) zs) :
    Calls Try.prog 10 #[.slice a len cap] w fun e w' => (∃ len' cap', e = .returned (.slice a len' cap') ∧ Ints w.heap.size w (.slice a len' cap') (zs.take 20)) ∧ w = w' := by
  rcases hI with ⟨h, rfl⟩ | ⟨b, off, c, h, hb, hc⟩
  · cases h
    go_enter Try.func10, Try.ntmps10
    go_wp2
    go_ret
    exact ⟨⟨_, _, rfl, .inl ⟨rfl, rfl⟩⟩, rfl⟩
  · cases h
    have HC := Lib.hid hc
    clear hc
    by_cases h20 : zs.length ≤ 20
    · go_enter Try.func10, Try.ntmps10
      go_wp2
      go_ret
      exact ⟨⟨_, _, rfl, .inr ⟨b, off, cap, by rw [List.take_of_length_le (by omega)], hb, by rw [List.take_of_length_le (by omega)]; exact HC.out⟩⟩, rfl⟩
    · go_enter Try.func10, Try.ntmps10
      go_wp2
      go_ret
      refine ⟨⟨20, _, rfl, .inr ⟨b, off, _, by rw [List.length_take, Nat.min_eq_left (by omega)], hb, fun j hj => ?_⟩⟩, rfl⟩
      rw [List.length_take] at hj
      rw [List.getElem?_take_of_lt (by omega)]
      exact HC.out j (by omega)

set_option maxHeartbeats 1000000 in
theorem rmost_any (g s : Int) (a : Option Addr) (len cap : Nat) (zs : List I64) (hreach : zs.length * 8 ≤ 140737488351232) (w : World) (hI : Ints w.heap.size w (.slice a len cap) zs) :
    Calls Try.prog 18 #[.agg #[.int .i64 g, .int .i64 s], .slice a len cap] w fun e w' => e = .returned (.int .i64 (mostS g s zs)) ∧ Below w.heap.size w w' := by
  have hl : len = zs.length := by rcases hI with ⟨h, rfl⟩ | ⟨b, off, c, h, hb, hc⟩ <;> cases h <;> rfl
  have HI := Lib.hid hI
  clear hI
  have E0 : ∀ q, foldM (leftS g s) zs < 0 → q = mostS g s zs → q = 0 := fun q hq e => by rw [e, mostS, mx, if_pos hq]
  have E1 : ¬ foldM (leftS g s) zs < 0 → mostS g s zs = foldM (leftS g s) zs := fun hq => by rw [mostS, mx, if_neg (by omega)]
  replace E0 := Lib.hid E0
  replace E1 := Lib.hid E1
  go_enter Try.func18, Try.ntmps18
  go_wp2_with fail
  refine (rleft_any _ _ _).mono ?_
  rintro e w1 ⟨rfl, hb⟩
  have hB : Below w.heap.size w w1 := Below.trans (by repeat (first | exact Below.refl _ _ | assumption | refine ba ?_ _ | refine Below.setCell ?_ (by simp; try omega) _)) (hb.mono (by simp))
  clear hb
  have HI1 := HI.out.below hB
  go_wp2_with fail
  go_loop [5, 6] (fun n i => ∃ k : Nat, k ≤ zs.length ∧ i = .int .i64 k ∧ n = .int .i64 (foldM (leftS g s) (zs.take k))) (fun _ i => zs.length - (intOf i).toNat)
  case atStart => exact ⟨0, Nat.zero_le _, rfl, rfl⟩
  case round =>
    obtain ⟨k, hk, rfl, rfl⟩ := hrel
    by_cases hlt : k < zs.length
    · rcases HI1 with ⟨h, rfl⟩ | ⟨b, off, c, h, hb, hc⟩
      · simp at hlt
      cases h
      have hck := hc k hlt
      clear hc
      have hs : foldM (leftS g s) (zs.take (k + 1)) = mn (foldM (leftS g s) (zs.take k)) (zs[k]?.getD z0).1 := by
        rw [List.take_succ_eq_append_getElem hlt, foldM_snoc, List.getElem?_eq_getElem hlt]; rfl
      generalize (zs[k]?.getD z0).1 = z at hck hs
      replace hs := Lib.hid hs
      by_cases hm : z < foldM (leftS g s) (zs.take k)
      · go_wp2
        go_round
        case rel => exact ⟨k + 1, by omega, by go_num, by rw [hs.out, mn, if_pos hm]⟩
        case measure => simp [intOf]; omega
      · go_wp2
        go_round
        case rel => exact ⟨k + 1, by omega, by go_num, by rw [hs.out, mn, if_neg hm]⟩
        case measure => simp [intOf]; omega
    · obtain rfl : k = zs.length := by omega
      rw [List.take_length]
      clear HI1
      by_cases hp : foldM (leftS g s) zs < 0
      · subst hl
        go_wp2
        go_ret
        exact ⟨by rw [E0.out _ hp rfl]; rfl, hB⟩
      · subst hl
        go_wp2
        go_ret
        exact ⟨by rw [E1.out hp]; rfl, hB⟩
end Go.Proofs.Ytbajhnmgimggfaa
