/-
  The walk of the law CreditMost.
-/
import Derived.Test.YtbajhnmgimggfaaTells
import Derived.Test.YtbajhnmgimggfaaParts
namespace Go.Proofs.Ytbajhnmgimggfaa
open Go.RowKit Go.Shelf

theorem foldM_le : ∀ (ys : List I64) (n : Int), foldM n ys ≤ n
  | [], _ => Int.le_refl _
  | y :: ys, n => Int.le_trans (foldM_le ys (mn n y.1)) (by unfold mn; split <;> omega)
theorem foldM_mem : ∀ (ys : List I64) (n : Int) (k : Nat), k < ys.length → foldM n ys ≤ (ys[k]?.getD z0).1
  | [], _, _, h => by simp at h
  | y :: ys, n, 0, _ => Int.le_trans (foldM_le ys (mn n y.1)) (by unfold mn; simp; split <;> omega)
  | y :: ys, n, k + 1, h => by
    have h1 := foldM_mem ys (mn n y.1) k (by simpa using h)
    simp only [List.getElem?_cons_succ]
    exact h1
theorem most_ok {g s : Int} (hr : rightB g s = true) (ys : List I64) : (chgS g s 0 (mostS g s ys)).2 = 0 := by
  have h := (right_iff g s).1 hr
  have h1 := foldM_le ys (leftS g s)
  rw [left_right hr] at h1
  have h2 : 0 ≤ mostS g s ys ∧ mostS g s ys ≤ g - s := by
    unfold mostS mx
    rw [left_right hr]
    split <;> omega
  rw [spend_ok h h2.1, if_neg (by omega)]
theorem most_wrong {g s : Int} (hr : rightB g s = false) (ys : List I64) : (chgS g s 0 (mostS g s ys)).2 = 2 ∧ mostS g s ys = 0 := by
  refine ⟨by rw [chg_bad hr], ?_⟩
  have h1 := foldM_zero ys (leftS g s) (by unfold leftS; rw [hr]; simp)
  unfold mostS mx
  split <;> omega
theorem most_mem (g s : Int) (ys : List I64) : ∀ k, k < ys.length → 0 < mostS g s ys → ¬ (ys[k]?.getD z0).1 < mostS g s ys := fun k hk h0 => by
  have h1 := foldM_mem ys (leftS g s) k hk
  revert h0
  unfold mostS mx
  split <;> intro h0 <;> omega
theorem most_end (g s : Int) (ys : List I64) : mostS g s ys = foldM (leftS g s) ys ∨ (mostS g s ys = 0 ∧ foldM (leftS g s) ys < 0) := by
  unfold mostS mx
  split <;> omega

set_option maxRecDepth 100000 in
set_option maxHeartbeats 8000000 in
theorem mostlaw_walk (g s : Int) (a : Option Addr) (len cap : Nat) (zs : List I64) (w : World) (hlen : len ≤ cap) (hz : zs.length ≤ 9223372036854775807) (hI : Ints w.heap.size w (.slice a len cap) zs) :
    Calls Try.prog 7 #[.agg #[.int .i64 g, .int .i64 s], .slice a len cap] w fun e w' => e = .returned (.bool true) ∧ Below w.heap.size w w' := by
  have HI := Lib.hid hI
  have HL := Lib.hid hlen
  have HZ := Lib.hid hz
  clear hI hlen hz
  have h20 : (zs.take 20).length ≤ 20 := by simp; omega
  replace h20 := Lib.hid h20
  have hB := Below.refl w.heap.size w
  go_enter Try.func7, Try.ntmps7
  go_wp2_with fail
  refine (shown_any _).mono ?_
  rintro e w1 ⟨rfl, hb⟩
  have bA := Box2.fresh hb
  replace hB := bstep hB hb
  clear hb
  have c0bA := bA.1
  have c1bA := bA.2
  have zbA := cell_lt bA.1
  go_wp2_with fail
  clear c0bA c1bA zbA
  refine (few_any _ _ _ zs _ HL.out HZ.out (Ints.wide hB.size (Ints.below hB HI.out))).mono ?_
  rintro e w2 ⟨⟨len', cap', rfl, hJ⟩, rfl⟩
  clear HI HL HZ
  generalize zs.take 20 = ys at hJ h20
  have hl : len' = ys.length := by rcases hJ with ⟨h, rfl⟩ | ⟨b, off, c, h, hb, hc⟩ <;> cases h <;> rfl
  subst hl
  have c0bA := bA.1
  have c1bA := bA.2
  have zbA := cell_lt bA.1
  go_wp2_with fail
  clear c0bA c1bA zbA
  refine (most_any _ _ _ _ _ ys (by have := h20.out; omega) _ hJ).mono ?_
  rintro e w3 ⟨rfl, hb⟩
  replace bA := bA.below hb
  replace hJ := hJ.call hb
  replace hB := bcall hB hb
  clear hb
  have c0bA := bA.1
  have c1bA := bA.2
  have zbA := cell_lt bA.1
  go_wp2_with fail
  clear c0bA c1bA zbA
  refine (spend_any _ _ _ _).mono ?_
  rintro e w4 ⟨rfl, hb⟩
  replace bA := bA.below hb
  replace hJ := hJ.call hb
  replace hB := bcall hB hb
  clear hb
  simp only [cr]
  have c0bA := bA.1
  have c1bA := bA.2
  have zbA := cell_lt bA.1
  go_wp2_with fail
  clear c0bA c1bA zbA
  refine (right_any _ _ _).mono ?_
  rintro e w5 ⟨rfl, hb⟩
  replace bA := bA.step hb
  replace hJ := hJ.step hb
  have b7 := Box2.fresh hb
  replace hB := bstep hB hb
  clear hb
  clear b7
  rcases Bool.eq_false_or_eq_true (rightB g s) with hr | hr
  · have hE := most_ok hr ys
    have hP := most_mem g s ys
    have hQ := most_end g s ys
    rw [hr, hE]
    clear hE hr
    generalize mostS g s ys = N at hP hQ ⊢
    replace hP := Lib.hid hP
    replace hQ := Lib.hid hQ
    have c0bA := bA.1
    have c1bA := bA.2
    go_wp2_with fail
    refine (cleft_any _ _ _).mono ?_
    rintro e w6 ⟨rfl, hb⟩
    clear c0bA c1bA bA
    replace hJ := hJ.call hb
    replace hB := bcall hB hb
    clear hb
    generalize leftS g s = L0 at hQ ⊢
    have HI1 := Lib.hid hJ
    clear hJ
    go_wp2_with fail
    go_loop [9, 10] (fun n i => ∃ k : Nat, k ≤ ys.length ∧ i = .int .i64 k ∧ n = .int .i64 (foldM L0 (ys.take k))) (fun _ i => ys.length - (intOf i).toNat)
    case atStart => exact ⟨0, Nat.zero_le _, rfl, rfl⟩
    case round =>
      obtain ⟨k, hk, rfl, rfl⟩ := hrel
      by_cases hlt : k < ys.length
      · have hPk := hP.out k hlt
        clear hP hQ
        rcases HI1.out with ⟨h, rfl⟩ | ⟨b, off, c, h, hb, hc⟩
        · simp at hlt
        cases h
        have hck := hc k hlt
        clear hc HI1
        have h20' := h20.out
        have hs : foldM L0 (ys.take (k + 1)) = mn (foldM L0 (ys.take k)) (ys[k]?.getD z0).1 := by
          rw [List.take_succ_eq_append_getElem hlt, foldM_snoc, List.getElem?_eq_getElem hlt]; rfl
        generalize (ys[k]?.getD z0).1 = z at hck hs hPk
        replace hs := Lib.hid hs
        by_cases hN : 0 < N
        · have hzN := hPk hN
          clear hPk
          by_cases hm : z < foldM L0 (ys.take k)
          · go_wp2
            go_round
            case rel => exact ⟨k + 1, by omega, by go_num, by rw [hs.out, mn, if_pos hm]⟩
            case measure => simp [intOf]; omega
          · go_wp2
            go_round
            case rel => exact ⟨k + 1, by omega, by go_num, by rw [hs.out, mn, if_neg hm]⟩
            case measure => simp [intOf]; omega
        · clear hPk
          by_cases hm : z < foldM L0 (ys.take k)
          · go_wp2
            go_round
            case rel => exact ⟨k + 1, by omega, by go_num, by rw [hs.out, mn, if_pos hm]⟩
            case measure => simp [intOf]; omega
          · go_wp2
            go_round
            case rel => exact ⟨k + 1, by omega, by go_num, by rw [hs.out, mn, if_neg hm]⟩
            case measure => simp [intOf]; omega
      · obtain rfl : k = ys.length := by omega
        rw [List.take_length]
        clear HI1 hP hk hlt
        have hQ' := hQ.out
        clear hQ
        generalize foldM L0 ys = M at hQ' ⊢
        rcases hQ' with rfl | ⟨rfl, hM⟩
        · go_wp2
          go_ret
          exact ⟨by simp, hB⟩
        · have hM2 : ¬ 0 = M := by omega
          go_wp2
          go_ret
          exact ⟨by simp, hB⟩
  · obtain ⟨hE, hN⟩ := most_wrong hr ys
    rw [hr, hE, hN]
    clear hE hN bA hJ
    go_wp2
    go_ret
    exact ⟨by simp, by assumption⟩
end Go.Proofs.Ytbajhnmgimggfaa
