/-
  The walk of the law CreditNever.
-/
import Derived.Test.YtbajhnmgimggfaaMost
import Derived.Deep.LoopGhost
namespace Go.Proofs.Ytbajhnmgimggfaa
open Go.RowKit Go.Shelf

theorem Ints.narrow {n m : Nat} {W W1 : World} {a : Option Addr} {len cap len' cap' : Nat} {zs ys : List I64} (hI : Ints n W (.slice a len cap) zs) (hJ : Ints m W1 (.slice a len' cap') ys) : Ints n W1 (.slice a len' cap') ys := by
  rcases hJ with ⟨h, rfl⟩ | ⟨b, off, c, h, hb, hc⟩
  · exact .inl ⟨h, rfl⟩
  · rcases hI with ⟨h', rfl⟩ | ⟨b', off', c', h', hb', hc'⟩
    · cases h'; cases h
    · cases h'; cases h
      exact .inr ⟨b, off, _, rfl, hb', hc⟩

theorem Ints.move {n : Nat} {w A B : World} {sv : Value} {zs : List I64} (h : Ints n A sv zs) (hA : Below n w A) (hB : Below n w B) : Ints n B sv zs := by
  rcases h with e | ⟨b, off, cap, e, hb, hc⟩
  · exact .inl e
  · exact .inr ⟨b, off, cap, e, hb, fun j hj => ((hB.cell (p := ⟨b, off + j, none⟩) hb).trans (hA.cell (p := ⟨b, off + j, none⟩) hb).symm).trans (hc j hj)⟩

def BoxF (W : World) (b : Nat) (p : Int × Int) : Prop := (W.cell? ⟨b, 0, none⟩ = some (.int .i64 p.1) ∧ W.cell? ⟨b, 1, none⟩ = some (.int .i64 p.2)) ∧ (W.frozen? ⟨b, 0, none⟩ = false ∧ W.frozen? ⟨b, 1, none⟩ = false)
theorem BoxF.below {W W' : World} {b : Nat} {p : Int × Int} (h : BoxF W b p) (hb : Below W.heap.size W W') : BoxF W' b p := by
  obtain ⟨a1, a2, a3, a4⟩ := box4g hb h.1.1 h.1.2 h.2.1 h.2.2
  exact ⟨⟨a1, a2⟩, a3, a4⟩
def Fz (w : World) (b : Nat) (W : World) : Prop := Below w.heap.size w W ∧ (W.frozen? ⟨b, 0, none⟩ = false ∧ W.frozen? ⟨b, 1, none⟩ = false)
/-- what a region of the round leaves alone: the credit's box, the number at hand -/
def Nv (w : World) (b : Nat) (g s : Int) (a : Addr) (z : Int) (W : World) : Prop :=
  ((W.cell? ⟨b, 0, none⟩ = some (.int .i64 g) ∧ W.cell? ⟨b, 1, none⟩ = some (.int .i64 s)) ∧ W.cell? a = some (.int .i64 z)) ∧ Fz w b W
def Nlt (w : World) (b : Nat) (a : Addr) (n : Nat) : Prop := b < n ∧ a.block < n ∧ w.heap.size ≤ n
section
variable {w W W' : World} {b : Nat} {g s z : Int} {a : Addr}
theorem cell_lt' {W : World} {a : Addr} {x : Value} (h : W.cell? a = some x) : a.block < W.heap.size := World.block_lt_of_cell? W _ h
theorem Nv.lt (h : Nv w b g s a z W) : Nlt w b a W.heap.size := ⟨cell_lt h.1.1.1, cell_lt' h.1.2, h.2.1.size⟩
theorem Nv.box (h : Nv w b g s a z W) : BoxF W b (g, s) := ⟨h.1.1, h.2.2⟩
theorem Nv.bel (hb : Below W.heap.size W W') (h : Nv w b g s a z W) : Nv w b g s a z W' :=
  ⟨⟨(h.box.below hb).1, (hb.cell (p := a) (cell_lt' h.1.2)).trans h.1.2⟩, bcall h.2.1 hb, (h.box.below hb).2⟩
theorem Nv.drew (h : Nv w b g s a z W) : Nv w b g s a z W.drew := Nv.bel (Below.refl _ _).drew h
theorem Nv.alloc (h : Nv w b g s a z W) (o : Obj) : Nv w b g s a z (W.alloc o) := Nv.bel ((Below.refl _ _).alloc (Nat.le_refl _) o) h
theorem Nlt.up {n m : Nat} (h : Nlt w b a n) (hm : n ≤ m) : Nlt w b a m := ⟨Nat.lt_of_lt_of_le h.1 hm, Nat.lt_of_lt_of_le h.2.1 hm, Nat.le_trans h.2.2 hm⟩
/-- all blocks below n are as they were -/
theorem Nv.same {n : Nat} (h : Nv w b g s a z W) (lt : Nlt w b a n) (hb : Below w.heap.size w W') (hs : ∀ k, k < n → W'.heap[k]? = W.heap[k]?) : Nv w b g s a z W' := by
  obtain ⟨⟨⟨a1, a2⟩, a3⟩, _, f1, f2⟩ := h
  obtain ⟨l1, l2, l3⟩ := lt
  have k : ∀ (x : Addr), x.block < n → W'.cell? x = W.cell? x := fun x hx => by unfold World.cell?; rw [hs _ hx]
  have kf : ∀ (x : Addr), x.block < n → W'.frozen? x = W.frozen? x := fun x hx => by unfold World.frozen?; rw [hs _ hx]
  exact ⟨⟨⟨(k _ l1).trans a1, (k _ l1).trans a2⟩, (k _ l2).trans a3⟩, hb, (kf _ l1).trans f1, (kf _ l1).trans f2⟩
theorem Nv.set {d o : Nat} {v : Value} {n : Nat} (h : Nv w b g s a z W) (lt : Nlt w b a n) (hd : n ≤ d) : Nv w b g s a z (W.setCell ⟨d, o, none⟩ v) :=
  h.same lt (h.2.1.setCell (Nat.le_trans lt.2.2 hd) _) (fun k hk => Below.heap_setCell _ _ _ _ (by simp; omega))
theorem Nv.realloc {x o : Obj} {n : Nat} (h : Nv w b g s a z (W.alloc x)) (lt : Nlt w b a n) (hn : n ≤ W.heap.size) : Nv w b g s a z (W.alloc o) := by
  have e : ∀ k, k < n → (W.alloc o).heap[k]? = (W.alloc x).heap[k]? := fun k hk => by rw [Below.heap_alloc _ _ _ (by omega), Below.heap_alloc _ _ _ (by omega)]
  refine h.same lt ⟨h.2.1.os, h.2.1.tape, h.2.1.output, by have := h.2.1.size; simpa using this, fun k hk => ?_⟩ e
  rw [e k (by have := lt.2.2; omega)]
  exact h.2.1.block k hk
end

theorem new_bad {n : Int} (h : n < 0 ∨ 65536 < n) : newS n = ((0, 0), 2) ∧ rightB n 0 = false := by
  refine ⟨by rw [newS, if_pos h], ?_⟩
  rw [right_not]; omega
theorem new_good {n : Int} (h : ¬ (n < 0 ∨ 65536 < n)) : newS n = ((n, 0), 0) := by rw [newS, if_neg h]
theorem k_next {k m : Nat} (h : (k : Int) < (m : Int)) (h20 : m ≤ 20) : wrap64 ((k : Int) + 1) = ((k + 1 : Nat) : Int) := by unfold wrap64; omega
def RightP (g s : Int) : Prop := 0 ≤ s ∧ s ≤ g ∧ g ≤ 1000000000000 ∧ g - s ≤ 65536
theorem spend_neg {g s z : Int} (h : z < 0) : (chgS g s 0 z) = ((0, 0), 2) := by unfold chgS; rw [if_pos (.inr (.inr h))]
theorem grant_turn {g s z : Int} (h : RightP g s) (hz : z < 0) :
    chgS g s (-(z + 1)) 0 = ((0, 0), 130) ∨ (chgS g s (-(z + 1)) 0 = ((g - (z + 1), s), 0) ∧ RightP (g - (z + 1)) s) := by
  rw [grant_ok h (by omega)]
  unfold RightP at *
  split
  · exact .inl rfl
  · exact .inr ⟨by rw [show g + -(z + 1) = g - (z + 1) by omega], by omega⟩
theorem spend_turn {g s z : Int} (h : RightP g s) (hz : ¬ z < 0) :
    chgS g s 0 z = ((0, 0), 130) ∨ (chgS g s 0 z = ((g, s + z), 0) ∧ RightP g (s + z)) := by
  rw [spend_ok h (by omega)]
  unfold RightP at *
  split
  · exact .inl rfl
  · exact .inr ⟨rfl, by omega⟩

set_option maxRecDepth 100000 in
set_option maxHeartbeats 16000000 in
theorem never_walk (n : Int) (a : Option Addr) (len cap : Nat) (zs : List I64) (w : World) (hlen : len ≤ cap) (hz : zs.length ≤ 9223372036854775807) (hI : Ints w.heap.size w (.slice a len cap) zs) :
    Calls Try.prog 6 #[.int .i64 n, .slice a len cap] w fun e w' => e = .returned (.bool true) ∧ Below w.heap.size w w' := by
  have HI := Lib.hid hI
  have HL := Lib.hid hlen
  have HZ := Lib.hid hz
  clear hI hlen hz
  have h20 : (zs.take 20).length ≤ 20 := by simp; omega
  replace h20 := Lib.hid h20
  have hB := Below.refl w.heap.size w
  go_enter Try.func6, Try.ntmps6
  go_wp2_with fail
  refine (shown_any _).mono ?_
  rintro e w1 ⟨rfl, hb⟩
  replace hB := bcall hB hb
  clear hb
  go_wp2_with fail
  refine (few_any _ _ _ zs _ HL.out HZ.out (Ints.wide hB.size (Ints.below hB HI.out))).mono ?_
  rintro e w2 ⟨⟨len', cap', rfl, hJ⟩, rfl⟩
  replace hJ := Ints.narrow HI.out hJ
  clear HI HL HZ
  generalize zs.take 20 = ys at hJ h20
  have hl : len' = ys.length := by rcases hJ with ⟨h, rfl⟩ | ⟨b, off, c, h, hb, hc⟩ <;> cases h <;> rfl
  subst hl
  go_wp2_with fail
  refine (new_any _ _).mono ?_
  rintro e w3 ⟨rfl, hb⟩
  replace hJ := hJ.below (hb.mono hB.size)
  replace hB := bcall hB hb
  clear hb
  simp only [cr]
  by_cases hn : n < 0 ∨ 65536 < n
  · obtain ⟨e1, e2⟩ := new_bad hn
    rw [e1]
    clear hn e1 hJ
    go_wp2_with fail
    refine (right_any _ _ _).mono ?_
    rintro e w4 ⟨rfl, hb⟩
    replace hB := bstep hB hb
    clear hb
    rw [e2]
    clear e2
    go_wp2
    go_ret
    exact ⟨by simp, by assumption⟩
  rw [new_good hn]
  have hR0 : RightP n 0 := by unfold RightP; omega
  clear hn
  have hw0 : w.heap.size ≤ w3.heap.size := hB.size
  go_wp2_with fail
  generalize hb6 : w3.heap.size = b6 at hw0 ⊢
  go_loopg [8, 9, 10] ys.length (fun gk s8 s9 s10 wx => ∃ (k : Nat) (gr sp : Int), k ≤ ys.length ∧ gk = ys.length - k ∧ s10 = .int .i64 k ∧ s8 = .int .i64 gr ∧ s9 = .int .i64 sp ∧ RightP gr sp ∧ Below w.heap.size w wx ∧ BoxF wx b6 (gr, sp))
  case atStart =>
    subst hb6
    exact ⟨0, n, 0, Nat.zero_le _, rfl, rfl, rfl, rfl, hR0, ba hB _, ⟨by simp [go_sem], by simp [go_sem]⟩, by simp [go_sem], by simp [go_sem]⟩
  case round =>
    obtain ⟨k, gr, sp, hk, rfl, rfl, rfl, rfl, hR, hBr, hbx⟩ := hrel
    by_cases hlt : k < ys.length
    · have hJr : Ints w.heap.size wr (.slice a ys.length cap') ys := hJ.move hB hBr
      rcases hJr with ⟨h, rfl⟩ | ⟨bs, off, c, h, hbs, hc⟩
      · simp at hlt
      cases h
      have hck := hc k hlt
      clear hc hJ
      have hzr := (ys[k]?.getD z0).2
      unfold InRange at hzr
      generalize (ys[k]?.getD z0).1 = z at hck hzr
      have hNv : Nv w b6 gr sp ⟨bs, off + k, none⟩ z wr := ⟨⟨hbx.1, hck⟩, hBr, hbx.2⟩
      clear hBr hbx hck
      have hk0 : (0 : Int) ≤ (k : Int) := Int.natCast_nonneg _
      have hk1 : (k : Int) < (ys.length : Int) := by omega
      go_upto_region 11 with fail
      go_cut [11, 12] (fun s11 s12 wx => ∃ dn, s11 = .pointer (some ⟨dn, 0, none⟩) ∧ s12 = .int .i64 (chgS gr sp 0 z).2 ∧ Nv w b6 gr sp ⟨bs, off + k, none⟩ z wx ∧ BoxF wx dn (chgS gr sp 0 z).1 ∧ Nlt w b6 ⟨bs, off + k, none⟩ dn)
      case first =>
        have lt := hNv.lt
        go_region_held3 (fun W => ((W.cell? ⟨b6, 0, none⟩ = some (.int .i64 gr) ∧ W.cell? ⟨b6, 1, none⟩ = some (.int .i64 sp)) ∧ W.cell? ⟨bs, off + k, none⟩ = some (.int .i64 z)) ∧ Fz w b6 W)
          (first
            | exact Nv.drew (by assumption)
            | exact Nv.bel (w := w) (b := b6) (g := gr) (s := sp) (a := ⟨bs, off + k, none⟩) (z := z) (by assumption) (by assumption)
            | exact Nv.alloc (w := w) (b := b6) (g := gr) (s := sp) (a := ⟨bs, off + k, none⟩) (z := z) (by assumption) _
            | (refine Nv.realloc (w := w) (b := b6) (g := gr) (s := sp) (a := ⟨bs, off + k, none⟩) (z := z) (by assumption) lt ?_ <;> (first | omega | (simp; done) | (simp; omega)))
            | (refine Nv.set (Nv.set (w := w) (b := b6) (g := gr) (s := sp) (a := ⟨bs, off + k, none⟩) (z := z) (by assumption) lt ?_) lt ?_ <;> (first | omega | (simp; done) | (simp; omega))))
          (first
            | (go_at_call 21; refine (spend_any _ _ _ (World.alloc _ _)).mono ?_; rintro e w' ⟨rfl, hb⟩; have hs : wr.heap.size ≤ w'.heap.size := (by have h := hb.size; simp at h ⊢; omega); have hbox := box4f hb; obtain ⟨k0, k1, f0, f1⟩ := hbox; simp only [cr])
            | (go_at_call 21; refine (spend_any _ _ _ (World.drew (World.alloc _ _))).mono ?_; rintro e w' ⟨rfl, hb⟩; have hs : wr.heap.size ≤ w'.heap.size := (by have h := hb.size; simp at h ⊢; omega); have hbox := box4f (undrew hb); obtain ⟨k0, k1, f0, f1⟩ := hbox; simp only [cr])
            | (go_at_call 21; refine (spend_any _ _ _ _).mono ?_; rintro e w' ⟨rfl, hb⟩; have hs : wr.heap.size ≤ w'.heap.size := (by have h := hb.size; simp at h ⊢; omega); simp only [cr]))
        all_goals (go_wp2_with fail; go_meet; exact ⟨_, rfl, rfl, by assumption, ⟨⟨by simp [go_sem, *], by simp [go_sem, *]⟩, by simp [go_sem, *], by simp [go_sem, *]⟩, Nlt.up lt (by first | omega | (simp; done) | (simp; omega))⟩)
      case rest =>
      clear hNv
      obtain ⟨dn, rfl, rfl, hNv, hd, lt⟩ := hcut
      clear hB
      have hzr : -9223372036854775808 ≤ z ∧ z ≤ 9223372036854775807 := hzr
      by_cases hz : z < 0
      · rw [spend_neg hz] at hd ⊢
        have hw1 : IntKind.i64.wrap (z + 1) = z + 1 := IntWalk.i64_in _ (by omega)
        have hw2 : IntKind.i64.wrap (-(z + 1)) = -(z + 1) := IntWalk.i64_in _ (by omega)
        have c0 := hNv.1.1.1
        have c1 := hNv.1.1.2
        have ck := hNv.1.2
        have f0 := hNv.2.2.1
        have f1 := hNv.2.2.2
        go_upto_region 13 with fail
        clear c0 c1 ck f0 f1
        go_cut [12] (fun s12 wx => s12 = .int .i64 (chgS gr sp (-(z + 1)) 0).2 ∧ Nv w b6 gr sp ⟨bs, off + k, none⟩ z wx ∧ BoxF wx dn (chgS gr sp (-(z + 1)) 0).1)
        case first =>
          obtain ⟨⟨d0, d1⟩, e0, e1⟩ := hd
          go_region_held3 (fun W => ((W.cell? ⟨b6, 0, none⟩ = some (.int .i64 gr) ∧ W.cell? ⟨b6, 1, none⟩ = some (.int .i64 sp)) ∧ W.cell? ⟨bs, off + k, none⟩ = some (.int .i64 z)) ∧ Fz w b6 W)
            (first
              | exact Nv.drew (by assumption)
              | exact Nv.bel (w := w) (b := b6) (g := gr) (s := sp) (a := ⟨bs, off + k, none⟩) (z := z) (by assumption) (by assumption)
              | exact Nv.alloc (w := w) (b := b6) (g := gr) (s := sp) (a := ⟨bs, off + k, none⟩) (z := z) (by assumption) _
              | (refine Nv.realloc (w := w) (b := b6) (g := gr) (s := sp) (a := ⟨bs, off + k, none⟩) (z := z) (by assumption) lt ?_ <;> (first | omega | (simp; done) | (simp; omega)))
              | (refine Nv.set (Nv.set (w := w) (b := b6) (g := gr) (s := sp) (a := ⟨bs, off + k, none⟩) (z := z) (by assumption) lt ?_) lt ?_ <;> (first | omega | (simp; done) | (simp; omega))))
            (first
              | (go_at_call 19; refine (grant_any _ _ _ _).mono ?_; rintro e w' ⟨rfl, hb⟩; have hbox := box4g (undrew hb) d0 d1 e0 e1; obtain ⟨k0, k1, f0, f1⟩ := hbox; simp only [cr]))
          all_goals (go_wp2_with fail; go_meet; exact ⟨rfl, by assumption, ⟨by simp [go_sem, *], by simp [go_sem, *]⟩, by simp [go_sem, *], by simp [go_sem, *]⟩)
        case rest =>
        clear hNv hd
        obtain ⟨rfl, hNv, hd⟩ := hcut
        rcases grant_turn hR hz with hE | ⟨hE, hR'⟩
        · rw [hE] at hd ⊢
          clear hE hd hw1 hw2
          go_wp2
          go_roundg (ys.length - (k + 1))
          case measure => omega
          case rel => have h20' := h20.out; exact ⟨k + 1, gr, sp, by omega, rfl, by rw [k_next hk1 h20'], rfl, rfl, hR, hNv.2.1, hNv.box⟩
        · rw [hE] at hd ⊢
          clear hE hR
          have c0 := hNv.1.1.1
          have c1 := hNv.1.1.2
          have ck := hNv.1.2
          have f0 := hNv.2.2.1
          have f1 := hNv.2.2.2
          have hr' := (right_iff (gr - (z + 1)) (sp)).2 hR'
          have hl' := left_right hr'
          have hq := hR'
          unfold RightP at hq
          obtain ⟨q1, q2, q3, q4⟩ := hq
          have hw3 : IntKind.i64.wrap (gr - (z + 1)) = gr - (z + 1) := IntWalk.i64_in _ (by omega)
          have hwd : IntKind.i64.wrap (gr - (z + 1) - (sp)) = gr - (z + 1) - (sp) := IntWalk.i64_in _ (by omega)
          have hle : ¬ gr - (z + 1) < sp := by omega
          clear q1 q2 q3 q4
          have hN6 : b6 < wc.heap.size := cell_lt c0
          have hBc : Below w.heap.size w wc := hNv.2.1
          replace hr' := Lib.hid hr'
          replace hl' := Lib.hid hl'
          replace hR' := Lib.hid hR'
          have d0 := hd.1.1
          have d1 := hd.1.2
          clear hNv hd
          go_wp2_with fail
          refine (cleft_any _ _ _).mono ?_
          rintro e w5 ⟨rfl, hb⟩
          rw [hl'.out]
          obtain ⟨a0, a1, g0, g1⟩ := box4 (b := b6) hb (by simp; omega) (x := .int .i64 (gr - (z + 1))) (y := .int .i64 (sp)) (by simp [go_sem, *]) (by simp [go_sem, *]) (by simp [go_sem, *]) (by simp [go_sem, *])
          have hB5 : Below w.heap.size w w5 := bcall (Below.setCell (Below.setCell hBc (by simp; omega) _) (by simp; omega) _) hb
          clear hb c0 c1 ck f0 f1 d0 d1
          go_wp2_with fail
          refine (right_any _ _ _).mono ?_
          rintro e w6 ⟨rfl, hb⟩
          rw [hr'.out]
          obtain ⟨a0, a1, g0, g1⟩ := box4g hb a0 a1 g0 g1
          replace hB5 := bcall hB5 hb
          clear hb
          go_wp2
          go_roundg (ys.length - (k + 1))
          case measure => omega
          case rel => have h20' := h20.out; exact ⟨k + 1, _, _, by omega, rfl, by rw [k_next hk1 h20'], rfl, rfl, hR'.out, hB5, ⟨a0, a1⟩, g0, g1⟩
      · rcases spend_turn hR hz with hE | ⟨hE, hR'⟩
        · rw [hE] at hd ⊢
          clear hE hd
          have c0 := hNv.1.1.1
          have c1 := hNv.1.1.2
          have ck := hNv.1.2
          have f0 := hNv.2.2.1
          have f1 := hNv.2.2.2
          go_wp2
          go_roundg (ys.length - (k + 1))
          case measure => omega
          case rel => have h20' := h20.out; exact ⟨k + 1, gr, sp, by omega, rfl, by rw [k_next hk1 h20'], rfl, rfl, hR, hNv.2.1, hNv.box⟩
        · rw [hE] at hd ⊢
          clear hE hR
          have c0 := hNv.1.1.1
          have c1 := hNv.1.1.2
          have ck := hNv.1.2
          have f0 := hNv.2.2.1
          have f1 := hNv.2.2.2
          have hr' := (right_iff (gr) (sp + z)).2 hR'
          have hl' := left_right hr'
          have hq := hR'
          unfold RightP at hq
          obtain ⟨q1, q2, q3, q4⟩ := hq
          have hw3 : IntKind.i64.wrap (sp + z) = sp + z := IntWalk.i64_in _ (by omega)
          have hwd : IntKind.i64.wrap (gr - (sp + z)) = gr - (sp + z) := IntWalk.i64_in _ (by omega)
          have hle : ¬ gr < sp + z := by omega
          clear q1 q2 q3 q4
          have hN6 : b6 < wc.heap.size := cell_lt c0
          have hBc : Below w.heap.size w wc := hNv.2.1
          replace hr' := Lib.hid hr'
          replace hl' := Lib.hid hl'
          replace hR' := Lib.hid hR'
          have d0 := hd.1.1
          have d1 := hd.1.2
          clear hNv hd
          go_wp2_with fail
          refine (cleft_any _ _ _).mono ?_
          rintro e w5 ⟨rfl, hb⟩
          rw [hl'.out]
          obtain ⟨a0, a1, g0, g1⟩ := box4 (b := b6) hb (by simp; omega) (x := .int .i64 (gr)) (y := .int .i64 (sp + z)) (by simp [go_sem, *]) (by simp [go_sem, *]) (by simp [go_sem, *]) (by simp [go_sem, *])
          have hB5 : Below w.heap.size w w5 := bcall (Below.setCell (Below.setCell hBc (by simp; omega) _) (by simp; omega) _) hb
          clear hb c0 c1 ck f0 f1 d0 d1
          go_wp2_with fail
          refine (right_any _ _ _).mono ?_
          rintro e w6 ⟨rfl, hb⟩
          rw [hr'.out]
          obtain ⟨a0, a1, g0, g1⟩ := box4g hb a0 a1 g0 g1
          replace hB5 := bcall hB5 hb
          clear hb
          go_wp2
          go_roundg (ys.length - (k + 1))
          case measure => omega
          case rel => have h20' := h20.out; exact ⟨k + 1, _, _, by omega, rfl, by rw [k_next hk1 h20'], rfl, rfl, hR'.out, hB5, ⟨a0, a1⟩, g0, g1⟩
    · obtain rfl : k = ys.length := by omega
      clear hJ hbx
      go_wp2
      go_ret
      exact ⟨by simp, hBr⟩
end Go.Proofs.Ytbajhnmgimggfaa
