/-
  Sha: what digits tell: the laws' walks.
-/
import Derived.Test.YtiakcjckebghlaaDoorS12
namespace Go.Proofs.YtiakcjckebghlaaDoor
open Go.RowKit Go.Shelf

theorem unD_digL : ∀ i : Fin 16, unD (digL i.val) = (i.val : Int) := by decide
theorem digL_unD : ∀ i : Fin 256, 0 ≤ unD (UInt8.ofNat i.val) → digL (unD (UInt8.ofNat i.val)).toNat = UInt8.ofNat i.val := by decide +kernel
theorem digL_un (c : UInt8) (h : 0 ≤ unD c) : digL (unD c).toNat = c := by
  have := digL_unD ⟨c.toNat, by have := c.toNat_lt; omega⟩
  simp only [UInt8.ofNat_toNat] at this
  exact this h
theorem unhex_hex : ∀ l : List UInt8, unhexL (hexL l) = some l
  | [] => rfl
  | b :: r => by
    have h1 := unD_digL ⟨b.toNat / 16, by have := b.toNat_lt; omega⟩
    have h2 := unD_digL ⟨b.toNat % 16, by omega⟩
    simp only at h1 h2
    rw [hexL, unhexL, h1, h2, if_neg (by omega), unhex_hex r]
    simp only [Option.map_some, Option.some.injEq, List.cons.injEq, and_true, Int.toNat_natCast]
    rw [show 16 * (b.toNat / 16) + b.toNat % 16 = b.toNat by omega]
    simp
theorem hex_unhex : ∀ (l v : List UInt8), unhexL l = some v → hexL v = l
  | [], v, h => by simp [unhexL] at h; subst h; rfl
  | [_], v, h => by simp [unhexL] at h
  | a :: b :: r, v, h => by
    rw [unhexL] at h
    split at h
    · cases h
    · rename_i hn
      obtain ⟨w, hw, rfl⟩ := Option.map_eq_some_iff.1 h
      have ih := hex_unhex r w hw
      have h1 := unD_bd a
      have h2 := unD_bd b
      have e : (UInt8.ofNat (16 * (unD a).toNat + (unD b).toNat)).toNat = 16 * (unD a).toNat + (unD b).toNat := by rw [UInt8.toNat_ofNat']; omega
      rw [hexL, ih, e, show (16 * (unD a).toNat + (unD b).toNat) / 16 = (unD a).toNat by omega, show (16 * (unD a).toNat + (unD b).toNat) % 16 = (unD b).toNat by omega, digL_un a (by omega), digL_un b (by omega)]
theorem unhex_len (l v : List UInt8) (h : unhexL l = some v) : l.length = 2 * v.length := by rw [← hex_unhex l v h, hexL_len]
theorem unhex_append : ∀ (a b : List UInt8), a.length % 2 = 0 → unhexL (a ++ b) = (unhexL a).bind fun x => (unhexL b).map (x ++ ·)
  | [], b, _ => by simp [unhexL]
  | [_], b, h => by simp at h
  | c :: d :: r, b, h => by
    simp only [List.length_cons] at h
    have ih := unhex_append r b (by omega)
    simp only [List.cons_append, unhexL, ih]
    split
    · rfl
    · cases unhexL r <;> cases unhexL b <;> simp
theorem unhex_odd (l : List UInt8) (h : l.length % 2 = 1) : unhexL l = none := by
  cases hv : unhexL l with
  | none => rfl
  | some v => have := unhex_len l v hv; omega
theorem sumL_len (l : List UInt8) : (sumL l).length = 32 := by simp [sumL, outS, out4]
theorem len_size (s : ByteArray) : s.data.toList.length = s.size := (Lib.size_eq s).symm

theorem unhexS_two (s : ByteArray) : (unhexS s).1.size ≤ s.size ∧ (unhexL s.data.toList = none ∧ unhexS s = (⟨#[]⟩, 40) ∨ ∃ v, unhexL s.data.toList = some v ∧ unhexS s = (ofL v, 0)) := by
  cases h : unhexL s.data.toList with
  | none => rw [unhexS_none h]; exact ⟨Nat.zero_le _, .inl ⟨rfl, rfl⟩⟩
  | some v =>
    rw [unhexS_some h]
    have := unhex_len _ _ h
    rw [len_size] at this
    exact ⟨by rw [ofL_size]; omega, .inr ⟨v, rfl, rfl⟩⟩

set_option maxHeartbeats 4000000 in
theorem digits_walk (s : ByteArray) (w : World) (hC : ConstT 1 w) (hlt1 : 1 < w.heap.size) : Calls Tryd.prog 4 #[.string s] w fun e w' => e = .returned (.bool true) ∧ Below w.heap.size w w' := by
  go_enter Tryd.func4, Tryd.ntmps4
  go_wp2_with fail
  refine (shown_any _ hC hlt1).mono ?_
  rintro e w1 ⟨rfl, hb1⟩
  have hz1 := hb1.size
  go_wp2_with fail
  refine (cut_any _ _).mono ?_
  rintro e w2 ⟨rfl, rfl⟩
  have h1 := cutB_size s
  generalize cutB s = a at *
  have hx1 := fun W => hex_any a (by omega) W
  have hx2 := fun W => rhex_any a (by omega) W
  have hx3 := fun W => unhex_any a (by omega) W
  have hx4 := fun W => runhex_any a (by omega) W
  generalize ofL (hexL a.data.toList) = x at *
  generalize (unhexS a).1 = y at *
  generalize (unhexS a).2 = z at *
  replace hx1 := Lib.hid hx1
  replace hx2 := Lib.hid hx2
  replace hx3 := Lib.hid hx3
  replace hx4 := Lib.hid hx4
  go_wp2_with fail
  refine (hx3.out _).mono ?_
  rintro e w3 ⟨rfl, hb3⟩
  have hB3 := hb1.trans (hb3.mono hz1)
  go_wp2_with fail
  refine (hx4.out _).mono ?_
  rintro e w4 ⟨rfl, hb4⟩
  have hB4 := hB3.trans (hb4.mono hB3.size)
  go_wp2_with fail
  refine (hx1.out _).mono ?_
  rintro e w5 ⟨rfl, hb5⟩
  have hB5 := hB4.trans (hb5.mono hB4.size)
  go_wp2_with fail
  refine (hx2.out _).mono ?_
  rintro e w6 ⟨rfl, hb6⟩
  have hB6 := hB5.trans (hb6.mono hB5.size)
  clear hb1 hb3 hb4 hb5 hb6 hB3 hB4 hB5
  go_wp2
  go_ret
  exact ⟨rfl, hB6⟩

set_option maxHeartbeats 4000000 in
theorem back_walk (s : ByteArray) (w : World) (hC : ConstT 1 w) (hlt1 : 1 < w.heap.size) : Calls Tryd.prog 6 #[.string s] w fun e w' => e = .returned (.bool true) ∧ Below w.heap.size w w' := by
  have HC := Lib.hid hC
  go_enter Tryd.func6, Tryd.ntmps6
  go_wp2_with fail
  refine (shown_any _ hC hlt1).mono ?_
  rintro e w1 ⟨rfl, hb1⟩
  have hz1 := hb1.size
  clear hC
  go_wp2_with fail
  refine (cut_any _ _).mono ?_
  rintro e w2 ⟨rfl, rfl⟩
  have h1 := cutB_size s
  generalize cutB s = a at *
  have hhl : (ofL (hexL a.data.toList)).size = 2 * a.size := by rw [ofL_size, hexL_len, len_size]
  have hx1 := fun W => hex_any a (by omega) W
  have hx2 := fun W => unhex_any (ofL (hexL a.data.toList)) (by omega) W
  rw [unhexS_some (show unhexL (ofL (hexL a.data.toList)).data.toList = some a.data.toList by rw [toL_ofL, unhex_hex]), ofL_toL] at hx2
  have hx3 := fun W => unhex_any a (by omega) W
  have hsl : (ofL (sumL a.data.toList)).size = 32 := by rw [ofL_size, sumL_len]
  have hx5 := fun W hW hW1 => sum_any a (by omega) W hW hW1
  have hhI : ((ofL (hexL a.data.toList)).size : Int) = 2 * (a.size : Int) := by omega
  have h63 : (0 : Int) ≤ (a.size : Int) ∧ (a.size : Int) ≤ 300 := by omega
  obtain ⟨h630, h631⟩ := h63
  generalize ofL (sumL a.data.toList) = sm at *
  have hbk : ∀ v, unhexL a.data.toList = some v → ofL (hexL (ofL v).data.toList) = a := fun v hv => by rw [toL_ofL, hex_unhex _ _ hv, ofL_toL]
  generalize ofL (hexL a.data.toList) = x at *
  replace hx1 := Lib.hid hx1
  replace hx2 := Lib.hid hx2
  replace hx5 := Lib.hid hx5
  replace hhl := Lib.hid hhl
  replace hhI := Lib.hid hhI
  go_wp2_with fail
  refine (hx1.out _).mono ?_
  rintro e w3 ⟨rfl, hb3⟩
  have hB3 := hb1.trans (hb3.mono hz1)
  go_wp2_with fail
  refine (hx2.out _).mono ?_
  rintro e w4 ⟨rfl, hb4⟩
  have hB4 := hB3.trans (hb4.mono hB3.size)
  obtain ⟨hsz, hcs⟩ := unhexS_two a
  rcases hcs with ⟨hn, hu⟩ | ⟨v, hn, hu⟩
  · rw [hu] at hx3
    replace hx3 := Lib.hid hx3
    clear hn hu hbk hsz
    go_wp2_with fail
    refine (hx3.out _).mono ?_
    rintro e w5 ⟨rfl, hb5⟩
    have hB5 := hB4.trans (hb5.mono hB4.size)
    clear hb1 hb3 hb4 hb5 hB3 hB4
    go_wp2_with fail
    refine (hx5.out _ (HC.out.of (Off.of (ob := 0) hB5) hlt1 (by omega)) (by have := hB5.size; omega)).mono ?_
    rintro e w7 ⟨rfl, hb7⟩
    have hB7 := hB5.trans (hb7.mono hB5.size)
    clear hb7 hB5
    go_wp2
    go_ret
    exact ⟨rfl, hB7⟩
  · rw [hu] at hx3 hsz
    have hx6 := fun W => hex_any (ofL v) (by simp only at hsz; omega) W
    rw [hbk v hn] at hx6
    replace hx3 := Lib.hid hx3
    replace hx6 := Lib.hid hx6
    generalize ofL v = y at *
    clear hn hu hbk
    go_wp2_with fail
    refine (hx3.out _).mono ?_
    rintro e w5 ⟨rfl, hb5⟩
    have hB5 := hB4.trans (hb5.mono hB4.size)
    clear hb1 hb3 hb4 hb5 hB3 hB4
    go_wp2_with fail
    refine (hx6.out _).mono ?_
    rintro e w6 ⟨rfl, hb6⟩
    have hB6 := hB5.trans (hb6.mono hB5.size)
    clear hb6 hB5
    go_wp2_with fail
    refine (hx5.out _ (HC.out.of (Off.of (ob := 0) hB6) hlt1 (by omega)) (by have := hB6.size; omega)).mono ?_
    rintro e w7 ⟨rfl, hb7⟩
    have hB7 := hB6.trans (hb7.mono hB6.size)
    clear hb7 hB6
    go_wp2
    go_ret
    exact ⟨rfl, hB7⟩
theorem halves_odd (a b : ByteArray) (h : a.size % 2 = 1) : (unhexS a).2 = 40 := by
  rw [unhexS_none (unhex_odd _ (by rw [len_size]; exact h))]
set_option maxHeartbeats 4000000 in
theorem halves_walk (s t : ByteArray) (w : World) (hC : ConstT 1 w) (hlt1 : 1 < w.heap.size) : Calls Tryd.prog 8 #[.string s, .string t] w fun e w' => e = .returned (.bool true) ∧ Below w.heap.size w w' := by
  go_enter Tryd.func8, Tryd.ntmps8
  go_wp2_with fail
  refine (shown_any _ hC hlt1).mono ?_
  rintro e w1 ⟨rfl, hb1⟩
  have hz1 := hb1.size
  go_wp2_with fail
  refine (cut_any _ _).mono ?_
  rintro e w2 ⟨rfl, rfl⟩
  go_wp2_with fail
  refine (cut_any _ _).mono ?_
  rintro e w2 ⟨rfl, rfl⟩
  have h1 := cutB_size s
  have h2 := cutB_size t
  generalize cutB s = a at *
  generalize cutB t = b at *
  have hx1 := fun W => unhex_any a (by omega) W
  have hx2 := fun W => unhex_any b (by omega) W
  have hx3 := fun W => unhex_any (a ++ b) (by rw [size_append]; omega) W
  have hodd := halves_odd a b
  obtain ⟨ha1, hac⟩ := unhexS_two a
  obtain ⟨hb1', hbc⟩ := unhexS_two b
  have hev : a.size % 2 = 0 → unhexL (a ++ b).data.toList = (unhexL a.data.toList).bind fun x => (unhexL b.data.toList).map (x ++ ·) := fun h => by
    rw [toL_append, unhex_append _ _ (by rw [len_size]; exact h)]
  have n1 : ¬((9223372036854775807 : Int) < (a.size : Int) + (b.size : Int)) := by omega
  have n2 : ¬((9223372036854775807 : Int) < ((unhexS a).1.size : Int) + ((unhexS b).1.size : Int)) := by omega
  have key : a.size % 2 = 1 ∧ (unhexS a).2 = 40 ∨ a.size % 2 = 0 ∧ ((unhexS a).2 = 0 ∧ (unhexS b).2 = 0 ∧ unhexS (a ++ b) = ((unhexS a).1 ++ (unhexS b).1, 0) ∨ (unhexS a).2 = 40 ∧ (unhexS b).2 = 0 ∧ unhexS (a ++ b) = (⟨#[]⟩, 40) ∨ (unhexS a).2 = 0 ∧ (unhexS b).2 = 40 ∧ unhexS (a ++ b) = (⟨#[]⟩, 40) ∨ (unhexS a).2 = 40 ∧ (unhexS b).2 = 40 ∧ unhexS (a ++ b) = (⟨#[]⟩, 40)) := by
    by_cases hp : a.size % 2 = 1
    · exact .inl ⟨hp, hodd hp⟩
    · right
      have hp0 : a.size % 2 = 0 := by omega
      have he := hev hp0
      refine ⟨hp0, ?_⟩
      rcases hac with ⟨n, e⟩ | ⟨x, n, e⟩ <;> rcases hbc with ⟨n', e'⟩ | ⟨y, n', e'⟩ <;> rw [n, n'] at he <;> rw [e, e']
      · exact .inr (.inr (.inr ⟨rfl, rfl, unhexS_none he⟩))
      · exact .inr (.inl ⟨rfl, rfl, unhexS_none he⟩)
      · exact .inr (.inr (.inl ⟨rfl, rfl, unhexS_none he⟩))
      · exact .inl ⟨rfl, rfl, by rw [unhexS_some he, ← ofL_append]⟩
  clear hodd hac hbc hev ha1 hb1'
  generalize (unhexS a).1 = x at *
  generalize (unhexS a).2 = p at *
  generalize (unhexS b).1 = y at *
  generalize (unhexS b).2 = q at *
  replace hx1 := Lib.hid hx1
  replace hx2 := Lib.hid hx2
  rcases key with ⟨hp, rfl⟩ | ⟨hp, ⟨rfl, rfl, hu⟩ | ⟨rfl, rfl, hu⟩ | ⟨rfl, rfl, hu⟩ | ⟨rfl, rfl, hu⟩⟩
  · have hpi : (a.size : Int) % 2 = 1 := by omega
    generalize unhexS (a ++ b) = u at *
    replace hx3 := Lib.hid hx3
    go_wp2_with fail
    refine (hx1.out _).mono ?_
    rintro e w3 ⟨rfl, hb3⟩
    have hB3 := hb1.trans (hb3.mono hz1)
    go_wp2_with fail
    refine (hx2.out _).mono ?_
    rintro e w4 ⟨rfl, hb4⟩
    have hB4 := hB3.trans (hb4.mono hB3.size)
    go_wp2_with fail
    refine (hx3.out _).mono ?_
    rintro e w5 ⟨rfl, hb5⟩
    have hB5 := hB4.trans (hb5.mono hB4.size)
    clear hb1 hb3 hb4 hb5 hB3 hB4
    go_wp2
    go_ret
    exact ⟨rfl, hB5⟩
  all_goals
    have hpi : (a.size : Int) % 2 = 0 := by omega
    rw [hu] at hx3
    replace hx3 := Lib.hid hx3
    clear hu
    go_wp2_with fail
    refine (hx1.out _).mono ?_
    rintro e w3 ⟨rfl, hb3⟩
    have hB3 := hb1.trans (hb3.mono hz1)
    go_wp2_with fail
    refine (hx2.out _).mono ?_
    rintro e w4 ⟨rfl, hb4⟩
    have hB4 := hB3.trans (hb4.mono hB3.size)
    go_wp2_with fail
    refine (hx3.out _).mono ?_
    rintro e w5 ⟨rfl, hb5⟩
    have hB5 := hB4.trans (hb5.mono hB4.size)
    clear hb1 hb3 hb4 hb5 hB3 hB4
    go_wp2
    go_ret
    exact ⟨rfl, hB5⟩
end Go.Proofs.YtiakcjckebghlaaDoor
