/-
  Sha: the text of some digits, by the document.
-/
import Derived.Test.YtiakcjckebghlaaDoorH5
import Derived.Deep.RegionWith
namespace Go.Proofs.YtiakcjckebghlaaDoor
open Go.RowKit Go.Shelf

theorem digit_any (c : UInt8) (w : World) : Calls Tryd.prog 25 #[.int .u8 (c.toNat : Int)] w fun e w' => e = .returned (.int .i64 (unD c)) ∧ w = w' := by
  have hb := c.toNat_lt
  have hu : unD c = if 48 ≤ c.toNat ∧ c.toNat ≤ 57 then (c.toNat : Int) - 48 else if 97 ≤ c.toNat ∧ c.toNat ≤ 102 then (c.toNat : Int) - 87 else -1 := rfl
  generalize unD c = u at hu ⊢
  generalize c.toNat = n at hb hu ⊢
  replace hu := Lib.hid hu
  by_cases h1 : 48 ≤ n ∧ n ≤ 57
  · obtain ⟨a1, a2⟩ := h1
    have e : u = (n : Int) - 48 := by rw [hu.out, if_pos ⟨a1, a2⟩]
    have b1 : (48 : Int) ≤ (n : Int) := by omega
    have b2 : (n : Int) ≤ 57 := by omega
    replace e := Lib.hid e
    go_enter Tryd.func25, Tryd.ntmps25
    go_wp2
    go_ret
    exact ⟨by rw [e.out]; rfl, rfl⟩
  by_cases h2 : 97 ≤ n ∧ n ≤ 102
  · obtain ⟨a1, a2⟩ := h2
    have e : u = (n : Int) - 87 := by rw [hu.out, if_neg h1, if_pos ⟨a1, a2⟩]
    have b1 : (97 : Int) ≤ (n : Int) := by omega
    have b2 : (n : Int) ≤ 102 := by omega
    have b3 : (48 : Int) ≤ (n : Int) := by omega
    have b4 : ¬ (n : Int) ≤ 57 := by omega
    replace e := Lib.hid e
    clear h1
    go_enter Tryd.func25, Tryd.ntmps25
    go_wp2
    go_ret
    exact ⟨by rw [e.out]; simp; omega, rfl⟩
  have e : u = -1 := by rw [hu.out, if_neg h1, if_neg h2]
  replace e := Lib.hid e
  by_cases c1 : n < 48
  · have b1 : ¬ (48 : Int) ≤ (n : Int) := by omega
    have b2 : ¬ (97 : Int) ≤ (n : Int) := by omega
    clear h1 h2
    go_enter Tryd.func25, Tryd.ntmps25
    go_wp2
    go_ret
    exact ⟨by rw [e.out]; rfl, rfl⟩
  by_cases c2 : n < 97
  · have b1 : (48 : Int) ≤ (n : Int) := by omega
    have b3 : ¬ (n : Int) ≤ 57 := by omega
    have b2 : ¬ (97 : Int) ≤ (n : Int) := by omega
    clear h1 h2
    go_enter Tryd.func25, Tryd.ntmps25
    go_wp2
    go_ret
    exact ⟨by rw [e.out]; rfl, rfl⟩
  · have b1 : (48 : Int) ≤ (n : Int) := by omega
    have b3 : ¬ (n : Int) ≤ 57 := by omega
    have b2 : (97 : Int) ≤ (n : Int) := by omega
    have b4 : ¬ (n : Int) ≤ 102 := by omega
    clear h1 h2
    go_enter Tryd.func25, Tryd.ntmps25
    go_wp2
    go_ret
    exact ⟨by rw [e.out]; rfl, rfl⟩

theorem conv_one (W : World) (x : UInt8) (z : Int) (hz : z = (x.toNat : Int)) : (convert 41 9 (.slice (some ⟨W.heap.size, 0, none⟩) 1 1)).run Tryd.prog (W.alloc (.cells #[.int .u8 z] 5)).drew = .ok (.string (ofL [x])) (W.alloc (.cells #[.int .u8 z] 5)).drew := by
  subst hz
  refine run_convert_bytes_back _ 41 9 5 ⟨W.heap.size, 0, none⟩ 1 [x] Tryd.underlying41 Tryd.underlying5 Tryd.underlying9 fun j hj => ?_
  obtain rfl : j = 0 := by simpa using hj
  rw [show ((⟨W.heap.size, 0, none⟩ : Addr).add 0) = ⟨W.heap.size, 0, none⟩ by simp [Addr.add]]
  simp [go_sem]

set_option maxHeartbeats 4000000 in
theorem runhex_any (s : ByteArray) (hs : s.size ≤ 1000) (w : World) : Calls Tryd.prog 16 #[.string s] w fun e w' => e = .returned (.tuple #[.string (unhexS s).1, .int .i64 (unhexS s).2]) ∧ Below w.heap.size w w' := by
  have hls : s.data.toList.length = s.size := (Lib.size_eq s).symm
  replace hls := Lib.hid hls
  go_enter Tryd.func16, Tryd.ntmps16
  go_wp2_with fail
  go_loopw [4, 5] (fun o i wr => ∃ k : Nat, ∃ out : List UInt8, 2 * k ≤ s.size + 1 ∧ i = .int .i64 ((2 * k : Nat) : Int) ∧ o = .string (ofL out) ∧ Told s.data.toList k out ∧ Below w.heap.size w wr) (fun _ i _ => s.size + 1 - (intOf i).toNat)
  case atStart => exact ⟨0, [], by omega, rfl, rfl, told_zero _, Below.refl _ _⟩
  case round =>
    obtain ⟨k, out, hk, rfl, rfl, hT, hb⟩ := hrel
    replace hT := Lib.hid hT
    by_cases h1 : 2 * k < s.size
    · by_cases h2 : 2 * k + 1 < s.size
      · have hl1 : 2 * k < s.data.toList.length := by rw [hls.out]; exact h1
        have hl2 : 2 * k + 1 < s.data.toList.length := by rw [hls.out]; exact h2
        have p1 : s.data.toList[2 * k] = s[2 * k] := rfl
        have p2 : s.data.toList[2 * k + 1] = s[2 * k + 1] := rfl
        have HD1 := Lib.hid (digit_any s[2 * k])
        have HD2 := Lib.hid (digit_any s[2 * k + 1])
        have hbad1 : unD s[2 * k] < 0 → unhexS s = (⟨#[]⟩, 40) := fun h => unhexS_none (told_bad1 hT.out hl1 (by rw [p1]; exact h))
        have hbad2 : unD s[2 * k + 1] < 0 → unhexS s = (⟨#[]⟩, 40) := fun h => unhexS_none (told_bad2 hT.out hl2 (by rw [p2]; exact h))
        have hgood : 0 ≤ unD s[2 * k] → 0 ≤ unD s[2 * k + 1] → Told s.data.toList (k + 1) (out ++ [UInt8.ofNat (16 * (unD s[2 * k]).toNat + (unD s[2 * k + 1]).toNat)]) := fun n1 n2 => told_succ hT.out hl1 hl2 (by rw [p1]; exact n1) (by rw [p2]; exact n2)
        have hd1 := unD_bd s[2 * k]
        have hd2 := unD_bd s[2 * k + 1]
        have hlen : out.length ≤ 600 := by have := hT.out.1; omega
        generalize hm : 2 * k = m at h1 h2 hl1 hl2 p1 p2 HD1 HD2 hk hbad1 hbad2 hgood hd1 hd2 ⊢
        replace hm := Lib.hid hm
        have i1 : (0 : Int) ≤ (m : Int) + 1 := by omega
        have i2 : (m : Int) + 1 < (s.size : Int) := by omega
        clear p1 p2
        generalize unD s[m] = x at HD1 hbad1 hgood hd1
        generalize unD s[m + 1] = y at HD2 hbad2 hgood hd2
        by_cases hx : x < 0
        · have hres := hbad1 hx
          replace hres := Lib.hid hres
          clear hbad1 hbad2 hgood hd1 hd2
          go_wp2_with fail
          refine (HD1.out _).mono ?_
          rintro e w2 ⟨rfl, rfl⟩
          go_wp2
          go_ret2
          exact ⟨by rw [hres.out]; rfl, hb⟩
        by_cases hy : y < 0
        · have hres := hbad2 hy
          replace hres := Lib.hid hres
          clear hbad1 hbad2 hgood hd1 hd2
          go_wp2_with fail
          refine (HD1.out _).mono ?_
          rintro e w2 ⟨rfl, rfl⟩
          go_wp2_with fail
          refine (HD2.out _).mono ?_
          rintro e w2 ⟨rfl, rfl⟩
          go_wp2
          go_ret2
          exact ⟨by rw [hres.out]; rfl, hb⟩
        have hgd := hgood (by omega) (by omega)
        obtain ⟨a, rfl⟩ := Int.eq_ofNat_of_zero_le (show 0 ≤ x by omega)
        obtain ⟨b, rfl⟩ := Int.eq_ofNat_of_zero_le (show 0 ≤ y by omega)
        have ha : a < 16 := by omega
        have hb16 : b < 16 := by omega
        clear hbad1 hbad2 hgood hd1 hd2
        replace hgd := Lib.hid hgd
        go_wp2_with fail
        refine (HD1.out _).mono ?_
        rintro e w2 ⟨rfl, rfl⟩
        go_wp2_with fail
        refine (HD2.out _).mono ?_
        rintro e w2 ⟨rfl, rfl⟩
        go_wp2_with fail
        have n1 : IntKind.i64.wrap ((m : Int) + 1) = (m : Int) + 1 := by rw [IntKind.wrap_i64]; omega
        have n3 : ((m : Int) + 1).toNat = m + 1 := by omega
        have hos : (ofL out).size ≤ 1000 := by rw [ofL_size]; omega
        have a1 : ¬ (9223372036854775807 < (ofL out).size + 1) := by omega
        have v1 : IntKind.i64.wrap (16 * (a : Int)) = 16 * (a : Int) := by rw [IntKind.wrap_i64]; omega
        have v2 : IntKind.i64.wrap (16 * (a : Int) + (b : Int)) = 16 * (a : Int) + (b : Int) := by rw [IntKind.wrap_i64]; omega
        have v3 : IntKind.u8.wrap (16 * (a : Int) + (b : Int)) = 16 * (a : Int) + (b : Int) := by rw [IntKind.wrap_u8]; omega
        have hxz : 16 * (a : Int) + (b : Int) = ((UInt8.ofNat (16 * a + b)).toNat : Int) := by simp; omega
        have hgd2 : Told s.data.toList (k + 1) (out ++ [UInt8.ofNat (16 * a + b)]) := hgd.out
        generalize UInt8.ofNat (16 * a + b) = xx at hxz hgd2
        clear hgd
        have hcv := conv_one wr xx (16 * (a : Int) + (b : Int)) hxz
        have hap : ofL out ++ ofL [xx] = ofL (out ++ [xx]) := ofL_append _ _
        have hs1 : (ofL [xx]).size = 1 := rfl
        replace hap := Lib.hid hap
        replace hgd2 := Lib.hid hgd2
        clear hxz
        go_region_with ((go_at_call 25; (first | ((with_reducible refine (HD1.out _).mono ?_); rintro e w' ⟨rfl, rfl⟩) | ((with_reducible refine (HD2.out _).mono ?_); rintro e w' ⟨rfl, rfl⟩))))
        all_goals
          go_wp2
          go_roundw
          case rel => exact ⟨k + 1, out ++ [xx], by have := hm.out; omega, by have := hm.out; rw [show 2 * (k + 1) = m + 2 by omega]; simp, by rw [hap.out], hgd2.out, bdraw (ba hb _) 1⟩
          case measure => simp [intOf]; omega
      · have hres := unhexS_none (told_odd hT.out (by rw [hls.out]; omega))
        replace hres := Lib.hid hres
        have i1 : (s.size : Int) ≤ ((2 * k : Nat) : Int) + 1 := by omega
        generalize 2 * k = m at h1 h2 hk i1 ⊢
        go_wp2
        go_ret2
        exact ⟨by rw [hres.out]; rfl, hb⟩
    · have hres := unhexS_some (told_end hT.out (by rw [hls.out]; omega))
      replace hres := Lib.hid hres
      generalize 2 * k = m at h1 hk ⊢
      go_wp2
      go_ret2
      exact ⟨by rw [hres.out]; rfl, hb⟩
end Go.Proofs.YtiakcjckebghlaaDoor
