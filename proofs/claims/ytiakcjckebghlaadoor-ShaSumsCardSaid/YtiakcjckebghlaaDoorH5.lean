/-
  Sha: the text of some digits, by the program.
-/
import Derived.Test.YtiakcjckebghlaaDoorH4
import Derived.Laws.BytesArg
import Derived.Laws.IdiomStrings
namespace Go.Proofs.YtiakcjckebghlaaDoor
open Go.RowKit Go.Shelf

theorem conv_row {base : Nat} {W : World} {v : Value} {l : List UInt8} (h : W.ownsRow base 5 1 v l.length (Lib.byteCells l)) : (convert 41 9 v).run Tryd.prog W = .ok (.string (ofL l)) W := by
  rcases h.2 with ⟨rfl, h0⟩ | ⟨g, cap, cur, rfl, hb, hg, hr⟩
  · have e : l = [] := List.length_eq_zero_iff.1 h0
    subst e
    exact run_convert_bytes_nil W 41 5 Tryd.underlying41 Tryd.underlying5 0 0 9 Tryd.underlying9
  · refine run_convert_bytes_back W 41 9 5 ⟨g, 0, none⟩ cap l Tryd.underlying41 Tryd.underlying5 Tryd.underlying9 fun j hj => ?_
    obtain ⟨_, _, _, ht⟩ := hr
    rw [show ((⟨g, 0, none⟩ : Addr).add j) = ⟨g, j, none⟩ by unfold Addr.add; split <;> simp_all]
    rw [cell_of_row W g _ _ _ _ hg, ← Array.getElem?_toList]
    have e1 : (cur.toList.take (l.length * 1))[j]? = cur.toList[j]? := List.getElem?_take_of_lt (by omega)
    rw [← e1, ht]
    simp [Lib.byteCells, hj]
theorem row_iter {base : Nat} {W : World} {v : Value} {n : Nat} {xs : List Value} {k : Nat} {s : ByteArray} {p q : Nat} (h : W.ownsRow base 5 1 v n xs) (hk : k < base) (_ : W.heap[k]? = some (.stringIter s p)) : (W.iterAt k s q).ownsRow base 5 1 v n xs :=
  h.kept (row := some k) ⟨rfl, rfl, rfl, by rw [Lib.iterAt_size]; exact Nat.le_refl _, fun i _ hi => Lib.iterAt_other W k i s q (fun e => hi (by simp [e]))⟩ (.inr fun e => by have := (h.lt k e).1; omega)

theorem low_all : ∀ i : Fin 128, Lib.indexByte dgs.data.toList (UInt8.ofNat i.val) = unD (UInt8.ofNat i.val) := by decide +kernel
theorem rune_low (c : UInt8) (h : c.toNat < 128) (w : World) : Calls Tryd.prog 24 #[.string dgs, .int .i32 (c.toNat : Int)] w fun e w' => e = .returned (.int .i64 (unD c)) ∧ w = w' :=
  (strings_IndexRune_ascii dgs c.toNat w (by omega) (by omega)).mono fun e w' ⟨he, hw⟩ => ⟨by
    have h1 := low_all ⟨c.toNat, h⟩
    simp only [UInt8.ofNat_toNat] at h1
    have h2 : ((c.toNat : Int).toNat.toUInt8) = c := by simp
    rw [he, h2, h1], hw.symm⟩
theorem rune_high (r : Nat) (h : 128 ≤ r) (w : World) : Calls Tryd.prog 24 #[.string dgs, .int .i32 (r : Int)] w fun e w' => e = .returned (.int .i64 (-1)) ∧ Below w.heap.size w w' := by
  by_cases h2 : (r : Int) = 65533
  · rw [h2]; exact rune_error w
  · cases hv : Lib.validRune (r : Int)
    · exact rune_bad r (by omega) h2 hv w
    · exact rune_good r (by omega) h2 hv w

theorem unD_bd (c : UInt8) : unD c = -1 ∨ (0 ≤ unD c ∧ unD c < 16) := by
  unfold unD
  split
  · right; omega
  · split
    · right; omega
    · left; rfl
theorem unD_high (c : UInt8) (h : 128 ≤ c.toNat) : unD c < 0 := by
  unfold unD
  rw [if_neg (by omega), if_neg (by omega)]; decide
def unhexS (s : ByteArray) : ByteArray × Int := match unhexL s.data.toList with
  | some l => (ofL l, 0)
  | none => (⟨#[]⟩, 40)
/-- out is told by the first 2k digits -/
def Told (l : List UInt8) (k : Nat) (out : List UInt8) : Prop := out.length = k ∧ unhexL l = (unhexL (l.drop (2 * k))).map (out ++ ·)
theorem told_zero (l : List UInt8) : Told l 0 [] := ⟨rfl, by simp⟩
theorem told_succ {l : List UInt8} {k : Nat} {out : List UInt8} (h : Told l k out) (h1 : 2 * k < l.length) (h2 : 2 * k + 1 < l.length) (n1 : 0 ≤ unD l[2 * k]) (n2 : 0 ≤ unD l[2 * k + 1]) :
    Told l (k + 1) (out ++ [UInt8.ofNat (16 * (unD l[2 * k]).toNat + (unD l[2 * k + 1]).toNat)]) := by
  refine ⟨by simp [h.1], ?_⟩
  rw [h.2, List.drop_eq_getElem_cons h1, List.drop_eq_getElem_cons h2, show 2 * (k + 1) = 2 * k + 1 + 1 by omega]
  rw [unhexL, if_neg (by omega)]
  cases unhexL (l.drop (2 * k + 1 + 1)) <;> simp
theorem told_bad1 {l : List UInt8} {k : Nat} {out : List UInt8} (h : Told l k out) (h1 : 2 * k < l.length) (n1 : unD l[2 * k] < 0) : unhexL l = none := by
  rw [h.2, List.drop_eq_getElem_cons h1]
  cases l.drop (2 * k + 1) with
  | nil => rfl
  | cons b r => rw [unhexL, if_pos (.inl n1)]; rfl
theorem told_bad2 {l : List UInt8} {k : Nat} {out : List UInt8} (h : Told l k out) (h2 : 2 * k + 1 < l.length) (n1 : unD l[2 * k + 1] < 0) : unhexL l = none := by
  rw [h.2, List.drop_eq_getElem_cons (by omega : 2 * k < l.length), List.drop_eq_getElem_cons h2, unhexL, if_pos (.inr n1)]; rfl
theorem told_odd {l : List UInt8} {k : Nat} {out : List UInt8} (h : Told l k out) (h1 : l.length = 2 * k + 1) : unhexL l = none := by
  rw [h.2, List.drop_eq_getElem_cons (by omega : 2 * k < l.length), List.drop_eq_nil_of_le (by omega : l.length ≤ 2 * k + 1)]; rfl
theorem told_end {l : List UInt8} {k : Nat} {out : List UInt8} (h : Told l k out) (h1 : l.length ≤ 2 * k) : unhexL l = some out := by
  rw [h.2, List.drop_eq_nil_of_le h1]; simp [unhexL]
theorem unhexS_none {s : ByteArray} (h : unhexL s.data.toList = none) : unhexS s = (⟨#[]⟩, 40) := by rw [unhexS, h]
theorem unhexS_some {s : ByteArray} {l : List UInt8} (h : unhexL s.data.toList = some l) : unhexS s = (ofL l, 0) := by rw [unhexS, h]

set_option maxHeartbeats 4000000 in
theorem unhex_any (s : ByteArray) (hs : s.size ≤ 1000) (w : World) : Calls Tryd.prog 15 #[.string s] w fun e w' => e = .returned (.tuple #[.string (unhexS s).1, .int .i64 (unhexS s).2]) ∧ Below w.heap.size w w' := by
  obtain ⟨i0, hi, hz0, hz1, hz2⟩ := info_parts info5
  go_enter Tryd.func15, Tryd.ntmps15
  go_wp2_with fail
  have hls : s.data.toList.length = s.size := (Lib.size_eq s).symm
  replace hls := Lib.hid hls
  go_loopw [4, 5] (fun o h wr => ∃ pos k : Nat, ∃ out : List UInt8, pos ≤ s.size ∧ wr.heap[w.heap.size]? = some (.stringIter s pos) ∧ Told s.data.toList k out ∧
    ((pos = 2 * k ∧ h = .int .i64 (-1)) ∨ (pos = 2 * k + 1 ∧ ∃ hn : 2 * k < s.data.toList.length, 0 ≤ unD s.data.toList[2 * k] ∧ h = .int .i64 (unD s.data.toList[2 * k]))) ∧
    wr.ownsRow (w.heap.size + 1) 5 1 o out.length (Lib.byteCells out) ∧ w.heap.size + 1 ≤ wr.heap.size ∧ Below w.heap.size w wr) (fun _ _ wr => s.size - wr.iterPos w.heap.size)
  case atStart => exact ⟨0, 0, [], Nat.zero_le _, World.iter_heap w s 0, told_zero _, .inl ⟨rfl, rfl⟩, World.ownsRow_nil _ _ _ _, by simp [World.iter], (Below.refl _ _).alloc (Nat.le_refl _) _⟩
  case round =>
    obtain ⟨pos, k, out, hle, hit, hT, hcase, hown, hsz, hb⟩ := hrel
    have hp0 : wr.iterPos w.heap.size = pos := by simp [World.iterPos, hit]
    replace hT := Lib.hid hT
    by_cases hp : pos < s.size
    · have hnx : ∀ ty, (Instr.next (.pointer (some ⟨w.heap.size, 0, none⟩)) true ty).run Tryd.prog wr = _ := fun ty => Lib.run_next_any_at wr w.heap.size s pos ty hit hp
      have hpl : pos < s.data.toList.length := by rw [hls.out]; exact hp
      have hpe : s.data.toList[pos] = s[pos] := rfl
      have hbw := Lib.below_iterAt hb (k := w.heap.size) (Nat.le_refl _) s (pos + (Utf8.decode s pos).2)
      rcases hcase with ⟨h1, rfl⟩ | ⟨h1, hnl, hz, rfl⟩
      · subst h1
        by_cases hlo : s[2 * k].toNat < 128
        · have hd := decode_ascii s (2 * k) hp hlo
          simp only [hd] at hnx hbw
          have hit2 := Lib.iterAt_heap wr w.heap.size s (2 * k) ((2 * k) + 1) hit
          have how2 := row_iter (q := (2 * k) + 1) hown (Nat.lt_succ_self _) hit
          have hsz2 : w.heap.size + 1 ≤ (wr.iterAt w.heap.size s ((2 * k) + 1)).heap.size := by rw [Lib.iterAt_size]; exact hsz
          have hip2 : (wr.iterAt w.heap.size s ((2 * k) + 1)).iterPos w.heap.size = (2 * k) + 1 := by simp [World.iterPos, hit2]
          generalize wr.iterAt w.heap.size s ((2 * k) + 1) = W1 at hnx hbw hit2 how2 hsz2 hip2
          have HR := Lib.hid (rune_low s[2 * k] hlo)
          replace hip2 := Lib.hid hip2
          replace hp0 := Lib.hid hp0
          replace hit2 := Lib.hid hit2
          replace how2 := Lib.hid how2
          clear hd hit hown hsz
          rcases unD_bd s[2 * k] with hn | ⟨hn1, hn2⟩
          · have hres : unhexS s = (⟨#[]⟩, 40) := unhexS_none (told_bad1 hT.out hpl (by rw [hpe, hn]; decide))
            replace hres := Lib.hid hres
            replace hn := Lib.hid hn
            clear hT
            go_wp2_with fail
            refine (HR.out _).mono ?_
            rintro e w2 ⟨rfl, rfl⟩
            rw [hn.out]
            go_wp2
            go_ret2
            exact ⟨by rw [hres.out]; rfl, hbw⟩
          · have hun : unD s.data.toList[2 * k] = unD s[2 * k] := rfl
            have HZ := Lib.hid hn1
            generalize hzz : unD s[2 * k] = z at hn1 hn2
            replace hzz := Lib.hid hzz
            replace hun := Lib.hid hun
            go_wp2_with fail
            refine (HR.out _).mono ?_
            rintro e w2 ⟨rfl, rfl⟩
            rw [hzz.out]
            go_wp2
            go_roundw
            case rel => exact ⟨2 * k + 1, k, out, by omega, hit2.out, hT.out, .inr ⟨rfl, hpl, HZ.out, by rw [hun.out, hzz.out]⟩, how2.out, hsz2, hbw⟩
            case measure => rw [hip2.out, hp0.out]; omega
        · have hd := (decode_high s (2 * k) hp (by omega)).1
          have hres : unhexS s = (⟨#[]⟩, 40) := unhexS_none (told_bad1 hT.out hpl (by rw [hpe]; exact unD_high _ (by omega)))
          replace hres := Lib.hid hres
          have hbw2 : Below w.heap.size w (wr.iterAt w.heap.size s ((2 * k) + (Utf8.decode s (2 * k)).2)) := hbw
          generalize wr.iterAt w.heap.size s ((2 * k) + (Utf8.decode s (2 * k)).2) = W1 at hnx hbw2
          generalize (Utf8.decode s (2 * k)).1 = r at hnx hd
          clear hit hown hbw hp0 hT
          go_wp2_with fail
          refine (rune_high r hd _).mono ?_
          rintro e w2 ⟨rfl, hb2⟩
          have hb3 := hbw2.trans (hb2.mono hbw2.size)
          go_wp2
          go_ret2
          exact ⟨by rw [hres.out]; rfl, hb3⟩
      · subst h1
        by_cases hlo : s[2 * k + 1].toNat < 128
        · have hd := decode_ascii s (2 * k + 1) hp hlo
          simp only [hd] at hnx hbw
          have hit2 := Lib.iterAt_heap wr w.heap.size s (2 * k + 1) ((2 * k + 1) + 1) hit
          have how2 := row_iter (q := (2 * k + 1) + 1) hown (Nat.lt_succ_self _) hit
          have hsz2 : w.heap.size + 1 ≤ (wr.iterAt w.heap.size s ((2 * k + 1) + 1)).heap.size := by rw [Lib.iterAt_size]; exact hsz
          have hip2 : (wr.iterAt w.heap.size s ((2 * k + 1) + 1)).iterPos w.heap.size = (2 * k + 1) + 1 := by simp [World.iterPos, hit2]
          generalize wr.iterAt w.heap.size s ((2 * k + 1) + 1) = W1 at hnx hbw hit2 how2 hsz2 hip2
          have HR := Lib.hid (rune_low s[2 * k + 1] hlo)
          replace hip2 := Lib.hid hip2
          replace hp0 := Lib.hid hp0
          replace hit2 := Lib.hid hit2
          replace how2 := Lib.hid how2
          clear hd hit hown hsz
          have hzb := (unD_bd s.data.toList[2 * k]).resolve_left (by omega)
          rcases unD_bd s[2 * k + 1] with hn | ⟨hn1, hn2⟩
          · have hres : unhexS s = (⟨#[]⟩, 40) := unhexS_none (told_bad2 hT.out hpl (by rw [hpe, hn]; decide))
            replace hres := Lib.hid hres
            replace hn := Lib.hid hn
            generalize unD s.data.toList[2 * k] = z at hz hzb ⊢
            clear hT
            go_wp2_with fail
            refine (HR.out _).mono ?_
            rintro e w2 ⟨rfl, rfl⟩
            rw [hn.out]
            go_wp2
            go_ret2
            exact ⟨by rw [hres.out]; rfl, hbw⟩
          · have hTs := told_succ hT.out hnl hpl hz hn1
            have hun : unD s.data.toList[2 * k + 1] = unD s[2 * k + 1] := rfl
            rw [hun] at hTs
            have hlen := hT.out.1
            clear hun
            obtain ⟨x, hx⟩ := Int.eq_ofNat_of_zero_le hz
            obtain ⟨y, hy⟩ := Int.eq_ofNat_of_zero_le hn1
            rw [hx] at hTs hzb ⊢
            rw [hy] at hTs hn2
            have hor : bits .or .i64 ((x : Int) * 16) (y : Int) = (x : Int) * 16 + (y : Int) := bits_join .i64 62 (by decide) (fun n h0 h1 => by rw [IntKind.wrap_i64]; omega) 4 _ _ (by omega) (by omega) (by omega) (by omega) (by omega) (by omega)
            have hb8 : (x : Int) * 16 + (y : Int) ≤ 255 := by omega
            have hcell : Lib.byteCells (out ++ [UInt8.ofNat (16 * x + y)]) = Lib.byteCells out ++ [.int .u8 ((x : Int) * 16 + (y : Int))] := by
              have e : (((UInt8.ofNat (16 * x + y)).toNat : Nat) : Int) = (x : Int) * 16 + (y : Int) := by simp; omega
              simp only [Lib.byteCells, List.map_append, List.map_cons, List.map_nil, e]
            replace hcell := Lib.hid hcell
            replace hTs := Lib.hid hTs
            replace hy := Lib.hid hy
            clear hx
            go_wp2_with fail
            refine (HR.out _).mono ?_
            rintro e w2 ⟨rfl, rfl⟩
            rw [hy.out]
            go_wp2_with (at_builtin; refine wpList_append_own _ rfl _ _ 41 rfl (w.heap.size + 1) 5 i0 (.int .u8 0) 1 1 Tryd.underlying41 hi hz0 hz1 hz2 rfl (by decide) _ _ _ rfl (how2.out.alloc _) ⟨W1.heap.size, 0, none⟩ 1 1 [.int .u8 ((x : Int) * 16 + (y : Int))] rfl rfl (cell_one_new _ _ _) (fun u hu => by simp at hu; subst hu; rfl) (by unfold maxLen; omega) (by omega) (by simp; omega) ?_; intro v' w3 hown' hgrow3 hnil3)
            have hit3 : w3.heap[w.heap.size]? = some (.stringIter s (2 * k + 1 + 1)) := (hgrow3.block w.heap.size (by simp; omega) (fun e => by have := (how2.out.lt _ e.symm).1; omega)).trans (heap_alloc_old _ _ hit2.out)
            have hb3 : Below w.heap.size w w3 := (hbw.alloc hbw.size _).grown hgrow3 (by simp; omega) (fun q hq => by have := (how2.out.lt q hq).1; omega)
            have hip3 : w3.iterPos w.heap.size = 2 * k + 1 + 1 := by simp [World.iterPos, hit3]
            have hsz3 : w.heap.size + 1 ≤ w3.heap.size := by have := hgrow3.size; simp at this; omega
            replace hip3 := Lib.hid hip3
            go_roundw
            case rel => exact ⟨2 * k + 1 + 1, k + 1, out ++ [UInt8.ofNat (16 * x + y)], by omega, hit3, hTs.out, .inl ⟨by omega, rfl⟩, by rw [hcell.out, List.length_append]; exact hown', hsz3, hb3⟩
            case measure => rw [hip3.out, hp0.out]; omega
        · have hd := (decode_high s (2 * k + 1) hp (by omega)).1
          have hres : unhexS s = (⟨#[]⟩, 40) := unhexS_none (told_bad2 hT.out hpl (by rw [hpe]; exact unD_high _ (by omega)))
          replace hres := Lib.hid hres
          have hbw2 : Below w.heap.size w (wr.iterAt w.heap.size s ((2 * k + 1) + (Utf8.decode s (2 * k + 1)).2)) := hbw
          generalize wr.iterAt w.heap.size s ((2 * k + 1) + (Utf8.decode s (2 * k + 1)).2) = W1 at hnx hbw2
          generalize (Utf8.decode s (2 * k + 1)).1 = r at hnx hd
          have hzb := (unD_bd s.data.toList[2 * k]).resolve_left (by omega)
          generalize unD s.data.toList[2 * k] = z at hz hzb ⊢
          clear hit hown hbw hp0 hT
          go_wp2_with fail
          refine (rune_high r hd _).mono ?_
          rintro e w2 ⟨rfl, hb2⟩
          have hb3 := hbw2.trans (hb2.mono hbw2.size)
          go_wp2
          go_ret2
          exact ⟨by rw [hres.out]; rfl, hb3⟩
    · have hnx : ∀ ty, (Instr.next (.pointer (some ⟨w.heap.size, 0, none⟩)) true ty).run Tryd.prog wr = _ := fun ty => Lib.run_next_end_at wr w.heap.size s pos ty hit hp
      obtain rfl : pos = s.size := by omega
      clear hit hp0 hp
      rcases hcase with ⟨h1, rfl⟩ | ⟨h1, hn, hd, rfl⟩
      · have hres := unhexS_some (told_end hT.out (by rw [hls.out]; omega))
        have hcv := conv_row hown
        replace hres := Lib.hid hres
        clear hown hT h1
        go_wp2
        go_ret2
        exact ⟨by rw [hres.out]; rfl, hb⟩
      · have hres := unhexS_none (told_odd hT.out (by rw [hls.out]; omega))
        replace hres := Lib.hid hres
        generalize unD s.data.toList[2 * k] = z at hd ⊢
        clear hown hT h1
        go_wp2
        go_ret2
        exact ⟨by rw [hres.out]; rfl, hb⟩
end Go.Proofs.YtiakcjckebghlaaDoor
