/-
  Roles: words that are right, by the program and by the document.
-/
import Derived.Test.YthlccacnoolpjaaDoorR10
import Derived.Lib.OthersKept
import Derived.Laws.RangeAny
import Derived.Laws.RangeString
namespace Go.Proofs.YthlccacnoolpjaaDoor
open Go.RowKit Go.Shelf

def okB (b : UInt8) : Bool := decide (32 ≤ b.toNat) && decide (b.toNat ≤ 126)
def plainTo (s : ByteArray) (k : Nat) : Bool := (s.data.toList.take k).all okB
def plainS (s : ByteArray) : Bool := s.data.toList.all okB
theorem plainTo_succ (s : ByteArray) (k : Nat) (h : k < s.size) : plainTo s (k + 1) = (plainTo s k && okB s[k]) := by
  have hl : k < s.data.toList.length := by simpa using h
  unfold plainTo
  rw [List.take_succ_eq_append_getElem hl, List.all_append]
  simp
  rfl
theorem plainTo_all (s : ByteArray) : plainTo s s.size = plainS s := by
  unfold plainTo plainS
  rw [List.take_of_length_le (Nat.le_of_eq (Lib.size_eq s).symm)]
theorem plainS_not (s : ByteArray) (k : Nat) (h : k < s.size) (hb : okB s[k] = false) : plainS s = false := by
  have e := plainTo_succ s k h
  rw [hb, Bool.and_false] at e
  unfold plainTo at e
  unfold plainS
  rw [← List.take_append_drop (k + 1) s.data.toList, List.all_append, e]; rfl
theorem iterPos_of {w : World} {k : Nat} {s : ByteArray} {p : Nat} (h : w.heap[k]? = some (.stringIter s p)) : w.iterPos k = p := by simp [World.iterPos, h]

set_option maxHeartbeats 2000000 in
theorem isPlain_any (s : ByteArray) (w : World) : Calls Tryd.prog 39 #[.string s] w fun e w' => e = .returned (.bool (plainS s)) ∧ Below w.heap.size w w' := by
  go_enter Tryd.func39, Tryd.ntmps39
  go_wp2
  go_loopw [4] (fun _ wr => ∃ pos : Nat, pos ≤ s.size ∧ wr.heap[w.heap.size]? = some (.stringIter s pos) ∧ plainTo s pos = true ∧ Below w.heap.size w wr) (fun _ wr => s.size - wr.iterPos w.heap.size)
  case atStart => exact ⟨0, Nat.zero_le _, World.iter_heap w s 0, by simp [plainTo], (Below.refl _ _).alloc (Nat.le_refl _) _⟩
  case round =>
    obtain ⟨pos, hle, hit, hpl, hb⟩ := hrel
    replace hpl := Lib.hid hpl
    have hp0 := iterPos_of hit
    by_cases hp : pos < s.size
    · have hnx : ∀ ty, (Instr.next (.pointer (some ⟨w.heap.size, 0, none⟩)) true ty).run Tryd.prog wr = _ := fun ty => Lib.run_next_any_at wr w.heap.size s pos ty hit hp
      have hbw := Lib.below_iterAt hb (k := w.heap.size) (Nat.le_refl _) s (pos + (Utf8.decode s pos).2)
      by_cases hlo : s[pos].toNat < 128
      · have hd := decode_ascii s pos hp hlo
        simp only [hd] at hnx hbw
        have hit2 := Lib.iterAt_heap wr w.heap.size s pos (pos + 1) hit
        have hsu := plainTo_succ s pos hp
        have hno := plainS_not s pos hp
        clear hd
        cases hok : okB s[pos]
        · have hres := hno hok
          replace hres := Lib.hid hres
          have hcs : s[pos].toNat < 32 ∨ 126 < s[pos].toNat := by
            have h := hok
            simp only [okB, Bool.and_eq_false_iff, decide_eq_false_iff_not] at h
            omega
          generalize s[pos].toNat = c at hnx hcs hlo
          clear hno hsu hok hit
          rcases hcs with hcs | hcs
          · have hz : (c : Int) < 32 := by omega
            go_wp2
            go_ret
            exact ⟨by rw [hres.out]; rfl, by assumption⟩
          · have hz : ¬ (c : Int) < 32 := by omega
            have hz2 : (126 : Int) < (c : Int) := by omega
            go_wp2
            go_ret
            exact ⟨by rw [hres.out]; rfl, by assumption⟩
        · have hpl2 : plainTo s (pos + 1) = true := by rw [hsu, hpl.out, hok]; rfl
          replace hpl2 := Lib.hid hpl2
          have hcs : 32 ≤ s[pos].toNat ∧ s[pos].toNat ≤ 126 := by
            have h := hok
            simp only [okB, Bool.and_eq_true, decide_eq_true_eq] at h
            exact h
          generalize s[pos].toNat = c at hnx hcs hlo
          have hz : ¬ (c : Int) < 32 := by omega
          have hz2 : ¬ (126 : Int) < (c : Int) := by omega
          have hi2 := iterPos_of hit2
          clear hno hsu hok hit hcs
          go_wp2
          go_roundw
          case rel => exact ⟨pos + 1, by omega, hit2, hpl2.out, hbw⟩
          case measure => rw [hi2, hp0]; omega
      · have hd := (decode_high s pos hp (by omega)).1
        have hok : okB s[pos] = false := by
          simp only [okB, Bool.and_eq_false_iff, decide_eq_false_iff_not]
          omega
        have hres := plainS_not s pos hp hok
        replace hres := Lib.hid hres
        generalize Utf8.decode s pos = dd at hnx hbw hd
        obtain ⟨c, k⟩ := dd
        simp only at hnx hbw hd
        have hz : ¬ (c : Int) < 32 := by omega
        have hz2 : (126 : Int) < (c : Int) := by omega
        clear hok hit
        go_wp2
        go_ret
        exact ⟨by rw [hres.out]; rfl, by assumption⟩
    · have hnx : ∀ ty, (Instr.next (.pointer (some ⟨w.heap.size, 0, none⟩)) true ty).run Tryd.prog wr = _ := fun ty => Lib.run_next_end_at wr w.heap.size s pos ty hit hp
      obtain rfl : pos = s.size := by omega
      have hres : plainS s = true := by rw [← plainTo_all]; exact hpl.out
      replace hres := Lib.hid hres
      clear hit hp0
      go_wp2
      go_ret
      exact ⟨by rw [hres.out]; rfl, by assumption⟩

set_option maxHeartbeats 2000000 in
theorem rplain_any (s : ByteArray) (hs : s.size ≤ 9223372036854775806) (w : World) : Calls Tryd.prog 38 #[.string s] w fun e w' => e = .returned (.bool (plainS s)) ∧ w = w' := by
  replace hs := Lib.hid hs
  go_enter Tryd.func38, Tryd.ntmps38
  go_wp2
  go_loop [3] (fun i => ∃ k : Nat, k ≤ s.size ∧ i = .int .i64 (k : Int) ∧ plainTo s k = true) (fun i => s.size - (intOf i).toNat)
  case atStart => exact ⟨0, Nat.zero_le _, rfl, by simp [plainTo]⟩
  case round =>
    obtain ⟨k, hk, rfl, hpl⟩ := hrel
    replace hpl := Lib.hid hpl
    by_cases hlt : k < s.size
    · have hs1 : s.size ≤ 9223372036854775806 := hs.out
      have hsu := plainTo_succ s k hlt
      have hno := plainS_not s k hlt
      cases hok : okB s[k]
      · have hres := hno hok
        replace hres := Lib.hid hres
        have hcs : s[k].toNat < 32 ∨ 126 < s[k].toNat := by
          have h := hok
          simp only [okB, Bool.and_eq_false_iff, decide_eq_false_iff_not] at h
          omega
        clear hno hsu hok
        rcases hcs with hcs | hcs
        · have hz : (s[k].toNat : Int) < 32 := by omega
          go_wp2
          go_ret
          exact ⟨by rw [hres.out]; rfl, rfl⟩
        · have hz : ¬ (s[k].toNat : Int) < 32 := by omega
          have hz2 : (126 : Int) < (s[k].toNat : Int) := by omega
          go_wp2
          go_ret
          exact ⟨by rw [hres.out]; rfl, rfl⟩
      · have hpl2 : plainTo s (k + 1) = true := by rw [hsu, hpl.out, hok]; rfl
        replace hpl2 := Lib.hid hpl2
        have hcs : 32 ≤ s[k].toNat ∧ s[k].toNat ≤ 126 := by
          have h := hok
          simp only [okB, Bool.and_eq_true, decide_eq_true_eq] at h
          exact h
        have hz : ¬ (s[k].toNat : Int) < 32 := by omega
        have hz2 : ¬ (126 : Int) < (s[k].toNat : Int) := by omega
        clear hno hsu hok hcs
        go_wp2
        go_round
        case rel => exact ⟨k + 1, by omega, by go_num, hpl2.out⟩
        case measure => simp [intOf]; omega
    · obtain rfl : k = s.size := by omega
      have hres : plainS s = true := by rw [← plainTo_all]; exact hpl.out
      replace hres := Lib.hid hres
      go_wp2
      go_ret
      exact ⟨by rw [hres.out]; rfl, rfl⟩

def wordR (s : ByteArray) : Bool := decide (s.size ≤ 64) && plainS s
theorem wright_any (s : ByteArray) (w : World) : Calls Tryd.prog 37 #[.string s] w fun e w' => e = .returned (.bool (wordR s)) ∧ Below w.heap.size w w' := by
  by_cases h : s.size ≤ 64
  · have e : wordR s = plainS s := by simp [wordR, h]
    replace e := Lib.hid e
    go_enter Tryd.func37, Tryd.ntmps37
    go_wp2_with fail
    refine (isPlain_any s w).mono ?_
    rintro e1 w1 ⟨rfl, hb⟩
    go_wp2
    go_ret
    exact ⟨by rw [e.out]; rfl, hb⟩
  · have e : wordR s = false := by simp [wordR, h]
    replace e := Lib.hid e
    go_enter Tryd.func37, Tryd.ntmps37
    go_wp2
    go_ret
    exact ⟨by rw [e.out]; rfl, Below.refl _ _⟩
theorem rwright_any (s : ByteArray) (w : World) : Calls Tryd.prog 34 #[.string s] w fun e w' => e = .returned (.bool (wordR s)) ∧ w = w' := by
  by_cases h : s.size ≤ 64
  · have e : wordR s = plainS s := by simp [wordR, h]
    replace e := Lib.hid e
    go_enter Tryd.func34, Tryd.ntmps34
    go_wp2_with fail
    refine (rplain_any s (by omega) w).mono ?_
    rintro e1 w1 ⟨rfl, rfl⟩
    go_wp2
    go_ret
    exact ⟨by rw [e.out]; rfl, rfl⟩
  · have e : wordR s = false := by simp [wordR, h]
    replace e := Lib.hid e
    go_enter Tryd.func34, Tryd.ntmps34
    go_wp2
    go_ret
    exact ⟨by rw [e.out]; rfl, rfl⟩

/-! ### an operator -/
theorem ret_bool {a b : Bool} (h : a = b) : Ending.returned (Value.bool a) = .returned (.bool b) := by rw [h]
def namedS (s : ByteArray) : Bool := !(s == ByteArray.empty) && wordR s
def roledS (r : Int) : Bool := setsS r != 0
theorem named_any (s : ByteArray) (r : Int) (w : World) : Calls Tryd.prog 32 #[.agg #[.string s, .int .i64 r]] w fun e w' => e = .returned (.bool (namedS s)) ∧ Below w.heap.size w w' := by
  by_cases h : s = ByteArray.empty
  · have e : namedS s = false := by
      have : (s == ByteArray.empty) = true := (MapKept.bytes_beq _ _).2 h
      rw [namedS, this]; rfl
    replace e := Lib.hid e
    have hb := beq_same ByteArray.empty
    subst h
    go_enter Tryd.func32, Tryd.ntmps32
    go_wp2
    go_ret
    exact ⟨by rw [e.out]; rfl, ba (Below.refl _ _) _⟩
  · have e : namedS s = wordR s := by
      have : (s == ByteArray.empty) = false := by rw [beq_toListBytes]; exact beq_ne h
      rw [namedS, this]; rfl
    replace e := Lib.hid e
    have hb : ¬ s.toList = [] := fun e0 => by
      have h1 := beq_ne h
      rw [e0] at h1
      exact absurd h1 (by decide +kernel)
    clear h
    go_enter Tryd.func32, Tryd.ntmps32
    go_wp2_with fail
    refine (wright_any s _).mono ?_
    rintro e1 w1 ⟨rfl, hb1⟩
    have hb2 := Lib.hid hb
    go_wp2
    go_ret
    exact ⟨ret_bool (by rw [e.out, show s.toList.isEmpty = false by simpa using hb2.out]; rfl), bstep (Below.refl _ _) hb1⟩
theorem roled_any (s : ByteArray) (r : Int) (w : World) : Calls Tryd.prog 33 #[.agg #[.string s, .int .i64 r]] w fun e w' => e = .returned (.bool (roledS r)) ∧ Below w.heap.size w w' := by
  go_enter Tryd.func33, Tryd.ntmps33
  go_wp2_with fail
  refine (sets_any _ _).mono ?_
  rintro e w1 ⟨rfl, rfl⟩
  go_wp2
  go_ret
  exact ⟨rfl, ba (Below.refl _ _) _⟩
end Go.Proofs.YthlccacnoolpjaaDoor
