/-
  Roles: whose role it is, by the document; the first one hundred bytes; the first twelve operators.
-/
import Derived.Test.YthlccacnoolpjaaDoorR14
import Derived.Deep.AppendLies
import Derived.Deep.RegionLaw
namespace Go.Proofs.YthlccacnoolpjaaDoor
open Go.RowKit Go.Shelf

set_option maxHeartbeats 2000000 in
theorem rfind_any (u : Value) (zs : List Opr) (s : ByteArray) (h1000 : zs.length ≤ 1000) (w : World) (hu : Ops w u zs) : Calls Tryd.prog 23 #[u, .string s] w fun e w' => e = .returned (.tuple #[.int .i64 (findS zs s).1, .int .i64 (findS zs s).2]) ∧ Below w.heap.size w w' := by
  obtain ⟨a, ca, rfl⟩ := hu.len
  have HU := Lib.hid hu
  clear hu
  cases hrt : rightS zs
  · have hres := findS_wrong zs s hrt
    replace hres := Lib.hid hres
    replace hrt := Lib.hid hrt
    by_cases h0 : (0 : Int) < (zs.length : Int)
    · go_enter Tryd.func23, Tryd.ntmps23
      go_wp2_with fail
      go_loopw [6] (fun i wr => i = .int .i64 0 ∧ wr = w) (fun i _ => 0)
      case atStart => exact ⟨rfl, rfl⟩
      case round =>
        obtain ⟨rfl, rfl⟩ := hrel
        go_wp2_with fail
        refine (rright_any _ zs h1000 _ HU.out).mono ?_
        rintro e w1 ⟨rfl, hb⟩
        rw [hrt.out]
        go_wp2
        go_ret2
        exact ⟨by rw [hres.out]; rfl, hb⟩
    · have hz : zs = [] := by
        cases zs with
        | nil => rfl
        | cons => exact absurd (by simp) h0
      subst hz
      have : rightS [] = true := by decide +kernel
      rw [this] at hrt
      exact absurd hrt.out (by simp)
  have HR := Lib.hid hrt
  clear hrt
  go_enter Tryd.func23, Tryd.ntmps23
  go_wp2_with fail
  go_loopw [6] (fun i wr => ∃ k : Nat, k ≤ zs.length ∧ i = .int .i64 (k : Int) ∧ hasTo zs s k = false ∧ Below w.heap.size w wr) (fun i _ => zs.length - (intOf i).toNat)
  case atStart => exact ⟨0, Nat.zero_le _, rfl, by simp [hasTo], Below.refl _ _⟩
  case round =>
    obtain ⟨k, hk, rfl, hno, hb⟩ := hrel
    replace hno := Lib.hid hno
    by_cases hlt : k < zs.length
    · go_wp2_with fail
      refine (rright_any _ zs h1000 _ (HU.out.below hb)).mono ?_
      rintro e w1 ⟨rfl, hb1⟩
      have hb2 := bcall hb hb1
      rw [HR.out]
      clear hb hb1
      rcases HU.out.below hb2 with ⟨h, rfl⟩ | ⟨b1, o1, c1, h, hl1, hc1⟩
      · simp at hlt
      cases h
      obtain ⟨d1, d2⟩ := hc1 k hlt
      have hsu := has_succ zs s k hlt hno.out
      have hit := findS_hit zs s k hlt HR.out hno.out
      clear hc1
      generalize zs[k]?.getD opr0 = z at d1 d2 hsu hit
      obtain ⟨t, r⟩ := z
      simp only at d1 d2 hsu hit
      have hk0 : (0 : Int) ≤ (k : Int) := Int.natCast_nonneg _
      have hk1 : (k : Int) < (zs.length : Int) := by omega
      cases hz : t == s
      · rw [hz] at hsu
        replace hsu := Lib.hid hsu
        have hz2 := hz
        rw [beq_toListBytes] at hz2
        clear hit hz
        go_wp2
        go_roundw
        case rel => exact ⟨k + 1, by omega, by go_num, hsu.out, hb2⟩
        case measure => simp [intOf]; omega
      · have hres := hit hz
        replace hres := Lib.hid hres
        have hz2 := hz
        rw [beq_toListBytes] at hz2
        clear hit hz hsu
        go_wp2
        go_ret2
        exact ⟨by rw [hres.out]; rfl, hb2⟩
    · obtain rfl : k = zs.length := by omega
      have hres := findS_miss zs s hno.out
      replace hres := Lib.hid hres
      clear hno
      go_wp2
      go_ret2
      exact ⟨by rw [hres.out]; rfl, hb⟩

/-- the first n bytes -/
def cutS (n : Nat) (s : ByteArray) : ByteArray := if n < s.size then s.extract 0 n else s
theorem ret_str {a b : ByteArray} (h : a = b) : Ending.returned (Value.string a) = .returned (.string b) := by rw [h]
theorem cut_any (s : ByteArray) (w : World) : Calls Tryd.prog 9 #[.string s] w fun e w' => e = .returned (.string (cutS 100 s)) ∧ w = w' := by
  by_cases h : (100 : Int) < (s.size : Int)
  · have e : cutS 100 s = s.extract 0 100 := by rw [cutS, if_pos (by omega)]
    replace e := Lib.hid e
    go_enter Tryd.func9, Tryd.ntmps9
    go_wp2
    go_ret
    exact ⟨ret_str (by rw [e.out]), rfl⟩
  · have e : cutS 100 s = s := by rw [cutS, if_neg (by omega)]
    replace e := Lib.hid e
    go_enter Tryd.func9, Tryd.ntmps9
    go_wp2
    go_ret
    exact ⟨ret_str (by rw [e.out]), rfl⟩

def oprCells : List Opr → List Value
  | [] => []
  | o :: r => .string o.1 :: .int .i64 o.2 :: oprCells r
theorem oprCells_append (b : List Opr) : ∀ a : List Opr, oprCells (a ++ b) = oprCells a ++ oprCells b
  | [] => rfl
  | x :: r => by simp only [List.cons_append, oprCells, oprCells_append b r]
theorem oprCells_len : ∀ a : List Opr, (oprCells a).length = a.length * 2
  | [] => rfl
  | x :: r => by simp only [oprCells, List.length_cons, oprCells_len r]; omega
theorem oprCells_at : ∀ (a : List Opr) (j : Nat), j < a.length → (oprCells a)[j * 2]? = some (.string (a[j]?.getD opr0).1) ∧ (oprCells a)[j * 2 + 1]? = some (.int .i64 (a[j]?.getD opr0).2)
  | x :: r, 0, _ => ⟨rfl, rfl⟩
  | x :: r, j + 1, h => by
    have e := oprCells_at r j (by simpa using h)
    rw [show (j + 1) * 2 = j * 2 + 1 + 1 by omega]
    simpa [oprCells] using e
def few1 (o : Opr) : Opr := (cutS 66 o.1, o.2)
def fewTo (zs : List Opr) (k : Nat) : List Opr := (zs.take k).map few1
theorem few_succ (zs : List Opr) (k : Nat) (hk : k < zs.length) : oprCells (fewTo zs (k + 1)) = oprCells (fewTo zs k) ++ [.string (cutS 66 (zs[k]?.getD opr0).1), .int .i64 (zs[k]?.getD opr0).2] := by
  unfold fewTo
  rw [List.take_succ_eq_append_getElem hk, List.map_append, oprCells_append]
  simp [oprCells, few1, hk]
theorem Ops.of_row {W : World} {base : Nat} {v : Value} {zs : List Opr} (h : W.ownsRow base 42 2 v zs.length (oprCells zs)) : Ops W v zs := by
  rcases h.2 with ⟨rfl, h0⟩ | ⟨g, cap, cur, rfl, hb, hg, hr⟩
  · exact .inl ⟨rfl, by simpa using h0⟩
  · refine .inr ⟨g, 0, cap, rfl, (Array.getElem?_eq_some_iff.1 hg).1, fun j hj => ?_⟩
    obtain ⟨_, _, _, ht⟩ := hr
    have key : ∀ i, i < zs.length * 2 → W.cell? ⟨g, 0 + i, none⟩ = (oprCells zs)[i]? := fun i hi => by
      rw [cell_of_row W g _ _ _ _ hg, Nat.zero_add, ← Array.getElem?_toList]
      have e1 : (cur.toList.take (zs.length * 2))[i]? = cur.toList[i]? := List.getElem?_take_of_lt hi
      rw [← e1, ht]
    obtain ⟨e1, e2⟩ := oprCells_at zs j hj
    exact ⟨(key (j * 2) (by omega)).trans e1, (key (j * 2 + 1) (by omega)).trans e2⟩
theorem few_done (base : Nat) (W : World) (o : Value) (zs : List Opr) (k : Nat) (h : W.ownsRow base 42 2 o k (oprCells (fewTo zs k))) (hk : k = 12 ∧ k ≤ zs.length ∨ k = zs.length ∧ k ≤ 12) : Ops W o (fewTo zs 12) := by
  have e : fewTo zs k = fewTo zs 12 := by
    rcases hk with ⟨rfl, _⟩ | ⟨rfl, h12⟩
    · rfl
    · unfold fewTo; rw [List.take_of_length_le (Nat.le_refl _), List.take_of_length_le h12]
  have hl : (fewTo zs 12).length = k := by
    unfold fewTo; simp; omega
  rw [e] at h
  refine Ops.of_row (base := base) ?_
  rw [hl]; exact h
theorem few_grow {w wr w3 : World} {o : Obj} {v : Value} {k : Nat} {xs : List Value} (hb : Below w.heap.size w wr) (hown : wr.ownsRow w.heap.size 42 2 v k xs) (hgrow : (wr.alloc o).drew.grownBy w3 v.ownBlock) : Below w.heap.size w w3 :=
  (belowN (hb.alloc hb.size o) 1).grown hgrow (by have := hb.size; simp; omega) (fun q hq => (hown.lt q hq).1)
theorem info42 : (Tryd.prog.info? 42).map (fun i => (i.zero, i.size, i.bytes)) = some (some (.agg #[.string ⟨#[]⟩, .int .i64 0]), 2, 24) := by kernel_rfl
set_option maxHeartbeats 2000000 in
theorem few_any (u : Value) (zs : List Opr) (w : World) (hu : Ops w u zs) : Calls Tryd.prog 21 #[u] w fun e w' => ∃ v, e = .returned v ∧ Ops w' v (fewTo zs 12) ∧ Below w.heap.size w w' := by
  obtain ⟨i0, hi, hz0, hz1, hz2⟩ := info_parts info42
  obtain ⟨a, ca, rfl⟩ := hu.len
  have HU := Lib.hid hu
  clear hu
  go_enter Tryd.func21, Tryd.ntmps21
  go_wp2_with fail
  go_loopw [3, 4] (fun o i wr => ∃ k : Nat, k ≤ zs.length ∧ k ≤ 12 ∧ i = .int .i64 (k : Int) ∧ wr.ownsRow w.heap.size 42 2 o k (oprCells (fewTo zs k)) ∧ Below w.heap.size w wr) (fun _ i _ => 12 - (intOf i).toNat)
  case atStart => exact ⟨0, Nat.zero_le _, Nat.zero_le _, rfl, World.ownsRow_nil _ _ _ _, Below.refl _ _⟩
  case round =>
    obtain ⟨k, hk, h12, rfl, hown, hb⟩ := hrel
    by_cases hlt : k < zs.length
    · by_cases hlt2 : k < 12
      · rcases HU.out.below hb with ⟨h, rfl⟩ | ⟨b1, o1, c1, h, hl1, hc1⟩
        · simp at hlt
        cases h
        obtain ⟨d1, d2⟩ := hc1 k hlt
        have hfe := few_succ zs k hlt
        generalize zs[k]?.getD opr0 = z at d1 d2 hfe
        obtain ⟨s, r⟩ := z
        simp only at d1 d2 hfe
        clear hc1
        replace hfe := Lib.hid hfe
        have hk0 : (0 : Int) ≤ (k : Int) := Int.natCast_nonneg _
        have hk1 : (k : Int) < (zs.length : Int) := by omega
        by_cases hs : (66 : Int) < (s.size : Int)
        · have cut1 := fun (s : ByteArray) (h : (66 : Int) < (s.size : Int)) => show cutS 66 s = s.extract 0 66 by rw [cutS, if_pos (by omega)]
          have hc1 := cut1 s hs
          replace hc1 := Lib.hid hc1
          have hs2 : (66 : Int) ≤ (s.size : Int) := by omega
          have hnw : ∀ j u, [Value.string (s.extract 0 66), .int .i64 r][j]? = some u → (wr.alloc (.cells #[.string (s.extract 0 66), .int .i64 r] 42)).cell? ((⟨wr.heap.size, 0, none⟩ : Addr).add j) = some u := World.news_of_block (cs := #[.string (s.extract 0 66), .int .i64 r]) (heap_alloc_last wr _)
          replace hnw := Lib.hid hnw
          have hsz : w.heap.size ≤ (wr.alloc (.cells #[.string (s.extract 0 66), .int .i64 r] 42)).heap.size := by have := hb.size; simp; omega
          replace hsz := Lib.hid hsz
          go_wp2_with fail
          go_region_law ((refine step_append_lies _ rfl (.tmp 15) (.tmp 35) 34 rfl w.heap.size 42 i0 _ 2 24 Tryd.underlying34 hi hz0 hz1 hz2 rfl (by decide) _ k _ rfl (hown.alloc _) ⟨wr.heap.size, 0, none⟩ 1 1 [.string (s.extract 0 66), .int .i64 r] rfl rfl hnw.out (by intro u hu; simp at hu; rcases hu with rfl | rfl <;> rfl) (by decide) (by unfold maxLen; omega) (by omega) hsz.out _ rfl ?_; intro g cap w3 hown' hgrow hat hglt))
          all_goals
            go_wp2
            go_roundw
            case rel => exact ⟨k + 1, by omega, by omega, by go_num, by rw [hfe.out, hc1.out]; exact hown', few_grow hb hown hgrow⟩
            case measure => simp [intOf]; omega
        · have cut1 := fun (s : ByteArray) (h : ¬ (66 : Int) < (s.size : Int)) => show cutS 66 s = s by rw [cutS, if_neg (by omega)]
          have hc1 := cut1 s hs
          replace hc1 := Lib.hid hc1
          have hs2 : (if (66 : Int) < (s.size : Int) then (66 : Int) else (s.size : Int)) = (s.size : Int) := if_neg hs
          have hnw : ∀ j u, [Value.string s, .int .i64 r][j]? = some u → (wr.alloc (.cells #[.string s, .int .i64 r] 42)).cell? ((⟨wr.heap.size, 0, none⟩ : Addr).add j) = some u := World.news_of_block (cs := #[.string s, .int .i64 r]) (heap_alloc_last wr _)
          replace hnw := Lib.hid hnw
          have hsz : w.heap.size ≤ (wr.alloc (.cells #[.string s, .int .i64 r] 42)).heap.size := by have := hb.size; simp; omega
          replace hsz := Lib.hid hsz
          go_wp2_with fail
          go_region_law ((refine step_append_lies _ rfl (.tmp 15) (.tmp 35) 34 rfl w.heap.size 42 i0 _ 2 24 Tryd.underlying34 hi hz0 hz1 hz2 rfl (by decide) _ k _ rfl (hown.alloc _) ⟨wr.heap.size, 0, none⟩ 1 1 [.string s, .int .i64 r] rfl rfl hnw.out (by intro u hu; simp at hu; rcases hu with rfl | rfl <;> rfl) (by decide) (by unfold maxLen; omega) (by omega) hsz.out _ rfl ?_; intro g cap w3 hown' hgrow hat hglt))
          all_goals
            go_wp2
            go_roundw
            case rel => exact ⟨k + 1, by omega, by omega, by go_num, by rw [hfe.out, hc1.out]; exact hown', few_grow hb hown hgrow⟩
            case measure => simp [intOf]; omega
      · obtain rfl : k = 12 := by omega
        have hres := few_done w.heap.size wr _ zs 12 hown (by omega)
        go_wp2
        go_ret
        exact ⟨_, rfl, hres, hb⟩
    · obtain rfl : k = zs.length := by omega
      have hres := few_done w.heap.size wr _ zs zs.length hown (by omega)
      go_wp2
      go_ret
      exact ⟨_, rfl, hres, hb⟩
end Go.Proofs.YthlccacnoolpjaaDoor
