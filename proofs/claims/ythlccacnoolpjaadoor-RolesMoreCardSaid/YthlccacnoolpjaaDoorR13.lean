/-
  Roles: which operators are right, by the program.
-/
import Derived.Test.YthlccacnoolpjaaDoorR12
namespace Go.Proofs.YthlccacnoolpjaaDoor
open Go.RowKit Go.Shelf

/-! ### the map of the names that were met -/
def entsOf : List Opr → Nat → List MapEntry
  | [], _ => []
  | z :: r, i => ⟨.string z.1, .bool true, i⟩ :: entsOf r (i + 1)
theorem entsOf_snoc (z : Opr) : ∀ (l : List Opr) (i : Nat), entsOf (l ++ [z]) i = entsOf l i ++ [⟨.string z.1, .bool true, i + l.length⟩]
  | [], i => by simp [entsOf]
  | y :: r, i => by
    simp only [List.cons_append, entsOf, entsOf_snoc z r (i + 1), List.length_cons]
    rw [show i + 1 + r.length = i + (r.length + 1) by omega]
theorem find_ents (s : ByteArray) : ∀ (l : List Opr) (i : Nat),
    (s ∈ l.map (·.1) ∧ ∃ j, Instr.findNow .string (.string s) (entsOf l i) i = some (some (j, .bool true))) ∨ (s ∉ l.map (·.1) ∧ Instr.findNow .string (.string s) (entsOf l i) i = some none)
  | [], i => .inr ⟨by simp, rfl⟩
  | y :: r, i => by
    by_cases h : s = y.1
    · exact .inl ⟨by simp [h], i, by simp only [entsOf, Instr.findNow, same_str, (MapKept.bytes_beq s y.1).2 h]⟩
    · have e : (s == y.1) = false := Bool.eq_false_iff.2 (fun e => h ((MapKept.bytes_beq s y.1).1 e))
      rcases find_ents s r (i + 1) with ⟨h1, j, h2⟩ | ⟨h1, h2⟩
      · exact .inl ⟨by simp only [List.map_cons, List.mem_cons]; exact .inr h1, j, by simp only [entsOf, Instr.findNow, same_str, e]; exact h2⟩
      · exact .inr ⟨by simp only [List.map_cons, List.mem_cons, not_or]; exact ⟨h, h1⟩, by simp only [entsOf, Instr.findNow, same_str, e]; exact h2⟩

def freshTo (zs : List Opr) (k : Nat) : Bool := decide (((zs.take k).map (·.1)).Nodup)
def freshS (zs : List Opr) : Bool := decide ((zs.map (·.1)).Nodup)
def rightS (zs : List Opr) : Bool := freshS zs && decide (zs.length ≤ 10) && zs.all goodO
theorem fresh_succ (zs : List Opr) (k : Nat) (hk : k < zs.length) (h : freshTo zs k = true) (hn : (zs[k]?.getD opr0).1 ∉ (zs.take k).map (·.1)) : freshTo zs (k + 1) = true := by
  unfold freshTo at h ⊢
  rw [decide_eq_true_eq] at h ⊢
  rw [List.take_succ_eq_append_getElem hk, List.map_append, List.nodup_append]
  refine ⟨h, by simp, ?_⟩
  intro a ha b hb e
  simp at hb
  subst hb
  subst e
  simp only [List.getElem?_eq_getElem hk, Option.getD_some] at hn
  exact hn ha
theorem fresh_not (zs : List Opr) (k : Nat) (hk : k < zs.length) (hn : (zs[k]?.getD opr0).1 ∈ (zs.take k).map (·.1)) : freshS zs = false := by
  unfold freshS
  rw [decide_eq_false_iff_not]
  intro h
  rw [← List.take_append_drop k zs, List.map_append, List.nodup_append] at h
  simp only [List.getElem?_eq_getElem hk, Option.getD_some] at hn
  refine h.2.2 _ hn zs[k].1 (List.mem_map.2 ⟨zs[k], ?_, rfl⟩) rfl
  rw [List.drop_eq_getElem_cons hk]
  exact List.mem_cons_self
theorem fresh_all (zs : List Opr) (h : freshTo zs zs.length = true) : freshS zs = true := by
  unfold freshTo at h
  rwa [List.take_of_length_le (Nat.le_refl _)] at h
theorem good_none : goodO (⟨#[]⟩, 0) = false := by decide +kernel

theorem upd_met {w : World} {M : Nat} {es : Array MapEntry} {c : Nat} (hM : w.heap[M]? = some (.map es c)) {k : ByteArray} {v : Value} (h : Instr.findNow .string (.string k) es.toList 0 = some none) :
    (Instr.mapUpdate 56 (.map (some M)) (.string k) v).run Tryd.prog w = .ok () { w with heap := w.heap.setIfInBounds M (.map (es.push ⟨.string k, v, c⟩) (c + 1)) } :=
  run_mapUpdate_new Tryd.underlying56 Tryd.underlying9 (.inr rfl) hM h
theorem zero4 (w : World) : (zeroValue 4).run Tryd.prog w = .ok (.bool false) w := by kernel_rfl
theorem put_below {w wr : World} {M : Nat} {o : Obj} (hb : Below w.heap.size w wr) (hM : w.heap.size ≤ M) : Below w.heap.size w { wr with heap := wr.heap.setIfInBounds M o } :=
  ⟨hb.os, hb.tape, hb.output, by simpa using hb.size, fun k hk => by
    show (wr.heap.setIfInBounds M o)[k]? = _
    rw [Array.getElem?_setIfInBounds, if_neg (by omega)]; exact hb.block k hk⟩
theorem put_there {wr : World} {M : Nat} {o : Obj} (hM : M < wr.heap.size) : ({ wr with heap := wr.heap.setIfInBounds M o } : World).heap[M]? = some o := by
  show (wr.heap.setIfInBounds M o)[M]? = _
  rw [Array.getElem?_setIfInBounds, if_pos rfl, if_pos hM]

theorem put_cell {wr : World} {M : Nat} {o : Obj} {x : Addr} (h : x.block ≠ M) : ({ wr with heap := wr.heap.setIfInBounds M o } : World).cell? x = wr.cell? x := by
  unfold World.cell?
  show (match (wr.heap.setIfInBounds M o)[x.block]? with | _ => _) = _
  rw [Array.getElem?_setIfInBounds, if_neg (fun e => h e.symm)]

set_option maxHeartbeats 2000000 in
theorem right_any (u : Value) (zs : List Opr) (h1000 : zs.length ≤ 1000) (w : World) (hu : Ops w u zs) : Calls Tryd.prog 24 #[u] w fun e w' => e = .returned (.bool (rightS zs)) ∧ Below w.heap.size w w' := by
  obtain ⟨a, ca, rfl⟩ := hu.len
  have HU := Lib.hid hu
  clear hu
  have hmm := @run_makeMap Tryd.prog
  have hz42 : ∀ w, (zeroValue 42).run Tryd.prog w = .ok (.agg #[.string ⟨#[]⟩, .int .i64 0]) w := fun w => by kernel_rfl
  go_enter Tryd.func24, Tryd.ntmps24
  go_wp2_with fail
  go_loopw [11] (fun i wr => ∃ k : Nat, k ≤ zs.length ∧ i = .int .i64 (k : Int) ∧ freshTo zs k = true ∧ wr.heap[w.heap.size]? = some (.map (entsOf (zs.take k) 0).toArray k) ∧ wr.cell? ⟨w.heap.size + 1, 0, none⟩ = some (.string ⟨#[]⟩) ∧ wr.cell? ⟨w.heap.size + 1, 1, none⟩ = some (.int .i64 0) ∧ Below w.heap.size w wr) (fun i _ => zs.length - (intOf i).toNat)
  case atStart => exact ⟨0, Nat.zero_le _, rfl, by simp [freshTo], heap_alloc_old _ _ (heap_alloc_last w _), by simp [go_sem], by simp [go_sem], ba (ba (Below.refl _ _) _) _⟩
  case round =>
    obtain ⟨k, hk, rfl, hfr, hM, n0, n1, hb⟩ := hrel
    replace hfr := Lib.hid hfr
    have hN := cell_lt n0
    clear hmm hz42
    by_cases hlt : k < zs.length
    · rcases HU.out.below hb with ⟨h, rfl⟩ | ⟨b1, o1, c1, h, hl1, hc1⟩
      · simp at hlt
      cases h
      obtain ⟨d1, d2⟩ := hc1 k hlt
      have hsu := fresh_succ zs k
      have hno := fresh_not zs k hlt
      have hgn := all_not zs k hlt
      have hfe := find_ents (zs[k]?.getD opr0).1 (zs.take k) 0
      have hsn : entsOf (zs.take (k + 1)) 0 = entsOf (zs.take k) 0 ++ [⟨.string (zs[k]?.getD opr0).1, .bool true, k⟩] := by
        have hl : (zs.take k).length = k := by simp; omega
        have e := entsOf_snoc zs[k] (zs.take k) 0
        rw [List.take_succ_eq_append_getElem hlt, e, hl, Nat.zero_add]
        simp [List.getElem?_eq_getElem hlt]
      clear hc1
      generalize zs[k]?.getD opr0 = z at d1 d2 hsu hno hgn hfe hsn
      generalize entsOf (zs.take k) 0 = es at hM hfe hsn
      obtain ⟨s, r⟩ := z
      simp only at d1 d2 hsu hno hfe hsn
      replace hsu := Lib.hid hsu
      replace hno := Lib.hid hno
      replace hgn := Lib.hid hgn
      replace hsn := Lib.hid hsn
      have hk0 : (0 : Int) ≤ (k : Int) := Int.natCast_nonneg _
      have hk1 : (k : Int) < (zs.length : Int) := by omega
      have hMA : (wr.alloc (.cells #[.string s, .int .i64 r] 42)).heap[w.heap.size]? = some (.map es.toArray k) := heap_alloc_old _ _ hM
      have hAB : Below w.heap.size w (wr.alloc (.cells #[.string s, .int .i64 r] 42)) := hb.alloc hb.size _
      have hcase : (s.toList = [] ∧ r = 0) ∨ (s.toList = [] ∧ ¬ r = 0) ∨ ¬ s.toList = [] := by
        by_cases h1 : s.toList = []
        · by_cases h2 : r = 0
          · exact .inl ⟨h1, h2⟩
          · exact .inr (.inl ⟨h1, h2⟩)
        · exact .inr (.inr h1)
      by_cases hnone : s.toList = [] ∧ r = 0
      · obtain ⟨hs, rfl⟩ := hnone
        have hres : rightS zs = false := by
          have e : s = ⟨#[]⟩ := by
            have h2 : (s.toList == (⟨#[]⟩ : ByteArray).toList) = true := by rw [hs]; decide +kernel
            rw [← beq_toListBytes] at h2
            exact (MapKept.bytes_beq _ _).1 h2
          rw [rightS, hgn.out (by rw [e]; exact good_none), Bool.and_false]
        replace hres := Lib.hid hres
        clear hM hMA hfe hcase
        go_wp2_with fail
        go_ret
        exact ⟨ret_bool (by rw [hres.out]), hAB⟩
      replace hcase := hcase.resolve_left hnone
      clear hnone
      rcases hfe with ⟨hin, j, hf⟩ | ⟨hin, hf⟩
      · have lk : (Instr.lookup 56 (.map (some w.heap.size)) (.string s) false).run Tryd.prog (wr.alloc (.cells #[.string s, .int .i64 r] 42)) = .ok (.bool true) _ := run_lookup_hit Tryd.underlying56 Tryd.underlying9 (.inr rfl) hMA (by simpa using hf) false
        have hres : rightS zs = false := by rw [rightS, hno.out hin]; rfl
        replace hres := Lib.hid hres
        clear hM hMA hf hin
        rcases hcase with ⟨hs, hr⟩ | hs
        all_goals
          go_wp2_with fail
          go_ret
          exact ⟨ret_bool (by rw [hres.out]), hAB⟩
      · have lk : (Instr.lookup 56 (.map (some w.heap.size)) (.string s) false).run Tryd.prog (wr.alloc (.cells #[.string s, .int .i64 r] 42)) = .ok (.bool false) _ := run_lookup_miss Tryd.underlying56 Tryd.underlying9 (.inr rfl) (zero4 _) hMA (by simpa using hf) false
        have up : (Instr.mapUpdate 56 (.map (some w.heap.size)) (.string s) (.bool true)).run Tryd.prog (wr.alloc (.cells #[.string s, .int .i64 r] 42)) = .ok () _ := upd_met hMA (by simpa using hf)
        have hfr2 := hsu.out hlt hfr.out hin
        have hP := put_below (M := w.heap.size) (o := .map (es.toArray.push ⟨.string s, .bool true, k⟩) (k + 1)) hAB (Nat.le_refl _)
        have hQ := put_there (M := w.heap.size) (o := .map (es.toArray.push ⟨.string s, .bool true, k⟩) (k + 1)) (wr := wr.alloc (.cells #[.string s, .int .i64 r] 42)) (by simp; omega)
        have p0 := (put_cell (o := .map (es.toArray.push ⟨.string s, .bool true, k⟩) (k + 1)) (M := w.heap.size) (wr := wr.alloc (.cells #[.string s, .int .i64 r] 42)) (x := ⟨w.heap.size + 1, 0, none⟩) (by simp)).trans ((((Below.refl _ wr).alloc (Nat.le_refl _) _).cell (p := ⟨w.heap.size + 1, 0, none⟩) hN).trans n0)
        have p1 := (put_cell (o := .map (es.toArray.push ⟨.string s, .bool true, k⟩) (k + 1)) (M := w.heap.size) (wr := wr.alloc (.cells #[.string s, .int .i64 r] 42)) (x := ⟨w.heap.size + 1, 1, none⟩) (by simp)).trans ((((Below.refl _ wr).alloc (Nat.le_refl _) _).cell (p := ⟨w.heap.size + 1, 1, none⟩) hN).trans n1)
        have hkl : k ≤ zs.length := hk
        generalize hW2 : ({ wr.alloc (.cells #[.string s, .int .i64 r] 42) with heap := (wr.alloc (.cells #[.string s, .int .i64 r] 42)).heap.setIfInBounds w.heap.size (.map (es.toArray.push ⟨.string s, .bool true, k⟩) (k + 1)) } : World) = W2 at up hP hQ p0 p1
        replace hW2 := Lib.hid hW2
        have HP := Lib.hid hP
        have HQ := Lib.hid hQ
        have P0 := Lib.hid p0
        have P1 := Lib.hid p1
        have HF := Lib.hid hfr2
        clear hM hMA hf hin hP hQ p0 p1 hfr2
        rcases hcase with ⟨hs, hr⟩ | hs
        all_goals
          go_wp2_with fail
          go_roundw
          case rel => exact ⟨k + 1, by omega, by go_num, HF.out, by rw [HQ.out, hsn.out]; simp, P0.out, P1.out, HP.out⟩
          case measure => simp [intOf]; omega
    · obtain rfl : k = zs.length := by omega
      have hfa := fresh_all zs hfr.out
      replace hfa := Lib.hid hfa
      clear hM n0 n1 hfr
      by_cases h10 : zs.length ≤ 10
      · have hres : rightS zs = zs.all goodO := by rw [rightS, hfa.out]; simp [h10]
        replace hres := Lib.hid hres
        go_wp2_with fail
        refine (are_any _ zs h1000 _ _ ((HU.out.below hb).below (ba (Below.refl _ _) _)) (by simp [go_sem]) (by simp [go_sem])).mono ?_
        rintro e w1 ⟨rfl, hb1⟩
        go_wp2
        go_ret
        exact ⟨ret_bool (by rw [hres.out]), bstep hb hb1⟩
      · have hres : rightS zs = false := by rw [rightS, hfa.out]; simp [h10]
        replace hres := Lib.hid hres
        go_wp2
        go_ret
        exact ⟨ret_bool (by rw [hres.out]), hb⟩
end Go.Proofs.YthlccacnoolpjaaDoor
