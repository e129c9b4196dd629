/-
  Sha: words of 32 bits: rotations and what is mixed of them.
-/
import Derived.Test.YtiakcjckebghlaaDoorK
import Derived.BigQuiet
import Derived.Laws.BitsLemmas
namespace Go.Proofs.YtiakcjckebghlaaDoor
open Go.RowKit Go.Shelf

abbrev W32 := BitVec 32
def val (x : W32) : Value := .int .u32 (x.toNat : Int)
def rot (x : W32) (n : Nat) : W32 := x <<< (32 - n) ||| x >>> n
def mixS (x : W32) (a b c : Nat) : W32 := rot x a ^^^ rot x b ^^^ rot x c
def upperS (x : W32) : W32 := mixS x 2 13 22
def lowerS (x : W32) : W32 := mixS x 6 11 25
def sch0 (x : W32) : W32 := rot x 7 ^^^ rot x 18 ^^^ x >>> 3
def sch1 (x : W32) : W32 := rot x 17 ^^^ rot x 19 ^^^ x >>> 10

theorem cong2 {α β γ : Type} (f : α → β → γ) {a a' : α} {b b' : β} (h1 : a = a') (h2 : b = b') : f a b = f a' b' := by rw [h1, h2]
theorem wraps_u32 (n : Int) (h₀ : 0 ≤ n) (h₁ : n < 2 ^ 32) : IntKind.u32.wrap n = n := by rw [IntKind.wrap_u32]; omega
theorem or32 (a b : W32) : bits .or .u32 (a.toNat : Int) (b.toNat : Int) = ((a ||| b).toNat : Int) := by
  rw [(bits_nat .u32 32 (by decide) wraps_u32 a.toNat b.toNat a.isLt b.isLt).2, BitVec.toNat_or]
theorem and32 (a b : W32) : bits .and .u32 (a.toNat : Int) (b.toNat : Int) = ((a &&& b).toNat : Int) := by
  rw [(bits_nat .u32 32 (by decide) wraps_u32 a.toNat b.toNat a.isLt b.isLt).1, BitVec.toNat_and]
theorem xor32 (a b : W32) : bits .xor .u32 (a.toNat : Int) (b.toNat : Int) = ((a ^^^ b).toNat : Int) := by
  have ha : a.toNat % 2 ^ IntKind.u32.bits = a.toNat := Nat.mod_eq_of_lt a.isLt
  have hb : b.toNat % 2 ^ IntKind.u32.bits = b.toNat := Nat.mod_eq_of_lt b.isLt
  simp only [bits, BitVec.ofInt_natCast, BitVec.toNat_xor, BitVec.toNat_ofNat, ha, hb]
  exact wraps_u32 _ (Int.natCast_nonneg _) (by have := Nat.xor_lt_two_pow a.isLt b.isLt; exact_mod_cast this)
theorem add32 (a b : W32) : ((a.toNat : Int) + (b.toNat : Int)) % 4294967296 = ((a + b).toNat : Int) := by
  rw [BitVec.toNat_add]; omega
theorem not32 (a : W32) : 4294967295 - (a.toNat : Int) = ((~~~a).toNat : Int) := by
  have := a.isLt
  rw [BitVec.toNat_not]; omega
theorem shr32 (a : W32) (n m : Nat) (hm : 2 ^ n = m) : (a.toNat : Int) / (m : Int) = ((a >>> n).toNat : Int) := by
  subst hm
  rw [BitVec.toNat_ushiftRight, Nat.shiftRight_eq_div_pow]; rfl
theorem shl32 (a : W32) (n m : Nat) (hm : 2 ^ n = m) : (a.toNat : Int) * (m : Int) % 4294967296 = ((a <<< n).toNat : Int) := by
  subst hm
  rw [BitVec.toNat_shiftLeft, Nat.shiftLeft_eq, Int.natCast_emod, Int.natCast_mul]; rfl
theorem ret_int {k : IntKind} {a b : Int} (h : a = b) : Ending.returned (.int k a) = .returned (.int k b) := by rw [h]

theorem rotl_2 (x : W32) (w : World) : Calls Tryd.prog 46 #[.int .u32 (x.toNat : Int), .int .i64 (-2)] w fun e w' => e = .returned (.int .u32 ((rot x 2).toNat : Int)) ∧ w = w' := by
  have hs : bits .and .u64 (IntKind.u64.wrap (-2)) 31 = 30 := by decide +kernel
  have h1 := shr32 x 2 4 (by decide)
  have h2 := shl32 x 30 1073741824 (by decide)
  have h3 := or32 (x <<< 30) (x >>> 2)
  replace h1 := Lib.hid h1
  replace h2 := Lib.hid h2
  replace h3 := Lib.hid h3
  go_enter Tryd.func46, Tryd.ntmps46
  go_wp2
  go_ret
  exact ⟨ret_int (by simpa [rot] using (cong2 (bits .or .u32) h2.out h1.out).trans h3.out), rfl⟩
theorem right_2 (x : W32) (w : World) : Calls Tryd.prog 44 #[.int .u32 (x.toNat : Int), .int .i64 2] w fun e w' => e = .returned (.int .u32 ((rot x 2).toNat : Int)) ∧ w = w' := by
  go_enter Tryd.func44, Tryd.ntmps44
  go_wp2_with fail
  refine (rotl_2 _ _).mono ?_
  rintro e w' ⟨rfl, rfl⟩
  go_wp2
  go_ret
  exact ⟨rfl, rfl⟩
theorem turn_2 (x : W32) (w : World) : Calls Tryd.prog 23 #[.int .u32 (x.toNat : Int), .int .u32 2] w fun e w' => e = .returned (.int .u32 ((rot x 2).toNat : Int)) ∧ w = w' := by
  have h1 := shr32 x 2 4 (by decide)
  have h2 := shl32 x 30 1073741824 (by decide)
  have h3 := or32 (x >>> 2) (x <<< 30)
  rw [BitVec.or_comm] at h3
  replace h1 := Lib.hid h1
  replace h2 := Lib.hid h2
  replace h3 := Lib.hid h3
  go_enter Tryd.func23, Tryd.ntmps23
  go_wp2
  go_ret
  exact ⟨ret_int (by simpa [rot] using (cong2 (bits .or .u32) h1.out h2.out).trans h3.out), rfl⟩
theorem rotl_6 (x : W32) (w : World) : Calls Tryd.prog 46 #[.int .u32 (x.toNat : Int), .int .i64 (-6)] w fun e w' => e = .returned (.int .u32 ((rot x 6).toNat : Int)) ∧ w = w' := by
  have hs : bits .and .u64 (IntKind.u64.wrap (-6)) 31 = 26 := by decide +kernel
  have h1 := shr32 x 6 64 (by decide)
  have h2 := shl32 x 26 67108864 (by decide)
  have h3 := or32 (x <<< 26) (x >>> 6)
  replace h1 := Lib.hid h1
  replace h2 := Lib.hid h2
  replace h3 := Lib.hid h3
  go_enter Tryd.func46, Tryd.ntmps46
  go_wp2
  go_ret
  exact ⟨ret_int (by simpa [rot] using (cong2 (bits .or .u32) h2.out h1.out).trans h3.out), rfl⟩
theorem right_6 (x : W32) (w : World) : Calls Tryd.prog 44 #[.int .u32 (x.toNat : Int), .int .i64 6] w fun e w' => e = .returned (.int .u32 ((rot x 6).toNat : Int)) ∧ w = w' := by
  go_enter Tryd.func44, Tryd.ntmps44
  go_wp2_with fail
  refine (rotl_6 _ _).mono ?_
  rintro e w' ⟨rfl, rfl⟩
  go_wp2
  go_ret
  exact ⟨rfl, rfl⟩
theorem turn_6 (x : W32) (w : World) : Calls Tryd.prog 23 #[.int .u32 (x.toNat : Int), .int .u32 6] w fun e w' => e = .returned (.int .u32 ((rot x 6).toNat : Int)) ∧ w = w' := by
  have h1 := shr32 x 6 64 (by decide)
  have h2 := shl32 x 26 67108864 (by decide)
  have h3 := or32 (x >>> 6) (x <<< 26)
  rw [BitVec.or_comm] at h3
  replace h1 := Lib.hid h1
  replace h2 := Lib.hid h2
  replace h3 := Lib.hid h3
  go_enter Tryd.func23, Tryd.ntmps23
  go_wp2
  go_ret
  exact ⟨ret_int (by simpa [rot] using (cong2 (bits .or .u32) h1.out h2.out).trans h3.out), rfl⟩
theorem rotl_7 (x : W32) (w : World) : Calls Tryd.prog 46 #[.int .u32 (x.toNat : Int), .int .i64 (-7)] w fun e w' => e = .returned (.int .u32 ((rot x 7).toNat : Int)) ∧ w = w' := by
  have hs : bits .and .u64 (IntKind.u64.wrap (-7)) 31 = 25 := by decide +kernel
  have h1 := shr32 x 7 128 (by decide)
  have h2 := shl32 x 25 33554432 (by decide)
  have h3 := or32 (x <<< 25) (x >>> 7)
  replace h1 := Lib.hid h1
  replace h2 := Lib.hid h2
  replace h3 := Lib.hid h3
  go_enter Tryd.func46, Tryd.ntmps46
  go_wp2
  go_ret
  exact ⟨ret_int (by simpa [rot] using (cong2 (bits .or .u32) h2.out h1.out).trans h3.out), rfl⟩
theorem right_7 (x : W32) (w : World) : Calls Tryd.prog 44 #[.int .u32 (x.toNat : Int), .int .i64 7] w fun e w' => e = .returned (.int .u32 ((rot x 7).toNat : Int)) ∧ w = w' := by
  go_enter Tryd.func44, Tryd.ntmps44
  go_wp2_with fail
  refine (rotl_7 _ _).mono ?_
  rintro e w' ⟨rfl, rfl⟩
  go_wp2
  go_ret
  exact ⟨rfl, rfl⟩
theorem turn_7 (x : W32) (w : World) : Calls Tryd.prog 23 #[.int .u32 (x.toNat : Int), .int .u32 7] w fun e w' => e = .returned (.int .u32 ((rot x 7).toNat : Int)) ∧ w = w' := by
  have h1 := shr32 x 7 128 (by decide)
  have h2 := shl32 x 25 33554432 (by decide)
  have h3 := or32 (x >>> 7) (x <<< 25)
  rw [BitVec.or_comm] at h3
  replace h1 := Lib.hid h1
  replace h2 := Lib.hid h2
  replace h3 := Lib.hid h3
  go_enter Tryd.func23, Tryd.ntmps23
  go_wp2
  go_ret
  exact ⟨ret_int (by simpa [rot] using (cong2 (bits .or .u32) h1.out h2.out).trans h3.out), rfl⟩
theorem rotl_11 (x : W32) (w : World) : Calls Tryd.prog 46 #[.int .u32 (x.toNat : Int), .int .i64 (-11)] w fun e w' => e = .returned (.int .u32 ((rot x 11).toNat : Int)) ∧ w = w' := by
  have hs : bits .and .u64 (IntKind.u64.wrap (-11)) 31 = 21 := by decide +kernel
  have h1 := shr32 x 11 2048 (by decide)
  have h2 := shl32 x 21 2097152 (by decide)
  have h3 := or32 (x <<< 21) (x >>> 11)
  replace h1 := Lib.hid h1
  replace h2 := Lib.hid h2
  replace h3 := Lib.hid h3
  go_enter Tryd.func46, Tryd.ntmps46
  go_wp2
  go_ret
  exact ⟨ret_int (by simpa [rot] using (cong2 (bits .or .u32) h2.out h1.out).trans h3.out), rfl⟩
theorem right_11 (x : W32) (w : World) : Calls Tryd.prog 44 #[.int .u32 (x.toNat : Int), .int .i64 11] w fun e w' => e = .returned (.int .u32 ((rot x 11).toNat : Int)) ∧ w = w' := by
  go_enter Tryd.func44, Tryd.ntmps44
  go_wp2_with fail
  refine (rotl_11 _ _).mono ?_
  rintro e w' ⟨rfl, rfl⟩
  go_wp2
  go_ret
  exact ⟨rfl, rfl⟩
theorem turn_11 (x : W32) (w : World) : Calls Tryd.prog 23 #[.int .u32 (x.toNat : Int), .int .u32 11] w fun e w' => e = .returned (.int .u32 ((rot x 11).toNat : Int)) ∧ w = w' := by
  have h1 := shr32 x 11 2048 (by decide)
  have h2 := shl32 x 21 2097152 (by decide)
  have h3 := or32 (x >>> 11) (x <<< 21)
  rw [BitVec.or_comm] at h3
  replace h1 := Lib.hid h1
  replace h2 := Lib.hid h2
  replace h3 := Lib.hid h3
  go_enter Tryd.func23, Tryd.ntmps23
  go_wp2
  go_ret
  exact ⟨ret_int (by simpa [rot] using (cong2 (bits .or .u32) h1.out h2.out).trans h3.out), rfl⟩
theorem rotl_13 (x : W32) (w : World) : Calls Tryd.prog 46 #[.int .u32 (x.toNat : Int), .int .i64 (-13)] w fun e w' => e = .returned (.int .u32 ((rot x 13).toNat : Int)) ∧ w = w' := by
  have hs : bits .and .u64 (IntKind.u64.wrap (-13)) 31 = 19 := by decide +kernel
  have h1 := shr32 x 13 8192 (by decide)
  have h2 := shl32 x 19 524288 (by decide)
  have h3 := or32 (x <<< 19) (x >>> 13)
  replace h1 := Lib.hid h1
  replace h2 := Lib.hid h2
  replace h3 := Lib.hid h3
  go_enter Tryd.func46, Tryd.ntmps46
  go_wp2
  go_ret
  exact ⟨ret_int (by simpa [rot] using (cong2 (bits .or .u32) h2.out h1.out).trans h3.out), rfl⟩
theorem right_13 (x : W32) (w : World) : Calls Tryd.prog 44 #[.int .u32 (x.toNat : Int), .int .i64 13] w fun e w' => e = .returned (.int .u32 ((rot x 13).toNat : Int)) ∧ w = w' := by
  go_enter Tryd.func44, Tryd.ntmps44
  go_wp2_with fail
  refine (rotl_13 _ _).mono ?_
  rintro e w' ⟨rfl, rfl⟩
  go_wp2
  go_ret
  exact ⟨rfl, rfl⟩
theorem turn_13 (x : W32) (w : World) : Calls Tryd.prog 23 #[.int .u32 (x.toNat : Int), .int .u32 13] w fun e w' => e = .returned (.int .u32 ((rot x 13).toNat : Int)) ∧ w = w' := by
  have h1 := shr32 x 13 8192 (by decide)
  have h2 := shl32 x 19 524288 (by decide)
  have h3 := or32 (x >>> 13) (x <<< 19)
  rw [BitVec.or_comm] at h3
  replace h1 := Lib.hid h1
  replace h2 := Lib.hid h2
  replace h3 := Lib.hid h3
  go_enter Tryd.func23, Tryd.ntmps23
  go_wp2
  go_ret
  exact ⟨ret_int (by simpa [rot] using (cong2 (bits .or .u32) h1.out h2.out).trans h3.out), rfl⟩
theorem rotl_17 (x : W32) (w : World) : Calls Tryd.prog 46 #[.int .u32 (x.toNat : Int), .int .i64 (-17)] w fun e w' => e = .returned (.int .u32 ((rot x 17).toNat : Int)) ∧ w = w' := by
  have hs : bits .and .u64 (IntKind.u64.wrap (-17)) 31 = 15 := by decide +kernel
  have h1 := shr32 x 17 131072 (by decide)
  have h2 := shl32 x 15 32768 (by decide)
  have h3 := or32 (x <<< 15) (x >>> 17)
  replace h1 := Lib.hid h1
  replace h2 := Lib.hid h2
  replace h3 := Lib.hid h3
  go_enter Tryd.func46, Tryd.ntmps46
  go_wp2
  go_ret
  exact ⟨ret_int (by simpa [rot] using (cong2 (bits .or .u32) h2.out h1.out).trans h3.out), rfl⟩
theorem right_17 (x : W32) (w : World) : Calls Tryd.prog 44 #[.int .u32 (x.toNat : Int), .int .i64 17] w fun e w' => e = .returned (.int .u32 ((rot x 17).toNat : Int)) ∧ w = w' := by
  go_enter Tryd.func44, Tryd.ntmps44
  go_wp2_with fail
  refine (rotl_17 _ _).mono ?_
  rintro e w' ⟨rfl, rfl⟩
  go_wp2
  go_ret
  exact ⟨rfl, rfl⟩
theorem turn_17 (x : W32) (w : World) : Calls Tryd.prog 23 #[.int .u32 (x.toNat : Int), .int .u32 17] w fun e w' => e = .returned (.int .u32 ((rot x 17).toNat : Int)) ∧ w = w' := by
  have h1 := shr32 x 17 131072 (by decide)
  have h2 := shl32 x 15 32768 (by decide)
  have h3 := or32 (x >>> 17) (x <<< 15)
  rw [BitVec.or_comm] at h3
  replace h1 := Lib.hid h1
  replace h2 := Lib.hid h2
  replace h3 := Lib.hid h3
  go_enter Tryd.func23, Tryd.ntmps23
  go_wp2
  go_ret
  exact ⟨ret_int (by simpa [rot] using (cong2 (bits .or .u32) h1.out h2.out).trans h3.out), rfl⟩
theorem rotl_18 (x : W32) (w : World) : Calls Tryd.prog 46 #[.int .u32 (x.toNat : Int), .int .i64 (-18)] w fun e w' => e = .returned (.int .u32 ((rot x 18).toNat : Int)) ∧ w = w' := by
  have hs : bits .and .u64 (IntKind.u64.wrap (-18)) 31 = 14 := by decide +kernel
  have h1 := shr32 x 18 262144 (by decide)
  have h2 := shl32 x 14 16384 (by decide)
  have h3 := or32 (x <<< 14) (x >>> 18)
  replace h1 := Lib.hid h1
  replace h2 := Lib.hid h2
  replace h3 := Lib.hid h3
  go_enter Tryd.func46, Tryd.ntmps46
  go_wp2
  go_ret
  exact ⟨ret_int (by simpa [rot] using (cong2 (bits .or .u32) h2.out h1.out).trans h3.out), rfl⟩
theorem right_18 (x : W32) (w : World) : Calls Tryd.prog 44 #[.int .u32 (x.toNat : Int), .int .i64 18] w fun e w' => e = .returned (.int .u32 ((rot x 18).toNat : Int)) ∧ w = w' := by
  go_enter Tryd.func44, Tryd.ntmps44
  go_wp2_with fail
  refine (rotl_18 _ _).mono ?_
  rintro e w' ⟨rfl, rfl⟩
  go_wp2
  go_ret
  exact ⟨rfl, rfl⟩
theorem turn_18 (x : W32) (w : World) : Calls Tryd.prog 23 #[.int .u32 (x.toNat : Int), .int .u32 18] w fun e w' => e = .returned (.int .u32 ((rot x 18).toNat : Int)) ∧ w = w' := by
  have h1 := shr32 x 18 262144 (by decide)
  have h2 := shl32 x 14 16384 (by decide)
  have h3 := or32 (x >>> 18) (x <<< 14)
  rw [BitVec.or_comm] at h3
  replace h1 := Lib.hid h1
  replace h2 := Lib.hid h2
  replace h3 := Lib.hid h3
  go_enter Tryd.func23, Tryd.ntmps23
  go_wp2
  go_ret
  exact ⟨ret_int (by simpa [rot] using (cong2 (bits .or .u32) h1.out h2.out).trans h3.out), rfl⟩
theorem rotl_19 (x : W32) (w : World) : Calls Tryd.prog 46 #[.int .u32 (x.toNat : Int), .int .i64 (-19)] w fun e w' => e = .returned (.int .u32 ((rot x 19).toNat : Int)) ∧ w = w' := by
  have hs : bits .and .u64 (IntKind.u64.wrap (-19)) 31 = 13 := by decide +kernel
  have h1 := shr32 x 19 524288 (by decide)
  have h2 := shl32 x 13 8192 (by decide)
  have h3 := or32 (x <<< 13) (x >>> 19)
  replace h1 := Lib.hid h1
  replace h2 := Lib.hid h2
  replace h3 := Lib.hid h3
  go_enter Tryd.func46, Tryd.ntmps46
  go_wp2
  go_ret
  exact ⟨ret_int (by simpa [rot] using (cong2 (bits .or .u32) h2.out h1.out).trans h3.out), rfl⟩
theorem right_19 (x : W32) (w : World) : Calls Tryd.prog 44 #[.int .u32 (x.toNat : Int), .int .i64 19] w fun e w' => e = .returned (.int .u32 ((rot x 19).toNat : Int)) ∧ w = w' := by
  go_enter Tryd.func44, Tryd.ntmps44
  go_wp2_with fail
  refine (rotl_19 _ _).mono ?_
  rintro e w' ⟨rfl, rfl⟩
  go_wp2
  go_ret
  exact ⟨rfl, rfl⟩
theorem turn_19 (x : W32) (w : World) : Calls Tryd.prog 23 #[.int .u32 (x.toNat : Int), .int .u32 19] w fun e w' => e = .returned (.int .u32 ((rot x 19).toNat : Int)) ∧ w = w' := by
  have h1 := shr32 x 19 524288 (by decide)
  have h2 := shl32 x 13 8192 (by decide)
  have h3 := or32 (x >>> 19) (x <<< 13)
  rw [BitVec.or_comm] at h3
  replace h1 := Lib.hid h1
  replace h2 := Lib.hid h2
  replace h3 := Lib.hid h3
  go_enter Tryd.func23, Tryd.ntmps23
  go_wp2
  go_ret
  exact ⟨ret_int (by simpa [rot] using (cong2 (bits .or .u32) h1.out h2.out).trans h3.out), rfl⟩
theorem rotl_22 (x : W32) (w : World) : Calls Tryd.prog 46 #[.int .u32 (x.toNat : Int), .int .i64 (-22)] w fun e w' => e = .returned (.int .u32 ((rot x 22).toNat : Int)) ∧ w = w' := by
  have hs : bits .and .u64 (IntKind.u64.wrap (-22)) 31 = 10 := by decide +kernel
  have h1 := shr32 x 22 4194304 (by decide)
  have h2 := shl32 x 10 1024 (by decide)
  have h3 := or32 (x <<< 10) (x >>> 22)
  replace h1 := Lib.hid h1
  replace h2 := Lib.hid h2
  replace h3 := Lib.hid h3
  go_enter Tryd.func46, Tryd.ntmps46
  go_wp2
  go_ret
  exact ⟨ret_int (by simpa [rot] using (cong2 (bits .or .u32) h2.out h1.out).trans h3.out), rfl⟩
theorem right_22 (x : W32) (w : World) : Calls Tryd.prog 44 #[.int .u32 (x.toNat : Int), .int .i64 22] w fun e w' => e = .returned (.int .u32 ((rot x 22).toNat : Int)) ∧ w = w' := by
  go_enter Tryd.func44, Tryd.ntmps44
  go_wp2_with fail
  refine (rotl_22 _ _).mono ?_
  rintro e w' ⟨rfl, rfl⟩
  go_wp2
  go_ret
  exact ⟨rfl, rfl⟩
theorem turn_22 (x : W32) (w : World) : Calls Tryd.prog 23 #[.int .u32 (x.toNat : Int), .int .u32 22] w fun e w' => e = .returned (.int .u32 ((rot x 22).toNat : Int)) ∧ w = w' := by
  have h1 := shr32 x 22 4194304 (by decide)
  have h2 := shl32 x 10 1024 (by decide)
  have h3 := or32 (x >>> 22) (x <<< 10)
  rw [BitVec.or_comm] at h3
  replace h1 := Lib.hid h1
  replace h2 := Lib.hid h2
  replace h3 := Lib.hid h3
  go_enter Tryd.func23, Tryd.ntmps23
  go_wp2
  go_ret
  exact ⟨ret_int (by simpa [rot] using (cong2 (bits .or .u32) h1.out h2.out).trans h3.out), rfl⟩
theorem rotl_25 (x : W32) (w : World) : Calls Tryd.prog 46 #[.int .u32 (x.toNat : Int), .int .i64 (-25)] w fun e w' => e = .returned (.int .u32 ((rot x 25).toNat : Int)) ∧ w = w' := by
  have hs : bits .and .u64 (IntKind.u64.wrap (-25)) 31 = 7 := by decide +kernel
  have h1 := shr32 x 25 33554432 (by decide)
  have h2 := shl32 x 7 128 (by decide)
  have h3 := or32 (x <<< 7) (x >>> 25)
  replace h1 := Lib.hid h1
  replace h2 := Lib.hid h2
  replace h3 := Lib.hid h3
  go_enter Tryd.func46, Tryd.ntmps46
  go_wp2
  go_ret
  exact ⟨ret_int (by simpa [rot] using (cong2 (bits .or .u32) h2.out h1.out).trans h3.out), rfl⟩
theorem right_25 (x : W32) (w : World) : Calls Tryd.prog 44 #[.int .u32 (x.toNat : Int), .int .i64 25] w fun e w' => e = .returned (.int .u32 ((rot x 25).toNat : Int)) ∧ w = w' := by
  go_enter Tryd.func44, Tryd.ntmps44
  go_wp2_with fail
  refine (rotl_25 _ _).mono ?_
  rintro e w' ⟨rfl, rfl⟩
  go_wp2
  go_ret
  exact ⟨rfl, rfl⟩
theorem turn_25 (x : W32) (w : World) : Calls Tryd.prog 23 #[.int .u32 (x.toNat : Int), .int .u32 25] w fun e w' => e = .returned (.int .u32 ((rot x 25).toNat : Int)) ∧ w = w' := by
  have h1 := shr32 x 25 33554432 (by decide)
  have h2 := shl32 x 7 128 (by decide)
  have h3 := or32 (x >>> 25) (x <<< 7)
  rw [BitVec.or_comm] at h3
  replace h1 := Lib.hid h1
  replace h2 := Lib.hid h2
  replace h3 := Lib.hid h3
  go_enter Tryd.func23, Tryd.ntmps23
  go_wp2
  go_ret
  exact ⟨ret_int (by simpa [rot] using (cong2 (bits .or .u32) h1.out h2.out).trans h3.out), rfl⟩
theorem mix_upper (x : W32) (w : World) : Calls Tryd.prog 43 #[.int .u32 (x.toNat : Int), .int .i64 2, .int .i64 13, .int .i64 22] w fun e w' => e = .returned (.int .u32 ((upperS x).toNat : Int)) ∧ w = w' := by
  have h1 := xor32 (rot x 2) (rot x 13)
  have h2 := xor32 (rot x 2 ^^^ rot x 13) (rot x 22)
  replace h1 := Lib.hid h1
  replace h2 := Lib.hid h2
  go_enter Tryd.func43, Tryd.ntmps43
  go_wp2_with fail
  refine (right_2 _ _).mono ?_
  rintro e w' ⟨rfl, rfl⟩
  go_wp2_with fail
  refine (right_13 _ _).mono ?_
  rintro e w' ⟨rfl, rfl⟩
  go_wp2_with fail
  refine (right_22 _ _).mono ?_
  rintro e w' ⟨rfl, rfl⟩
  go_wp2
  go_ret
  exact ⟨ret_int ((congrArg (fun z => bits .xor .u32 z _) h1.out).trans h2.out), rfl⟩
theorem upper_any (x : W32) (w : World) : Calls Tryd.prog 38 #[.int .u32 (x.toNat : Int)] w fun e w' => e = .returned (.int .u32 ((upperS x).toNat : Int)) ∧ w = w' := by
  go_enter Tryd.func38, Tryd.ntmps38
  go_wp2_with fail
  refine (mix_upper _ _).mono ?_
  rintro e w' ⟨rfl, rfl⟩
  go_wp2
  go_ret
  exact ⟨rfl, rfl⟩
theorem mix_lower (x : W32) (w : World) : Calls Tryd.prog 43 #[.int .u32 (x.toNat : Int), .int .i64 6, .int .i64 11, .int .i64 25] w fun e w' => e = .returned (.int .u32 ((lowerS x).toNat : Int)) ∧ w = w' := by
  have h1 := xor32 (rot x 6) (rot x 11)
  have h2 := xor32 (rot x 6 ^^^ rot x 11) (rot x 25)
  replace h1 := Lib.hid h1
  replace h2 := Lib.hid h2
  go_enter Tryd.func43, Tryd.ntmps43
  go_wp2_with fail
  refine (right_6 _ _).mono ?_
  rintro e w' ⟨rfl, rfl⟩
  go_wp2_with fail
  refine (right_11 _ _).mono ?_
  rintro e w' ⟨rfl, rfl⟩
  go_wp2_with fail
  refine (right_25 _ _).mono ?_
  rintro e w' ⟨rfl, rfl⟩
  go_wp2
  go_ret
  exact ⟨ret_int ((congrArg (fun z => bits .xor .u32 z _) h1.out).trans h2.out), rfl⟩
theorem lower_any (x : W32) (w : World) : Calls Tryd.prog 37 #[.int .u32 (x.toNat : Int)] w fun e w' => e = .returned (.int .u32 ((lowerS x).toNat : Int)) ∧ w = w' := by
  go_enter Tryd.func37, Tryd.ntmps37
  go_wp2_with fail
  refine (mix_lower _ _).mono ?_
  rintro e w' ⟨rfl, rfl⟩
  go_wp2
  go_ret
  exact ⟨rfl, rfl⟩
theorem sch0_any (x : W32) (w : World) : Calls Tryd.prog 39 #[.int .u32 (x.toNat : Int)] w fun e w' => e = .returned (.int .u32 ((sch0 x).toNat : Int)) ∧ w = w' := by
  have h0 := shr32 x 3 8 (by decide)
  have h1 := xor32 (rot x 7) (rot x 18)
  have h2 := xor32 (rot x 7 ^^^ rot x 18) (x >>> 3)
  replace h0 := Lib.hid h0
  replace h1 := Lib.hid h1
  replace h2 := Lib.hid h2
  go_enter Tryd.func39, Tryd.ntmps39
  go_wp2_with fail
  refine (right_7 _ _).mono ?_
  rintro e w' ⟨rfl, rfl⟩
  go_wp2_with fail
  refine (right_18 _ _).mono ?_
  rintro e w' ⟨rfl, rfl⟩
  go_wp2
  go_ret
  exact ⟨ret_int ((cong2 (bits .xor .u32) h1.out (show _ = _ from h0.out)).trans h2.out), rfl⟩
theorem sch1_any (x : W32) (w : World) : Calls Tryd.prog 40 #[.int .u32 (x.toNat : Int)] w fun e w' => e = .returned (.int .u32 ((sch1 x).toNat : Int)) ∧ w = w' := by
  have h0 := shr32 x 10 1024 (by decide)
  have h1 := xor32 (rot x 17) (rot x 19)
  have h2 := xor32 (rot x 17 ^^^ rot x 19) (x >>> 10)
  replace h0 := Lib.hid h0
  replace h1 := Lib.hid h1
  replace h2 := Lib.hid h2
  go_enter Tryd.func40, Tryd.ntmps40
  go_wp2_with fail
  refine (right_17 _ _).mono ?_
  rintro e w' ⟨rfl, rfl⟩
  go_wp2_with fail
  refine (right_19 _ _).mono ?_
  rintro e w' ⟨rfl, rfl⟩
  go_wp2
  go_ret
  exact ⟨ret_int ((cong2 (bits .xor .u32) h1.out (show _ = _ from h0.out)).trans h2.out), rfl⟩
end Go.Proofs.YtiakcjckebghlaaDoor
