/-
  Sha: small laws for the sum by the document.
-/
import Derived.Test.YtiakcjckebghlaaDoorS8
namespace Go.Proofs.YtiakcjckebghlaaDoor
open Go.RowKit Go.Shelf

theorem cell_below0 {n i : Nat} {W W' : World} (h : Below n W W') (hn : 0 < n) : W'.cell? ⟨0, i, none⟩ = W.cell? ⟨0, i, none⟩ := by
  unfold World.cell?; rw [h.block 0 hn]
theorem notmax_bits (e : W32) : bits BinOp.xor IntKind.u32 (if IntKind.u32.signed = true then -1 else IntKind.u32.max) (e.toNat : Int) = ((~~~e).toNat : Int) := by
  have h := xor32 (4294967295#32) e
  have h2 : (4294967295#32) ^^^ e = ~~~e := by
    have : (4294967295#32 : W32) = BitVec.allOnes 32 := by decide
    rw [this, BitVec.allOnes_xor]
  rw [h2] at h
  exact h
theorem tS_bits (q : St) (x y : W32) : IntKind.u32.wrap (IntKind.u32.wrap (IntKind.u32.wrap (IntKind.u32.wrap ((q.h.toNat : Int) + bits BinOp.xor IntKind.u32 (bits BinOp.xor IntKind.u32 ((rot q.e 6).toNat : Int) ((rot q.e 11).toNat : Int)) ((rot q.e 25).toNat : Int)) + bits BinOp.xor IntKind.u32 (bits BinOp.and IntKind.u32 (q.e.toNat : Int) (q.f.toNat : Int)) (bits BinOp.and IntKind.u32 (bits BinOp.xor IntKind.u32 (if IntKind.u32.signed = true then -1 else IntKind.u32.max) (q.e.toNat : Int)) (q.g.toNat : Int))) + (y.toNat : Int)) + (x.toNat : Int)) = ((tS q x y).toNat : Int) := by
  rw [notmax_bits, xor32, xor32, and32, and32, xor32]
  simp only [IntKind.wrap_u32]
  rw [add32, add32, add32, add32]
  simp only [tS, lowerS, mixS]
theorem uS_bits (q : St) : IntKind.u32.wrap (bits BinOp.xor IntKind.u32 (bits BinOp.xor IntKind.u32 ((rot q.a 2).toNat : Int) ((rot q.a 13).toNat : Int)) ((rot q.a 22).toNat : Int) + bits BinOp.xor IntKind.u32 (bits BinOp.xor IntKind.u32 (bits BinOp.and IntKind.u32 (q.a.toNat : Int) (q.b.toNat : Int)) (bits BinOp.and IntKind.u32 (q.a.toNat : Int) (q.c.toNat : Int))) (bits BinOp.and IntKind.u32 (q.b.toNat : Int) (q.c.toNat : Int))) = ((uS q).toNat : Int) := by
  rw [xor32, xor32, and32, and32, and32, xor32, xor32]
  simp only [IntKind.wrap_u32]
  rw [add32]
  rfl
theorem sch0_bits (x : W32) : bits BinOp.xor IntKind.u32 (bits BinOp.xor IntKind.u32 ((rot x 7).toNat : Int) ((rot x 18).toNat : Int)) ((x.toNat : Int) / 8) = ((sch0 x).toNat : Int) := by
  rw [xor32, show (x.toNat : Int) / 8 = _ from shr32 x 3 8 (by decide), xor32]; rfl
theorem sch1_bits (x : W32) : bits BinOp.xor IntKind.u32 (bits BinOp.xor IntKind.u32 ((rot x 17).toNat : Int) ((rot x 19).toNat : Int)) ((x.toNat : Int) / 1024) = ((sch1 x).toNat : Int) := by
  rw [xor32, show (x.toNat : Int) / 1024 = _ from shr32 x 10 1024 (by decide), xor32]; rfl
theorem size43 : (Tryd.prog.info? 43).map (·.size) = some 8 := by kernel_rfl
theorem cells_one (s : St) : s.cells.all (·.oneCell') = true := by simp [St.cells, Value.oneCell']
theorem conv_four (W : World) (x : W32) : (convert 41 9 (.slice (some ⟨W.heap.size, 0, none⟩) 4 4)).run Tryd.prog (W.alloc (.cells #[.int .u8 ((x.toNat : Int) / 16777216), .int .u8 ((x.toNat : Int) / 65536 % 256), .int .u8 ((x.toNat : Int) / 256 % 256), .int .u8 ((x.toNat : Int) % 256)] 5)) = .ok (.string (ofL (out4 x))) (W.alloc (.cells #[.int .u8 ((x.toNat : Int) / 16777216), .int .u8 ((x.toNat : Int) / 65536 % 256), .int .u8 ((x.toNat : Int) / 256 % 256), .int .u8 ((x.toNat : Int) % 256)] 5)) := by
  refine run_convert_bytes_back _ 41 9 5 ⟨W.heap.size, 0, none⟩ 4 (out4 x) Tryd.underlying41 Tryd.underlying5 Tryd.underlying9 fun j hj => ?_
  have h := out4_cells x
  have hj2 : (Lib.byteCells (out4 x))[j]? = some (.int .u8 (((out4 x)[j]).toNat : Int)) := by simp [Lib.byteCells, hj]
  rw [h] at hj2
  exact cell_four_new W _ _ _ _ j _ hj2
end Go.Proofs.YtiakcjckebghlaaDoor
