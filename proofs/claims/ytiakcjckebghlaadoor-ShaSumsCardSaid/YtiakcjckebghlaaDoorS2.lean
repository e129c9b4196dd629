/-
  Sha: SHA-256 and digits as plain functions of lists of bytes.
-/
import Derived.Test.YtiakcjckebghlaaDoorS1
namespace Go.Proofs.YtiakcjckebghlaaDoor
open Go.RowKit Go.Shelf

/-- the constants of the rounds -/
def consts : List W32 := [1116352408#32, 1899447441#32, 3049323471#32, 3921009573#32, 961987163#32, 1508970993#32, 2453635748#32, 2870763221#32, 3624381080#32, 310598401#32, 607225278#32, 1426881987#32, 1925078388#32, 2162078206#32, 2614888103#32, 3248222580#32, 3835390401#32, 4022224774#32, 264347078#32, 604807628#32, 770255983#32, 1249150122#32, 1555081692#32, 1996064986#32, 2554220882#32, 2821834349#32, 2952996808#32, 3210313671#32, 3336571891#32, 3584528711#32, 113926993#32, 338241895#32, 666307205#32, 773529912#32, 1294757372#32, 1396182291#32, 1695183700#32, 1986661051#32, 2177026350#32, 2456956037#32, 2730485921#32, 2820302411#32, 3259730800#32, 3345764771#32, 3516065817#32, 3600352804#32, 4094571909#32, 275423344#32, 430227734#32, 506948616#32, 659060556#32, 883997877#32, 958139571#32, 1322822218#32, 1537002063#32, 1747873779#32, 1955562222#32, 2024104815#32, 2227730452#32, 2361852424#32, 2428436474#32, 2756734187#32, 3204031479#32, 3329325298#32]
/-- the state -/
structure St where
  a : W32
  b : W32
  c : W32
  d : W32
  e : W32
  f : W32
  g : W32
  h : W32
deriving DecidableEq
def st0 : St := ⟨1779033703#32, 3144134277#32, 1013904242#32, 2773480762#32, 1359893119#32, 2600822924#32, 528734635#32, 1541459225#32⟩
def tS (s : St) (w k : W32) : W32 := s.h + lowerS s.e + (s.e &&& s.f ^^^ ~~~s.e &&& s.g) + k + w
def uS (s : St) : W32 := upperS s.a + (s.a &&& s.b ^^^ s.a &&& s.c ^^^ s.b &&& s.c)
def roundS (s : St) (w k : W32) : St := ⟨tS s w k + uS s, s.a, s.b, s.c, s.d + tS s w k, s.e, s.f, s.g⟩
def addS (s v : St) : St := ⟨s.a + v.a, s.b + v.b, s.c + v.c, s.d + v.d, s.e + v.e, s.f + v.f, s.g + v.g, s.h + v.h⟩

def byteW (b : UInt8) : W32 := BitVec.ofNat 32 b.toNat
def word4 (a b c d : UInt8) : W32 := byteW a <<< 24 ||| byteW b <<< 16 ||| byteW c <<< 8 ||| byteW d
def wordAtB (b : List UInt8) (i : Nat) : W32 := word4 (b.getD (4 * i) 0) (b.getD (4 * i + 1) 0) (b.getD (4 * i + 2) 0) (b.getD (4 * i + 3) 0)
def nextW (ws : List W32) (k : Nat) : W32 := ws.getD (k - 16) 0 + sch0 (ws.getD (k - 15) 0) + ws.getD (k - 7) 0 + sch1 (ws.getD (k - 2) 0)
/-- the first k words of a block -/
def wordsTo (b : List UInt8) : Nat → List W32
  | 0 => []
  | k + 1 => wordsTo b k ++ [if k < 16 then wordAtB b k else nextW (wordsTo b k) k]
def roundsTo (ws : List W32) (s : St) : Nat → St
  | 0 => s
  | k + 1 => roundS (roundsTo ws s k) (ws.getD k 0) (consts.getD k 0)
def compress (s : St) (b : List UInt8) : St := addS s (roundsTo (wordsTo b 64) s 64)
def blocksL : Nat → List UInt8 → List (List UInt8)
  | 0, _ => []
  | n + 1, l => l.take 64 :: blocksL n (l.drop 64)
def be64 (n : Nat) : List UInt8 := [UInt8.ofNat (n / 2 ^ 56), UInt8.ofNat (n / 2 ^ 48), UInt8.ofNat (n / 2 ^ 40), UInt8.ofNat (n / 2 ^ 32), UInt8.ofNat (n / 2 ^ 24), UInt8.ofNat (n / 2 ^ 16), UInt8.ofNat (n / 2 ^ 8), UInt8.ofNat n]
def zerosN (n : Nat) : Nat := (119 - n % 64) % 64
def padL (l : List UInt8) : List UInt8 := l ++ [128] ++ List.replicate (zerosN l.length) 0 ++ be64 (8 * l.length)
def out4 (x : W32) : List UInt8 := [UInt8.ofNat (x >>> 24).toNat, UInt8.ofNat (x >>> 16).toNat, UInt8.ofNat (x >>> 8).toNat, UInt8.ofNat x.toNat]
def outS (s : St) : List UInt8 := out4 s.a ++ out4 s.b ++ out4 s.c ++ out4 s.d ++ out4 s.e ++ out4 s.f ++ out4 s.g ++ out4 s.h
def sumL (l : List UInt8) : List UInt8 := outS ((blocksL ((padL l).length / 64) (padL l)).foldl compress st0)

def digitsL : List UInt8 := [48, 49, 50, 51, 52, 53, 54, 55, 56, 57, 97, 98, 99, 100, 101, 102]
def digL (n : Nat) : UInt8 := digitsL.getD n 0
def hexL : List UInt8 → List UInt8
  | [] => []
  | b :: r => digL (b.toNat / 16) :: digL (b.toNat % 16) :: hexL r
def unD (c : UInt8) : Int := if 48 ≤ c.toNat ∧ c.toNat ≤ 57 then (c.toNat : Int) - 48 else if 97 ≤ c.toNat ∧ c.toNat ≤ 102 then (c.toNat : Int) - 87 else -1
def unhexL : List UInt8 → Option (List UInt8)
  | [] => some []
  | [_] => none
  | a :: b :: r => if unD a < 0 ∨ unD b < 0 then none else (unhexL r).map (UInt8.ofNat (16 * (unD a).toNat + (unD b).toNat) :: ·)

end Go.Proofs.YtiakcjckebghlaaDoor
