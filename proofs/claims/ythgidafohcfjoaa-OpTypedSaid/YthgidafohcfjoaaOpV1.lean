/-
  Any operation of values that fit: the runs.
-/
import Derived.Test.YthgidafohcfjoaaOpV
import Derived.Test.YthgidafohcfjoaaOpNum
import Derived.Test.YthgidafohcfjoaaOpB
set_option linter.unusedVariables false
namespace Go.AM
open Go.Proofs

abbrev va1 (n : Int) : Va := ⟨1, n, []⟩
abbrev va2 (s : List UInt8) : Va := ⟨2, 0, s⟩
abbrev va3 (n : Int) : Va := ⟨3, n, []⟩
abbrev dR (x : Va) : V := dV [x] (.int .i64 (1 : Nat)) (36 : Nat)
abbrev u64 (n : Int) : V := .int .u64 n
def outL : List (List Int) := [[], [], [], [3], [3], [], [], [], [], [], [], [1], [1], [1], [1], [1], [1], [1], [1], [1], [1], [1], [1], [3], [3], [3], [3], [3], [3], [3], [3], [3], [1], [2], [2], [1], [3], [3], [2], [1], [2]]
def outTs (n : Nat) : List Int := outL.getD n []
def dO (n : Nat) : V := dI (outTs n) .nilptr (3 : Nat)
def wu (n : Int) : Int := wr .u64 n
def upU (acc : Int) (c : UInt8) : Int := wu ((BitVec.ofInt 64 (wu (acc * ((2 ^ 8 : Nat) : Int))) ||| BitVec.ofInt 64 (wu c.toNat)).toNat : Nat)
def by8 (n : Int) : UInt8 := UInt8.ofNat (wr .u8 n).toNat

theorem ay_add (a b : Int) (k : Nat) : tellFrom Try.prog X7 80 3 [.int .i64 11, sA [va1 a, va1 b] k] (hA [va1 a, va1 b]) ([ownT 3 [va1 a, va1 b], tv 11 17 true] ++ [] ++ [tv 12 15 true] ++ [] ++ [tp 3 26 rS, tp 3 36 rS]) =
  some (V.bool true, [ownO [va1 a, va1 b] k, .rd 21 [dX [va1 a, va1 b], dT 11] (.bool true)] ++ [] ++ [.rd 40 [dA [va1 a, va1 b] k, dT 11] (.bool true)] ++ [] ++ [.rd 13 [dR (va1 (w64 (a + b))), dR (va1 (w64 (a + b)))] rS, .rd 13 [dX [va1 a, va1 b], dA [va1 a, va1 b] k] rS]) := by kernel_rfl

theorem ay_sub (a b : Int) (k : Nat) : tellFrom Try.prog X7 80 3 [.int .i64 12, sA [va1 a, va1 b] k] (hA [va1 a, va1 b]) ([ownT 3 [va1 a, va1 b], tv 11 17 true] ++ [] ++ [tv 12 15 true] ++ [] ++ [tp 3 26 rS, tp 3 36 rS]) =
  some (V.bool true, [ownO [va1 a, va1 b] k, .rd 21 [dX [va1 a, va1 b], dT 12] (.bool true)] ++ [] ++ [.rd 40 [dA [va1 a, va1 b] k, dT 12] (.bool true)] ++ [] ++ [.rd 13 [dR (va1 (w64 (a + w64 (0 - b)))), dR (va1 (w64 (a - b)))] rS, .rd 13 [dX [va1 a, va1 b], dA [va1 a, va1 b] k] rS]) := by kernel_rfl

theorem ay_mul (a b : Int) (k : Nat) : tellFrom Try.prog X7 80 3 [.int .i64 13, sA [va1 a, va1 b] k] (hA [va1 a, va1 b]) ([ownT 3 [va1 a, va1 b], tv 11 17 true] ++ [] ++ [tv 12 15 true] ++ [] ++ [tp 3 26 rS, tp 3 36 rS]) =
  some (V.bool true, [ownO [va1 a, va1 b] k, .rd 21 [dX [va1 a, va1 b], dT 13] (.bool true)] ++ [] ++ [.rd 40 [dA [va1 a, va1 b] k, dT 13] (.bool true)] ++ [] ++ [.rd 13 [dR (va1 (w64 (a * b))), dR (va1 (w64 (a * b)))] rS, .rd 13 [dX [va1 a, va1 b], dA [va1 a, va1 b] k] rS]) := by kernel_rfl

theorem ay_div0 (a b : Int) (k : Nat) : tellFrom Try.prog X7 80 3 [.int .i64 14, sA [va1 a, va1 b] k] (hA [va1 a, va1 b]) ([ownT 3 [va1 a, va1 b], tv 11 17 true] ++ [tv 37 42 true] ++ [tv 12 15 true] ++ [tv 55 10 true] ++ [tp 3 26 rS, tp 3 36 rS]) =
  some (V.bool true, [ownO [va1 a, va1 b] k, .rd 21 [dX [va1 a, va1 b], dT 14] (.bool true)] ++ [obI .eql b 0 true] ++ [.rd 40 [dA [va1 a, va1 b] k, dT 14] (.bool true)] ++ [obI .eql b 0 true] ++ [.rd 13 [.nilslice, .nilslice] rS, .rd 13 [dX [va1 a, va1 b], dA [va1 a, va1 b] k] rS]) := by kernel_rfl

theorem ay_divn (a b q r : Int) (k : Nat) : tellFrom Try.prog X7 80 3 [.int .i64 14, sA [va1 a, va1 b] k] (hA [va1 a, va1 b]) ([ownT 3 [va1 a, va1 b], tv 11 17 true] ++ [tv 37 42 false, tp 37 46 (i64 q)] ++ [tv 12 15 true] ++ [tv 55 10 false, tv 55 12 true] ++ [tp 3 26 rS, tp 3 36 rS]) =
  some (V.bool true, [ownO [va1 a, va1 b] k, .rd 21 [dX [va1 a, va1 b], dT 14] (.bool true)] ++ [obI .eql b 0 false, .bin .quo 3 (i64 a) (i64 b) (i64 q)] ++ [.rd 40 [dA [va1 a, va1 b] k, dT 14] (.bool true)] ++ [obI .eql b 0 false, obI .eql b (-1) true] ++ [.rd 13 [dR (va1 q), dR (va1 (w64 (0 - a)))] rS, .rd 13 [dX [va1 a, va1 b], dA [va1 a, va1 b] k] rS]) := by kernel_rfl

theorem ay_divp (a b q r : Int) (k : Nat) : tellFrom Try.prog X7 80 3 [.int .i64 14, sA [va1 a, va1 b] k] (hA [va1 a, va1 b]) ([ownT 3 [va1 a, va1 b], tv 11 17 true] ++ [tv 37 42 false, tp 37 46 (i64 q)] ++ [tv 12 15 true] ++ [tv 55 10 false, tv 55 12 false, tp 55 17 (i64 q)] ++ [tp 3 26 rS, tp 3 36 rS]) =
  some (V.bool true, [ownO [va1 a, va1 b] k, .rd 21 [dX [va1 a, va1 b], dT 14] (.bool true)] ++ [obI .eql b 0 false, .bin .quo 3 (i64 a) (i64 b) (i64 q)] ++ [.rd 40 [dA [va1 a, va1 b] k, dT 14] (.bool true)] ++ [obI .eql b 0 false, obI .eql b (-1) false, .bin .quo 3 (i64 a) (i64 b) (i64 q)] ++ [.rd 13 [dR (va1 q), dR (va1 (q))] rS, .rd 13 [dX [va1 a, va1 b], dA [va1 a, va1 b] k] rS]) := by kernel_rfl

theorem ay_rem0 (a b : Int) (k : Nat) : tellFrom Try.prog X7 80 3 [.int .i64 15, sA [va1 a, va1 b] k] (hA [va1 a, va1 b]) ([ownT 3 [va1 a, va1 b], tv 11 17 true] ++ [tv 37 42 true] ++ [tv 12 15 true] ++ [tv 55 10 true] ++ [tp 3 26 rS, tp 3 36 rS]) =
  some (V.bool true, [ownO [va1 a, va1 b] k, .rd 21 [dX [va1 a, va1 b], dT 15] (.bool true)] ++ [obI .eql b 0 true] ++ [.rd 40 [dA [va1 a, va1 b] k, dT 15] (.bool true)] ++ [obI .eql b 0 true] ++ [.rd 13 [.nilslice, .nilslice] rS, .rd 13 [dX [va1 a, va1 b], dA [va1 a, va1 b] k] rS]) := by kernel_rfl

theorem ay_remn (a b q r : Int) (k : Nat) : tellFrom Try.prog X7 80 3 [.int .i64 15, sA [va1 a, va1 b] k] (hA [va1 a, va1 b]) ([ownT 3 [va1 a, va1 b], tv 11 17 true] ++ [tv 37 42 false, tp 37 46 (i64 q), tp 37 51 (i64 r)] ++ [tv 12 15 true] ++ [tv 55 10 false, tv 55 12 true] ++ [tp 3 26 rS, tp 3 36 rS]) =
  some (V.bool true, [ownO [va1 a, va1 b] k, .rd 21 [dX [va1 a, va1 b], dT 15] (.bool true)] ++ [obI .eql b 0 false, .bin .quo 3 (i64 a) (i64 b) (i64 q), .bin .rem 3 (i64 a) (i64 b) (i64 r)] ++ [.rd 40 [dA [va1 a, va1 b] k, dT 15] (.bool true)] ++ [obI .eql b 0 false, obI .eql b (-1) true] ++ [.rd 13 [dR (va1 r), dR (va1 (w64 (a - w64 ((w64 (0 - a)) * b))))] rS, .rd 13 [dX [va1 a, va1 b], dA [va1 a, va1 b] k] rS]) := by kernel_rfl

theorem ay_remp (a b q r : Int) (k : Nat) : tellFrom Try.prog X7 80 3 [.int .i64 15, sA [va1 a, va1 b] k] (hA [va1 a, va1 b]) ([ownT 3 [va1 a, va1 b], tv 11 17 true] ++ [tv 37 42 false, tp 37 46 (i64 q), tp 37 51 (i64 r)] ++ [tv 12 15 true] ++ [tv 55 10 false, tv 55 12 false, tp 55 17 (i64 q)] ++ [tp 3 26 rS, tp 3 36 rS]) =
  some (V.bool true, [ownO [va1 a, va1 b] k, .rd 21 [dX [va1 a, va1 b], dT 15] (.bool true)] ++ [obI .eql b 0 false, .bin .quo 3 (i64 a) (i64 b) (i64 q), .bin .rem 3 (i64 a) (i64 b) (i64 r)] ++ [.rd 40 [dA [va1 a, va1 b] k, dT 15] (.bool true)] ++ [obI .eql b 0 false, obI .eql b (-1) false, .bin .quo 3 (i64 a) (i64 b) (i64 q)] ++ [.rd 13 [dR (va1 r), dR (va1 (w64 (a - w64 ((q) * b))))] rS, .rd 13 [dX [va1 a, va1 b], dA [va1 a, va1 b] k] rS]) := by kernel_rfl

theorem ay_neg (a : Int) (k : Nat) : tellFrom Try.prog X7 80 3 [.int .i64 16, sA [va1 a] k] (hA [va1 a]) ([ownT 3 [va1 a], tv 11 17 true] ++ [] ++ [tv 12 15 true] ++ [] ++ [tp 3 26 rS, tp 3 36 rS]) =
  some (V.bool true, [ownO [va1 a] k, .rd 21 [dX [va1 a], dT 16] (.bool true)] ++ [] ++ [.rd 40 [dA [va1 a] k, dT 16] (.bool true)] ++ [] ++ [.rd 13 [dR (va1 (w64 (0 - a))), dR (va1 (w64 (0 - a)))] rS, .rd 13 [dX [va1 a], dA [va1 a] k] rS]) := by kernel_rfl

theorem ay_and (a b : Int) (k : Nat) : tellFrom Try.prog X7 80 3 [.int .i64 17, sA [va1 a, va1 b] k] (hA [va1 a, va1 b]) ([ownT 3 [va1 a, va1 b], tv 11 17 true] ++ [] ++ [tv 12 15 true] ++ [] ++ [tp 3 26 rS, tp 3 36 rS]) =
  some (V.bool true, [ownO [va1 a, va1 b] k, .rd 21 [dX [va1 a, va1 b], dT 17] (.bool true)] ++ [] ++ [.rd 40 [dA [va1 a, va1 b] k, dT 17] (.bool true)] ++ [] ++ [.rd 13 [dR (va1 (andW a b)), dR (va1 (andW a b))] rS, .rd 13 [dX [va1 a, va1 b], dA [va1 a, va1 b] k] rS]) := by kernel_rfl

theorem ay_or (a b : Int) (k : Nat) : tellFrom Try.prog X7 80 3 [.int .i64 18, sA [va1 a, va1 b] k] (hA [va1 a, va1 b]) ([ownT 3 [va1 a, va1 b], tv 11 17 true] ++ [] ++ [tv 12 15 true] ++ [] ++ [tp 3 26 rS, tp 3 36 rS]) =
  some (V.bool true, [ownO [va1 a, va1 b] k, .rd 21 [dX [va1 a, va1 b], dT 18] (.bool true)] ++ [] ++ [.rd 40 [dA [va1 a, va1 b] k, dT 18] (.bool true)] ++ [] ++ [.rd 13 [dR (va1 (orW a b)), dR (va1 (orW a b))] rS, .rd 13 [dX [va1 a, va1 b], dA [va1 a, va1 b] k] rS]) := by kernel_rfl

theorem ay_xor (a b : Int) (k : Nat) : tellFrom Try.prog X7 80 3 [.int .i64 19, sA [va1 a, va1 b] k] (hA [va1 a, va1 b]) ([ownT 3 [va1 a, va1 b], tv 11 17 true] ++ [] ++ [tv 12 15 true] ++ [] ++ [tp 3 26 rS, tp 3 36 rS]) =
  some (V.bool true, [ownO [va1 a, va1 b] k, .rd 21 [dX [va1 a, va1 b], dT 19] (.bool true)] ++ [] ++ [.rd 40 [dA [va1 a, va1 b] k, dT 19] (.bool true)] ++ [] ++ [.rd 13 [dR (va1 (xorW a b)), dR (va1 (xorW a b))] rS, .rd 13 [dX [va1 a, va1 b], dA [va1 a, va1 b] k] rS]) := by kernel_rfl

theorem ay_inv (a : Int) (k : Nat) : tellFrom Try.prog X7 80 3 [.int .i64 20, sA [va1 a] k] (hA [va1 a]) ([ownT 3 [va1 a], tv 11 17 true] ++ [] ++ [tv 12 15 true] ++ [] ++ [tp 3 26 rS, tp 3 36 rS]) =
  some (V.bool true, [ownO [va1 a] k, .rd 21 [dX [va1 a], dT 20] (.bool true)] ++ [] ++ [.rd 40 [dA [va1 a] k, dT 20] (.bool true)] ++ [] ++ [.rd 13 [dR (va1 (xorW (-1) a)), dR (va1 (xorW (-1) a))] rS, .rd 13 [dX [va1 a], dA [va1 a] k] rS]) := by kernel_rfl

theorem ay_shl (a b m m' : Int) (k : Nat) : tellFrom Try.prog X7 80 3 [.int .i64 21, sA [va1 a, va1 b] k] (hA [va1 a, va1 b]) ([ownT 3 [va1 a, va1 b], tv 11 17 true] ++ [tp 37 68 (i64 m)] ++ [tv 12 15 true] ++ [tp 50 55 (u64 m')] ++ [tp 3 26 rS, tp 3 36 rS]) =
  some (V.bool true, [ownO [va1 a, va1 b] k, .rd 21 [dX [va1 a, va1 b], dT 21] (.bool true)] ++ [.bin .shl 3 (i64 a) (i64 (andW b 63)) (i64 m)] ++ [.rd 40 [dA [va1 a, va1 b] k, dT 21] (.bool true)] ++ [.bin .shl 75 (u64 (wu a)) (u64 (wu (andW b 63))) (u64 m')] ++ [.rd 13 [dR (va1 m), dR (va1 (w64 m'))] rS, .rd 13 [dX [va1 a, va1 b], dA [va1 a, va1 b] k] rS]) := by kernel_rfl

theorem ay_shr (a b m m' : Int) (k : Nat) : tellFrom Try.prog X7 80 3 [.int .i64 22, sA [va1 a, va1 b] k] (hA [va1 a, va1 b]) ([ownT 3 [va1 a, va1 b], tv 11 17 true] ++ [tp 37 72 (i64 m)] ++ [tv 12 15 true] ++ [tp 50 61 (i64 m')] ++ [tp 3 26 rS, tp 3 36 rS]) =
  some (V.bool true, [ownO [va1 a, va1 b] k, .rd 21 [dX [va1 a, va1 b], dT 22] (.bool true)] ++ [.bin .shr 3 (i64 a) (i64 (andW b 63)) (i64 m)] ++ [.rd 40 [dA [va1 a, va1 b] k, dT 22] (.bool true)] ++ [.bin .shr 3 (i64 a) (u64 (wu (andW b 63))) (i64 m')] ++ [.rd 13 [dR (va1 m), dR (va1 m')] rS, .rd 13 [dX [va1 a, va1 b], dA [va1 a, va1 b] k] rS]) := by kernel_rfl

theorem ay_eq1 (a b : Int) (k : Nat) : tellFrom Try.prog X7 80 3 [.int .i64 23, sA [va1 a, va1 b] k] (hA [va1 a, va1 b]) ([ownT 3 [va1 a, va1 b], tv 11 17 true] ++ [tv 38 13 true] ++ [tv 12 15 true] ++ [tv 51 12 true] ++ [tp 3 26 rS, tp 3 36 rS]) =
  some (V.bool true, [ownO [va1 a, va1 b] k, .rd 21 [dX [va1 a, va1 b], dT 23] (.bool true)] ++ [obI .eql a b true] ++ [.rd 40 [dA [va1 a, va1 b] k, dT 23] (.bool true)] ++ [obI .eql a b true] ++ [.rd 13 [dR (va3 1), dR (va3 1)] rS, .rd 13 [dX [va1 a, va1 b], dA [va1 a, va1 b] k] rS]) := by kernel_rfl

theorem ay_eq0 (a b : Int) (k : Nat) : tellFrom Try.prog X7 80 3 [.int .i64 23, sA [va1 a, va1 b] k] (hA [va1 a, va1 b]) ([ownT 3 [va1 a, va1 b], tv 11 17 true] ++ [tv 38 13 false] ++ [tv 12 15 true] ++ [tv 51 12 false] ++ [tp 3 26 rS, tp 3 36 rS]) =
  some (V.bool true, [ownO [va1 a, va1 b] k, .rd 21 [dX [va1 a, va1 b], dT 23] (.bool true)] ++ [obI .eql a b false] ++ [.rd 40 [dA [va1 a, va1 b] k, dT 23] (.bool true)] ++ [obI .eql a b false] ++ [.rd 13 [dR (va3 0), dR (va3 0)] rS, .rd 13 [dX [va1 a, va1 b], dA [va1 a, va1 b] k] rS]) := by kernel_rfl

theorem ay_ne1 (a b : Int) (k : Nat) : tellFrom Try.prog X7 80 3 [.int .i64 24, sA [va1 a, va1 b] k] (hA [va1 a, va1 b]) ([ownT 3 [va1 a, va1 b], tv 11 17 true] ++ [tv 38 13 true] ++ [tv 12 15 true] ++ [tv 51 17 false] ++ [tp 3 26 rS, tp 3 36 rS]) =
  some (V.bool true, [ownO [va1 a, va1 b] k, .rd 21 [dX [va1 a, va1 b], dT 24] (.bool true)] ++ [obI .eql a b true] ++ [.rd 40 [dA [va1 a, va1 b] k, dT 24] (.bool true)] ++ [obI .neq a b false] ++ [.rd 13 [dR (va3 0), dR (va3 0)] rS, .rd 13 [dX [va1 a, va1 b], dA [va1 a, va1 b] k] rS]) := by kernel_rfl

theorem ay_ne0 (a b : Int) (k : Nat) : tellFrom Try.prog X7 80 3 [.int .i64 24, sA [va1 a, va1 b] k] (hA [va1 a, va1 b]) ([ownT 3 [va1 a, va1 b], tv 11 17 true] ++ [tv 38 13 false] ++ [tv 12 15 true] ++ [tv 51 17 true] ++ [tp 3 26 rS, tp 3 36 rS]) =
  some (V.bool true, [ownO [va1 a, va1 b] k, .rd 21 [dX [va1 a, va1 b], dT 24] (.bool true)] ++ [obI .eql a b false] ++ [.rd 40 [dA [va1 a, va1 b] k, dT 24] (.bool true)] ++ [obI .neq a b true] ++ [.rd 13 [dR (va3 1), dR (va3 1)] rS, .rd 13 [dX [va1 a, va1 b], dA [va1 a, va1 b] k] rS]) := by kernel_rfl

theorem ay_lt1 (a b : Int) (k : Nat) : tellFrom Try.prog X7 80 3 [.int .i64 25, sA [va1 a, va1 b] k] (hA [va1 a, va1 b]) ([ownT 3 [va1 a, va1 b], tv 11 17 true] ++ [tv 38 22 true] ++ [tv 12 15 true] ++ [tv 51 22 true] ++ [tp 3 26 rS, tp 3 36 rS]) =
  some (V.bool true, [ownO [va1 a, va1 b] k, .rd 21 [dX [va1 a, va1 b], dT 25] (.bool true)] ++ [obI .lss a b true] ++ [.rd 40 [dA [va1 a, va1 b] k, dT 25] (.bool true)] ++ [obI .lss a b true] ++ [.rd 13 [dR (va3 1), dR (va3 1)] rS, .rd 13 [dX [va1 a, va1 b], dA [va1 a, va1 b] k] rS]) := by kernel_rfl

theorem ay_lt0 (a b : Int) (k : Nat) : tellFrom Try.prog X7 80 3 [.int .i64 25, sA [va1 a, va1 b] k] (hA [va1 a, va1 b]) ([ownT 3 [va1 a, va1 b], tv 11 17 true] ++ [tv 38 22 false] ++ [tv 12 15 true] ++ [tv 51 22 false] ++ [tp 3 26 rS, tp 3 36 rS]) =
  some (V.bool true, [ownO [va1 a, va1 b] k, .rd 21 [dX [va1 a, va1 b], dT 25] (.bool true)] ++ [obI .lss a b false] ++ [.rd 40 [dA [va1 a, va1 b] k, dT 25] (.bool true)] ++ [obI .lss a b false] ++ [.rd 13 [dR (va3 0), dR (va3 0)] rS, .rd 13 [dX [va1 a, va1 b], dA [va1 a, va1 b] k] rS]) := by kernel_rfl

theorem ay_le1 (a b : Int) (k : Nat) : tellFrom Try.prog X7 80 3 [.int .i64 26, sA [va1 a, va1 b] k] (hA [va1 a, va1 b]) ([ownT 3 [va1 a, va1 b], tv 11 17 true] ++ [tv 38 28 true] ++ [tv 12 15 true] ++ [tv 51 27 true] ++ [tp 3 26 rS, tp 3 36 rS]) =
  some (V.bool true, [ownO [va1 a, va1 b] k, .rd 21 [dX [va1 a, va1 b], dT 26] (.bool true)] ++ [obI .leq a b true] ++ [.rd 40 [dA [va1 a, va1 b] k, dT 26] (.bool true)] ++ [obI .leq a b true] ++ [.rd 13 [dR (va3 1), dR (va3 1)] rS, .rd 13 [dX [va1 a, va1 b], dA [va1 a, va1 b] k] rS]) := by kernel_rfl

theorem ay_le0 (a b : Int) (k : Nat) : tellFrom Try.prog X7 80 3 [.int .i64 26, sA [va1 a, va1 b] k] (hA [va1 a, va1 b]) ([ownT 3 [va1 a, va1 b], tv 11 17 true] ++ [tv 38 28 false] ++ [tv 12 15 true] ++ [tv 51 27 false] ++ [tp 3 26 rS, tp 3 36 rS]) =
  some (V.bool true, [ownO [va1 a, va1 b] k, .rd 21 [dX [va1 a, va1 b], dT 26] (.bool true)] ++ [obI .leq a b false] ++ [.rd 40 [dA [va1 a, va1 b] k, dT 26] (.bool true)] ++ [obI .leq a b false] ++ [.rd 13 [dR (va3 0), dR (va3 0)] rS, .rd 13 [dX [va1 a, va1 b], dA [va1 a, va1 b] k] rS]) := by kernel_rfl

theorem ay_gt1 (a b : Int) (k : Nat) : tellFrom Try.prog X7 80 3 [.int .i64 27, sA [va1 a, va1 b] k] (hA [va1 a, va1 b]) ([ownT 3 [va1 a, va1 b], tv 11 17 true] ++ [tv 38 28 true] ++ [tv 12 15 true] ++ [tv 51 32 false] ++ [tp 3 26 rS, tp 3 36 rS]) =
  some (V.bool true, [ownO [va1 a, va1 b] k, .rd 21 [dX [va1 a, va1 b], dT 27] (.bool true)] ++ [obI .leq a b true] ++ [.rd 40 [dA [va1 a, va1 b] k, dT 27] (.bool true)] ++ [obI .gtr a b false] ++ [.rd 13 [dR (va3 0), dR (va3 0)] rS, .rd 13 [dX [va1 a, va1 b], dA [va1 a, va1 b] k] rS]) := by kernel_rfl

theorem ay_gt0 (a b : Int) (k : Nat) : tellFrom Try.prog X7 80 3 [.int .i64 27, sA [va1 a, va1 b] k] (hA [va1 a, va1 b]) ([ownT 3 [va1 a, va1 b], tv 11 17 true] ++ [tv 38 28 false] ++ [tv 12 15 true] ++ [tv 51 32 true] ++ [tp 3 26 rS, tp 3 36 rS]) =
  some (V.bool true, [ownO [va1 a, va1 b] k, .rd 21 [dX [va1 a, va1 b], dT 27] (.bool true)] ++ [obI .leq a b false] ++ [.rd 40 [dA [va1 a, va1 b] k, dT 27] (.bool true)] ++ [obI .gtr a b true] ++ [.rd 13 [dR (va3 1), dR (va3 1)] rS, .rd 13 [dX [va1 a, va1 b], dA [va1 a, va1 b] k] rS]) := by kernel_rfl

theorem ay_ge1 (a b : Int) (k : Nat) : tellFrom Try.prog X7 80 3 [.int .i64 28, sA [va1 a, va1 b] k] (hA [va1 a, va1 b]) ([ownT 3 [va1 a, va1 b], tv 11 17 true] ++ [tv 38 22 true] ++ [tv 12 15 true] ++ [tv 51 35 false] ++ [tp 3 26 rS, tp 3 36 rS]) =
  some (V.bool true, [ownO [va1 a, va1 b] k, .rd 21 [dX [va1 a, va1 b], dT 28] (.bool true)] ++ [obI .lss a b true] ++ [.rd 40 [dA [va1 a, va1 b] k, dT 28] (.bool true)] ++ [obI .geq a b false] ++ [.rd 13 [dR (va3 0), dR (va3 0)] rS, .rd 13 [dX [va1 a, va1 b], dA [va1 a, va1 b] k] rS]) := by kernel_rfl

theorem ay_ge0 (a b : Int) (k : Nat) : tellFrom Try.prog X7 80 3 [.int .i64 28, sA [va1 a, va1 b] k] (hA [va1 a, va1 b]) ([ownT 3 [va1 a, va1 b], tv 11 17 true] ++ [tv 38 22 false] ++ [tv 12 15 true] ++ [tv 51 35 true] ++ [tp 3 26 rS, tp 3 36 rS]) =
  some (V.bool true, [ownO [va1 a, va1 b] k, .rd 21 [dX [va1 a, va1 b], dT 28] (.bool true)] ++ [obI .lss a b false] ++ [.rd 40 [dA [va1 a, va1 b] k, dT 28] (.bool true)] ++ [obI .geq a b true] ++ [.rd 13 [dR (va3 1), dR (va3 1)] rS, .rd 13 [dX [va1 a, va1 b], dA [va1 a, va1 b] k] rS]) := by kernel_rfl

theorem ay_both00  (k : Nat) : tellFrom Try.prog X7 80 3 [.int .i64 29, sA [va3 0, va3 0] k] (hA [va3 0, va3 0]) ([ownT 3 [va3 0, va3 0], tv 11 17 true] ++ [] ++ [tv 12 15 true] ++ [] ++ [tp 3 26 rS, tp 3 36 rS]) =
  some (V.bool true, [ownO [va3 0, va3 0] k, .rd 21 [dX [va3 0, va3 0], dT 29] (.bool true)] ++ [] ++ [.rd 40 [dA [va3 0, va3 0] k, dT 29] (.bool true)] ++ [] ++ [.rd 13 [dR (va3 0), dR (va3 0)] rS, .rd 13 [dX [va3 0, va3 0], dA [va3 0, va3 0] k] rS]) := by kernel_rfl

theorem ay_both01  (k : Nat) : tellFrom Try.prog X7 80 3 [.int .i64 29, sA [va3 0, va3 1] k] (hA [va3 0, va3 1]) ([ownT 3 [va3 0, va3 1], tv 11 17 true] ++ [] ++ [tv 12 15 true] ++ [] ++ [tp 3 26 rS, tp 3 36 rS]) =
  some (V.bool true, [ownO [va3 0, va3 1] k, .rd 21 [dX [va3 0, va3 1], dT 29] (.bool true)] ++ [] ++ [.rd 40 [dA [va3 0, va3 1] k, dT 29] (.bool true)] ++ [] ++ [.rd 13 [dR (va3 0), dR (va3 0)] rS, .rd 13 [dX [va3 0, va3 1], dA [va3 0, va3 1] k] rS]) := by kernel_rfl

theorem ay_both10  (k : Nat) : tellFrom Try.prog X7 80 3 [.int .i64 29, sA [va3 1, va3 0] k] (hA [va3 1, va3 0]) ([ownT 3 [va3 1, va3 0], tv 11 17 true] ++ [] ++ [tv 12 15 true] ++ [] ++ [tp 3 26 rS, tp 3 36 rS]) =
  some (V.bool true, [ownO [va3 1, va3 0] k, .rd 21 [dX [va3 1, va3 0], dT 29] (.bool true)] ++ [] ++ [.rd 40 [dA [va3 1, va3 0] k, dT 29] (.bool true)] ++ [] ++ [.rd 13 [dR (va3 0), dR (va3 0)] rS, .rd 13 [dX [va3 1, va3 0], dA [va3 1, va3 0] k] rS]) := by kernel_rfl

theorem ay_both11  (k : Nat) : tellFrom Try.prog X7 80 3 [.int .i64 29, sA [va3 1, va3 1] k] (hA [va3 1, va3 1]) ([ownT 3 [va3 1, va3 1], tv 11 17 true] ++ [] ++ [tv 12 15 true] ++ [] ++ [tp 3 26 rS, tp 3 36 rS]) =
  some (V.bool true, [ownO [va3 1, va3 1] k, .rd 21 [dX [va3 1, va3 1], dT 29] (.bool true)] ++ [] ++ [.rd 40 [dA [va3 1, va3 1] k, dT 29] (.bool true)] ++ [] ++ [.rd 13 [dR (va3 1), dR (va3 1)] rS, .rd 13 [dX [va3 1, va3 1], dA [va3 1, va3 1] k] rS]) := by kernel_rfl

theorem ay_either00  (k : Nat) : tellFrom Try.prog X7 80 3 [.int .i64 30, sA [va3 0, va3 0] k] (hA [va3 0, va3 0]) ([ownT 3 [va3 0, va3 0], tv 11 17 true] ++ [] ++ [tv 12 15 true] ++ [] ++ [tp 3 26 rS, tp 3 36 rS]) =
  some (V.bool true, [ownO [va3 0, va3 0] k, .rd 21 [dX [va3 0, va3 0], dT 30] (.bool true)] ++ [] ++ [.rd 40 [dA [va3 0, va3 0] k, dT 30] (.bool true)] ++ [] ++ [.rd 13 [dR (va3 0), dR (va3 0)] rS, .rd 13 [dX [va3 0, va3 0], dA [va3 0, va3 0] k] rS]) := by kernel_rfl

theorem ay_either01  (k : Nat) : tellFrom Try.prog X7 80 3 [.int .i64 30, sA [va3 0, va3 1] k] (hA [va3 0, va3 1]) ([ownT 3 [va3 0, va3 1], tv 11 17 true] ++ [] ++ [tv 12 15 true] ++ [] ++ [tp 3 26 rS, tp 3 36 rS]) =
  some (V.bool true, [ownO [va3 0, va3 1] k, .rd 21 [dX [va3 0, va3 1], dT 30] (.bool true)] ++ [] ++ [.rd 40 [dA [va3 0, va3 1] k, dT 30] (.bool true)] ++ [] ++ [.rd 13 [dR (va3 1), dR (va3 1)] rS, .rd 13 [dX [va3 0, va3 1], dA [va3 0, va3 1] k] rS]) := by kernel_rfl

theorem ay_either10  (k : Nat) : tellFrom Try.prog X7 80 3 [.int .i64 30, sA [va3 1, va3 0] k] (hA [va3 1, va3 0]) ([ownT 3 [va3 1, va3 0], tv 11 17 true] ++ [] ++ [tv 12 15 true] ++ [] ++ [tp 3 26 rS, tp 3 36 rS]) =
  some (V.bool true, [ownO [va3 1, va3 0] k, .rd 21 [dX [va3 1, va3 0], dT 30] (.bool true)] ++ [] ++ [.rd 40 [dA [va3 1, va3 0] k, dT 30] (.bool true)] ++ [] ++ [.rd 13 [dR (va3 1), dR (va3 1)] rS, .rd 13 [dX [va3 1, va3 0], dA [va3 1, va3 0] k] rS]) := by kernel_rfl

theorem ay_either11  (k : Nat) : tellFrom Try.prog X7 80 3 [.int .i64 30, sA [va3 1, va3 1] k] (hA [va3 1, va3 1]) ([ownT 3 [va3 1, va3 1], tv 11 17 true] ++ [] ++ [tv 12 15 true] ++ [] ++ [tp 3 26 rS, tp 3 36 rS]) =
  some (V.bool true, [ownO [va3 1, va3 1] k, .rd 21 [dX [va3 1, va3 1], dT 30] (.bool true)] ++ [] ++ [.rd 40 [dA [va3 1, va3 1] k, dT 30] (.bool true)] ++ [] ++ [.rd 13 [dR (va3 1), dR (va3 1)] rS, .rd 13 [dX [va3 1, va3 1], dA [va3 1, va3 1] k] rS]) := by kernel_rfl

theorem ay_not0  (k : Nat) : tellFrom Try.prog X7 80 3 [.int .i64 31, sA [va3 0] k] (hA [va3 0]) ([ownT 3 [va3 0], tv 11 17 true] ++ [] ++ [tv 12 15 true] ++ [] ++ [tp 3 26 rS, tp 3 36 rS]) =
  some (V.bool true, [ownO [va3 0] k, .rd 21 [dX [va3 0], dT 31] (.bool true)] ++ [] ++ [.rd 40 [dA [va3 0] k, dT 31] (.bool true)] ++ [] ++ [.rd 13 [dR (va3 1), dR (va3 1)] rS, .rd 13 [dX [va3 0], dA [va3 0] k] rS]) := by kernel_rfl

theorem ay_not1  (k : Nat) : tellFrom Try.prog X7 80 3 [.int .i64 31, sA [va3 1] k] (hA [va3 1]) ([ownT 3 [va3 1], tv 11 17 true] ++ [] ++ [tv 12 15 true] ++ [] ++ [tp 3 26 rS, tp 3 36 rS]) =
  some (V.bool true, [ownO [va3 1] k, .rd 21 [dX [va3 1], dT 31] (.bool true)] ++ [] ++ [.rd 40 [dA [va3 1] k, dT 31] (.bool true)] ++ [] ++ [.rd 13 [dR (va3 0), dR (va3 0)] rS, .rd 13 [dX [va3 1], dA [va3 1] k] rS]) := by kernel_rfl

theorem ay_len (a : List UInt8) (k : Nat) : tellFrom Try.prog X7 80 3 [.int .i64 32, sA [va2 a] k] (hA [va2 a]) ([ownT 3 [va2 a], tv 11 17 true] ++ [] ++ [tv 12 15 true] ++ [] ++ [tp 3 26 rS, tp 3 36 rS]) =
  some (V.bool true, [ownO [va2 a] k, .rd 21 [dX [va2 a], dT 32] (.bool true)] ++ [] ++ [.rd 40 [dA [va2 a] k, dT 32] (.bool true)] ++ [] ++ [.rd 13 [dR (va1 (a.length : Nat)), dR (va1 (a.length : Nat))] rS, .rd 13 [dX [va2 a], dA [va2 a] k] rS]) := by kernel_rfl

theorem ay_join1 (a b : List UInt8) (k : Nat) : tellFrom Try.prog X7 80 3 [.int .i64 33, sA [va2 a, va2 b] k] (hA [va2 a, va2 b]) ([ownT 3 [va2 a, va2 b], tv 11 17 true] ++ [tv 39 27 true] ++ [tv 12 15 true] ++ [tv 52 28 true] ++ [tp 3 26 rS, tp 3 36 rS]) =
  some (V.bool true, [ownO [va2 a, va2 b] k, .rd 21 [dX [va2 a, va2 b], dT 33] (.bool true)] ++ [obI .gtr (w64 ((a.length : Nat) + (b.length : Nat))) 256 true] ++ [.rd 40 [dA [va2 a, va2 b] k, dT 33] (.bool true)] ++ [obI .gtr (w64 ((a.length : Nat) + (b.length : Nat))) 256 true] ++ [.rd 13 [.nilslice, .nilslice] rS, .rd 13 [dX [va2 a, va2 b], dA [va2 a, va2 b] k] rS]) := by kernel_rfl

theorem ay_join0 (a b : List UInt8) (k : Nat) : tellFrom Try.prog X7 80 3 [.int .i64 33, sA [va2 a, va2 b] k] (hA [va2 a, va2 b]) ([ownT 3 [va2 a, va2 b], tv 11 17 true] ++ [tv 39 27 false, tp 39 33 (.str (a ++ b))] ++ [tv 12 15 true] ++ [tv 52 28 false, tp 52 38 (.str (a ++ b))] ++ [tp 3 26 rS, tp 3 36 rS]) =
  some (V.bool true, [ownO [va2 a, va2 b] k, .rd 21 [dX [va2 a, va2 b], dT 33] (.bool true)] ++ [obI .gtr (w64 ((a.length : Nat) + (b.length : Nat))) 256 false, .bin .add 9 (.str a) (.str b) (.str (a ++ b))] ++ [.rd 40 [dA [va2 a, va2 b] k, dT 33] (.bool true)] ++ [obI .gtr (w64 ((a.length : Nat) + (b.length : Nat))) 256 false, .bin .add 9 (.str a) (.str b) (.str (a ++ b))] ++ [.rd 13 [dR (va2 (a ++ b)), dR (va2 (a ++ b))] rS, .rd 13 [dX [va2 a, va2 b], dA [va2 a, va2 b] k] rS]) := by kernel_rfl

theorem ay_cutx0 (a r : List UInt8) (i j : Int) (k : Nat) : tellFrom Try.prog X7 80 3 [.int .i64 34, sA [va2 a, va1 i, va1 j] k] (hA [va2 a, va1 i, va1 j]) ([ownT 3 [va2 a, va1 i, va1 j], tv 11 17 true] ++ [tv 11 109 true] ++ [tv 12 15 true] ++ [tv 52 46 true] ++ [tp 3 26 rS, tp 3 36 rS]) =
  some (V.bool true, [ownO [va2 a, va1 i, va1 j] k, .rd 21 [dX [va2 a, va1 i, va1 j], dT 34] (.bool true)] ++ [obI .lss i 0 true] ++ [.rd 40 [dA [va2 a, va1 i, va1 j] k, dT 34] (.bool true)] ++ [obI .lss i 0 true] ++ [.rd 13 [.nilslice, .nilslice] rS, .rd 13 [dX [va2 a, va1 i, va1 j], dA [va2 a, va1 i, va1 j] k] rS]) := by kernel_rfl

theorem ay_cutx1 (a r : List UInt8) (i j : Int) (k : Nat) : tellFrom Try.prog X7 80 3 [.int .i64 34, sA [va2 a, va1 i, va1 j] k] (hA [va2 a, va1 i, va1 j]) ([ownT 3 [va2 a, va1 i, va1 j], tv 11 17 true] ++ [tv 11 109 false, tv 11 117 true] ++ [tv 12 15 true] ++ [tv 52 46 false, tv 52 56 true] ++ [tp 3 26 rS, tp 3 36 rS]) =
  some (V.bool true, [ownO [va2 a, va1 i, va1 j] k, .rd 21 [dX [va2 a, va1 i, va1 j], dT 34] (.bool true)] ++ [obI .lss i 0 false, obI .gtr i j true] ++ [.rd 40 [dA [va2 a, va1 i, va1 j] k, dT 34] (.bool true)] ++ [obI .lss i 0 false, obI .gtr i j true] ++ [.rd 13 [.nilslice, .nilslice] rS, .rd 13 [dX [va2 a, va1 i, va1 j], dA [va2 a, va1 i, va1 j] k] rS]) := by kernel_rfl

theorem ay_cutx2 (a r : List UInt8) (i j : Int) (k : Nat) : tellFrom Try.prog X7 80 3 [.int .i64 34, sA [va2 a, va1 i, va1 j] k] (hA [va2 a, va1 i, va1 j]) ([ownT 3 [va2 a, va1 i, va1 j], tv 11 17 true] ++ [tv 11 109 false, tv 11 117 false, tv 11 125 true] ++ [tv 12 15 true] ++ [tv 52 46 false, tv 52 56 false, tv 52 68 true] ++ [tp 3 26 rS, tp 3 36 rS]) =
  some (V.bool true, [ownO [va2 a, va1 i, va1 j] k, .rd 21 [dX [va2 a, va1 i, va1 j], dT 34] (.bool true)] ++ [obI .lss i 0 false, obI .gtr i j false, obI .gtr j (a.length : Nat) true] ++ [.rd 40 [dA [va2 a, va1 i, va1 j] k, dT 34] (.bool true)] ++ [obI .lss i 0 false, obI .gtr i j false, obI .gtr j (a.length : Nat) true] ++ [.rd 13 [.nilslice, .nilslice] rS, .rd 13 [dX [va2 a, va1 i, va1 j], dA [va2 a, va1 i, va1 j] k] rS]) := by kernel_rfl

theorem ay_cut (a r : List UInt8) (i j : Int) (k : Nat) : tellFrom Try.prog X7 80 3 [.int .i64 34, sA [va2 a, va1 i, va1 j] k] (hA [va2 a, va1 i, va1 j]) ([ownT 3 [va2 a, va1 i, va1 j], tv 11 17 true] ++ [tv 11 109 false, tv 11 117 false, tv 11 125 false, tp 11 135 (.str r)] ++ [tv 12 15 true] ++ [tv 52 46 false, tv 52 56 false, tv 52 68 false, tp 52 83 (.str r)] ++ [tp 3 26 rS, tp 3 36 rS]) =
  some (V.bool true, [ownO [va2 a, va1 i, va1 j] k, .rd 21 [dX [va2 a, va1 i, va1 j], dT 34] (.bool true)] ++ [obI .lss i 0 false, obI .gtr i j false, obI .gtr j (a.length : Nat) false, .slc 9 (.str a) (some (i64 i)) (some (i64 j)) none (.str r)] ++ [.rd 40 [dA [va2 a, va1 i, va1 j] k, dT 34] (.bool true)] ++ [obI .lss i 0 false, obI .gtr i j false, obI .gtr j (a.length : Nat) false, .slc 9 (.str a) (some (i64 i)) (some (i64 j)) none (.str r)] ++ [.rd 13 [dR (va2 r), dR (va2 r)] rS, .rd 13 [dX [va2 a, va1 i, va1 j], dA [va2 a, va1 i, va1 j] k] rS]) := by kernel_rfl

theorem ay_atx0 (a : List UInt8) (i : Int) (c : UInt8) (k : Nat) : tellFrom Try.prog X7 80 3 [.int .i64 35, sA [va2 a, va1 i] k] (hA [va2 a, va1 i]) ([ownT 3 [va2 a, va1 i], tv 11 17 true] ++ [tv 39 39 true] ++ [tv 12 15 true] ++ [tv 52 91 true] ++ [tp 3 26 rS, tp 3 36 rS]) =
  some (V.bool true, [ownO [va2 a, va1 i] k, .rd 21 [dX [va2 a, va1 i], dT 35] (.bool true)] ++ [obI .lss i 0 true] ++ [.rd 40 [dA [va2 a, va1 i] k, dT 35] (.bool true)] ++ [obI .lss i 0 true] ++ [.rd 13 [.nilslice, .nilslice] rS, .rd 13 [dX [va2 a, va1 i], dA [va2 a, va1 i] k] rS]) := by kernel_rfl

theorem ay_atx1 (a : List UInt8) (i : Int) (c : UInt8) (k : Nat) : tellFrom Try.prog X7 80 3 [.int .i64 35, sA [va2 a, va1 i] k] (hA [va2 a, va1 i]) ([ownT 3 [va2 a, va1 i], tv 11 17 true] ++ [tv 39 39 false, tv 39 46 true] ++ [tv 12 15 true] ++ [tv 52 91 false, tv 52 102 true] ++ [tp 3 26 rS, tp 3 36 rS]) =
  some (V.bool true, [ownO [va2 a, va1 i] k, .rd 21 [dX [va2 a, va1 i], dT 35] (.bool true)] ++ [obI .lss i 0 false, obI .geq i (a.length : Nat) true] ++ [.rd 40 [dA [va2 a, va1 i] k, dT 35] (.bool true)] ++ [obI .lss i 0 false, obI .geq i (a.length : Nat) true] ++ [.rd 13 [.nilslice, .nilslice] rS, .rd 13 [dX [va2 a, va1 i], dA [va2 a, va1 i] k] rS]) := by kernel_rfl

theorem ay_at (a : List UInt8) (i : Int) (c : UInt8) (k : Nat) : tellFrom Try.prog X7 80 3 [.int .i64 35, sA [va2 a, va1 i] k] (hA [va2 a, va1 i]) ([ownT 3 [va2 a, va1 i], tv 11 17 true] ++ [tv 39 39 false, tv 39 46 false, tp 39 53 (.int .u8 c.toNat)] ++ [tv 12 15 true] ++ [tv 52 91 false, tv 52 102 false, tp 52 113 (.int .u8 c.toNat)] ++ [tp 3 26 rS, tp 3 36 rS]) =
  some (V.bool true, [ownO [va2 a, va1 i] k, .rd 21 [dX [va2 a, va1 i], dT 35] (.bool true)] ++ [obI .lss i 0 false, obI .geq i (a.length : Nat) false, .idx 9 (.str a) (i64 i) (.int .u8 c.toNat)] ++ [.rd 40 [dA [va2 a, va1 i] k, dT 35] (.bool true)] ++ [obI .lss i 0 false, obI .geq i (a.length : Nat) false, .idx 9 (.str a) (i64 i) (.int .u8 c.toNat)] ++ [.rd 13 [dR (va1 (w64 c.toNat)), dR (va1 (w64 c.toNat))] rS, .rd 13 [dX [va2 a, va1 i], dA [va2 a, va1 i] k] rS]) := by kernel_rfl

theorem ay_same1 (a b : List UInt8) (k : Nat) : tellFrom Try.prog X7 80 3 [.int .i64 36, sA [va2 a, va2 b] k] (hA [va2 a, va2 b]) ([ownT 3 [va2 a, va2 b], tv 11 17 true] ++ [tv 39 62 true] ++ [tv 12 15 true] ++ [tv 52 126 true] ++ [tp 3 26 rS, tp 3 36 rS]) =
  some (V.bool true, [ownO [va2 a, va2 b] k, .rd 21 [dX [va2 a, va2 b], dT 36] (.bool true)] ++ [obS .eql a b true] ++ [.rd 40 [dA [va2 a, va2 b] k, dT 36] (.bool true)] ++ [obS .eql a b true] ++ [.rd 13 [dR (va3 1), dR (va3 1)] rS, .rd 13 [dX [va2 a, va2 b], dA [va2 a, va2 b] k] rS]) := by kernel_rfl

theorem ay_same0 (a b : List UInt8) (k : Nat) : tellFrom Try.prog X7 80 3 [.int .i64 36, sA [va2 a, va2 b] k] (hA [va2 a, va2 b]) ([ownT 3 [va2 a, va2 b], tv 11 17 true] ++ [tv 39 62 false] ++ [tv 12 15 true] ++ [tv 52 126 false] ++ [tp 3 26 rS, tp 3 36 rS]) =
  some (V.bool true, [ownO [va2 a, va2 b] k, .rd 21 [dX [va2 a, va2 b], dT 36] (.bool true)] ++ [obS .eql a b false] ++ [.rd 40 [dA [va2 a, va2 b] k, dT 36] (.bool true)] ++ [obS .eql a b false] ++ [.rd 13 [dR (va3 0), dR (va3 0)] rS, .rd 13 [dX [va2 a, va2 b], dA [va2 a, va2 b] k] rS]) := by kernel_rfl

theorem ay_less1 (a b : List UInt8) (k : Nat) : tellFrom Try.prog X7 80 3 [.int .i64 37, sA [va2 a, va2 b] k] (hA [va2 a, va2 b]) ([ownT 3 [va2 a, va2 b], tv 11 17 true] ++ [tv 39 70 true] ++ [tv 12 15 true] ++ [tv 52 138 true] ++ [tp 3 26 rS, tp 3 36 rS]) =
  some (V.bool true, [ownO [va2 a, va2 b] k, .rd 21 [dX [va2 a, va2 b], dT 37] (.bool true)] ++ [obS .lss a b true] ++ [.rd 40 [dA [va2 a, va2 b] k, dT 37] (.bool true)] ++ [obS .lss a b true] ++ [.rd 13 [dR (va3 1), dR (va3 1)] rS, .rd 13 [dX [va2 a, va2 b], dA [va2 a, va2 b] k] rS]) := by kernel_rfl

theorem ay_less0 (a b : List UInt8) (k : Nat) : tellFrom Try.prog X7 80 3 [.int .i64 37, sA [va2 a, va2 b] k] (hA [va2 a, va2 b]) ([ownT 3 [va2 a, va2 b], tv 11 17 true] ++ [tv 39 70 false] ++ [tv 12 15 true] ++ [tv 52 138 false] ++ [tp 3 26 rS, tp 3 36 rS]) =
  some (V.bool true, [ownO [va2 a, va2 b] k, .rd 21 [dX [va2 a, va2 b], dT 37] (.bool true)] ++ [obS .lss a b false] ++ [.rd 40 [dA [va2 a, va2 b] k, dT 37] (.bool true)] ++ [obS .lss a b false] ++ [.rd 13 [dR (va3 0), dR (va3 0)] rS, .rd 13 [dX [va2 a, va2 b], dA [va2 a, va2 b] k] rS]) := by kernel_rfl

end Go.AM
