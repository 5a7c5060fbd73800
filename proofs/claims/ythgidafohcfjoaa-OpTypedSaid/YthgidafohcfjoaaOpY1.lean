/-
  What an operation answers is of its types: the runs, typed.
-/
import Derived.Test.YthgidafohcfjoaaOpV1
set_option linter.unusedVariables false
namespace Go.AM
open Go.Proofs

theorem az_c_lo (l : List Va) (k : Nat) (n : Int) : tellFrom Try.prog X7 80 8 [.int .i64 n, sA l k] (hA l) ([ownT 8 l] ++ [tv 20 4 false, tv 20 7 false, tv 20 11 false]) =
  some (V.bool true, [ownO l k] ++ [obI .eql n 3 false, obI .eql n 4 false, obI .geq n 11 false]) := by kernel_rfl
theorem az_c_hi (l : List Va) (k : Nat) (n : Int) : tellFrom Try.prog X7 80 8 [.int .i64 n, sA l k] (hA l) ([ownT 8 l] ++ [tv 20 4 false, tv 20 7 false, tv 20 11 true, tv 20 14 false]) =
  some (V.bool true, [ownO l k] ++ [obI .eql n 3 false, obI .eql n 4 false, obI .geq n 11 true, obI .leq n 40 false]) := by kernel_rfl
theorem az_c_no (l : List Va) (k : Nat) : plainL.map (fun n => tellFrom Try.prog X7 80 8 [.int .i64 (.ofNat n), sA l k] (hA l) ([ownT 8 l] ++ [tv 11 17 false])) =
  plainL.map (fun n => some (V.bool true, [ownO l k] ++ [.rd 21 [dX l, dT n] (.bool false)])) := by kernel_rfl
theorem az_e_lo (k : Nat) (n : Int) : tellFrom Try.prog X7 80 8 [.int .i64 n, sA [] k] (hA []) ([] ++ [tv 20 4 false, tv 20 7 false, tv 20 11 false]) =
  some (V.bool true, [] ++ [obI .eql n 3 false, obI .eql n 4 false, obI .geq n 11 false]) := by kernel_rfl
theorem az_e_hi (k : Nat) (n : Int) : tellFrom Try.prog X7 80 8 [.int .i64 n, sA [] k] (hA []) ([] ++ [tv 20 4 false, tv 20 7 false, tv 20 11 true, tv 20 14 false]) =
  some (V.bool true, [] ++ [obI .eql n 3 false, obI .eql n 4 false, obI .geq n 11 true, obI .leq n 40 false]) := by kernel_rfl
theorem az_e_no (k : Nat) : plainL.map (fun n => tellFrom Try.prog X7 80 8 [.int .i64 (.ofNat n), sA [] k] (hA []) ([] ++ [tv 11 17 false])) =
  plainL.map (fun n => some (V.bool true, [] ++ [.rd 21 [dE, dT n] (.bool false)])) := by kernel_rfl
theorem az_n_lo  (n : Int) : tellFrom Try.prog X7 80 8 [.int .i64 n, .nilslice] h0 ([] ++ [tv 20 4 false, tv 20 7 false, tv 20 11 false]) =
  some (V.bool true, [] ++ [obI .eql n 3 false, obI .eql n 4 false, obI .geq n 11 false]) := by kernel_rfl
theorem az_n_hi  (n : Int) : tellFrom Try.prog X7 80 8 [.int .i64 n, .nilslice] h0 ([] ++ [tv 20 4 false, tv 20 7 false, tv 20 11 true, tv 20 14 false]) =
  some (V.bool true, [] ++ [obI .eql n 3 false, obI .eql n 4 false, obI .geq n 11 true, obI .leq n 40 false]) := by kernel_rfl
theorem az_n_no  : plainL.map (fun n => tellFrom Try.prog X7 80 8 [.int .i64 (.ofNat n), .nilslice] h0 ([] ++ [tv 11 17 false])) =
  plainL.map (fun n => some (V.bool true, [] ++ [.rd 21 [dE, dT n] (.bool false)])) := by kernel_rfl

theorem az_add (a b : Int) (k : Nat) : tellFrom Try.prog X7 80 8 [.int .i64 11, sA [va1 a, va1 b] k] (hA [va1 a, va1 b]) ([ownT 8 [va1 a, va1 b], tv 11 17 true] ++ [] ++ [tv 8 29 true, tv 8 35 true]) =
  some (V.bool true, [ownO [va1 a, va1 b] k, .rd 21 [dX [va1 a, va1 b], dT 11] (.bool true)] ++ [] ++ [.rd 21 [dR (va1 (w64 (a + b))), dO 11] (.bool true), .rd 21 [dA [va1 a, va1 b] k, dT 11] (.bool true)]) := by kernel_rfl

theorem az_sub (a b : Int) (k : Nat) : tellFrom Try.prog X7 80 8 [.int .i64 12, sA [va1 a, va1 b] k] (hA [va1 a, va1 b]) ([ownT 8 [va1 a, va1 b], tv 11 17 true] ++ [] ++ [tv 8 29 true, tv 8 35 true]) =
  some (V.bool true, [ownO [va1 a, va1 b] k, .rd 21 [dX [va1 a, va1 b], dT 12] (.bool true)] ++ [] ++ [.rd 21 [dR (va1 (w64 (a + w64 (0 - b)))), dO 12] (.bool true), .rd 21 [dA [va1 a, va1 b] k, dT 12] (.bool true)]) := by kernel_rfl

theorem az_mul (a b : Int) (k : Nat) : tellFrom Try.prog X7 80 8 [.int .i64 13, sA [va1 a, va1 b] k] (hA [va1 a, va1 b]) ([ownT 8 [va1 a, va1 b], tv 11 17 true] ++ [] ++ [tv 8 29 true, tv 8 35 true]) =
  some (V.bool true, [ownO [va1 a, va1 b] k, .rd 21 [dX [va1 a, va1 b], dT 13] (.bool true)] ++ [] ++ [.rd 21 [dR (va1 (w64 (a * b))), dO 13] (.bool true), .rd 21 [dA [va1 a, va1 b] k, dT 13] (.bool true)]) := by kernel_rfl

theorem az_div0 (a b : Int) (k : Nat) : tellFrom Try.prog X7 80 8 [.int .i64 14, sA [va1 a, va1 b] k] (hA [va1 a, va1 b]) ([ownT 8 [va1 a, va1 b], tv 11 17 true] ++ [tv 37 42 true] ++ []) =
  some (V.bool true, [ownO [va1 a, va1 b] k, .rd 21 [dX [va1 a, va1 b], dT 14] (.bool true)] ++ [obI .eql b 0 true] ++ []) := by kernel_rfl

theorem az_divn (a b q r : Int) (k : Nat) : tellFrom Try.prog X7 80 8 [.int .i64 14, sA [va1 a, va1 b] k] (hA [va1 a, va1 b]) ([ownT 8 [va1 a, va1 b], tv 11 17 true] ++ [tv 37 42 false, tp 37 46 (i64 q)] ++ [tv 8 29 true, tv 8 35 true]) =
  some (V.bool true, [ownO [va1 a, va1 b] k, .rd 21 [dX [va1 a, va1 b], dT 14] (.bool true)] ++ [obI .eql b 0 false, .bin .quo 3 (i64 a) (i64 b) (i64 q)] ++ [.rd 21 [dR (va1 q), dO 14] (.bool true), .rd 21 [dA [va1 a, va1 b] k, dT 14] (.bool true)]) := by kernel_rfl

theorem az_divp (a b q r : Int) (k : Nat) : tellFrom Try.prog X7 80 8 [.int .i64 14, sA [va1 a, va1 b] k] (hA [va1 a, va1 b]) ([ownT 8 [va1 a, va1 b], tv 11 17 true] ++ [tv 37 42 false, tp 37 46 (i64 q)] ++ [tv 8 29 true, tv 8 35 true]) =
  some (V.bool true, [ownO [va1 a, va1 b] k, .rd 21 [dX [va1 a, va1 b], dT 14] (.bool true)] ++ [obI .eql b 0 false, .bin .quo 3 (i64 a) (i64 b) (i64 q)] ++ [.rd 21 [dR (va1 q), dO 14] (.bool true), .rd 21 [dA [va1 a, va1 b] k, dT 14] (.bool true)]) := by kernel_rfl

theorem az_rem0 (a b : Int) (k : Nat) : tellFrom Try.prog X7 80 8 [.int .i64 15, sA [va1 a, va1 b] k] (hA [va1 a, va1 b]) ([ownT 8 [va1 a, va1 b], tv 11 17 true] ++ [tv 37 42 true] ++ []) =
  some (V.bool true, [ownO [va1 a, va1 b] k, .rd 21 [dX [va1 a, va1 b], dT 15] (.bool true)] ++ [obI .eql b 0 true] ++ []) := by kernel_rfl

theorem az_remn (a b q r : Int) (k : Nat) : tellFrom Try.prog X7 80 8 [.int .i64 15, sA [va1 a, va1 b] k] (hA [va1 a, va1 b]) ([ownT 8 [va1 a, va1 b], tv 11 17 true] ++ [tv 37 42 false, tp 37 46 (i64 q), tp 37 51 (i64 r)] ++ [tv 8 29 true, tv 8 35 true]) =
  some (V.bool true, [ownO [va1 a, va1 b] k, .rd 21 [dX [va1 a, va1 b], dT 15] (.bool true)] ++ [obI .eql b 0 false, .bin .quo 3 (i64 a) (i64 b) (i64 q), .bin .rem 3 (i64 a) (i64 b) (i64 r)] ++ [.rd 21 [dR (va1 r), dO 15] (.bool true), .rd 21 [dA [va1 a, va1 b] k, dT 15] (.bool true)]) := by kernel_rfl

theorem az_remp (a b q r : Int) (k : Nat) : tellFrom Try.prog X7 80 8 [.int .i64 15, sA [va1 a, va1 b] k] (hA [va1 a, va1 b]) ([ownT 8 [va1 a, va1 b], tv 11 17 true] ++ [tv 37 42 false, tp 37 46 (i64 q), tp 37 51 (i64 r)] ++ [tv 8 29 true, tv 8 35 true]) =
  some (V.bool true, [ownO [va1 a, va1 b] k, .rd 21 [dX [va1 a, va1 b], dT 15] (.bool true)] ++ [obI .eql b 0 false, .bin .quo 3 (i64 a) (i64 b) (i64 q), .bin .rem 3 (i64 a) (i64 b) (i64 r)] ++ [.rd 21 [dR (va1 r), dO 15] (.bool true), .rd 21 [dA [va1 a, va1 b] k, dT 15] (.bool true)]) := by kernel_rfl

theorem az_neg (a : Int) (k : Nat) : tellFrom Try.prog X7 80 8 [.int .i64 16, sA [va1 a] k] (hA [va1 a]) ([ownT 8 [va1 a], tv 11 17 true] ++ [] ++ [tv 8 29 true, tv 8 35 true]) =
  some (V.bool true, [ownO [va1 a] k, .rd 21 [dX [va1 a], dT 16] (.bool true)] ++ [] ++ [.rd 21 [dR (va1 (w64 (0 - a))), dO 16] (.bool true), .rd 21 [dA [va1 a] k, dT 16] (.bool true)]) := by kernel_rfl

theorem az_and (a b : Int) (k : Nat) : tellFrom Try.prog X7 80 8 [.int .i64 17, sA [va1 a, va1 b] k] (hA [va1 a, va1 b]) ([ownT 8 [va1 a, va1 b], tv 11 17 true] ++ [] ++ [tv 8 29 true, tv 8 35 true]) =
  some (V.bool true, [ownO [va1 a, va1 b] k, .rd 21 [dX [va1 a, va1 b], dT 17] (.bool true)] ++ [] ++ [.rd 21 [dR (va1 (andW a b)), dO 17] (.bool true), .rd 21 [dA [va1 a, va1 b] k, dT 17] (.bool true)]) := by kernel_rfl

theorem az_or (a b : Int) (k : Nat) : tellFrom Try.prog X7 80 8 [.int .i64 18, sA [va1 a, va1 b] k] (hA [va1 a, va1 b]) ([ownT 8 [va1 a, va1 b], tv 11 17 true] ++ [] ++ [tv 8 29 true, tv 8 35 true]) =
  some (V.bool true, [ownO [va1 a, va1 b] k, .rd 21 [dX [va1 a, va1 b], dT 18] (.bool true)] ++ [] ++ [.rd 21 [dR (va1 (orW a b)), dO 18] (.bool true), .rd 21 [dA [va1 a, va1 b] k, dT 18] (.bool true)]) := by kernel_rfl

theorem az_xor (a b : Int) (k : Nat) : tellFrom Try.prog X7 80 8 [.int .i64 19, sA [va1 a, va1 b] k] (hA [va1 a, va1 b]) ([ownT 8 [va1 a, va1 b], tv 11 17 true] ++ [] ++ [tv 8 29 true, tv 8 35 true]) =
  some (V.bool true, [ownO [va1 a, va1 b] k, .rd 21 [dX [va1 a, va1 b], dT 19] (.bool true)] ++ [] ++ [.rd 21 [dR (va1 (xorW a b)), dO 19] (.bool true), .rd 21 [dA [va1 a, va1 b] k, dT 19] (.bool true)]) := by kernel_rfl

theorem az_inv (a : Int) (k : Nat) : tellFrom Try.prog X7 80 8 [.int .i64 20, sA [va1 a] k] (hA [va1 a]) ([ownT 8 [va1 a], tv 11 17 true] ++ [] ++ [tv 8 29 true, tv 8 35 true]) =
  some (V.bool true, [ownO [va1 a] k, .rd 21 [dX [va1 a], dT 20] (.bool true)] ++ [] ++ [.rd 21 [dR (va1 (xorW (-1) a)), dO 20] (.bool true), .rd 21 [dA [va1 a] k, dT 20] (.bool true)]) := by kernel_rfl

theorem az_shl (a b m m' : Int) (k : Nat) : tellFrom Try.prog X7 80 8 [.int .i64 21, sA [va1 a, va1 b] k] (hA [va1 a, va1 b]) ([ownT 8 [va1 a, va1 b], tv 11 17 true] ++ [tp 37 68 (i64 m)] ++ [tv 8 29 true, tv 8 35 true]) =
  some (V.bool true, [ownO [va1 a, va1 b] k, .rd 21 [dX [va1 a, va1 b], dT 21] (.bool true)] ++ [.bin .shl 3 (i64 a) (i64 (andW b 63)) (i64 m)] ++ [.rd 21 [dR (va1 m), dO 21] (.bool true), .rd 21 [dA [va1 a, va1 b] k, dT 21] (.bool true)]) := by kernel_rfl

theorem az_shr (a b m m' : Int) (k : Nat) : tellFrom Try.prog X7 80 8 [.int .i64 22, sA [va1 a, va1 b] k] (hA [va1 a, va1 b]) ([ownT 8 [va1 a, va1 b], tv 11 17 true] ++ [tp 37 72 (i64 m)] ++ [tv 8 29 true, tv 8 35 true]) =
  some (V.bool true, [ownO [va1 a, va1 b] k, .rd 21 [dX [va1 a, va1 b], dT 22] (.bool true)] ++ [.bin .shr 3 (i64 a) (i64 (andW b 63)) (i64 m)] ++ [.rd 21 [dR (va1 m), dO 22] (.bool true), .rd 21 [dA [va1 a, va1 b] k, dT 22] (.bool true)]) := by kernel_rfl

theorem az_eq1 (a b : Int) (k : Nat) : tellFrom Try.prog X7 80 8 [.int .i64 23, sA [va1 a, va1 b] k] (hA [va1 a, va1 b]) ([ownT 8 [va1 a, va1 b], tv 11 17 true] ++ [tv 38 13 true] ++ [tv 8 29 true, tv 8 35 true]) =
  some (V.bool true, [ownO [va1 a, va1 b] k, .rd 21 [dX [va1 a, va1 b], dT 23] (.bool true)] ++ [obI .eql a b true] ++ [.rd 21 [dR (va3 1), dO 23] (.bool true), .rd 21 [dA [va1 a, va1 b] k, dT 23] (.bool true)]) := by kernel_rfl

theorem az_eq0 (a b : Int) (k : Nat) : tellFrom Try.prog X7 80 8 [.int .i64 23, sA [va1 a, va1 b] k] (hA [va1 a, va1 b]) ([ownT 8 [va1 a, va1 b], tv 11 17 true] ++ [tv 38 13 false] ++ [tv 8 29 true, tv 8 35 true]) =
  some (V.bool true, [ownO [va1 a, va1 b] k, .rd 21 [dX [va1 a, va1 b], dT 23] (.bool true)] ++ [obI .eql a b false] ++ [.rd 21 [dR (va3 0), dO 23] (.bool true), .rd 21 [dA [va1 a, va1 b] k, dT 23] (.bool true)]) := by kernel_rfl

theorem az_ne1 (a b : Int) (k : Nat) : tellFrom Try.prog X7 80 8 [.int .i64 24, sA [va1 a, va1 b] k] (hA [va1 a, va1 b]) ([ownT 8 [va1 a, va1 b], tv 11 17 true] ++ [tv 38 13 true] ++ [tv 8 29 true, tv 8 35 true]) =
  some (V.bool true, [ownO [va1 a, va1 b] k, .rd 21 [dX [va1 a, va1 b], dT 24] (.bool true)] ++ [obI .eql a b true] ++ [.rd 21 [dR (va3 0), dO 24] (.bool true), .rd 21 [dA [va1 a, va1 b] k, dT 24] (.bool true)]) := by kernel_rfl

theorem az_ne0 (a b : Int) (k : Nat) : tellFrom Try.prog X7 80 8 [.int .i64 24, sA [va1 a, va1 b] k] (hA [va1 a, va1 b]) ([ownT 8 [va1 a, va1 b], tv 11 17 true] ++ [tv 38 13 false] ++ [tv 8 29 true, tv 8 35 true]) =
  some (V.bool true, [ownO [va1 a, va1 b] k, .rd 21 [dX [va1 a, va1 b], dT 24] (.bool true)] ++ [obI .eql a b false] ++ [.rd 21 [dR (va3 1), dO 24] (.bool true), .rd 21 [dA [va1 a, va1 b] k, dT 24] (.bool true)]) := by kernel_rfl

theorem az_lt1 (a b : Int) (k : Nat) : tellFrom Try.prog X7 80 8 [.int .i64 25, sA [va1 a, va1 b] k] (hA [va1 a, va1 b]) ([ownT 8 [va1 a, va1 b], tv 11 17 true] ++ [tv 38 22 true] ++ [tv 8 29 true, tv 8 35 true]) =
  some (V.bool true, [ownO [va1 a, va1 b] k, .rd 21 [dX [va1 a, va1 b], dT 25] (.bool true)] ++ [obI .lss a b true] ++ [.rd 21 [dR (va3 1), dO 25] (.bool true), .rd 21 [dA [va1 a, va1 b] k, dT 25] (.bool true)]) := by kernel_rfl

theorem az_lt0 (a b : Int) (k : Nat) : tellFrom Try.prog X7 80 8 [.int .i64 25, sA [va1 a, va1 b] k] (hA [va1 a, va1 b]) ([ownT 8 [va1 a, va1 b], tv 11 17 true] ++ [tv 38 22 false] ++ [tv 8 29 true, tv 8 35 true]) =
  some (V.bool true, [ownO [va1 a, va1 b] k, .rd 21 [dX [va1 a, va1 b], dT 25] (.bool true)] ++ [obI .lss a b false] ++ [.rd 21 [dR (va3 0), dO 25] (.bool true), .rd 21 [dA [va1 a, va1 b] k, dT 25] (.bool true)]) := by kernel_rfl

theorem az_le1 (a b : Int) (k : Nat) : tellFrom Try.prog X7 80 8 [.int .i64 26, sA [va1 a, va1 b] k] (hA [va1 a, va1 b]) ([ownT 8 [va1 a, va1 b], tv 11 17 true] ++ [tv 38 28 true] ++ [tv 8 29 true, tv 8 35 true]) =
  some (V.bool true, [ownO [va1 a, va1 b] k, .rd 21 [dX [va1 a, va1 b], dT 26] (.bool true)] ++ [obI .leq a b true] ++ [.rd 21 [dR (va3 1), dO 26] (.bool true), .rd 21 [dA [va1 a, va1 b] k, dT 26] (.bool true)]) := by kernel_rfl

theorem az_le0 (a b : Int) (k : Nat) : tellFrom Try.prog X7 80 8 [.int .i64 26, sA [va1 a, va1 b] k] (hA [va1 a, va1 b]) ([ownT 8 [va1 a, va1 b], tv 11 17 true] ++ [tv 38 28 false] ++ [tv 8 29 true, tv 8 35 true]) =
  some (V.bool true, [ownO [va1 a, va1 b] k, .rd 21 [dX [va1 a, va1 b], dT 26] (.bool true)] ++ [obI .leq a b false] ++ [.rd 21 [dR (va3 0), dO 26] (.bool true), .rd 21 [dA [va1 a, va1 b] k, dT 26] (.bool true)]) := by kernel_rfl

theorem az_gt1 (a b : Int) (k : Nat) : tellFrom Try.prog X7 80 8 [.int .i64 27, sA [va1 a, va1 b] k] (hA [va1 a, va1 b]) ([ownT 8 [va1 a, va1 b], tv 11 17 true] ++ [tv 38 28 true] ++ [tv 8 29 true, tv 8 35 true]) =
  some (V.bool true, [ownO [va1 a, va1 b] k, .rd 21 [dX [va1 a, va1 b], dT 27] (.bool true)] ++ [obI .leq a b true] ++ [.rd 21 [dR (va3 0), dO 27] (.bool true), .rd 21 [dA [va1 a, va1 b] k, dT 27] (.bool true)]) := by kernel_rfl

theorem az_gt0 (a b : Int) (k : Nat) : tellFrom Try.prog X7 80 8 [.int .i64 27, sA [va1 a, va1 b] k] (hA [va1 a, va1 b]) ([ownT 8 [va1 a, va1 b], tv 11 17 true] ++ [tv 38 28 false] ++ [tv 8 29 true, tv 8 35 true]) =
  some (V.bool true, [ownO [va1 a, va1 b] k, .rd 21 [dX [va1 a, va1 b], dT 27] (.bool true)] ++ [obI .leq a b false] ++ [.rd 21 [dR (va3 1), dO 27] (.bool true), .rd 21 [dA [va1 a, va1 b] k, dT 27] (.bool true)]) := by kernel_rfl

theorem az_ge1 (a b : Int) (k : Nat) : tellFrom Try.prog X7 80 8 [.int .i64 28, sA [va1 a, va1 b] k] (hA [va1 a, va1 b]) ([ownT 8 [va1 a, va1 b], tv 11 17 true] ++ [tv 38 22 true] ++ [tv 8 29 true, tv 8 35 true]) =
  some (V.bool true, [ownO [va1 a, va1 b] k, .rd 21 [dX [va1 a, va1 b], dT 28] (.bool true)] ++ [obI .lss a b true] ++ [.rd 21 [dR (va3 0), dO 28] (.bool true), .rd 21 [dA [va1 a, va1 b] k, dT 28] (.bool true)]) := by kernel_rfl

theorem az_ge0 (a b : Int) (k : Nat) : tellFrom Try.prog X7 80 8 [.int .i64 28, sA [va1 a, va1 b] k] (hA [va1 a, va1 b]) ([ownT 8 [va1 a, va1 b], tv 11 17 true] ++ [tv 38 22 false] ++ [tv 8 29 true, tv 8 35 true]) =
  some (V.bool true, [ownO [va1 a, va1 b] k, .rd 21 [dX [va1 a, va1 b], dT 28] (.bool true)] ++ [obI .lss a b false] ++ [.rd 21 [dR (va3 1), dO 28] (.bool true), .rd 21 [dA [va1 a, va1 b] k, dT 28] (.bool true)]) := by kernel_rfl

theorem az_both00  (k : Nat) : tellFrom Try.prog X7 80 8 [.int .i64 29, sA [va3 0, va3 0] k] (hA [va3 0, va3 0]) ([ownT 8 [va3 0, va3 0], tv 11 17 true] ++ [] ++ [tv 8 29 true, tv 8 35 true]) =
  some (V.bool true, [ownO [va3 0, va3 0] k, .rd 21 [dX [va3 0, va3 0], dT 29] (.bool true)] ++ [] ++ [.rd 21 [dR (va3 0), dO 29] (.bool true), .rd 21 [dA [va3 0, va3 0] k, dT 29] (.bool true)]) := by kernel_rfl

theorem az_both01  (k : Nat) : tellFrom Try.prog X7 80 8 [.int .i64 29, sA [va3 0, va3 1] k] (hA [va3 0, va3 1]) ([ownT 8 [va3 0, va3 1], tv 11 17 true] ++ [] ++ [tv 8 29 true, tv 8 35 true]) =
  some (V.bool true, [ownO [va3 0, va3 1] k, .rd 21 [dX [va3 0, va3 1], dT 29] (.bool true)] ++ [] ++ [.rd 21 [dR (va3 0), dO 29] (.bool true), .rd 21 [dA [va3 0, va3 1] k, dT 29] (.bool true)]) := by kernel_rfl

theorem az_both10  (k : Nat) : tellFrom Try.prog X7 80 8 [.int .i64 29, sA [va3 1, va3 0] k] (hA [va3 1, va3 0]) ([ownT 8 [va3 1, va3 0], tv 11 17 true] ++ [] ++ [tv 8 29 true, tv 8 35 true]) =
  some (V.bool true, [ownO [va3 1, va3 0] k, .rd 21 [dX [va3 1, va3 0], dT 29] (.bool true)] ++ [] ++ [.rd 21 [dR (va3 0), dO 29] (.bool true), .rd 21 [dA [va3 1, va3 0] k, dT 29] (.bool true)]) := by kernel_rfl

theorem az_both11  (k : Nat) : tellFrom Try.prog X7 80 8 [.int .i64 29, sA [va3 1, va3 1] k] (hA [va3 1, va3 1]) ([ownT 8 [va3 1, va3 1], tv 11 17 true] ++ [] ++ [tv 8 29 true, tv 8 35 true]) =
  some (V.bool true, [ownO [va3 1, va3 1] k, .rd 21 [dX [va3 1, va3 1], dT 29] (.bool true)] ++ [] ++ [.rd 21 [dR (va3 1), dO 29] (.bool true), .rd 21 [dA [va3 1, va3 1] k, dT 29] (.bool true)]) := by kernel_rfl

theorem az_either00  (k : Nat) : tellFrom Try.prog X7 80 8 [.int .i64 30, sA [va3 0, va3 0] k] (hA [va3 0, va3 0]) ([ownT 8 [va3 0, va3 0], tv 11 17 true] ++ [] ++ [tv 8 29 true, tv 8 35 true]) =
  some (V.bool true, [ownO [va3 0, va3 0] k, .rd 21 [dX [va3 0, va3 0], dT 30] (.bool true)] ++ [] ++ [.rd 21 [dR (va3 0), dO 30] (.bool true), .rd 21 [dA [va3 0, va3 0] k, dT 30] (.bool true)]) := by kernel_rfl

theorem az_either01  (k : Nat) : tellFrom Try.prog X7 80 8 [.int .i64 30, sA [va3 0, va3 1] k] (hA [va3 0, va3 1]) ([ownT 8 [va3 0, va3 1], tv 11 17 true] ++ [] ++ [tv 8 29 true, tv 8 35 true]) =
  some (V.bool true, [ownO [va3 0, va3 1] k, .rd 21 [dX [va3 0, va3 1], dT 30] (.bool true)] ++ [] ++ [.rd 21 [dR (va3 1), dO 30] (.bool true), .rd 21 [dA [va3 0, va3 1] k, dT 30] (.bool true)]) := by kernel_rfl

theorem az_either10  (k : Nat) : tellFrom Try.prog X7 80 8 [.int .i64 30, sA [va3 1, va3 0] k] (hA [va3 1, va3 0]) ([ownT 8 [va3 1, va3 0], tv 11 17 true] ++ [] ++ [tv 8 29 true, tv 8 35 true]) =
  some (V.bool true, [ownO [va3 1, va3 0] k, .rd 21 [dX [va3 1, va3 0], dT 30] (.bool true)] ++ [] ++ [.rd 21 [dR (va3 1), dO 30] (.bool true), .rd 21 [dA [va3 1, va3 0] k, dT 30] (.bool true)]) := by kernel_rfl

theorem az_either11  (k : Nat) : tellFrom Try.prog X7 80 8 [.int .i64 30, sA [va3 1, va3 1] k] (hA [va3 1, va3 1]) ([ownT 8 [va3 1, va3 1], tv 11 17 true] ++ [] ++ [tv 8 29 true, tv 8 35 true]) =
  some (V.bool true, [ownO [va3 1, va3 1] k, .rd 21 [dX [va3 1, va3 1], dT 30] (.bool true)] ++ [] ++ [.rd 21 [dR (va3 1), dO 30] (.bool true), .rd 21 [dA [va3 1, va3 1] k, dT 30] (.bool true)]) := by kernel_rfl

theorem az_not0  (k : Nat) : tellFrom Try.prog X7 80 8 [.int .i64 31, sA [va3 0] k] (hA [va3 0]) ([ownT 8 [va3 0], tv 11 17 true] ++ [] ++ [tv 8 29 true, tv 8 35 true]) =
  some (V.bool true, [ownO [va3 0] k, .rd 21 [dX [va3 0], dT 31] (.bool true)] ++ [] ++ [.rd 21 [dR (va3 1), dO 31] (.bool true), .rd 21 [dA [va3 0] k, dT 31] (.bool true)]) := by kernel_rfl

theorem az_not1  (k : Nat) : tellFrom Try.prog X7 80 8 [.int .i64 31, sA [va3 1] k] (hA [va3 1]) ([ownT 8 [va3 1], tv 11 17 true] ++ [] ++ [tv 8 29 true, tv 8 35 true]) =
  some (V.bool true, [ownO [va3 1] k, .rd 21 [dX [va3 1], dT 31] (.bool true)] ++ [] ++ [.rd 21 [dR (va3 0), dO 31] (.bool true), .rd 21 [dA [va3 1] k, dT 31] (.bool true)]) := by kernel_rfl

theorem az_len (a : List UInt8) (k : Nat) : tellFrom Try.prog X7 80 8 [.int .i64 32, sA [va2 a] k] (hA [va2 a]) ([ownT 8 [va2 a], tv 11 17 true] ++ [] ++ [tv 8 29 true, tv 8 35 true]) =
  some (V.bool true, [ownO [va2 a] k, .rd 21 [dX [va2 a], dT 32] (.bool true)] ++ [] ++ [.rd 21 [dR (va1 (a.length : Nat)), dO 32] (.bool true), .rd 21 [dA [va2 a] k, dT 32] (.bool true)]) := by kernel_rfl

theorem az_join1 (a b : List UInt8) (k : Nat) : tellFrom Try.prog X7 80 8 [.int .i64 33, sA [va2 a, va2 b] k] (hA [va2 a, va2 b]) ([ownT 8 [va2 a, va2 b], tv 11 17 true] ++ [tv 39 27 true] ++ []) =
  some (V.bool true, [ownO [va2 a, va2 b] k, .rd 21 [dX [va2 a, va2 b], dT 33] (.bool true)] ++ [obI .gtr (w64 ((a.length : Nat) + (b.length : Nat))) 256 true] ++ []) := by kernel_rfl

theorem az_join0 (a b : List UInt8) (k : Nat) : tellFrom Try.prog X7 80 8 [.int .i64 33, sA [va2 a, va2 b] k] (hA [va2 a, va2 b]) ([ownT 8 [va2 a, va2 b], tv 11 17 true] ++ [tv 39 27 false, tp 39 33 (.str (a ++ b))] ++ [tv 8 29 true, tv 8 35 true]) =
  some (V.bool true, [ownO [va2 a, va2 b] k, .rd 21 [dX [va2 a, va2 b], dT 33] (.bool true)] ++ [obI .gtr (w64 ((a.length : Nat) + (b.length : Nat))) 256 false, .bin .add 9 (.str a) (.str b) (.str (a ++ b))] ++ [.rd 21 [dR (va2 (a ++ b)), dO 33] (.bool true), .rd 21 [dA [va2 a, va2 b] k, dT 33] (.bool true)]) := by kernel_rfl

theorem az_cutx0 (a r : List UInt8) (i j : Int) (k : Nat) : tellFrom Try.prog X7 80 8 [.int .i64 34, sA [va2 a, va1 i, va1 j] k] (hA [va2 a, va1 i, va1 j]) ([ownT 8 [va2 a, va1 i, va1 j], tv 11 17 true] ++ [tv 11 109 true] ++ []) =
  some (V.bool true, [ownO [va2 a, va1 i, va1 j] k, .rd 21 [dX [va2 a, va1 i, va1 j], dT 34] (.bool true)] ++ [obI .lss i 0 true] ++ []) := by kernel_rfl

theorem az_cutx1 (a r : List UInt8) (i j : Int) (k : Nat) : tellFrom Try.prog X7 80 8 [.int .i64 34, sA [va2 a, va1 i, va1 j] k] (hA [va2 a, va1 i, va1 j]) ([ownT 8 [va2 a, va1 i, va1 j], tv 11 17 true] ++ [tv 11 109 false, tv 11 117 true] ++ []) =
  some (V.bool true, [ownO [va2 a, va1 i, va1 j] k, .rd 21 [dX [va2 a, va1 i, va1 j], dT 34] (.bool true)] ++ [obI .lss i 0 false, obI .gtr i j true] ++ []) := by kernel_rfl

theorem az_cutx2 (a r : List UInt8) (i j : Int) (k : Nat) : tellFrom Try.prog X7 80 8 [.int .i64 34, sA [va2 a, va1 i, va1 j] k] (hA [va2 a, va1 i, va1 j]) ([ownT 8 [va2 a, va1 i, va1 j], tv 11 17 true] ++ [tv 11 109 false, tv 11 117 false, tv 11 125 true] ++ []) =
  some (V.bool true, [ownO [va2 a, va1 i, va1 j] k, .rd 21 [dX [va2 a, va1 i, va1 j], dT 34] (.bool true)] ++ [obI .lss i 0 false, obI .gtr i j false, obI .gtr j (a.length : Nat) true] ++ []) := by kernel_rfl

theorem az_cut (a r : List UInt8) (i j : Int) (k : Nat) : tellFrom Try.prog X7 80 8 [.int .i64 34, sA [va2 a, va1 i, va1 j] k] (hA [va2 a, va1 i, va1 j]) ([ownT 8 [va2 a, va1 i, va1 j], tv 11 17 true] ++ [tv 11 109 false, tv 11 117 false, tv 11 125 false, tp 11 135 (.str r)] ++ [tv 8 29 true, tv 8 35 true]) =
  some (V.bool true, [ownO [va2 a, va1 i, va1 j] k, .rd 21 [dX [va2 a, va1 i, va1 j], dT 34] (.bool true)] ++ [obI .lss i 0 false, obI .gtr i j false, obI .gtr j (a.length : Nat) false, .slc 9 (.str a) (some (i64 i)) (some (i64 j)) none (.str r)] ++ [.rd 21 [dR (va2 r), dO 34] (.bool true), .rd 21 [dA [va2 a, va1 i, va1 j] k, dT 34] (.bool true)]) := by kernel_rfl

theorem az_atx0 (a : List UInt8) (i : Int) (c : UInt8) (k : Nat) : tellFrom Try.prog X7 80 8 [.int .i64 35, sA [va2 a, va1 i] k] (hA [va2 a, va1 i]) ([ownT 8 [va2 a, va1 i], tv 11 17 true] ++ [tv 39 39 true] ++ []) =
  some (V.bool true, [ownO [va2 a, va1 i] k, .rd 21 [dX [va2 a, va1 i], dT 35] (.bool true)] ++ [obI .lss i 0 true] ++ []) := by kernel_rfl

theorem az_atx1 (a : List UInt8) (i : Int) (c : UInt8) (k : Nat) : tellFrom Try.prog X7 80 8 [.int .i64 35, sA [va2 a, va1 i] k] (hA [va2 a, va1 i]) ([ownT 8 [va2 a, va1 i], tv 11 17 true] ++ [tv 39 39 false, tv 39 46 true] ++ []) =
  some (V.bool true, [ownO [va2 a, va1 i] k, .rd 21 [dX [va2 a, va1 i], dT 35] (.bool true)] ++ [obI .lss i 0 false, obI .geq i (a.length : Nat) true] ++ []) := by kernel_rfl

theorem az_at (a : List UInt8) (i : Int) (c : UInt8) (k : Nat) : tellFrom Try.prog X7 80 8 [.int .i64 35, sA [va2 a, va1 i] k] (hA [va2 a, va1 i]) ([ownT 8 [va2 a, va1 i], tv 11 17 true] ++ [tv 39 39 false, tv 39 46 false, tp 39 53 (.int .u8 c.toNat)] ++ [tv 8 29 true, tv 8 35 true]) =
  some (V.bool true, [ownO [va2 a, va1 i] k, .rd 21 [dX [va2 a, va1 i], dT 35] (.bool true)] ++ [obI .lss i 0 false, obI .geq i (a.length : Nat) false, .idx 9 (.str a) (i64 i) (.int .u8 c.toNat)] ++ [.rd 21 [dR (va1 (w64 c.toNat)), dO 35] (.bool true), .rd 21 [dA [va2 a, va1 i] k, dT 35] (.bool true)]) := by kernel_rfl

theorem az_same1 (a b : List UInt8) (k : Nat) : tellFrom Try.prog X7 80 8 [.int .i64 36, sA [va2 a, va2 b] k] (hA [va2 a, va2 b]) ([ownT 8 [va2 a, va2 b], tv 11 17 true] ++ [tv 39 62 true] ++ [tv 8 29 true, tv 8 35 true]) =
  some (V.bool true, [ownO [va2 a, va2 b] k, .rd 21 [dX [va2 a, va2 b], dT 36] (.bool true)] ++ [obS .eql a b true] ++ [.rd 21 [dR (va3 1), dO 36] (.bool true), .rd 21 [dA [va2 a, va2 b] k, dT 36] (.bool true)]) := by kernel_rfl

theorem az_same0 (a b : List UInt8) (k : Nat) : tellFrom Try.prog X7 80 8 [.int .i64 36, sA [va2 a, va2 b] k] (hA [va2 a, va2 b]) ([ownT 8 [va2 a, va2 b], tv 11 17 true] ++ [tv 39 62 false] ++ [tv 8 29 true, tv 8 35 true]) =
  some (V.bool true, [ownO [va2 a, va2 b] k, .rd 21 [dX [va2 a, va2 b], dT 36] (.bool true)] ++ [obS .eql a b false] ++ [.rd 21 [dR (va3 0), dO 36] (.bool true), .rd 21 [dA [va2 a, va2 b] k, dT 36] (.bool true)]) := by kernel_rfl

theorem az_less1 (a b : List UInt8) (k : Nat) : tellFrom Try.prog X7 80 8 [.int .i64 37, sA [va2 a, va2 b] k] (hA [va2 a, va2 b]) ([ownT 8 [va2 a, va2 b], tv 11 17 true] ++ [tv 39 70 true] ++ [tv 8 29 true, tv 8 35 true]) =
  some (V.bool true, [ownO [va2 a, va2 b] k, .rd 21 [dX [va2 a, va2 b], dT 37] (.bool true)] ++ [obS .lss a b true] ++ [.rd 21 [dR (va3 1), dO 37] (.bool true), .rd 21 [dA [va2 a, va2 b] k, dT 37] (.bool true)]) := by kernel_rfl

theorem az_less0 (a b : List UInt8) (k : Nat) : tellFrom Try.prog X7 80 8 [.int .i64 37, sA [va2 a, va2 b] k] (hA [va2 a, va2 b]) ([ownT 8 [va2 a, va2 b], tv 11 17 true] ++ [tv 39 70 false] ++ [tv 8 29 true, tv 8 35 true]) =
  some (V.bool true, [ownO [va2 a, va2 b] k, .rd 21 [dX [va2 a, va2 b], dT 37] (.bool true)] ++ [obS .lss a b false] ++ [.rd 21 [dR (va3 0), dO 37] (.bool true), .rd 21 [dA [va2 a, va2 b] k, dT 37] (.bool true)]) := by kernel_rfl

theorem az_pack (n : Int) (k : Nat) : tellFrom Try.prog X7 80 8 [.int .i64 38, sA [va1 n] k] (hA [va1 n]) ([ownT 8 [va1 n], tv 11 17 true] ++ [] ++ [tv 8 29 true, tv 8 35 true]) =
  some (V.bool true, [ownO [va1 n] k, .rd 21 [dX [va1 n], dT 38] (.bool true)] ++ [] ++ [.rd 21 [dR (va2 (pks n)), dO 38] (.bool true), .rd 21 [dA [va1 n] k, dT 38] (.bool true)]) := by kernel_rfl

theorem az_one (n : Int) (k : Nat) : tellFrom Try.prog X7 80 8 [.int .i64 40, sA [va1 n] k] (hA [va1 n]) ([ownT 8 [va1 n], tv 11 17 true] ++ [] ++ [tv 8 29 true, tv 8 35 true]) =
  some (V.bool true, [ownO [va1 n] k, .rd 21 [dX [va1 n], dT 40] (.bool true)] ++ [] ++ [.rd 21 [dR (va2 [by8 n]), dO 40] (.bool true), .rd 21 [dA [va1 n] k, dT 40] (.bool true)]) := by kernel_rfl

theorem az_unpx (a : List UInt8) (k : Nat) : tellFrom Try.prog X7 80 8 [.int .i64 39, sA [va2 a] k] (hA [va2 a]) ([ownT 8 [va2 a], tv 11 17 true] ++ [tv 39 83 true] ++ []) =
  some (V.bool true, [ownO [va2 a] k, .rd 21 [dX [va2 a], dT 39] (.bool true)] ++ [obI .gtr a.length 8 true] ++ []) := by kernel_rfl

theorem az_unp0  (k : Nat) : tellFrom Try.prog X7 80 8 [.int .i64 39, sA [va2 []] k] (hA [va2 []]) ([ownT 8 [va2 []], tv 11 17 true] ++ [] ++ [tv 8 29 true, tv 8 35 true]) =
  some (V.bool true, [ownO [va2 []] k, .rd 21 [dX [va2 []], dT 39] (.bool true)] ++ [] ++ [.rd 21 [dR (va1 (0)), dO 39] (.bool true), .rd 21 [dA [va2 []] k, dT 39] (.bool true)]) := by kernel_rfl

theorem az_unp1 (c0 : UInt8) (k : Nat) : tellFrom Try.prog X7 80 8 [.int .i64 39, sA [va2 [c0]] k] (hA [va2 [c0]]) ([ownT 8 [va2 [c0]], tv 11 17 true] ++ [] ++ [tv 8 29 true, tv 8 35 true]) =
  some (V.bool true, [ownO [va2 [c0]] k, .rd 21 [dX [va2 [c0]], dT 39] (.bool true)] ++ [] ++ [.rd 21 [dR (va1 (up (0) c0)), dO 39] (.bool true), .rd 21 [dA [va2 [c0]] k, dT 39] (.bool true)]) := by kernel_rfl

theorem az_unp2 (c0 c1 : UInt8) (k : Nat) : tellFrom Try.prog X7 80 8 [.int .i64 39, sA [va2 [c0, c1]] k] (hA [va2 [c0, c1]]) ([ownT 8 [va2 [c0, c1]], tv 11 17 true] ++ [] ++ [tv 8 29 true, tv 8 35 true]) =
  some (V.bool true, [ownO [va2 [c0, c1]] k, .rd 21 [dX [va2 [c0, c1]], dT 39] (.bool true)] ++ [] ++ [.rd 21 [dR (va1 (up (up (0) c0) c1)), dO 39] (.bool true), .rd 21 [dA [va2 [c0, c1]] k, dT 39] (.bool true)]) := by kernel_rfl

theorem az_unp3 (c0 c1 c2 : UInt8) (k : Nat) : tellFrom Try.prog X7 80 8 [.int .i64 39, sA [va2 [c0, c1, c2]] k] (hA [va2 [c0, c1, c2]]) ([ownT 8 [va2 [c0, c1, c2]], tv 11 17 true] ++ [] ++ [tv 8 29 true, tv 8 35 true]) =
  some (V.bool true, [ownO [va2 [c0, c1, c2]] k, .rd 21 [dX [va2 [c0, c1, c2]], dT 39] (.bool true)] ++ [] ++ [.rd 21 [dR (va1 (up (up (up (0) c0) c1) c2)), dO 39] (.bool true), .rd 21 [dA [va2 [c0, c1, c2]] k, dT 39] (.bool true)]) := by kernel_rfl

theorem az_unp4 (c0 c1 c2 c3 : UInt8) (k : Nat) : tellFrom Try.prog X7 80 8 [.int .i64 39, sA [va2 [c0, c1, c2, c3]] k] (hA [va2 [c0, c1, c2, c3]]) ([ownT 8 [va2 [c0, c1, c2, c3]], tv 11 17 true] ++ [] ++ [tv 8 29 true, tv 8 35 true]) =
  some (V.bool true, [ownO [va2 [c0, c1, c2, c3]] k, .rd 21 [dX [va2 [c0, c1, c2, c3]], dT 39] (.bool true)] ++ [] ++ [.rd 21 [dR (va1 (up (up (up (up (0) c0) c1) c2) c3)), dO 39] (.bool true), .rd 21 [dA [va2 [c0, c1, c2, c3]] k, dT 39] (.bool true)]) := by kernel_rfl

theorem az_unp5 (c0 c1 c2 c3 c4 : UInt8) (k : Nat) : tellFrom Try.prog X7 80 8 [.int .i64 39, sA [va2 [c0, c1, c2, c3, c4]] k] (hA [va2 [c0, c1, c2, c3, c4]]) ([ownT 8 [va2 [c0, c1, c2, c3, c4]], tv 11 17 true] ++ [] ++ [tv 8 29 true, tv 8 35 true]) =
  some (V.bool true, [ownO [va2 [c0, c1, c2, c3, c4]] k, .rd 21 [dX [va2 [c0, c1, c2, c3, c4]], dT 39] (.bool true)] ++ [] ++ [.rd 21 [dR (va1 (up (up (up (up (up (0) c0) c1) c2) c3) c4)), dO 39] (.bool true), .rd 21 [dA [va2 [c0, c1, c2, c3, c4]] k, dT 39] (.bool true)]) := by kernel_rfl

theorem az_unp6 (c0 c1 c2 c3 c4 c5 : UInt8) (k : Nat) : tellFrom Try.prog X7 80 8 [.int .i64 39, sA [va2 [c0, c1, c2, c3, c4, c5]] k] (hA [va2 [c0, c1, c2, c3, c4, c5]]) ([ownT 8 [va2 [c0, c1, c2, c3, c4, c5]], tv 11 17 true] ++ [] ++ [tv 8 29 true, tv 8 35 true]) =
  some (V.bool true, [ownO [va2 [c0, c1, c2, c3, c4, c5]] k, .rd 21 [dX [va2 [c0, c1, c2, c3, c4, c5]], dT 39] (.bool true)] ++ [] ++ [.rd 21 [dR (va1 (up (up (up (up (up (up (0) c0) c1) c2) c3) c4) c5)), dO 39] (.bool true), .rd 21 [dA [va2 [c0, c1, c2, c3, c4, c5]] k, dT 39] (.bool true)]) := by kernel_rfl

theorem az_unp7 (c0 c1 c2 c3 c4 c5 c6 : UInt8) (k : Nat) : tellFrom Try.prog X7 80 8 [.int .i64 39, sA [va2 [c0, c1, c2, c3, c4, c5, c6]] k] (hA [va2 [c0, c1, c2, c3, c4, c5, c6]]) ([ownT 8 [va2 [c0, c1, c2, c3, c4, c5, c6]], tv 11 17 true] ++ [] ++ [tv 8 29 true, tv 8 35 true]) =
  some (V.bool true, [ownO [va2 [c0, c1, c2, c3, c4, c5, c6]] k, .rd 21 [dX [va2 [c0, c1, c2, c3, c4, c5, c6]], dT 39] (.bool true)] ++ [] ++ [.rd 21 [dR (va1 (up (up (up (up (up (up (up (0) c0) c1) c2) c3) c4) c5) c6)), dO 39] (.bool true), .rd 21 [dA [va2 [c0, c1, c2, c3, c4, c5, c6]] k, dT 39] (.bool true)]) := by kernel_rfl

theorem az_unp8 (c0 c1 c2 c3 c4 c5 c6 c7 : UInt8) (k : Nat) : tellFrom Try.prog X7 80 8 [.int .i64 39, sA [va2 [c0, c1, c2, c3, c4, c5, c6, c7]] k] (hA [va2 [c0, c1, c2, c3, c4, c5, c6, c7]]) ([ownT 8 [va2 [c0, c1, c2, c3, c4, c5, c6, c7]], tv 11 17 true] ++ [] ++ [tv 8 29 true, tv 8 35 true]) =
  some (V.bool true, [ownO [va2 [c0, c1, c2, c3, c4, c5, c6, c7]] k, .rd 21 [dX [va2 [c0, c1, c2, c3, c4, c5, c6, c7]], dT 39] (.bool true)] ++ [] ++ [.rd 21 [dR (va1 (up (up (up (up (up (up (up (up (0) c0) c1) c2) c3) c4) c5) c6) c7)), dO 39] (.bool true), .rd 21 [dA [va2 [c0, c1, c2, c3, c4, c5, c6, c7]] k, dT 39] (.bool true)]) := by kernel_rfl

theorem az_tru_e (k : Nat) : tellFrom Try.prog X7 80 8 [.int .i64 3, sA [] k] (hA []) ([tv 11 17 true] ++ [tv 8 29 true, tv 8 35 true]) =
  some (V.bool true, [.rd 21 [dE, dT 3] (.bool true)] ++ [.rd 21 [dR (va3 1), dO 3] (.bool true), .rd 21 [dA [] k, dT 3] (.bool true)]) := by kernel_rfl

theorem az_tru_n  : tellFrom Try.prog X7 80 8 [.int .i64 3, .nilslice] h0 ([tv 11 17 true] ++ [tv 8 29 true, tv 8 35 true]) =
  some (V.bool true, [.rd 21 [dE, dT 3] (.bool true)] ++ [.rd 21 [dR (va3 1), dO 3] (.bool true), .rd 21 [.nilslice, dT 3] (.bool true)]) := by kernel_rfl

theorem az_fal_e (k : Nat) : tellFrom Try.prog X7 80 8 [.int .i64 4, sA [] k] (hA []) ([tv 11 17 true] ++ [tv 8 29 true, tv 8 35 true]) =
  some (V.bool true, [.rd 21 [dE, dT 4] (.bool true)] ++ [.rd 21 [dR (va3 0), dO 4] (.bool true), .rd 21 [dA [] k, dT 4] (.bool true)]) := by kernel_rfl

theorem az_fal_n  : tellFrom Try.prog X7 80 8 [.int .i64 4, .nilslice] h0 ([tv 11 17 true] ++ [tv 8 29 true, tv 8 35 true]) =
  some (V.bool true, [.rd 21 [dE, dT 4] (.bool true)] ++ [.rd 21 [dR (va3 0), dO 4] (.bool true), .rd 21 [.nilslice, dT 4] (.bool true)]) := by kernel_rfl

end Go.AM
