/-
  Any operation of values that fit: the runs, on.
-/
import Derived.Test.YthgidafohcfjoaaOpV1
set_option linter.unusedVariables false
namespace Go.AM
open Go.Proofs

theorem ay_pack (n : Int) (k : Nat) : tellFrom Try.prog X7 80 3 [.int .i64 38, sA [va1 n] k] (hA [va1 n]) ([ownT 3 [va1 n], tv 11 17 true] ++ [] ++ [tv 12 15 true] ++ [] ++ [tp 3 26 rS, tp 3 36 rS]) =
  some (V.bool true, [ownO [va1 n] k, .rd 21 [dX [va1 n], dT 38] (.bool true)] ++ [] ++ [.rd 40 [dA [va1 n] k, dT 38] (.bool true)] ++ [] ++ [.rd 13 [dR (va2 (pks n)), dR (va2 (pks n))] rS, .rd 13 [dX [va1 n], dA [va1 n] k] rS]) := by kernel_rfl

theorem ay_one (n : Int) (k : Nat) : tellFrom Try.prog X7 80 3 [.int .i64 40, sA [va1 n] k] (hA [va1 n]) ([ownT 3 [va1 n], tv 11 17 true] ++ [] ++ [tv 12 15 true] ++ [] ++ [tp 3 26 rS, tp 3 36 rS]) =
  some (V.bool true, [ownO [va1 n] k, .rd 21 [dX [va1 n], dT 40] (.bool true)] ++ [] ++ [.rd 40 [dA [va1 n] k, dT 40] (.bool true)] ++ [] ++ [.rd 13 [dR (va2 [by8 n]), dR (va2 [by8 n])] rS, .rd 13 [dX [va1 n], dA [va1 n] k] rS]) := by kernel_rfl

theorem ay_unpx (a : List UInt8) (k : Nat) : tellFrom Try.prog X7 80 3 [.int .i64 39, sA [va2 a] k] (hA [va2 a]) ([ownT 3 [va2 a], tv 11 17 true] ++ [tv 39 83 true] ++ [tv 12 15 true] ++ [tv 57 8 true] ++ [tp 3 26 rS, tp 3 36 rS]) =
  some (V.bool true, [ownO [va2 a] k, .rd 21 [dX [va2 a], dT 39] (.bool true)] ++ [obI .gtr a.length 8 true] ++ [.rd 40 [dA [va2 a] k, dT 39] (.bool true)] ++ [obI .gtr a.length 8 true] ++ [.rd 13 [.nilslice, .nilslice] rS, .rd 13 [dX [va2 a], dA [va2 a] k] rS]) := by kernel_rfl

theorem ay_unp0  (k : Nat) : tellFrom Try.prog X7 80 3 [.int .i64 39, sA [va2 []] k] (hA [va2 []]) ([ownT 3 [va2 []], tv 11 17 true] ++ [] ++ [tv 12 15 true] ++ [] ++ [tp 3 26 rS, tp 3 36 rS]) =
  some (V.bool true, [ownO [va2 []] k, .rd 21 [dX [va2 []], dT 39] (.bool true)] ++ [] ++ [.rd 40 [dA [va2 []] k, dT 39] (.bool true)] ++ [] ++ [.rd 13 [dR (va1 (0)), dR (va1 (w64 (0)))] rS, .rd 13 [dX [va2 []], dA [va2 []] k] rS]) := by kernel_rfl

theorem ay_unp1 (c0 : UInt8) (k : Nat) : tellFrom Try.prog X7 80 3 [.int .i64 39, sA [va2 [c0]] k] (hA [va2 [c0]]) ([ownT 3 [va2 [c0]], tv 11 17 true] ++ [] ++ [tv 12 15 true] ++ [] ++ [tp 3 26 rS, tp 3 36 rS]) =
  some (V.bool true, [ownO [va2 [c0]] k, .rd 21 [dX [va2 [c0]], dT 39] (.bool true)] ++ [] ++ [.rd 40 [dA [va2 [c0]] k, dT 39] (.bool true)] ++ [] ++ [.rd 13 [dR (va1 (up (0) c0)), dR (va1 (w64 (upU (0) c0)))] rS, .rd 13 [dX [va2 [c0]], dA [va2 [c0]] k] rS]) := by kernel_rfl

theorem ay_unp2 (c0 c1 : UInt8) (k : Nat) : tellFrom Try.prog X7 80 3 [.int .i64 39, sA [va2 [c0, c1]] k] (hA [va2 [c0, c1]]) ([ownT 3 [va2 [c0, c1]], tv 11 17 true] ++ [] ++ [tv 12 15 true] ++ [] ++ [tp 3 26 rS, tp 3 36 rS]) =
  some (V.bool true, [ownO [va2 [c0, c1]] k, .rd 21 [dX [va2 [c0, c1]], dT 39] (.bool true)] ++ [] ++ [.rd 40 [dA [va2 [c0, c1]] k, dT 39] (.bool true)] ++ [] ++ [.rd 13 [dR (va1 (up (up (0) c0) c1)), dR (va1 (w64 (upU (upU (0) c0) c1)))] rS, .rd 13 [dX [va2 [c0, c1]], dA [va2 [c0, c1]] k] rS]) := by kernel_rfl

theorem ay_unp3 (c0 c1 c2 : UInt8) (k : Nat) : tellFrom Try.prog X7 80 3 [.int .i64 39, sA [va2 [c0, c1, c2]] k] (hA [va2 [c0, c1, c2]]) ([ownT 3 [va2 [c0, c1, c2]], tv 11 17 true] ++ [] ++ [tv 12 15 true] ++ [] ++ [tp 3 26 rS, tp 3 36 rS]) =
  some (V.bool true, [ownO [va2 [c0, c1, c2]] k, .rd 21 [dX [va2 [c0, c1, c2]], dT 39] (.bool true)] ++ [] ++ [.rd 40 [dA [va2 [c0, c1, c2]] k, dT 39] (.bool true)] ++ [] ++ [.rd 13 [dR (va1 (up (up (up (0) c0) c1) c2)), dR (va1 (w64 (upU (upU (upU (0) c0) c1) c2)))] rS, .rd 13 [dX [va2 [c0, c1, c2]], dA [va2 [c0, c1, c2]] k] rS]) := by kernel_rfl

theorem ay_unp4 (c0 c1 c2 c3 : UInt8) (k : Nat) : tellFrom Try.prog X7 80 3 [.int .i64 39, sA [va2 [c0, c1, c2, c3]] k] (hA [va2 [c0, c1, c2, c3]]) ([ownT 3 [va2 [c0, c1, c2, c3]], tv 11 17 true] ++ [] ++ [tv 12 15 true] ++ [] ++ [tp 3 26 rS, tp 3 36 rS]) =
  some (V.bool true, [ownO [va2 [c0, c1, c2, c3]] k, .rd 21 [dX [va2 [c0, c1, c2, c3]], dT 39] (.bool true)] ++ [] ++ [.rd 40 [dA [va2 [c0, c1, c2, c3]] k, dT 39] (.bool true)] ++ [] ++ [.rd 13 [dR (va1 (up (up (up (up (0) c0) c1) c2) c3)), dR (va1 (w64 (upU (upU (upU (upU (0) c0) c1) c2) c3)))] rS, .rd 13 [dX [va2 [c0, c1, c2, c3]], dA [va2 [c0, c1, c2, c3]] k] rS]) := by kernel_rfl

theorem ay_unp5 (c0 c1 c2 c3 c4 : UInt8) (k : Nat) : tellFrom Try.prog X7 80 3 [.int .i64 39, sA [va2 [c0, c1, c2, c3, c4]] k] (hA [va2 [c0, c1, c2, c3, c4]]) ([ownT 3 [va2 [c0, c1, c2, c3, c4]], tv 11 17 true] ++ [] ++ [tv 12 15 true] ++ [] ++ [tp 3 26 rS, tp 3 36 rS]) =
  some (V.bool true, [ownO [va2 [c0, c1, c2, c3, c4]] k, .rd 21 [dX [va2 [c0, c1, c2, c3, c4]], dT 39] (.bool true)] ++ [] ++ [.rd 40 [dA [va2 [c0, c1, c2, c3, c4]] k, dT 39] (.bool true)] ++ [] ++ [.rd 13 [dR (va1 (up (up (up (up (up (0) c0) c1) c2) c3) c4)), dR (va1 (w64 (upU (upU (upU (upU (upU (0) c0) c1) c2) c3) c4)))] rS, .rd 13 [dX [va2 [c0, c1, c2, c3, c4]], dA [va2 [c0, c1, c2, c3, c4]] k] rS]) := by kernel_rfl

theorem ay_unp6 (c0 c1 c2 c3 c4 c5 : UInt8) (k : Nat) : tellFrom Try.prog X7 80 3 [.int .i64 39, sA [va2 [c0, c1, c2, c3, c4, c5]] k] (hA [va2 [c0, c1, c2, c3, c4, c5]]) ([ownT 3 [va2 [c0, c1, c2, c3, c4, c5]], tv 11 17 true] ++ [] ++ [tv 12 15 true] ++ [] ++ [tp 3 26 rS, tp 3 36 rS]) =
  some (V.bool true, [ownO [va2 [c0, c1, c2, c3, c4, c5]] k, .rd 21 [dX [va2 [c0, c1, c2, c3, c4, c5]], dT 39] (.bool true)] ++ [] ++ [.rd 40 [dA [va2 [c0, c1, c2, c3, c4, c5]] k, dT 39] (.bool true)] ++ [] ++ [.rd 13 [dR (va1 (up (up (up (up (up (up (0) c0) c1) c2) c3) c4) c5)), dR (va1 (w64 (upU (upU (upU (upU (upU (upU (0) c0) c1) c2) c3) c4) c5)))] rS, .rd 13 [dX [va2 [c0, c1, c2, c3, c4, c5]], dA [va2 [c0, c1, c2, c3, c4, c5]] k] rS]) := by kernel_rfl

theorem ay_unp7 (c0 c1 c2 c3 c4 c5 c6 : UInt8) (k : Nat) : tellFrom Try.prog X7 80 3 [.int .i64 39, sA [va2 [c0, c1, c2, c3, c4, c5, c6]] k] (hA [va2 [c0, c1, c2, c3, c4, c5, c6]]) ([ownT 3 [va2 [c0, c1, c2, c3, c4, c5, c6]], tv 11 17 true] ++ [] ++ [tv 12 15 true] ++ [] ++ [tp 3 26 rS, tp 3 36 rS]) =
  some (V.bool true, [ownO [va2 [c0, c1, c2, c3, c4, c5, c6]] k, .rd 21 [dX [va2 [c0, c1, c2, c3, c4, c5, c6]], dT 39] (.bool true)] ++ [] ++ [.rd 40 [dA [va2 [c0, c1, c2, c3, c4, c5, c6]] k, dT 39] (.bool true)] ++ [] ++ [.rd 13 [dR (va1 (up (up (up (up (up (up (up (0) c0) c1) c2) c3) c4) c5) c6)), dR (va1 (w64 (upU (upU (upU (upU (upU (upU (upU (0) c0) c1) c2) c3) c4) c5) c6)))] rS, .rd 13 [dX [va2 [c0, c1, c2, c3, c4, c5, c6]], dA [va2 [c0, c1, c2, c3, c4, c5, c6]] k] rS]) := by kernel_rfl

theorem ay_unp8 (c0 c1 c2 c3 c4 c5 c6 c7 : UInt8) (k : Nat) : tellFrom Try.prog X7 80 3 [.int .i64 39, sA [va2 [c0, c1, c2, c3, c4, c5, c6, c7]] k] (hA [va2 [c0, c1, c2, c3, c4, c5, c6, c7]]) ([ownT 3 [va2 [c0, c1, c2, c3, c4, c5, c6, c7]], tv 11 17 true] ++ [] ++ [tv 12 15 true] ++ [] ++ [tp 3 26 rS, tp 3 36 rS]) =
  some (V.bool true, [ownO [va2 [c0, c1, c2, c3, c4, c5, c6, c7]] k, .rd 21 [dX [va2 [c0, c1, c2, c3, c4, c5, c6, c7]], dT 39] (.bool true)] ++ [] ++ [.rd 40 [dA [va2 [c0, c1, c2, c3, c4, c5, c6, c7]] k, dT 39] (.bool true)] ++ [] ++ [.rd 13 [dR (va1 (up (up (up (up (up (up (up (up (0) c0) c1) c2) c3) c4) c5) c6) c7)), dR (va1 (w64 (upU (upU (upU (upU (upU (upU (upU (upU (0) c0) c1) c2) c3) c4) c5) c6) c7)))] rS, .rd 13 [dX [va2 [c0, c1, c2, c3, c4, c5, c6, c7]], dA [va2 [c0, c1, c2, c3, c4, c5, c6, c7]] k] rS]) := by kernel_rfl

theorem ay_tru_e (k : Nat) : tellFrom Try.prog X7 80 3 [.int .i64 3, sA [] k] (hA []) ([tv 11 17 true] ++ [tv 12 15 true] ++ [tp 3 26 rS, tp 3 36 rS]) =
  some (V.bool true, [.rd 21 [dE, dT 3] (.bool true)] ++ [.rd 40 [dA [] k, dT 3] (.bool true)] ++ [.rd 13 [dR (va3 1), dR (va3 1)] rS, .rd 13 [dE, dA [] k] rS]) := by kernel_rfl

theorem ay_tru_n  : tellFrom Try.prog X7 80 3 [.int .i64 3, .nilslice] h0 ([tv 11 17 true] ++ [tv 12 15 true] ++ [tp 3 26 rS, tp 3 36 rS]) =
  some (V.bool true, [.rd 21 [dE, dT 3] (.bool true)] ++ [.rd 40 [.nilslice, dT 3] (.bool true)] ++ [.rd 13 [dR (va3 1), dR (va3 1)] rS, .rd 13 [dE, .nilslice] rS]) := by kernel_rfl

theorem ay_fal_e (k : Nat) : tellFrom Try.prog X7 80 3 [.int .i64 4, sA [] k] (hA []) ([tv 11 17 true] ++ [tv 12 15 true] ++ [tp 3 26 rS, tp 3 36 rS]) =
  some (V.bool true, [.rd 21 [dE, dT 4] (.bool true)] ++ [.rd 40 [dA [] k, dT 4] (.bool true)] ++ [.rd 13 [dR (va3 0), dR (va3 0)] rS, .rd 13 [dE, dA [] k] rS]) := by kernel_rfl

theorem ay_fal_n  : tellFrom Try.prog X7 80 3 [.int .i64 4, .nilslice] h0 ([tv 11 17 true] ++ [tv 12 15 true] ++ [tp 3 26 rS, tp 3 36 rS]) =
  some (V.bool true, [.rd 21 [dE, dT 4] (.bool true)] ++ [.rd 40 [.nilslice, dT 4] (.bool true)] ++ [.rd 13 [dR (va3 0), dR (va3 0)] rS, .rd 13 [dE, .nilslice] rS]) := by kernel_rfl

end Go.AM
