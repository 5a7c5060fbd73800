/-
  Numbers, run.
-/
import Derived.Test.YthgidafohcfjoaaOpR
set_option linter.unusedVariables false
namespace Go.AM
open Go.Proofs

abbrev i64 (n : Int) : V := .int .i64 n
def w64 (n : Int) : Int := wr .i64 n
def xorW (a b : Int) : Int := w64 (BitVec.ofInt 64 a ^^^ BitVec.ofInt 64 b).toNat
def andW (a b : Int) : Int := w64 (BitVec.ofInt 64 a &&& BitVec.ofInt 64 b).toNat
def orW (a b : Int) : Int := w64 (BitVec.ofInt 64 a ||| BitVec.ofInt 64 b).toNat

theorem num_zero (a : Int) : toldRun Try.prog X2 60 4 [i64 a, i64 0] [(4, 68, .bool false), (4, 73, .bool false)] =
    some (.bool true, [⟨.neq, 3, i64 (w64 (w64 (a + 0) + w64 (0 - 0))), i64 a, .bool false⟩, ⟨.neq, 3, i64 (w64 (a * 0)), i64 (w64 (0 * a)), .bool false⟩]) := by kernel_rfl

theorem num_told (a b q r : Int) : toldRun Try.prog X2 60 4 [i64 a, i64 b] [(4, 68, .bool false), (4, 73, .bool false), (37, 42, .bool false), (37, 46, i64 q), (37, 42, .bool false), (37, 46, i64 q), (37, 51, i64 r), (4, 92, .bool false), (4, 142, .bool false), (4, 165, .bool true)] =
    some (.bool true, [⟨.neq, 3, i64 (w64 (w64 (a + b) + w64 (0 - b))), i64 a, .bool false⟩, ⟨.neq, 3, i64 (w64 (a * b)), i64 (w64 (b * a)), .bool false⟩,
      ⟨.eql, 3, i64 b, i64 0, .bool false⟩, ⟨.quo, 3, i64 a, i64 b, i64 q⟩, ⟨.eql, 3, i64 b, i64 0, .bool false⟩, ⟨.quo, 3, i64 a, i64 b, i64 q⟩, ⟨.rem, 3, i64 a, i64 b, i64 r⟩, ⟨.eql, 3, i64 b, i64 0, .bool false⟩,
      ⟨.neq, 3, i64 (w64 (w64 (q * b) + r)), i64 a, .bool false⟩, ⟨.eql, 3, i64 (w64 (w64 (0 - a) + w64 (0 - 1))), i64 (xorW (-1) a), .bool true⟩]) := by kernel_rfl

def kk (k : Int) : Int := (w64 (k.tmod 64 + 64)).tmod 64

theorem bits_told (a b k m i : Int) : toldRun Try.prog X2 60 7 [i64 a, i64 b, i64 k] [(7, 78, .bool false), (7, 95, .bool false), (37, 68, i64 m), (37, 68, i64 m), (37, 72, i64 i), (37, 72, i64 i), (7, 140, .bool true), (7, 145, .bool true)] =
    some (.bool true, [⟨.neq, 3, i64 (w64 (andW a b + orW a b)), i64 (w64 (a + b)), .bool false⟩, ⟨.neq, 3, i64 (w64 (orW a b + w64 (0 - andW a b))), i64 (xorW a b), .bool false⟩,
      ⟨.shl, 3, i64 a, i64 (andW (kk k) 63), i64 m⟩, ⟨.shl, 3, i64 a, i64 (andW (w64 (kk k - 64)) 63), i64 m⟩, ⟨.shr, 3, i64 a, i64 (andW (kk k) 63), i64 i⟩, ⟨.shr, 3, i64 a, i64 (andW (w64 (kk k + 64)) 63), i64 i⟩,
      ⟨.eql, 3, i64 m, i64 m, .bool true⟩, ⟨.eql, 3, i64 i, i64 i, .bool true⟩]) := by kernel_rfl

end Go.AM
