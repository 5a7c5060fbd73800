/-
  Bytes, run, on.
-/
import Derived.Test.YthgidafohcfjoaaOpB
set_option linter.unusedVariables false
namespace Go.AM
open Go.Proofs

theorem bytes30 (a b : List UInt8) (n : Int) : tellRun Try.prog X5 80 5 [.str a, .str b, i64 n]
  (rT true ++ rT true ++ [tb 39 27 true, tb 5 34 true, tb 5 41 false] ++ rP ++ [tb 5 168 false, tb 5 172 false] ++ rO true false false) =
  some (V.bool true, oT a true ++ oT b true ++ [ob .gtr (w64 (a.length + b.length)) 256 true, ob .leq a.length 256 true, ob .leq b.length (w64 (256 - a.length)) false] ++ oP n ++ [ob .gtr a.length 256 false, ob .gtr b.length 256 false] ++ oO a b true false false) := by kernel_rfl
theorem bytes40 (a b : List UInt8) (n : Int) : tellRun Try.prog X5 80 5 [.str a, .str b, i64 n]
  (rC a b ++ rP ++ [tb 5 168 false, tb 5 172 false] ++ rO true false false) =
  some (V.bool true, oC a b ++ oP n ++ [ob .gtr a.length 256 false, ob .gtr b.length 256 false] ++ oO a b true false false) := by kernel_rfl
theorem bytes31 (a b : List UInt8) (n : Int) : tellRun Try.prog X5 80 5 [.str a, .str b, i64 n]
  (rT true ++ rT true ++ [tb 39 27 true, tb 5 34 true, tb 5 41 false] ++ rP ++ [tb 5 168 false, tb 5 172 false] ++ rO false true false) =
  some (V.bool true, oT a true ++ oT b true ++ [ob .gtr (w64 (a.length + b.length)) 256 true, ob .leq a.length 256 true, ob .leq b.length (w64 (256 - a.length)) false] ++ oP n ++ [ob .gtr a.length 256 false, ob .gtr b.length 256 false] ++ oO a b false true false) := by kernel_rfl
theorem bytes41 (a b : List UInt8) (n : Int) : tellRun Try.prog X5 80 5 [.str a, .str b, i64 n]
  (rC a b ++ rP ++ [tb 5 168 false, tb 5 172 false] ++ rO false true false) =
  some (V.bool true, oC a b ++ oP n ++ [ob .gtr a.length 256 false, ob .gtr b.length 256 false] ++ oO a b false true false) := by kernel_rfl
theorem bytes32 (a b : List UInt8) (n : Int) : tellRun Try.prog X5 80 5 [.str a, .str b, i64 n]
  (rT true ++ rT true ++ [tb 39 27 true, tb 5 34 true, tb 5 41 false] ++ rP ++ [tb 5 168 false, tb 5 172 false] ++ rO false false true) =
  some (V.bool true, oT a true ++ oT b true ++ [ob .gtr (w64 (a.length + b.length)) 256 true, ob .leq a.length 256 true, ob .leq b.length (w64 (256 - a.length)) false] ++ oP n ++ [ob .gtr a.length 256 false, ob .gtr b.length 256 false] ++ oO a b false false true) := by kernel_rfl
theorem bytes42 (a b : List UInt8) (n : Int) : tellRun Try.prog X5 80 5 [.str a, .str b, i64 n]
  (rC a b ++ rP ++ [tb 5 168 false, tb 5 172 false] ++ rO false false true) =
  some (V.bool true, oC a b ++ oP n ++ [ob .gtr a.length 256 false, ob .gtr b.length 256 false] ++ oO a b false false true) := by kernel_rfl

end Go.AM
