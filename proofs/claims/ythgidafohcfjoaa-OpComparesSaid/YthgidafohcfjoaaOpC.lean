/-
  Comparisons, run.
-/
import Derived.Test.YthgidafohcfjoaaOpR
set_option linter.unusedVariables false
namespace Go.AM
open Go.Proofs

def cmpOrc (e l le : Bool) : Orc := [(38, 13, .bool e), (38, 13, .bool e), (38, 22, .bool l), (38, 28, .bool le), (38, 28, .bool le), (38, 22, .bool l), (6, 84, .bool e)]
def cmpObs (a b : Int) (e l le : Bool) : List Ob :=
  [⟨.eql, 3, .int .i64 a, .int .i64 b, .bool e⟩, ⟨.eql, 3, .int .i64 a, .int .i64 b, .bool e⟩, ⟨.lss, 3, .int .i64 a, .int .i64 b, .bool l⟩, ⟨.leq, 3, .int .i64 a, .int .i64 b, .bool le⟩,
   ⟨.leq, 3, .int .i64 a, .int .i64 b, .bool le⟩, ⟨.lss, 3, .int .i64 a, .int .i64 b, .bool l⟩, ⟨.eql, 3, .int .i64 a, .int .i64 b, .bool e⟩]

theorem cmp_lt (a b : Int) : toldRun Try.prog X2 60 6 [.int .i64 a, .int .i64 b] (cmpOrc false true true) = some (.bool true, cmpObs a b false true true) := by kernel_rfl
theorem cmp_eq (a b : Int) : toldRun Try.prog X2 60 6 [.int .i64 a, .int .i64 b] (cmpOrc true false true) = some (.bool true, cmpObs a b true false true) := by kernel_rfl
theorem cmp_gt (a b : Int) : toldRun Try.prog X2 60 6 [.int .i64 a, .int .i64 b] (cmpOrc false false false) = some (.bool true, cmpObs a b false false false) := by kernel_rfl

end Go.AM
