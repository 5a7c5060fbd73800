/-
  What must come, run.
-/
import Derived.Test.YtmokkkbbbmcjnaaGreatDoorAsT2
set_option linter.unusedVariables false
namespace Go.AM
open Go.Proofs

theorem knows_run : (callN Tryz.prog XL 100 12 [] h0).map (·.1) = some (.bool true) := by kernel_rfl

end Go.AM
