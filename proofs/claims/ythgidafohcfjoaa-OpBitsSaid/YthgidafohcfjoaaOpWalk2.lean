/-
  OpNumbers and OpBits: the calls.
-/
import Derived.Test.YthgidafohcfjoaaOpNum
import Derived.Test.YthgidafohcfjoaaOpFrame
set_option linter.unusedVariables false
namespace Go.AM
open Go.Proofs Go.RowKit

theorem OpNumbers_walk (a0 a1 : Int) (w0 : (Lit.int .i64 a0).wf = true) (w : World) : Calls Try.prog 4 #[.int .i64 a0, .int .i64 a1] w fun e w' => e = .returned (.bool true) ∧ Below w.heap.size w w' :=
  law_plain X2_ok X2_mono (num_run a0 a1 (in64_of_wf w0)) rfl [.int .i64 a0, .int .i64 a1] (by simp [VRs, VR]) w

theorem OpBits_walk (a0 a1 a2 : Int) (w : World) : Calls Try.prog 7 #[.int .i64 a0, .int .i64 a1, .int .i64 a2] w fun e w' => e = .returned (.bool true) ∧ Below w.heap.size w w' :=
  law_plain X2_ok X2_mono (bits_run a0 a1 a2) rfl [.int .i64 a0, .int .i64 a1, .int .i64 a2] (by simp [VRs, VR]) w

end Go.AM
