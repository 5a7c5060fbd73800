/-
  OpTable: the call.
-/
import Derived.Test.YthgidafohcfjoaaOpT3
import Derived.Test.YthgidafohcfjoaaOpFrame
set_option linter.unusedVariables false
namespace Go.AM
open Go.Proofs Go.RowKit

theorem OpTable_walk (a0 : Int) (a1 : ByteArray) (w : World) : Calls Try.prog 9 #[.int .i64 a0, .string a1] w fun e w' => e = .returned (.bool true) ∧ Below w.heap.size w w' :=
  law_plain X4_ok X4_mono (tab_run a0 a1.data.toList) rfl [.int .i64 a0, .string a1] (by simp [VRs, VR]) w

end Go.AM
