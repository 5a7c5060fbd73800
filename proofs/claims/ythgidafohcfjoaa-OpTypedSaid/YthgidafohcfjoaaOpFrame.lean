/-
  From a run that tells true to the call, where no argument holds an address.
-/
import Derived.Test.YthgidafohcfjoaaOpA
import Derived.Below
set_option linter.unusedVariables false
namespace Go.AM
open Go.Proofs Go.RowKit

theorem law_plain {X : Ext} (hX : ExtOk Try.prog X) (hXm : ExtMono X) {n : Nat} {f : FuncId} {args : List V} (hr : ∃ h', callN Try.prog X n f args h0 = some (.bool true, h')) (hf : flats args = true) (args' : List Value) (hv : VRs noEmb args args') (w : World) :
    Calls Try.prog f ⟨args'⟩ w fun e w' => e = .returned (.bool true) ∧ Below w.heap.size w w' := by
  obtain ⟨h', hr⟩ := hr
  refine Calls.mono (flat_call (callN_ok mixed X hX hXm n) hr hf rfl noEmb w args' hv) ?_
  rintro e w' ⟨x, rfl, hx, hs⟩
  simp only [VR] at hx
  exact ⟨by rw [hx], hs.os, hs.tape, hs.output, hs.size, fun k hk => hs.heap k (Nat.not_le.2 hk)⟩

end Go.AM
