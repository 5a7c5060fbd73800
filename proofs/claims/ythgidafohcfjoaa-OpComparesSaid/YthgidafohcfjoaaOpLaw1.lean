/-
  OpCompares: whatever the two numbers: true.
-/
import Derived.Test.YthgidafohcfjoaaOpC
import Derived.Test.YthgidafohcfjoaaRows
import Derived.WalkKit
import Derived.ProofKit
import Derived.OpenShut
import Derived.ShutString
import Derived.ChangeOld
import Derived.Below
import Derived.SizedLaws
set_option linter.unusedVariables false
namespace Go.AM
open Go.Proofs Go.RowKit

theorem cmp_run (a b : Int) : ∃ h', callN Try.prog X2 60 6 [.int .i64 a, .int .i64 b] h0 = some (.bool true, h') := by
  rcases Int.lt_trichotomy a b with h | h | h
  · have h1 : (a == b) = false := by simp; omega
    have h2 : decide (a < b) = true := by simp; omega
    have h3 : decide (a ≤ b) = true := by simp; omega
    exact run_of_told (cmp_lt a b) (obs_cons (okEq _ _ _ h1) (obs_cons (okEq _ _ _ h1) (obs_cons (okLt _ _ _ h2) (obs_cons (okLe _ _ _ h3) (obs_cons (okLe _ _ _ h3) (obs_cons (okLt _ _ _ h2) (obs_cons (okEq _ _ _ h1) obs_nil)))))))
  · have h1 : (a == b) = true := by simp; omega
    have h2 : decide (a < b) = false := by simp; omega
    have h3 : decide (a ≤ b) = true := by simp; omega
    exact run_of_told (cmp_eq a b) (obs_cons (okEq _ _ _ h1) (obs_cons (okEq _ _ _ h1) (obs_cons (okLt _ _ _ h2) (obs_cons (okLe _ _ _ h3) (obs_cons (okLe _ _ _ h3) (obs_cons (okLt _ _ _ h2) (obs_cons (okEq _ _ _ h1) obs_nil)))))))
  · have h1 : (a == b) = false := by simp; omega
    have h2 : decide (a < b) = false := by simp; omega
    have h3 : decide (a ≤ b) = false := by simp; omega
    exact run_of_told (cmp_gt a b) (obs_cons (okEq _ _ _ h1) (obs_cons (okEq _ _ _ h1) (obs_cons (okLt _ _ _ h2) (obs_cons (okLe _ _ _ h3) (obs_cons (okLe _ _ _ h3) (obs_cons (okLt _ _ _ h2) (obs_cons (okEq _ _ _ h1) obs_nil)))))))

/-- A run from empty memory that tells true, of arguments without addresses: the call, and what was there stays. -/
theorem law_flat {X : Ext} (hX : ExtOk Try.prog X) (hXm : ExtMono X) {n : Nat} {f : FuncId} {args : List V} (hr : ∃ h', callN Try.prog X n f args h0 = some (.bool true, h')) (hf : flats args = true) (args' : List Value) (hv : VRs noEmb args args') (w : World) :
    Calls Try.prog f ⟨args'⟩ w fun e w' => e = .returned (.bool true) ∧ Below w.heap.size w w' := by
  obtain ⟨h', hr⟩ := hr
  refine Calls.mono (flat_call (callN_ok mixed X hX hXm n) hr hf rfl noEmb w args' hv) ?_
  rintro e w' ⟨x, rfl, hx, hs⟩
  simp only [VR] at hx
  exact ⟨by rw [hx], hs.os, hs.tape, hs.output, hs.size, fun k hk => hs.heap k (Nat.not_le.2 hk)⟩

theorem OpCompares_walk (a0 a1 : Int) (w : World) : Calls Try.prog 6 #[.int .i64 a0, .int .i64 a1] w fun e w' => e = .returned (.bool true) ∧ Below w.heap.size w w' :=
  law_flat X2_ok X2_mono (cmp_run a0 a1) rfl [.int .i64 a0, .int .i64 a1] (by simp [VRs, VR]) w

end Go.AM

namespace Go.Proofs.Ythgidafohcfjoaa.opCompares
open Go.ChangeShapes Go.WideShapes Go.ChangeAt Go.RowKit
open Go.ChangeMaps (open_string shut_string)

theorem own : ownKnob Try.prog.godebug = none := by kernel_rfl

set_option maxRecDepth 100000 in
theorem lifted (os : Os) (started : os.Started) (H : Type) (enc : TypeId × Value → H) :
    ReturnsInHanded {} Try.checked os 6 .any (Rows.opComparesSpec.pre6 enc Try.prog Try.f6 Rows.opComparesRow.domain false) (Rows.opComparesSpec.post enc Try.prog Try.f6 false true false false) := by
  refine returnsInHanded_of_change_sized (C := Try.checked) own started (by kernel_rfl) Try.func6
    (ChangeSpec.witness6 (enc := enc) (C := Try.checked) false ⟨#[], #[.int .i64 0, .int .i64 0], []⟩ 8 (by kernel_rfl) (by kernel_rfl) (by kernel_rfl) (by kernel_rfl)) ?_
  intro W base args ds gs before hval0 hW hcnd hsz0 _
  have hval : ∀ (j : Nat) t v, Try.f6.params[j]? = some t → args[j]? = some v → Value.okWide Try.prog W .any base t v := hval0
  have hW' := hW
  obtain ⟨p, q, hA0, hV, rfl, hfz, hnd⟩ := hW
  have hA : DataW.TrodAll enc Try.prog W 0 (fun _ => true) true Try.f6.params.toList args.toList ds p := hA0
  rw [Try.params6] at hA hval
  obtain ⟨v0, vs0, d0, ds0, p0, q0, hargs, rfl, rfl, h0, r0⟩ := trodAll_cons hA
  obtain ⟨v1, vs1, d1, ds1, p1, q1, rfl, rfl, rfl, h1, r1⟩ := trodAll_cons r0
  obtain ⟨rfl, rfl, rfl⟩ := trodAll_nil r1
  obtain rfl : args = #[v0, v1] := by cases args; simp_all
  obtain ⟨rfl, rfl⟩ := trodVars_none hV
  obtain ⟨a0, rfl, rfl, rfl, w0⟩ := open_int Try.underlying3 (hval 0 3 v0 rfl rfl) h0
  obtain ⟨a1, rfl, rfl, rfl, w1⟩ := open_int Try.underlying3 (hval 1 3 v1 rfl rfl) h1
  refine (Go.AM.OpCompares_walk a0 a1 W).mono fun e W' ⟨he, bel⟩ => ?_
  subst he
  exact ⟨_, rfl, _, _, _, [], _, [], hW', trodAll_mk1 (shut_bool Try.underlying4 _), (trodAll_cons_mk (shut_int Try.underlying3 w0) (trodAll_cons_mk (shut_int Try.underlying3 w1) trodAll_mk0)), rfl, bel.frame _, fun h => by cases h⟩

theorem over : Rows.opComparesRow.holds Try.pinned (OpenSpec.ofChange Rows.opComparesSpec) :=
  OpenClaim.holds_of_wide 6 Try.f6 rfl rfl rfl rfl rfl rfl rfl ⟨rfl, rfl, rfl, rfl, rfl⟩ rfl rfl rfl rfl rfl (by kernel_rfl) Try.func6 (by kernel_rfl)
    (of_decide_eq_true (by kernel_rfl)) (by unfold Func.isWrapper; first | (rw [if_pos (by decide +kernel)]; kernel_rfl) | (rw [if_neg (by decide +kernel)]; exact ⟨rfl, rfl⟩))
    (fun os started H enc _ => lifted os started H enc)

end Go.Proofs.Ythgidafohcfjoaa.opCompares
namespace Go.Proofs.Ythgidafohcfjoaa
theorem opCompares_holds : Rows.OpComparesSaid := opCompares.over
#print axioms opCompares_holds
end Go.Proofs.Ythgidafohcfjoaa
