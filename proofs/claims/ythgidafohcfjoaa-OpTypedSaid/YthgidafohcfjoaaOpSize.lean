/-
  An argument []api.Value is no longer than its weight allows.
-/
import Derived.Test.YthgidafohcfjoaaOpOpen
import Derived.SizedLaws
set_option linter.unusedVariables false
namespace Go.AM
open Go.Proofs Go.ChangeShapes Go.WideShapes Go.Deep

theorem sized_vals {H : Type} {enc : TypeId × Value → H} {W : World} {base : Nat} {spare : Nat → Bool} {held : Bool} {a : Option Addr} {len cap : Nat} {d : DataW H} {ps : List MemPlace} {ts : List TypeId} {ds : List (DataW H)} {j : Nat}
    (hsz : (DataW.weightsEach Try.prog ts ds).all (· ≤ reachBytes) = true) (ht : ts[j]? = some 22) (hd : ds[j]? = some d)
    (h : DataW.Trod enc Try.prog W base spare held 22 (.slice a len cap) d ps) : len * 32 ≤ 140737488351232 := by
  obtain ⟨fuel, hf⟩ := h
  simp only [Value.cells] at hf
  rcases open_slice Try.underlying22 hf with ⟨h0, _⟩ | ⟨x, l, c, m, n, D, Pl, h0, _, _, _, _, hx, _⟩
  · simp at h0
    obtain ⟨_, rfl, _⟩ := h0
    simp
  · simp at h0
    obtain ⟨_, rfl, _⟩ := h0
    obtain ⟨rfl, _⟩ := Prod.mk.inj hx
    have z := sized_slice hsz ht hd Try.underlying22
    have hB : Try.prog.bytesOf 36 = 32 := by kernel_rfl
    rw [hB] at z
    simp only [List.length_map, List.length_range] at z
    have : reachBytes = 140737488351232 := by decide
    omega

end Go.AM
