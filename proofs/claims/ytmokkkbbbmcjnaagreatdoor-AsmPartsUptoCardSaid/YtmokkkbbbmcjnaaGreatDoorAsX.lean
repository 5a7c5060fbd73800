/-
  What must come, run.
-/
import Derived.Test.YtmokkkbbbmcjnaaGreatDoorAsT2
import Derived.Test.YtmokkkbbbmcjnaaGreatDoorAsV
set_option linter.unusedVariables false
namespace Go.AM
open Go.Proofs

theorem knows_run : (callN Tryz.prog XL 100 12 [] h0).map (·.1) = some (.bool true) := by kernel_rfl

end Go.AM

/-
  The law of lines: the run.
-/
set_option linter.unusedVariables false
set_option linter.unusedSimpArgs false
namespace Go.AM
open Go.Proofs Go.RowKit

def readF (f : FuncId) (g : List UInt8 → Option (Int × Int)) : FlatF := (f, fun args => match args with | [.str s] => if s.length ≤ 2097152 then some (rOut (g s)) else none | _ => none)
def knowF : FlatF := (12, fun args => match args with | [] => some (.bool true) | _ => none)

theorem read_knows (f : FuncId) (g : List UInt8 → Option (Int × Int)) (h : ∀ s : List UInt8, s.length ≤ 2097152 → ∃ h', callN Tryz.prog XR 60 f [.str s] h0 = some (rOut (g s), h')) : Knows Tryz.prog XR (readF f g) := by
  intro args v hv
  unfold readF at hv
  simp only at hv
  split at hv
  case h_2 => cases hv
  rename_i s
  split at hv
  case isFalse => cases hv
  rename_i hs
  cases hv
  exact ⟨rfl, rOut_flat _, 60, h s hs⟩
theorem know_knows : Knows Tryz.prog XL knowF := by
  intro args v hv
  unfold knowF at hv
  simp only at hv
  split at hv
  case h_2 => cases hv
  cases hv
  obtain ⟨⟨v, h'⟩, hr, e⟩ := Option.map_eq_some_iff.1 knows_run
  simp only at e
  subst e
  exact ⟨rfl, rfl, 100, h', hr⟩

def fL : List FlatF := [readF 8 readP, readF 9 readR, knowF]
def XF : Ext := orExt (flatExt fL) XR
theorem XF_ok : ExtOk Tryz.prog XF := orExt_ok (flatExt_ok mixed (by
  intro x hx
  simp only [fL, List.mem_cons, List.not_mem_nil, or_false] at hx
  rcases hx with rfl | rfl | rfl
  · exact ⟨XR, XR_ok, XR_mono, read_knows 8 readP readP_run⟩
  · exact ⟨XR, XR_ok, XR_mono, read_knows 9 readR readR_run⟩
  · exact ⟨XL, XL_ok, XL_mono, know_knows⟩)) XR_ok
theorem XF_mono : ExtMono XF := orExt_mono (flatExt_mono _) XR_mono

abbrev e23 (n a : Int) : Ob2 := .bin .eql 23 (insV n a) (insV n a) (.bool true)
theorem l3_no (op a : Int) (s d : List UInt8) : tellFrom Tryz.prog XF 60 3 [insV op a, .str s] h0 [tp 3 11 rNo, tp 3 16 rNo, tp 3 20 (.str d), tp 3 22 (.str d), tv 3 23 true, tv 3 27 true] =
  some (.bool true, [.rd 8 [.str s] rNo, .rd 9 [.str s] rNo, .rd 10 [insV op a] (.str d), .rd 11 [insV op a] (.str d), obS .eql d d true, e23 0 0]) := by kernel_rfl
theorem l3_yes (op a n b : Int) (s d : List UInt8) : tellFrom Tryz.prog XF 60 3 [insV op a, .str s] h0 [tp 3 11 (rYes n b), tp 3 16 (rYes n b), tp 3 20 (.str d), tp 3 22 (.str d), tv 3 23 true, tv 3 27 true] =
  some (.bool true, [.rd 8 [.str s] (rYes n b), .rd 9 [.str s] (rYes n b), .rd 10 [insV op a] (.str d), .rd 11 [insV op a] (.str d), obS .eql d d true, e23 n b]) := by kernel_rfl

end Go.AM
