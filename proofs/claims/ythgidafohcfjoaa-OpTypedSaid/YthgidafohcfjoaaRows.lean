/-
  No cell of these rows narrows 'for every input' (looked for: loops, veiled, ifaces, maps, wideKeys, modest, calm, conditions, laid).
  DERIVED. THE GIVEN ROWS OF THIS SEAT. 7 by the template 'for every input the law returns true; each argument reads behind the call as it read before'; 0 by the template 'total and deterministic' (their statements: YthgidafohcfjoaaTotals.lean).
  GIVEN WITH THE SEED: the statements are not yours to turn. If you find one false, say at which input.
  Laid BY PROGRAM, IN A SANDBOX (cutbox-rows.mjs): the forced cells as the released guide's own fill.sh prints them over the translation 7156b1f1f11d8857… (all of the seat's roots in one cut). By AI agents, Wed Nov 11 2026. No macro, syntax, notation, axiom, sorry.
-/
import Derived.Test.YthgidafohcfjoaaChecked
import GoSem.Claim
import GoSem.ClaimJoined
import GoSem.ClaimMapViews
import Derived.JoinedTies
import Derived.KernelRfl
namespace Go.Proofs.Ythgidafohcfjoaa
/- THE CELL 'sum', in the pinned program and in every row, IS THE sha256 OF THE DUMP (.gsa) THAT YthgidafohcfjoaaProg.lean LOADS. Nothing in Lean hashes anything: it is a label: what it is worth is what the hold of that sum in a sandbox is worth. -/
noncomputable def Try.pinned : Pinned := { name := "ythgidafohcfjoaa", sum := "7156b1f1f11d8857ae715eb993cca1a5488435bc55c52e6dd042db1ab62d36d2", checked := Try.checked }
namespace Rows
def none {H : Type} : Left H := { results := [], args := [] }

/-- 'weighhouselaw03.OpApplies': WHATEVER THE INPUT: true; the input reads as it did. -/
def opAppliesSpec : ChangeSpec := { name := "opApplies", fn := fun _ => fun
  | [d1, d2] => { results := [.lit (.bool true)], args := [d1, d2] }
  | _ => none }
def opAppliesRow : OpenClaim := { program := "ythgidafohcfjoaa", sum := "7156b1f1f11d8857ae715eb993cca1a5488435bc55c52e6dd042db1ab62d36d2", func := "weighhouse/weighhouselaw03.OpApplies", spec := "opApplies", apart := false }
def OpAppliesSaid : Prop := opAppliesRow.holds Try.pinned (OpenSpec.ofChange opAppliesSpec)

/-- ITS FALSE NEIGHBOUR: 'it returns false'. Refute it at one input. -/
def opAppliesWrong : ChangeSpec := { name := "opApplies", fn := fun _ => fun
  | [d1, d2] => { results := [.lit (.bool false)], args := [d1, d2] }
  | _ => none }
def OpAppliesWrongFalsely : Prop := opAppliesRow.holds Try.pinned (OpenSpec.ofChange opAppliesWrong)

/-- 'weighhouselaw03.OpNumbers': WHATEVER THE INPUT: true; the input reads as it did. -/
def opNumbersSpec : ChangeSpec := { name := "opNumbers", fn := fun _ => fun
  | [d1, d2] => { results := [.lit (.bool true)], args := [d1, d2] }
  | _ => none }
def opNumbersRow : OpenClaim := { program := "ythgidafohcfjoaa", sum := "7156b1f1f11d8857ae715eb993cca1a5488435bc55c52e6dd042db1ab62d36d2", func := "weighhouse/weighhouselaw03.OpNumbers", spec := "opNumbers", apart := false }
def OpNumbersSaid : Prop := opNumbersRow.holds Try.pinned (OpenSpec.ofChange opNumbersSpec)

/-- ITS FALSE NEIGHBOUR: 'it returns false'. Refute it at one input. -/
def opNumbersWrong : ChangeSpec := { name := "opNumbers", fn := fun _ => fun
  | [d1, d2] => { results := [.lit (.bool false)], args := [d1, d2] }
  | _ => none }
def OpNumbersWrongFalsely : Prop := opNumbersRow.holds Try.pinned (OpenSpec.ofChange opNumbersWrong)

/-- 'weighhouselaw03.OpBytes': WHATEVER THE INPUT: true; the input reads as it did. -/
def opBytesSpec : ChangeSpec := { name := "opBytes", fn := fun _ => fun
  | [d1, d2, d3] => { results := [.lit (.bool true)], args := [d1, d2, d3] }
  | _ => none }
def opBytesRow : OpenClaim := { program := "ythgidafohcfjoaa", sum := "7156b1f1f11d8857ae715eb993cca1a5488435bc55c52e6dd042db1ab62d36d2", func := "weighhouse/weighhouselaw03.OpBytes", spec := "opBytes", apart := false }
def OpBytesSaid : Prop := opBytesRow.holds Try.pinned (OpenSpec.ofChange opBytesSpec)

/-- ITS FALSE NEIGHBOUR: 'it returns false'. Refute it at one input. -/
def opBytesWrong : ChangeSpec := { name := "opBytes", fn := fun _ => fun
  | [d1, d2, d3] => { results := [.lit (.bool false)], args := [d1, d2, d3] }
  | _ => none }
def OpBytesWrongFalsely : Prop := opBytesRow.holds Try.pinned (OpenSpec.ofChange opBytesWrong)

/-- 'weighhouselaw03.OpCompares': WHATEVER THE INPUT: true; the input reads as it did. -/
def opComparesSpec : ChangeSpec := { name := "opCompares", fn := fun _ => fun
  | [d1, d2] => { results := [.lit (.bool true)], args := [d1, d2] }
  | _ => none }
def opComparesRow : OpenClaim := { program := "ythgidafohcfjoaa", sum := "7156b1f1f11d8857ae715eb993cca1a5488435bc55c52e6dd042db1ab62d36d2", func := "weighhouse/weighhouselaw03.OpCompares", spec := "opCompares", apart := false }
def OpComparesSaid : Prop := opComparesRow.holds Try.pinned (OpenSpec.ofChange opComparesSpec)

/-- ITS FALSE NEIGHBOUR: 'it returns false'. Refute it at one input. -/
def opComparesWrong : ChangeSpec := { name := "opCompares", fn := fun _ => fun
  | [d1, d2] => { results := [.lit (.bool false)], args := [d1, d2] }
  | _ => none }
def OpComparesWrongFalsely : Prop := opComparesRow.holds Try.pinned (OpenSpec.ofChange opComparesWrong)

/-- 'weighhouselaw03.OpBits': WHATEVER THE INPUT: true; the input reads as it did. -/
def opBitsSpec : ChangeSpec := { name := "opBits", fn := fun _ => fun
  | [d1, d2, d3] => { results := [.lit (.bool true)], args := [d1, d2, d3] }
  | _ => none }
def opBitsRow : OpenClaim := { program := "ythgidafohcfjoaa", sum := "7156b1f1f11d8857ae715eb993cca1a5488435bc55c52e6dd042db1ab62d36d2", func := "weighhouse/weighhouselaw03.OpBits", spec := "opBits", apart := false }
def OpBitsSaid : Prop := opBitsRow.holds Try.pinned (OpenSpec.ofChange opBitsSpec)

/-- ITS FALSE NEIGHBOUR: 'it returns false'. Refute it at one input. -/
def opBitsWrong : ChangeSpec := { name := "opBits", fn := fun _ => fun
  | [d1, d2, d3] => { results := [.lit (.bool false)], args := [d1, d2, d3] }
  | _ => none }
def OpBitsWrongFalsely : Prop := opBitsRow.holds Try.pinned (OpenSpec.ofChange opBitsWrong)

/-- 'weighhouselaw03.OpTyped': WHATEVER THE INPUT: true; the input reads as it did. -/
def opTypedSpec : ChangeSpec := { name := "opTyped", fn := fun _ => fun
  | [d1, d2] => { results := [.lit (.bool true)], args := [d1, d2] }
  | _ => none }
def opTypedRow : OpenClaim := { program := "ythgidafohcfjoaa", sum := "7156b1f1f11d8857ae715eb993cca1a5488435bc55c52e6dd042db1ab62d36d2", func := "weighhouse/weighhouselaw03.OpTyped", spec := "opTyped", apart := false }
def OpTypedSaid : Prop := opTypedRow.holds Try.pinned (OpenSpec.ofChange opTypedSpec)

/-- ITS FALSE NEIGHBOUR: 'it returns false'. Refute it at one input. -/
def opTypedWrong : ChangeSpec := { name := "opTyped", fn := fun _ => fun
  | [d1, d2] => { results := [.lit (.bool false)], args := [d1, d2] }
  | _ => none }
def OpTypedWrongFalsely : Prop := opTypedRow.holds Try.pinned (OpenSpec.ofChange opTypedWrong)

/-- 'weighhouselaw03.OpTable': WHATEVER THE INPUT: true; the input reads as it did. -/
def opTableSpec : ChangeSpec := { name := "opTable", fn := fun _ => fun
  | [d1, d2] => { results := [.lit (.bool true)], args := [d1, d2] }
  | _ => none }
def opTableRow : OpenClaim := { program := "ythgidafohcfjoaa", sum := "7156b1f1f11d8857ae715eb993cca1a5488435bc55c52e6dd042db1ab62d36d2", func := "weighhouse/weighhouselaw03.OpTable", spec := "opTable", apart := false }
def OpTableSaid : Prop := opTableRow.holds Try.pinned (OpenSpec.ofChange opTableSpec)

/-- ITS FALSE NEIGHBOUR: 'it returns false'. Refute it at one input. -/
def opTableWrong : ChangeSpec := { name := "opTable", fn := fun _ => fun
  | [d1, d2] => { results := [.lit (.bool false)], args := [d1, d2] }
  | _ => none }
def OpTableWrongFalsely : Prop := opTableRow.holds Try.pinned (OpenSpec.ofChange opTableWrong)

/- THE SECOND FORM. 'bulk': how many values and letters a reading holds, each counted each time it is reached (what is shared counts as often as it is met; a slice's spare places count too). A statement '..UptoSaid' is the law's where the arguments, and the package variables that the reading takes, are together of bulk at most 1048576: NARROWER than '..Said'. Prove '..Said' where nothing that the law and all that it calls make is longer than what came in: it says more and counts as full. Else prove '..UptoSaid'. A law counts once. -/
mutual
def uptoBulk {H : Type} : DataW H → Nat
  | .lit (.string bytes) => bytes.length + 1
  | .lit _ => 1
  | .nil => 1
  | .ptr d => uptoBulk d + 1
  | .slice elems spare => uptoBulkAll elems + uptoBulkAll spare + 1
  | .agg parts => uptoBulkAll parts + 1
  | .iface _ d => uptoBulk d + 1
  | .map entries => uptoBulkEntries entries + 1
  | .held _ => 1
def uptoBulkAll {H : Type} : List (DataW H) → Nat
  | [] => 0
  | d :: r => uptoBulk d + uptoBulkAll r
def uptoBulkEntries {H : Type} : List (Lit × DataW H) → Nat
  | [] => 0
  | x :: r => uptoBulkEntry x + uptoBulkEntries r
def uptoBulkEntry {H : Type} : Lit × DataW H → Nat
  | (.string bytes, d) => bytes.length + uptoBulk d + 1
  | (_, d) => uptoBulk d + 1
 end
def uptoSmall : (H : Type) → List (DataW H) → Bool := fun _ ds => decide (uptoBulkAll ds ≤ 1048576)
def OpenSpec.upto (s : _root_.Go.ChangeSpec) : _root_.Go.OpenSpec := { _root_.Go.OpenSpec.ofChange s with cond := some uptoSmall }

/-- 'weighhouselaw03.OpApplies', WHERE WHAT IT READS IS OF BULK AT MOST 1048576: true; the input reads as it did. -/
def opAppliesUptoRow : OpenClaim := { program := "ythgidafohcfjoaa", sum := "7156b1f1f11d8857ae715eb993cca1a5488435bc55c52e6dd042db1ab62d36d2", func := "weighhouse/weighhouselaw03.OpApplies", spec := "opApplies", apart := false, narrowed := true }
def OpAppliesUptoSaid : Prop := opAppliesUptoRow.holds Try.pinned (OpenSpec.upto opAppliesSpec)

/-- 'weighhouselaw03.OpNumbers', WHERE WHAT IT READS IS OF BULK AT MOST 1048576: true; the input reads as it did. -/
def opNumbersUptoRow : OpenClaim := { program := "ythgidafohcfjoaa", sum := "7156b1f1f11d8857ae715eb993cca1a5488435bc55c52e6dd042db1ab62d36d2", func := "weighhouse/weighhouselaw03.OpNumbers", spec := "opNumbers", apart := false, narrowed := true }
def OpNumbersUptoSaid : Prop := opNumbersUptoRow.holds Try.pinned (OpenSpec.upto opNumbersSpec)

/-- 'weighhouselaw03.OpBytes', WHERE WHAT IT READS IS OF BULK AT MOST 1048576: true; the input reads as it did. -/
def opBytesUptoRow : OpenClaim := { program := "ythgidafohcfjoaa", sum := "7156b1f1f11d8857ae715eb993cca1a5488435bc55c52e6dd042db1ab62d36d2", func := "weighhouse/weighhouselaw03.OpBytes", spec := "opBytes", apart := false, narrowed := true }
def OpBytesUptoSaid : Prop := opBytesUptoRow.holds Try.pinned (OpenSpec.upto opBytesSpec)

/-- 'weighhouselaw03.OpCompares', WHERE WHAT IT READS IS OF BULK AT MOST 1048576: true; the input reads as it did. -/
def opComparesUptoRow : OpenClaim := { program := "ythgidafohcfjoaa", sum := "7156b1f1f11d8857ae715eb993cca1a5488435bc55c52e6dd042db1ab62d36d2", func := "weighhouse/weighhouselaw03.OpCompares", spec := "opCompares", apart := false, narrowed := true }
def OpComparesUptoSaid : Prop := opComparesUptoRow.holds Try.pinned (OpenSpec.upto opComparesSpec)

/-- 'weighhouselaw03.OpBits', WHERE WHAT IT READS IS OF BULK AT MOST 1048576: true; the input reads as it did. -/
def opBitsUptoRow : OpenClaim := { program := "ythgidafohcfjoaa", sum := "7156b1f1f11d8857ae715eb993cca1a5488435bc55c52e6dd042db1ab62d36d2", func := "weighhouse/weighhouselaw03.OpBits", spec := "opBits", apart := false, narrowed := true }
def OpBitsUptoSaid : Prop := opBitsUptoRow.holds Try.pinned (OpenSpec.upto opBitsSpec)

/-- 'weighhouselaw03.OpTyped', WHERE WHAT IT READS IS OF BULK AT MOST 1048576: true; the input reads as it did. -/
def opTypedUptoRow : OpenClaim := { program := "ythgidafohcfjoaa", sum := "7156b1f1f11d8857ae715eb993cca1a5488435bc55c52e6dd042db1ab62d36d2", func := "weighhouse/weighhouselaw03.OpTyped", spec := "opTyped", apart := false, narrowed := true }
def OpTypedUptoSaid : Prop := opTypedUptoRow.holds Try.pinned (OpenSpec.upto opTypedSpec)

/-- 'weighhouselaw03.OpTable', WHERE WHAT IT READS IS OF BULK AT MOST 1048576: true; the input reads as it did. -/
def opTableUptoRow : OpenClaim := { program := "ythgidafohcfjoaa", sum := "7156b1f1f11d8857ae715eb993cca1a5488435bc55c52e6dd042db1ab62d36d2", func := "weighhouse/weighhouselaw03.OpTable", spec := "opTable", apart := false, narrowed := true }
def OpTableUptoSaid : Prop := opTableUptoRow.holds Try.pinned (OpenSpec.upto opTableSpec)

end Rows
end Go.Proofs.Ythgidafohcfjoaa
