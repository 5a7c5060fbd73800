/-
  The world in which the laws of lines are called: what the rows list; a world that has it.
-/
import Derived.Test.YtmokkkbbbmcjnaaGreatDoorAsX
import Derived.Test.YtmokkkbbbmcjnaaGreatDoorCards
import Derived.Test.YtmokkkbbbmcjnaaGreatDoorTie
import Derived.WalkKit
import Derived.ProofKit
import Derived.OpenShut
import Derived.Deep.DeepHandedRow
import Derived.Lib.LaidTab
import Derived.Lib.SmallJoins
import Derived.Stop.LaidErr
set_option linter.unusedVariables false
namespace Go.AM
open Go.Proofs Go.Proofs.YtmokkkbbbmcjnaaGreatDoor Go.ChangeShapes Go.WideShapes Go.ChangeAt Go.RowKit

def dc1 : DataW Unit → List Value
  | .lit (.int k n) => [.int k n]
  | _ => []
def dc2 : DataW Unit → List Value
  | .agg l => l.flatMap dc1
  | d => dc1 d
def dc3 : DataW Unit → List Value
  | .agg l => l.flatMap dc2
  | d => dc1 d

def setG (h : Array Go.Obj) (g : Nat) (cs : List Value) : Array Go.Obj := h.modify g fun
  | .cells _ t fz => .cells ⟨cs⟩ t fz
  | o => o

noncomputable def lowB : Nat := (World.holding Tryz.prog default ⟨#[], #[], []⟩).heap.size
def rangeS : ByteArray := ⟨#[118, 97, 108, 117, 101, 32, 111, 117, 116, 32, 111, 102, 32, 114, 97, 110, 103, 101]⟩
def syntaxS : ByteArray := ⟨#[105, 110, 118, 97, 108, 105, 100, 32, 115, 121, 110, 116, 97, 120]⟩

noncomputable def laidWorld (os : Os) : World :=
  let w0 := World.holding Tryz.prog os ⟨#[.cells #[.string syntaxS] 154, .cells #[.string rangeS] 154], #[], []⟩
  { w0 with heap := setG (setG (setG (setG (setG (setG (setG w0.heap 1 [.iface 152 (.pointer (some ⟨lowB, 0, none⟩))]) 2 [.iface 152 (.pointer (some ⟨lowB + 1, 0, none⟩))]) 3 (dc2 Rows.laid_internal_strconv_uint64pow10)) 4 (dc2 Rows.laid_unicode_utf8_first)) 5 (dc3 Rows.laid_unicode_utf8_acceptRanges)) 6 (dc2 Rows.laid_math_bits_deBruijn32tab)) 7 (dc2 Rows.laid_math_bits_deBruijn64tab) }


theorem laid_met (os : Os) (args : Array Value) : laidMet Tryz.prog Rows.asmLinesUptoRow.laid ((laidWorld os).forCall (fun _ _ => 0) ⟨#[], args, []⟩).memory :=
  laidMet_of_run' 8 (by kernel_rfl) (by kernel_rfl)

end Go.AM
