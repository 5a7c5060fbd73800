/-
  Any operation of any values, where nothing is answered.
-/
import Derived.Test.YthgidafohcfjoaaOpK
set_option linter.unusedVariables false
namespace Go.AM
open Go.Proofs

/-- The argument: its memory, itself, its digest; and its copy's. -/
abbrev hA (l : List Va) : Heap := allocs h0 [.cells true 36 (rowOf l)]
abbrev sA (l : List Va) (k : Nat) : V := .slice 0 0 l.length (some k)
abbrev dA (l : List Va) (k : Nat) : V := dV l (.int .i64 (k : Nat)) (36 : Nat)
abbrev dX (l : List Va) : V := dV l .nilptr (36 : Nat)
abbrev dE : V := dV [] (.int .i64 (0 : Nat)) (36 : Nat)
abbrev ownT (f : FuncId) (l : List Va) : FuncId × Tmp × Tell := (10, 5, .blk l.length 36 (rowOf l))
abbrev ownO (l : List Va) (k : Nat) : Ob2 := .app 22 22 ((hA l).alloc (.cells false 36 [])) (.slice 1 0 0 (some 0)) (sA l k) l.length 36 (rowOf l)
abbrev rS : V := .bool true

def inL : List (List Int) := [[], [], [], [], [], [0], [0], [0, 0], [0, 0], [], [0], [1, 1], [1, 1], [1, 1], [1, 1], [1, 1], [1], [1, 1], [1, 1], [1, 1], [1], [1, 1], [1, 1], [1, 1], [1, 1], [1, 1], [1, 1], [1, 1], [1, 1], [3, 3], [3, 3], [3], [2], [2, 2], [2, 1, 1], [2, 1], [2, 2], [2, 2], [1], [2], [1]]
def plainL : List Nat := [3, 4, 11, 12, 13, 14, 15, 16, 17, 18, 19, 20, 21, 22, 23, 24, 25, 26, 27, 28, 29, 30, 31, 32, 33, 34, 35, 36, 37, 38, 39, 40]
def inTs (n : Nat) : List Int := inL.getD n []
def dT (n : Nat) : V := match inTs n with | [] => .nilslice | l => dI l .nilptr (3 : Nat)

theorem ap_c_lo (l : List Va) (k : Nat) (n : Int) : tellFrom Try.prog X7 80 3 [.int .i64 n, sA l k] (hA l) ([ownT 3 l] ++ [tv 20 4 false, tv 20 7 false, tv 20 11 false, tv 35 4 false, tv 35 7 false, tv 35 11 false, tp 3 26 rS, tp 3 36 rS]) =
  some (V.bool true, [ownO l k] ++ [obI .eql n 3 false, obI .eql n 4 false, obI .geq n 11 false, obI .eql n 3 false, obI .eql n 4 false, obI .geq n 11 false, .rd 13 [.nilslice, .nilslice] rS, .rd 13 [dX l, dA l k] rS]) := by kernel_rfl
theorem ap_c_hi (l : List Va) (k : Nat) (n : Int) : tellFrom Try.prog X7 80 3 [.int .i64 n, sA l k] (hA l) ([ownT 3 l] ++ [tv 20 4 false, tv 20 7 false, tv 20 11 true, tv 20 14 false, tv 35 4 false, tv 35 7 false, tv 35 11 true, tv 35 14 false, tp 3 26 rS, tp 3 36 rS]) =
  some (V.bool true, [ownO l k] ++ [obI .eql n 3 false, obI .eql n 4 false, obI .geq n 11 true, obI .leq n 40 false, obI .eql n 3 false, obI .eql n 4 false, obI .geq n 11 true, obI .leq n 40 false, .rd 13 [.nilslice, .nilslice] rS, .rd 13 [dX l, dA l k] rS]) := by kernel_rfl
theorem ap_c_no (l : List Va) (k : Nat) : plainL.map (fun n => tellFrom Try.prog X7 80 3 [.int .i64 (.ofNat n), sA l k] (hA l) ([ownT 3 l] ++ [tv 11 17 false, tv 12 15 false, tp 3 26 rS, tp 3 36 rS])) =
  plainL.map (fun n => some (V.bool true, [ownO l k] ++ [.rd 21 [dX l, dT n] (.bool false), .rd 40 [dA l k, dT n] (.bool false), .rd 13 [.nilslice, .nilslice] rS, .rd 13 [dX l, dA l k] rS])) := by kernel_rfl
theorem ap_e_lo (k : Nat) (n : Int) : tellFrom Try.prog X7 80 3 [.int .i64 n, sA [] k] (hA []) ([] ++ [tv 20 4 false, tv 20 7 false, tv 20 11 false, tv 35 4 false, tv 35 7 false, tv 35 11 false, tp 3 26 rS, tp 3 36 rS]) =
  some (V.bool true, [] ++ [obI .eql n 3 false, obI .eql n 4 false, obI .geq n 11 false, obI .eql n 3 false, obI .eql n 4 false, obI .geq n 11 false, .rd 13 [.nilslice, .nilslice] rS, .rd 13 [dE, dA [] k] rS]) := by kernel_rfl
theorem ap_e_hi (k : Nat) (n : Int) : tellFrom Try.prog X7 80 3 [.int .i64 n, sA [] k] (hA []) ([] ++ [tv 20 4 false, tv 20 7 false, tv 20 11 true, tv 20 14 false, tv 35 4 false, tv 35 7 false, tv 35 11 true, tv 35 14 false, tp 3 26 rS, tp 3 36 rS]) =
  some (V.bool true, [] ++ [obI .eql n 3 false, obI .eql n 4 false, obI .geq n 11 true, obI .leq n 40 false, obI .eql n 3 false, obI .eql n 4 false, obI .geq n 11 true, obI .leq n 40 false, .rd 13 [.nilslice, .nilslice] rS, .rd 13 [dE, dA [] k] rS]) := by kernel_rfl
theorem ap_e_no (k : Nat) : plainL.map (fun n => tellFrom Try.prog X7 80 3 [.int .i64 (.ofNat n), sA [] k] (hA []) ([] ++ [tv 11 17 false, tv 12 15 false, tp 3 26 rS, tp 3 36 rS])) =
  plainL.map (fun n => some (V.bool true, [] ++ [.rd 21 [dE, dT n] (.bool false), .rd 40 [dA [] k, dT n] (.bool false), .rd 13 [.nilslice, .nilslice] rS, .rd 13 [dE, dA [] k] rS])) := by kernel_rfl
theorem ap_n_lo  (n : Int) : tellFrom Try.prog X7 80 3 [.int .i64 n, .nilslice] (h0) ([] ++ [tv 20 4 false, tv 20 7 false, tv 20 11 false, tv 35 4 false, tv 35 7 false, tv 35 11 false, tp 3 26 rS, tp 3 36 rS]) =
  some (V.bool true, [] ++ [obI .eql n 3 false, obI .eql n 4 false, obI .geq n 11 false, obI .eql n 3 false, obI .eql n 4 false, obI .geq n 11 false, .rd 13 [.nilslice, .nilslice] rS, .rd 13 [dE, .nilslice] rS]) := by kernel_rfl
theorem ap_n_hi  (n : Int) : tellFrom Try.prog X7 80 3 [.int .i64 n, .nilslice] (h0) ([] ++ [tv 20 4 false, tv 20 7 false, tv 20 11 true, tv 20 14 false, tv 35 4 false, tv 35 7 false, tv 35 11 true, tv 35 14 false, tp 3 26 rS, tp 3 36 rS]) =
  some (V.bool true, [] ++ [obI .eql n 3 false, obI .eql n 4 false, obI .geq n 11 true, obI .leq n 40 false, obI .eql n 3 false, obI .eql n 4 false, obI .geq n 11 true, obI .leq n 40 false, .rd 13 [.nilslice, .nilslice] rS, .rd 13 [dE, .nilslice] rS]) := by kernel_rfl
theorem ap_n_no  : plainL.map (fun n => tellFrom Try.prog X7 80 3 [.int .i64 (.ofNat n), .nilslice] (h0) ([] ++ [tv 11 17 false, tv 12 15 false, tp 3 26 rS, tp 3 36 rS])) =
  plainL.map (fun n => some (V.bool true, [] ++ [.rd 21 [dE, dT n] (.bool false), .rd 40 [.nilslice, dT n] (.bool false), .rd 13 [.nilslice, .nilslice] rS, .rd 13 [dE, .nilslice] rS])) := by kernel_rfl

end Go.AM
