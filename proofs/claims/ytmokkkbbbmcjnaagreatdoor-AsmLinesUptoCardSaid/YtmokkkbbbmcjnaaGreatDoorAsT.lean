/-
  The table: the runs.
-/
import Derived.Test.YtmokkkbbbmcjnaaGreatDoorAsA
set_option linter.unusedVariables false
namespace Go.AM
open Go.Proofs

def namesL : List (List UInt8) := [[105, 110, 116], [99, 111, 110, 115, 116], [116, 114, 117, 101], [102, 97, 108, 115, 101], [100, 114, 111, 112], [100, 117, 112], [115, 119, 97, 112], [111, 118, 101, 114], [103, 101, 116], [115, 101, 116], [97, 100, 100], [115, 117, 98], [109, 117, 108], [100, 105, 118], [114, 101, 109], [110, 101, 103], [97, 110, 100], [111, 114], [120, 111, 114], [105, 110, 118], [115, 104, 108], [115, 104, 114], [101, 113], [110, 101], [108, 116], [108, 101], [103, 116], [103, 101], [98, 111, 116, 104], [101, 105, 116, 104, 101, 114], [110, 111, 116], [108, 101, 110], [106, 111, 105, 110], [99, 117, 116], [97, 116], [115, 97, 109, 101], [108, 101, 115, 115], [112, 97, 99, 107], [117, 110, 112, 97, 99, 107], [111, 110, 101], [108, 111, 97, 100], [104, 97, 115], [115, 97, 118, 101], [119, 105, 112, 101], [110, 101, 120, 116], [101, 109, 105, 116], [97, 98, 111, 114, 116], [105, 102], [101, 108, 115, 101], [101, 110, 100], [108, 111, 111, 112], [108, 101, 97, 118, 101], [99, 97, 108, 108]]

def findN : List (List UInt8) → List UInt8 → Nat → Nat
  | [], _, _ => 0
  | x :: l, s, i => if x == s then i else findN l s (i + 1)
def findB : List (List UInt8) → List UInt8 → Bool
  | [], _ => false
  | x :: l, s => if x == s then true else findB l s

def findF (f : FuncId) : FlatF := (f, fun args => match args with | [.str s] => some (.tup [.int .i64 (findN namesL s 1 : Nat), .bool (findB namesL s)]) | _ => none)

def nameF : FlatF := (33, fun args => match args with | [.int .i64 (.ofNat (k + 1))] => (namesL[k]?).map .str | _ => none)

def findOrc (f : FuncId) (d : Tmp) (k : Nat) : Orc := List.replicate k (f, d, .bool false) ++ (if k < 53 then [(f, d, .bool true)] else [])
def findObs (s : List UInt8) (k : Nat) : List Ob := ((namesL.take k).map fun x => ⟨.eql, 9, .str x, .str s, .bool false⟩) ++ (((namesL.drop k).take 1).map fun x => ⟨.eql, 9, .str x, .str s, .bool true⟩)
def findOut (k : Nat) : V := if k < 53 then .tup [.int .i64 ((k + 1 : Nat) : Int), .bool true] else .tup [.int .i64 (0 : Nat), .bool false]

theorem at_range {α : Type} {f g : Nat → α} {a n : Nat} (h : (List.range' a n).map f = (List.range' a n).map g) (k : Nat) (h1 : a ≤ k) (h2 : k < a + n) : f k = g k :=
  List.map_inj_left.1 h k (by rw [List.mem_range'_1]; exact ⟨h1, h2⟩)

theorem name33 : (List.range' 1 53).map (fun k => toldRun Tryz.prog X1 80 33 [.int .i64 (.ofNat k)] []) = (List.range' 1 53).map (fun k => ((namesL[k - 1]?).map fun s => (V.str s, ([] : List Ob)))) := by kernel_rfl

theorem findP_0 (s : List UInt8) : (List.range' 0 25).map (fun k => toldRun Tryz.prog X1 80 25 [.str s] (findOrc 25 14 k)) = (List.range' 0 25).map (fun k => some (findOut k, findObs s k)) := by kernel_rfl
theorem findP_25 (s : List UInt8) : (List.range' 25 15).map (fun k => toldRun Tryz.prog X1 80 25 [.str s] (findOrc 25 14 k)) = (List.range' 25 15).map (fun k => some (findOut k, findObs s k)) := by kernel_rfl
theorem findP_40 (s : List UInt8) : (List.range' 40 14).map (fun k => toldRun Tryz.prog X1 80 25 [.str s] (findOrc 25 14 k)) = (List.range' 40 14).map (fun k => some (findOut k, findObs s k)) := by kernel_rfl

end Go.AM
