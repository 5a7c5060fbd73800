/-
  The table of operations, and what must come.
-/
import Derived.Test.YtmokkkbbbmcjnaaGreatDoorAsB
import Derived.KernelRfl
set_option linter.unusedVariables false
namespace Go.AM
open Go.Proofs

def tableV : V := .agg [.str [], .int .i64 0, .str [], .str [], .int .i64 0,
  .str [105, 110, 116], .int .i64 1, .str [], .str [49], .int .i64 1,
  .str [99, 111, 110, 115, 116], .int .i64 2, .str [], .str [50], .int .i64 1,
  .str [116, 114, 117, 101], .int .i64 0, .str [], .str [51], .int .i64 1,
  .str [102, 97, 108, 115, 101], .int .i64 0, .str [], .str [51], .int .i64 1,
  .str [100, 114, 111, 112], .int .i64 0, .str [48], .str [], .int .i64 1,
  .str [100, 117, 112], .int .i64 0, .str [48], .str [48, 48], .int .i64 1,
  .str [115, 119, 97, 112], .int .i64 0, .str [48, 48], .str [48, 48], .int .i64 1,
  .str [111, 118, 101, 114], .int .i64 0, .str [48, 48], .str [48, 48, 48], .int .i64 1,
  .str [103, 101, 116], .int .i64 3, .str [], .str [48], .int .i64 1,
  .str [115, 101, 116], .int .i64 3, .str [48], .str [], .int .i64 1,
  .str [97, 100, 100], .int .i64 0, .str [49, 49], .str [49], .int .i64 1,
  .str [115, 117, 98], .int .i64 0, .str [49, 49], .str [49], .int .i64 1,
  .str [109, 117, 108], .int .i64 0, .str [49, 49], .str [49], .int .i64 2,
  .str [100, 105, 118], .int .i64 0, .str [49, 49], .str [49], .int .i64 4,
  .str [114, 101, 109], .int .i64 0, .str [49, 49], .str [49], .int .i64 4,
  .str [110, 101, 103], .int .i64 0, .str [49], .str [49], .int .i64 1,
  .str [97, 110, 100], .int .i64 0, .str [49, 49], .str [49], .int .i64 1,
  .str [111, 114], .int .i64 0, .str [49, 49], .str [49], .int .i64 1,
  .str [120, 111, 114], .int .i64 0, .str [49, 49], .str [49], .int .i64 1,
  .str [105, 110, 118], .int .i64 0, .str [49], .str [49], .int .i64 1,
  .str [115, 104, 108], .int .i64 0, .str [49, 49], .str [49], .int .i64 1,
  .str [115, 104, 114], .int .i64 0, .str [49, 49], .str [49], .int .i64 1,
  .str [101, 113], .int .i64 0, .str [49, 49], .str [51], .int .i64 1,
  .str [110, 101], .int .i64 0, .str [49, 49], .str [51], .int .i64 1,
  .str [108, 116], .int .i64 0, .str [49, 49], .str [51], .int .i64 1,
  .str [108, 101], .int .i64 0, .str [49, 49], .str [51], .int .i64 1,
  .str [103, 116], .int .i64 0, .str [49, 49], .str [51], .int .i64 1,
  .str [103, 101], .int .i64 0, .str [49, 49], .str [51], .int .i64 1,
  .str [98, 111, 116, 104], .int .i64 0, .str [51, 51], .str [51], .int .i64 1,
  .str [101, 105, 116, 104, 101, 114], .int .i64 0, .str [51, 51], .str [51], .int .i64 1,
  .str [110, 111, 116], .int .i64 0, .str [51], .str [51], .int .i64 1,
  .str [108, 101, 110], .int .i64 0, .str [50], .str [49], .int .i64 1,
  .str [106, 111, 105, 110], .int .i64 0, .str [50, 50], .str [50], .int .i64 6,
  .str [99, 117, 116], .int .i64 0, .str [50, 49, 49], .str [50], .int .i64 6,
  .str [97, 116], .int .i64 0, .str [50, 49], .str [49], .int .i64 2,
  .str [115, 97, 109, 101], .int .i64 0, .str [50, 50], .str [51], .int .i64 4,
  .str [108, 101, 115, 115], .int .i64 0, .str [50, 50], .str [51], .int .i64 4,
  .str [112, 97, 99, 107], .int .i64 0, .str [49], .str [50], .int .i64 3,
  .str [117, 110, 112, 97, 99, 107], .int .i64 0, .str [50], .str [49], .int .i64 3,
  .str [111, 110, 101], .int .i64 0, .str [49], .str [50], .int .i64 2,
  .str [108, 111, 97, 100], .int .i64 0, .str [50], .str [50, 51], .int .i64 20,
  .str [104, 97, 115], .int .i64 0, .str [50], .str [51], .int .i64 15,
  .str [115, 97, 118, 101], .int .i64 0, .str [50, 50], .str [], .int .i64 30,
  .str [119, 105, 112, 101], .int .i64 0, .str [50], .str [], .int .i64 25,
  .str [110, 101, 120, 116], .int .i64 0, .str [50], .str [50, 51], .int .i64 20,
  .str [101, 109, 105, 116], .int .i64 0, .str [50], .str [], .int .i64 10,
  .str [97, 98, 111, 114, 116], .int .i64 0, .str [], .str [], .int .i64 1,
  .str [105, 102], .int .i64 0, .str [51], .str [], .int .i64 1,
  .str [101, 108, 115, 101], .int .i64 0, .str [], .str [], .int .i64 1,
  .str [101, 110, 100], .int .i64 0, .str [], .str [], .int .i64 1,
  .str [108, 111, 111, 112], .int .i64 4, .str [], .str [], .int .i64 2,
  .str [108, 101, 97, 118, 101], .int .i64 0, .str [51], .str [], .int .i64 1,
  .str [99, 97, 108, 108], .int .i64 5, .str [], .str [], .int .i64 5]

def tableF : FlatF := (51, fun args => match args with | [] => some tableV | _ => none)

theorem mixed : Tryz.prog.follows .mixedOrders = true := by kernel_rfl

theorem table_told : toldRun Tryz.prog (flatExt []) 5 51 [] [] = some (tableV, []) := by kernel_rfl

theorem table_knows : Knows Tryz.prog (flatExt []) tableF := by
  intro args v h
  match args, h with
  | [], h =>
    cases h
    obtain ⟨h', hr⟩ := run_of_told table_told (by intro x hx; cases hx)
    exact ⟨rfl, by kernel_rfl, 5, h', hr⟩

def X1 : Ext := flatExt [tableF]
theorem X1_ok : ExtOk Tryz.prog X1 := flatExt_ok mixed (by
  intro x hx
  rw [List.mem_singleton] at hx
  subst hx
  exact ⟨flatExt [], noExt_ok, flatExt_mono _, table_knows⟩)
theorem X1_mono : ExtMono X1 := flatExt_mono _


end Go.AM
