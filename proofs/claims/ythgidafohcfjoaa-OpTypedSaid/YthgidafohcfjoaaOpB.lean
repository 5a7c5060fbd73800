/-
  Bytes, run.
-/
import Derived.Test.YthgidafohcfjoaaOpT2
import Derived.Test.YthgidafohcfjoaaOpN
import Derived.Test.YthgidafohcfjoaaAmTell
set_option linter.unusedVariables false
namespace Go.AM
open Go.Proofs

def X5 : Ext := flatExt [tableF, knowsF]
theorem X5_ok : ExtOk Try.prog X5 := flatExt_ok mixed (by
  intro x hx
  simp only [List.mem_cons, List.not_mem_nil, or_false] at hx
  rcases hx with rfl | rfl
  · exact ⟨flatExt [], noExt_ok, flatExt_mono _, table_knows⟩
  · exact ⟨X1, X1_ok, X1_mono, knows_knows⟩)
theorem X5_mono : ExtMono X5 := flatExt_mono _

abbrev tb (f : FuncId) (d : Tmp) (b : Bool) : FuncId × Tmp × Tell := (f, d, .val (.bool b))
abbrev ob (op : BinOp) (a b : Int) (x : Bool) : Ob2 := .bin op 3 (i64 a) (i64 b) (.bool x)
abbrev ob36 (t n : Int) (s : List UInt8) (t' n' : Int) (s' : List UInt8) (x : Bool) : Ob2 := .bin .eql 36 (ev3 t n s) (ev3 t' n' s') (.bool x)

/-- A text that may be, is asked. -/
abbrev rT (y : Bool) : Orc2 := [tb 53 18 true, tb 53 23 y]
abbrev oT (a : List UInt8) (y : Bool) : List Ob2 := [ob36 2 0 a 2 0 a true, ob .leq a.length 256 y]
abbrev rN : Orc2 := [tb 53 11 true]
abbrev oN (n : Int) : List Ob2 := [ob36 1 n [] 1 n [] true]

def pk (n : Int) (i : Nat) : UInt8 := UInt8.ofNat (wr .u8 ((wr .u64 n).fdiv ((2 ^ (min (56 - 8 * i) 64) : Nat) : Int))).toNat
def up (acc : Int) (c : UInt8) : Int := orW (w64 (acc * ((2 ^ 8 : Nat) : Int))) (w64 c.toNat)
def pks (n : Int) : List UInt8 := [pk n 0, pk n 1, pk n 2, pk n 3, pk n 4, pk n 5, pk n 6, pk n 7]
def ups (n : Int) : Int := up (up (up (up (up (up (up (up 0 (pk n 0)) (pk n 1)) (pk n 2)) (pk n 3)) (pk n 4)) (pk n 5)) (pk n 6)) (pk n 7)

/-- Packed and unpacked. -/
abbrev rP : Orc2 := rN ++ [tb 53 18 true, tb 5 147 false]
abbrev oP (n : Int) : List Ob2 := oN n ++ [ob36 2 0 (pks n) 2 0 (pks n) true, ob .neq (ups n) n false]

/-- The order of two texts. -/
abbrev rO (x y z : Bool) : Orc2 := rT true ++ rT true ++ [tb 39 70 x] ++ rT true ++ rT true ++ [tb 39 70 y] ++ rT true ++ rT true ++ [tb 39 62 z]
abbrev oO (a b : List UInt8) (x y z : Bool) : List Ob2 := oT a true ++ oT b true ++ [.bin .lss 9 (.str a) (.str b) (.bool x)] ++ oT b true ++ oT a true ++ [.bin .lss 9 (.str b) (.str a) (.bool y)] ++ oT a true ++ oT b true ++ [.bin .eql 9 (.str a) (.str b) (.bool z)]

/-- Joined and cut. -/
abbrev rC (a b : List UInt8) : Orc2 := rT true ++ rT true ++ [tb 39 27 false, (39, 33, .val (.str (a ++ b))), tb 5 34 true, tb 5 41 true] ++
  rT true ++ rN ++ rN ++ [tb 11 117 false, tb 11 125 false, (11, 135, .val (.str a))] ++ rT true ++ rN ++ rN ++ [tb 11 109 false, tb 11 117 false, tb 11 125 false, (11, 135, .val (.str b))] ++ [tb 5 91 false, tb 5 98 false]
abbrev oC (a b : List UInt8) : List Ob2 := oT a true ++ oT b true ++ [ob .gtr (w64 (a.length + b.length)) 256 false, .bin .add 9 (.str a) (.str b) (.str (a ++ b)), ob .leq a.length 256 true, ob .leq b.length (w64 (256 - a.length)) true] ++
  oT (a ++ b) true ++ oN 0 ++ oN a.length ++ [ob .gtr 0 a.length false, ob .gtr a.length (a ++ b).length false, .slc 9 (.str (a ++ b)) (some (i64 0)) (some (i64 a.length)) none (.str a)] ++
  oT (a ++ b) true ++ oN a.length ++ oN (a ++ b).length ++ [ob .lss a.length 0 false, ob .gtr a.length (a ++ b).length false, ob .gtr (a ++ b).length (a ++ b).length false, .slc 9 (.str (a ++ b)) (some (i64 a.length)) (some (i64 (a ++ b).length)) none (.str b)] ++
  [.bin .neq 9 (.str a) (.str a) (.bool false), .bin .neq 9 (.str b) (.str b) (.bool false)]

theorem bytes1 (a b : List UInt8) (n : Int) : tellRun Try.prog X5 80 5 [.str a, .str b, i64 n]
  (rT false ++ [tb 5 34 false] ++ rP ++ [tb 5 168 true]) =
  some (V.bool true, oT a false ++ [ob .leq a.length 256 false] ++ oP n ++ [ob .gtr a.length 256 true]) := by kernel_rfl
theorem bytes2 (a b : List UInt8) (n : Int) : tellRun Try.prog X5 80 5 [.str a, .str b, i64 n]
  (rT true ++ rT false ++ [tb 5 34 true, tb 5 41 false] ++ rP ++ [tb 5 168 false, tb 5 172 true]) =
  some (V.bool true, oT a true ++ oT b false ++ [ob .leq a.length 256 true, ob .leq b.length (w64 (256 - a.length)) false] ++ oP n ++ [ob .gtr a.length 256 false, ob .gtr b.length 256 true]) := by kernel_rfl

end Go.AM
