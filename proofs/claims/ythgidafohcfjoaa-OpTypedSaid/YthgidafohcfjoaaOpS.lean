/-
  Two lists of values are the same: by heart.
-/
import Derived.Test.YthgidafohcfjoaaOpF
import Derived.Test.YthgidafohcfjoaaAmLoop
set_option linter.unusedVariables false
namespace Go.AM
open Go.Proofs

noncomputable abbrev sBody : Code := Code.go (bodyOf Try.prog 13) [1, 1, 0, 1, 0, 0]
abbrev sHeap (l : List Va) (u u' : Nat) : Heap := allocs h0 [.cells true u (rowOf l), .cells true u' (rowOf l)]
abbrev sVs (l : List Va) (c c' : Option Nat) (i : Nat) : List V := [.slice 0 0 l.length c, .slice 1 0 l.length c', .int .i64 (i : Nat)]
abbrev sKs : List Nat := [0, 1, 5]

abbrev tp (f : FuncId) (d : Tmp) (v : V) : FuncId × Tmp × Tell := (f, d, .val v)
def sAsk (x : Va) (i : Nat) : Orc2 := [tv 13 14 true, tp 13 19 (.ptr 0 (i * 3)), tp 13 21 (.int .i64 x.t), tp 13 24 (.ptr 1 (i * 3)), tp 13 26 (.int .i64 x.t), tv 13 27 false,
  tp 13 31 (.ptr 0 (i * 3)), tp 13 33 (.int .i64 x.n), tp 13 36 (.ptr 1 (i * 3)), tp 13 38 (.int .i64 x.n), tv 13 39 false,
  tp 13 44 (.ptr 0 (i * 3)), tp 13 46 (.str x.s), tp 13 49 (.ptr 1 (i * 3)), tp 13 51 (.str x.s), tv 13 52 false, tp 13 16 (.int .i64 ((i + 1 : Nat) : Int))]
def sObs (l : List Va) (c c' : Option Nat) (x : Va) (i : Nat) : List Ob2 := [obI .lss (i : Nat) (l.length : Nat) true,
  .iadr 22 0 0 l.length c (.int .i64 (i : Nat)) (.ptr 0 (i * 3)), .ld 3 (rowOf l) (i * 3 + 0) (.int .i64 x.t), .iadr 22 1 0 l.length c' (.int .i64 (i : Nat)) (.ptr 1 (i * 3)), .ld 3 (rowOf l) (i * 3 + 0) (.int .i64 x.t), obI .neq x.t x.t false,
  .iadr 22 0 0 l.length c (.int .i64 (i : Nat)) (.ptr 0 (i * 3)), .ld 3 (rowOf l) (i * 3 + 1) (.int .i64 x.n), .iadr 22 1 0 l.length c' (.int .i64 (i : Nat)) (.ptr 1 (i * 3)), .ld 3 (rowOf l) (i * 3 + 1) (.int .i64 x.n), obI .neq x.n x.n false,
  .iadr 22 0 0 l.length c (.int .i64 (i : Nat)) (.ptr 0 (i * 3)), .ld 9 (rowOf l) (i * 3 + 2) (.str x.s), .iadr 22 1 0 l.length c' (.int .i64 (i : Nat)) (.ptr 1 (i * 3)), .ld 9 (rowOf l) (i * 3 + 2) (.str x.s), obS .neq x.s x.s false,
  obI .add (i : Nat) 1 true]

theorem same_round (m : Nat) (l : List Va) (c c' : Option Nat) (u u' : Nat) (x : Va) (i : Nat) (t : List V) :
    tellCode Try.prog X6 m 13 [] m sBody ⟨normL 54 (sKs.zip (sVs l c c' i)) t, sHeap l u u'⟩ (sAsk x i) sKs = some (.normal, 54, sVs l c c' (i + 1), sHeap l u u',
      (sObs l c c' x i).dropLast ++ [.bin .add 3 (.int .i64 (i : Nat)) (.int .i64 1) (.int .i64 ((i + 1 : Nat) : Int))]) := by kernel_rfl

theorem same_end (m : Nat) (l : List Va) (c c' : Option Nat) (u u' : Nat) (i : Nat) (t : List V) :
    tellCode Try.prog X6 m 13 [] m sBody ⟨normL 54 (sKs.zip (sVs l c c' i)) t, sHeap l u u'⟩ [tv 13 14 false] [] = some (.exit 0, 54, [], sHeap l u u', [obI .lss (i : Nat) (l.length : Nat) false]) := by kernel_rfl

theorem same_call (m : Nat) (l : List Va) (c c' : V) (u u' : Int) (J : List V → List V) :
    tellFrom Try.prog X6 (m + 1) 13 (und [dV l c u, dV l c' u'] 0).1 (allocs h0 (und [dV l c u, dV l c' u'] 0).2) [tv 13 10 false, (13, 0, .loop 54 sKs (.exit 0) (([] : List Nat).zip []) J (sHeap l u.toNat u'.toNat))] =
      some (.bool true, [obI .neq (l.length : Nat) (l.length : Nat) false, .loop m [] sBody 54 sKs (sVs l (capOf c) (capOf c') 0) (sHeap l u.toNat u'.toNat) (.exit 0) (([] : List Nat).zip []) J (sHeap l u.toNat u'.toNat)]) := by kernel_rfl

theorem same_nil01 (c : V) (u : Int) : tellFrom Try.prog X6 60 13 (und [.nilslice, dV [] c u] 0).1 (allocs h0 (und [.nilslice, dV [] c u] 0).2) [] = some (.bool true, []) := by kernel_rfl
theorem same_nil10 (c : V) (u : Int) : tellFrom Try.prog X6 60 13 (und [dV [] c u, .nilslice] 0).1 (allocs h0 (und [dV [] c u, .nilslice] 0).2) [] = some (.bool true, []) := by kernel_rfl
theorem same_nil00 : tellFrom Try.prog X6 60 13 (und [.nilslice, .nilslice] 0).1 (allocs h0 (und [.nilslice, .nilslice] 0).2) [] = some (.bool true, []) := by kernel_rfl

end Go.AM
