/-
  Values that fit types: the program's Fits and the document's, by heart.
-/
import Derived.Test.YthgidafohcfjoaaOpT2
import Derived.Test.YthgidafohcfjoaaAmRead
set_option linter.unusedVariables false
namespace Go.AM
open Go.Proofs

abbrev tv (f : FuncId) (d : Tmp) (b : Bool) : FuncId × Tmp × Tell := (f, d, .val (.bool b))
abbrev obI (op : BinOp) (a b : Int) (x : Bool) : Ob2 := .bin op 3 (.int .i64 a) (.int .i64 b) (.bool x)
abbrev obS (op : BinOp) (a b : List UInt8) (x : Bool) : Ob2 := .bin op 9 (.str a) (.str b) (.bool x)

def tableK : Known := ⟨45, fun args => match args with | [] => some tableV | _ => none⟩
def knowsK : Known := ⟨15, fun args => match args with | [] => some (.bool true) | _ => none⟩
def rightR : List V → Option V := fun args => match args with | [.agg [.int .i64 t, .int .i64 n, .str s]] => some (.bool (rightB t n s)) | _ => none

theorem tableK_ok : ReadKnows Try.prog (flatExt []) tableK.f tableK.r := by
  intro args v h
  match args, h with
  | [], h =>
    obtain ⟨h1, h2, n, h', hr⟩ := table_knows [] v h
    exact ⟨h2, rfl, n, h', hr⟩
theorem knowsK_ok : ReadKnows Try.prog X1 knowsK.f knowsK.r := by
  intro args v h
  match args, h with
  | [], h =>
    obtain ⟨h1, h2, n, h', hr⟩ := knows_knows [] v h
    exact ⟨h2, rfl, n, h', hr⟩
theorem right53_ok : ReadKnows Try.prog X1 53 rightR := by
  intro args v h
  have h0 := h
  unfold rightR at h
  split at h
  case h_2 => cases h
  rename_i t n s
  obtain ⟨h1, h2, n, h', hr⟩ := right_knows [.agg [.int .i64 t, .int .i64 n, .str s]] v h0
  exact ⟨h2, rfl, n, h', hr⟩

theorem r54_1 (n : Int) (s : List UInt8) (x : Bool) : tellRun Try.prog X1 60 54 [ev3 1 n s] [tv 54 9 x] = some (.bool x, [obS .eql s [] x]) := by kernel_rfl
theorem r54_2t (n : Int) (s : List UInt8) (x : Bool) : tellRun Try.prog X1 60 54 [ev3 2 n s] [tv 54 14 true, tv 54 19 x] = some (.bool x, [obI .eql n 0 true, obI .leq s.length 256 x]) := by kernel_rfl
theorem r54_2f (n : Int) (s : List UInt8) : tellRun Try.prog X1 60 54 [ev3 2 n s] [tv 54 14 false] = some (.bool false, [obI .eql n 0 false]) := by kernel_rfl
theorem r54_3a (n : Int) (s : List UInt8) (x : Bool) : tellRun Try.prog X1 60 54 [ev3 3 n s] [tv 54 25 true, tv 54 34 x] = some (.bool x, [obI .eql n 0 true, obS .eql s [] x]) := by kernel_rfl
theorem r54_3b (n : Int) (s : List UInt8) (x : Bool) : tellRun Try.prog X1 60 54 [ev3 3 n s] [tv 54 25 false, tv 54 29 true, tv 54 34 x] = some (.bool x, [obI .eql n 0 false, obI .eql n 1 true, obS .eql s [] x]) := by kernel_rfl
theorem r54_3c (n : Int) (s : List UInt8) : tellRun Try.prog X1 60 54 [ev3 3 n s] [tv 54 25 false, tv 54 29 false] = some (.bool false, [obI .eql n 0 false, obI .eql n 1 false]) := by kernel_rfl
theorem r54_0 (t n : Int) (s : List UInt8) : tellRun Try.prog X1 60 54 [ev3 t n s] [tv 54 6 false, tv 54 11 false, tv 54 22 false] = some (.bool false, [obI .eql t 1 false, obI .eql t 2 false, obI .eql t 3 false]) := by kernel_rfl

theorem oI {X : Ext} {a b : Int} {x : Bool} (h : (a == b) = x) : (obI .eql a b x).ok Try.prog X := okEq a b x h
theorem oIn {X : Ext} {a b : Int} {x : Bool} (h : (a != b) = x) : (obI .neq a b x).ok Try.prog X := okNe a b x h
theorem oIle {X : Ext} {a b : Int} {x : Bool} (h : decide (a ≤ b) = x) : (obI .leq a b x).ok Try.prog X := okLe a b x h
theorem oS {X : Ext} {a b : List UInt8} {x : Bool} (h : (a == b) = x) : (obS .eql a b x).ok Try.prog X := okStr h

theorem right54_ok : ReadKnows Try.prog X1 54 rightR := by
  intro args v h
  unfold rightR at h
  split at h
  case h_2 => cases h
  rename_i t n s
  cases h
  refine ⟨rfl, rfl, 60, ?_⟩
  show ∃ h', callN Try.prog X1 60 54 [ev3 t n s] h0 = some (.bool (rightB t n s), h')
  unfold rightB
  by_cases h1 : t = 1
  · subst h1
    rw [if_pos rfl]
    exact run_of_tell (r54_1 n s _) (obs2_cons (oS rfl) obs2_nil)
  rw [if_neg h1]
  by_cases h2 : t = 2
  · subst h2
    rw [if_pos rfl]
    cases hn : (n == 0) with
    | true => exact run_of_tell (r54_2t n s _) (obs2_cons (oI hn) (obs2_cons (oIle (by simp)) obs2_nil))
    | false => exact run_of_tell (r54_2f n s) (obs2_cons (oI hn) obs2_nil)
  rw [if_neg h2]
  by_cases h3 : t = 3
  · subst h3
    rw [if_pos rfl]
    cases hn : (n == 0) with
    | true => exact run_of_tell (r54_3a n s _) (obs2_cons (oI hn) (obs2_cons (oS (by simp)) obs2_nil))
    | false =>
      cases hn1 : (n == 1) with
      | true => exact run_of_tell (r54_3b n s _) (obs2_cons (oI hn) (obs2_cons (oI hn1) (obs2_cons (oS (by simp)) obs2_nil)))
      | false => exact run_of_tell (r54_3c n s) (obs2_cons (oI hn) (obs2_cons (oI hn1) obs2_nil))
  rw [if_neg h3]
  exact run_of_tell (r54_0 t n s) (obs2_cons (oI (by simpa using h1)) (obs2_cons (oI (by simpa using h2)) (obs2_cons (oI (by simpa using h3)) obs2_nil)))

def X6l : List Known := [tableK, ⟨53, rightR⟩, ⟨54, rightR⟩]
def X6 : Ext := knownExt X6l
theorem X6_ok : ExtOk Try.prog X6 := knownExt_ok mixed (by
  intro x hx
  simp only [X6l, List.mem_cons, List.not_mem_nil, or_false] at hx
  rcases hx with rfl | rfl | rfl
  · exact ⟨flatExt [], noExt_ok, flatExt_mono _, tableK_ok⟩
  · exact ⟨X1, X1_ok, X1_mono, right53_ok⟩
  · exact ⟨X1, X1_ok, X1_mono, right54_ok⟩)
theorem X6_mono : ExtMono X6 := knownExt_mono _

/-- A value of a script: type, number, text. -/
structure Va where
  t : Int
  n : Int
  s : List UInt8

abbrev Va.v (x : Va) : V := ev3 x.t x.n x.s
def Va.right (x : Va) : Bool := rightB x.t x.n x.s
def rowOf : List Va → List V
  | [] => []
  | x :: l => .int .i64 x.t :: .int .i64 x.n :: .str x.s :: rowOf l
def rowI : List Int → List V
  | [] => []
  | x :: l => .int .i64 x :: rowI l

/-- What lies behind a slice of values; of numbers. -/
def dV (l : List Va) (c : V) (ty : Int) : V := .tup [.tup (rowOf l), .int .i64 (0 : Nat), .int .i64 (l.length : Nat), c, .int .i64 ty]
def dI (l : List Int) (c : V) (ty : Int) : V := .tup [.tup (rowI l), .int .i64 (0 : Nat), .int .i64 (l.length : Nat), c, .int .i64 ty]

def fitsB : List Va → List Int → Bool
  | [], [] => true
  | x :: l, t :: ts => x.right && x.t == t && fitsB l ts
  | _, _ => false

theorem f21_no01 (l : List Va) (ts : List Int) (c c' : V) (u u' : Int) : tellFrom Try.prog X6 60 21 (und [.nilslice, dI ts c' u'] 0).1 (allocs h0 (und [.nilslice, dI ts c' u'] 0).2) [tv 21 11 true] = some (.bool false, [obI .neq (0 : Nat) (ts.length : Nat) true]) := by kernel_rfl
theorem f21_no10 (l : List Va) (ts : List Int) (c c' : V) (u u' : Int) : tellFrom Try.prog X6 60 21 (und [dV l c u, .nilslice] 0).1 (allocs h0 (und [dV l c u, .nilslice] 0).2) [tv 21 11 true] = some (.bool false, [obI .neq (l.length : Nat) (0 : Nat) true]) := by kernel_rfl
theorem f21_no11 (l : List Va) (ts : List Int) (c c' : V) (u u' : Int) : tellFrom Try.prog X6 60 21 (und [dV l c u, dI ts c' u'] 0).1 (allocs h0 (und [dV l c u, dI ts c' u'] 0).2) [tv 21 11 true] = some (.bool false, [obI .neq (l.length : Nat) (ts.length : Nat) true]) := by kernel_rfl
theorem f21_nil00 (c c' : V) (u u' : Int) : tellFrom Try.prog X6 60 21 (und [.nilslice, .nilslice] 0).1 (allocs h0 (und [.nilslice, .nilslice] 0).2) [] = some (.bool true, []) := by kernel_rfl
theorem f21_nil01 (c c' : V) (u u' : Int) : tellFrom Try.prog X6 60 21 (und [.nilslice, dI [] c' u'] 0).1 (allocs h0 (und [.nilslice, dI [] c' u'] 0).2) [] = some (.bool true, []) := by kernel_rfl
theorem f21_nil10 (c c' : V) (u u' : Int) : tellFrom Try.prog X6 60 21 (und [dV [] c u, .nilslice] 0).1 (allocs h0 (und [dV [] c u, .nilslice] 0).2) [] = some (.bool true, []) := by kernel_rfl
theorem f21_nil11 (c c' : V) (u u' : Int) : tellFrom Try.prog X6 60 21 (und [dV [] c u, dI [] c' u'] 0).1 (allocs h0 (und [dV [] c u, dI [] c' u'] 0).2) [] = some (.bool true, []) := by kernel_rfl
theorem f21_1r0 (x0 : Va) (t0 : Int) (c c' : V) (u u' : Int) : tellFrom Try.prog X6 60 21 (und [dV [x0] c u, dI [t0] c' u'] 0).1 (allocs h0 (und [dV [x0] c u, dI [t0] c' u'] 0).2) [tv 42 12 false] = some (.bool false, [.rd 53 [x0.v] (.bool false)]) := by kernel_rfl
theorem f21_1t0 (x0 : Va) (t0 : Int) (c c' : V) (u u' : Int) : tellFrom Try.prog X6 60 21 (und [dV [x0] c u, dI [t0] c' u'] 0).1 (allocs h0 (und [dV [x0] c u, dI [t0] c' u'] 0).2) [tv 42 12 true, tv 21 30 true] = some (.bool false, [.rd 53 [x0.v] (.bool true), obI .neq x0.t t0 true]) := by kernel_rfl
theorem f21_1y (x0 : Va) (t0 : Int) (c c' : V) (u u' : Int) : tellFrom Try.prog X6 60 21 (und [dV [x0] c u, dI [t0] c' u'] 0).1 (allocs h0 (und [dV [x0] c u, dI [t0] c' u'] 0).2) [tv 42 12 true, tv 21 30 false] = some (.bool true, [.rd 53 [x0.v] (.bool true), obI .neq x0.t t0 false]) := by kernel_rfl
theorem f21_2r0 (x0 x1 : Va) (t0 t1 : Int) (c c' : V) (u u' : Int) : tellFrom Try.prog X6 60 21 (und [dV [x0, x1] c u, dI [t0, t1] c' u'] 0).1 (allocs h0 (und [dV [x0, x1] c u, dI [t0, t1] c' u'] 0).2) [tv 42 12 false] = some (.bool false, [.rd 53 [x0.v] (.bool false)]) := by kernel_rfl
theorem f21_2r1 (x0 x1 : Va) (t0 t1 : Int) (c c' : V) (u u' : Int) : tellFrom Try.prog X6 60 21 (und [dV [x0, x1] c u, dI [t0, t1] c' u'] 0).1 (allocs h0 (und [dV [x0, x1] c u, dI [t0, t1] c' u'] 0).2) [tv 42 12 true, tv 42 12 false] = some (.bool false, [.rd 53 [x0.v] (.bool true), .rd 53 [x1.v] (.bool false)]) := by kernel_rfl
theorem f21_2t0 (x0 x1 : Va) (t0 t1 : Int) (c c' : V) (u u' : Int) : tellFrom Try.prog X6 60 21 (und [dV [x0, x1] c u, dI [t0, t1] c' u'] 0).1 (allocs h0 (und [dV [x0, x1] c u, dI [t0, t1] c' u'] 0).2) [tv 42 12 true, tv 42 12 true, tv 21 30 true] = some (.bool false, [.rd 53 [x0.v] (.bool true), .rd 53 [x1.v] (.bool true), obI .neq x0.t t0 true]) := by kernel_rfl
theorem f21_2t1 (x0 x1 : Va) (t0 t1 : Int) (c c' : V) (u u' : Int) : tellFrom Try.prog X6 60 21 (und [dV [x0, x1] c u, dI [t0, t1] c' u'] 0).1 (allocs h0 (und [dV [x0, x1] c u, dI [t0, t1] c' u'] 0).2) [tv 42 12 true, tv 42 12 true, tv 21 30 false, tv 21 30 true] = some (.bool false, [.rd 53 [x0.v] (.bool true), .rd 53 [x1.v] (.bool true), obI .neq x0.t t0 false, obI .neq x1.t t1 true]) := by kernel_rfl
theorem f21_2y (x0 x1 : Va) (t0 t1 : Int) (c c' : V) (u u' : Int) : tellFrom Try.prog X6 60 21 (und [dV [x0, x1] c u, dI [t0, t1] c' u'] 0).1 (allocs h0 (und [dV [x0, x1] c u, dI [t0, t1] c' u'] 0).2) [tv 42 12 true, tv 42 12 true, tv 21 30 false, tv 21 30 false] = some (.bool true, [.rd 53 [x0.v] (.bool true), .rd 53 [x1.v] (.bool true), obI .neq x0.t t0 false, obI .neq x1.t t1 false]) := by kernel_rfl
theorem f21_3r0 (x0 x1 x2 : Va) (t0 t1 t2 : Int) (c c' : V) (u u' : Int) : tellFrom Try.prog X6 60 21 (und [dV [x0, x1, x2] c u, dI [t0, t1, t2] c' u'] 0).1 (allocs h0 (und [dV [x0, x1, x2] c u, dI [t0, t1, t2] c' u'] 0).2) [tv 42 12 false] = some (.bool false, [.rd 53 [x0.v] (.bool false)]) := by kernel_rfl
theorem f21_3r1 (x0 x1 x2 : Va) (t0 t1 t2 : Int) (c c' : V) (u u' : Int) : tellFrom Try.prog X6 60 21 (und [dV [x0, x1, x2] c u, dI [t0, t1, t2] c' u'] 0).1 (allocs h0 (und [dV [x0, x1, x2] c u, dI [t0, t1, t2] c' u'] 0).2) [tv 42 12 true, tv 42 12 false] = some (.bool false, [.rd 53 [x0.v] (.bool true), .rd 53 [x1.v] (.bool false)]) := by kernel_rfl
theorem f21_3r2 (x0 x1 x2 : Va) (t0 t1 t2 : Int) (c c' : V) (u u' : Int) : tellFrom Try.prog X6 60 21 (und [dV [x0, x1, x2] c u, dI [t0, t1, t2] c' u'] 0).1 (allocs h0 (und [dV [x0, x1, x2] c u, dI [t0, t1, t2] c' u'] 0).2) [tv 42 12 true, tv 42 12 true, tv 42 12 false] = some (.bool false, [.rd 53 [x0.v] (.bool true), .rd 53 [x1.v] (.bool true), .rd 53 [x2.v] (.bool false)]) := by kernel_rfl
theorem f21_3t0 (x0 x1 x2 : Va) (t0 t1 t2 : Int) (c c' : V) (u u' : Int) : tellFrom Try.prog X6 60 21 (und [dV [x0, x1, x2] c u, dI [t0, t1, t2] c' u'] 0).1 (allocs h0 (und [dV [x0, x1, x2] c u, dI [t0, t1, t2] c' u'] 0).2) [tv 42 12 true, tv 42 12 true, tv 42 12 true, tv 21 30 true] = some (.bool false, [.rd 53 [x0.v] (.bool true), .rd 53 [x1.v] (.bool true), .rd 53 [x2.v] (.bool true), obI .neq x0.t t0 true]) := by kernel_rfl
theorem f21_3t1 (x0 x1 x2 : Va) (t0 t1 t2 : Int) (c c' : V) (u u' : Int) : tellFrom Try.prog X6 60 21 (und [dV [x0, x1, x2] c u, dI [t0, t1, t2] c' u'] 0).1 (allocs h0 (und [dV [x0, x1, x2] c u, dI [t0, t1, t2] c' u'] 0).2) [tv 42 12 true, tv 42 12 true, tv 42 12 true, tv 21 30 false, tv 21 30 true] = some (.bool false, [.rd 53 [x0.v] (.bool true), .rd 53 [x1.v] (.bool true), .rd 53 [x2.v] (.bool true), obI .neq x0.t t0 false, obI .neq x1.t t1 true]) := by kernel_rfl
theorem f21_3t2 (x0 x1 x2 : Va) (t0 t1 t2 : Int) (c c' : V) (u u' : Int) : tellFrom Try.prog X6 60 21 (und [dV [x0, x1, x2] c u, dI [t0, t1, t2] c' u'] 0).1 (allocs h0 (und [dV [x0, x1, x2] c u, dI [t0, t1, t2] c' u'] 0).2) [tv 42 12 true, tv 42 12 true, tv 42 12 true, tv 21 30 false, tv 21 30 false, tv 21 30 true] = some (.bool false, [.rd 53 [x0.v] (.bool true), .rd 53 [x1.v] (.bool true), .rd 53 [x2.v] (.bool true), obI .neq x0.t t0 false, obI .neq x1.t t1 false, obI .neq x2.t t2 true]) := by kernel_rfl
theorem f21_3y (x0 x1 x2 : Va) (t0 t1 t2 : Int) (c c' : V) (u u' : Int) : tellFrom Try.prog X6 60 21 (und [dV [x0, x1, x2] c u, dI [t0, t1, t2] c' u'] 0).1 (allocs h0 (und [dV [x0, x1, x2] c u, dI [t0, t1, t2] c' u'] 0).2) [tv 42 12 true, tv 42 12 true, tv 42 12 true, tv 21 30 false, tv 21 30 false, tv 21 30 false] = some (.bool true, [.rd 53 [x0.v] (.bool true), .rd 53 [x1.v] (.bool true), .rd 53 [x2.v] (.bool true), obI .neq x0.t t0 false, obI .neq x1.t t1 false, obI .neq x2.t t2 false]) := by kernel_rfl
theorem f40_no01 (l : List Va) (ts : List Int) (c c' : V) (u u' : Int) : tellFrom Try.prog X6 60 40 (und [.nilslice, dI ts c' u'] 0).1 (allocs h0 (und [.nilslice, dI ts c' u'] 0).2) [tv 40 10 true] = some (.bool false, [obI .neq (0 : Nat) (ts.length : Nat) true]) := by kernel_rfl
theorem f40_no10 (l : List Va) (ts : List Int) (c c' : V) (u u' : Int) : tellFrom Try.prog X6 60 40 (und [dV l c u, .nilslice] 0).1 (allocs h0 (und [dV l c u, .nilslice] 0).2) [tv 40 10 true] = some (.bool false, [obI .neq (l.length : Nat) (0 : Nat) true]) := by kernel_rfl
theorem f40_no11 (l : List Va) (ts : List Int) (c c' : V) (u u' : Int) : tellFrom Try.prog X6 60 40 (und [dV l c u, dI ts c' u'] 0).1 (allocs h0 (und [dV l c u, dI ts c' u'] 0).2) [tv 40 10 true] = some (.bool false, [obI .neq (l.length : Nat) (ts.length : Nat) true]) := by kernel_rfl
theorem f40_nil00 (c c' : V) (u u' : Int) : tellFrom Try.prog X6 60 40 (und [.nilslice, .nilslice] 0).1 (allocs h0 (und [.nilslice, .nilslice] 0).2) [] = some (.bool true, []) := by kernel_rfl
theorem f40_nil01 (c c' : V) (u u' : Int) : tellFrom Try.prog X6 60 40 (und [.nilslice, dI [] c' u'] 0).1 (allocs h0 (und [.nilslice, dI [] c' u'] 0).2) [] = some (.bool true, []) := by kernel_rfl
theorem f40_nil10 (c c' : V) (u u' : Int) : tellFrom Try.prog X6 60 40 (und [dV [] c u, .nilslice] 0).1 (allocs h0 (und [dV [] c u, .nilslice] 0).2) [] = some (.bool true, []) := by kernel_rfl
theorem f40_nil11 (c c' : V) (u u' : Int) : tellFrom Try.prog X6 60 40 (und [dV [] c u, dI [] c' u'] 0).1 (allocs h0 (und [dV [] c u, dI [] c' u'] 0).2) [] = some (.bool true, []) := by kernel_rfl
theorem f40_1r0 (x0 : Va) (t0 : Int) (c c' : V) (u u' : Int) : tellFrom Try.prog X6 60 40 (und [dV [x0] c u, dI [t0] c' u'] 0).1 (allocs h0 (und [dV [x0] c u, dI [t0] c' u'] 0).2) [tv 48 14 false] = some (.bool false, [.rd 54 [x0.v] (.bool false)]) := by kernel_rfl
theorem f40_1t0 (x0 : Va) (t0 : Int) (c c' : V) (u u' : Int) : tellFrom Try.prog X6 60 40 (und [dV [x0] c u, dI [t0] c' u'] 0).1 (allocs h0 (und [dV [x0] c u, dI [t0] c' u'] 0).2) [tv 48 14 true, tv 40 31 true] = some (.bool false, [.rd 54 [x0.v] (.bool true), obI .neq x0.t t0 true]) := by kernel_rfl
theorem f40_1y (x0 : Va) (t0 : Int) (c c' : V) (u u' : Int) : tellFrom Try.prog X6 60 40 (und [dV [x0] c u, dI [t0] c' u'] 0).1 (allocs h0 (und [dV [x0] c u, dI [t0] c' u'] 0).2) [tv 48 14 true, tv 40 31 false] = some (.bool true, [.rd 54 [x0.v] (.bool true), obI .neq x0.t t0 false]) := by kernel_rfl
theorem f40_2r0 (x0 x1 : Va) (t0 t1 : Int) (c c' : V) (u u' : Int) : tellFrom Try.prog X6 60 40 (und [dV [x0, x1] c u, dI [t0, t1] c' u'] 0).1 (allocs h0 (und [dV [x0, x1] c u, dI [t0, t1] c' u'] 0).2) [tv 48 14 false] = some (.bool false, [.rd 54 [x0.v] (.bool false)]) := by kernel_rfl
theorem f40_2r1 (x0 x1 : Va) (t0 t1 : Int) (c c' : V) (u u' : Int) : tellFrom Try.prog X6 60 40 (und [dV [x0, x1] c u, dI [t0, t1] c' u'] 0).1 (allocs h0 (und [dV [x0, x1] c u, dI [t0, t1] c' u'] 0).2) [tv 48 14 true, tv 48 14 false] = some (.bool false, [.rd 54 [x0.v] (.bool true), .rd 54 [x1.v] (.bool false)]) := by kernel_rfl
theorem f40_2t0 (x0 x1 : Va) (t0 t1 : Int) (c c' : V) (u u' : Int) : tellFrom Try.prog X6 60 40 (und [dV [x0, x1] c u, dI [t0, t1] c' u'] 0).1 (allocs h0 (und [dV [x0, x1] c u, dI [t0, t1] c' u'] 0).2) [tv 48 14 true, tv 48 14 true, tv 40 31 true] = some (.bool false, [.rd 54 [x0.v] (.bool true), .rd 54 [x1.v] (.bool true), obI .neq x0.t t0 true]) := by kernel_rfl
theorem f40_2t1 (x0 x1 : Va) (t0 t1 : Int) (c c' : V) (u u' : Int) : tellFrom Try.prog X6 60 40 (und [dV [x0, x1] c u, dI [t0, t1] c' u'] 0).1 (allocs h0 (und [dV [x0, x1] c u, dI [t0, t1] c' u'] 0).2) [tv 48 14 true, tv 48 14 true, tv 40 31 false, tv 40 31 true] = some (.bool false, [.rd 54 [x0.v] (.bool true), .rd 54 [x1.v] (.bool true), obI .neq x0.t t0 false, obI .neq x1.t t1 true]) := by kernel_rfl
theorem f40_2y (x0 x1 : Va) (t0 t1 : Int) (c c' : V) (u u' : Int) : tellFrom Try.prog X6 60 40 (und [dV [x0, x1] c u, dI [t0, t1] c' u'] 0).1 (allocs h0 (und [dV [x0, x1] c u, dI [t0, t1] c' u'] 0).2) [tv 48 14 true, tv 48 14 true, tv 40 31 false, tv 40 31 false] = some (.bool true, [.rd 54 [x0.v] (.bool true), .rd 54 [x1.v] (.bool true), obI .neq x0.t t0 false, obI .neq x1.t t1 false]) := by kernel_rfl
theorem f40_3r0 (x0 x1 x2 : Va) (t0 t1 t2 : Int) (c c' : V) (u u' : Int) : tellFrom Try.prog X6 60 40 (und [dV [x0, x1, x2] c u, dI [t0, t1, t2] c' u'] 0).1 (allocs h0 (und [dV [x0, x1, x2] c u, dI [t0, t1, t2] c' u'] 0).2) [tv 48 14 false] = some (.bool false, [.rd 54 [x0.v] (.bool false)]) := by kernel_rfl
theorem f40_3r1 (x0 x1 x2 : Va) (t0 t1 t2 : Int) (c c' : V) (u u' : Int) : tellFrom Try.prog X6 60 40 (und [dV [x0, x1, x2] c u, dI [t0, t1, t2] c' u'] 0).1 (allocs h0 (und [dV [x0, x1, x2] c u, dI [t0, t1, t2] c' u'] 0).2) [tv 48 14 true, tv 48 14 false] = some (.bool false, [.rd 54 [x0.v] (.bool true), .rd 54 [x1.v] (.bool false)]) := by kernel_rfl
theorem f40_3r2 (x0 x1 x2 : Va) (t0 t1 t2 : Int) (c c' : V) (u u' : Int) : tellFrom Try.prog X6 60 40 (und [dV [x0, x1, x2] c u, dI [t0, t1, t2] c' u'] 0).1 (allocs h0 (und [dV [x0, x1, x2] c u, dI [t0, t1, t2] c' u'] 0).2) [tv 48 14 true, tv 48 14 true, tv 48 14 false] = some (.bool false, [.rd 54 [x0.v] (.bool true), .rd 54 [x1.v] (.bool true), .rd 54 [x2.v] (.bool false)]) := by kernel_rfl
theorem f40_3t0 (x0 x1 x2 : Va) (t0 t1 t2 : Int) (c c' : V) (u u' : Int) : tellFrom Try.prog X6 60 40 (und [dV [x0, x1, x2] c u, dI [t0, t1, t2] c' u'] 0).1 (allocs h0 (und [dV [x0, x1, x2] c u, dI [t0, t1, t2] c' u'] 0).2) [tv 48 14 true, tv 48 14 true, tv 48 14 true, tv 40 31 true] = some (.bool false, [.rd 54 [x0.v] (.bool true), .rd 54 [x1.v] (.bool true), .rd 54 [x2.v] (.bool true), obI .neq x0.t t0 true]) := by kernel_rfl
theorem f40_3t1 (x0 x1 x2 : Va) (t0 t1 t2 : Int) (c c' : V) (u u' : Int) : tellFrom Try.prog X6 60 40 (und [dV [x0, x1, x2] c u, dI [t0, t1, t2] c' u'] 0).1 (allocs h0 (und [dV [x0, x1, x2] c u, dI [t0, t1, t2] c' u'] 0).2) [tv 48 14 true, tv 48 14 true, tv 48 14 true, tv 40 31 false, tv 40 31 true] = some (.bool false, [.rd 54 [x0.v] (.bool true), .rd 54 [x1.v] (.bool true), .rd 54 [x2.v] (.bool true), obI .neq x0.t t0 false, obI .neq x1.t t1 true]) := by kernel_rfl
theorem f40_3t2 (x0 x1 x2 : Va) (t0 t1 t2 : Int) (c c' : V) (u u' : Int) : tellFrom Try.prog X6 60 40 (und [dV [x0, x1, x2] c u, dI [t0, t1, t2] c' u'] 0).1 (allocs h0 (und [dV [x0, x1, x2] c u, dI [t0, t1, t2] c' u'] 0).2) [tv 48 14 true, tv 48 14 true, tv 48 14 true, tv 40 31 false, tv 40 31 false, tv 40 31 true] = some (.bool false, [.rd 54 [x0.v] (.bool true), .rd 54 [x1.v] (.bool true), .rd 54 [x2.v] (.bool true), obI .neq x0.t t0 false, obI .neq x1.t t1 false, obI .neq x2.t t2 true]) := by kernel_rfl
theorem f40_3y (x0 x1 x2 : Va) (t0 t1 t2 : Int) (c c' : V) (u u' : Int) : tellFrom Try.prog X6 60 40 (und [dV [x0, x1, x2] c u, dI [t0, t1, t2] c' u'] 0).1 (allocs h0 (und [dV [x0, x1, x2] c u, dI [t0, t1, t2] c' u'] 0).2) [tv 48 14 true, tv 48 14 true, tv 48 14 true, tv 40 31 false, tv 40 31 false, tv 40 31 false] = some (.bool true, [.rd 54 [x0.v] (.bool true), .rd 54 [x1.v] (.bool true), .rd 54 [x2.v] (.bool true), obI .neq x0.t t0 false, obI .neq x1.t t1 false, obI .neq x2.t t2 false]) := by kernel_rfl

/-- The two readings of a digest. -/
inductive IsV : V → List Va → Prop
  | nil : IsV .nilslice []
  | row (l : List Va) (c : V) (u : Int) : IsV (dV l c u) l
inductive IsI : V → List Int → Prop
  | nil : IsI .nilslice []
  | row (l : List Int) (c : V) (u : Int) : IsI (dI l c u) l

theorem rd53 {x : Va} {y : Bool} (h : x.right = y) : (Ob2.rd 53 [x.v] (.bool y)).ok Try.prog X6 := ok_rd (l := X6l) (r := rightR) rfl (by rw [← h]; rfl)
theorem rd54 {x : Va} {y : Bool} (h : x.right = y) : (Ob2.rd 54 [x.v] (.bool y)).ok Try.prog X6 := ok_rd (l := X6l) (r := rightR) rfl (by rw [← h]; rfl)

theorem fitsB_len : ∀ {l : List Va} {ts : List Int}, l.length ≠ ts.length → fitsB l ts = false
  | [], [], h => absurd rfl h
  | [], _ :: _, _ => rfl
  | _ :: _, [], _ => rfl
  | x :: l, t :: ts, h => by
    have : l.length ≠ ts.length := fun e => h (by simp [e])
    simp [fitsB, fitsB_len this]

theorem fits21 {d1 d2 : V} {l : List Va} {ts : List Int} (h1 : IsV d1 l) (h2 : IsI d2 ts) (h3 : ts.length ≤ 3) : ∃ h', callN Try.prog X6 60 21 (und [d1, d2] 0).1 (allocs h0 (und [d1, d2] 0).2) = some (.bool (fitsB l ts), h') := by
  by_cases hl : l.length = ts.length
  · match ts, l, h1, h2, hl, h3 with
    | [], [], h1, h2, _, _ =>
      cases h1 with
      | nil => cases h2 with
        | nil => exact run_of_from (f21_nil00 .junk .junk 0 0) obs2_nil
        | row _ c u => exact run_of_from (f21_nil01 .junk c 0 u) obs2_nil
      | row _ c u => cases h2 with
        | nil => exact run_of_from (f21_nil10 c .junk u 0) obs2_nil
        | row _ c' u' => exact run_of_from (f21_nil11 c c' u u') obs2_nil
    | [t0], [x0], h1, h2, _, _ =>
      cases h1; cases h2
      rename_i c u c' u'
      cases hr0 : x0.right with
      | false =>
        have e : fitsB [x0] [t0] = false := by simp [fitsB, hr0]
        rw [e]; exact run_of_from (f21_1r0 x0 t0 c c' u u') (obs2_cons (rd53 hr0) obs2_nil)
      | true =>
        cases ht0 : (x0.t != t0) with
        | true =>
          have e : fitsB [x0] [t0] = false := by simp at ht0; simp [fitsB, ht0]
          rw [e]; exact run_of_from (f21_1t0 x0 t0 c c' u u') (obs2_cons (rd53 hr0) (obs2_cons (oIn ht0) obs2_nil))
        | false =>
          have e : fitsB [x0] [t0] = true := by simp at ht0; simp [fitsB, hr0, ht0]
          rw [e]; exact run_of_from (f21_1y x0 t0 c c' u u') (obs2_cons (rd53 hr0) (obs2_cons (oIn ht0) obs2_nil))
    | [t0, t1], [x0, x1], h1, h2, _, _ =>
      cases h1; cases h2
      rename_i c u c' u'
      cases hr0 : x0.right with
      | false =>
        have e : fitsB [x0, x1] [t0, t1] = false := by simp [fitsB, hr0]
        rw [e]; exact run_of_from (f21_2r0 x0 x1 t0 t1 c c' u u') (obs2_cons (rd53 hr0) obs2_nil)
      | true =>
        cases hr1 : x1.right with
        | false =>
          have e : fitsB [x0, x1] [t0, t1] = false := by simp [fitsB, hr0, hr1]
          rw [e]; exact run_of_from (f21_2r1 x0 x1 t0 t1 c c' u u') (obs2_cons (rd53 hr0) (obs2_cons (rd53 hr1) obs2_nil))
        | true =>
          cases ht0 : (x0.t != t0) with
          | true =>
            have e : fitsB [x0, x1] [t0, t1] = false := by simp at ht0; simp [fitsB, ht0]
            rw [e]; exact run_of_from (f21_2t0 x0 x1 t0 t1 c c' u u') (obs2_cons (rd53 hr0) (obs2_cons (rd53 hr1) (obs2_cons (oIn ht0) obs2_nil)))
          | false =>
            cases ht1 : (x1.t != t1) with
            | true =>
              have e : fitsB [x0, x1] [t0, t1] = false := by simp at ht1; simp [fitsB, ht1]
              rw [e]; exact run_of_from (f21_2t1 x0 x1 t0 t1 c c' u u') (obs2_cons (rd53 hr0) (obs2_cons (rd53 hr1) (obs2_cons (oIn ht0) (obs2_cons (oIn ht1) obs2_nil))))
            | false =>
              have e : fitsB [x0, x1] [t0, t1] = true := by simp at ht0 ht1; simp [fitsB, hr0, hr1, ht0, ht1]
              rw [e]; exact run_of_from (f21_2y x0 x1 t0 t1 c c' u u') (obs2_cons (rd53 hr0) (obs2_cons (rd53 hr1) (obs2_cons (oIn ht0) (obs2_cons (oIn ht1) obs2_nil))))
    | [t0, t1, t2], [x0, x1, x2], h1, h2, _, _ =>
      cases h1; cases h2
      rename_i c u c' u'
      cases hr0 : x0.right with
      | false =>
        have e : fitsB [x0, x1, x2] [t0, t1, t2] = false := by simp [fitsB, hr0]
        rw [e]; exact run_of_from (f21_3r0 x0 x1 x2 t0 t1 t2 c c' u u') (obs2_cons (rd53 hr0) obs2_nil)
      | true =>
        cases hr1 : x1.right with
        | false =>
          have e : fitsB [x0, x1, x2] [t0, t1, t2] = false := by simp [fitsB, hr0, hr1]
          rw [e]; exact run_of_from (f21_3r1 x0 x1 x2 t0 t1 t2 c c' u u') (obs2_cons (rd53 hr0) (obs2_cons (rd53 hr1) obs2_nil))
        | true =>
          cases hr2 : x2.right with
          | false =>
            have e : fitsB [x0, x1, x2] [t0, t1, t2] = false := by simp [fitsB, hr0, hr1, hr2]
            rw [e]; exact run_of_from (f21_3r2 x0 x1 x2 t0 t1 t2 c c' u u') (obs2_cons (rd53 hr0) (obs2_cons (rd53 hr1) (obs2_cons (rd53 hr2) obs2_nil)))
          | true =>
            cases ht0 : (x0.t != t0) with
            | true =>
              have e : fitsB [x0, x1, x2] [t0, t1, t2] = false := by simp at ht0; simp [fitsB, ht0]
              rw [e]; exact run_of_from (f21_3t0 x0 x1 x2 t0 t1 t2 c c' u u') (obs2_cons (rd53 hr0) (obs2_cons (rd53 hr1) (obs2_cons (rd53 hr2) (obs2_cons (oIn ht0) obs2_nil))))
            | false =>
              cases ht1 : (x1.t != t1) with
              | true =>
                have e : fitsB [x0, x1, x2] [t0, t1, t2] = false := by simp at ht1; simp [fitsB, ht1]
                rw [e]; exact run_of_from (f21_3t1 x0 x1 x2 t0 t1 t2 c c' u u') (obs2_cons (rd53 hr0) (obs2_cons (rd53 hr1) (obs2_cons (rd53 hr2) (obs2_cons (oIn ht0) (obs2_cons (oIn ht1) obs2_nil)))))
              | false =>
                cases ht2 : (x2.t != t2) with
                | true =>
                  have e : fitsB [x0, x1, x2] [t0, t1, t2] = false := by simp at ht2; simp [fitsB, ht2]
                  rw [e]; exact run_of_from (f21_3t2 x0 x1 x2 t0 t1 t2 c c' u u') (obs2_cons (rd53 hr0) (obs2_cons (rd53 hr1) (obs2_cons (rd53 hr2) (obs2_cons (oIn ht0) (obs2_cons (oIn ht1) (obs2_cons (oIn ht2) obs2_nil))))))
                | false =>
                  have e : fitsB [x0, x1, x2] [t0, t1, t2] = true := by simp at ht0 ht1 ht2; simp [fitsB, hr0, hr1, hr2, ht0, ht1, ht2]
                  rw [e]; exact run_of_from (f21_3y x0 x1 x2 t0 t1 t2 c c' u u') (obs2_cons (rd53 hr0) (obs2_cons (rd53 hr1) (obs2_cons (rd53 hr2) (obs2_cons (oIn ht0) (obs2_cons (oIn ht1) (obs2_cons (oIn ht2) obs2_nil))))))
  · rw [fitsB_len hl]
    have hne : ((l.length : Int) != (ts.length : Int)) = true := by simp; omega
    cases h1 with
    | nil => cases h2 with
      | nil => exact absurd rfl hl
      | row _ c u => exact run_of_from (f21_no01 [] ts .junk c 0 u) (obs2_cons (oIn hne) obs2_nil)
    | row _ c u => cases h2 with
      | nil => exact run_of_from (f21_no10 l [] c .junk u 0) (obs2_cons (oIn hne) obs2_nil)
      | row _ c' u' => exact run_of_from (f21_no11 l ts c c' u u') (obs2_cons (oIn hne) obs2_nil)

theorem fits40 {d1 d2 : V} {l : List Va} {ts : List Int} (h1 : IsV d1 l) (h2 : IsI d2 ts) (h3 : ts.length ≤ 3) : ∃ h', callN Try.prog X6 60 40 (und [d1, d2] 0).1 (allocs h0 (und [d1, d2] 0).2) = some (.bool (fitsB l ts), h') := by
  by_cases hl : l.length = ts.length
  · match ts, l, h1, h2, hl, h3 with
    | [], [], h1, h2, _, _ =>
      cases h1 with
      | nil => cases h2 with
        | nil => exact run_of_from (f40_nil00 .junk .junk 0 0) obs2_nil
        | row _ c u => exact run_of_from (f40_nil01 .junk c 0 u) obs2_nil
      | row _ c u => cases h2 with
        | nil => exact run_of_from (f40_nil10 c .junk u 0) obs2_nil
        | row _ c' u' => exact run_of_from (f40_nil11 c c' u u') obs2_nil
    | [t0], [x0], h1, h2, _, _ =>
      cases h1; cases h2
      rename_i c u c' u'
      cases hr0 : x0.right with
      | false =>
        have e : fitsB [x0] [t0] = false := by simp [fitsB, hr0]
        rw [e]; exact run_of_from (f40_1r0 x0 t0 c c' u u') (obs2_cons (rd54 hr0) obs2_nil)
      | true =>
        cases ht0 : (x0.t != t0) with
        | true =>
          have e : fitsB [x0] [t0] = false := by simp at ht0; simp [fitsB, ht0]
          rw [e]; exact run_of_from (f40_1t0 x0 t0 c c' u u') (obs2_cons (rd54 hr0) (obs2_cons (oIn ht0) obs2_nil))
        | false =>
          have e : fitsB [x0] [t0] = true := by simp at ht0; simp [fitsB, hr0, ht0]
          rw [e]; exact run_of_from (f40_1y x0 t0 c c' u u') (obs2_cons (rd54 hr0) (obs2_cons (oIn ht0) obs2_nil))
    | [t0, t1], [x0, x1], h1, h2, _, _ =>
      cases h1; cases h2
      rename_i c u c' u'
      cases hr0 : x0.right with
      | false =>
        have e : fitsB [x0, x1] [t0, t1] = false := by simp [fitsB, hr0]
        rw [e]; exact run_of_from (f40_2r0 x0 x1 t0 t1 c c' u u') (obs2_cons (rd54 hr0) obs2_nil)
      | true =>
        cases hr1 : x1.right with
        | false =>
          have e : fitsB [x0, x1] [t0, t1] = false := by simp [fitsB, hr0, hr1]
          rw [e]; exact run_of_from (f40_2r1 x0 x1 t0 t1 c c' u u') (obs2_cons (rd54 hr0) (obs2_cons (rd54 hr1) obs2_nil))
        | true =>
          cases ht0 : (x0.t != t0) with
          | true =>
            have e : fitsB [x0, x1] [t0, t1] = false := by simp at ht0; simp [fitsB, ht0]
            rw [e]; exact run_of_from (f40_2t0 x0 x1 t0 t1 c c' u u') (obs2_cons (rd54 hr0) (obs2_cons (rd54 hr1) (obs2_cons (oIn ht0) obs2_nil)))
          | false =>
            cases ht1 : (x1.t != t1) with
            | true =>
              have e : fitsB [x0, x1] [t0, t1] = false := by simp at ht1; simp [fitsB, ht1]
              rw [e]; exact run_of_from (f40_2t1 x0 x1 t0 t1 c c' u u') (obs2_cons (rd54 hr0) (obs2_cons (rd54 hr1) (obs2_cons (oIn ht0) (obs2_cons (oIn ht1) obs2_nil))))
            | false =>
              have e : fitsB [x0, x1] [t0, t1] = true := by simp at ht0 ht1; simp [fitsB, hr0, hr1, ht0, ht1]
              rw [e]; exact run_of_from (f40_2y x0 x1 t0 t1 c c' u u') (obs2_cons (rd54 hr0) (obs2_cons (rd54 hr1) (obs2_cons (oIn ht0) (obs2_cons (oIn ht1) obs2_nil))))
    | [t0, t1, t2], [x0, x1, x2], h1, h2, _, _ =>
      cases h1; cases h2
      rename_i c u c' u'
      cases hr0 : x0.right with
      | false =>
        have e : fitsB [x0, x1, x2] [t0, t1, t2] = false := by simp [fitsB, hr0]
        rw [e]; exact run_of_from (f40_3r0 x0 x1 x2 t0 t1 t2 c c' u u') (obs2_cons (rd54 hr0) obs2_nil)
      | true =>
        cases hr1 : x1.right with
        | false =>
          have e : fitsB [x0, x1, x2] [t0, t1, t2] = false := by simp [fitsB, hr0, hr1]
          rw [e]; exact run_of_from (f40_3r1 x0 x1 x2 t0 t1 t2 c c' u u') (obs2_cons (rd54 hr0) (obs2_cons (rd54 hr1) obs2_nil))
        | true =>
          cases hr2 : x2.right with
          | false =>
            have e : fitsB [x0, x1, x2] [t0, t1, t2] = false := by simp [fitsB, hr0, hr1, hr2]
            rw [e]; exact run_of_from (f40_3r2 x0 x1 x2 t0 t1 t2 c c' u u') (obs2_cons (rd54 hr0) (obs2_cons (rd54 hr1) (obs2_cons (rd54 hr2) obs2_nil)))
          | true =>
            cases ht0 : (x0.t != t0) with
            | true =>
              have e : fitsB [x0, x1, x2] [t0, t1, t2] = false := by simp at ht0; simp [fitsB, ht0]
              rw [e]; exact run_of_from (f40_3t0 x0 x1 x2 t0 t1 t2 c c' u u') (obs2_cons (rd54 hr0) (obs2_cons (rd54 hr1) (obs2_cons (rd54 hr2) (obs2_cons (oIn ht0) obs2_nil))))
            | false =>
              cases ht1 : (x1.t != t1) with
              | true =>
                have e : fitsB [x0, x1, x2] [t0, t1, t2] = false := by simp at ht1; simp [fitsB, ht1]
                rw [e]; exact run_of_from (f40_3t1 x0 x1 x2 t0 t1 t2 c c' u u') (obs2_cons (rd54 hr0) (obs2_cons (rd54 hr1) (obs2_cons (rd54 hr2) (obs2_cons (oIn ht0) (obs2_cons (oIn ht1) obs2_nil)))))
              | false =>
                cases ht2 : (x2.t != t2) with
                | true =>
                  have e : fitsB [x0, x1, x2] [t0, t1, t2] = false := by simp at ht2; simp [fitsB, ht2]
                  rw [e]; exact run_of_from (f40_3t2 x0 x1 x2 t0 t1 t2 c c' u u') (obs2_cons (rd54 hr0) (obs2_cons (rd54 hr1) (obs2_cons (rd54 hr2) (obs2_cons (oIn ht0) (obs2_cons (oIn ht1) (obs2_cons (oIn ht2) obs2_nil))))))
                | false =>
                  have e : fitsB [x0, x1, x2] [t0, t1, t2] = true := by simp at ht0 ht1 ht2; simp [fitsB, hr0, hr1, hr2, ht0, ht1, ht2]
                  rw [e]; exact run_of_from (f40_3y x0 x1 x2 t0 t1 t2 c c' u u') (obs2_cons (rd54 hr0) (obs2_cons (rd54 hr1) (obs2_cons (rd54 hr2) (obs2_cons (oIn ht0) (obs2_cons (oIn ht1) (obs2_cons (oIn ht2) obs2_nil))))))
  · rw [fitsB_len hl]
    have hne : ((l.length : Int) != (ts.length : Int)) = true := by simp; omega
    cases h1 with
    | nil => cases h2 with
      | nil => exact absurd rfl hl
      | row _ c u => exact run_of_from (f40_no01 [] ts .junk c 0 u) (obs2_cons (oIn hne) obs2_nil)
    | row _ c u => cases h2 with
      | nil => exact run_of_from (f40_no10 l [] c .junk u 0) (obs2_cons (oIn hne) obs2_nil)
      | row _ c' u' => exact run_of_from (f40_no11 l ts c c' u u') (obs2_cons (oIn hne) obs2_nil)

end Go.AM
