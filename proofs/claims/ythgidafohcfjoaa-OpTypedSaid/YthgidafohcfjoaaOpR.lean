/-
  A value that may be.
-/
import Derived.Test.YthgidafohcfjoaaOpA
set_option linter.unusedVariables false
namespace Go.AM
open Go.Proofs

def ev3 (t n : Int) (s : List UInt8) : V := .agg [.int .i64 t, .int .i64 n, .str s]

def and3 (a b c : Bool) : Option Bool := match some a with | some true => (match some b with | some true => (match some c with | some true => some true | r => r) | r => r) | r => r
theorem eq36 (t n : Int) (s : List UInt8) (t' n' : Int) (s' : List UInt8) : eqV Try.prog 10000 36 (ev3 t n s) (ev3 t' n' s') = and3 (t == t') (n == n') (s == s') := by kernel_rfl

theorem and3_eq (a b c : Bool) : and3 a b c = some (a && b && c) := by cases a <;> cases b <;> cases c <;> rfl

def rightB (t n : Int) (s : List UInt8) : Bool := if t = 1 then s == [] else if t = 2 then n == 0 && decide ((s.length : Int) ≤ 256) else if t = 3 then (n == 0 || n == 1) && s == [] else false

def rightF : FlatF := (53, fun args => match args with | [.agg [.int .i64 t, .int .i64 n, .str s]] => some (.bool (rightB t n s)) | _ => none)

theorem right1 (n : Int) (s : List UInt8) (x : Bool) : toldRun Try.prog X1 60 53 [ev3 1 n s] [(53, 11, .bool x)] = some (.bool x, [⟨.eql, 36, ev3 1 n s, ev3 1 n [], .bool x⟩]) := by kernel_rfl
theorem right2t (n : Int) (s : List UInt8) (y : Bool) : toldRun Try.prog X1 60 53 [ev3 2 n s] [(53, 18, .bool true), (53, 23, .bool y)] = some (.bool y, [⟨.eql, 36, ev3 2 n s, ev3 2 0 s, .bool true⟩, ⟨.leq, 3, .int .i64 s.length, .int .i64 256, .bool y⟩]) := by kernel_rfl
theorem right2f (n : Int) (s : List UInt8) : toldRun Try.prog X1 60 53 [ev3 2 n s] [(53, 18, .bool false)] = some (.bool false, [⟨.eql, 36, ev3 2 n s, ev3 2 0 s, .bool false⟩]) := by kernel_rfl
theorem right3t (n : Int) (s : List UInt8) : toldRun Try.prog X1 60 53 [ev3 3 n s] [(53, 29, .bool true)] = some (.bool true, [⟨.eql, 36, ev3 3 n s, ev3 3 0 [], .bool true⟩]) := by kernel_rfl
theorem right3f (n : Int) (s : List UInt8) (y : Bool) : toldRun Try.prog X1 60 53 [ev3 3 n s] [(53, 29, .bool false), (53, 33, .bool y)] = some (.bool y, [⟨.eql, 36, ev3 3 n s, ev3 3 0 [], .bool false⟩, ⟨.eql, 36, ev3 3 n s, ev3 3 1 [], .bool y⟩]) := by kernel_rfl
theorem right0 (t n : Int) (s : List UInt8) : toldRun Try.prog X1 60 53 [ev3 t n s] [(53, 6, .bool false), (53, 13, .bool false), (53, 26, .bool false)] = some (.bool false, [⟨.eql, 3, .int .i64 t, .int .i64 1, .bool false⟩, ⟨.eql, 3, .int .i64 t, .int .i64 2, .bool false⟩, ⟨.eql, 3, .int .i64 t, .int .i64 3, .bool false⟩]) := by kernel_rfl

theorem ok36 (t n : Int) (s : List UInt8) (t' n' : Int) (s' : List UInt8) (x : Bool) (h : (t == t' && n == n' && s == s') = x) : Ob.ok Try.prog ⟨.eql, 36, ev3 t n s, ev3 t' n' s', .bool x⟩ := by
  show (eqV Try.prog 10000 36 (ev3 t n s) (ev3 t' n' s')).map V.bool = _
  rw [eq36, and3_eq, h]; rfl
theorem okEq (a b : Int) (x : Bool) (h : (a == b) = x) : Ob.ok Try.prog ⟨.eql, 3, .int .i64 a, .int .i64 b, .bool x⟩ := by
  show some (V.bool (a == b)) = _
  rw [h]
theorem okLe (a b : Int) (x : Bool) (h : decide (a ≤ b) = x) : Ob.ok Try.prog ⟨.leq, 3, .int .i64 a, .int .i64 b, .bool x⟩ := by
  show some (V.bool (decide (a ≤ b))) = _
  rw [h]
theorem okLt (a b : Int) (x : Bool) (h : decide (a < b) = x) : Ob.ok Try.prog ⟨.lss, 3, .int .i64 a, .int .i64 b, .bool x⟩ := by
  show some (V.bool (decide (a < b))) = _
  rw [h]
theorem okNe (a b : Int) (x : Bool) (h : (a != b) = x) : Ob.ok Try.prog ⟨.neq, 3, .int .i64 a, .int .i64 b, .bool x⟩ := by
  show some (V.bool (a != b)) = _
  rw [h]

theorem obs_nil {P : Program} : Obs P [] := fun x hx => by cases hx
theorem obs_cons {P : Program} {x : Ob} {l : List Ob} (h : x.ok P) (hl : Obs P l) : Obs P (x :: l) := fun y hy => by
  rcases List.mem_cons.1 hy with rfl | hy
  · exact h
  · exact hl y hy

theorem right_knows : Knows Try.prog X1 rightF := by
  intro args v h
  unfold rightF at h
  simp only at h
  split at h
  case h_2 => cases h
  rename_i t n s
  cases h
  refine ⟨rfl, rfl, 60, ?_⟩
  show ∃ h', callN Try.prog X1 60 53 [ev3 t n s] h0 = some (.bool (rightB t n s), h')
  unfold rightB
  by_cases h1 : t = 1
  · subst h1
    rw [if_pos rfl]
    exact run_of_told (right1 n s _) (obs_cons (ok36 _ _ _ _ _ _ _ (by simp)) obs_nil)
  rw [if_neg h1]
  by_cases h2 : t = 2
  · subst h2
    rw [if_pos rfl]
    cases hn : (n == 0) with
    | true => exact run_of_told (right2t n s _) (obs_cons (ok36 _ _ _ _ _ _ _ (by simp [hn])) (obs_cons (okLe _ _ _ rfl) obs_nil))
    | false => exact run_of_told (right2f n s) (obs_cons (ok36 _ _ _ _ _ _ _ (by simp [hn])) obs_nil)
  rw [if_neg h2]
  by_cases h3 : t = 3
  · subst h3
    rw [if_pos rfl]
    cases hn : (n == 0 && s == []) with
    | true =>
      have : ((n == 0 || n == 1) && s == []) = true := by simp only [Bool.and_eq_true] at hn ⊢; simp [hn.1, hn.2]
      rw [this]
      exact run_of_told (right3t n s) (obs_cons (ok36 _ _ _ _ _ _ _ (by simpa using hn)) obs_nil)
    | false =>
      have : ((n == 0 || n == 1) && s == []) = (n == 1 && s == []) := by
        cases h4 : (s == []) with
        | false => simp
        | true => rw [h4, Bool.and_true] at hn; simp [hn]
      rw [this]
      exact run_of_told (right3f n s _) (obs_cons (ok36 _ _ _ _ _ _ _ (by simpa using hn)) (obs_cons (ok36 _ _ _ _ _ _ _ (by simp)) obs_nil))
  rw [if_neg h3]
  exact run_of_told (right0 t n s) (obs_cons (okEq _ _ _ (by simpa using h1)) (obs_cons (okEq _ _ _ (by simpa using h2)) (obs_cons (okEq _ _ _ (by simpa using h3)) obs_nil)))

def X2 : Ext := flatExt [tableF, rightF]
theorem X2_ok : ExtOk Try.prog X2 := flatExt_ok mixed (by
  intro x hx
  simp only [List.mem_cons, List.not_mem_nil, or_false] at hx
  rcases hx with rfl | rfl
  · exact ⟨flatExt [], noExt_ok, flatExt_mono _, table_knows⟩
  · exact ⟨X1, X1_ok, X1_mono, right_knows⟩)
theorem X2_mono : ExtMono X2 := flatExt_mono _

end Go.AM
