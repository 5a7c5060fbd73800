/-
  The table: the law's runs.
-/
import Derived.Test.YthgidafohcfjoaaOpT2
set_option linter.unusedVariables false
namespace Go.AM
open Go.Proofs

def tabObs (s : List UInt8) : List Ob := [⟨.eql, 3, .int .i64 (findN namesL s 1 : Nat), .int .i64 (findN namesL s 1 : Nat), .bool true⟩, ⟨.eql, 4, .bool (findB namesL s), .bool (findB namesL s), .bool true⟩]

theorem tab_1 (s : List UInt8) : (List.range' 1 18).map (fun k => toldRun Try.prog X4 80 9 [.int .i64 (.ofNat k), .str s] [(9, 27, .bool true), (9, 32, .bool true)]) = (List.range' 1 18).map (fun k => some (V.bool true, tabObs s)) := by kernel_rfl
theorem tab_19 (s : List UInt8) : (List.range' 19 18).map (fun k => toldRun Try.prog X4 80 9 [.int .i64 (.ofNat k), .str s] [(9, 27, .bool true), (9, 32, .bool true)]) = (List.range' 19 18).map (fun k => some (V.bool true, tabObs s)) := by kernel_rfl
theorem tab_37 (s : List UInt8) : (List.range' 37 17).map (fun k => toldRun Try.prog X4 80 9 [.int .i64 (.ofNat k), .str s] [(9, 27, .bool true), (9, 32, .bool true)]) = (List.range' 37 17).map (fun k => some (V.bool true, tabObs s)) := by kernel_rfl
theorem tab_lo (n : Int) (s : List UInt8) : toldRun Try.prog X4 80 9 [.int .i64 n, .str s]
  [(44, 4, .bool true), (27, 6, .bool true), (9, 27, .bool true), (9, 32, .bool true), (44, 4, .bool true), (27, 6, .bool true), (44, 4, .bool true), (31, 6, .bool true), (44, 4, .bool true), (33, 6, .bool true), (44, 4, .bool true), (34, 6, .bool true), (20, 4, .bool false), (20, 7, .bool false), (20, 11, .bool false), (35, 4, .bool false), (35, 7, .bool false), (35, 11, .bool false)] =
  some (V.bool true, [⟨.lss, 3, .int .i64 n, .int .i64 1, .bool true⟩,
    ⟨.lss, 3, .int .i64 n, .int .i64 1, .bool true⟩,
    ⟨.eql, 3, .int .i64 (findN namesL s 1 : Nat), .int .i64 (findN namesL s 1 : Nat), .bool true⟩,
    ⟨.eql, 4, .bool (findB namesL s), .bool (findB namesL s), .bool true⟩,
    ⟨.lss, 3, .int .i64 n, .int .i64 1, .bool true⟩,
    ⟨.lss, 3, .int .i64 n, .int .i64 1, .bool true⟩,
    ⟨.lss, 3, .int .i64 n, .int .i64 1, .bool true⟩,
    ⟨.lss, 3, .int .i64 n, .int .i64 1, .bool true⟩,
    ⟨.lss, 3, .int .i64 n, .int .i64 1, .bool true⟩,
    ⟨.lss, 3, .int .i64 n, .int .i64 1, .bool true⟩,
    ⟨.lss, 3, .int .i64 n, .int .i64 1, .bool true⟩,
    ⟨.lss, 3, .int .i64 n, .int .i64 1, .bool true⟩,
    ⟨.eql, 3, .int .i64 n, .int .i64 3, .bool false⟩,
    ⟨.eql, 3, .int .i64 n, .int .i64 4, .bool false⟩,
    ⟨.geq, 3, .int .i64 n, .int .i64 11, .bool false⟩,
    ⟨.eql, 3, .int .i64 n, .int .i64 3, .bool false⟩,
    ⟨.eql, 3, .int .i64 n, .int .i64 4, .bool false⟩,
    ⟨.geq, 3, .int .i64 n, .int .i64 11, .bool false⟩]) := by kernel_rfl
theorem tab_hi (n : Int) (s : List UInt8) : toldRun Try.prog X4 80 9 [.int .i64 n, .str s]
  [(44, 4, .bool false), (44, 7, .bool true), (27, 6, .bool false), (27, 9, .bool true), (9, 27, .bool true), (9, 32, .bool true), (44, 4, .bool false), (44, 7, .bool true), (27, 6, .bool false), (27, 9, .bool true), (44, 4, .bool false), (44, 7, .bool true), (31, 6, .bool false), (31, 9, .bool true), (44, 4, .bool false), (44, 7, .bool true), (33, 6, .bool false), (33, 9, .bool true), (44, 4, .bool false), (44, 7, .bool true), (34, 6, .bool false), (34, 9, .bool true), (20, 4, .bool false), (20, 7, .bool false), (20, 11, .bool true), (20, 14, .bool false), (35, 4, .bool false), (35, 7, .bool false), (35, 11, .bool true), (35, 14, .bool false)] =
  some (V.bool true, [⟨.lss, 3, .int .i64 n, .int .i64 1, .bool false⟩,
    ⟨.gtr, 3, .int .i64 n, .int .i64 53, .bool true⟩,
    ⟨.lss, 3, .int .i64 n, .int .i64 1, .bool false⟩,
    ⟨.gtr, 3, .int .i64 n, .int .i64 53, .bool true⟩,
    ⟨.eql, 3, .int .i64 (findN namesL s 1 : Nat), .int .i64 (findN namesL s 1 : Nat), .bool true⟩,
    ⟨.eql, 4, .bool (findB namesL s), .bool (findB namesL s), .bool true⟩,
    ⟨.lss, 3, .int .i64 n, .int .i64 1, .bool false⟩,
    ⟨.gtr, 3, .int .i64 n, .int .i64 53, .bool true⟩,
    ⟨.lss, 3, .int .i64 n, .int .i64 1, .bool false⟩,
    ⟨.gtr, 3, .int .i64 n, .int .i64 53, .bool true⟩,
    ⟨.lss, 3, .int .i64 n, .int .i64 1, .bool false⟩,
    ⟨.gtr, 3, .int .i64 n, .int .i64 53, .bool true⟩,
    ⟨.lss, 3, .int .i64 n, .int .i64 1, .bool false⟩,
    ⟨.gtr, 3, .int .i64 n, .int .i64 53, .bool true⟩,
    ⟨.lss, 3, .int .i64 n, .int .i64 1, .bool false⟩,
    ⟨.gtr, 3, .int .i64 n, .int .i64 53, .bool true⟩,
    ⟨.lss, 3, .int .i64 n, .int .i64 1, .bool false⟩,
    ⟨.gtr, 3, .int .i64 n, .int .i64 53, .bool true⟩,
    ⟨.lss, 3, .int .i64 n, .int .i64 1, .bool false⟩,
    ⟨.gtr, 3, .int .i64 n, .int .i64 53, .bool true⟩,
    ⟨.lss, 3, .int .i64 n, .int .i64 1, .bool false⟩,
    ⟨.gtr, 3, .int .i64 n, .int .i64 53, .bool true⟩,
    ⟨.eql, 3, .int .i64 n, .int .i64 3, .bool false⟩,
    ⟨.eql, 3, .int .i64 n, .int .i64 4, .bool false⟩,
    ⟨.geq, 3, .int .i64 n, .int .i64 11, .bool true⟩,
    ⟨.leq, 3, .int .i64 n, .int .i64 40, .bool false⟩,
    ⟨.eql, 3, .int .i64 n, .int .i64 3, .bool false⟩,
    ⟨.eql, 3, .int .i64 n, .int .i64 4, .bool false⟩,
    ⟨.geq, 3, .int .i64 n, .int .i64 11, .bool true⟩,
    ⟨.leq, 3, .int .i64 n, .int .i64 40, .bool false⟩]) := by kernel_rfl

theorem okGe (a b : Int) (x : Bool) (h : decide (a ≥ b) = x) : Ob.ok Try.prog ⟨.geq, 3, .int .i64 a, .int .i64 b, .bool x⟩ := by
  show some (V.bool (decide (a ≥ b))) = _
  rw [h]
theorem okGt (a b : Int) (x : Bool) (h : decide (a > b) = x) : Ob.ok Try.prog ⟨.gtr, 3, .int .i64 a, .int .i64 b, .bool x⟩ := by
  show some (V.bool (decide (a > b))) = _
  rw [h]
theorem okBool (a : Bool) : Ob.ok Try.prog ⟨.eql, 4, .bool a, .bool a, .bool true⟩ := by
  show (eqV Try.prog 10000 4 (.bool a) (.bool a)).map V.bool = _
  have : eqV Try.prog 10000 4 (.bool a) (.bool a) = some (a == a) := by kernel_rfl
  rw [this]
  simp

theorem tab_run (n : Int) (s : List UInt8) : ∃ h', callN Try.prog X4 80 9 [.int .i64 n, .str s] h0 = some (.bool true, h') := by
  have e1 : ∀ x : Int, Ob.ok Try.prog ⟨.eql, 3, .int .i64 x, .int .i64 x, .bool true⟩ := fun x => okEq _ _ _ (by simp)
  by_cases hlo : n < 1
  · refine run_of_told (tab_lo n s) ?_
    have a1 : Ob.ok Try.prog ⟨.lss, 3, .int .i64 n, .int .i64 1, .bool true⟩ := okLt _ _ _ (by simp; omega)
    have a2 : Ob.ok Try.prog ⟨.eql, 3, .int .i64 n, .int .i64 3, .bool false⟩ := okEq _ _ _ (by simp; omega)
    have a3 : Ob.ok Try.prog ⟨.eql, 3, .int .i64 n, .int .i64 4, .bool false⟩ := okEq _ _ _ (by simp; omega)
    have a4 : Ob.ok Try.prog ⟨.geq, 3, .int .i64 n, .int .i64 11, .bool false⟩ := okGe _ _ _ (by simp; omega)
    repeat first | exact obs_nil | refine obs_cons ?_ ?_; (first | exact a1 | exact a2 | exact a3 | exact a4 | exact e1 _ | exact okBool _)
  by_cases hhi : n > 53
  · refine run_of_told (tab_hi n s) ?_
    have a1 : Ob.ok Try.prog ⟨.lss, 3, .int .i64 n, .int .i64 1, .bool false⟩ := okLt _ _ _ (by simp; omega)
    have a2 : Ob.ok Try.prog ⟨.eql, 3, .int .i64 n, .int .i64 3, .bool false⟩ := okEq _ _ _ (by simp; omega)
    have a3 : Ob.ok Try.prog ⟨.eql, 3, .int .i64 n, .int .i64 4, .bool false⟩ := okEq _ _ _ (by simp; omega)
    have a4 : Ob.ok Try.prog ⟨.geq, 3, .int .i64 n, .int .i64 11, .bool true⟩ := okGe _ _ _ (by simp; omega)
    have a5 : Ob.ok Try.prog ⟨.leq, 3, .int .i64 n, .int .i64 40, .bool false⟩ := okLe _ _ _ (by simp; omega)
    have a6 : Ob.ok Try.prog ⟨.gtr, 3, .int .i64 n, .int .i64 53, .bool true⟩ := okGt _ _ _ (by simp; omega)
    repeat first | exact obs_nil | refine obs_cons ?_ ?_; (first | exact a1 | exact a2 | exact a3 | exact a4 | exact a5 | exact a6 | exact e1 _ | exact okBool _)
  obtain ⟨k, rfl⟩ : ∃ k : Nat, n = .ofNat k := ⟨n.toNat, by simp; omega⟩
  have hk : 1 ≤ k ∧ k ≤ 53 := by simp at hlo hhi; omega
  have hr : toldRun Try.prog X4 80 9 [.int .i64 (.ofNat k), .str s] [(9, 27, .bool true), (9, 32, .bool true)] = some (V.bool true, tabObs s) := by
    rcases Nat.lt_or_ge k 19 with h | h
    · exact at_range (tab_1 s) k (by omega) (by omega)
    rcases Nat.lt_or_ge k 37 with h' | h'
    · exact at_range (tab_19 s) k (by omega) (by omega)
    · exact at_range (tab_37 s) k (by omega) (by omega)
  exact run_of_told hr (obs_cons (e1 _) (obs_cons (okBool _) obs_nil))

end Go.AM
