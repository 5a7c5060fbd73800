/-
  The table: names and finding, known.
-/
import Derived.Test.YthgidafohcfjoaaOpT
set_option linter.unusedVariables false
namespace Go.AM
open Go.Proofs

theorem name_knows : Knows Try.prog X1 nameF := by
  intro args v h
  unfold nameF at h
  simp only at h
  split at h
  case h_2 => cases h
  rename_i k
  have hk : k < 53 := by
    rcases Nat.lt_or_ge k 53 with h' | h'
    · exact h'
    · rw [List.getElem?_eq_none (by exact h')] at h; cases h
  have := at_range name27 (k + 1) (by omega) (by omega)
  cases hs : namesL[k]? with
  | none => rw [hs] at h; cases h
  | some s =>
    rw [hs] at h
    cases h
    simp only [Nat.add_sub_cancel, hs, Option.map_some] at this
    exact ⟨rfl, rfl, 80, run_of_told this obs_nil⟩

def X3 : Ext := flatExt [tableF, nameF]
theorem X3_ok : ExtOk Try.prog X3 := flatExt_ok mixed (by
  intro x hx
  simp only [List.mem_cons, List.not_mem_nil, or_false] at hx
  rcases hx with rfl | rfl
  · exact ⟨flatExt [], noExt_ok, flatExt_mono _, table_knows⟩
  · exact ⟨X1, X1_ok, X1_mono, name_knows⟩)
theorem X3_mono : ExtMono X3 := flatExt_mono _

theorem find25_0 (s : List UInt8) : (List.range' 0 30).map (fun k => toldRun Try.prog X3 80 25 [.str s] (findOrc 25 12 k)) = (List.range' 0 30).map (fun k => some (findOut k, findObs s k)) := by kernel_rfl
theorem find25_30 (s : List UInt8) : (List.range' 30 24).map (fun k => toldRun Try.prog X3 80 25 [.str s] (findOrc 25 12 k)) = (List.range' 30 24).map (fun k => some (findOut k, findObs s k)) := by kernel_rfl

theorem okStr {x s : List UInt8} {b : Bool} (h : (x == s) = b) : Ob.ok Try.prog ⟨.eql, 9, .str x, .str s, .bool b⟩ := by
  show some (V.bool (x == s)) = _
  rw [h]

/-- Where a name stands first. -/
theorem find_at : ∀ (l : List (List UInt8)) (s : List UInt8) (i : Nat), ∃ k, k ≤ l.length ∧ (∀ x ∈ l.take k, (x == s) = false) ∧ (∀ x ∈ (l.drop k).take 1, (x == s) = true) ∧ findN l s i = (if k < l.length then i + k else 0) ∧ findB l s = decide (k < l.length)
  | [], s, i => ⟨0, Nat.le_refl _, by simp, by simp, rfl, rfl⟩
  | x :: l, s, i => by
    cases hx : (x == s) with
    | true => exact ⟨0, by simp, by simp, by simpa using hx, by simp [findN, hx], by simp [findB, hx]⟩
    | false =>
      obtain ⟨k, h1, h2, h3, h4, h5⟩ := find_at l s (i + 1)
      refine ⟨k + 1, by simp; exact h1, ?_, by simpa using h3, ?_, ?_⟩
      · intro y hy
        rw [List.take_succ_cons, List.mem_cons] at hy
        rcases hy with rfl | hy
        · exact hx
        · exact h2 y hy
      · simp only [findN, hx, h4, List.length_cons, Nat.add_lt_add_iff_right, Bool.false_eq_true, if_false]
        split
        · omega
        · rfl
      · simp [findB, hx, h5]

theorem find_knows (f : FuncId) (d : Tmp) (X : Ext) (h : ∀ s k, k < 54 → toldRun Try.prog X 80 f [.str s] (findOrc f d k) = some (findOut k, findObs s k)) : Knows Try.prog X (findF f) := by
  intro args v hv
  unfold findF at hv
  simp only at hv
  split at hv
  case h_2 => cases hv
  rename_i s
  cases hv
  obtain ⟨k, h1, h2, h3, h4, h5⟩ := find_at namesL s 1
  have hl : namesL.length = 53 := rfl
  rw [hl] at h1 h4 h5
  refine ⟨rfl, rfl, 80, ?_⟩
  have hr := h s k (by omega)
  have ho : findOut k = .tup [.int .i64 (findN namesL s 1 : Nat), .bool (findB namesL s)] := by
    unfold findOut
    rw [h4, h5]
    split
    · rename_i hk; simp [hk]; omega
    · rename_i hk; simp [hk]
  rw [ho] at hr
  refine run_of_told hr ?_
  intro x hx
  rcases List.mem_append.1 hx with hx | hx
  · obtain ⟨y, hy, rfl⟩ := List.mem_map.1 hx
    exact okStr (h2 y hy)
  · obtain ⟨y, hy, rfl⟩ := List.mem_map.1 hx
    exact okStr (h3 y hy)

theorem find24_knows : Knows Try.prog X1 (findF 24) := find_knows 24 14 X1 (fun s k hk => by
  rcases Nat.lt_or_ge k 25 with h | h
  · exact at_range (find24_0 s) k (by omega) (by omega)
  rcases Nat.lt_or_ge k 40 with h' | h'
  · exact at_range (find24_25 s) k (by omega) (by omega)
  · exact at_range (find24_40 s) k (by omega) (by omega))
theorem find25_knows : Knows Try.prog X3 (findF 25) := find_knows 25 12 X3 (fun s k hk => by
  rcases Nat.lt_or_ge k 30 with h | h
  · exact at_range (find25_0 s) k (by omega) (by omega)
  · exact at_range (find25_30 s) k (by omega) (by omega))

def knowsF : FlatF := (15, fun args => match args with | [] => some (.bool true) | _ => none)
theorem knows_knows : Knows Try.prog X1 knowsF := by
  intro args v h
  match args, h with
  | [], h =>
    cases h
    obtain ⟨h', hr⟩ := run_of_told knows_told obs_nil
    exact ⟨rfl, rfl, 60, h', hr⟩

def X4 : Ext := flatExt [tableF, findF 24, findF 25, knowsF]
theorem X4_ok : ExtOk Try.prog X4 := flatExt_ok mixed (by
  intro x hx
  simp only [List.mem_cons, List.not_mem_nil, or_false] at hx
  rcases hx with rfl | rfl | rfl | rfl
  · exact ⟨flatExt [], noExt_ok, flatExt_mono _, table_knows⟩
  · exact ⟨X1, X1_ok, X1_mono, find24_knows⟩
  · exact ⟨X3, X3_ok, X3_mono, find25_knows⟩
  · exact ⟨X1, X1_ok, X1_mono, knows_knows⟩)
theorem X4_mono : ExtMono X4 := flatExt_mono _

end Go.AM
