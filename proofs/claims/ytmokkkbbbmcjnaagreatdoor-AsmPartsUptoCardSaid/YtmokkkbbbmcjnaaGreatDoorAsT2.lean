/-
  The table: the runs.
-/
import Derived.Test.YtmokkkbbbmcjnaaGreatDoorAsA
set_option linter.unusedVariables false
namespace Go.AM
open Go.Proofs

def namesL : List (List UInt8) := [[105, 110, 116], [99, 111, 110, 115, 116], [116, 114, 117, 101], [102, 97, 108, 115, 101], [100, 114, 111, 112], [100, 117, 112], [115, 119, 97, 112], [111, 118, 101, 114], [103, 101, 116], [115, 101, 116], [97, 100, 100], [115, 117, 98], [109, 117, 108], [100, 105, 118], [114, 101, 109], [110, 101, 103], [97, 110, 100], [111, 114], [120, 111, 114], [105, 110, 118], [115, 104, 108], [115, 104, 114], [101, 113], [110, 101], [108, 116], [108, 101], [103, 116], [103, 101], [98, 111, 116, 104], [101, 105, 116, 104, 101, 114], [110, 111, 116], [108, 101, 110], [106, 111, 105, 110], [99, 117, 116], [97, 116], [115, 97, 109, 101], [108, 101, 115, 115], [112, 97, 99, 107], [117, 110, 112, 97, 99, 107], [111, 110, 101], [108, 111, 97, 100], [104, 97, 115], [115, 97, 118, 101], [119, 105, 112, 101], [110, 101, 120, 116], [101, 109, 105, 116], [97, 98, 111, 114, 116], [105, 102], [101, 108, 115, 101], [101, 110, 100], [108, 111, 111, 112], [108, 101, 97, 118, 101], [99, 97, 108, 108]]

def findN : List (List UInt8) → List UInt8 → Nat → Nat
  | [], _, _ => 0
  | x :: l, s, i => if x == s then i else findN l s (i + 1)
def findB : List (List UInt8) → List UInt8 → Bool
  | [], _ => false
  | x :: l, s => if x == s then true else findB l s

def findF (f : FuncId) : FlatF := (f, fun args => match args with | [.str s] => some (.tup [.int .i64 (findN namesL s 1 : Nat), .bool (findB namesL s)]) | _ => none)

def nameF : FlatF := (33, fun args => match args with | [.int .i64 (.ofNat (k + 1))] => (namesL[k]?).map .str | _ => none)

def findOrc (f : FuncId) (d : Tmp) (k : Nat) : Orc := List.replicate k (f, d, .bool false) ++ (if k < 53 then [(f, d, .bool true)] else [])
def findObs (s : List UInt8) (k : Nat) : List Ob := ((namesL.take k).map fun x => ⟨.eql, 9, .str x, .str s, .bool false⟩) ++ (((namesL.drop k).take 1).map fun x => ⟨.eql, 9, .str x, .str s, .bool true⟩)
def findOut (k : Nat) : V := if k < 53 then .tup [.int .i64 ((k + 1 : Nat) : Int), .bool true] else .tup [.int .i64 (0 : Nat), .bool false]

theorem at_range {α : Type} {f g : Nat → α} {a n : Nat} (h : (List.range' a n).map f = (List.range' a n).map g) (k : Nat) (h1 : a ≤ k) (h2 : k < a + n) : f k = g k :=
  List.map_inj_left.1 h k (by rw [List.mem_range'_1]; exact ⟨h1, h2⟩)

theorem name33 : (List.range' 1 53).map (fun k => toldRun Tryz.prog X1 80 33 [.int .i64 (.ofNat k)] []) = (List.range' 1 53).map (fun k => ((namesL[k - 1]?).map fun s => (V.str s, ([] : List Ob)))) := by kernel_rfl

theorem findP_0 (s : List UInt8) : (List.range' 0 25).map (fun k => toldRun Tryz.prog X1 80 25 [.str s] (findOrc 25 14 k)) = (List.range' 0 25).map (fun k => some (findOut k, findObs s k)) := by kernel_rfl
theorem findP_25 (s : List UInt8) : (List.range' 25 15).map (fun k => toldRun Tryz.prog X1 80 25 [.str s] (findOrc 25 14 k)) = (List.range' 25 15).map (fun k => some (findOut k, findObs s k)) := by kernel_rfl
theorem findP_40 (s : List UInt8) : (List.range' 40 14).map (fun k => toldRun Tryz.prog X1 80 25 [.str s] (findOrc 25 14 k)) = (List.range' 40 14).map (fun k => some (findOut k, findObs s k)) := by kernel_rfl

end Go.AM

/-
  The table: names and finding, known.
-/
set_option linter.unusedVariables false
namespace Go.AM
open Go.Proofs

theorem name_knows : Knows Tryz.prog X1 nameF := by
  intro args v h
  unfold nameF at h
  simp only at h
  split at h
  case h_2 => cases h
  rename_i k
  have hk : k < 53 := by
    rcases Nat.lt_or_ge k 53 with h' | h'
    · exact h'
    · rw [List.getElem?_eq_none (by exact h')] at h; cases h
  have := at_range name33 (k + 1) (by omega) (by omega)
  cases hs : namesL[k]? with
  | none => rw [hs] at h; cases h
  | some s =>
    rw [hs] at h
    cases h
    simp only [Nat.add_sub_cancel, hs, Option.map_some] at this
    exact ⟨rfl, rfl, 80, run_of_told this (by intro x hx; cases hx)⟩

def X3 : Ext := flatExt [tableF, nameF]
theorem X3_ok : ExtOk Tryz.prog X3 := flatExt_ok mixed (by
  intro x hx
  simp only [List.mem_cons, List.not_mem_nil, or_false] at hx
  rcases hx with rfl | rfl
  · exact ⟨flatExt [], noExt_ok, flatExt_mono _, table_knows⟩
  · exact ⟨X1, X1_ok, X1_mono, name_knows⟩)
theorem X3_mono : ExtMono X3 := flatExt_mono _

theorem findR_0 (s : List UInt8) : (List.range' 0 30).map (fun k => toldRun Tryz.prog X3 80 28 [.str s] (findOrc 28 12 k)) = (List.range' 0 30).map (fun k => some (findOut k, findObs s k)) := by kernel_rfl
theorem findR_30 (s : List UInt8) : (List.range' 30 24).map (fun k => toldRun Tryz.prog X3 80 28 [.str s] (findOrc 28 12 k)) = (List.range' 30 24).map (fun k => some (findOut k, findObs s k)) := by kernel_rfl

theorem okStr {x s : List UInt8} {b : Bool} (h : (x == s) = b) : Ob.ok Tryz.prog ⟨.eql, 9, .str x, .str s, .bool b⟩ := by
  show some (V.bool (x == s)) = _
  rw [h]

/-- Where a name stands first. -/
theorem find_at : ∀ (l : List (List UInt8)) (s : List UInt8) (i : Nat), ∃ k, k ≤ l.length ∧ (∀ x ∈ l.take k, (x == s) = false) ∧ (∀ x ∈ (l.drop k).take 1, (x == s) = true) ∧ findN l s i = (if k < l.length then i + k else 0) ∧ findB l s = decide (k < l.length)
  | [], s, i => ⟨0, Nat.le_refl _, by simp, by simp, rfl, rfl⟩
  | x :: l, s, i => by
    cases hx : (x == s) with
    | true => exact ⟨0, by simp, by simp, by simpa using hx, by simp [findN, hx], by simp [findB, hx]⟩
    | false =>
      obtain ⟨k, h1, h2, h3, h4, h5⟩ := find_at l s (i + 1)
      refine ⟨k + 1, by simp; exact h1, ?_, by simpa using h3, ?_, ?_⟩
      · intro y hy
        rw [List.take_succ_cons, List.mem_cons] at hy
        rcases hy with rfl | hy
        · exact hx
        · exact h2 y hy
      · simp only [findN, hx, h4, List.length_cons, Nat.add_lt_add_iff_right, Bool.false_eq_true, if_false]
        split
        · omega
        · rfl
      · simp [findB, hx, h5]

theorem find_knows (f : FuncId) (d : Tmp) (X : Ext) (h : ∀ s k, k < 54 → toldRun Tryz.prog X 80 f [.str s] (findOrc f d k) = some (findOut k, findObs s k)) : Knows Tryz.prog X (findF f) := by
  intro args v hv
  unfold findF at hv
  simp only at hv
  split at hv
  case h_2 => cases hv
  rename_i s
  cases hv
  obtain ⟨k, h1, h2, h3, h4, h5⟩ := find_at namesL s 1
  have hl : namesL.length = 53 := rfl
  rw [hl] at h1 h4 h5
  refine ⟨rfl, rfl, 80, ?_⟩
  have hr := h s k (by omega)
  have ho : findOut k = .tup [.int .i64 (findN namesL s 1 : Nat), .bool (findB namesL s)] := by
    unfold findOut
    rw [h4, h5]
    split
    · rename_i hk; simp [hk]; omega
    · rename_i hk; simp [hk]
  rw [ho] at hr
  refine run_of_told hr ?_
  intro x hx
  rcases List.mem_append.1 hx with hx | hx
  · obtain ⟨y, hy, rfl⟩ := List.mem_map.1 hx
    exact okStr (h2 y hy)
  · obtain ⟨y, hy, rfl⟩ := List.mem_map.1 hx
    exact okStr (h3 y hy)

theorem findP_knows : Knows Tryz.prog X1 (findF 25) := find_knows 25 14 X1 (fun s k hk => by
  rcases Nat.lt_or_ge k 25 with h | h
  · exact at_range (findP_0 s) k (by omega) (by omega)
  rcases Nat.lt_or_ge k 40 with h' | h'
  · exact at_range (findP_25 s) k (by omega) (by omega)
  · exact at_range (findP_40 s) k (by omega) (by omega))
theorem findR_knows : Knows Tryz.prog X3 (findF 28) := find_knows 28 12 X3 (fun s k hk => by
  rcases Nat.lt_or_ge k 30 with h | h
  · exact at_range (findR_0 s) k (by omega) (by omega)
  · exact at_range (findR_30 s) k (by omega) (by omega))

/-! ### Names and what an operation takes, of any number -/

def takesL : List Int := [1, 2, 0, 0, 0, 0, 0, 0, 3, 3, 0, 0, 0, 0, 0, 0, 0, 0, 0, 0, 0, 0, 0, 0, 0, 0, 0, 0, 0, 0, 0, 0, 0, 0, 0, 0, 0, 0, 0, 0, 0, 0, 0, 0, 0, 0, 0, 0, 0, 0, 4, 0, 5]
def nameA (n : Int) : List UInt8 := match n with | .ofNat (k + 1) => namesL.getD k [] | _ => []
def takesA (n : Int) : Int := match n with | .ofNat (k + 1) => takesL.getD k 0 | _ => 0

def nameN (f : FuncId) : FlatF := (f, fun args => match args with | [.int .i64 n] => some (.str (nameA n)) | _ => none)
def takesN (f : FuncId) : FlatF := (f, fun args => match args with | [.int .i64 n] => some (.int .i64 (takesA n)) | _ => none)

theorem n30 : (List.range' 1 53).map (fun k => toldRun Tryz.prog X1 80 30 [.int .i64 (.ofNat k)] []) = (List.range' 1 53).map (fun k => some (V.str (nameA (.ofNat k)), ([] : List Ob))) := by kernel_rfl
theorem n31 : (List.range' 1 53).map (fun k => toldRun Tryz.prog X1 80 31 [.int .i64 (.ofNat k)] []) = (List.range' 1 53).map (fun k => some (V.int .i64 (takesA (.ofNat k)), ([] : List Ob))) := by kernel_rfl
theorem n33 : (List.range' 1 53).map (fun k => toldRun Tryz.prog X1 80 33 [.int .i64 (.ofNat k)] []) = (List.range' 1 53).map (fun k => some (V.str (nameA (.ofNat k)), ([] : List Ob))) := by kernel_rfl
theorem n34 : (List.range' 1 53).map (fun k => toldRun Tryz.prog X1 80 34 [.int .i64 (.ofNat k)] []) = (List.range' 1 53).map (fun k => some (V.int .i64 (takesA (.ofNat k)), ([] : List Ob))) := by kernel_rfl
abbrev ob3 (op : BinOp) (a b : Int) (x : Bool) : Ob := ⟨op, 3, .int .i64 a, .int .i64 b, .bool x⟩
theorem n30_lo (n : Int) : toldRun Tryz.prog X1 80 30 [.int .i64 n] [(54, 4, .bool true)] = some (.str [], [ob3 .lss n 1 true]) := by kernel_rfl
theorem n30_hi (n : Int) : toldRun Tryz.prog X1 80 30 [.int .i64 n] [(54, 4, .bool false), (54, 7, .bool true)] = some (.str [], [ob3 .lss n 1 false, ob3 .gtr n 53 true]) := by kernel_rfl
theorem n31_lo (n : Int) : toldRun Tryz.prog X1 80 31 [.int .i64 n] [(54, 4, .bool true)] = some (.int .i64 0, [ob3 .lss n 1 true]) := by kernel_rfl
theorem n31_hi (n : Int) : toldRun Tryz.prog X1 80 31 [.int .i64 n] [(54, 4, .bool false), (54, 7, .bool true)] = some (.int .i64 0, [ob3 .lss n 1 false, ob3 .gtr n 53 true]) := by kernel_rfl
theorem n33_lo (n : Int) : toldRun Tryz.prog X1 80 33 [.int .i64 n] [(33, 6, .bool true)] = some (.str [], [ob3 .lss n 1 true]) := by kernel_rfl
theorem n33_hi (n : Int) : toldRun Tryz.prog X1 80 33 [.int .i64 n] [(33, 6, .bool false), (33, 9, .bool true)] = some (.str [], [ob3 .lss n 1 false, ob3 .gtr n 53 true]) := by kernel_rfl
theorem n34_lo (n : Int) : toldRun Tryz.prog X1 80 34 [.int .i64 n] [(33, 6, .bool true)] = some (.int .i64 0, [ob3 .lss n 1 true]) := by kernel_rfl
theorem n34_hi (n : Int) : toldRun Tryz.prog X1 80 34 [.int .i64 n] [(33, 6, .bool false), (33, 9, .bool true)] = some (.int .i64 0, [ob3 .lss n 1 false, ob3 .gtr n 53 true]) := by kernel_rfl

theorem o3lt (a b : Int) (x : Bool) (h : decide (a < b) = x) : Ob.ok Tryz.prog (ob3 .lss a b x) := by
  show some (V.bool (decide (a < b))) = _
  rw [h]
theorem o3gt (a b : Int) (x : Bool) (h : decide (a > b) = x) : Ob.ok Tryz.prog (ob3 .gtr a b x) := by
  show some (V.bool (decide (a > b))) = _
  rw [h]

theorem of_n {α : Type} {g : Int → α} {mk : α → V} {f : FuncId} (hr : (List.range' 1 53).map (fun k => toldRun Tryz.prog X1 80 f [.int .i64 (.ofNat k)] []) = (List.range' 1 53).map (fun k => some (mk (g (.ofNat k)), ([] : List Ob))))
    {z : α} {O1 O2 : Orc} (lo : ∀ n : Int, toldRun Tryz.prog X1 80 f [.int .i64 n] O1 = some (mk z, [ob3 .lss n 1 true])) (hi : ∀ n : Int, toldRun Tryz.prog X1 80 f [.int .i64 n] O2 = some (mk z, [ob3 .lss n 1 false, ob3 .gtr n 53 true]))
    (hz : ∀ n : Int, n < 1 ∨ n > 53 → g n = z) (n : Int) : ∃ h', callN Tryz.prog X1 80 f [.int .i64 n] h0 = some (mk (g n), h') := by
  by_cases h1 : n < 1
  · rw [hz n (.inl h1)]
    exact run_of_told (lo n) (by intro x hx; simp at hx; subst hx; exact o3lt _ _ _ (by simp; omega))
  · by_cases h2 : n > 53
    · rw [hz n (.inr h2)]
      exact run_of_told (hi n) (by
        intro x hx
        simp at hx
        rcases hx with rfl | rfl
        · exact o3lt _ _ _ (by simp; omega)
        · exact o3gt _ _ _ (by simp; omega))
    · obtain ⟨k, rfl⟩ : ∃ k : Nat, n = k := ⟨n.toNat, by omega⟩
      exact run_of_told (at_range hr k (by omega) (by omega)) (by intro x hx; cases hx)

theorem nameA_out (n : Int) (h : n < 1 ∨ n > 53) : nameA n = [] := by
  unfold nameA
  split
  · rename_i k
    have : 53 ≤ k := by
      have e : Int.ofNat (k + 1) = ((k + 1 : Nat) : Int) := rfl
      rw [e] at h
      omega
    rw [List.getD_eq_getElem?_getD, List.getElem?_eq_none (by exact this)]; rfl
  · rfl
theorem takesA_out (n : Int) (h : n < 1 ∨ n > 53) : takesA n = 0 := by
  unfold takesA
  split
  · rename_i k
    have : 53 ≤ k := by
      have e : Int.ofNat (k + 1) = ((k + 1 : Nat) : Int) := rfl
      rw [e] at h
      omega
    rw [List.getD_eq_getElem?_getD, List.getElem?_eq_none (by exact this)]; rfl
  · rfl

theorem flat_n {f : FuncId} {g : Int → V} (hf : ∀ n, flat (g n) = true) (h : ∀ n, ∃ h', callN Tryz.prog X1 80 f [.int .i64 n] h0 = some (g n, h')) : Knows Tryz.prog X1 (f, fun args => match args with | [.int .i64 n] => some (g n) | _ => none) := by
  intro args v hv
  simp only at hv
  split at hv
  case h_2 => cases hv
  rename_i n
  cases hv
  obtain ⟨h', hr⟩ := h n
  exact ⟨rfl, hf n, 80, h', hr⟩
theorem k30 : Knows Tryz.prog X1 (nameN 30) := flat_n (fun _ => rfl) (of_n (mk := .str) n30 n30_lo n30_hi nameA_out)
theorem k33 : Knows Tryz.prog X1 (nameN 33) := flat_n (fun _ => rfl) (of_n (mk := .str) n33 n33_lo n33_hi nameA_out)
theorem k31 : Knows Tryz.prog X1 (takesN 31) := flat_n (fun _ => rfl) (of_n (mk := .int .i64) n31 n31_lo n31_hi takesA_out)
theorem k34 : Knows Tryz.prog X1 (takesN 34) := flat_n (fun _ => rfl) (of_n (mk := .int .i64) n34 n34_lo n34_hi takesA_out)

/-- The table's functions by heart. -/
def tabL : List FlatF := [tableF, nameN 30, nameN 33, takesN 31, takesN 34, findF 25, findF 28]
def XT : Ext := flatExt tabL
theorem XT_ok : ExtOk Tryz.prog XT := flatExt_ok mixed (by
  intro x hx
  simp only [tabL, List.mem_cons, List.not_mem_nil, or_false] at hx
  rcases hx with rfl | rfl | rfl | rfl | rfl | rfl | rfl
  · exact ⟨flatExt [], noExt_ok, flatExt_mono _, table_knows⟩
  · exact ⟨X1, X1_ok, X1_mono, k30⟩
  · exact ⟨X1, X1_ok, X1_mono, k33⟩
  · exact ⟨X1, X1_ok, X1_mono, k31⟩
  · exact ⟨X1, X1_ok, X1_mono, k34⟩
  · exact ⟨X1, X1_ok, X1_mono, findP_knows⟩
  · exact ⟨X3, X3_ok, X3_mono, findR_knows⟩)
theorem XT_mono : ExtMono XT := flatExt_mono _

/-- The library's. -/
def libL : List (FuncId × GFun) := [(32, itoaG), (97, indexG), (83, countG), (26, atoiG), (57, joinG), (69, checkG), (47, stringG)]
theorem lib_all : ∀ x ∈ libL, EntryOk Tryz.prog x.1 x.2 := by
  intro x hx
  simp only [libL, List.mem_cons, List.not_mem_nil, or_false] at hx
  rcases hx with rfl | rfl | rfl | rfl | rfl | rfl | rfl
  · exact itoa_entry
  · exact index_entry
  · exact count_entry
  · exact atoi_entry
  · exact join_entry
  · exact check_entry
  · exact string_entry
def XL : Ext := orExt XT (libExt libL)
theorem XL_ok : ExtOk Tryz.prog XL := orExt_ok XT_ok (libExt_ok lib_all)
theorem XL_mono : ExtMono XL := orExt_mono XT_mono (libExt_mono lib_all)

end Go.AM
