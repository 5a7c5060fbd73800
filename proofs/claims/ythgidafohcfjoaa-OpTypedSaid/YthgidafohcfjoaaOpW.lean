/-
  Any operation of values that fit: from the runs to their outcome.
-/
import Derived.Test.YthgidafohcfjoaaOpV1
import Derived.Test.YthgidafohcfjoaaOpV2
import Derived.Test.YthgidafohcfjoaaOpBn
set_option linter.unusedVariables false
set_option linter.unusedSimpArgs false
namespace Go.AM
open Go.Proofs

theorem obs2_app {X : Ext} {l m : List Ob2} (hl : Obs2 Try.prog X l) (hm : Obs2 Try.prog X m) : Obs2 Try.prog X (l ++ m) := fun x hx => by
  rcases List.mem_append.1 hx with h | h
  · exact hl x h
  · exact hm x h
theorem okGt' (a b : Int) (x : Bool) (h : decide (a > b) = x) : Ob.ok Try.prog ⟨.gtr, 3, .int .i64 a, .int .i64 b, .bool x⟩ := by
  show some (V.bool (decide (a > b))) = _
  rw [h]
theorem obG {X : Ext} {a b : Int} {x : Bool} (h : decide (a > b) = x) : (ob .gtr a b x).ok Try.prog X := okGt' a b x h
theorem obL {X : Ext} {a b : Int} {x : Bool} (h : decide (a ≤ b) = x) : (ob .leq a b x).ok Try.prog X := okLe a b x h
theorem obLt {X : Ext} {a b : Int} {x : Bool} (h : decide (a < b) = x) : (ob .lss a b x).ok Try.prog X := okLt a b x h
theorem obSl {X : Ext} {a b : List UInt8} {x : Bool} (h : Op.bytesLess a b = x) : (Ob2.bin .lss 9 (.str a) (.str b) (.bool x)).ok Try.prog X := by
  show some (V.bool (Op.bytesLess a b)) = _
  rw [h]
theorem obSe {X : Ext} {a b : List UInt8} {x : Bool} (h : (a == b) = x) : (Ob2.bin .eql 9 (.str a) (.str b) (.bool x)).ok Try.prog X := by
  show some (V.bool (a == b)) = _
  rw [h]
theorem obCut {X : Ext} (l : List UInt8) (x y : Nat) (r : List UInt8) (hxy : x ≤ y) (hy : y ≤ l.length) (hr : (l.take y).drop x = r) : (Ob2.slc 9 (.str l) (some (i64 x)) (some (i64 y)) none (.str r)).ok Try.prog X := by
  intro h
  have hu : Try.prog.underlying 9 = some .string := Try.underlying9
  unfold sliceV
  rw [hu]
  simp only [bounds, bound]
  have e1 : (0 : Int) ≤ (y : Int) ∧ (y : Int) ≤ (l.length : Int) := by omega
  have e2 : (0 : Int) ≤ (x : Int) ∧ (x : Int) ≤ (y : Int) := by omega
  rw [if_pos e1]
  simp only [Int.toNat_natCast]
  rw [if_pos e2]
  simp only [hr]

theorem vaOf_dR (x : Va) : vaOf (dR x) = some [x] := by
  show (match triples (rowOf [x]) with | some l => if (0 : Int) = 0 ∧ (1 : Int) = ((l.length : Nat) : Int) then some l else none | none => none) = _
  rw [triples_row]; simp
theorem row_load : ∀ (l : List Va), loadRow (rowOf l) 0 (l.length * 3) = some (rowOf l) := by
  intro l
  have h : (rowOf l).length = l.length * 3 := by
    induction l with
    | nil => rfl
    | cons x l ih => simp only [rowOf, List.length_cons, ih]; omega
  unfold loadRow
  rw [← h]
  simp

theorem okOwn (l : List Va) (k : Nat) (h : l ≠ []) (hs : l.length * 32 ≤ 140737488351232) : (ownO l k).ok Try.prog X7 := by
  have hu : Try.prog.underlying 22 = some (.slice 36) := Try.underlying22
  have hi : ∃ i, Try.prog.info? 36 = some i ∧ i.size = 3 ∧ i.bytes = 32 ∧ zok i = true := ⟨_, rfl, by kernel_rfl, by kernel_rfl, by kernel_rfl⟩
  obtain ⟨i, h1, h2, h3, h4⟩ := hi
  have hp : 0 < l.length := List.length_pos_iff.2 h
  show appendV Try.prog 22 22 ((hA l).alloc (.cells false 36 [])) (.slice 1 0 0 (some 0)) (sA l k) = _
  unfold appendV
  have hr : ((hA l).alloc (.cells false 36 [])).row 0 = some (rowOf l) := rfl
  have hg : ((hA l).alloc (.cells false 36 [])).get 1 = some (.cells false 36 []) := rfl
  have hc : cellsOfV 3 ((hA l).alloc (.cells false 36 [])) (sA l k) = some (l.length, rowOf l) := by
    simp only [cellsOfV, hr, row_load, Option.map_some]
  simp only [hu, h1, h2, h3, h4, hc, hg]
  rw [if_neg (by simp [srcOk]), if_pos ⟨by unfold room; omega, by unfold room; omega⟩, if_neg (by omega)]
  simp [loadRow]

theorem fit_out {n : Nat} {l : List Va} {k : Nat} {O : Orc2} {m1 m2 : List Ob2} {x1 x2 : Va} (hl : l ≠ []) (hs : l.length * 32 ≤ 140737488351232) (hf : fitsB l (inTs n) = true) (hd : inOf (dT n) = some (inTs n)) (h3 : (inTs n).length ≤ 3)
    (h : tellFrom Try.prog X7 80 3 [i64 n, sA l k] (hA l) O = some (V.bool true, [ownO l k, .rd 21 [dX l, dT n] (.bool true)] ++ m1 ++ [.rd 40 [dA l k, dT n] (.bool true)] ++ m2 ++ [.rd 13 [dR x1, dR x2] rS, .rd 13 [dX l, dA l k] rS]))
    (h1 : Obs2 Try.prog X7 m1) (h2 : Obs2 Try.prog X7 m2) (hx : x1 = x2) : ∃ h', callN Try.prog X7 80 3 [i64 n, sA l k] (hA l) = some (.bool true, h') := by
  subst hx
  refine run_of_from h (obs2_app (obs2_app (obs2_app (obs2_app ?_ h1) ?_) h2) ?_)
  · exact obs2_cons (okOwn l k hl hs) (obs2_cons (okFits21 (vaOf_dV _ _ _) hd h3 hf) obs2_nil)
  · exact obs2_cons (okFits40 (vaOf_dV _ _ _) hd h3 hf) obs2_nil
  · exact obs2_cons (okSame (vaOf_dR x1) (vaOf_dR x1) (by simp)) (obs2_cons (okSame (vaOf_dV _ _ _) (vaOf_dV _ _ _) (by omega)) obs2_nil)
theorem fit_err {n : Nat} {l : List Va} {k : Nat} {O : Orc2} {m1 m2 : List Ob2} (hl : l ≠ []) (hs : l.length * 32 ≤ 140737488351232) (hf : fitsB l (inTs n) = true) (hd : inOf (dT n) = some (inTs n)) (h3 : (inTs n).length ≤ 3)
    (h : tellFrom Try.prog X7 80 3 [i64 n, sA l k] (hA l) O = some (V.bool true, [ownO l k, .rd 21 [dX l, dT n] (.bool true)] ++ m1 ++ [.rd 40 [dA l k, dT n] (.bool true)] ++ m2 ++ [.rd 13 [.nilslice, .nilslice] rS, .rd 13 [dX l, dA l k] rS]))
    (h1 : Obs2 Try.prog X7 m1) (h2 : Obs2 Try.prog X7 m2) : ∃ h', callN Try.prog X7 80 3 [i64 n, sA l k] (hA l) = some (.bool true, h') := by
  refine run_of_from h (obs2_app (obs2_app (obs2_app (obs2_app ?_ h1) ?_) h2) ?_)
  · exact obs2_cons (okOwn l k hl hs) (obs2_cons (okFits21 (vaOf_dV _ _ _) hd h3 hf) obs2_nil)
  · exact obs2_cons (okFits40 (vaOf_dV _ _ _) hd h3 hf) obs2_nil
  · exact obs2_cons (okSame rfl rfl (by simp)) (obs2_cons (okSame (vaOf_dV _ _ _) (vaOf_dV _ _ _) (by omega)) obs2_nil)

theorem right_1 {x : Va} (h : x.right = true) (ht : (x.t == 1) = true) : x = va1 x.n := by
  obtain ⟨t, n, s⟩ := x
  simp only [beq_iff_eq] at ht
  subst ht
  simp [Va.right, rightB] at h
  simp [h]
theorem right_2 {x : Va} (h : x.right = true) (ht : (x.t == 2) = true) : x = va2 x.s ∧ x.s.length ≤ 256 := by
  obtain ⟨t, n, s⟩ := x
  simp only [beq_iff_eq] at ht
  subst ht
  simp [Va.right, rightB] at h
  refine ⟨by simp [h], ?_⟩
  have := h.2
  show s.length ≤ 256
  omega
theorem right_3 {x : Va} (h : x.right = true) (ht : (x.t == 3) = true) : x = va3 0 ∨ x = va3 1 := by
  obtain ⟨t, n, s⟩ := x
  simp only [beq_iff_eq] at ht
  subst ht
  simp [Va.right, rightB] at h
  rcases h with ⟨h | h, h'⟩ <;> simp [h, h']

theorem fits_nil {l : List Va} (h : fitsB l [] = true) : l = [] := by
  cases l with
  | nil => rfl
  | cons x l => simp [fitsB] at h
theorem fits_cons {l : List Va} {t : Int} {ts : List Int} (h : fitsB l (t :: ts) = true) : ∃ x m, l = x :: m ∧ x.right = true ∧ (x.t == t) = true ∧ fitsB m ts = true := by
  cases l with
  | nil => simp [fitsB] at h
  | cons x m =>
    simp only [fitsB, Bool.and_eq_true] at h
    exact ⟨x, m, rfl, h.1.1, h.1.2, h.2⟩
theorem fits1 {l : List Va} (h : fitsB l [1] = true) : ∃ a, l = [va1 a] := by
  obtain ⟨x, m, rfl, r, t, h⟩ := fits_cons h
  rw [fits_nil h, right_1 r t]; exact ⟨_, rfl⟩
theorem fits11 {l : List Va} (h : fitsB l [1, 1] = true) : ∃ a b, l = [va1 a, va1 b] := by
  obtain ⟨x, m, rfl, r, t, h⟩ := fits_cons h
  obtain ⟨b, rfl⟩ := fits1 h
  rw [right_1 r t]; exact ⟨_, _, rfl⟩
theorem fits2 {l : List Va} (h : fitsB l [2] = true) : ∃ a, l = [va2 a] ∧ a.length ≤ 256 := by
  obtain ⟨x, m, rfl, r, t, h⟩ := fits_cons h
  rw [fits_nil h, (right_2 r t).1]; exact ⟨_, rfl, (right_2 r t).2⟩
theorem fits22 {l : List Va} (h : fitsB l [2, 2] = true) : ∃ a b, l = [va2 a, va2 b] ∧ a.length ≤ 256 ∧ b.length ≤ 256 := by
  obtain ⟨x, m, rfl, r, t, h⟩ := fits_cons h
  obtain ⟨b, rfl, hb⟩ := fits2 h
  rw [(right_2 r t).1]; exact ⟨_, _, rfl, (right_2 r t).2, hb⟩
theorem fits21' {l : List Va} (h : fitsB l [2, 1] = true) : ∃ a i, l = [va2 a, va1 i] ∧ a.length ≤ 256 := by
  obtain ⟨x, m, rfl, r, t, h⟩ := fits_cons h
  obtain ⟨b, rfl⟩ := fits1 h
  rw [(right_2 r t).1]; exact ⟨_, _, rfl, (right_2 r t).2⟩
theorem fits211 {l : List Va} (h : fitsB l [2, 1, 1] = true) : ∃ a i j, l = [va2 a, va1 i, va1 j] ∧ a.length ≤ 256 := by
  obtain ⟨x, m, rfl, r, t, h⟩ := fits_cons h
  obtain ⟨a, b, rfl⟩ := fits11 h
  rw [(right_2 r t).1]; exact ⟨_, _, _, rfl, (right_2 r t).2⟩
theorem fits3 {l : List Va} (h : fitsB l [3] = true) : l = [va3 0] ∨ l = [va3 1] := by
  obtain ⟨x, m, rfl, r, t, h⟩ := fits_cons h
  rw [fits_nil h]
  rcases right_3 r t with h | h <;> rw [h] <;> simp
theorem fits33 {l : List Va} (h : fitsB l [3, 3] = true) : l = [va3 0, va3 0] ∨ l = [va3 0, va3 1] ∨ l = [va3 1, va3 0] ∨ l = [va3 1, va3 1] := by
  obtain ⟨x, m, rfl, r, t, h⟩ := fits_cons h
  rcases right_3 r t with h1 | h1 <;> rcases fits3 h with h2 | h2 <;> rw [h1, h2] <;> simp

/-! ### Arithmetic -/

theorem wu_eq (x : Int) : wu x = x % 18446744073709551616 := by
  unfold wu; rw [wr_eq]; simp [IntKind.wrap, IntKind.bits, IntKind.signed]
theorem bv_eq {x y : Int} (h : x % 18446744073709551616 = y % 18446744073709551616) : BitVec.ofInt 64 x = BitVec.ofInt 64 y := by
  apply BitVec.eq_of_toNat_eq
  have := ofInt_nat x
  have := ofInt_nat y
  omega
theorem sub_same (a b : Int) : w64 (a + w64 (0 - b)) = w64 (a - b) := by
  simp only [w64_eq]; omega
theorem tdiv_neg (a : Int) : a.tdiv (-1) = 0 - a := by
  rw [Int.tdiv_neg, Int.tdiv_one]; omega
theorem tmod_in (a b : Int) (ha : In64 a) : In64 (a.tmod b) := by
  have h1 : (a.tmod b).natAbs ≤ a.natAbs := by rw [Int.natAbs_tmod]; exact Nat.mod_le _ _
  unfold In64 at *
  rcases Int.le_total 0 a with h | h
  · have := Int.tmod_nonneg b h
    omega
  · have h2 := Int.tmod_nonneg b (show 0 ≤ -a by omega)
    rw [Int.neg_tmod] at h2
    omega
theorem rem_same (a b : Int) (ha : In64 a) : a.tmod b = w64 (a - w64 (w64 (a.tdiv b) * b)) := by
  obtain ⟨k1, h1, _⟩ := w64_is (a.tdiv b)
  obtain ⟨k2, h2, _⟩ := w64_is (w64 (a.tdiv b) * b)
  refine (w64_same (-(k1 * b) - k2) ?_ (tmod_in a b ha)).symm
  rw [h2, h1]
  have := Int.mul_tdiv_add_tmod a b
  have e1 : (a.tdiv b + 18446744073709551616 * k1) * b = b * a.tdiv b + 18446744073709551616 * (k1 * b) := by
    rw [Int.add_mul, Int.mul_comm (a.tdiv b) b, Int.mul_assoc]
  rw [e1]
  omega
theorem wu63 (b : Int) : wu (andW b 63) = b % 64 := by rw [wu_eq, and63]; omega
def shlU (a y : Int) : Int := wr .u64 (wu a * ((2 ^ (min y.toNat 64) : Nat) : Int))
theorem okShlU {X : Ext} {a y y' : Int} (h : 0 ≤ y) (e : y = y') : (Ob2.bin .shl 75 (u64 (wu a)) (u64 y) (u64 (shlU a y'))).ok Try.prog X := by
  subst e
  show shiftOp .shl .u64 (wu a) y = _
  simp only [shiftOp, if_neg (Int.not_lt.2 h)]
  rfl
theorem okShrU {X : Ext} {a y y' : Int} (h : 0 ≤ y) (e : y = y') : (Ob2.bin .shr 3 (i64 a) (u64 y) (i64 (shrW a y'))).ok Try.prog X := by
  subst e
  show shiftOp .shr .i64 a y = _
  simp only [shiftOp, if_neg (Int.not_lt.2 h)]
  rfl
theorem shl_same (a b : Int) : shlW a (andW b 63) = w64 (shlU a (wu (andW b 63))) := by
  unfold shlW shlU
  rw [wu63, and63]
  generalize ((2 ^ (min (b % 64).toNat 64) : Nat) : Int) = p
  have e : wr .u64 (wu a * p) = wu (wu a * p) := rfl
  rw [e, wu_eq (wu a * p), wu_eq a]
  have h1 : a % 18446744073709551616 * p = a * p + 18446744073709551616 * (-(a / 18446744073709551616) * p) := by
    have := Int.emod_add_mul_ediv a 18446744073709551616
    have h2 : a % 18446744073709551616 = a + 18446744073709551616 * (-(a / 18446744073709551616)) := by omega
    rw [h2, Int.add_mul, Int.mul_assoc]
  rw [h1]
  generalize a * p = u
  generalize -(a / 18446744073709551616) * p = v
  simp only [w64_eq]; omega
theorem obGe {X : Ext} {a b : Int} {x : Bool} (h : decide (a ≥ b) = x) : (ob .geq a b x).ok Try.prog X := by
  show some (V.bool (decide (a ≥ b))) = _
  rw [h]
theorem okIdx {X : Ext} {a : List UInt8} {x : Nat} {c : UInt8} (h : a[x]? = some c) : (Ob2.idx 9 (.str a) (i64 x) (.int .u8 c.toNat)).ok Try.prog X := by
  have hu : Try.prog.underlying 9 = some .string := Try.underlying9
  show indexV Try.prog 9 (.str a) (i64 x) = _
  unfold indexV
  simp [hu, h]
theorem w64_zero : w64 0 = 0 := by decide
theorem w64_upU (A : Int) (c : UInt8) : w64 (upU A c) = up (w64 A) c := by
  unfold upU up orW
  have e1 : BitVec.ofInt 64 (wu (A * ((2 ^ 8 : Nat) : Int))) = BitVec.ofInt 64 (w64 (w64 A * ((2 ^ 8 : Nat) : Int))) := bv_eq (by
    rw [wu_eq]; simp only [w64_eq, show ((2 ^ 8 : Nat) : Int) = 256 from rfl]; omega)
  have e2 : BitVec.ofInt 64 (wu (c.toNat : Int)) = BitVec.ofInt 64 (w64 (c.toNat : Int)) := bv_eq (by
    rw [wu_eq]; simp only [w64_eq]; omega)
  rw [e1, e2, wu_eq]
  simp only [w64_eq]; omega

end Go.AM
