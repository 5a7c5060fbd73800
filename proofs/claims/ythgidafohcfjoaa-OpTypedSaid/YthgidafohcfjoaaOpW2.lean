/-
  Any operation of values that fit: each answers as the document says.
-/
import Derived.Test.YthgidafohcfjoaaOpW
set_option linter.unusedVariables false
set_option linter.unusedSimpArgs false
set_option maxRecDepth 4000
namespace Go.AM
open Go.Proofs

abbrev Fit (n : Nat) (l : List Va) (k : Nat) : Prop := ∃ h', callN Try.prog X7 80 3 [i64 n, sA l k] (hA l) = some (.bool true, h')
abbrev Small (l : List Va) : Prop := l.length * 32 ≤ 140737488351232

theorem fit_11 (l : List Va) (k : Nat) (hs : Small l) (hf : fitsB l (inTs 11) = true) (hin : ∀ y ∈ l, In64 y.n) : Fit 11 l k := by
  obtain ⟨a, b, rfl⟩ := fits11 hf
  exact fit_out (n := 11) (by simp) hs hf rfl (by decide) (ay_add a b k) obs2_nil obs2_nil rfl

theorem fit_12 (l : List Va) (k : Nat) (hs : Small l) (hf : fitsB l (inTs 12) = true) (hin : ∀ y ∈ l, In64 y.n) : Fit 12 l k := by
  obtain ⟨a, b, rfl⟩ := fits11 hf
  exact fit_out (n := 12) (by simp) hs hf rfl (by decide) (ay_sub a b k) obs2_nil obs2_nil (by rw [sub_same])

theorem fit_13 (l : List Va) (k : Nat) (hs : Small l) (hf : fitsB l (inTs 13) = true) (hin : ∀ y ∈ l, In64 y.n) : Fit 13 l k := by
  obtain ⟨a, b, rfl⟩ := fits11 hf
  exact fit_out (n := 13) (by simp) hs hf rfl (by decide) (ay_mul a b k) obs2_nil obs2_nil rfl

theorem fit_14 (l : List Va) (k : Nat) (hs : Small l) (hf : fitsB l (inTs 14) = true) (hin : ∀ y ∈ l, In64 y.n) : Fit 14 l k := by
  obtain ⟨a, b, rfl⟩ := fits11 hf
  by_cases hb : b = 0
  · subst hb
    exact fit_err (n := 14) (by simp) hs hf rfl (by decide) (ay_div0 a 0 k) (obs2_cons (oI (by simp)) obs2_nil) (obs2_cons (oI (by simp)) obs2_nil)
  have wa : In64 a := hin (va1 a) (by simp)
  by_cases hn : b = -1
  · exact fit_out (n := 14) (by simp) hs hf rfl (by decide) (ay_divn a b (w64 (a.tdiv b)) (a.tmod b) k) (obs2_cons (oI (by simp [hb])) (obs2_cons (okQuo hb) obs2_nil)) (obs2_cons (oI (by simp [hb])) (obs2_cons (oI (by simp [hn])) obs2_nil)) (by rw [hn, tdiv_neg])
  · exact fit_out (n := 14) (by simp) hs hf rfl (by decide) (ay_divp a b (w64 (a.tdiv b)) (a.tmod b) k) (obs2_cons (oI (by simp [hb])) (obs2_cons (okQuo hb) obs2_nil)) (obs2_cons (oI (by simp [hb])) (obs2_cons (oI (by simp [hn])) (obs2_cons (okQuo hb) obs2_nil))) rfl

theorem fit_15 (l : List Va) (k : Nat) (hs : Small l) (hf : fitsB l (inTs 15) = true) (hin : ∀ y ∈ l, In64 y.n) : Fit 15 l k := by
  obtain ⟨a, b, rfl⟩ := fits11 hf
  by_cases hb : b = 0
  · subst hb
    exact fit_err (n := 15) (by simp) hs hf rfl (by decide) (ay_rem0 a 0 k) (obs2_cons (oI (by simp)) obs2_nil) (obs2_cons (oI (by simp)) obs2_nil)
  have wa : In64 a := hin (va1 a) (by simp)
  by_cases hn : b = -1
  · exact fit_out (n := 15) (by simp) hs hf rfl (by decide) (ay_remn a b (w64 (a.tdiv b)) (a.tmod b) k) (obs2_cons (oI (by simp [hb])) (obs2_cons (okQuo hb) (obs2_cons (okRem hb) obs2_nil))) (obs2_cons (oI (by simp [hb])) (obs2_cons (oI (by simp [hn])) obs2_nil)) (by rw [rem_same a b wa, hn, tdiv_neg])
  · exact fit_out (n := 15) (by simp) hs hf rfl (by decide) (ay_remp a b (w64 (a.tdiv b)) (a.tmod b) k) (obs2_cons (oI (by simp [hb])) (obs2_cons (okQuo hb) (obs2_cons (okRem hb) obs2_nil))) (obs2_cons (oI (by simp [hb])) (obs2_cons (oI (by simp [hn])) (obs2_cons (okQuo hb) obs2_nil))) (by rw [rem_same a b wa])

theorem fit_16 (l : List Va) (k : Nat) (hs : Small l) (hf : fitsB l (inTs 16) = true) (hin : ∀ y ∈ l, In64 y.n) : Fit 16 l k := by
  obtain ⟨a, rfl⟩ := fits1 hf
  exact fit_out (n := 16) (by simp) hs hf rfl (by decide) (ay_neg a k) obs2_nil obs2_nil rfl

theorem fit_17 (l : List Va) (k : Nat) (hs : Small l) (hf : fitsB l (inTs 17) = true) (hin : ∀ y ∈ l, In64 y.n) : Fit 17 l k := by
  obtain ⟨a, b, rfl⟩ := fits11 hf
  exact fit_out (n := 17) (by simp) hs hf rfl (by decide) (ay_and a b k) obs2_nil obs2_nil rfl

theorem fit_18 (l : List Va) (k : Nat) (hs : Small l) (hf : fitsB l (inTs 18) = true) (hin : ∀ y ∈ l, In64 y.n) : Fit 18 l k := by
  obtain ⟨a, b, rfl⟩ := fits11 hf
  exact fit_out (n := 18) (by simp) hs hf rfl (by decide) (ay_or a b k) obs2_nil obs2_nil rfl

theorem fit_19 (l : List Va) (k : Nat) (hs : Small l) (hf : fitsB l (inTs 19) = true) (hin : ∀ y ∈ l, In64 y.n) : Fit 19 l k := by
  obtain ⟨a, b, rfl⟩ := fits11 hf
  exact fit_out (n := 19) (by simp) hs hf rfl (by decide) (ay_xor a b k) obs2_nil obs2_nil rfl

theorem fit_20 (l : List Va) (k : Nat) (hs : Small l) (hf : fitsB l (inTs 20) = true) (hin : ∀ y ∈ l, In64 y.n) : Fit 20 l k := by
  obtain ⟨a, rfl⟩ := fits1 hf
  exact fit_out (n := 20) (by simp) hs hf rfl (by decide) (ay_inv a k) obs2_nil obs2_nil rfl

theorem fit_21 (l : List Va) (k : Nat) (hs : Small l) (hf : fitsB l (inTs 21) = true) (hin : ∀ y ∈ l, In64 y.n) : Fit 21 l k := by
  obtain ⟨a, b, rfl⟩ := fits11 hf
  exact fit_out (n := 21) (by simp) hs hf rfl (by decide) (ay_shl a b _ _ k) (obs2_cons (okShl (by rw [and63]; omega) rfl) obs2_nil) (obs2_cons (okShlU (by rw [wu63]; omega) rfl) obs2_nil) (by rw [shl_same])

theorem fit_22 (l : List Va) (k : Nat) (hs : Small l) (hf : fitsB l (inTs 22) = true) (hin : ∀ y ∈ l, In64 y.n) : Fit 22 l k := by
  obtain ⟨a, b, rfl⟩ := fits11 hf
  exact fit_out (n := 22) (by simp) hs hf rfl (by decide) (ay_shr a b _ _ k) (obs2_cons (okShr (by rw [and63]; omega) rfl) obs2_nil) (obs2_cons (okShrU (by rw [wu63]; omega) rfl) obs2_nil) (by rw [wu63, and63])

theorem fit_23 (l : List Va) (k : Nat) (hs : Small l) (hf : fitsB l (inTs 23) = true) (hin : ∀ y ∈ l, In64 y.n) : Fit 23 l k := by
  obtain ⟨a, b, rfl⟩ := fits11 hf
  cases hx : (a == b) with
  | true => exact fit_out (n := 23) (by simp) hs hf rfl (by decide) (ay_eq1 a b k) (obs2_cons (oI hx) obs2_nil) (obs2_cons (oI hx) obs2_nil) rfl
  | false => exact fit_out (n := 23) (by simp) hs hf rfl (by decide) (ay_eq0 a b k) (obs2_cons (oI hx) obs2_nil) (obs2_cons (oI hx) obs2_nil) rfl

theorem fit_24 (l : List Va) (k : Nat) (hs : Small l) (hf : fitsB l (inTs 24) = true) (hin : ∀ y ∈ l, In64 y.n) : Fit 24 l k := by
  obtain ⟨a, b, rfl⟩ := fits11 hf
  cases hx : (a == b) with
  | true => exact fit_out (n := 24) (by simp) hs hf rfl (by decide) (ay_ne1 a b k) (obs2_cons (oI hx) obs2_nil) (obs2_cons (oIn (by simp at hx ⊢; exact hx)) obs2_nil) rfl
  | false => exact fit_out (n := 24) (by simp) hs hf rfl (by decide) (ay_ne0 a b k) (obs2_cons (oI hx) obs2_nil) (obs2_cons (oIn (by simp at hx ⊢; exact hx)) obs2_nil) rfl

theorem fit_25 (l : List Va) (k : Nat) (hs : Small l) (hf : fitsB l (inTs 25) = true) (hin : ∀ y ∈ l, In64 y.n) : Fit 25 l k := by
  obtain ⟨a, b, rfl⟩ := fits11 hf
  cases hx : (decide (a < b)) with
  | true => exact fit_out (n := 25) (by simp) hs hf rfl (by decide) (ay_lt1 a b k) (obs2_cons (obLt hx) obs2_nil) (obs2_cons (obLt hx) obs2_nil) rfl
  | false => exact fit_out (n := 25) (by simp) hs hf rfl (by decide) (ay_lt0 a b k) (obs2_cons (obLt hx) obs2_nil) (obs2_cons (obLt hx) obs2_nil) rfl

theorem fit_26 (l : List Va) (k : Nat) (hs : Small l) (hf : fitsB l (inTs 26) = true) (hin : ∀ y ∈ l, In64 y.n) : Fit 26 l k := by
  obtain ⟨a, b, rfl⟩ := fits11 hf
  cases hx : (decide (a ≤ b)) with
  | true => exact fit_out (n := 26) (by simp) hs hf rfl (by decide) (ay_le1 a b k) (obs2_cons (obL hx) obs2_nil) (obs2_cons (obL hx) obs2_nil) rfl
  | false => exact fit_out (n := 26) (by simp) hs hf rfl (by decide) (ay_le0 a b k) (obs2_cons (obL hx) obs2_nil) (obs2_cons (obL hx) obs2_nil) rfl

theorem fit_27 (l : List Va) (k : Nat) (hs : Small l) (hf : fitsB l (inTs 27) = true) (hin : ∀ y ∈ l, In64 y.n) : Fit 27 l k := by
  obtain ⟨a, b, rfl⟩ := fits11 hf
  cases hx : (decide (a ≤ b)) with
  | true => exact fit_out (n := 27) (by simp) hs hf rfl (by decide) (ay_gt1 a b k) (obs2_cons (obL hx) obs2_nil) (obs2_cons (obG (by simp at hx ⊢; omega)) obs2_nil) rfl
  | false => exact fit_out (n := 27) (by simp) hs hf rfl (by decide) (ay_gt0 a b k) (obs2_cons (obL hx) obs2_nil) (obs2_cons (obG (by simp at hx ⊢; omega)) obs2_nil) rfl

theorem fit_28 (l : List Va) (k : Nat) (hs : Small l) (hf : fitsB l (inTs 28) = true) (hin : ∀ y ∈ l, In64 y.n) : Fit 28 l k := by
  obtain ⟨a, b, rfl⟩ := fits11 hf
  cases hx : (decide (a < b)) with
  | true => exact fit_out (n := 28) (by simp) hs hf rfl (by decide) (ay_ge1 a b k) (obs2_cons (obLt hx) obs2_nil) (obs2_cons (obGe (by simp at hx ⊢; omega)) obs2_nil) rfl
  | false => exact fit_out (n := 28) (by simp) hs hf rfl (by decide) (ay_ge0 a b k) (obs2_cons (obLt hx) obs2_nil) (obs2_cons (obGe (by simp at hx ⊢; omega)) obs2_nil) rfl

theorem fit_29 (l : List Va) (k : Nat) (hs : Small l) (hf : fitsB l (inTs 29) = true) (hin : ∀ y ∈ l, In64 y.n) : Fit 29 l k := by
  rcases fits33 hf with rfl | rfl | rfl | rfl
  · exact fit_out (n := 29) (by simp) hs hf rfl (by decide) (ay_both00 k) obs2_nil obs2_nil rfl
  · exact fit_out (n := 29) (by simp) hs hf rfl (by decide) (ay_both01 k) obs2_nil obs2_nil rfl
  · exact fit_out (n := 29) (by simp) hs hf rfl (by decide) (ay_both10 k) obs2_nil obs2_nil rfl
  · exact fit_out (n := 29) (by simp) hs hf rfl (by decide) (ay_both11 k) obs2_nil obs2_nil rfl

theorem fit_30 (l : List Va) (k : Nat) (hs : Small l) (hf : fitsB l (inTs 30) = true) (hin : ∀ y ∈ l, In64 y.n) : Fit 30 l k := by
  rcases fits33 hf with rfl | rfl | rfl | rfl
  · exact fit_out (n := 30) (by simp) hs hf rfl (by decide) (ay_either00 k) obs2_nil obs2_nil rfl
  · exact fit_out (n := 30) (by simp) hs hf rfl (by decide) (ay_either01 k) obs2_nil obs2_nil rfl
  · exact fit_out (n := 30) (by simp) hs hf rfl (by decide) (ay_either10 k) obs2_nil obs2_nil rfl
  · exact fit_out (n := 30) (by simp) hs hf rfl (by decide) (ay_either11 k) obs2_nil obs2_nil rfl

theorem fit_31 (l : List Va) (k : Nat) (hs : Small l) (hf : fitsB l (inTs 31) = true) (hin : ∀ y ∈ l, In64 y.n) : Fit 31 l k := by
  rcases fits3 hf with rfl | rfl
  · exact fit_out (n := 31) (by simp) hs hf rfl (by decide) (ay_not0 k) obs2_nil obs2_nil rfl
  · exact fit_out (n := 31) (by simp) hs hf rfl (by decide) (ay_not1 k) obs2_nil obs2_nil rfl

theorem fit_32 (l : List Va) (k : Nat) (hs : Small l) (hf : fitsB l (inTs 32) = true) (hin : ∀ y ∈ l, In64 y.n) : Fit 32 l k := by
  obtain ⟨a, rfl, ha⟩ := fits2 hf
  exact fit_out (n := 32) (by simp) hs hf rfl (by decide) (ay_len a k) obs2_nil obs2_nil rfl

theorem fit_33 (l : List Va) (k : Nat) (hs : Small l) (hf : fitsB l (inTs 33) = true) (hin : ∀ y ∈ l, In64 y.n) : Fit 33 l k := by
  obtain ⟨a, b, rfl, ha, hb⟩ := fits22 hf
  have hw1 : w64 ((a.length : Int) + b.length) = a.length + b.length := w64_in (by unfold In64; omega)
  by_cases h : a.length + b.length ≤ 256
  · have hadd : (Ob2.bin .add 9 (.str a) (.str b) (.str (a ++ b))).ok Try.prog X7 := by
      show (if a.length + b.length ≤ room then some (V.str (a ++ b)) else none) = _
      rw [if_pos (by unfold room; omega)]
    exact fit_out (n := 33) (by simp) hs hf rfl (by decide) (ay_join0 a b k) (obs2_cons (obG (by rw [hw1]; simp; omega)) (obs2_cons hadd obs2_nil)) (obs2_cons (obG (by rw [hw1]; simp; omega)) (obs2_cons hadd obs2_nil)) rfl
  · exact fit_err (n := 33) (by simp) hs hf rfl (by decide) (ay_join1 a b k) (obs2_cons (obG (by rw [hw1]; simp; omega)) obs2_nil) (obs2_cons (obG (by rw [hw1]; simp; omega)) obs2_nil)

theorem fit_34 (l : List Va) (k : Nat) (hs : Small l) (hf : fitsB l (inTs 34) = true) (hin : ∀ y ∈ l, In64 y.n) : Fit 34 l k := by
  obtain ⟨a, i, j, rfl, ha⟩ := fits211 hf
  by_cases h0 : i < 0
  · exact fit_err (n := 34) (by simp) hs hf rfl (by decide) (ay_cutx0 a [] i j k) (obs2_cons (obLt (by simp <;> omega)) obs2_nil) (obs2_cons (obLt (by simp <;> omega)) obs2_nil)
  by_cases h1 : i > j
  · exact fit_err (n := 34) (by simp) hs hf rfl (by decide) (ay_cutx1 a [] i j k) (obs2_cons (obLt (by simp <;> omega)) (obs2_cons (obG (by simp <;> omega)) obs2_nil)) (obs2_cons (obLt (by simp <;> omega)) (obs2_cons (obG (by simp <;> omega)) obs2_nil))
  by_cases h2 : j > (a.length : Int)
  · exact fit_err (n := 34) (by simp) hs hf rfl (by decide) (ay_cutx2 a [] i j k) (obs2_cons (obLt (by simp <;> omega)) (obs2_cons (obG (by simp <;> omega)) (obs2_cons (obG (by simp <;> omega)) obs2_nil))) (obs2_cons (obLt (by simp <;> omega)) (obs2_cons (obG (by simp <;> omega)) (obs2_cons (obG (by simp <;> omega)) obs2_nil)))
  obtain ⟨x, rfl⟩ : ∃ x : Nat, i = x := ⟨i.toNat, by omega⟩
  obtain ⟨y, rfl⟩ : ∃ y : Nat, j = y := ⟨j.toNat, by omega⟩
  exact fit_out (n := 34) (by simp) hs hf rfl (by decide) (ay_cut a ((a.take y).drop x) x y k) (obs2_cons (obLt (by simp <;> omega)) (obs2_cons (obG (by simp <;> omega)) (obs2_cons (obG (by simp <;> omega)) (obs2_cons (obCut a x y _ (by omega) (by omega) rfl) obs2_nil)))) (obs2_cons (obLt (by simp <;> omega)) (obs2_cons (obG (by simp <;> omega)) (obs2_cons (obG (by simp <;> omega)) (obs2_cons (obCut a x y _ (by omega) (by omega) rfl) obs2_nil)))) rfl

theorem fit_35 (l : List Va) (k : Nat) (hs : Small l) (hf : fitsB l (inTs 35) = true) (hin : ∀ y ∈ l, In64 y.n) : Fit 35 l k := by
  obtain ⟨a, i, rfl, ha⟩ := fits21' hf
  by_cases h0 : i < 0
  · exact fit_err (n := 35) (by simp) hs hf rfl (by decide) (ay_atx0 a i 0 k) (obs2_cons (obLt (by simp <;> omega)) obs2_nil) (obs2_cons (obLt (by simp <;> omega)) obs2_nil)
  by_cases h1 : i ≥ (a.length : Int)
  · exact fit_err (n := 35) (by simp) hs hf rfl (by decide) (ay_atx1 a i 0 k) (obs2_cons (obLt (by simp <;> omega)) (obs2_cons (obGe (by simp <;> omega)) obs2_nil)) (obs2_cons (obLt (by simp <;> omega)) (obs2_cons (obGe (by simp <;> omega)) obs2_nil))
  obtain ⟨x, rfl⟩ : ∃ x : Nat, i = x := ⟨i.toNat, by omega⟩
  have hx : a[x]? = some a[x] := List.getElem?_eq_getElem (by omega)
  exact fit_out (n := 35) (by simp) hs hf rfl (by decide) (ay_at a x a[x] k) (obs2_cons (obLt (by simp <;> omega)) (obs2_cons (obGe (by simp <;> omega)) (obs2_cons (okIdx hx) obs2_nil))) (obs2_cons (obLt (by simp <;> omega)) (obs2_cons (obGe (by simp <;> omega)) (obs2_cons (okIdx hx) obs2_nil))) rfl

theorem fit_36 (l : List Va) (k : Nat) (hs : Small l) (hf : fitsB l (inTs 36) = true) (hin : ∀ y ∈ l, In64 y.n) : Fit 36 l k := by
  obtain ⟨a, b, rfl, ha, hb⟩ := fits22 hf
  cases hx : (a == b) with
  | true => exact fit_out (n := 36) (by simp) hs hf rfl (by decide) (ay_same1 a b k) (obs2_cons (obSe hx) obs2_nil) (obs2_cons (obSe hx) obs2_nil) rfl
  | false => exact fit_out (n := 36) (by simp) hs hf rfl (by decide) (ay_same0 a b k) (obs2_cons (obSe hx) obs2_nil) (obs2_cons (obSe hx) obs2_nil) rfl

theorem fit_37 (l : List Va) (k : Nat) (hs : Small l) (hf : fitsB l (inTs 37) = true) (hin : ∀ y ∈ l, In64 y.n) : Fit 37 l k := by
  obtain ⟨a, b, rfl, ha, hb⟩ := fits22 hf
  cases hx : (Op.bytesLess a b) with
  | true => exact fit_out (n := 37) (by simp) hs hf rfl (by decide) (ay_less1 a b k) (obs2_cons (obSl hx) obs2_nil) (obs2_cons (obSl hx) obs2_nil) rfl
  | false => exact fit_out (n := 37) (by simp) hs hf rfl (by decide) (ay_less0 a b k) (obs2_cons (obSl hx) obs2_nil) (obs2_cons (obSl hx) obs2_nil) rfl

theorem fit_38 (l : List Va) (k : Nat) (hs : Small l) (hf : fitsB l (inTs 38) = true) (hin : ∀ y ∈ l, In64 y.n) : Fit 38 l k := by
  obtain ⟨a, rfl⟩ := fits1 hf
  exact fit_out (n := 38) (by simp) hs hf rfl (by decide) (ay_pack a k) obs2_nil obs2_nil rfl

theorem fit_39 (l : List Va) (k : Nat) (hs : Small l) (hf : fitsB l (inTs 39) = true) (hin : ∀ y ∈ l, In64 y.n) : Fit 39 l k := by
  obtain ⟨a, rfl, ha⟩ := fits2 hf
  by_cases h : a.length > 8
  · exact fit_err (n := 39) (by simp) hs hf rfl (by decide) (ay_unpx a k) (obs2_cons (obG (by simp <;> omega)) obs2_nil) (obs2_cons (obG (by simp <;> omega)) obs2_nil)
  match a, ha, hs, hf, hin, h with
  | [], ha, hs, hf, hin, h => exact fit_out (n := 39) (by simp) hs hf rfl (by decide) (ay_unp0  k) obs2_nil obs2_nil rfl
  | [c0], ha, hs, hf, hin, h => exact fit_out (n := 39) (by simp) hs hf rfl (by decide) (ay_unp1 c0 k) obs2_nil obs2_nil (by simp only [w64_upU, w64_zero])
  | [c0, c1], ha, hs, hf, hin, h => exact fit_out (n := 39) (by simp) hs hf rfl (by decide) (ay_unp2 c0 c1 k) obs2_nil obs2_nil (by simp only [w64_upU, w64_zero])
  | [c0, c1, c2], ha, hs, hf, hin, h => exact fit_out (n := 39) (by simp) hs hf rfl (by decide) (ay_unp3 c0 c1 c2 k) obs2_nil obs2_nil (by simp only [w64_upU, w64_zero])
  | [c0, c1, c2, c3], ha, hs, hf, hin, h => exact fit_out (n := 39) (by simp) hs hf rfl (by decide) (ay_unp4 c0 c1 c2 c3 k) obs2_nil obs2_nil (by simp only [w64_upU, w64_zero])
  | [c0, c1, c2, c3, c4], ha, hs, hf, hin, h => exact fit_out (n := 39) (by simp) hs hf rfl (by decide) (ay_unp5 c0 c1 c2 c3 c4 k) obs2_nil obs2_nil (by simp only [w64_upU, w64_zero])
  | [c0, c1, c2, c3, c4, c5], ha, hs, hf, hin, h => exact fit_out (n := 39) (by simp) hs hf rfl (by decide) (ay_unp6 c0 c1 c2 c3 c4 c5 k) obs2_nil obs2_nil (by simp only [w64_upU, w64_zero])
  | [c0, c1, c2, c3, c4, c5, c6], ha, hs, hf, hin, h => exact fit_out (n := 39) (by simp) hs hf rfl (by decide) (ay_unp7 c0 c1 c2 c3 c4 c5 c6 k) obs2_nil obs2_nil (by simp only [w64_upU, w64_zero])
  | [c0, c1, c2, c3, c4, c5, c6, c7], ha, hs, hf, hin, h => exact fit_out (n := 39) (by simp) hs hf rfl (by decide) (ay_unp8 c0 c1 c2 c3 c4 c5 c6 c7 k) obs2_nil obs2_nil (by simp only [w64_upU, w64_zero])
  | _ :: _ :: _ :: _ :: _ :: _ :: _ :: _ :: _ :: _, ha, hs, hf, hin, h => simp at h <;> omega

theorem fit_40 (l : List Va) (k : Nat) (hs : Small l) (hf : fitsB l (inTs 40) = true) (hin : ∀ y ∈ l, In64 y.n) : Fit 40 l k := by
  obtain ⟨a, rfl⟩ := fits1 hf
  exact fit_out (n := 40) (by simp) hs hf rfl (by decide) (ay_one a k) obs2_nil obs2_nil rfl

end Go.AM
