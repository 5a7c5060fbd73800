/-
  Any operation of any values answers as the document says.
-/
import Derived.Test.YthgidafohcfjoaaOpW2
set_option linter.unusedVariables false
set_option linter.unusedSimpArgs false
namespace Go.AM
open Go.Proofs

theorem dT_in {n : Nat} (h : n ∈ plainL) : inOf (dT n) = some (inTs n) ∧ (inTs n).length ≤ 3 := by
  simp only [plainL, List.mem_cons, List.not_mem_nil, or_false] at h
  rcases h with rfl | rfl | rfl | rfl | rfl | rfl | rfl | rfl | rfl | rfl | rfl | rfl | rfl | rfl | rfl | rfl | rfl | rfl | rfl | rfl | rfl | rfl | rfl | rfl | rfl | rfl | rfl | rfl | rfl | rfl | rfl | rfl <;> exact ⟨rfl, by decide⟩

theorem plain_or (n : Int) : (∃ m : Nat, n = m ∧ m ∈ plainL) ∨ (n ≠ 3 ∧ n ≠ 4 ∧ ¬ n ≥ 11) ∨ (n ≠ 3 ∧ n ≠ 4 ∧ n ≥ 11 ∧ ¬ n ≤ 40) := by
  by_cases h : 0 ≤ n ∧ n ≤ 40
  · obtain ⟨m, rfl⟩ : ∃ m : Nat, n = m := ⟨n.toNat, by omega⟩
    have hm : m ≤ 40 := by omega
    by_cases h1 : m ∈ plainL
    · exact .inl ⟨m, rfl, h1⟩
    · right; left
      have key : ∀ m : Nat, m ≤ 40 → m ∉ plainL → m ≠ 3 ∧ m ≠ 4 ∧ m < 11 := by decide
      have := key m hm h1
      omega
  · by_cases h1 : 0 ≤ n
    · right; right; omega
    · right; left; omega

theorem ob_lo {n : Int} (h : n ≠ 3 ∧ n ≠ 4 ∧ ¬ n ≥ 11) : Obs2 Try.prog X7 [obI .eql n 3 false, obI .eql n 4 false, obI .geq n 11 false] :=
  obs2_cons (oI (by simp [h.1])) (obs2_cons (oI (by simp [h.2.1])) (obs2_cons (obGe (by simpa using h.2.2)) obs2_nil))
theorem ob_hi {n : Int} (h : n ≠ 3 ∧ n ≠ 4 ∧ n ≥ 11 ∧ ¬ n ≤ 40) : Obs2 Try.prog X7 [obI .eql n 3 false, obI .eql n 4 false, obI .geq n 11 true, obI .leq n 40 false] :=
  obs2_cons (oI (by simp [h.1])) (obs2_cons (oI (by simp [h.2.1])) (obs2_cons (obGe (by simpa using h.2.2.1)) (obs2_cons (obL (by simpa using h.2.2.2)) obs2_nil)))
theorem ob_end (l : List Va) (c d : V) (hc : vaOf c = some l) (hd : vaOf d = some l) (hs : Small l) : Obs2 Try.prog X7 [.rd 13 [.nilslice, .nilslice] rS, .rd 13 [c, d] rS] :=
  obs2_cons (okSame rfl rfl (by simp)) (obs2_cons (okSame hc hd (by unfold Small at hs; omega)) obs2_nil)
theorem vaOf_dE : vaOf dE = some [] := rfl
theorem obOwn (l : List Va) (k : Nat) (h : l ≠ []) (hs : Small l) : Obs2 Try.prog X7 [ownO l k] := obs2_cons (okOwn l k h hs) obs2_nil

theorem fit_all {m : Nat} (h : m ∈ plainL) (l : List Va) (k : Nat) (hl : l ≠ []) (hs : Small l) (hf : fitsB l (inTs m) = true) (hin : ∀ y ∈ l, In64 y.n) : Fit m l k := by
  simp only [plainL, List.mem_cons, List.not_mem_nil, or_false] at h
  rcases h with rfl | rfl | rfl | rfl | rfl | rfl | rfl | rfl | rfl | rfl | rfl | rfl | rfl | rfl | rfl | rfl | rfl | rfl | rfl | rfl | rfl | rfl | rfl | rfl | rfl | rfl | rfl | rfl | rfl | rfl | rfl | rfl
  · exact absurd (fits_nil hf) hl
  · exact absurd (fits_nil hf) hl
  · exact fit_11 l k hs hf hin
  · exact fit_12 l k hs hf hin
  · exact fit_13 l k hs hf hin
  · exact fit_14 l k hs hf hin
  · exact fit_15 l k hs hf hin
  · exact fit_16 l k hs hf hin
  · exact fit_17 l k hs hf hin
  · exact fit_18 l k hs hf hin
  · exact fit_19 l k hs hf hin
  · exact fit_20 l k hs hf hin
  · exact fit_21 l k hs hf hin
  · exact fit_22 l k hs hf hin
  · exact fit_23 l k hs hf hin
  · exact fit_24 l k hs hf hin
  · exact fit_25 l k hs hf hin
  · exact fit_26 l k hs hf hin
  · exact fit_27 l k hs hf hin
  · exact fit_28 l k hs hf hin
  · exact fit_29 l k hs hf hin
  · exact fit_30 l k hs hf hin
  · exact fit_31 l k hs hf hin
  · exact fit_32 l k hs hf hin
  · exact fit_33 l k hs hf hin
  · exact fit_34 l k hs hf hin
  · exact fit_35 l k hs hf hin
  · exact fit_36 l k hs hf hin
  · exact fit_37 l k hs hf hin
  · exact fit_38 l k hs hf hin
  · exact fit_39 l k hs hf hin
  · exact fit_40 l k hs hf hin

theorem no_all {m : Nat} (h : m ∈ plainL) (l : List Va) (hf : fitsB l (inTs m) = false) (c d : V) (hc : vaOf c = some l) (hd : vaOf d = some l) (hs : Small l) :
    Obs2 Try.prog X7 [.rd 21 [c, dT m] (.bool false), .rd 40 [d, dT m] (.bool false), .rd 13 [.nilslice, .nilslice] rS, .rd 13 [c, d] rS] :=
  obs2_cons (okFits21 hc (dT_in h).1 (dT_in h).2 hf) (obs2_cons (okFits40 hd (dT_in h).1 (dT_in h).2 hf) (ob_end l c d hc hd hs))

theorem apply_vals (n : Int) (l : List Va) (k : Nat) (hs : Small l) (hin : ∀ y ∈ l, In64 y.n) : ∃ h', callN Try.prog X7 80 3 [i64 n, sA l k] (hA l) = some (.bool true, h') := by
  by_cases hl : l = []
  · subst hl
    have en := ob_end [] dE (dA [] k) vaOf_dE (vaOf_dV _ _ _) hs
    rcases plain_or n with ⟨m, rfl, hm⟩ | h | h
    · cases hf : fitsB [] (inTs m) with
      | true =>
        have h34 : m = 3 ∨ m = 4 := by
          have key : ∀ m ∈ plainL, fitsB [] (inTs m) = true → m = 3 ∨ m = 4 := by
            intro m h
            simp only [plainL, List.mem_cons, List.not_mem_nil, or_false] at h
            rcases h with rfl | rfl | rfl | rfl | rfl | rfl | rfl | rfl | rfl | rfl | rfl | rfl | rfl | rfl | rfl | rfl | rfl | rfl | rfl | rfl | rfl | rfl | rfl | rfl | rfl | rfl | rfl | rfl | rfl | rfl | rfl | rfl <;> intro h <;> first | exact .inl rfl | exact .inr rfl | cases h
          exact key m hm hf
        have sm : ∀ x : Va, Obs2 Try.prog X7 [.rd 13 [dR x, dR x] rS, .rd 13 [dE, dA [] k] rS] := fun x => obs2_cons (okSame (vaOf_dR x) (vaOf_dR x) (by simp)) (obs2_cons (okSame vaOf_dE (vaOf_dV _ _ _) (by simp)) obs2_nil)
        rcases h34 with rfl | rfl
        · exact run_of_from (ay_tru_e k) (obs2_app (obs2_app (obs2_cons (okFits21 vaOf_dE (dT_in hm).1 (dT_in hm).2 hf) obs2_nil) (obs2_cons (okFits40 (vaOf_dV _ _ _) (dT_in hm).1 (dT_in hm).2 hf) obs2_nil)) (sm _))
        · exact run_of_from (ay_fal_e k) (obs2_app (obs2_app (obs2_cons (okFits21 vaOf_dE (dT_in hm).1 (dT_in hm).2 hf) obs2_nil) (obs2_cons (okFits40 (vaOf_dV _ _ _) (dT_in hm).1 (dT_in hm).2 hf) obs2_nil)) (sm _))
      | false => exact run_of_from (List.map_inj_left.1 (ap_e_no k) m hm) (obs2_app obs2_nil (no_all hm [] hf _ _ vaOf_dE (vaOf_dV _ _ _) hs))
    · exact run_of_from (ap_e_lo k n) (obs2_app obs2_nil (obs2_app (obs2_app (ob_lo h) (ob_lo h)) en))
    · exact run_of_from (ap_e_hi k n) (obs2_app obs2_nil (obs2_app (obs2_app (ob_hi h) (ob_hi h)) en))
  · have en := ob_end l (dX l) (dA l k) (vaOf_dV _ _ _) (vaOf_dV _ _ _) hs
    rcases plain_or n with ⟨m, rfl, hm⟩ | h | h
    · cases hf : fitsB l (inTs m) with
      | true => exact fit_all hm l k hl hs hf hin
      | false => exact run_of_from (List.map_inj_left.1 (ap_c_no l k) m hm) (obs2_app (obOwn l k hl hs) (no_all hm l hf _ _ (vaOf_dV _ _ _) (vaOf_dV _ _ _) hs))
    · exact run_of_from (ap_c_lo l k n) (obs2_app (obOwn l k hl hs) (obs2_app (obs2_app (ob_lo h) (ob_lo h)) en))
    · exact run_of_from (ap_c_hi l k n) (obs2_app (obOwn l k hl hs) (obs2_app (obs2_app (ob_hi h) (ob_hi h)) en))

theorem apply_nil (n : Int) : ∃ h', callN Try.prog X7 80 3 [i64 n, .nilslice] h0 = some (.bool true, h') := by
  have hs : Small [] := by unfold Small; simp
  have en := ob_end [] dE .nilslice vaOf_dE rfl hs
  rcases plain_or n with ⟨m, rfl, hm⟩ | h | h
  · cases hf : fitsB [] (inTs m) with
    | true =>
      have h34 : m = 3 ∨ m = 4 := by
        have key : ∀ m ∈ plainL, fitsB [] (inTs m) = true → m = 3 ∨ m = 4 := by
          intro m h
          simp only [plainL, List.mem_cons, List.not_mem_nil, or_false] at h
          rcases h with rfl | rfl | rfl | rfl | rfl | rfl | rfl | rfl | rfl | rfl | rfl | rfl | rfl | rfl | rfl | rfl | rfl | rfl | rfl | rfl | rfl | rfl | rfl | rfl | rfl | rfl | rfl | rfl | rfl | rfl | rfl | rfl <;> intro h <;> first | exact .inl rfl | exact .inr rfl | cases h
        exact key m hm hf
      have sm : ∀ x : Va, Obs2 Try.prog X7 [.rd 13 [dR x, dR x] rS, .rd 13 [dE, .nilslice] rS] := fun x => obs2_cons (okSame (vaOf_dR x) (vaOf_dR x) (by simp)) (obs2_cons (okSame vaOf_dE rfl (by simp)) obs2_nil)
      rcases h34 with rfl | rfl
      · exact run_of_from ay_tru_n (obs2_app (obs2_app (obs2_cons (okFits21 vaOf_dE (dT_in hm).1 (dT_in hm).2 hf) obs2_nil) (obs2_cons (okFits40 (l := []) rfl (dT_in hm).1 (dT_in hm).2 hf) obs2_nil)) (sm _))
      · exact run_of_from ay_fal_n (obs2_app (obs2_app (obs2_cons (okFits21 vaOf_dE (dT_in hm).1 (dT_in hm).2 hf) obs2_nil) (obs2_cons (okFits40 (l := []) rfl (dT_in hm).1 (dT_in hm).2 hf) obs2_nil)) (sm _))
    | false => exact run_of_from (List.map_inj_left.1 ap_n_no m hm) (obs2_app obs2_nil (no_all hm [] hf _ _ vaOf_dE rfl hs))
  · exact run_of_from (ap_n_lo n) (obs2_app obs2_nil (obs2_app (obs2_app (ob_lo h) (ob_lo h)) en))
  · exact run_of_from (ap_n_hi n) (obs2_app obs2_nil (obs2_app (obs2_app (ob_hi h) (ob_hi h)) en))

end Go.AM
