/-
  What any operation answers of any values is of its types.
-/
import Derived.Test.YthgidafohcfjoaaOpZ2
set_option linter.unusedVariables false
set_option linter.unusedSimpArgs false
namespace Go.AM
open Go.Proofs

theorem typ_all {m : Nat} (h : m ∈ plainL) (l : List Va) (k : Nat) (hl : l ≠ []) (hs : Small l) (hf : fitsB l (inTs m) = true) (hin : ∀ y ∈ l, In64 y.n) : Typ m l k := by
  simp only [plainL, List.mem_cons, List.not_mem_nil, or_false] at h
  rcases h with rfl | rfl | rfl | rfl | rfl | rfl | rfl | rfl | rfl | rfl | rfl | rfl | rfl | rfl | rfl | rfl | rfl | rfl | rfl | rfl | rfl | rfl | rfl | rfl | rfl | rfl | rfl | rfl | rfl | rfl | rfl | rfl
  · exact absurd (fits_nil hf) hl
  · exact absurd (fits_nil hf) hl
  · exact typ_11 l k hs hf hin
  · exact typ_12 l k hs hf hin
  · exact typ_13 l k hs hf hin
  · exact typ_14 l k hs hf hin
  · exact typ_15 l k hs hf hin
  · exact typ_16 l k hs hf hin
  · exact typ_17 l k hs hf hin
  · exact typ_18 l k hs hf hin
  · exact typ_19 l k hs hf hin
  · exact typ_20 l k hs hf hin
  · exact typ_21 l k hs hf hin
  · exact typ_22 l k hs hf hin
  · exact typ_23 l k hs hf hin
  · exact typ_24 l k hs hf hin
  · exact typ_25 l k hs hf hin
  · exact typ_26 l k hs hf hin
  · exact typ_27 l k hs hf hin
  · exact typ_28 l k hs hf hin
  · exact typ_29 l k hs hf hin
  · exact typ_30 l k hs hf hin
  · exact typ_31 l k hs hf hin
  · exact typ_32 l k hs hf hin
  · exact typ_33 l k hs hf hin
  · exact typ_34 l k hs hf hin
  · exact typ_35 l k hs hf hin
  · exact typ_36 l k hs hf hin
  · exact typ_37 l k hs hf hin
  · exact typ_38 l k hs hf hin
  · exact typ_39 l k hs hf hin
  · exact typ_40 l k hs hf hin

theorem no_typ {m : Nat} (h : m ∈ plainL) (l : List Va) (hf : fitsB l (inTs m) = false) (c : V) (hc : vaOf c = some l) : Obs2 Try.prog X7 [.rd 21 [c, dT m] (.bool false)] :=
  obs2_cons (okFits21 hc (dT_in h).1 (dT_in h).2 hf) obs2_nil

theorem typed_vals (n : Int) (l : List Va) (k : Nat) (hs : Small l) (hin : ∀ y ∈ l, In64 y.n) : ∃ h', callN Try.prog X7 80 8 [i64 n, sA l k] (hA l) = some (.bool true, h') := by
  by_cases hl : l = []
  · subst hl
    rcases plain_or n with ⟨m, rfl, hm⟩ | h | h
    · cases hf : fitsB [] (inTs m) with
      | true =>
        have h34 : m = 3 ∨ m = 4 := by
          have key : ∀ m ∈ plainL, fitsB [] (inTs m) = true → m = 3 ∨ m = 4 := by
            intro m h
            simp only [plainL, List.mem_cons, List.not_mem_nil, or_false] at h
            rcases h with rfl | rfl | rfl | rfl | rfl | rfl | rfl | rfl | rfl | rfl | rfl | rfl | rfl | rfl | rfl | rfl | rfl | rfl | rfl | rfl | rfl | rfl | rfl | rfl | rfl | rfl | rfl | rfl | rfl | rfl | rfl | rfl <;> intro h <;> first | exact .inl rfl | exact .inr rfl | cases h
          exact key m hm hf
        rcases h34 with rfl | rfl
        · exact run_of_from (az_tru_e k) (obs2_app (obs2_cons (okFits21 vaOf_dE (dT_in hm).1 (dT_in hm).2 hf) obs2_nil) (obs2_cons (okFits21 (vaOf_dR _) rfl (by decide) rfl) (obs2_cons (okFits21 (vaOf_dV _ _ _) (dT_in hm).1 (dT_in hm).2 hf) obs2_nil)))
        · exact run_of_from (az_fal_e k) (obs2_app (obs2_cons (okFits21 vaOf_dE (dT_in hm).1 (dT_in hm).2 hf) obs2_nil) (obs2_cons (okFits21 (vaOf_dR _) rfl (by decide) rfl) (obs2_cons (okFits21 (vaOf_dV _ _ _) (dT_in hm).1 (dT_in hm).2 hf) obs2_nil)))
      | false => exact run_of_from (List.map_inj_left.1 (az_e_no k) m hm) (obs2_app obs2_nil (no_typ hm [] hf _ vaOf_dE))
    · exact run_of_from (az_e_lo k n) (obs2_app obs2_nil (ob_lo h))
    · exact run_of_from (az_e_hi k n) (obs2_app obs2_nil (ob_hi h))
  · have en := ob_end l (dX l) (dA l k) (vaOf_dV _ _ _) (vaOf_dV _ _ _) hs
    rcases plain_or n with ⟨m, rfl, hm⟩ | h | h
    · cases hf : fitsB l (inTs m) with
      | true => exact typ_all hm l k hl hs hf hin
      | false => exact run_of_from (List.map_inj_left.1 (az_c_no l k) m hm) (obs2_app (obOwn l k hl hs) (no_typ hm l hf _ (vaOf_dV _ _ _)))
    · exact run_of_from (az_c_lo l k n) (obs2_app (obOwn l k hl hs) (ob_lo h))
    · exact run_of_from (az_c_hi l k n) (obs2_app (obOwn l k hl hs) (ob_hi h))

theorem typed_nil (n : Int) : ∃ h', callN Try.prog X7 80 8 [i64 n, .nilslice] h0 = some (.bool true, h') := by
  have hs : Small [] := by unfold Small; simp
  rcases plain_or n with ⟨m, rfl, hm⟩ | h | h
  · cases hf : fitsB [] (inTs m) with
    | true =>
      have h34 : m = 3 ∨ m = 4 := by
        have key : ∀ m ∈ plainL, fitsB [] (inTs m) = true → m = 3 ∨ m = 4 := by
          intro m h
          simp only [plainL, List.mem_cons, List.not_mem_nil, or_false] at h
          rcases h with rfl | rfl | rfl | rfl | rfl | rfl | rfl | rfl | rfl | rfl | rfl | rfl | rfl | rfl | rfl | rfl | rfl | rfl | rfl | rfl | rfl | rfl | rfl | rfl | rfl | rfl | rfl | rfl | rfl | rfl | rfl | rfl <;> intro h <;> first | exact .inl rfl | exact .inr rfl | cases h
        exact key m hm hf
      rcases h34 with rfl | rfl
      · exact run_of_from az_tru_n (obs2_app (obs2_cons (okFits21 vaOf_dE (dT_in hm).1 (dT_in hm).2 hf) obs2_nil) (obs2_cons (okFits21 (vaOf_dR _) rfl (by decide) rfl) (obs2_cons (okFits21 (l := []) rfl (dT_in hm).1 (dT_in hm).2 hf) obs2_nil)))
      · exact run_of_from az_fal_n (obs2_app (obs2_cons (okFits21 vaOf_dE (dT_in hm).1 (dT_in hm).2 hf) obs2_nil) (obs2_cons (okFits21 (vaOf_dR _) rfl (by decide) rfl) (obs2_cons (okFits21 (l := []) rfl (dT_in hm).1 (dT_in hm).2 hf) obs2_nil)))
    | false => exact run_of_from (List.map_inj_left.1 az_n_no m hm) (obs2_app obs2_nil (no_typ hm [] hf _ vaOf_dE))
  · exact run_of_from (az_n_lo n) (obs2_app obs2_nil (ob_lo h))
  · exact run_of_from (az_n_hi n) (obs2_app obs2_nil (ob_hi h))

end Go.AM
