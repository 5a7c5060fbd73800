/-
  Operands, types, parts, loads and stores.
-/
import Derived.Test.YtmokkkbbbmcjnaaGreatDoorAmKeep
import Derived.Laws.StructEq
set_option linter.unusedSectionVars false
set_option linter.unusedSimpArgs false
set_option linter.unusedVariables false
namespace Go.AM

variable {P : Program} [Glob P]

/-! ### Constants and operands -/

mutual
theorem ofVal_ok (E : Emb) : ∀ (v : Value) (u : V), ofVal v = some u → VR E u v
  | .bool b, u, h => by simp only [ofVal, Option.some.injEq] at h; subst h; simp [VR]
  | .int k n, u, h => by simp only [ofVal, Option.some.injEq] at h; subst h; simp [VR]
  | .string s, u, h => by simp only [ofVal, Option.some.injEq] at h; subst h; simp [VR]
  | .pointer none, u, h => by simp only [ofVal, Option.some.injEq] at h; subst h; simp [VR]
  | .pointer (some _), u, h => by simp [ofVal] at h
  | .slice none 0 0, u, h => by simp only [ofVal, Option.some.injEq] at h; subst h; simp [VR]
  | .slice none 0 (n + 1), u, h => by simp [ofVal] at h
  | .slice none (n + 1) _, u, h => by simp [ofVal] at h
  | .slice (some _) _ _, u, h => by simp [ofVal] at h
  | .map none, u, h => by simp only [ofVal, Option.some.injEq] at h; subst h; simp [VR]
  | .map (some _), u, h => by simp [ofVal] at h
  | .nilFunc, u, h => by simp only [ofVal, Option.some.injEq] at h; subst h; simp [VR]
  | .nilIface, u, h => by simp only [ofVal, Option.some.injEq] at h; subst h; simp [VR]
  | .func fn ⟨[]⟩ ⟨[]⟩, u, h => by simp only [ofVal, Option.some.injEq] at h; subst h; simp [VR, VRs]
  | .func fn ⟨_ :: _⟩ _, u, h => by simp [ofVal] at h
  | .func fn ⟨[]⟩ ⟨_ :: _⟩, u, h => by simp [ofVal] at h
  | .iface t v, u, h => by
    simp only [ofVal, Option.map_eq_some_iff] at h
    obtain ⟨y, hy, rfl⟩ := h
    simp only [VR]
    exact ⟨v, rfl, ofVal_ok E v y hy⟩
  | .agg ⟨l⟩, u, h => by
    simp only [ofVal] at h
    split at h
    · rename_i hc
      simp only [Option.map_eq_some_iff] at h
      obtain ⟨y, hy, rfl⟩ := h
      simp only [VR]
      exact ⟨l, rfl, ofVals_ok E l y hy, by simpa using hc⟩
    · cases h
  | .tuple ⟨l⟩, u, h => by
    simp only [ofVal, Option.map_eq_some_iff] at h
    obtain ⟨y, hy, rfl⟩ := h
    simp only [VR]
    exact ⟨l, rfl, ofVals_ok E l y hy⟩
  | .float _ _, u, h => by simp [ofVal] at h
  | .complex _ _ _, u, h => by simp [ofVal] at h
  | .chan _, u, h => by simp [ofVal] at h
theorem ofVals_ok (E : Emb) : ∀ (v : List Value) (u : List V), ofVals v = some u → VRs E u v
  | [], u, h => by simp only [ofVals, Option.some.injEq] at h; subst h; rfl
  | v :: l, u, h => by
    simp only [ofVals] at h
    cases h1 : ofVal v with
    | none => rw [h1] at h; cases h
    | some y =>
      cases h2 : ofVals l with
      | none => rw [h1, h2] at h; cases h
      | some ys =>
        rw [h1, h2] at h
        cases h
        exact ⟨v, l, rfl, ofVal_ok E v y h1, ofVals_ok E l ys h2⟩
end

section
variable {W : Nat → Prop} {E : Emb} {lam : Tmp → Nat} {t : List V} {w : World} {a : Act}

theorem eval_tmp (H : SR W E lam t w a.tmps) (i : Tmp) (v : V) (h : t[i]? = some v) : TR E lam t i v (a.eval (.tmp i)) := by
  obtain ⟨x, hx, hr⟩ := H.val i v h
  have : a.eval (.tmp i) = x := by
    simp only [Act.eval]
    rw [Array.getD_eq_getD_getElem?, hx]; rfl
  rw [this]; exact hr

theorem evV_ok (H : SR W E lam t w a.tmps) (x : Operand) (v : V) (h : evV t x = some v) : VR E v (a.eval x) := by
  unfold evV at h
  cases x with
  | tmp i =>
    simp only [ev] at h
    split at h
    · rename_i hv
      simp only [Option.some.injEq] at h
      subst h
      cases hi : t[i]? with
      | none =>
        have e1 : t.getD i (.tup []) = .tup [] := by simp [List.getD, hi]
        have e2 : a.tmps[i]? = none := by
          apply Array.getElem?_eq_none
          rw [H.len]
          exact List.getElem?_eq_none_iff.1 hi
        have e3 : a.eval (.tmp i) = undef := by simp only [Act.eval]; rw [Array.getD_eq_getD_getElem?, e2]; rfl
        rw [e1, e3]
        simp [VR, VRs, undef]
      | some u =>
        have e1 : t.getD i (.tup []) = u := by simp [List.getD, hi]
        rw [e1] at hv ⊢
        have := eval_tmp H i u hi
        cases u <;> first | exact this | (simp [V.isVal] at hv)
    · cases h
  | const c =>
    simp only [ev] at h
    split at h
    · rename_i u hu
      split at h
      · simp only [Option.some.injEq] at h; subst h; exact ofVal_ok E c u hu
      · cases h
    · cases h
  | global g => simp [ev] at h
  | func f => simp [ev, V.isVal] at h; subst h; simp [VR, VRs, Act.eval]

theorem evVs_ok (H : SR W E lam t w a.tmps) : ∀ (l : List Operand) (vs : List V), evVs t l = some vs → VRs E vs (l.map a.eval)
  | [], vs, h => by simp only [evVs, Option.some.injEq] at h; subst h; rfl
  | x :: l, vs, h => by
    simp only [evVs] at h
    cases h1 : evV t x with
    | none => rw [h1] at h; cases h
    | some y =>
      cases h2 : evVs t l with
      | none => rw [h1, h2] at h; cases h
      | some ys =>
        rw [h1, h2] at h
        cases h
        exact ⟨_, _, rfl, evV_ok H x y h1, evVs_ok H l ys h2⟩

def VRp (E : Emb) : List (Nat × V) → List (Nat × Value) → Prop
  | [], l => l = []
  | (i, v) :: vs, l => ∃ y ys, l = (i, y) :: ys ∧ VR E v y ∧ VRp E vs ys

theorem evParts_ok (H : SR W E lam t w a.tmps) : ∀ (l : List (Nat × Operand)) (vs : List (Nat × V)), evParts t l = some vs → VRp E vs (l.map fun (i, x) => (i, a.eval x))
  | [], vs, h => by simp only [evParts, Option.some.injEq] at h; subst h; rfl
  | (i, x) :: l, vs, h => by
    simp only [evParts] at h
    cases h1 : evV t x with
    | none => rw [h1] at h; cases h
    | some y =>
      cases h2 : evParts t l with
      | none => rw [h1, h2] at h; cases h
      | some ys =>
        rw [h1, h2] at h
        cases h
        exact ⟨_, _, rfl, evV_ok H x y h1, evParts_ok H l ys h2⟩

/-- Of an operand that may be missing. -/
def VRo (E : Emb) : Option V → Option Value → Prop
  | none, x => x = none
  | some v, x => ∃ y, x = some y ∧ VR E v y

theorem evO_ok (H : SR W E lam t w a.tmps) (x : Option Operand) (v : Option V) (h : evO t x = some v) : VRo E v (x.map a.eval) := by
  cases x with
  | none => simp only [evO, Option.some.injEq] at h; subst h; rfl
  | some x =>
    simp only [evO, Option.map_eq_some_iff] at h
    obtain ⟨y, hy, rfl⟩ := h
    exact ⟨_, rfl, evV_ok H x y hy⟩

/-- A private variable's address: its own temporary, or a place inside. -/
theorem boxSlot_ok (H : SR W E lam t w a.tmps) (x : Operand) (u : V) (hu : ev t x = some u) (d : Tmp) (off : Nat) (hb : boxSlot x u = some (d, off)) (l : List V) (hl : t[d]? = some (.box l)) :
    a.eval x = .pointer (some ⟨lam d, off, none⟩) := by
  unfold boxSlot at hb
  split at hb
  · simp only [Option.some.injEq, Prod.mk.injEq] at hb
    obtain ⟨rfl, rfl⟩ := hb
    have := eval_tmp H _ _ hl
    exact this
  · simp only [Option.some.injEq, Prod.mk.injEq] at hb
    obtain ⟨rfl, rfl⟩ := hb
    cases x with
    | tmp i =>
      simp only [ev, Option.some.injEq] at hu
      cases hi : t[i]? with
      | none => simp [List.getD, hi] at hu
      | some u' =>
        have e1 : t.getD i (.tup []) = u' := by simp [List.getD, hi]
        rw [e1] at hu
        subst hu
        exact eval_tmp H _ _ hi ⟨l, hl⟩
    | const c =>
      exfalso
      have := ofVal_ok E c _ hu
      simp only [VR] at this
    | global g => simp [ev] at hu
    | func f => simp [ev] at hu
  · cases hb

theorem ev_ptr (H : SR W E lam t w a.tmps) (x : Operand) (b : Id) (off : Nat) (hu : ev t x = some (.ptr b off)) : E.dom b ∧ a.eval x = .pointer (some ((E.pl b).addr off)) := by
  have h : evV t x = some (.ptr b off) := by simp [evV, hu, V.isVal]
  have := evV_ok H x _ h
  simpa only [VR] using this
end

/-! ### Types -/

theorem run_sizeOf' (w : World) {t : TypeId} {n : Nat} (h : szOf P t = some n) : (sizeOf t).run P w = .ok n w := by
  simp only [szOf, Option.map_eq_some_iff] at h
  obtain ⟨i, hi, rfl⟩ := h
  simp [sizeOf, typeInfo, hi]
theorem run_isAgg' (w : World) {t : TypeId} {b : Bool} (h : isAggT P t = some b) : (isAgg t).run P w = .ok b w := by
  simp only [isAggT, Option.map_eq_some_iff] at h
  obtain ⟨d, hd, rfl⟩ := h
  simp only [isAgg, Sem.run_bind, run_underlying hd, Result.andThen_ok]
  split <;> simp_all
theorem run_zero' (w : World) {t : TypeId} {v : V} (h : zeroOf P t = some v) : ∃ z, ofVal z = some v ∧ (zeroValue t).run P w = .ok z w := by
  simp only [zeroOf, Option.bind_eq_some_iff] at h
  obtain ⟨z, ⟨i, hi, hz⟩, hv⟩ := h
  exact ⟨z, hv, by simp [zeroValue, typeInfo, hi, hz]⟩

/-! ### Numbers -/

theorem wr_eq (k : IntKind) (n : Int) : wr k n = k.wrap n := by
  unfold wr
  split
  · rename_i h
    obtain ⟨h1, h2⟩ := h
    cases k <;> simp only [loK, hiK] at h1 h2 <;> simp only [IntKind.wrap, IntKind.bits, IntKind.signed] <;> simp <;> omega
  · rfl

/-! ### Parts -/

theorem part_ok {E : Emb} (w : World) (ty : TypeId) (cs : List V) (off : Nat) (v : V) (h : part P ty cs off = some v) (xs : List Value) (hx : VRs E cs xs) (hc : ∀ y ∈ xs, isCell y = true) :
    ∃ y, (Go.part ty ⟨xs⟩ off).run P w = .ok y w ∧ VR E v y := by
  unfold part at h
  cases hag : isAggT P ty with
  | none => rw [hag] at h; cases h
  | some b =>
    rw [hag] at h
    cases b with
    | true =>
      simp only at h
      cases hs : szOf P ty with
      | none => rw [hs] at h; cases h
      | some n =>
        rw [hs] at h
        simp only at h
        split at h
        · cases h
          refine ⟨.agg ⟨(xs.drop off).take n⟩, ?_, ?_⟩
          · simp only [Go.part, Sem.run_bind, run_isAgg' w hag, Result.andThen_ok, if_true, run_sizeOf' w hs, Sem.run_pure]
            congr 2
            apply Array.ext'
            rw [Array.toList_extract, List.extract_eq_take_drop]
            congr 1
            omega
          · simp only [VR]
            exact ⟨_, rfl, (hx.drop off).take n, fun y hy => hc y (List.mem_of_mem_drop (List.mem_of_mem_take hy))⟩
        · cases h
    | false =>
      simp only at h
      obtain ⟨y, hy, hr⟩ := hx.get off v h
      refine ⟨y, ?_, hr⟩
      simp only [Go.part, Sem.run_bind, run_isAgg' w hag, Result.andThen_ok, Bool.false_eq_true, if_false]
      have : (⟨xs⟩ : Array Value)[off]? = some y := by simpa using hy
      rw [this]
      rfl

/-! ### Loads and stores -/

theorem loadVar_ok {E : Emb} {ro : Bool} {l : List V} {c o csz : Nat} {w : World} (h : RowIn E ro l c o csz w.heap) (ty : TypeId) (off : Nat) (v : V)
    (hv : (match isAggT P ty with
      | some true => match szOf P ty with
        | some n => (loadRow l off n).map .agg
        | none => none
      | some false => l[off]?
      | none => none) = some v) : ∃ y, (loadVar ty ⟨c, o + off, none⟩).run P w = .ok y w ∧ VR E v y := by
  cases hag : isAggT P ty with
  | none => rw [hag] at hv; cases hv
  | some b =>
    rw [hag] at hv
    cases b with
    | true =>
      simp only at hv
      cases hs : szOf P ty with
      | none => rw [hs] at hv; cases hv
      | some n =>
        rw [hs] at hv
        simp only [loadRow, Option.map_eq_some_iff] at hv
        obtain ⟨row, hrow, rfl⟩ := hv
        split at hrow
        · rename_i hle
          simp only [Option.some.injEq] at hrow
          subst hrow
          obtain ⟨xs, hxl, hrun, hvr, hcell⟩ := h.cells P off n hle
          refine ⟨.agg ⟨xs⟩, ?_, ?_⟩
          · simp only [loadVar, Sem.run_bind, run_isAgg' w hag, Result.andThen_ok, if_true, run_sizeOf' w hs, hrun, Sem.run_pure]
          · simp only [VR]; exact ⟨xs, rfl, hvr, hcell⟩
        · cases hrow
    | false =>
      simp only at hv
      obtain ⟨x, hx, hr, _⟩ := h.cell off v hv
      refine ⟨x, ?_, hr⟩
      simp only [loadVar, Sem.run_bind, run_isAgg' w hag, Result.andThen_ok, Bool.false_eq_true, if_false, run_load, hx]

theorem Pl.addr_add (p : Pl) (off n : Nat) : (p.addr off).add n = p.addr (off + n) := by
  unfold Addr.add Pl.addr
  split
  · rename_i h; subst h; rfl
  · simp [Nat.add_assoc]
theorem addr_add' (c off n : Nat) : (⟨c, off, none⟩ : Addr).add n = ⟨c, off + n, none⟩ := by
  unfold Addr.add
  split
  · rename_i h; subst h; rfl
  · rfl

end Go.AM
