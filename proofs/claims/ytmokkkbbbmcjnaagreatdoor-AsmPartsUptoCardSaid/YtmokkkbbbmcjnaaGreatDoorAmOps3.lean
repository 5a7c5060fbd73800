/-
  Operands, types, parts, loads and stores.
-/
import Derived.Test.YtmokkkbbbmcjnaaGreatDoorAmKeep
import Derived.Laws.StructEq
set_option linter.unusedSectionVars false
set_option linter.unusedSimpArgs false
set_option linter.unusedVariables false
namespace Go.AM

variable {P : Program} [Glob P]

/-! ### Constants and operands -/

mutual
theorem ofVal_ok (E : Emb) : ∀ (v : Value) (u : V), ofVal v = some u → VR E u v
  | .bool b, u, h => by simp only [ofVal, Option.some.injEq] at h; subst h; simp [VR]
  | .int k n, u, h => by simp only [ofVal, Option.some.injEq] at h; subst h; simp [VR]
  | .string s, u, h => by simp only [ofVal, Option.some.injEq] at h; subst h; simp [VR]
  | .pointer none, u, h => by simp only [ofVal, Option.some.injEq] at h; subst h; simp [VR]
  | .pointer (some _), u, h => by simp [ofVal] at h
  | .slice none 0 0, u, h => by simp only [ofVal, Option.some.injEq] at h; subst h; simp [VR]
  | .slice none 0 (n + 1), u, h => by simp [ofVal] at h
  | .slice none (n + 1) _, u, h => by simp [ofVal] at h
  | .slice (some _) _ _, u, h => by simp [ofVal] at h
  | .map none, u, h => by simp only [ofVal, Option.some.injEq] at h; subst h; simp [VR]
  | .map (some _), u, h => by simp [ofVal] at h
  | .nilFunc, u, h => by simp only [ofVal, Option.some.injEq] at h; subst h; simp [VR]
  | .nilIface, u, h => by simp only [ofVal, Option.some.injEq] at h; subst h; simp [VR]
  | .func fn ⟨[]⟩ ⟨[]⟩, u, h => by simp only [ofVal, Option.some.injEq] at h; subst h; simp [VR, VRs]
  | .func fn ⟨_ :: _⟩ _, u, h => by simp [ofVal] at h
  | .func fn ⟨[]⟩ ⟨_ :: _⟩, u, h => by simp [ofVal] at h
  | .iface t v, u, h => by
    simp only [ofVal, Option.map_eq_some_iff] at h
    obtain ⟨y, hy, rfl⟩ := h
    simp only [VR]
    exact ⟨v, rfl, ofVal_ok E v y hy⟩
  | .agg ⟨l⟩, u, h => by
    simp only [ofVal] at h
    split at h
    · rename_i hc
      simp only [Option.map_eq_some_iff] at h
      obtain ⟨y, hy, rfl⟩ := h
      simp only [VR]
      exact ⟨l, rfl, ofVals_ok E l y hy, by simpa using hc⟩
    · cases h
  | .tuple ⟨l⟩, u, h => by
    simp only [ofVal, Option.map_eq_some_iff] at h
    obtain ⟨y, hy, rfl⟩ := h
    simp only [VR]
    exact ⟨l, rfl, ofVals_ok E l y hy⟩
  | .float _ _, u, h => by simp [ofVal] at h
  | .complex _ _ _, u, h => by simp [ofVal] at h
  | .chan _, u, h => by simp [ofVal] at h
theorem ofVals_ok (E : Emb) : ∀ (v : List Value) (u : List V), ofVals v = some u → VRs E u v
  | [], u, h => by simp only [ofVals, Option.some.injEq] at h; subst h; rfl
  | v :: l, u, h => by
    simp only [ofVals] at h
    cases h1 : ofVal v with
    | none => rw [h1] at h; cases h
    | some y =>
      cases h2 : ofVals l with
      | none => rw [h1, h2] at h; cases h
      | some ys =>
        rw [h1, h2] at h
        cases h
        exact ⟨v, l, rfl, ofVal_ok E v y h1, ofVals_ok E l ys h2⟩
end

section
variable {W : Nat → Prop} {E : Emb} {lam : Tmp → Nat} {t : List V} {w : World} {a : Act}

theorem eval_tmp (H : SR W E lam t w a.tmps) (i : Tmp) (v : V) (h : t[i]? = some v) : TR E lam t i v (a.eval (.tmp i)) := by
  obtain ⟨x, hx, hr⟩ := H.val i v h
  have : a.eval (.tmp i) = x := by
    simp only [Act.eval]
    rw [Array.getD_eq_getD_getElem?, hx]; rfl
  rw [this]; exact hr

theorem evV_ok (H : SR W E lam t w a.tmps) (x : Operand) (v : V) (h : evV t x = some v) : VR E v (a.eval x) := by
  unfold evV at h
  cases x with
  | tmp i =>
    simp only [ev] at h
    split at h
    · rename_i hv
      simp only [Option.some.injEq] at h
      subst h
      cases hi : t[i]? with
      | none =>
        have e1 : t.getD i (.tup []) = .tup [] := by simp [List.getD, hi]
        have e2 : a.tmps[i]? = none := by
          apply Array.getElem?_eq_none
          rw [H.len]
          exact List.getElem?_eq_none_iff.1 hi
        have e3 : a.eval (.tmp i) = undef := by simp only [Act.eval]; rw [Array.getD_eq_getD_getElem?, e2]; rfl
        rw [e1, e3]
        simp [VR, VRs, undef]
      | some u =>
        have e1 : t.getD i (.tup []) = u := by simp [List.getD, hi]
        rw [e1] at hv ⊢
        have := eval_tmp H i u hi
        cases u <;> first | exact this | (simp [V.isVal] at hv)
    · cases h
  | const c =>
    simp only [ev] at h
    split at h
    · rename_i u hu
      split at h
      · simp only [Option.some.injEq] at h; subst h; exact ofVal_ok E c u hu
      · cases h
    · cases h
  | global g => simp [ev] at h
  | func f => simp [ev, V.isVal] at h; subst h; simp [VR, VRs, Act.eval]

theorem evVs_ok (H : SR W E lam t w a.tmps) : ∀ (l : List Operand) (vs : List V), evVs t l = some vs → VRs E vs (l.map a.eval)
  | [], vs, h => by simp only [evVs, Option.some.injEq] at h; subst h; rfl
  | x :: l, vs, h => by
    simp only [evVs] at h
    cases h1 : evV t x with
    | none => rw [h1] at h; cases h
    | some y =>
      cases h2 : evVs t l with
      | none => rw [h1, h2] at h; cases h
      | some ys =>
        rw [h1, h2] at h
        cases h
        exact ⟨_, _, rfl, evV_ok H x y h1, evVs_ok H l ys h2⟩

def VRp (E : Emb) : List (Nat × V) → List (Nat × Value) → Prop
  | [], l => l = []
  | (i, v) :: vs, l => ∃ y ys, l = (i, y) :: ys ∧ VR E v y ∧ VRp E vs ys

theorem evParts_ok (H : SR W E lam t w a.tmps) : ∀ (l : List (Nat × Operand)) (vs : List (Nat × V)), evParts t l = some vs → VRp E vs (l.map fun (i, x) => (i, a.eval x))
  | [], vs, h => by simp only [evParts, Option.some.injEq] at h; subst h; rfl
  | (i, x) :: l, vs, h => by
    simp only [evParts] at h
    cases h1 : evV t x with
    | none => rw [h1] at h; cases h
    | some y =>
      cases h2 : evParts t l with
      | none => rw [h1, h2] at h; cases h
      | some ys =>
        rw [h1, h2] at h
        cases h
        exact ⟨_, _, rfl, evV_ok H x y h1, evParts_ok H l ys h2⟩

/-- Of an operand that may be missing. -/
def VRo (E : Emb) : Option V → Option Value → Prop
  | none, x => x = none
  | some v, x => ∃ y, x = some y ∧ VR E v y

theorem evO_ok (H : SR W E lam t w a.tmps) (x : Option Operand) (v : Option V) (h : evO t x = some v) : VRo E v (x.map a.eval) := by
  cases x with
  | none => simp only [evO, Option.some.injEq] at h; subst h; rfl
  | some x =>
    simp only [evO, Option.map_eq_some_iff] at h
    obtain ⟨y, hy, rfl⟩ := h
    exact ⟨_, rfl, evV_ok H x y hy⟩

/-- A private variable's address: its own temporary, or a place inside. -/
theorem boxSlot_ok (H : SR W E lam t w a.tmps) (x : Operand) (u : V) (hu : ev t x = some u) (d : Tmp) (off : Nat) (hb : boxSlot x u = some (d, off)) (l : List V) (hl : t[d]? = some (.box l)) :
    a.eval x = .pointer (some ⟨lam d, off, none⟩) := by
  unfold boxSlot at hb
  split at hb
  · simp only [Option.some.injEq, Prod.mk.injEq] at hb
    obtain ⟨rfl, rfl⟩ := hb
    have := eval_tmp H _ _ hl
    exact this
  · simp only [Option.some.injEq, Prod.mk.injEq] at hb
    obtain ⟨rfl, rfl⟩ := hb
    cases x with
    | tmp i =>
      simp only [ev, Option.some.injEq] at hu
      cases hi : t[i]? with
      | none => simp [List.getD, hi] at hu
      | some u' =>
        have e1 : t.getD i (.tup []) = u' := by simp [List.getD, hi]
        rw [e1] at hu
        subst hu
        exact eval_tmp H _ _ hi ⟨l, hl⟩
    | const c =>
      exfalso
      have := ofVal_ok E c _ hu
      simp only [VR] at this
    | global g => simp [ev] at hu
    | func f => simp [ev] at hu
  · cases hb

theorem ev_ptr (H : SR W E lam t w a.tmps) (x : Operand) (b : Id) (off : Nat) (hu : ev t x = some (.ptr b off)) : E.dom b ∧ a.eval x = .pointer (some ((E.pl b).addr off)) := by
  have h : evV t x = some (.ptr b off) := by simp [evV, hu, V.isVal]
  have := evV_ok H x _ h
  simpa only [VR] using this
end

/-! ### Types -/

theorem run_sizeOf' (w : World) {t : TypeId} {n : Nat} (h : szOf P t = some n) : (sizeOf t).run P w = .ok n w := by
  simp only [szOf, Option.map_eq_some_iff] at h
  obtain ⟨i, hi, rfl⟩ := h
  simp [sizeOf, typeInfo, hi]
theorem run_isAgg' (w : World) {t : TypeId} {b : Bool} (h : isAggT P t = some b) : (isAgg t).run P w = .ok b w := by
  simp only [isAggT, Option.map_eq_some_iff] at h
  obtain ⟨d, hd, rfl⟩ := h
  simp only [isAgg, Sem.run_bind, run_underlying hd, Result.andThen_ok]
  split <;> simp_all
theorem run_zero' (w : World) {t : TypeId} {v : V} (h : zeroOf P t = some v) : ∃ z, ofVal z = some v ∧ (zeroValue t).run P w = .ok z w := by
  simp only [zeroOf, Option.bind_eq_some_iff] at h
  obtain ⟨z, ⟨i, hi, hz⟩, hv⟩ := h
  exact ⟨z, hv, by simp [zeroValue, typeInfo, hi, hz]⟩

/-! ### Numbers -/

theorem wr_eq (k : IntKind) (n : Int) : wr k n = k.wrap n := by
  unfold wr
  split
  · rename_i h
    obtain ⟨h1, h2⟩ := h
    cases k <;> simp only [loK, hiK] at h1 h2 <;> simp only [IntKind.wrap, IntKind.bits, IntKind.signed] <;> simp <;> omega
  · rfl

/-! ### Parts -/

theorem part_ok {E : Emb} (w : World) (ty : TypeId) (cs : List V) (off : Nat) (v : V) (h : part P ty cs off = some v) (xs : List Value) (hx : VRs E cs xs) (hc : ∀ y ∈ xs, isCell y = true) :
    ∃ y, (Go.part ty ⟨xs⟩ off).run P w = .ok y w ∧ VR E v y := by
  unfold part at h
  cases hag : isAggT P ty with
  | none => rw [hag] at h; cases h
  | some b =>
    rw [hag] at h
    cases b with
    | true =>
      simp only at h
      cases hs : szOf P ty with
      | none => rw [hs] at h; cases h
      | some n =>
        rw [hs] at h
        simp only at h
        split at h
        · cases h
          refine ⟨.agg ⟨(xs.drop off).take n⟩, ?_, ?_⟩
          · simp only [Go.part, Sem.run_bind, run_isAgg' w hag, Result.andThen_ok, if_true, run_sizeOf' w hs, Sem.run_pure]
            congr 2
            apply Array.ext'
            rw [Array.toList_extract, List.extract_eq_take_drop]
            congr 1
            omega
          · simp only [VR]
            exact ⟨_, rfl, (hx.drop off).take n, fun y hy => hc y (List.mem_of_mem_drop (List.mem_of_mem_take hy))⟩
        · cases h
    | false =>
      simp only at h
      obtain ⟨y, hy, hr⟩ := hx.get off v h
      refine ⟨y, ?_, hr⟩
      simp only [Go.part, Sem.run_bind, run_isAgg' w hag, Result.andThen_ok, Bool.false_eq_true, if_false]
      have : (⟨xs⟩ : Array Value)[off]? = some y := by simpa using hy
      rw [this]
      rfl

/-! ### Loads and stores -/

theorem loadVar_ok {E : Emb} {ro : Bool} {l : List V} {c o csz : Nat} {w : World} (h : RowIn E ro l c o csz w.heap) (ty : TypeId) (off : Nat) (v : V)
    (hv : (match isAggT P ty with
      | some true => match szOf P ty with
        | some n => (loadRow l off n).map .agg
        | none => none
      | some false => l[off]?
      | none => none) = some v) : ∃ y, (loadVar ty ⟨c, o + off, none⟩).run P w = .ok y w ∧ VR E v y := by
  cases hag : isAggT P ty with
  | none => rw [hag] at hv; cases hv
  | some b =>
    rw [hag] at hv
    cases b with
    | true =>
      simp only at hv
      cases hs : szOf P ty with
      | none => rw [hs] at hv; cases hv
      | some n =>
        rw [hs] at hv
        simp only [loadRow, Option.map_eq_some_iff] at hv
        obtain ⟨row, hrow, rfl⟩ := hv
        split at hrow
        · rename_i hle
          simp only [Option.some.injEq] at hrow
          subst hrow
          obtain ⟨xs, hxl, hrun, hvr, hcell⟩ := h.cells P off n hle
          refine ⟨.agg ⟨xs⟩, ?_, ?_⟩
          · simp only [loadVar, Sem.run_bind, run_isAgg' w hag, Result.andThen_ok, if_true, run_sizeOf' w hs, hrun, Sem.run_pure]
          · simp only [VR]; exact ⟨xs, rfl, hvr, hcell⟩
        · cases hrow
    | false =>
      simp only at hv
      obtain ⟨x, hx, hr, _⟩ := h.cell off v hv
      refine ⟨x, ?_, hr⟩
      simp only [loadVar, Sem.run_bind, run_isAgg' w hag, Result.andThen_ok, Bool.false_eq_true, if_false, run_load, hx]

theorem Pl.addr_add (p : Pl) (off n : Nat) : (p.addr off).add n = p.addr (off + n) := by
  unfold Addr.add Pl.addr
  split
  · rename_i h; subst h; rfl
  · simp [Nat.add_assoc]
theorem addr_add' (c off n : Nat) : (⟨c, off, none⟩ : Addr).add n = ⟨c, off + n, none⟩ := by
  unfold Addr.add
  split
  · rename_i h; subst h; rfl
  · rfl

end Go.AM

/-
  Equality, operators.
-/
set_option linter.unusedSectionVars false
set_option linter.unusedSimpArgs false
set_option linter.unusedVariables false
namespace Go.AM

variable {P : Program} [Glob P]

theorem str_toList (l : List UInt8) : (ByteArray.mk (Array.mk l)).toList = l := by rw [ByteArray.toList_eq]

theorem eqFields_ok {E : Emb} (w : World) (d : Nat) (eq : TypeId → V → V → Option Bool)
    (ih : ∀ (t : TypeId) (x y : V) (r : Bool), eq t x y = some r → ∀ x' y', VR E x x' → VR E y y' → (Op.equalIn d t x' y').run P w = .ok r w) :
    ∀ (fs : List Field) (xs ys : List V) (r : Bool), eqFields P eq fs xs ys = some r → ∀ xs' ys', VRs E xs xs' → VRs E ys ys' → (∀ y ∈ xs', isCell y = true) → (∀ y ∈ ys', isCell y = true) →
      (Op.eqFields d ⟨xs'⟩ ⟨ys'⟩ fs).run P w = .ok r w
  | [], xs, ys, r, h, xs', ys', _, _, _, _ => by simp only [eqFields, Option.some.injEq] at h; subst h; simp [Op.eqFields]
  | f :: fs, xs, ys, r, h, xs', ys', hx, hy, hcx, hcy => by
    simp only [eqFields] at h
    split at h
    · rename_i hn
      rw [Op.eqFields, if_neg (by simpa using hn)]
      exact eqFields_ok w d eq ih fs xs ys r h xs' ys' hx hy hcx hcy
    · rename_i hn
      split at h
      · rename_i a b ha hb
        obtain ⟨a', ha', hva⟩ := part_ok w f.type xs f.offset a ha xs' hx hcx
        obtain ⟨b', hb', hvb⟩ := part_ok w f.type ys f.offset b hb ys' hy hcy
        rw [Op.eqFields, if_pos (by simpa using hn)]
        simp only [Sem.run_bind, ha', hb', Result.andThen_ok]
        split at h
        · rename_i he
          rw [ih _ _ _ _ he a' b' hva hvb]
          simp only [Result.andThen_ok, Bool.not_true, Bool.false_eq_true, if_false]
          exact eqFields_ok w d eq ih fs xs ys r h xs' ys' hx hy hcx hcy
        · rename_i hne
          cases r with
          | true => exact absurd h hne
          | false =>
            rw [ih _ _ _ _ h a' b' hva hvb]
            simp
      · cases h

theorem eqV_ok {E : Emb} (w : World) : ∀ (d : Nat) (t : TypeId) (x y : V) (r : Bool), eqV P d t x y = some r → ∀ x' y', VR E x x' → VR E y y' → (Op.equalIn d t x' y').run P w = .ok r w
  | 0, t, x, y, r, h, _, _, _, _ => by simp [eqV] at h
  | d + 1, t, x, y, r, h, x', y', hx, hy => by
    simp only [eqV] at h
    split at h
    case h_1 hu => simp only [VR] at hx hy; subst hx hy; cases h; simp [Op.equalIn, run_underlying hu]
    case h_2 hu =>
      simp only [VR] at hx hy; subst hx hy
      split at h
      · rename_i e; subst e; cases h; simp [Op.equalIn, run_underlying hu]
      · cases h
    case h_3 hu =>
      simp only [VR] at hx hy; subst hx hy; cases h
      rw [run_equalIn_string w d t _ _ hu, str_toList, str_toList]
    case h_4 hu => simp only [VR] at hx hy; subst hx hy; cases h; simp [Op.equalIn, run_underlying hu]
    case h_5 hu => simp only [VR] at hx hy; obtain ⟨_, rfl⟩ := hy; subst hx; cases h; simp [Op.equalIn, run_underlying hu]
    case h_6 hu => simp only [VR] at hx hy; obtain ⟨_, rfl⟩ := hx; subst hy; cases h; simp [Op.equalIn, run_underlying hu]
    case h_7 hu => simp only [VR] at hx hy; subst hx hy; cases h; simp [Op.equalIn, run_underlying hu]
    case h_8 hu => simp only [VR] at hx hy; obtain ⟨_, rfl, _⟩ := hy; subst hx; cases h; simp [Op.equalIn, run_underlying hu]
    case h_9 hu => simp only [VR] at hx hy; obtain ⟨_, rfl, _⟩ := hx; subst hy; cases h; simp [Op.equalIn, run_underlying hu]
    case h_10 hu => simp only [VR] at hx hy; subst hx hy; cases h; simp [Op.equalIn, run_underlying hu]
    case h_11 _ _ cap hu => 
      cases cap <;> simp only [VR] at hx hy <;> obtain ⟨_, _, a, rfl, _⟩ := hy <;> subst hx <;> cases h <;> simp [Op.equalIn, run_underlying hu]
    case h_12 _ _ cap hu =>
      cases cap <;> simp only [VR] at hx hy <;> obtain ⟨_, _, a, rfl, _⟩ := hx <;> subst hy <;> cases h <;> simp [Op.equalIn, run_underlying hu]
    case h_13 hu => simp only [VR] at hx hy; subst hx hy; cases h; simp [Op.equalIn, run_underlying hu]
    case h_14 hu => simp only [VR] at hx hy; obtain ⟨_, rfl⟩ := hy; subst hx; cases h; simp [Op.equalIn, run_underlying hu]
    case h_15 hu => simp only [VR] at hx hy; obtain ⟨_, rfl⟩ := hx; subst hy; cases h; simp [Op.equalIn, run_underlying hu]
    case h_16 hu => simp only [VR] at hx hy; subst hx hy; cases h; simp [Op.equalIn, run_underlying hu]
    case h_17 hu => simp only [VR] at hx hy; obtain ⟨_, _, rfl, _⟩ := hy; subst hx; cases h; simp [Op.equalIn, run_underlying hu]
    case h_18 hu => simp only [VR] at hx hy; obtain ⟨_, _, rfl, _⟩ := hx; subst hy; cases h; simp [Op.equalIn, run_underlying hu]
    case h_19 fs xs ys hu =>
      split at h
      · cases h
      · rename_i hp
        simp only [VR] at hx hy
        obtain ⟨xs', rfl, hx, hcx⟩ := hx
        obtain ⟨ys', rfl, hy, hcy⟩ := hy
        have hf : P.fieldsOf t = fs := by simp [Program.fieldsOf, hu]
        rw [run_equalIn_struct w d t _ _ (by rw [hf]; exact hu) (by simpa using hp), hf]
        exact eqFields_ok w d _ (fun t x y r h x' y' => eqV_ok w d t x y r h x' y') _ xs ys r h xs' ys' hx hy hcx hcy
    case h_20 => cases h

/-- What a value of ours is, told by the model's. -/
def headOf : Value → Nat
  | .bool _ => 0 | .int _ _ => 1 | .float _ _ => 2 | .complex _ _ _ => 3 | .string _ => 4 | .pointer none => 5 | .pointer (some _) => 6
  | .slice none _ _ => 7 | .slice (some _) _ _ => 8 | .map none => 9 | .map (some _) => 10 | .chan _ => 11 | .func _ _ _ => 12 | .nilFunc => 13
  | .iface _ _ => 14 | .nilIface => 15 | .agg _ => 16 | .tuple _ => 17
def V.head : V → Nat
  | .bool _ => 0 | .int _ _ => 1 | .str _ => 4 | .nilptr => 5 | .ptr _ _ => 6 | .nilslice => 7 | .slice _ _ _ _ => 8 | .nilmap => 9 | .map _ => 10
  | .func _ _ _ => 12 | .nilfunc => 13 | .iface _ _ => 14 | .niliface => 15 | .agg _ => 16 | .tup _ => 17 | .box _ => 18 | .lref _ _ => 19 | .junk => 20
theorem VR.head {E : Emb} {a : V} {x : Value} (h : VR E a x) : headOf x = a.head := by
  cases a
  case slice b off len cap => cases cap <;> simp only [VR] at h <;> obtain ⟨_, _, _, rfl, _⟩ := h <;> rfl
  case ptr => simp only [VR] at h; obtain ⟨_, rfl⟩ := h; rfl
  case map => simp only [VR] at h; obtain ⟨_, rfl⟩ := h; rfl
  case func => simp only [VR] at h; obtain ⟨_, _, rfl, _⟩ := h; rfl
  case iface => simp only [VR] at h; obtain ⟨_, rfl, _⟩ := h; rfl
  case agg => simp only [VR] at h; obtain ⟨_, rfl, _⟩ := h; rfl
  case tup => simp only [VR] at h; obtain ⟨_, rfl, _⟩ := h; rfl
  all_goals (simp only [VR] at h; first | done | (subst h; rfl))

theorem VR.niliface_inv {E : Emb} {a : V} (h : VR E a .nilIface) : a = .niliface := by
  have := h.head
  cases a <;> first | rfl | (simp [headOf, V.head] at this)
theorem VR.agg_inv {E : Emb} {a : V} {l : Array Value} (h : VR E a (.agg l)) : ∃ m, a = .agg m := by
  have := h.head
  cases a <;> first | exact ⟨_, rfl⟩ | (simp [headOf, V.head] at this)

theorem eqMay_ok {E : Emb} (w : World) (op : BinOp) (t : TypeId) (x y : Operand) (a b : V) (a' b' : Value) (ha : VR E a a') (hb : VR E b b') (h : eqMay P op t x y a b = true) :
    (eqGuard op t x y a' b').run P w = .ok () w := by
  cases op <;> (try (simp [eqGuard]; done))
  all_goals
    unfold eqGuard
    simp only [Bool.not_true, Bool.false_eq_true, if_false]
    split
    · have e1 := ha.niliface_inv
      have e2 := hb.niliface_inv
      subst e1 e2
      simp only [eqMay] at h
      cases x <;> cases y <;> simp at h <;> simp
    · obtain ⟨m, rfl⟩ := ha.agg_inv
      obtain ⟨m', rfl⟩ := hb.agg_inv
      have hg : P.eqGuardType P.depth t = false := by simpa [eqMay] using h
      simp [run_program, hg]
    · rfl

theorem bitsOp_ok {E : Emb} (w : World) (op : BinOp) (k : IntKind) (x y : Int) (v : V) (h : bitsOp op k x y = some v) : ∃ z, (Op.intBits op k x y).run P w = .ok z w ∧ VR E v z := by
  cases op <;> simp only [bitsOp] at h <;> first | (cases h; done) | (cases h; exact ⟨_, by simp only [Op.intBits]; rfl, by simp only [VR, wr_eq]⟩)

theorem cmpOp_ok {E : Emb} (w : World) (op : BinOp) (x y : Int) (v : V) (h : cmpOp op x y = some v) : ∃ z, (Op.intCmp op x y).run P w = .ok z w ∧ VR E v z := by
  cases op <;> simp only [cmpOp] at h <;> first | (cases h; done) | (cases h; exact ⟨_, by simp only [Op.intCmp]; rfl, by simp only [VR]⟩)

theorem shiftOp_ok {E : Emb} (w : World) (op : BinOp) (k yk : IntKind) (x y : Int) (v : V) (h : shiftOp op k x y = some v) : ∃ z, (Op.shift op k x yk y).run P w = .ok z w ∧ VR E v z := by
  unfold shiftOp at h
  split at h
  · cases h
  · rename_i hy
    have e : ∀ n : Nat, ((2 ^ n : Nat) : Int) = 2 ^ n := fun n => by simp
    cases op <;> simp only at h <;> first
      | (cases h; done)
      | (cases h; exact ⟨_, by simp only [Op.shift, if_neg hy]; rfl, by simp only [VR, wr_eq, e]⟩)

theorem intOp_ok {E : Emb} (w : World) (op : BinOp) (k : IntKind) (x y : Int) (v : V) (h : intOp op k x y = some v) (t : TypeId) :
    ∃ z, (binOp op t (.int k x) (.int k y)).run P w = .ok z w ∧ VR E v z := by
  cases op <;> simp only [intOp] at h
  case add => cases h; exact ⟨_, by simp only [binOp, ne_eq, not_true_eq_false, if_false, Op.intArith]; rfl, by simp only [VR, wr_eq]⟩
  case sub => cases h; exact ⟨_, by simp only [binOp, ne_eq, not_true_eq_false, if_false, Op.intArith]; rfl, by simp only [VR, wr_eq]⟩
  case mul => cases h; exact ⟨_, by simp only [binOp, ne_eq, not_true_eq_false, if_false, Op.intArith]; rfl, by simp only [VR, wr_eq]⟩
  case quo =>
    split at h
    · cases h
    · rename_i hy; cases h; exact ⟨_, by simp only [binOp, ne_eq, not_true_eq_false, if_false, Op.intDiv, hy]; rfl, by simp only [VR, wr_eq]⟩
  case rem =>
    split at h
    · cases h
    · rename_i hy; cases h; exact ⟨_, by simp only [binOp, ne_eq, not_true_eq_false, if_false, Op.intDiv, hy]; rfl, by simp only [VR, wr_eq]⟩
  case shl => cases h
  case shr => cases h
  case and => obtain ⟨z, hz, hr⟩ := bitsOp_ok (P := P) (E := E) w _ k x y v h; exact ⟨z, by simp only [binOp, ne_eq, not_true_eq_false, if_false]; exact hz, hr⟩
  case or => obtain ⟨z, hz, hr⟩ := bitsOp_ok (P := P) (E := E) w _ k x y v h; exact ⟨z, by simp only [binOp, ne_eq, not_true_eq_false, if_false]; exact hz, hr⟩
  case xor => obtain ⟨z, hz, hr⟩ := bitsOp_ok (P := P) (E := E) w _ k x y v h; exact ⟨z, by simp only [binOp, ne_eq, not_true_eq_false, if_false]; exact hz, hr⟩
  case andNot => obtain ⟨z, hz, hr⟩ := bitsOp_ok (P := P) (E := E) w _ k x y v h; exact ⟨z, by simp only [binOp, ne_eq, not_true_eq_false, if_false]; exact hz, hr⟩
  all_goals (obtain ⟨z, hz, hr⟩ := cmpOp_ok (P := P) (E := E) w _ x y v h; exact ⟨z, by simp only [binOp, ne_eq, not_true_eq_false, if_false]; exact hz, hr⟩)

theorem strOp_ok {E : Emb} (w : World) (op : BinOp) (x y : List UInt8) (v : V) (h : strOp op x y = some v) : ∃ z, (Op.stringOp op ⟨⟨x⟩⟩ ⟨⟨y⟩⟩).run P w = .ok z w ∧ VR E v z := by
  cases op <;> simp only [strOp] at h <;> (try (cases h; done))
  case add =>
    split at h
    · rename_i hl
      cases h
      refine ⟨.string (⟨⟨x⟩⟩ ++ ⟨⟨y⟩⟩), ?_, ?_⟩
      · simp only [Op.stringOp]
        rw [if_neg (by
          have e1 : ByteArray.size ⟨⟨x⟩⟩ = x.length := rfl
          have e2 : ByteArray.size ⟨⟨y⟩⟩ = y.length := rfl
          rw [e1, e2]
          simp only [room] at hl
          simp [IntKind.max, IntKind.signed, IntKind.bits]
          omega)]
        rfl
      · simp only [VR]
        first | (congr 1; done) | (congr 1; apply ByteArray.ext; first | rfl | simp)
    · cases h
  all_goals (cases h; exact ⟨_, by simp only [Op.stringOp, str_toList]; rfl, by simp only [VR]⟩)

/-- '==' and '!=' of values that are neither numbers nor texts go to the type's own equality. -/
theorem binOp_eql_run (w : World) (t : TypeId) (a' b' : Value) (r : Bool) (h : (Op.equalIn 10000 t a' b').run P w = .ok r w) (h1 : ¬ (headOf a' = 1 ∧ headOf b' = 1)) (h2 : ¬ (headOf a' = 4 ∧ headOf b' = 4))
    (h3 : headOf a' ≠ 2 ∧ headOf a' ≠ 3) :
    (binOp .eql t a' b').run P w = .ok (.bool r) w ∧ (binOp .neq t a' b').run P w = .ok (.bool (!r)) w := by
  cases a' <;> cases b' <;> (first
    | (simp [headOf] at h1; done)
    | (simp [headOf] at h2; done)
    | (simp [headOf] at h3; done)
    | (constructor <;> simp only [binOp] <;> simp [Op.equal, Op.maxDepth, h]))

theorem binV_ok {E : Emb} (w : World) (op : BinOp) (t : TypeId) (a b : V) (v : V) (h : binV P op t a b = some v) (a' b' : Value) (ha : VR E a a') (hb : VR E b b') :
    ∃ z, (binOp op t a' b').run P w = .ok z w ∧ VR E v z := by
  unfold binV at h
  split at h
  · rename_i k x k' y
    simp only [VR] at ha hb
    subst ha hb
    split at h
    · exact (shiftOp_ok (P := P) (E := E) w .shl k k' x y v h).imp fun z hz => ⟨by simp only [binOp]; exact hz.1, hz.2⟩
    · exact (shiftOp_ok (P := P) (E := E) w .shr k k' x y v h).imp fun z hz => ⟨by simp only [binOp]; exact hz.1, hz.2⟩
    · split at h
      · rename_i e; subst e; exact intOp_ok w op k x y v h t
      · cases h
  · simp only [VR] at ha hb
    subst ha hb
    obtain ⟨z, hz, hr⟩ := strOp_ok (P := P) (E := E) w op _ _ v h
    refine ⟨z, ?_, hr⟩
    cases op <;> simp only [binOp] <;> exact hz
  · rename_i hn1 hn2
    have g1 : ¬ (headOf a' = 1 ∧ headOf b' = 1) := by
      rw [ha.head, hb.head]
      rintro ⟨e1, e2⟩
      cases a <;> simp [V.head] at e1
      cases b <;> simp [V.head] at e2
      exact hn1 _ _ _ _ rfl rfl
    have g2 : ¬ (headOf a' = 4 ∧ headOf b' = 4) := by
      rw [ha.head, hb.head]
      rintro ⟨e1, e2⟩
      cases a <;> simp [V.head] at e1
      cases b <;> simp [V.head] at e2
      exact hn2 _ _ rfl rfl
    have g3 : headOf a' ≠ 2 ∧ headOf a' ≠ 3 := by rw [ha.head]; cases a <;> simp [V.head]
    split at h
    · simp only [Option.map_eq_some_iff] at h
      obtain ⟨r, hr, rfl⟩ := h
      exact ⟨_, (binOp_eql_run w t a' b' r (eqV_ok w _ t a b r hr a' b' ha hb) g1 g2 g3).1, by simp [VR]⟩
    · simp only [Option.map_eq_some_iff] at h
      obtain ⟨r, hr, rfl⟩ := h
      exact ⟨_, (binOp_eql_run w t a' b' r (eqV_ok w _ t a b r hr a' b' ha hb) g1 g2 g3).2, by simp [VR]⟩
    · cases h

theorem unV_ok {E : Emb} (w : World) (op : UnOp) (a : V) (v : V) (h : unV op a = some v) (a' : Value) (ha : VR E a a') : ∃ z, (Op.unary op a').run P w = .ok z w ∧ VR E v z := by
  unfold unV at h
  split at h
  · simp only [VR] at ha; subst ha; cases h
    exact ⟨_, by simp only [Op.unary, Op.intArith]; rfl, by simp only [VR, wr_eq]⟩
  · simp only [VR] at ha; subst ha
    obtain ⟨z, hz, hr⟩ := bitsOp_ok (P := P) (E := E) w _ _ _ _ v h
    exact ⟨z, by simp only [Op.unary]; exact hz, hr⟩
  · simp only [VR] at ha; subst ha; cases h
    exact ⟨_, by simp only [Op.unary]; rfl, by simp only [VR]⟩
  · cases h

end Go.AM

/-
  Literals, slice expressions, indexes, lengths.
-/
set_option linter.unusedSectionVars false
set_option linter.unusedSimpArgs false
set_option linter.unusedVariables false
namespace Go.AM

variable {P : Program} [Glob P]

theorem foldl_set (vs : List Value) : ∀ (k j : Nat) (cs : Array Value), j + k + vs.length ≤ cs.size →
    ((vs.zipIdx k).foldl (fun cs (p : Value × Nat) => cs.setIfInBounds (j + p.2) p.1) cs).toList = cs.toList.take (j + k) ++ vs ++ cs.toList.drop (j + k + vs.length) := by
  induction vs with
  | nil => intro k j cs h; simp
  | cons v vs ih =>
    intro k j cs h
    simp only [List.zipIdx_cons, List.foldl_cons]
    rw [ih (k + 1) j _ (by simp at h ⊢; omega)]
    have e := list_seg_step cs.toList (j + k) v vs (by simp at h ⊢; omega)
    simpa [Array.toList_setIfInBounds, Nat.add_assoc, Nat.add_comm 1] using e

theorem fill_step (cs vs : Array Value) (off : Nat) (h : off + vs.size ≤ cs.size) :
    (vs.zipIdx.foldl (fun cs (p : Value × Nat) => cs.setIfInBounds (off + p.2) p.1) cs) = ⟨cs.toList.take off ++ vs.toList ++ cs.toList.drop (off + vs.size)⟩ := by
  apply Array.ext'
  rw [← Array.foldl_toList, Array.toList_zipIdx]
  have := foldl_set vs.toList 0 off cs (by simpa using h)
  simpa using this

theorem fill_ok {E : Emb} (place : Nat → Option (Nat × Nat)) : ∀ (ps : List (Nat × V)) (cs cs' : List V) (ps' : List (Nat × Value)) (xs : List Value),
    fillV place cs ps = some cs' → VRp E ps ps' → VRs E cs xs → (∀ y ∈ xs, isCell y = true) → ∃ xs', Instr.fill place ⟨xs⟩ ps' = some ⟨xs'⟩ ∧ VRs E cs' xs' ∧ (∀ y ∈ xs', isCell y = true)
  | [], cs, cs', ps', xs, h, hp, hx, hc => by
    simp only [VRp] at hp
    subst hp
    simp only [fillV, Option.some.injEq] at h
    subst h
    exact ⟨xs, rfl, hx, hc⟩
  | (i, v) :: ps, cs, cs', ps', xs, h, hp, hx, hc => by
    simp only [VRp] at hp
    obtain ⟨y, ys, rfl, hv, hp⟩ := hp
    simp only [fillV] at h
    cases hpl : place i with
    | none => rw [hpl] at h; cases h
    | some q =>
      obtain ⟨off, size⟩ := q
      rw [hpl] at h
      simp only at h
      split at h
      · rename_i hsz
        obtain ⟨hsz, htup⟩ := hsz
        split at h
        · rename_i cells hst
          have ht : ∀ l, v ≠ .tup l := by rintro l rfl; simp [V.isTup] at htup
          obtain ⟨hcr, hcc⟩ := hv.cells ht
          have hlen := hcr.length
          simp only [Array.length_toList] at hlen
          unfold storeRow at hst
          split at hst
          · rename_i hle
            simp only [Option.some.injEq] at hst
            have hxl := hx.length
            simp only [Instr.fill, hpl]
            rw [if_neg (by simp; omega), fill_step ⟨xs⟩ y.cells off (by simp; omega)]
            refine fill_ok place ps cells cs' ys _ h hp ?_ ?_
            · rw [← hst, hlen]
              exact ((hx.take off).append hcr).append (hx.drop _)
            · intro z hz
              simp only [List.mem_append] at hz
              rcases hz with (hz | hz) | hz
              · exact hc z (List.mem_of_mem_take hz)
              · exact hcc z hz
              · exact hc z (List.mem_of_mem_drop hz)
          · cases hst
        · cases h
      · cases h

theorem places_ok (w : World) : ∀ (fs : List Field) (l : List (Nat × Nat)), placesV P fs = some l →
    ((fs.mapM fun f => do pure (f.offset, ← sizeOf f.type) : Sem (List (Nat × Nat)))).run P w = .ok l w
  | [], l, h => by simp only [placesV, Option.some.injEq] at h; subst h; rfl
  | f :: fs, l, h => by
    simp only [placesV] at h
    cases h1 : szOf P f.type with
    | none => rw [h1] at h; cases h
    | some n =>
      cases h2 : placesV P fs with
      | none => rw [h1, h2] at h; cases h
      | some r =>
        rw [h1, h2] at h
        cases h
        simp only [List.mapM_cons, Sem.run_bind, run_sizeOf' w h1, Result.andThen_ok, Sem.run_pure, places_ok w fs r h2]

theorem build_ok {E : Emb} (w : World) (t : TypeId) (ps : List (Nat × V)) (v : V) (h : buildV P t ps = some v) (ps' : List (Nat × Value)) (hp : VRp E ps ps') :
    ∃ z, (Instr.build t ⟨ps'⟩).run P w = .ok z w ∧ VR E v z := by
  unfold buildV at h
  cases hz : zeroOf P t with
  | none => rw [hz] at h; cases h
  | some z =>
    rw [hz] at h
    simp only at h
    obtain ⟨z', hz', hrz⟩ := run_zero' (P := P) w hz
    have hzr := ofVal_ok E z' z hz'
    cases hu : P.underlying t with
    | none => rw [hu] at h; cases h
    | some d =>
      rw [hu] at h
      have hcells : (∀ l, z ≠ .tup l) → VRs E z.cells z'.cells.toList ∧ ∀ y ∈ z'.cells.toList, isCell y = true := fun hn => hzr.cells hn
      cases d with
      | struct fields =>
        simp only at h
        cases hpl : placesV P fields.toList with
        | none => rw [hpl] at h; cases h
        | some pl =>
          rw [hpl] at h
          simp only at h
          split at h
          · cases h
          · rename_i hnt
            simp only [Option.map_eq_some_iff] at h
            obtain ⟨cs, hf, rfl⟩ := h
            obtain ⟨hr, hc⟩ := hcells (by rintro l rfl; simp [V.isTup] at hnt)
            obtain ⟨xs', hxs, hvr, hcc⟩ := fill_ok (E := E) _ ps z.cells cs ps' z'.cells.toList hf hp hr hc
            refine ⟨.agg ⟨xs'⟩, ?_, by simp only [VR]; exact ⟨xs', rfl, hvr, hcc⟩⟩
            have hm : (fields.mapM fun f => do pure (f.offset, ← sizeOf f.type) : Sem (Array (Nat × Nat))).run P w = .ok pl.toArray w := by
              rw [Array.mapM_eq_mapM_toList]
              simp only [Sem.run_map, places_ok w _ _ hpl, Result.andThen_ok]
            have e : Instr.fill (fun i => pl[i]?) z'.cells ps' = some ⟨xs'⟩ := hxs
            have e2 : Instr.fill (fun x => pl.toArray[x]?) z'.cells ps' = some ⟨xs'⟩ := by
              rw [← e]; congr 1; funext i; simp
            simp only [Instr.build, Sem.run_bind, hrz, Result.andThen_ok, run_underlying hu, hm, e2, Sem.run_pure]
      | array n e =>
        simp only at h
        cases hs : szOf P e with
        | none => rw [hs] at h; cases h
        | some k =>
          rw [hs] at h
          simp only at h
          split at h
          · cases h
          · rename_i hnt
            simp only [Option.map_eq_some_iff] at h
            obtain ⟨cs, hf, rfl⟩ := h
            obtain ⟨hr, hc⟩ := hcells (by rintro l rfl; simp [V.isTup] at hnt)
            obtain ⟨xs', hxs, hvr, hcc⟩ := fill_ok (E := E) _ ps z.cells cs ps' z'.cells.toList hf hp hr hc
            refine ⟨.agg ⟨xs'⟩, ?_, by simp only [VR]; exact ⟨xs', rfl, hvr, hcc⟩⟩
            have e : Instr.fill (fun i => some (i * k, k)) z'.cells ps' = some ⟨xs'⟩ := hxs
            simp only [Instr.build, Sem.run_bind, hrz, Result.andThen_ok, run_underlying hu, run_sizeOf' w hs, e, Sem.run_pure]
      | _ => cases h

/-! ### Bounds -/

theorem bound_ok {E : Emb} (w : World) (x : Option V) (x' : Option Value) (hx : VRo E x x') (d top n : Nat) (h : bound x d top = some n) (code : BoundsCode) :
    (match x' with | some v => Instr.sliceBound v top code | none => pure d).run P w = .ok n w := by
  cases x with
  | none => simp only [VRo] at hx; subst hx; simp only [bound, Option.some.injEq] at h; subst h; rfl
  | some v =>
    simp only [VRo] at hx
    obtain ⟨y, rfl, hv⟩ := hx
    cases v <;> simp only [bound] at h <;> (first | (cases h; done) | skip)
    rename_i k i
    split at h
    · rename_i hb
      simp only [Option.some.injEq] at h
      subst h
      simp only [VR] at hv
      subst hv
      simp [Instr.sliceBound, asIntOf, hb]
    · cases h

theorem bounds_spec {len top : Nat} {lo hi mx : Option V} {a b m : Nat} (h : bounds len top lo hi mx = some (a, b, m)) :
    bound mx top top = some m ∧ bound hi len m = some b ∧ bound lo 0 b = some a ∧ (hi = none → mx = none) := by
  unfold bounds at h
  split at h
  · cases h
  · rename_i hn
    split at h
    · cases h
    · rename_i m' hm
      split at h
      · cases h
      · rename_i b' hb
        split at h
        · cases h
        · rename_i a' ha
          cases h
          refine ⟨hm, hb, ha, fun e => ?_⟩
          subst e
          cases mx with
          | none => rfl
          | some v => exact absurd rfl (hn v rfl)

theorem bound_le {x : Option V} {d top n : Nat} (h : bound x d top = some n) (hd : d ≤ top) : n ≤ top := by
  unfold bound at h
  split at h
  · simp only [Option.some.injEq] at h; omega
  · split at h
    · simp only [Option.some.injEq] at h; omega
    · cases h
  · cases h

theorem sliceBounds_ok {E : Emb} (w : World) (isSlice : Bool) (len top : Nat) (lo hi mx : Option V) (lo' hi' mx' : Option Value) (h1 : VRo E lo lo') (h2 : VRo E hi hi') (h3 : VRo E mx mx') (a b m : Nat)
    (hm : bound mx top top = some m) (hb : bound hi len m = some b) (ha : bound lo 0 b = some a) (hn : hi = none → mx = none) :
    (Instr.sliceBounds isSlice len top lo' hi' mx').run P w = .ok (a, b, m) w := by
  have em : ∀ code, (match mx' with | some v => Instr.sliceBound v top code | none => pure top).run P w = .ok m w := fun code => bound_ok w mx mx' h3 top top m hm code
  have eb : ∀ code, (match hi' with | some v => Instr.sliceBound v m code | none => pure len).run P w = .ok b w := fun code => bound_ok w hi hi' h2 len m b hb code
  have ea : ∀ code, (match lo' with | some v => Instr.sliceBound v b code | none => pure 0).run P w = .ok a w := fun code => bound_ok w lo lo' h1 0 b a ha code
  have hh : hi' = none → mx' = none := by
    intro e
    have : hi = none := by
      cases hi with
      | none => rfl
      | some v => obtain ⟨y, hy, _⟩ := h2; rw [e] at hy; cases hy
    have := hn this
    subst this
    exact h3
  unfold Instr.sliceBounds
  cases mx' with
  | none =>
    cases hi' with
    | none =>
      have e1 := em .index; have e2 := eb .index; have e3 := fun c => ea c
      simp only [Sem.run_bind, Sem.run_pure, Result.andThen_ok] at e1 e2 ⊢
      cases e1; cases e2
      cases lo' with
      | none => have := ea .index; simp only [Sem.run_pure] at this; cases this; rfl
      | some l => have := ea .sliceB; simp only at this; simp [this]
    | some hv =>
      have e1 := em .index
      simp only [Sem.run_pure] at e1
      cases e1
      cases lo' with
      | none =>
        have := ea .index; simp only [Sem.run_pure] at this; cases this
        have e2 := eb (if isSlice then .sliceAcap else .sliceAlen)
        simp only at e2
        simp [e2]
      | some l =>
        have e3 := ea .sliceB
        have e2 := eb (if isSlice then .sliceAcap else .sliceAlen)
        simp only at e2 e3
        simp [e2, e3]
  | some mv =>
    cases hi' with
    | none => cases hh rfl
    | some hv =>
      have e1 := em (if isSlice then .slice3Acap else .slice3Alen)
      have e2 := eb .slice3B
      simp only at e1 e2
      cases lo' with
      | none =>
        have := ea .index; simp only [Sem.run_pure] at this; cases this
        simp [e1, e2]
      | some l =>
        have e3 := ea .slice3C
        simp only at e3
        simp [e1, e2, e3]

end Go.AM
