/-
  A run under promises: at places that we name, an operation's value is told beforehand; what must then be shown is gathered.
-/
import Derived.Test.YtmokkkbbbmcjnaaGreatDoorAmExec
set_option linter.unusedSimpArgs false
set_option linter.unusedVariables false
namespace Go.AM

/-- Which function, which temporary, what value: in the order in which the run meets them. -/
abbrev Orc := List (FuncId × Tmp × V)

/-- What is promised: an operation on two values. -/
structure Ob where
  op : BinOp
  ty : TypeId
  a : V
  b : V
  v : V

abbrev CallO := FuncId → List V → Heap → Orc → Option (V × Heap × Orc × List Ob)

section
variable (P : Program)

def Ob.ok (x : Ob) : Prop := binV P x.op x.ty x.a x.b = some x.v

def Obs (l : List Ob) : Prop := ∀ x ∈ l, x.ok P

def told (f : FuncId) (o : Oper) : Orc → Option (V × Orc)
  | (g, d, v) :: O => match o.dst with
    | some d' => if Nat.beq g f && Nat.beq d d' then some (v, O) else none
    | none => none
  | [] => none

def stepO (call : CallO) (f : FuncId) (L : List Tmp) (o : Oper) (t : List V) (h : Heap) (O : Orc) : Option (R × Orc × List Ob) :=
  match told f o O with
  | some (v, O') => match o.op with
    | .binOp op ty x y _ => match evV t x, evV t y with
      | some a, some b => if eqMay P op ty x y a b then some ((v, t, h), O', [⟨op, ty, a, b, v⟩]) else none
      | _, _ => none
    | _ => none
  | none => match o.op with
    | .call c => match c.callee with
      | .value fv => match evV t fv, evVs t c.args.toList with
        | some (.func (.func g) first captured), some args => if plainFn P g then (match call g (first ++ args ++ captured) h O with
            | some (v, h, O, obs) => some ((v, t, h), O, obs)
            | none => none) else none
        | _, _ => none
      | _ => (step P (fun _ _ _ => none) L o t h).map (·, O, [])
    | _ => (step P (fun _ _ _ => none) L o t h).map (·, O, [])

def runO (call : CallO) (f : FuncId) (L : List Tmp) (ops : Array Oper) : List Oper → St → Orc → Option (St × Orc × List Ob)
  | [], s, O => some (s, O, [])
  | o :: l, s, O => match wantedV ops s.t o with
    | some true => match stepO P call f L o s.t s.h O with
      | some ((v, t, h), O, obs) => if okBox L o.dst v then match runO call f L ops l ⟨putV t o.dst v, h⟩ O with
          | some (s, O, obs') => some (s, O, obs ++ obs')
          | none => none
        else none
      | none => none
    | some false => runO call f L ops l ⟨putV s.t o.dst (.tup []), s.h⟩ O
    | none => none

def runDrawO (call : CallO) (f : FuncId) (L : List Tmp) (ops : Array Oper) : List Oper → List Nat → List Foot → St → Orc → Option (St × Orc × List Ob)
  | o :: l, m :: ms, fs, s, O => match wantedV ops s.t o with
    | some true => match stepO P call f L o s.t { s.h with lo := s.h.next } O with
      | some ((v, t, h), O, obs) =>
        if apartAll m (foot o s.t (Nat.ble s.h.next h.lo)) 0 fs && !v.isBox then match runDrawO call f L ops l ms (fs ++ [foot o s.t (Nat.ble s.h.next h.lo)]) ⟨putV t o.dst v, { h with lo := min s.h.lo h.lo }⟩ O with
          | some (s, O, obs') => some (s, O, obs ++ obs')
          | none => none
        else none
      | none => none
    | some false => if apartAll m .quiet 0 fs then runDrawO call f L ops l ms (fs ++ [.quiet]) ⟨putV s.t o.dst (.tup []), s.h⟩ O else none
    | none => none
  | [], _, _, s, O => some (s, O, [])
  | _, _, _, _, _ => none

def roundsO (body : St → Orc → Option (E × St × Orc × List Ob)) : Nat → St → Orc → Option (E × St × Orc × List Ob)
  | 0, _, _ => none
  | n + 1, s, O => match body s O with
    | some (.normal, s, O, obs) => match roundsO body n s O with
      | some (e, s, O, obs') => some (e, s, O, obs ++ obs')
      | none => none
    | r => r

def execO (call : CallO) (f : FuncId) (L : List Tmp) (n : Nat) : Code → St → Orc → Option (E × St × Orc × List Ob)
  | .skip, s, O => some (.normal, s, O, [])
  | .region _ ops draw, s, O =>
    if draw then (if drawOk L ops then ((runDrawO P call f L ops ops.toList (befs ops.toList []) [] s O).map fun (s, O, obs) => (.normal, s, O, obs)) else none)
    else (runO P call f L ops ops.toList s O).map fun (s, O, obs) => (.normal, s, O, obs)
  | .seq a b, s, O => match execO call f L n a s O with
    | some (.normal, s, O, obs) => match execO call f L n b s O with
      | some (e, s, O, obs') => some (e, s, O, obs ++ obs')
      | none => none
    | r => r
  | .cond c a b, s, O => match evV s.t c with
    | some (.bool x) => if x then execO call f L n a s O else execO call f L n b s O
    | _ => none
  | .block id c, s, O => match execO call f L n c s O with
    | some (.exit k, s, O, obs) => if k = id then some (.normal, s, O, obs) else some (.exit k, s, O, obs)
    | r => r
  | .loop c, s, O => roundsO (execO call f L n c) n s O
  | .exit id, s, O => some (.exit id, s, O, [])
  | .ret, s, O => some (.ret, s, O, [])
  | _, _, _ => none

def callO (X : Ext) : Nat → CallO
  | 0 => fun _ _ _ _ => none
  | n + 1 => fun f args h O =>
    match X f with
    | some g => (g args h).map fun (v, h) => (v, h, O, [])
    | none => match P.funcs[f]? with
      | some fn => match fn.body with
        | some c => match execO P (callO X n) f (localsOf c) n c ⟨args ++ List.replicate (fn.ntmps - args.length) (.tup []), h⟩ O with
          | some (.exit _, _, _, _) => none
          | some (_, s, O, obs) => (resultsV P fn s).map (·, s.h, O, obs)
          | none => none
        | none => none
      | none => none

variable {P}

theorem Obs.left {a b : List Ob} (h : Obs P (a ++ b)) : Obs P a := fun x hx => h x (List.mem_append_left _ hx)
theorem Obs.right {a b : List Ob} (h : Obs P (a ++ b)) : Obs P b := fun x hx => h x (List.mem_append_right _ hx)

/-- The run under promises tells of the run. -/
def Told (P : Program) (callP : CallF) (call : CallO) : Prop := ∀ f args h O v h' O' obs, call f args h O = some (v, h', O', obs) → Obs P obs → callP f args h = some (v, h')

variable {callP : CallF} {call : CallO} (hc : Told P callP call)
include hc

omit hc in
theorem step_plain {L : List Tmp} {o : Oper} {t : List V} {h : Heap} {r : R} (hn : ∀ c fv, o.op = .call c → c.callee ≠ .value fv) (hs : step P (fun _ _ _ => none) L o t h = some r) : step P callP L o t h = some r := by
  rw [← hs]
  unfold step
  split <;> try rfl
  rename_i c hop
  split <;> try rfl
  rename_i fv hcal
  exact absurd hcal (hn c fv hop)

theorem stepO_ok {f : FuncId} {L : List Tmp} {o : Oper} {t : List V} {h : Heap} {O O' : Orc} {r : R} {obs : List Ob} (hs : stepO P call f L o t h O = some (r, O', obs)) (hobs : Obs P obs) : step P callP L o t h = some r := by
  unfold stepO at hs
  split at hs
  · rename_i v O1 htold
    split at hs
    · rename_i op ty x y fl hop
      split at hs
      · rename_i a b ha hb
        split at hs
        · rename_i hmay
          simp only [Option.some.injEq, Prod.mk.injEq] at hs
          obtain ⟨rfl, rfl, rfl⟩ := hs
          have := hobs ⟨op, ty, a, b, v⟩ (by simp)
          unfold Ob.ok at this
          simp only at this
          unfold step
          rw [hop]
          simp only [ha, hb, hmay, if_true, this, Option.map_some]
        · cases hs
      · cases hs
    · cases hs
  · split at hs
    · rename_i c hop
      split at hs
      · rename_i fv hcal
        split at hs
        · rename_i g first captured args hf hargs
          split at hs
          · rename_i hpl
            split at hs
            · rename_i v h1 O1 obs1 hcall
              simp only [Option.some.injEq, Prod.mk.injEq] at hs
              obtain ⟨rfl, rfl, rfl⟩ := hs
              have := hc _ _ _ _ _ _ _ _ hcall hobs
              unfold step
              rw [hop]
              simp only [hcal, hf, hargs, callV, hpl, if_true, this, Option.map_some]
            · cases hs
          · cases hs
        · cases hs
      · rename_i hne
        simp only [Option.map_eq_some_iff, Prod.mk.injEq] at hs
        obtain ⟨r', hr, rfl, _, _⟩ := hs
        exact step_plain (fun c' fv he => by rw [hop] at he; cases he; exact hne fv) hr
    · rename_i hne
      simp only [Option.map_eq_some_iff, Prod.mk.injEq] at hs
      obtain ⟨r', hr, rfl, _, _⟩ := hs
      exact step_plain (fun c' fv he => absurd he (hne c')) hr

theorem runO_ok {f : FuncId} {L : List Tmp} {ops : Array Oper} : ∀ (l : List Oper) (s s' : St) (O O' : Orc) (obs : List Ob), runO P call f L ops l s O = some (s', O', obs) → Obs P obs → runOps P callP L ops l s = some s'
  | [], s, s', O, O', obs, h, _ => by simp only [runO, Option.some.injEq, Prod.mk.injEq] at h; rw [← h.1]; rfl
  | o :: l, s, s', O, O', obs, h, hobs => by
    simp only [runO] at h
    unfold runOps stepIf
    split at h
    · rename_i hw
      split at h
      · rename_i v t h1 O1 obs1 hst
        split at h
        · rename_i hbx
          split at h
          · rename_i s1 O2 obs2 hrun
            simp only [Option.some.injEq, Prod.mk.injEq] at h
            obtain ⟨rfl, rfl, rfl⟩ := h
            simp only [hw, stepO_ok hc hst hobs.left, hbx, if_true]
            exact runO_ok l _ _ _ _ _ hrun hobs.right
          · cases h
        · cases h
      · cases h
    · rename_i hw
      simp only [hw]
      exact runO_ok l _ _ _ _ _ h hobs
    · cases h

theorem runDrawO_ok {f : FuncId} {L : List Tmp} {ops : Array Oper} : ∀ (l : List Oper) (ms : List Nat) (fs : List Foot) (s s' : St) (O O' : Orc) (obs : List Ob), runDrawO P call f L ops l ms fs s O = some (s', O', obs) → Obs P obs → runDraw P callP L ops l ms fs s = some s'
  | [], _, _, s, s', O, O', obs, h, _ => by simp only [runDrawO, Option.some.injEq, Prod.mk.injEq] at h; rw [← h.1]; simp only [runDraw]
  | o :: l, [], _, s, s', O, O', obs, h, _ => by simp [runDrawO] at h
  | o :: l, m :: ms, fs, s, s', O, O', obs, h, hobs => by
    simp only [runDrawO] at h
    unfold runDraw
    split at h
    · rename_i hw
      split at h
      · rename_i v t h1 O1 obs1 hst
        split at h
        · rename_i hap
          split at h
          · rename_i s1 O2 obs2 hrun
            simp only [Option.some.injEq, Prod.mk.injEq] at h
            obtain ⟨rfl, rfl, rfl⟩ := h
            simp only [hw, stepO_ok hc hst hobs.left, hap, if_true]
            exact runDrawO_ok l _ _ _ _ _ _ _ hrun hobs.right
          · cases h
        · cases h
      · cases h
    · rename_i hw
      simp only [hw]
      split at h
      · rename_i hap
        simp only [hap, if_true]
        exact runDrawO_ok l _ _ _ _ _ _ _ h hobs
      · cases h
    · cases h

omit hc in
theorem roundsO_ok {body : St → Option (E × St)} {bodyO : St → Orc → Option (E × St × Orc × List Ob)} (hb : ∀ s O e s' O' obs, bodyO s O = some (e, s', O', obs) → Obs P obs → body s = some (e, s')) :
    ∀ (n : Nat) (s : St) (O : Orc) (e : E) (s' : St) (O' : Orc) (obs : List Ob), roundsO bodyO n s O = some (e, s', O', obs) → Obs P obs → rounds body n s = some (e, s')
  | 0, s, O, e, s', O', obs, h, _ => by simp [roundsO] at h
  | n + 1, s, O, e, s', O', obs, h, hobs => by
    simp only [roundsO] at h
    unfold rounds
    split at h
    · rename_i s1 O1 obs1 h1
      split at h
      · rename_i e2 s2 O2 obs2 h2
        simp only [Option.some.injEq, Prod.mk.injEq] at h
        obtain ⟨rfl, rfl, rfl, rfl⟩ := h
        rw [hb _ _ _ _ _ _ h1 hobs.left]
        exact roundsO_ok hb n _ _ _ _ _ _ h2 hobs.right
      · cases h
    · rename_i hne
      rw [hb _ _ _ _ _ _ h hobs]
      cases e with
      | normal => exact absurd h (hne _ _ _)
      | exit k => rfl
      | ret => rfl

theorem execO_ok {f : FuncId} {L : List Tmp} {n : Nat} : ∀ (c : Code) (s s' : St) (e : E) (O O' : Orc) (obs : List Ob), execO P call f L n c s O = some (e, s', O', obs) → Obs P obs → exec P callP L n c s = some (e, s')
  | .skip, s, s', e, O, O', obs, h, _ => by simp only [execO, Option.some.injEq, Prod.mk.injEq] at h; simp only [exec, Option.some.injEq, Prod.mk.injEq]; exact ⟨h.1, h.2.1⟩
  | .exit _, s, s', e, O, O', obs, h, _ => by simp only [execO, Option.some.injEq, Prod.mk.injEq] at h; simp only [exec, Option.some.injEq, Prod.mk.injEq]; exact ⟨h.1, h.2.1⟩
  | .ret, s, s', e, O, O', obs, h, _ => by simp only [execO, Option.some.injEq, Prod.mk.injEq] at h; simp only [exec, Option.some.injEq, Prod.mk.injEq]; exact ⟨h.1, h.2.1⟩
  | .region _ ops draw, s, s', e, O, O', obs, h, hobs => by
    simp only [execO] at h
    simp only [exec]
    split at h
    · rename_i hd
      rw [if_pos hd]
      split at h
      · rename_i hk
        rw [if_pos hk]
        simp only [Option.map_eq_some_iff, Prod.mk.injEq, Prod.exists] at h ⊢
        obtain ⟨s1, O1, obs1, h1, h2, h3, h4, h5⟩ := h
        exact ⟨s1, runDrawO_ok hc _ _ _ _ _ _ _ _ h1 (h5 ▸ hobs), h2, h3⟩
      · cases h
    · rename_i hd
      rw [if_neg hd]
      simp only [Option.map_eq_some_iff, Prod.mk.injEq, Prod.exists] at h ⊢
      obtain ⟨s1, O1, obs1, h1, h2, h3, h4, h5⟩ := h
      exact ⟨s1, runO_ok hc _ _ _ _ _ _ h1 (h5 ▸ hobs), h2, h3⟩
  | .seq a b, s, s', e, O, O', obs, h, hobs => by
    simp only [execO] at h
    simp only [exec]
    split at h
    · rename_i s1 O1 obs1 h1
      split at h
      · rename_i e2 s2 O2 obs2 h2
        simp only [Option.some.injEq, Prod.mk.injEq] at h
        obtain ⟨rfl, rfl, rfl, rfl⟩ := h
        rw [execO_ok a _ _ _ _ _ _ h1 hobs.left]
        exact execO_ok b _ _ _ _ _ _ h2 hobs.right
      · cases h
    · rename_i hne
      rw [execO_ok a _ _ _ _ _ _ h hobs]
      cases e with
      | normal => exact absurd h (hne _ _ _)
      | exit k => rfl
      | ret => rfl
  | .cond c a b, s, s', e, O, O', obs, h, hobs => by
    simp only [execO] at h
    simp only [exec]
    split at h
    · rename_i x hx
      simp only [hx]
      split at h
      · rename_i hxt
        rw [if_pos hxt]
        exact execO_ok a _ _ _ _ _ _ h hobs
      · rename_i hxt
        rw [if_neg hxt]
        exact execO_ok b _ _ _ _ _ _ h hobs
    · cases h
  | .block id c, s, s', e, O, O', obs, h, hobs => by
    simp only [execO] at h
    simp only [exec]
    split at h
    · rename_i k s1 O1 obs1 h1
      split at h
      · rename_i hk
        simp only [Option.some.injEq, Prod.mk.injEq] at h
        obtain ⟨rfl, rfl, rfl, rfl⟩ := h
        rw [execO_ok c _ _ _ _ _ _ h1 hobs]
        simp only [hk, if_true]
      · rename_i hk
        simp only [Option.some.injEq, Prod.mk.injEq] at h
        obtain ⟨rfl, rfl, rfl, rfl⟩ := h
        rw [execO_ok c _ _ _ _ _ _ h1 hobs]
        simp only [hk, if_false]
    · rename_i hne
      rw [execO_ok c _ _ _ _ _ _ h hobs]
      cases e with
      | normal => rfl
      | exit k => exact absurd h (hne _ _ _ _)
      | ret => rfl
  | .loop c, s, s', e, O, O', obs, h, hobs => by
    simp only [execO] at h
    simp only [exec]
    exact roundsO_ok (fun s O e s' O' obs h hobs => execO_ok c s s' e O O' obs h hobs) n _ _ _ _ _ _ h hobs
  | .rangeFunc _ _ _ _, s, s', e, O, O', obs, h, hobs => by simp [execO] at h
  | .scope _, s, s', e, O, O', obs, h, hobs => by simp [execO] at h
  | .label _, s, s', e, O, O', obs, h, hobs => by simp [execO] at h
  | .goto _, s, s', e, O, O', obs, h, hobs => by simp [execO] at h
  | .refuse _, s, s', e, O, O', obs, h, hobs => by simp [execO] at h

omit hc in
theorem callO_ok (X : Ext) : ∀ n, Told P (callN P X n) (callO P X n)
  | 0 => by intro f args h O v h' O' obs hc; cases hc
  | n + 1 => by
    intro f args h O v h' O' obs hc hobs
    simp only [callO] at hc
    simp only [callN]
    split at hc
    · rename_i g hg
      simp only [Option.map_eq_some_iff, Prod.mk.injEq, Prod.exists] at hc
      obtain ⟨v1, h1, hg1, rfl, rfl, _, _⟩ := hc
      simp only [hg]
      exact hg1
    · rename_i hX
      simp only [hX]
      split at hc
      · rename_i fn hfn
        split at hc
        · rename_i c hb
          split at hc
          · cases hc
          · rename_i e s O1 obs1 hne hex
            simp only [Option.map_eq_some_iff, Prod.mk.injEq] at hc
            obtain ⟨u, hu, rfl, rfl, rfl, rfl⟩ := hc
            have := execO_ok (callO_ok X n) _ _ _ _ _ _ _ hex hobs
            simp only [hfn, hb, this]
            cases e with
            | normal => simp [hu]
            | ret => simp [hu]
            | exit k => exact absurd rfl (hne k)
          · cases hc
        · cases hc
      · cases hc

/-- What we ask of a run: its value, and what is promised. -/
def toldRun (P : Program) (X : Ext) (n : Nat) (f : FuncId) (args : List V) (O : Orc) : Option (V × List Ob) :=
  (callO P X n f args ⟨0, 0, .leaf⟩ O).map fun r => (r.1, r.2.2.2)

omit hc in
theorem run_of_told {X : Ext} {n : Nat} {f : FuncId} {args : List V} {O : Orc} {v : V} {obs : List Ob} (h : toldRun P X n f args O = some (v, obs)) (hobs : Obs P obs) : ∃ h', callN P X n f args ⟨0, 0, .leaf⟩ = some (v, h') := by
  simp only [toldRun, Option.map_eq_some_iff, Prod.mk.injEq, Prod.exists] at h
  obtain ⟨v1, h1, O1, obs1, hc, rfl, rfl⟩ := h
  exact ⟨h1, callO_ok X n _ _ _ _ _ _ _ _ hc hobs⟩

end
end Go.AM

/-
  Functions whose arguments and results hold no address: what they tell from empty memory, they tell from any.
-/
set_option linter.unusedSectionVars false
set_option linter.unusedSimpArgs false
set_option linter.unusedVariables false
namespace Go.AM

mutual
def flat : V → Bool
  | .bool _ | .int _ _ | .str _ | .nilptr | .nilslice | .nilmap | .nilfunc | .niliface => true
  | .iface _ v => flat v
  | .agg l => flats l
  | .tup l => flats l
  | _ => false
def flats : List V → Bool
  | [] => true
  | v :: l => flat v && flats l
end

mutual
theorem VR.flat {E E' : Emb} : ∀ (v : V) (x : Value), AM.flat v = true → VR E v x → VR E' v x
  | .bool _, _, _, hv | .int _ _, _, _, hv | .str _, _, _, hv | .nilptr, _, _, hv | .nilslice, _, _, hv | .nilmap, _, _, hv | .nilfunc, _, _, hv | .niliface, _, _, hv => by
    simpa only [VR] using hv
  | .iface t v, x, hf, hv => by
    simp only [VR] at hv ⊢
    simp only [AM.flat] at hf
    obtain ⟨y, e, h1⟩ := hv
    exact ⟨y, e, VR.flat v y hf h1⟩
  | .agg l, x, hf, hv => by
    simp only [VR] at hv ⊢
    simp only [AM.flat] at hf
    obtain ⟨y, e, h1, h2⟩ := hv
    exact ⟨y, e, VRs.flat l y hf h1, h2⟩
  | .tup l, x, hf, hv => by
    simp only [VR] at hv ⊢
    simp only [AM.flat] at hf
    obtain ⟨y, e, h1⟩ := hv
    exact ⟨y, e, VRs.flat l y hf h1⟩
  | .ptr _ _, _, hf, _ | .slice _ _ _ _, _, hf, _ | .map _, _, hf, _ | .func _ _ _, _, hf, _ | .box _, _, hf, _ | .lref _ _, _, hf, _ | .junk, _, hf, _ => by simp [AM.flat] at hf
theorem VRs.flat {E E' : Emb} : ∀ (l : List V) (xs : List Value), AM.flats l = true → VRs E l xs → VRs E' l xs
  | [], xs, _, h => by simpa only [VRs] using h
  | v :: l, xs, hf, h => by
    simp only [VRs] at h ⊢
    simp only [AM.flats, Bool.and_eq_true] at hf
    obtain ⟨y, ys, e, h1, h2⟩ := h
    exact ⟨y, ys, e, VR.flat v y hf.1 h1, VRs.flat l ys hf.2 h2⟩
end

/-- Empty memory. -/
abbrev h0 : Heap := ⟨0, 0, .leaf⟩

def noEmb : Emb := ⟨fun _ => False, fun _ => ⟨0, 0, 0, 0⟩⟩

variable {P : Program} [Glob P]

theorem HR.none (w : World) (lim : Nat) (G : Glob.ok P (fun c => w.heap.size ≤ c) w) : HR P (fun c => w.heap.size ≤ c) lim noEmb h0 w :=
  ⟨fun _ h => h.elim, fun _ h => h.elim, fun _ _ _ _ h => h.elim, fun _ h => h.elim, fun _ _ _ _ h => h.elim, fun _ _ h => h.elim, fun _ h => h, G, fun _ _ _ h => h.elim⟩

theorem flat_call {call : CallF} (hc : CallOk P call) {f : FuncId} {args : List V} {v : V} {h' : Heap} (hrun : call f args h0 = some (v, h')) (hargs : flats args = true) (hv : flat v = true) (E : Emb) (w : World) (args' : List Value) (hr : VRs E args args') (G : Glob.ok P (fun c => w.heap.size ≤ c) w) :
    Calls P f ⟨args'⟩ w fun e w' => ∃ x, e = .returned x ∧ VR E v x ∧ Same (fun c => w.heap.size ≤ c) w w' := by
  refine Calls.mono (hc f args h0 v h' hrun (fun c => w.heap.size ≤ c) h'.next noEmb w args' (Nat.le_refl _) (HR.none w _ G) (VRs.flat _ _ hargs hr)) ?_
  rintro e w' ⟨x, E', rfl, _, hx, fw⟩
  exact ⟨x, rfl, VR.flat _ _ hv hx, fw.same⟩

theorem callOk_flat {call : CallF} (hc : CallOk P call) (f : FuncId) (args : List V) (v : V) (h' : Heap) (hrun : call f args h0 = some (v, h')) (hargs : flats args = true) (hv : flat v = true) (h : Heap) (W : Nat → Prop) (lim : Nat) (E : Emb) (w : World) (args' : List Value)
    (H : HR P W lim E h w) (hr : VRs E args args') : Calls P f ⟨args'⟩ w fun e w' => ∃ x E', e = .returned x ∧ HR P W lim E' h w' ∧ VR E' v x ∧ Fwd W E h w E' h w' := by
  refine Calls.mono (flat_call hc hrun hargs hv E w args' hr (Glob.sub H.glob (fun c hc => .inr hc))) ?_
  rintro e w' ⟨x, rfl, hx, hs⟩
  refine ⟨x, E, rfl, ⟨H.lt, fun b hb => Nat.lt_of_lt_of_le (H.size b hb) hs.size, fun b ro ty l hb hg => (H.row b ro ty l hb hg).of_eq (hs.heap _ (fun h1 => absurd (H.size b hb) (Nat.not_lt.2 h1))), H.own, H.esz, H.inj, fun c hc => H.top c (Nat.le_trans hs.size hc), Glob.same H.glob hs.size (fun c hc => hs.heap c (fun h1 => hc (H.top c h1))), fun b ty l hb hg => by rw [shape_of (hs.heap _ (fun h1 => absurd (H.size b hb) (Nat.not_lt.2 h1)))]; exact H.bld b ty l hb hg⟩, hx, Emb.le_refl E, fun b hb => .inl hb, hs.weaken H.top, Nat.le_refl _⟩

/-- A function that we know by heart. -/
abbrev FlatF := FuncId × (List V → Option V)

def find (f : FuncId) : List FlatF → Option (List V → Option V)
  | [] => none
  | (k, g) :: l => if Nat.beq k f then some g else find f l

def flatExt (l : List FlatF) : Ext := fun f => (find f l).map fun g args h => (g args).map (·, h)

/-- What we know by heart is what the function tells. -/
def Knows (P : Program) (X : Ext) (x : FlatF) : Prop := ∀ args v, x.2 args = some v → flats args = true ∧ flat v = true ∧ ∃ n h', callN P X n x.1 args h0 = some (v, h')

theorem flatExt_mono (l : List FlatF) : ExtMono (flatExt l) := by
  intro f g hg args h v h' hr
  simp only [flatExt, Option.map_eq_some_iff] at hg
  obtain ⟨k, _, rfl⟩ := hg
  simp only [Option.map_eq_some_iff, Prod.mk.injEq] at hr
  obtain ⟨_, _, _, rfl⟩ := hr
  exact Mono.refl _

theorem find_mem {f : FuncId} {g : List V → Option V} : ∀ {l : List FlatF}, find f l = some g → (f, g) ∈ l
  | [], h => by cases h
  | (k, g') :: l, h => by
    simp only [find] at h
    split at h
    · rename_i hk
      cases h
      rw [Nat.eq_of_beq_eq_true hk]; exact List.mem_cons_self
    · exact List.mem_cons_of_mem _ (find_mem h)

theorem flatExt_ok (hm : P.follows .mixedOrders = true) {l : List FlatF} (hl : ∀ x ∈ l, ∃ X, ExtOk P X ∧ ExtMono X ∧ Knows P X x) : ExtOk P (flatExt l) := by
  intro f g hg
  simp only [flatExt, Option.map_eq_some_iff] at hg
  obtain ⟨k, hk, rfl⟩ := hg
  obtain ⟨X, hX, hXm, hkn⟩ := hl _ (find_mem hk)
  intro f' args h v h' hr W lim E w args' hlim H hvr
  simp only at hr
  split at hr
  · rename_i hf
    subst hf
    simp only [Option.map_eq_some_iff, Prod.mk.injEq] at hr
    obtain ⟨v', hv', rfl, rfl⟩ := hr
    obtain ⟨h1, h2, n, h3, h4⟩ := hkn args v' hv'
    exact callOk_flat (callN_ok hm X hX hXm n) f' args v' h3 h4 h1 h2 h W lim E w args' H hvr
  · cases hr

theorem noExt_ok : ExtOk P (flatExt []) := by intro f g hg; cases hg

end Go.AM
