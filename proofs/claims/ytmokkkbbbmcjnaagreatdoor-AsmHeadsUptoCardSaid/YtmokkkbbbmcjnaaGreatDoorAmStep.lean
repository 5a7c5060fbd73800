/-
  An operation, in its text's place.
-/
import Derived.Test.YtmokkkbbbmcjnaaGreatDoorAmMono
set_option linter.unusedSectionVars false
set_option linter.unusedSimpArgs false
set_option linter.unusedVariables false
namespace Go.AM

variable {P : Program} [Glob P]

/-- From one state of memory to a later one. -/
structure Fwd (W : Nat → Prop) (E : Emb) (h : Heap) (w : World) (E' : Emb) (h' : Heap) (w' : World) : Prop where
  le : E.le E'
  new : ∀ b, E'.dom b → E.dom b ∨ (h.next ≤ b ∧ b < h'.next ∧ W (E'.pl b).c)
  same : Same W w w'
  next : h.next ≤ h'.next

theorem Fwd.refl (W : Nat → Prop) (E : Emb) (h : Heap) (w : World) : Fwd W E h w E h w := ⟨Emb.le_refl E, fun _ h => .inl h, Same.refl W w, Nat.le_refl _⟩
theorem Fwd.trans {W : Nat → Prop} {E E' E'' : Emb} {h h' h'' : Heap} {w w' w'' : World} (a : Fwd W E h w E' h' w') (b : Fwd W E' h' w' E'' h'' w'') : Fwd W E h w E'' h'' w'' :=
  ⟨Emb.le_trans a.le b.le, fun x hx => by
    rcases b.new x hx with h1 | ⟨h1, h2, h5⟩
    · rcases a.new x h1 with h3 | ⟨h3, h4, h6⟩
      · exact .inl h3
      · exact .inr ⟨h3, Nat.lt_of_lt_of_le h4 b.next, by rw [(b.le x h1).2]; exact h6⟩
    · exact .inr ⟨Nat.le_trans a.next h1, h2, h5⟩, a.same.trans b.same, Nat.le_trans a.next b.next⟩
theorem Eff.fwd {W : Nat → Prop} {lim : Nat} {E E' : Emb} {h h' : Heap} {w w' : World} (H0 : HR P W lim E h w) (e : Eff P W lim E h w E' h' w') : Fwd W E h w E' h' w' :=
  ⟨e.le, fun b hb => by
    rcases e.new b hb with h1 | h1
    · exact .inl h1
    · rcases e.place b hb with h2 | h2 | ⟨b0, h2, h3, h4⟩
      · exact .inl h2
      · exact .inr ⟨h1.1, h1.2, H0.top _ h2⟩
      · exact .inr ⟨h1.1, h1.2, by rw [h4]; exact H0.own b0 h2 h3⟩, e.same H0, e.next⟩

/-- What a call must do: what the machine tells. -/
def CallOk (P : Program) [Glob P] (call : CallF) : Prop :=
  ∀ (f : FuncId) (args : List V) (h : Heap) (v : V) (h' : Heap), call f args h = some (v, h') →
    ∀ (W : Nat → Prop) (lim : Nat) (E : Emb) (w : World) (args' : List Value), h'.next ≤ lim → HR P W lim E h w → VRs E args args' →
      Calls P f ⟨args'⟩ w fun e w' => ∃ x E', e = .returned x ∧ HR P W lim E' h' w' ∧ VR E' v x ∧ Fwd W E h w E' h' w'

/-- Where an operation leaves us. -/
def Done (P : Program) [Glob P] (W : Nat → Prop) (lim : Nat) (E : Emb) (h : Heap) (w : World) (s' : St) (a' : Act) (w' : World) : Prop :=
  ∃ E' lam', StR P W lim E' lam' s' a' w' ∧ Fwd W E h w E' s'.h w'

section
variable {W : Nat → Prop} {lim : Nat} {E : Emb} {lam : Tmp → Nat} {s : St} {a : Act} {w : World}

theorem put_defers (a : Act) (d : Option Tmp) (x : Value) : (a.put d x).defers = a.defers := by cases d <;> rfl

/-- An operation that hands a value on and leaves memory alone. -/
theorem done_value (S : StR P W lim E lam s a w) (d : Option Tmp) (v : V) (x : Value) (hv : TV E lam s.t v x) : Done P W lim E s.h w ⟨putV s.t d v, s.h⟩ (a.put d x) w :=
  ⟨E, lam, ⟨S.hr, S.sr.put d v x hv, by rw [put_defers]; exact S.dfr⟩, Fwd.refl W E s.h w⟩

theorem done_eff (S : StR P W lim E lam s a w) (d : Option Tmp) (v : V) (h' : Heap) (z : Value) (w' : World) (E' : Emb) (hv : VR E' v z) (he : Eff P W lim E s.h w E' h' w') :
    Done P W lim E s.h w ⟨putV s.t d v, h'⟩ (a.put d z) w' :=
  ⟨E', lam, ⟨he.hr, (he.sr S.sr).put d v z (TV.of_VR hv), by rw [put_defers]; exact S.dfr⟩, he.fwd S.hr⟩

theorem wp_value {o : Oper} {x : Value} {w' : World} {K : Act → World → Prop} {Q : Exit → Act → World → Prop} (h : (execOp a.eval o).run P w = .ok (.value x) w') (hk : K (a.put o.dst x) w') : o.wp P a w K Q := by
  unfold Oper.wp; rw [h]; exact hk
theorem wp_skip' {o : Oper} {w' : World} {K : Act → World → Prop} {Q : Exit → Act → World → Prop} (h : (execOp a.eval o).run P w = .ok .skip w') (hk : K (a.put o.dst undef) w') : o.wp P a w K Q := by
  unfold Oper.wp; rw [h]; exact hk

/-- A new variable's cells and the value that it begins with. -/
theorem newVar_run (w : World) (ty : TypeId) (z : Value) : (newVar ty z).run P w = .ok ⟨w.heap.size, 0, none⟩ (w.alloc (.cells z.cells ty)) := rfl

theorem done_new (S : StR P W lim E lam s a w) (L : List Tmp) (d : Option Tmp) (ty : TypeId) (u : V) (z : Value) (hv : VR E u z) (hnt : u.isTup = false) (v : V) (t' : List V) (h' : Heap) (hn : newVarV L d ty u.cells s.t s.h = (v, t', h')) (hlim : h'.next ≤ lim) :
    Done P W lim E s.h w ⟨putV t' d v, h'⟩ (a.put d (.pointer (some ⟨w.heap.size, 0, none⟩))) (w.alloc (.cells z.cells ty)) := by
  have hnt' : ∀ q, u ≠ .tup q := by rintro q rfl; simp [V.isTup] at hnt
  obtain ⟨hcr, hcc⟩ := hv.cells hnt'
  have hlen : u.cells.length = z.cells.size := by have := hcr.length; simpa using this.symm
  have heap : s.h.next < lim → ∀ d', Done P W lim E s.h w ⟨putV s.t d' (.ptr s.h.next 0), s.h.alloc (.cells false ty u.cells)⟩ (a.put d' (.pointer (some ⟨w.heap.size, 0, none⟩))) (w.alloc (.cells z.cells ty)) := by
    intro hlim d'
    have he := Eff.alloc S.hr hlim ty u.cells ((szOf P ty).getD 0) z.cells ty (0, 0) (by omega) (by rw [List.take_of_length_le (by simp; omega)]; exact hcr) (by rw [List.take_of_length_le (by simp; omega)]; exact hcc) (fun i hi => by simp) rfl rfl (fun _ => hlen.symm)
    refine done_eff S d' _ _ _ _ _ ?_ he
    simp only [VR, Emb.ext_pl, Pl.addr]
    exact ⟨Emb.ext_dom _ _ _, trivial⟩
  unfold newVarV at hn
  cases d with
  | none =>
    simp only [Prod.mk.injEq] at hn
    obtain ⟨rfl, rfl, rfl⟩ := hn
    exact heap hlim none
  | some d =>
    simp only at hn
    split at hn
    · simp only [Prod.mk.injEq] at hn
      obtain ⟨rfl, rfl, rfl⟩ := hn
      refine ⟨E, _, ⟨HR.grow S.hr _, S.sr.newBox S.hr.size S.hr.top d u.cells z.cells ty hcr hcc, by rw [put_defers]; exact S.dfr⟩, ⟨Emb.le_refl E, fun _ h => .inl h, Same.alloc w _ S.hr.top, Nat.le_refl _⟩⟩
    · simp only [Prod.mk.injEq] at hn
      obtain ⟨rfl, rfl, rfl⟩ := hn
      exact heap hlim (some d)

/-- An address, as the model has it; further on. -/
theorem addr_ok (S : StR P W lim E lam s a w) (x : Operand) (u : V) (hu : ev s.t x = some u) (n : Nat) (v : V) (hv : addrAdd s.t x u n = some v) :
    ∃ ad, a.eval x = .pointer (some ad) ∧ TV E lam s.t v (.pointer (some (ad.add n))) := by
  unfold addrAdd at hv
  split at hv
  · rename_i b off
    cases hv
    obtain ⟨hd, he⟩ := ev_ptr S.sr x b off hu
    exact ⟨_, he, by simp only [TV, VR]; exact ⟨hd, by rw [Pl.addr_add]⟩⟩
  · split at hv
    · rename_i d off hbs
      split at hv
      · rename_i l hl
        cases hv
        have he := boxSlot_ok S.sr x u hu d off hbs l hl
        exact ⟨_, he, fun _ => by rw [addr_add']⟩
      · cases hv
    · cases hv

theorem rowAt_ok (S : StR P W lim E lam s a w) (x : Operand) (u : V) (hu : ev s.t x = some u) (l : List V) (off : Nat) (hr : rowAt s.t s.h x u = some (l, off)) :
    ∃ ro c o csz, RowIn E ro l c o csz w.heap ∧ a.eval x = .pointer (some ⟨c, o + off, none⟩) := by
  unfold rowAt at hr
  split at hr
  · rename_i b off'
    simp only [Option.map_eq_some_iff, Prod.mk.injEq] at hr
    obtain ⟨row, hrow, rfl, rfl⟩ := hr
    obtain ⟨hd, he⟩ := ev_ptr S.sr x b off' hu
    obtain ⟨ro, hrin⟩ := row_of S.hr hd hrow
    exact ⟨ro, _, _, _, hrin, he⟩
  · split at hr
    · rename_i d off' hbs
      split at hr
      · rename_i l' hl
        simp only [Option.some.injEq, Prod.mk.injEq] at hr
        obtain ⟨rfl, rfl⟩ := hr
        refine ⟨false, lam d, 0, _, (S.sr.box d l' hl).1, ?_⟩
        rw [Nat.zero_add]
        exact boxSlot_ok S.sr x u hu d off' hbs l' hl
      · cases hr
    · cases hr

theorem load_ok (S : StR P W lim E lam s a w) (ty : TypeId) (x : Operand) (u : V) (hu : ev s.t x = some u) (v : V) (hv : loadV P ty s.t s.h x u = some v) :
    ∃ z, (Instr.loadAt ty (a.eval x)).run P w = .ok z w ∧ VR E v z := by
  unfold loadV at hv
  split at hv
  · rename_i l off hr
    obtain ⟨ro, c, o, csz, hrin, he⟩ := rowAt_ok S x u hu l off hr
    obtain ⟨y, hy, hvr⟩ := loadVar_ok (P := P) hrin ty off v hv
    exact ⟨y, by rw [he]; simp [Instr.loadAt, Instr.sureAddr, hy], hvr⟩
  · cases hv

theorem store_ok (S : StR P W lim E lam s a w) (ty : TypeId) (x : Operand) (u : V) (hu : ev s.t x = some u) (v : V) (z : Value) (hz : VR E v z) (t' : List V) (h' : Heap) (hs : storeV P ty s.t s.h x u v = some (t', h')) :
    ∃ w', (Instr.storeAt ty (a.eval x) z).run P w = .ok () w' ∧ StR P W lim E lam ⟨t', h'⟩ a w' ∧ Same W w w' ∧ s.h.next ≤ h'.next := by
  unfold storeV at hs
  split at hs
  case isFalse => cases hs
  rename_i hc
  obtain ⟨hsz, hnt⟩ := hc
  have hnt' : ∀ q, v ≠ .tup q := by rintro q rfl; simp [V.isTup] at hnt
  obtain ⟨hcr, hcc⟩ := hz.cells hnt'
  have hzl : z.cells.size = v.cells.length := by have := hcr.length; simpa using this
  have run : ∀ ad w', a.eval x = .pointer (some ad) → (storeCells ad z.cells.toList).run P w = .ok () w' → (Instr.storeAt ty (a.eval x) z).run P w = .ok () w' := by
    intro ad w' he hst
    rw [he]
    simp [Instr.storeAt, Instr.sureAddr, storeVar, run_sizeOf' w hsz, hzl, hst]
  split at hs
  · rename_i b off
    simp only [Option.map_eq_some_iff, Prod.mk.injEq] at hs
    obtain ⟨h1, hw, rfl, rfl⟩ := hs
    obtain ⟨hd, he⟩ := ev_ptr S.sr x b off hu
    obtain ⟨w', hst, heff⟩ := write_ok S.hr b off _ _ h1 hw hd hcr hcc
    exact ⟨w', run _ w' he hst, ⟨heff.hr, heff.sr S.sr, S.dfr⟩, heff.same S.hr, heff.next⟩
  · split at hs
    · rename_i d off hbs
      split at hs
      · rename_i l hl
        simp only [Option.map_eq_some_iff, Prod.mk.injEq] at hs
        obtain ⟨l', hl', rfl, rfl⟩ := hs
        have he := boxSlot_ok S.sr x u hu d off hbs l hl
        obtain ⟨hrin, hW, hlt⟩ := S.sr.box d l hl
        obtain ⟨arr, hst, _, hrow⟩ := hrin.store P off _ _ hl' hcr hcc
        rw [Nat.zero_add] at hst
        have hll : l'.length = l.length := by
          unfold storeRow at hl'
          split at hl'
          · simp only [Option.some.injEq] at hl'
            rw [← hl']
            simp only [List.length_append, List.length_take, List.length_drop]
            omega
          · cases hl'
        have hoth : ∀ k, k ≠ lam d → (setRowAt w (lam d) arr).heap[k]? = w.heap[k]? := fun k hk => setRowAt_other w _ k arr hk
        refine ⟨_, run _ _ he hst, ⟨HR.other S.hr (lam d) (fun b hb => S.sr.apart d l b hl hb) (S.sr.box d l hl).2.1 hoth (setRowAt_size w _ arr), S.sr.storeBox d l l' hl (by rw [hll]; exact hrow) hoth (setRowAt_size w _ arr), S.dfr⟩, ⟨rfl, rfl, rfl, by rw [setRowAt_size]; exact Nat.le_refl _, fun c hc => hoth c (fun e => hc (e ▸ hW))⟩, Nat.le_refl _⟩
      · cases hs
    · cases hs

theorem execOp_v {o : Oper} {m : Sem Value} {x : Value} {w w' : World} (h : m.run P w = .ok x w') : (do pure (Next.value (← m)) : Sem Next).run P w = .ok (.value x) w' := by
  simp only [Sem.run_bind, h, Result.andThen_ok, Sem.run_pure]

theorem lookup_map (vs : List V) (xs : List Value) (hv : VRs E vs xs) (i : Nat) (v : V) (h : vs[i]? = some v) : ∃ x, xs[i]? = some x ∧ VR E v x := hv.get i v h

theorem plainFn_ok {f : FuncId} (h : plainFn P f = true) (w : World) (args : Array Value) : (callFunc f args).run P w = .ok (.enter f args) w := by
  unfold plainFn at h
  split at h
  · rename_i fn hf
    simp only [Bool.and_eq_true, bne_iff_ne, ne_eq] at h
    obtain ⟨hb, hn⟩ := h
    have hb' : fn.body ≠ none := by intro e; rw [e] at hb; cases hb
    simp [callFunc, hf, hb', hn]
  · cases h

theorem call_ok {call : CallF} (hc : CallOk P call) (S : StR P W lim E lam s a w) (o : Oper) (f : FuncId) (args : List V) (args' : List Value) (hargs : VRs E args args') (v : V) (h' : Heap) (hcall : call f args s.h = some (v, h')) (hlim : h'.next ≤ lim)
    (hrun : (execOp a.eval o).run P w = .ok (.enter f ⟨args'⟩) w) (K : Act → World → Prop) (Q : Exit → Act → World → Prop) (hk : ∀ a' w', Done P W lim E s.h w ⟨putV s.t o.dst v, h'⟩ a' w' → K a' w') : o.wp P a w K Q := by
  unfold Oper.wp
  rw [hrun]
  simp only [Oper.upon]
  -- the callee may write what is ours, but no private variable
  have H2 : HR P (fun c => W c ∧ ∀ d l, s.t[d]? = some (.box l) → lam d ≠ c) lim E s.h w :=
    ⟨S.hr.lt, S.hr.size, S.hr.row, fun b hb hr => ⟨S.hr.own b hb hr, fun d l hd => S.sr.apart d l b hd hb⟩, S.hr.esz, S.hr.inj, fun c hc => ⟨S.hr.top c hc, fun d l hd => by have := (S.sr.box d l hd).2.2; omega⟩, Glob.sub S.hr.glob (fun c hc => .inl hc.1), S.hr.bld⟩
  refine (hc f args s.h v h' hcall _ lim E w args' hlim H2 hargs).mono ?_
  rintro e w' ⟨x, E', rfl, hr', hvr, hle, hnew, hsame, hnext⟩
  refine hk _ _ ?_
  have hr2 : HR P W lim E' h' w' := ⟨hr'.lt, hr'.size, hr'.row, fun b hb hr => (hr'.own b hb hr).1, hr'.esz, hr'.inj, fun c hc => (hr'.top c hc).1, Glob.same S.hr.glob hsame.size (fun c hc => hsame.heap c (fun h => hc h.1)), hr'.bld⟩
  have hslot : ∀ d l, s.t[d]? = some (.box l) → w'.heap[lam d]? = w.heap[lam d]? := fun d l hd => hsame.heap _ (fun hw => hw.2 d l hd rfl)
  have hap : ∀ d l b, s.t[d]? = some (.box l) → E'.dom b → lam d ≠ (E'.pl b).c := by
    intro d l b hd hb
    rcases hnew b hb with h1 | ⟨_, _, h1⟩
    · rw [(hle b h1).2]; exact S.sr.apart d l b hd h1
    · exact h1.2 d l hd
  exact ⟨E', lam, ⟨hr2, (S.sr.world hle hslot hsame.size hap).put o.dst v x (TV.of_VR hvr), by rw [put_defers]; exact S.dfr⟩, ⟨hle, fun b hb => (hnew b hb).imp id (fun h1 => ⟨h1.1, h1.2.1, h1.2.2.1⟩), hsame.weaken (fun c hc => hc.1), hnext⟩⟩

end
end Go.AM
