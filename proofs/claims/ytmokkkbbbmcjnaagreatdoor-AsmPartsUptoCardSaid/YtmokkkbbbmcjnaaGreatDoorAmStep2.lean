/-
  An operation, in its text's place.
-/
import Derived.Test.YtmokkkbbbmcjnaaGreatDoorAmMono
set_option linter.unusedSectionVars false
set_option linter.unusedSimpArgs false
set_option linter.unusedVariables false
namespace Go.AM

variable {P : Program} [Glob P]

/-- From one state of memory to a later one. -/
structure Fwd (W : Nat → Prop) (E : Emb) (h : Heap) (w : World) (E' : Emb) (h' : Heap) (w' : World) : Prop where
  le : E.le E'
  new : ∀ b, E'.dom b → E.dom b ∨ (h.next ≤ b ∧ b < h'.next ∧ W (E'.pl b).c)
  same : Same W w w'
  next : h.next ≤ h'.next

theorem Fwd.refl (W : Nat → Prop) (E : Emb) (h : Heap) (w : World) : Fwd W E h w E h w := ⟨Emb.le_refl E, fun _ h => .inl h, Same.refl W w, Nat.le_refl _⟩
theorem Fwd.trans {W : Nat → Prop} {E E' E'' : Emb} {h h' h'' : Heap} {w w' w'' : World} (a : Fwd W E h w E' h' w') (b : Fwd W E' h' w' E'' h'' w'') : Fwd W E h w E'' h'' w'' :=
  ⟨Emb.le_trans a.le b.le, fun x hx => by
    rcases b.new x hx with h1 | ⟨h1, h2, h5⟩
    · rcases a.new x h1 with h3 | ⟨h3, h4, h6⟩
      · exact .inl h3
      · exact .inr ⟨h3, Nat.lt_of_lt_of_le h4 b.next, by rw [(b.le x h1).2]; exact h6⟩
    · exact .inr ⟨Nat.le_trans a.next h1, h2, h5⟩, a.same.trans b.same, Nat.le_trans a.next b.next⟩
theorem Eff.fwd {W : Nat → Prop} {lim : Nat} {E E' : Emb} {h h' : Heap} {w w' : World} (H0 : HR P W lim E h w) (e : Eff P W lim E h w E' h' w') : Fwd W E h w E' h' w' :=
  ⟨e.le, fun b hb => by
    rcases e.new b hb with h1 | h1
    · exact .inl h1
    · rcases e.place b hb with h2 | h2 | ⟨b0, h2, h3, h4⟩
      · exact .inl h2
      · exact .inr ⟨h1.1, h1.2, H0.top _ h2⟩
      · exact .inr ⟨h1.1, h1.2, by rw [h4]; exact H0.own b0 h2 h3⟩, e.same H0, e.next⟩

/-- What a call must do: what the machine tells. -/
def CallOk (P : Program) [Glob P] (call : CallF) : Prop :=
  ∀ (f : FuncId) (args : List V) (h : Heap) (v : V) (h' : Heap), call f args h = some (v, h') →
    ∀ (W : Nat → Prop) (lim : Nat) (E : Emb) (w : World) (args' : List Value), h'.next ≤ lim → HR P W lim E h w → VRs E args args' →
      Calls P f ⟨args'⟩ w fun e w' => ∃ x E', e = .returned x ∧ HR P W lim E' h' w' ∧ VR E' v x ∧ Fwd W E h w E' h' w'

/-- Where an operation leaves us. -/
def Done (P : Program) [Glob P] (W : Nat → Prop) (lim : Nat) (E : Emb) (h : Heap) (w : World) (s' : St) (a' : Act) (w' : World) : Prop :=
  ∃ E' lam', StR P W lim E' lam' s' a' w' ∧ Fwd W E h w E' s'.h w'

section
variable {W : Nat → Prop} {lim : Nat} {E : Emb} {lam : Tmp → Nat} {s : St} {a : Act} {w : World}

theorem put_defers (a : Act) (d : Option Tmp) (x : Value) : (a.put d x).defers = a.defers := by cases d <;> rfl

/-- An operation that hands a value on and leaves memory alone. -/
theorem done_value (S : StR P W lim E lam s a w) (d : Option Tmp) (v : V) (x : Value) (hv : TV E lam s.t v x) : Done P W lim E s.h w ⟨putV s.t d v, s.h⟩ (a.put d x) w :=
  ⟨E, lam, ⟨S.hr, S.sr.put d v x hv, by rw [put_defers]; exact S.dfr⟩, Fwd.refl W E s.h w⟩

theorem done_eff (S : StR P W lim E lam s a w) (d : Option Tmp) (v : V) (h' : Heap) (z : Value) (w' : World) (E' : Emb) (hv : VR E' v z) (he : Eff P W lim E s.h w E' h' w') :
    Done P W lim E s.h w ⟨putV s.t d v, h'⟩ (a.put d z) w' :=
  ⟨E', lam, ⟨he.hr, (he.sr S.sr).put d v z (TV.of_VR hv), by rw [put_defers]; exact S.dfr⟩, he.fwd S.hr⟩

theorem wp_value {o : Oper} {x : Value} {w' : World} {K : Act → World → Prop} {Q : Exit → Act → World → Prop} (h : (execOp a.eval o).run P w = .ok (.value x) w') (hk : K (a.put o.dst x) w') : o.wp P a w K Q := by
  unfold Oper.wp; rw [h]; exact hk
theorem wp_skip' {o : Oper} {w' : World} {K : Act → World → Prop} {Q : Exit → Act → World → Prop} (h : (execOp a.eval o).run P w = .ok .skip w') (hk : K (a.put o.dst undef) w') : o.wp P a w K Q := by
  unfold Oper.wp; rw [h]; exact hk

/-- A new variable's cells and the value that it begins with. -/
theorem newVar_run (w : World) (ty : TypeId) (z : Value) : (newVar ty z).run P w = .ok ⟨w.heap.size, 0, none⟩ (w.alloc (.cells z.cells ty)) := rfl

theorem done_new (S : StR P W lim E lam s a w) (L : List Tmp) (d : Option Tmp) (ty : TypeId) (u : V) (z : Value) (hv : VR E u z) (hnt : u.isTup = false) (v : V) (t' : List V) (h' : Heap) (hn : newVarV L d ty u.cells s.t s.h = (v, t', h')) (hlim : h'.next ≤ lim) :
    Done P W lim E s.h w ⟨putV t' d v, h'⟩ (a.put d (.pointer (some ⟨w.heap.size, 0, none⟩))) (w.alloc (.cells z.cells ty)) := by
  have hnt' : ∀ q, u ≠ .tup q := by rintro q rfl; simp [V.isTup] at hnt
  obtain ⟨hcr, hcc⟩ := hv.cells hnt'
  have hlen : u.cells.length = z.cells.size := by have := hcr.length; simpa using this.symm
  have heap : s.h.next < lim → ∀ d', Done P W lim E s.h w ⟨putV s.t d' (.ptr s.h.next 0), s.h.alloc (.cells false ty u.cells)⟩ (a.put d' (.pointer (some ⟨w.heap.size, 0, none⟩))) (w.alloc (.cells z.cells ty)) := by
    intro hlim d'
    have he := Eff.alloc S.hr hlim ty u.cells ((szOf P ty).getD 0) z.cells ty (0, 0) (by omega) (by rw [List.take_of_length_le (by simp; omega)]; exact hcr) (by rw [List.take_of_length_le (by simp; omega)]; exact hcc) (fun i hi => by simp) rfl rfl (fun _ => hlen.symm)
    refine done_eff S d' _ _ _ _ _ ?_ he
    simp only [VR, Emb.ext_pl, Pl.addr]
    exact ⟨Emb.ext_dom _ _ _, trivial⟩
  unfold newVarV at hn
  cases d with
  | none =>
    simp only [Prod.mk.injEq] at hn
    obtain ⟨rfl, rfl, rfl⟩ := hn
    exact heap hlim none
  | some d =>
    simp only at hn
    split at hn
    · simp only [Prod.mk.injEq] at hn
      obtain ⟨rfl, rfl, rfl⟩ := hn
      refine ⟨E, _, ⟨HR.grow S.hr _, S.sr.newBox S.hr.size S.hr.top d u.cells z.cells ty hcr hcc, by rw [put_defers]; exact S.dfr⟩, ⟨Emb.le_refl E, fun _ h => .inl h, Same.alloc w _ S.hr.top, Nat.le_refl _⟩⟩
    · simp only [Prod.mk.injEq] at hn
      obtain ⟨rfl, rfl, rfl⟩ := hn
      exact heap hlim (some d)

/-- An address, as the model has it; further on. -/
theorem addr_ok (S : StR P W lim E lam s a w) (x : Operand) (u : V) (hu : ev s.t x = some u) (n : Nat) (v : V) (hv : addrAdd s.t x u n = some v) :
    ∃ ad, a.eval x = .pointer (some ad) ∧ TV E lam s.t v (.pointer (some (ad.add n))) := by
  unfold addrAdd at hv
  split at hv
  · rename_i b off
    cases hv
    obtain ⟨hd, he⟩ := ev_ptr S.sr x b off hu
    exact ⟨_, he, by simp only [TV, VR]; exact ⟨hd, by rw [Pl.addr_add]⟩⟩
  · split at hv
    · rename_i d off hbs
      split at hv
      · rename_i l hl
        cases hv
        have he := boxSlot_ok S.sr x u hu d off hbs l hl
        exact ⟨_, he, fun _ => by rw [addr_add']⟩
      · cases hv
    · cases hv

theorem rowAt_ok (S : StR P W lim E lam s a w) (x : Operand) (u : V) (hu : ev s.t x = some u) (l : List V) (off : Nat) (hr : rowAt s.t s.h x u = some (l, off)) :
    ∃ ro c o csz, RowIn E ro l c o csz w.heap ∧ a.eval x = .pointer (some ⟨c, o + off, none⟩) := by
  unfold rowAt at hr
  split at hr
  · rename_i b off'
    simp only [Option.map_eq_some_iff, Prod.mk.injEq] at hr
    obtain ⟨row, hrow, rfl, rfl⟩ := hr
    obtain ⟨hd, he⟩ := ev_ptr S.sr x b off' hu
    obtain ⟨ro, hrin⟩ := row_of S.hr hd hrow
    exact ⟨ro, _, _, _, hrin, he⟩
  · split at hr
    · rename_i d off' hbs
      split at hr
      · rename_i l' hl
        simp only [Option.some.injEq, Prod.mk.injEq] at hr
        obtain ⟨rfl, rfl⟩ := hr
        refine ⟨false, lam d, 0, _, (S.sr.box d l' hl).1, ?_⟩
        rw [Nat.zero_add]
        exact boxSlot_ok S.sr x u hu d off' hbs l' hl
      · cases hr
    · cases hr

theorem load_ok (S : StR P W lim E lam s a w) (ty : TypeId) (x : Operand) (u : V) (hu : ev s.t x = some u) (v : V) (hv : loadV P ty s.t s.h x u = some v) :
    ∃ z, (Instr.loadAt ty (a.eval x)).run P w = .ok z w ∧ VR E v z := by
  unfold loadV at hv
  split at hv
  · rename_i l off hr
    obtain ⟨ro, c, o, csz, hrin, he⟩ := rowAt_ok S x u hu l off hr
    obtain ⟨y, hy, hvr⟩ := loadVar_ok (P := P) hrin ty off v hv
    exact ⟨y, by rw [he]; simp [Instr.loadAt, Instr.sureAddr, hy], hvr⟩
  · cases hv

theorem store_ok (S : StR P W lim E lam s a w) (ty : TypeId) (x : Operand) (u : V) (hu : ev s.t x = some u) (v : V) (z : Value) (hz : VR E v z) (t' : List V) (h' : Heap) (hs : storeV P ty s.t s.h x u v = some (t', h')) :
    ∃ w', (Instr.storeAt ty (a.eval x) z).run P w = .ok () w' ∧ StR P W lim E lam ⟨t', h'⟩ a w' ∧ Same W w w' ∧ s.h.next ≤ h'.next := by
  unfold storeV at hs
  split at hs
  case isFalse => cases hs
  rename_i hc
  obtain ⟨hsz, hnt⟩ := hc
  have hnt' : ∀ q, v ≠ .tup q := by rintro q rfl; simp [V.isTup] at hnt
  obtain ⟨hcr, hcc⟩ := hz.cells hnt'
  have hzl : z.cells.size = v.cells.length := by have := hcr.length; simpa using this
  have run : ∀ ad w', a.eval x = .pointer (some ad) → (storeCells ad z.cells.toList).run P w = .ok () w' → (Instr.storeAt ty (a.eval x) z).run P w = .ok () w' := by
    intro ad w' he hst
    rw [he]
    simp [Instr.storeAt, Instr.sureAddr, storeVar, run_sizeOf' w hsz, hzl, hst]
  split at hs
  · rename_i b off
    simp only [Option.map_eq_some_iff, Prod.mk.injEq] at hs
    obtain ⟨h1, hw, rfl, rfl⟩ := hs
    obtain ⟨hd, he⟩ := ev_ptr S.sr x b off hu
    obtain ⟨w', hst, heff⟩ := write_ok S.hr b off _ _ h1 hw hd hcr hcc
    exact ⟨w', run _ w' he hst, ⟨heff.hr, heff.sr S.sr, S.dfr⟩, heff.same S.hr, heff.next⟩
  · split at hs
    · rename_i d off hbs
      split at hs
      · rename_i l hl
        simp only [Option.map_eq_some_iff, Prod.mk.injEq] at hs
        obtain ⟨l', hl', rfl, rfl⟩ := hs
        have he := boxSlot_ok S.sr x u hu d off hbs l hl
        obtain ⟨hrin, hW, hlt⟩ := S.sr.box d l hl
        obtain ⟨arr, hst, _, hrow⟩ := hrin.store P off _ _ hl' hcr hcc
        rw [Nat.zero_add] at hst
        have hll : l'.length = l.length := by
          unfold storeRow at hl'
          split at hl'
          · simp only [Option.some.injEq] at hl'
            rw [← hl']
            simp only [List.length_append, List.length_take, List.length_drop]
            omega
          · cases hl'
        have hoth : ∀ k, k ≠ lam d → (setRowAt w (lam d) arr).heap[k]? = w.heap[k]? := fun k hk => setRowAt_other w _ k arr hk
        refine ⟨_, run _ _ he hst, ⟨HR.other S.hr (lam d) (fun b hb => S.sr.apart d l b hl hb) (S.sr.box d l hl).2.1 hoth (setRowAt_size w _ arr), S.sr.storeBox d l l' hl (by rw [hll]; exact hrow) hoth (setRowAt_size w _ arr), S.dfr⟩, ⟨rfl, rfl, rfl, by rw [setRowAt_size]; exact Nat.le_refl _, fun c hc => hoth c (fun e => hc (e ▸ hW))⟩, Nat.le_refl _⟩
      · cases hs
    · cases hs

theorem execOp_v {o : Oper} {m : Sem Value} {x : Value} {w w' : World} (h : m.run P w = .ok x w') : (do pure (Next.value (← m)) : Sem Next).run P w = .ok (.value x) w' := by
  simp only [Sem.run_bind, h, Result.andThen_ok, Sem.run_pure]

theorem lookup_map (vs : List V) (xs : List Value) (hv : VRs E vs xs) (i : Nat) (v : V) (h : vs[i]? = some v) : ∃ x, xs[i]? = some x ∧ VR E v x := hv.get i v h

theorem plainFn_ok {f : FuncId} (h : plainFn P f = true) (w : World) (args : Array Value) : (callFunc f args).run P w = .ok (.enter f args) w := by
  unfold plainFn at h
  split at h
  · rename_i fn hf
    simp only [Bool.and_eq_true, bne_iff_ne, ne_eq] at h
    obtain ⟨hb, hn⟩ := h
    have hb' : fn.body ≠ none := by intro e; rw [e] at hb; cases hb
    simp [callFunc, hf, hb', hn]
  · cases h

theorem call_ok {call : CallF} (hc : CallOk P call) (S : StR P W lim E lam s a w) (o : Oper) (f : FuncId) (args : List V) (args' : List Value) (hargs : VRs E args args') (v : V) (h' : Heap) (hcall : call f args s.h = some (v, h')) (hlim : h'.next ≤ lim)
    (hrun : (execOp a.eval o).run P w = .ok (.enter f ⟨args'⟩) w) (K : Act → World → Prop) (Q : Exit → Act → World → Prop) (hk : ∀ a' w', Done P W lim E s.h w ⟨putV s.t o.dst v, h'⟩ a' w' → K a' w') : o.wp P a w K Q := by
  unfold Oper.wp
  rw [hrun]
  simp only [Oper.upon]
  -- the callee may write what is ours, but no private variable
  have H2 : HR P (fun c => W c ∧ ∀ d l, s.t[d]? = some (.box l) → lam d ≠ c) lim E s.h w :=
    ⟨S.hr.lt, S.hr.size, S.hr.row, fun b hb hr => ⟨S.hr.own b hb hr, fun d l hd => S.sr.apart d l b hd hb⟩, S.hr.esz, S.hr.inj, fun c hc => ⟨S.hr.top c hc, fun d l hd => by have := (S.sr.box d l hd).2.2; omega⟩, Glob.sub S.hr.glob (fun c hc => .inl hc.1), S.hr.bld⟩
  refine (hc f args s.h v h' hcall _ lim E w args' hlim H2 hargs).mono ?_
  rintro e w' ⟨x, E', rfl, hr', hvr, hle, hnew, hsame, hnext⟩
  refine hk _ _ ?_
  have hr2 : HR P W lim E' h' w' := ⟨hr'.lt, hr'.size, hr'.row, fun b hb hr => (hr'.own b hb hr).1, hr'.esz, hr'.inj, fun c hc => (hr'.top c hc).1, Glob.same S.hr.glob hsame.size (fun c hc => hsame.heap c (fun h => hc h.1)), hr'.bld⟩
  have hslot : ∀ d l, s.t[d]? = some (.box l) → w'.heap[lam d]? = w.heap[lam d]? := fun d l hd => hsame.heap _ (fun hw => hw.2 d l hd rfl)
  have hap : ∀ d l b, s.t[d]? = some (.box l) → E'.dom b → lam d ≠ (E'.pl b).c := by
    intro d l b hd hb
    rcases hnew b hb with h1 | ⟨_, _, h1⟩
    · rw [(hle b h1).2]; exact S.sr.apart d l b hd h1
    · exact h1.2 d l hd
  exact ⟨E', lam, ⟨hr2, (S.sr.world hle hslot hsame.size hap).put o.dst v x (TV.of_VR hvr), by rw [put_defers]; exact S.dfr⟩, ⟨hle, fun b hb => (hnew b hb).imp id (fun h1 => ⟨h1.1, h1.2.1, h1.2.2.1⟩), hsame.weaken (fun c hc => hc.1), hnext⟩⟩

end
end Go.AM

/-
  Each operation of the machine is the model's.
-/
set_option linter.unusedSectionVars false
set_option linter.unusedSimpArgs false
set_option linter.unusedVariables false
namespace Go.AM

variable {P : Program} [Glob P]
section
variable {W : Nat → Prop} {lim : Nat} {E : Emb} {lam : Tmp → Nat} {s : St} {a : Act} {w : World}

/-- An operation that yields a value, memory and all. -/
theorem wp_comes (S : StR P W lim E lam s a w) (o : Oper) (m : Sem Value) (hexec : execOp a.eval o = (do pure (Next.value (← m)) : Sem Next)) (v : V) (h' : Heap) (hm : Comes' P W lim E s.h w v h' (m.run P w))
    (K : Act → World → Prop) (Q : Exit → Act → World → Prop) (hk : ∀ a' w', Done P W lim E s.h w ⟨putV s.t o.dst v, h'⟩ a' w' → K a' w') : o.wp P a w K Q := by
  obtain ⟨z, w', E', hr, hvr, he⟩ := hm
  refine wp_value (x := z) (w' := w') ?_ (hk _ _ (done_eff S o.dst v h' z w' E' hvr he))
  rw [hexec]
  exact execOp_v (o := o) hr

/-- An operation that yields a value and leaves memory alone. -/
theorem wp_pure (S : StR P W lim E lam s a w) (o : Oper) (m : Sem Value) (hexec : execOp a.eval o = (do pure (Next.value (← m)) : Sem Next)) (v : V) (z : Value) (hm : m.run P w = .ok z w) (hv : TV E lam s.t v z)
    (K : Act → World → Prop) (Q : Exit → Act → World → Prop) (hk : ∀ a' w', Done P W lim E s.h w ⟨putV s.t o.dst v, s.h⟩ a' w' → K a' w') : o.wp P a w K Q := by
  refine wp_value (x := z) (w' := w) ?_ (hk _ _ (done_value S o.dst v z hv))
  rw [hexec]
  exact execOp_v (o := o) hm

theorem bltn_ok (S : StR P W lim E lam s a w) (o : Oper) (b : Builtin) (c : Call) (hop : o.op = .call c) (hcal : c.callee = .builtin b) (args : List V) (hargs : evVs s.t c.args.toList = some args) (v : V) (t' : List V) (h' : Heap)
    (hb : bltn P b c.argTypes s.t s.h args = some (v, t', h')) (hlim : h'.next ≤ lim) (K : Act → World → Prop) (Q : Exit → Act → World → Prop) (hk : ∀ a' w', Done P W lim E s.h w ⟨putV t' o.dst v, h'⟩ a' w' → K a' w') : o.wp P a w K Q := by
  have hvr := evVs_ok S.sr _ _ hargs
  have hmap : c.args.map a.eval = (c.args.toList.map a.eval).toArray := by apply Array.ext'; simp
  have hexec : execOp a.eval o = builtin b c.argTypes o.type (c.args.map fun | .const _ => true | _ => false) (c.args.map a.eval) := by
    simp only [execOp, hop, resolve, hcal]
    rfl
  generalize hcs : (c.args.map fun | .const _ => true | _ => false) = cs at hexec
  unfold bltn at hb
  split at hb
  · rename_i x
    simp only [VRs] at hvr
    obtain ⟨x', _, e1, hx, e2⟩ := hvr
    subst e2
    split at hb
    · rename_i t0 ht0
      simp only [Option.map_eq_some_iff, Prod.mk.injEq] at hb
      obtain ⟨n, hn, rfl, rfl, rfl⟩ := hb
      have hlen := len_ok S.hr t0 o.type x n hn x' hx
      refine wp_pure S o (Builtin.len_ c.argTypes o.type (c.args.map a.eval)) (by rw [hexec]; rfl) _ (.int .i64 n) ?_ (by simp only [TV, VR]) K Q hk
      rw [hmap, e1]
      have : c.argTypes[0]? = some t0 := ht0
      have e3 : (Builtin.len_ c.argTypes o.type #[x']).run P w = (Builtin.len_ #[t0] o.type #[x']).run P w := by simp [Builtin.len_, this]
      rw [e3]; exact hlen
    · cases hb
  · rename_i x y
    simp only [VRs] at hvr
    obtain ⟨x', _, e1, hx, y', _, rfl, hy, rfl⟩ := hvr
    split at hb
    · rename_i t0 t1 ht0 ht1
      simp only [Option.map_eq_some_iff, Prod.mk.injEq, Prod.exists] at hb
      obtain ⟨v2, h2, hap, rfl, rfl, rfl⟩ := hb
      have := append_ok S.hr t0 t1 o.type x y v2 h2 hap hlim x' y' hx hy
      refine wp_comes S o (Builtin.append_ c.argTypes o.type (c.args.map a.eval)) (by rw [hexec]; rfl) _ _ ?_ K Q hk
      rw [hmap, e1]
      have e3 : (Builtin.append_ c.argTypes o.type #[x', y']).run P w = (Builtin.append_ #[t0, t1] o.type #[x', y']).run P w := by simp [Builtin.append_, ht0, ht1]
      rw [e3]; exact this
    · cases hb
  · rename_i x y
    simp only [VRs] at hvr
    obtain ⟨x', _, e1, hx, y', _, rfl, hy, rfl⟩ := hvr
    split at hb
    · rename_i t0 ht0
      simp only [Option.map_eq_some_iff, Prod.mk.injEq, Prod.exists] at hb
      obtain ⟨n, h2, hap, rfl, rfl, rfl⟩ := hb
      have := copy_ok S.hr t0 t0 o.type x y n h2 hap x' y' hx hy
      refine wp_comes S o (Builtin.copy_ c.argTypes o.type (c.args.map a.eval)) (by rw [hexec]; rfl) _ _ ?_ K Q hk
      rw [hmap, e1]
      have e3 : (Builtin.copy_ c.argTypes o.type #[x', y']).run P w = (Builtin.copy_ #[t0, t0] o.type #[x', y']).run P w := by simp [Builtin.copy_, ht0]
      rw [e3]; exact this
    · cases hb
  · rename_i x l
    simp only [VRs] at hvr
    obtain ⟨x', xs, e1, hx, hl⟩ := hvr
    simp only [Option.map_eq_some_iff, Prod.mk.injEq] at hb
    obtain ⟨v2, hf, rfl, rfl, rfl⟩ := hb
    obtain ⟨z, hz, hr⟩ := foldMax_ok (P := P) (w := w) true l x v2 hf xs x' hx hl
    refine wp_pure S o (Builtin.max_ c.argTypes o.type (c.args.map a.eval)) (by rw [hexec]; rfl) _ z ?_ (TV.of_VR hr) K Q hk
    rw [hmap, e1]
    simpa [Builtin.max_] using hz
  · rename_i x l
    simp only [VRs] at hvr
    obtain ⟨x', xs, e1, hx, hl⟩ := hvr
    simp only [Option.map_eq_some_iff, Prod.mk.injEq] at hb
    obtain ⟨v2, hf, rfl, rfl, rfl⟩ := hb
    obtain ⟨z, hz, hr⟩ := foldMax_ok (P := P) (w := w) false l x v2 hf xs x' hx hl
    refine wp_pure S o (Builtin.min_ c.argTypes o.type (c.args.map a.eval)) (by rw [hexec]; rfl) _ z ?_ (TV.of_VR hr) K Q hk
    rw [hmap, e1]
    simpa [Builtin.min_] using hz
  · rename_i x
    simp only [VRs] at hvr
    obtain ⟨x', _, e1, hx, e2⟩ := hvr
    subst e2
    split at hb
    · rename_i t0 e ht0 hu0
      have hu : P.underlying t0 = some (.slice e) := by rw [ht0] at hu0; exact hu0
      split at hb
      · rename_i b off len k
        cases hb
        simp only [VR] at hx
        obtain ⟨_, _, ad, rfl, _⟩ := hx
        refine wp_pure S o (Builtin.cap_ c.argTypes o.type (c.args.map a.eval)) (by rw [hexec]; rfl) _ (.int .i64 k) ?_ (by simp only [TV, VR]) K Q hk
        rw [hmap, e1]
        simp [Builtin.cap_, ht0, run_underlying hu, goInt]
      · cases hb
        simp only [VR] at hx
        subst hx
        refine wp_pure S o (Builtin.cap_ c.argTypes o.type (c.args.map a.eval)) (by rw [hexec]; rfl) _ (.int .i64 0) ?_ (by simp only [TV, VR]) K Q hk
        rw [hmap, e1]
        simp [Builtin.cap_, ht0, run_underlying hu, goInt]
      · cases hb
    · cases hb
  · cases hb

theorem step_ok {call : CallF} (hc : CallOk P call) (S : StR P W lim E lam s a w) (L : List Tmp) (o : Oper) (v : V) (t' : List V) (h' : Heap) (hst : step P call L o s.t s.h = some (v, t', h')) (hlim : h'.next ≤ lim)
    (K : Act → World → Prop) (Q : Exit → Act → World → Prop) (hk : ∀ a' w', Done P W lim E s.h w ⟨putV t' o.dst v, h'⟩ a' w' → K a' w') : o.wp P a w K Q := by
  unfold step at hst
  split at hst
  · -- move
    rename_i x hop
    simp only [Option.map_eq_some_iff, Prod.mk.injEq] at hst
    obtain ⟨u, hu, rfl, rfl, rfl⟩ := hst
    refine wp_value (x := a.eval x) (w' := w) (by simp only [execOp, hop]; rfl) (hk _ _ (done_value S o.dst _ _ (TV.of_VR (evV_ok S.sr x u hu))))
  · -- assign
    rename_i x hop
    simp only [Option.map_eq_some_iff, Prod.mk.injEq] at hst
    obtain ⟨u, hu, rfl, rfl, rfl⟩ := hst
    refine wp_value (x := a.eval x) (w' := w) (by simp only [execOp, hop]; rfl) (hk _ _ (done_value S o.dst _ _ (TV.of_VR (evV_ok S.sr x u hu))))
  · -- pick
    rename_i c x y hop
    split at hst
    · rename_i b hb
      simp only [Option.map_eq_some_iff, Prod.mk.injEq] at hst
      obtain ⟨u, hu, rfl, rfl, rfl⟩ := hst
      have hcv := evV_ok S.sr c _ hb
      simp only [VR] at hcv
      have hv := evV_ok S.sr _ u hu
      refine wp_value (x := a.eval (if b then x else y)) (w' := w) ?_ (hk _ _ (done_value S o.dst _ _ (TV.of_VR hv)))
      simp only [execOp, hop, hcv, asBool, Sem.run_bind, Sem.run_pure, Result.andThen_ok]
      cases b <;> rfl
    · cases hst
  · -- alloc
    rename_i ty hop
    split at hst
    · rename_i u hz
      split at hst
      · cases hst
      · rename_i hnt
        simp only [Option.some.injEq] at hst
        obtain ⟨z, hz', hrz⟩ := run_zero' (P := P) w hz
        refine wp_value (x := .pointer (some ⟨w.heap.size, 0, none⟩)) (w' := w.alloc (.cells z.cells ty)) ?_ (hk _ _ (done_new S L o.dst ty u z (ofVal_ok E z u hz') (by simpa using hnt) v t' h' hst hlim))
        simp only [execOp, hop, Instr.alloc, Sem.run_bind, hrz, Result.andThen_ok, newVar_run, Sem.run_pure]
    · cases hst
  · -- box
    rename_i ty x hop
    split at hst
    · rename_i u hu
      split at hst
      · cases hst
      · rename_i hnt
        simp only [Option.some.injEq] at hst
        refine wp_value (x := .pointer (some ⟨w.heap.size, 0, none⟩)) (w' := w.alloc (.cells (a.eval x).cells ty)) ?_ (hk _ _ (done_new S L o.dst ty u (a.eval x) (evV_ok S.sr x u hu) (by simpa using hnt) v t' h' hst hlim))
        simp only [execOp, hop, Instr.box, Sem.run_bind, newVar_run, Result.andThen_ok, Sem.run_pure]
    · cases hst
  · -- build
    rename_i ty parts hop
    split at hst
    · rename_i ps hps
      simp only [Option.map_eq_some_iff, Prod.mk.injEq] at hst
      obtain ⟨u, hu, rfl, rfl, rfl⟩ := hst
      obtain ⟨z, hz, hr⟩ := build_ok (P := P) w ty ps u hu _ (evParts_ok S.sr _ ps hps)
      refine wp_pure S o (Instr.build ty (parts.map fun (i, x) => (i, a.eval x))) (by simp only [execOp, hop]) _ z ?_ (TV.of_VR hr) K Q hk
      rw [← hz]
      congr 2
      apply Array.ext'
      simp
    · cases hst
  · -- buildSlice
    rename_i ty n parts hop
    split at hst
    · rename_i ps hps
      simp only [Option.map_eq_some_iff, Prod.mk.injEq, Prod.exists] at hst
      obtain ⟨u, h2, hu, rfl, rfl, rfl⟩ := hst
      have := buildSlice_ok S.hr ty n ps u h2 hu hlim _ (evParts_ok S.sr _ ps hps)
      refine wp_comes S o (Instr.buildSlice ty n (parts.map fun (i, x) => (i, a.eval x))) (by simp only [execOp, hop]) _ _ ?_ K Q hk
      have e : (parts.map fun (i, x) => (i, a.eval x)) = ⟨parts.toList.map fun (i, x) => (i, a.eval x)⟩ := by apply Array.ext'; simp
      rw [e]; exact this
    · cases hst
  · -- load
    rename_i ty x hop
    split at hst
    · rename_i u hu
      simp only [Option.map_eq_some_iff, Prod.mk.injEq] at hst
      obtain ⟨u2, hl, rfl, rfl, rfl⟩ := hst
      obtain ⟨z, hz, hr⟩ := load_ok S ty x u hu u2 hl
      exact wp_pure S o (Instr.loadAt ty (a.eval x)) (by simp only [execOp, hop]) _ z hz (TV.of_VR hr) K Q hk
    · cases hst
  · -- store
    rename_i ty x y hop
    split at hst
    · rename_i u u2 hu hu2
      simp only [Option.map_eq_some_iff, Prod.mk.injEq, Prod.exists] at hst
      obtain ⟨t2, h2, hs, rfl, rfl, rfl⟩ := hst
      obtain ⟨w', hrun, S', hsame, hnext⟩ := store_ok S ty x u hu u2 _ (evV_ok S.sr y u2 hu2) t2 h2 hs
      refine wp_skip' (w' := w') ?_ (hk _ _ ⟨E, lam, ⟨S'.hr, S'.sr.put o.dst (.tup []) undef (by simp [TV, VR, VRs, undef]), by rw [put_defers]; exact S.dfr⟩, ⟨Emb.le_refl E, fun _ h => .inl h, hsame, hnext⟩⟩)
      simp only [execOp, hop, Sem.run_bind, hrun, Result.andThen_ok, Sem.run_pure]
    · cases hst
  · -- nilCheck
    rename_i x hop
    split at hst
    · rename_i b off hu
      cases hst
      have hv := evV_ok S.sr x _ hu
      have hv2 := hv
      simp only [VR] at hv2
      refine wp_value (x := a.eval x) (w' := w) ?_ (hk _ _ (done_value S o.dst _ _ (TV.of_VR hv)))
      simp only [execOp, hop, hv2.2]
      rfl
    · rename_i g f c hu
      cases hst
      have hv := evV_ok S.sr x _ hu
      have hv2 := hv
      simp only [VR] at hv2
      obtain ⟨f', c', e, _⟩ := hv2
      refine wp_value (x := a.eval x) (w' := w) ?_ (hk _ _ (done_value S o.dst _ _ (TV.of_VR hv)))
      simp only [execOp, hop, e]
      rfl
    · cases hst
  · -- binOp
    rename_i op ty x y ty2 hop
    split at hst
    · rename_i u u2 hu hu2
      split at hst
      · rename_i hmay
        simp only [Option.map_eq_some_iff, Prod.mk.injEq] at hst
        obtain ⟨r, hr, rfl, rfl, rfl⟩ := hst
        have h1 := evV_ok S.sr x u hu
        have h2 := evV_ok S.sr y u2 hu2
        obtain ⟨z, hz, hvr⟩ := binV_ok (P := P) w op ty u u2 r hr _ _ h1 h2
        have hg := eqMay_ok (P := P) w op ty x y u u2 _ _ h1 h2 hmay
        refine wp_pure S o (do eqGuard op ty x y (a.eval x) (a.eval y); binOp op ty (a.eval x) (a.eval y)) (by simp only [execOp, hop]) _ z ?_ (TV.of_VR hvr) K Q hk
        simp only [Sem.run_bind, hg, Result.andThen_ok, hz]
      · cases hst
    · cases hst
  · -- unOp
    rename_i op ty x hop
    split at hst
    · rename_i u hu
      simp only [Option.map_eq_some_iff, Prod.mk.injEq] at hst
      obtain ⟨r, hr, rfl, rfl, rfl⟩ := hst
      obtain ⟨z, hz, hvr⟩ := unV_ok (P := P) w op u r hr _ (evV_ok S.sr x u hu)
      exact wp_pure S o (Op.unary op (a.eval x)) (by simp only [execOp, hop]) _ z hz (TV.of_VR hvr) K Q hk
    · cases hst
  · -- convert
    rename_i src dst x hop
    split at hst
    · rename_i u hu
      simp only [Option.map_eq_some_iff, Prod.mk.injEq, Prod.exists] at hst
      obtain ⟨r, h2, hr, rfl, rfl, rfl⟩ := hst
      exact wp_comes S o (convert src dst (a.eval x)) (by simp only [execOp, hop]) _ _ (conv_ok S.hr src dst u r h2 hr hlim _ (evV_ok S.sr x u hu)) K Q hk
    · cases hst
  · -- makeInterface
    rename_i ty x hop
    split at hst
    · rename_i u d hu hd
      have hvr := evV_ok S.sr x u hu
      cases d <;> simp only at hst <;> (first
        | (cases hst; done)
        | (cases hst
           refine wp_pure S o (Instr.makeInterface ty (a.eval x)) (by simp only [execOp, hop]) _ (.iface ty (a.eval x)) ?_ (by simp only [TV, VR]; exact ⟨_, rfl, hvr⟩) K Q hk
           simp only [Instr.makeInterface, Sem.run_bind, run_underlying hd, Result.andThen_ok]
           rfl))
    · cases hst
  · -- makeFunc
    rename_i g first captured hop
    split at hst
    · rename_i u u2 hu hu2
      cases hst
      have h1 := evVs_ok S.sr _ _ hu
      have h2 := evVs_ok S.sr _ _ hu2
      refine wp_pure S o (Instr.makeFunc (.func g) (first.map a.eval) (captured.map a.eval)) (by simp only [execOp, hop]) _ (.func (.func g) (first.map a.eval) (captured.map a.eval)) rfl ?_ K Q hk
      simp only [TV, VR]
      exact ⟨(first.map a.eval).toList, (captured.map a.eval).toList, rfl, by rw [Array.toList_map]; exact h1, by rw [Array.toList_map]; exact h2⟩
    · cases hst
  · -- makeSlice
    rename_i ty l c hop
    split at hst
    · rename_i u u2 hu hu2
      simp only [Option.map_eq_some_iff, Prod.mk.injEq, Prod.exists] at hst
      obtain ⟨r, h2, hr, rfl, rfl, rfl⟩ := hst
      exact wp_comes S o (Instr.makeSlice ty (a.eval l) (a.eval c)) (by simp only [execOp, hop]) _ _ (makeSlice_ok S.hr ty u u2 r h2 hr hlim _ _ (evV_ok S.sr l u hu) (evV_ok S.sr c u2 hu2)) K Q hk
    · cases hst
  · -- slice
    rename_i ty x lo hi mx hop
    split at hst
    · rename_i u lo2 hi2 mx2 hu hl hh hm
      simp only [Option.map_eq_some_iff, Prod.mk.injEq] at hst
      obtain ⟨r, hr, rfl, rfl, rfl⟩ := hst
      obtain ⟨z, hz, hvr⟩ := slice_ok S.hr ty u lo2 hi2 mx2 r hr _ _ _ _ (evV_ok S.sr x u hu) (evO_ok S.sr lo lo2 hl) (evO_ok S.sr hi hi2 hh) (evO_ok S.sr mx mx2 hm)
      exact wp_pure S o (Instr.sliceAt ty (a.eval x) (lo.map a.eval) (hi.map a.eval) (mx.map a.eval)) (by simp only [execOp, hop]) _ z hz (TV.of_VR hvr) K Q hk
    · cases hst
  · -- fieldAddr
    rename_i sty x f hop
    split at hst
    · rename_i u n hu hn
      simp only [Option.map_eq_some_iff, Prod.mk.injEq] at hst
      obtain ⟨r, hr, rfl, rfl, rfl⟩ := hst
      obtain ⟨ad, he, htv⟩ := addr_ok S x u hu n r hr
      refine wp_pure S o (Instr.fieldAt sty (a.eval x) f) (by simp only [execOp, hop]) _ _ ?_ htv K Q hk
      rw [he]; exact fieldAt_ok w sty f n hn ad
    · cases hst
  · -- field
    rename_i sty x f hop
    split at hst
    · rename_i cs fields hu hd
      split at hst
      · rename_i fl hf
        simp only [Option.map_eq_some_iff, Prod.mk.injEq] at hst
        obtain ⟨r, hr, rfl, rfl, rfl⟩ := hst
        have hv := evV_ok S.sr x _ hu
        simp only [VR] at hv
        obtain ⟨l', he, hvr, hcc⟩ := hv
        obtain ⟨z, hz, hr2⟩ := part_ok (P := P) w fl.type cs fl.offset r hr l' hvr hcc
        refine wp_pure S o (Instr.field sty (a.eval x) f) (by simp only [execOp, hop]) _ z ?_ (TV.of_VR hr2) K Q hk
        rw [he]
        simp only [Instr.field, Sem.run_bind, run_underlying hd, Result.andThen_ok, hf, asAgg, Sem.run_pure, hz]
      · cases hst
    · cases hst
  · -- indexAddr
    rename_i ty x i hop
    split at hst
    · rename_i u ui hu hui
      simp only [Option.map_eq_some_iff, Prod.mk.injEq] at hst
      obtain ⟨r, hr, rfl, rfl, rfl⟩ := hst
      have hiv := evV_ok S.sr i ui hui
      unfold indexAddrV at hr
      split at hr
      · rename_i k i2
        simp only [VR] at hiv
        split at hr
        · rename_i n e hd
          split at hr
          · rename_i sz hs
            split at hr
            · rename_i hb
              obtain ⟨ad, he, htv⟩ := addr_ok S x u hu _ r hr
              refine wp_pure S o (Instr.indexAt ty (a.eval x) (a.eval i)) (by simp only [execOp, hop]) _ _ ?_ htv K Q hk
              rw [he, hiv]; exact indexAt_array_ok w ty e sz n hd hs ad k i2 hb
            · cases hr
          · cases hr
        · rename_i e hd
          split at hr
          · rename_i sz b off len cap hs
            split at hr
            · rename_i hb
              cases hr
              have hxv := evV_ok S.sr x _ (show evV s.t x = some (.slice b off len cap) by simp [evV, hu, V.isVal])
              have key : ∀ (ad : Addr) (k2 : Nat), a.eval x = .slice (some ad) len k2 → (ad = (E.pl b).addr off ∨ k2 = 0) → len ≤ k2 → E.dom b → o.wp P a w K Q := by
                rintro ad k2 he had hlk hdm
                have had' : ad = (E.pl b).addr off := by
                  rcases had with h1 | h1
                  · exact h1
                  · omega
                subst had'
                refine wp_pure S o (Instr.indexAt ty (a.eval x) (a.eval i)) (by simp only [execOp, hop]) _ (.pointer (some ((E.pl b).addr (off + i2.toNat * sz)))) ?_ (by simp only [TV, VR]; exact ⟨hdm, trivial⟩) K Q hk
                rw [he, hiv, indexAt_slice_ok w ty e sz hd hs _ len k2 k i2 hb, Pl.addr_add]
              cases cap <;> simp only [VR] at hxv <;> obtain ⟨hdm, hlk, ad, he, had⟩ := hxv <;> exact key ad _ he had hlk hdm
            · cases hr
          · cases hr
        · cases hr
      · cases hr
    · cases hst
  · -- index
    rename_i ty x i hop
    split at hst
    · rename_i u ui hu hui
      simp only [Option.map_eq_some_iff, Prod.mk.injEq] at hst
      obtain ⟨r, hr, rfl, rfl, rfl⟩ := hst
      obtain ⟨z, hz, hvr⟩ := index_ok (P := P) w ty u ui r hr _ _ (evV_ok S.sr x u hu) (evV_ok S.sr i ui hui)
      exact wp_pure S o (Instr.index ty (a.eval x) (a.eval i)) (by simp only [execOp, hop]) _ z hz (TV.of_VR hvr) K Q hk
    · cases hst
  · -- extract
    rename_i x i hop
    split at hst
    · rename_i vs hu
      simp only [Option.map_eq_some_iff, Prod.mk.injEq] at hst
      obtain ⟨r, hr, rfl, rfl, rfl⟩ := hst
      have hv := evV_ok S.sr x _ hu
      simp only [VR] at hv
      obtain ⟨l', he, hvr⟩ := hv
      obtain ⟨z, hz, hr2⟩ := hvr.get i r hr
      refine wp_pure S o (Instr.extract (a.eval x) i) (by simp only [execOp, hop]) _ z ?_ (TV.of_VR hr2) K Q hk
      rw [he]
      have : (⟨l'⟩ : Array Value)[i]? = some z := by simpa using hz
      simp only [Instr.extract, this]
      rfl
    · cases hst
  · -- call
    rename_i c hop
    split at hst
    · rename_i b hcal
      split at hst
      · rename_i args hargs
        exact bltn_ok S o b c hop hcal args hargs v t' h' hst hlim K Q hk
      · cases hst
    · rename_i f hcal
      split at hst
      · rename_i fv args hf hargs
        unfold callV at hst
        split at hst
        · rename_i g first captured
          split at hst
          · rename_i hpl
            simp only [Option.map_eq_some_iff, Prod.mk.injEq, Prod.exists] at hst
            obtain ⟨r, h2, hr, rfl, rfl, rfl⟩ := hst
            have hfv := evV_ok S.sr f _ hf
            simp only [VR] at hfv
            obtain ⟨f', c', he, hf', hc'⟩ := hfv
            have hav := evVs_ok S.sr _ _ hargs
            refine call_ok hc S o g _ (f' ++ c.args.toList.map a.eval ++ c') ((hf'.append hav).append hc') r h2 hr hlim ?_ K Q hk
            have e : execOp a.eval o = (do let d ← resolve a.eval c o.type; invoke d.target d.args) := by simp only [execOp, hop]
            rw [e]
            simp only [resolve, hcal, he, Deferred.ofValue, Sem.run_bind, Sem.run_pure, Result.andThen_ok, invoke]
            have e2 : ((⟨f'⟩ : Array Value) ++ Array.map a.eval c.args ++ (⟨c'⟩ : Array Value)) = ⟨f' ++ c.args.toList.map a.eval ++ c'⟩ := by apply Array.ext'; simp
            rw [e2]
            exact plainFn_ok hpl w _
          · cases hst
        · cases hst
      · cases hst
    · cases hst
  · cases hst

theorem wanted_ok (S : SR W E lam s.t w a.tmps) (ops : Array Oper) (o : Oper) (b : Bool) (h : wantedV ops s.t o = some b) : Region.wanted o (yielded ops a.tmps) = b := by
  unfold wantedV at h
  unfold Region.wanted yielded
  split at h
  · rename_i hg; rw [hg]; simpa using h
  · rename_i j want hg
    rw [hg]
    simp only
    split at h
    · rename_i oj hj
      split at h
      · rename_i d hd
        simp only [hj, Option.bind_some, hd]
        cases htd : s.t[d]? with
        | none =>
          rw [htd] at h
          have e : a.tmps[d]? = none := by
            apply Array.getElem?_eq_none
            rw [S.len]
            exact List.getElem?_eq_none_iff.1 htd
          simp only [Option.some.injEq] at h
          rw [e, ← h]; rfl
        | some u =>
          rw [htd] at h
          obtain ⟨x, hx, hr⟩ := S.val d u htd
          rw [hx]
          cases u <;> simp only at h <;> (first | (cases h; done) | skip)
          case bool c =>
            simp only [TR, VR] at hr
            subst hr
            simp only [Option.some.injEq] at h
            rw [← h]
            cases c <;> cases want <;> rfl
          case box l =>
            simp only [TR] at hr
            subst hr
            simp only [Option.some.injEq] at h
            rw [← h]; rfl
          all_goals
            have hh := VR.head hr
            simp only [V.head] at hh
            simp only [Option.some.injEq] at h
            rw [← h]
            cases x <;> first | rfl | (simp [headOf] at hh)
      · simp only [Option.some.injEq] at h
        rename_i hd
        simp only [hj, Option.bind_some, hd, Option.bind_none]
        rw [← h]; rfl
    · rename_i hj
      simp only [Option.some.injEq] at h
      simp only [hj, Option.bind_none]
      rw [← h]; rfl

theorem done_skip (S : StR P W lim E lam s a w) (d : Option Tmp) : Done P W lim E s.h w ⟨putV s.t d (.tup []), s.h⟩ (a.put d undef) w :=
  done_value S d (.tup []) undef (by simp [TV, VR, VRs, undef])

end
end Go.AM
