/-
  Regions, code, functions.
-/
import Derived.Test.YtmokkkbbbmcjnaaGreatDoorAmDraw4
import Derived.Scope
import Derived.LoopN
set_option linter.unusedSectionVars false
set_option linter.unusedSimpArgs false
set_option linter.unusedVariables false
namespace Go.AM

variable {P : Program} [Glob P]

def E.toExit : E → Exit
  | .normal => .normal
  | .exit id => .exit id
  | .ret => .ret

section
variable {W : Nat → Prop} {lim : Nat} {E : Emb} {lam : Tmp → Nat} {s : St} {a : Act} {w : World}

theorem Done.of_fwd {W : Nat → Prop} {lim : Nat} {E E' : Emb} {h h' : Heap} {w w' w'' : World} {s' : St} {a' : Act} (f : Fwd W E h w E' h' w') (d : Done P W lim E' h' w' s' a' w'') : Done P W lim E h w s' a' w'' := by
  obtain ⟨E2, lam2, S2, f2⟩ := d
  exact ⟨E2, lam2, S2, f.trans f2⟩

theorem runOps_ok {call : CallF} (hc : CallOk P call) (hmo : CallMono call) (L : List Tmp) (ops : Array Oper) (Q : Exit → Act → World → Prop) :
    ∀ (l : List Oper) (k : Nat), l = ops.toList.drop k → ∀ (E : Emb) (lam : Tmp → Nat) (s s' : St) (a : Act) (w : World), StR P W lim E lam s a w → runOps P call L ops l s = some s' → s'.h.next ≤ lim →
      (∀ a' w', Done P W lim E s.h w s' a' w' → Q .normal a' w') → wpOps P ops Q (List.range' k l.length) a w
  | [], k, _, E, lam, s, s', a, w, S, hr, hlim, hq => by
    simp only [runOps, Option.some.injEq] at hr
    subst hr
    exact hq a w ⟨E, lam, S, Fwd.refl W E s.h w⟩
  | o :: l, k, hl, E, lam, s, s', a, w, S, hr, hlim, hq => by
    have hk : ops[k]? = some o := by
      have : (ops.toList.drop k)[0]? = some o := by rw [← hl]; rfl
      rw [List.getElem?_drop] at this
      simpa using this
    have hl' : l = ops.toList.drop (k + 1) := by
      have : (o :: l).tail = (ops.toList.drop k).tail := by rw [hl]
      simpa using this
    simp only [runOps] at hr
    split at hr
    · rename_i s1 hs1
      unfold stepIf at hs1
      simp only [List.length_cons, List.range'_succ, wpOps, hk]
      split at hs1
      · rename_i hw
        split at hs1
        · rename_i v t h hst
          split at hs1
          case isFalse => cases hs1
          cases hs1
          rw [wanted_ok S.sr ops o true hw]
          simp only [if_true]
          have hm2 := runOps_mono hmo l _ s' hr
          refine .inl (step_ok hc S L o v t h hst (Nat.le_trans hm2.next hlim) _ Q ?_)
          intro a' w' hd
          obtain ⟨E2, lam2, S2, f2⟩ := hd
          exact runOps_ok hc hmo L ops Q l (k + 1) hl' E2 lam2 _ s' a' w' S2 hr hlim (fun a'' w'' hd2 => hq a'' w'' (Done.of_fwd f2 hd2))
        · cases hs1
      · rename_i hw
        cases hs1
        rw [wanted_ok S.sr ops o false hw]
        simp only [Bool.false_eq_true, if_false]
        obtain ⟨E2, lam2, S2, f2⟩ := done_skip S o.dst
        exact runOps_ok hc hmo L ops Q l (k + 1) hl' E2 lam2 _ s' _ w S2 hr hlim (fun a'' w'' hd2 => hq a'' w'' (Done.of_fwd f2 hd2))
      · cases hs1
    · cases hr

theorem exec_ok (hm : P.follows .mixedOrders = true) {call : CallF} (hc : CallOk P call) (hmo : CallMono call) (L : List Tmp) (n : Nat) (W : Nat → Prop) (lim : Nat) :
    ∀ (c : Code) (E : Emb) (lam : Tmp → Nat) (s s' : St) (e : AM.E) (a : Act) (w : World), BoxIn L s.t → StR P W lim E lam s a w → exec P call L n c s = some (e, s') → s'.h.next ≤ lim →
      c.wp P (fun e' a' w' => e' = e.toExit ∧ Done P W lim E s.h w s' a' w') a w
  | .skip, E, lam, s, s', e, a, w, hB, S, h, hlim => by
    simp only [exec, Option.some.injEq, Prod.mk.injEq] at h
    obtain ⟨rfl, rfl⟩ := h
    exact wp_skip ⟨rfl, E, lam, S, Fwd.refl W E s.h w⟩
  | .region id ops draw, E, lam, s, s', e, a, w, hB, S, h, hlim => by
    simp only [exec] at h
    split at h
    · rename_i hdr
      subst hdr
      split at h
      · rename_i hd
        simp only [Option.map_eq_some_iff, Prod.mk.injEq] at h
        obtain ⟨s2, h2, rfl, rfl⟩ := h
        exact runDraw_ok hm hc hmo L id ops hd s s2 hB S h2 hlim _ (fun a' w' hd => ⟨rfl, hd⟩)
      · cases h
    · rename_i hdr
      obtain rfl : draw = false := by simpa using hdr
      simp only [Option.map_eq_some_iff, Prod.mk.injEq] at h
      obtain ⟨s2, h2, rfl, rfl⟩ := h
      have := runOps_ok hc hmo L ops (fun e' a' w' => e' = AM.E.toExit .normal ∧ Done P W lim E s.h w s2 a' w') ops.toList 0 rfl E lam s s2 a w S h2 hlim (fun a' w' hd => ⟨rfl, hd⟩)
      rw [Array.length_toList, ← List.range_eq_range'] at this
      exact wp_region this
  | .seq x y, E, lam, s, s', e, a, w, hB, S, h, hlim => by
    simp only [exec] at h
    refine wp_seq ?_
    split at h
    · rename_i s1 h1
      refine wp_mono (exec_ok hm hc hmo L n W lim x E lam s s1 .normal a w hB S h1 (Nat.le_trans (exec_mono hmo y s1 s' e h).next hlim)) ?_
      rintro e1 a1 w1 ⟨rfl, E1, lam1, S1, f1⟩
      refine wp_mono (exec_ok hm hc hmo L n W lim y E1 lam1 s1 s' e a1 w1 (exec_box x s s1 _ h1 hB) S1 h hlim) ?_
      rintro e2 a2 w2 ⟨rfl, hd⟩
      exact ⟨rfl, Done.of_fwd f1 hd⟩
    · rename_i hne
      refine wp_mono (exec_ok hm hc hmo L n W lim x E lam s s' e a w hB S h hlim) ?_
      rintro e1 a1 w1 ⟨rfl, hd⟩
      cases e with
      | normal => exact absurd h (hne s')
      | exit id => exact ⟨rfl, hd⟩
      | ret => exact ⟨rfl, hd⟩
  | .cond c x y, E, lam, s, s', e, a, w, hB, S, h, hlim => by
    simp only [exec] at h
    split at h
    · rename_i b hb
      have hv := evV_ok S.sr c _ hb
      simp only [VR] at hv
      refine wp_cond hv ?_
      cases b with
      | true => simp only [if_true] at h ⊢; exact exec_ok hm hc hmo L n W lim x E lam s s' e a w hB S h hlim
      | false => simp only [Bool.false_eq_true, if_false] at h ⊢; exact exec_ok hm hc hmo L n W lim y E lam s s' e a w hB S h hlim
    · cases h
  | .block id c, E, lam, s, s', e, a, w, hB, S, h, hlim => by
    simp only [exec] at h
    refine wp_block ?_
    split at h
    · rename_i k s1 h1
      refine wp_mono (exec_ok hm hc hmo L n W lim c E lam s s1 (.exit k) a w hB S h1 (by split at h <;> (cases h; exact hlim))) ?_
      rintro e1 a1 w1 ⟨rfl, hd⟩
      simp only [AM.E.toExit, Exit.inBlock]
      split at h
      · rename_i hk
        cases h
        rw [if_pos hk]
        exact ⟨rfl, hd⟩
      · rename_i hk
        cases h
        rw [if_neg hk]
        exact ⟨rfl, hd⟩
    · rename_i hne
      refine wp_mono (exec_ok hm hc hmo L n W lim c E lam s s' e a w hB S h hlim) ?_
      rintro e1 a1 w1 ⟨rfl, hd⟩
      cases e with
      | normal => exact ⟨rfl, hd⟩
      | exit id => exact absurd h (hne id s')
      | ret => exact ⟨rfl, hd⟩
  | .loop c, E, lam, s, s', e, a, w, hB, S, h, hlim => by
    simp only [exec] at h
    have key : ∀ (m : Nat) (E : Emb) (lam : Tmp → Nat) (s : St) (a : Act) (w : World), BoxIn L s.t → StR P W lim E lam s a w → rounds (exec P call L n c) m s = some (e, s') →
        Code.rounds P c (fun e' a' w' => e' = e.toExit ∧ Done P W lim E s.h w s' a' w') m a w := by
      intro m
      induction m with
      | zero => intro E lam s a w hB S h; cases h
      | succ m ih =>
        intro E lam s a w hB S h
        rw [rounds_succ]
        simp only [rounds] at h
        split at h
        · rename_i s1 h1
          refine wp_mono (exec_ok hm hc hmo L n W lim c E lam s s1 .normal a w hB S h1 (Nat.le_trans (rounds_mono hmo c m s1 s' e h).next hlim)) ?_
          rintro e1 a1 w1 ⟨rfl, E1, lam1, S1, f1⟩
          have := ih E1 lam1 s1 a1 w1 (exec_box c s s1 _ h1 hB) S1 h
          have mono : ∀ (m : Nat) (Q Q' : Exit → Act → World → Prop), (∀ e a w, Q e a w → Q' e a w) → ∀ a w, Code.rounds P c Q m a w → Code.rounds P c Q' m a w := by
            intro m
            induction m with
            | zero => intro Q Q' _ a w h; exact h
            | succ m ih2 =>
              intro Q Q' hqq a w h
              rw [rounds_succ] at h ⊢
              refine wp_mono h ?_
              intro e a w he
              cases e with
              | normal => exact ih2 Q Q' hqq a w he
              | exit id => exact hqq _ _ _ he
              | goto l => exact hqq _ _ _ he
              | ret => exact hqq _ _ _ he
              | panic ch => exact hqq _ _ _ he
              | outgrown => exact hqq _ _ _ he
          exact mono m _ _ (fun e2 a2 w2 ⟨h1, h2⟩ => ⟨h1, Done.of_fwd f1 h2⟩) _ _ this
        · rename_i hne
          refine wp_mono (exec_ok hm hc hmo L n W lim c E lam s s' e a w hB S h hlim) ?_
          rintro e1 a1 w1 ⟨rfl, hd⟩
          cases e with
          | normal => exact absurd h (hne s')
          | exit id => exact ⟨rfl, hd⟩
          | ret => exact ⟨rfl, hd⟩
    exact wp_loop_rounds n (key n E lam s a w hB S h)
  | .exit id, E, lam, s, s', e, a, w, hB, S, h, hlim => by
    simp only [exec, Option.some.injEq, Prod.mk.injEq] at h
    obtain ⟨rfl, rfl⟩ := h
    exact wp_exit ⟨rfl, E, lam, S, Fwd.refl W E s.h w⟩
  | .ret, E, lam, s, s', e, a, w, hB, S, h, hlim => by
    simp only [exec, Option.some.injEq, Prod.mk.injEq] at h
    obtain ⟨rfl, rfl⟩ := h
    exact wp_ret ⟨rfl, E, lam, S, Fwd.refl W E s.h w⟩
  | .rangeFunc _ _ _ _, E, lam, s, s', e, a, w, hB, S, h, hlim => by simp [exec] at h
  | .scope c, E, lam, s, s', e, a, w, hB, S, h, hlim => by
    simp only [exec] at h
    refine wp_scope_straight (wp_mono (exec_ok hm hc hmo L n W lim c E lam s s' e a w hB S h hlim) ?_)
    rintro e1 a1 w1 ⟨rfl, hd⟩
    cases e <;> exact ⟨rfl, hd⟩
  | .label _, E, lam, s, s', e, a, w, hB, S, h, hlim => by
    simp only [exec, Option.some.injEq, Prod.mk.injEq] at h
    obtain ⟨rfl, rfl⟩ := h
    exact wp_label ⟨rfl, E, lam, S, Fwd.refl W E s.h w⟩
  | .goto _, E, lam, s, s', e, a, w, hB, S, h, hlim => by simp [exec] at h
  | .refuse _, E, lam, s, s', e, a, w, hB, S, h, hlim => by simp [exec] at h

/-! ### Functions -/

theorem resV_ok (fn : Func) (S : StR P W lim E lam s a w) : ∀ (l : List ResultVar) (vs : List V), resV P fn s l = some vs →
    ∃ xs, ((l.mapM fun (r : ResultVar) => match r with
      | .tmp t => pure (a.tmps.getD t undef)
      | .cell ad t => do loadVar t (← asAddr (a.tmps.getD ad undef)) : Sem (List Value))).run P w = .ok xs w ∧ VRs E vs xs
  | [], vs, h => by simp only [resV, Option.some.injEq] at h; subst h; exact ⟨[], rfl, rfl⟩
  | .tmp d :: l, vs, h => by
    simp only [resV] at h
    split at h
    · rename_i v vs2 hv hvs
      cases h
      obtain ⟨xs, hxs, hr⟩ := resV_ok fn S l vs2 hvs
      have hv2 := evV_ok S.sr (.tmp d) v hv
      refine ⟨a.tmps.getD d undef :: xs, ?_, ⟨_, _, rfl, hv2, hr⟩⟩
      simp only [List.mapM_cons, Sem.run_bind, Sem.run_pure, Result.andThen_ok, hxs]
    · cases h
  | .cell ad ty :: l, vs, h => by
    simp only [resV] at h
    split at h
    · rename_i v vs2 hv hvs
      cases h
      obtain ⟨xs, hxs, hr⟩ := resV_ok fn S l vs2 hvs
      unfold loadV at hv
      split at hv
      · rename_i row off hrow
        obtain ⟨ro, c, o, csz, hrin, he⟩ := rowAt_ok S (.tmp ad) _ (show ev s.t (.tmp ad) = some (s.t.getD ad (.tup [])) from rfl) row off hrow
        obtain ⟨y, hy, hvr⟩ := loadVar_ok (P := P) hrin ty off v hv
        have he' : a.tmps.getD ad undef = .pointer (some ⟨c, o + off, none⟩) := he
        refine ⟨y :: xs, ?_, ⟨_, _, rfl, hvr, hr⟩⟩
        have hadr : (asAddr (a.tmps.getD ad undef)).run P w = .ok ⟨c, o + off, none⟩ w := by rw [he']; rfl
        simp only [List.mapM_cons, Sem.run_bind, hadr, Sem.run_pure, Result.andThen_ok, hy, hxs]
      · cases hv
    · cases h

theorem results_ok (fn : Func) (S : StR P W lim E lam s a w) (v : V) (h : resultsV P fn s = some v) : ∃ x, (results fn a.tmps).run P w = .ok x w ∧ VR E v x := by
  unfold resultsV at h
  have key : ∀ vs, resV P fn s fn.results.toList = some vs → ∃ xs, (results fn a.tmps).run P w = .ok (if h : xs.toArray.size = 1 then xs.toArray[0] else .tuple xs.toArray) w ∧ VRs E vs xs := by
    intro vs hvs
    obtain ⟨xs, hxs, hr⟩ := resV_ok fn S _ vs hvs
    refine ⟨xs, ?_, hr⟩
    unfold results
    rw [Array.mapM_eq_mapM_toList]
    simp only [Sem.run_bind, Sem.run_map]
    erw [hxs]
    simp only [Result.andThen_ok, Sem.run_pure]
  split at h
  · rename_i u hu
    cases h
    obtain ⟨xs, hxs, hr⟩ := key _ hu
    simp only [VRs] at hr
    obtain ⟨y, ys, rfl, hy, rfl⟩ := hr
    exact ⟨y, by rw [hxs]; rfl, hy⟩
  · rename_i vs hne hvs
    cases h
    obtain ⟨xs, hxs, hr⟩ := key vs hvs
    have hlen := hr.length
    have h1 : ¬ xs.toArray.size = 1 := by
      intro e
      rw [List.size_toArray, hlen] at e
      match vs, e with
      | [u], _ => exact hne u rfl
    refine ⟨.tuple xs.toArray, ?_, by simp only [VR]; exact ⟨xs, rfl, hr⟩⟩
    rw [hxs, dif_neg h1]
  · cases h

/-- Functions that are answered at once are answered as they are. -/
def ExtOk (P : Program) [Glob P] (X : Ext) : Prop := ∀ f g, X f = some g → CallOk P fun f' args h => if f' = f then g args h else none

theorem callN_ok (hm : P.follows .mixedOrders = true) (X : Ext) (hX : ExtOk P X) (hXm : ExtMono X) : ∀ n, CallOk P (callN P X n)
  | 0 => by intro f args h v h' hc; cases hc
  | n + 1 => by
    intro f args h v h' hc W lim E w args' hlim H hargs
    simp only [callN] at hc
    split at hc
    · rename_i g hg
      exact hX f g hg f args h v h' (by simpa using hc) W lim E w args' hlim H hargs
    · split at hc
      · rename_i fn hfn
        split at hc
        · rename_i c hbody
          split at hc
          · cases hc
          · rename_i e s hne hex
            simp only [Option.map_eq_some_iff, Prod.mk.injEq] at hc
            obtain ⟨u, hu, rfl, rfl⟩ := hc
            refine calls_of_wp hfn hbody ?_
            have hal := hargs.length
            have hvr : VRs E (args ++ List.replicate (fn.ntmps - args.length) (.tup [])) (args' ++ List.replicate (fn.ntmps - args.length) undef) := by
              refine hargs.append (VRs.mk (by simp) ?_)
              intro i a y ha hy
              rw [List.getElem?_replicate] at ha hy
              split at ha
              · cases ha
                rename_i hlt
                rw [if_pos hlt] at hy
                cases hy
                simp [VR, VRs, undef]
              · cases ha
            have hnb : ∀ (d : Tmp) (l : List V), (args ++ List.replicate (fn.ntmps - args.length) (V.tup []))[d]? ≠ some (V.box l) := by
              intro d l hb
              obtain ⟨x, _, hx⟩ := hvr.get d _ hb
              simp only [VR] at hx
            have S0 : StR P W lim E (fun _ => 0) ⟨args ++ List.replicate (fn.ntmps - args.length) (.tup []), h⟩ { tmps := (⟨args'⟩ : Array Value) ++ Array.replicate (fn.ntmps - (⟨args'⟩ : Array Value).size) undef, defers := [] } w := by
              have htm : ((⟨args'⟩ : Array Value) ++ Array.replicate (fn.ntmps - (⟨args'⟩ : Array Value).size) undef) = ⟨args' ++ List.replicate (fn.ntmps - args.length) undef⟩ := by
                apply Array.ext'; simp [hal]
              refine ⟨H, ⟨?_, ?_, fun d l hd => absurd hd (hnb d l), fun d d' l l' hd => absurd hd (hnb d l), fun d l b hd => absurd hd (hnb d l)⟩, rfl⟩
              · rw [htm]; have := hvr.length; simpa using this
              · intro i v hv
                obtain ⟨x, hx, hr⟩ := hvr.get i v hv
                exact ⟨x, by rw [htm]; simpa using hx, TR.of_VR hr⟩
            refine wp_mono (exec_ok hm (callN_ok hm X hX hXm n) (callN_mono X hXm n) (localsOf c) n W lim c E (fun _ => 0) _ s e _ w (fun d hd => by obtain ⟨l, hl⟩ := hd; exact absurd hl (hnb d l)) S0 hex hlim) ?_
            rintro e1 a1 w1 ⟨rfl, E1, lam1, S1, f1⟩
            obtain ⟨x, hx, hr⟩ := results_ok fn S1 u hu
            cases e with
            | normal => exact ⟨S1.dfr, x, hx, x, E1, rfl, S1.hr, hr, f1⟩
            | ret => exact ⟨S1.dfr, x, hx, x, E1, rfl, S1.hr, hr, f1⟩
            | exit id => exact absurd rfl (hne id)
          · cases hc
        · cases hc
      · cases hc

end
end Go.AM
