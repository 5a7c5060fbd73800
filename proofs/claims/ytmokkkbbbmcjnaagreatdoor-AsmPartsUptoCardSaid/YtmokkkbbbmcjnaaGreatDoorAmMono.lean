/-
  What the machine's own memory keeps.
-/
import Derived.Test.YtmokkkbbbmcjnaaGreatDoorAmOps6
set_option linter.unusedSimpArgs false
set_option linter.unusedVariables false
namespace Go.AM

variable {P : Program}

structure Mono (h h' : Heap) : Prop where
  next : h.next ≤ h'.next
  lo : h'.lo ≤ h.lo
  keep : ∀ b, b < h.next → b < h'.lo → h'.get b = h.get b

theorem Mono.refl (h : Heap) : Mono h h := ⟨Nat.le_refl _, Nat.le_refl _, fun _ _ _ => rfl⟩
theorem Mono.trans {a b c : Heap} (h : Mono a b) (h' : Mono b c) : Mono a c :=
  ⟨Nat.le_trans h.next h'.next, Nat.le_trans h'.lo h.lo, fun x h1 h2 => (h'.keep x (Nat.lt_of_lt_of_le h1 h.next) h2).trans (h.keep x h1 (Nat.lt_of_lt_of_le h2 h'.lo))⟩
theorem Mono.alloc (h : Heap) (x : Obj) : Mono h (h.alloc x) :=
  ⟨Nat.le_succ _, Nat.le_refl _, fun b hb _ => Heap.get_alloc_ne h b x (Nat.ne_of_lt hb)⟩
theorem Mono.set (h : Heap) (b : Id) (x : Obj) : Mono h (h.set b x) :=
  ⟨Nat.le_refl _, Nat.min_le_left _ _, fun k _ hk => Heap.get_set_ne h b k x (Nat.ne_of_lt (Nat.lt_of_lt_of_le hk (Nat.min_le_right _ _)))⟩
theorem Mono.write {h h1 : Heap} {b : Id} {off : Nat} {vs : List V} (hw : h.write b off vs = some h1) : Mono h h1 := by
  obtain ⟨ty, row, l', _, _, rfl⟩ := heap_write_inv hw
  exact Mono.set h b _

def CallMono (call : CallF) : Prop := ∀ f args h v h', call f args h = some (v, h') → Mono h h'

theorem newVarV_mono {L : List Tmp} {d : Option Tmp} {ty : TypeId} {cells t : List V} {h : Heap} {v : V} {t' : List V} {h' : Heap} (hn : newVarV L d ty cells t h = (v, t', h')) : Mono h h' := by
  unfold newVarV at hn
  cases d with
  | none => simp only [Prod.mk.injEq] at hn; obtain ⟨_, _, rfl⟩ := hn; exact Mono.alloc _ _
  | some d =>
    simp only at hn
    split at hn <;> (simp only [Prod.mk.injEq] at hn; obtain ⟨_, _, rfl⟩ := hn)
    · exact Mono.refl _
    · exact Mono.alloc _ _

theorem storeV_mono {ty : TypeId} {t : List V} {h : Heap} {x : Operand} {a v : V} {t' : List V} {h' : Heap} (hs : storeV P ty t h x a v = some (t', h')) : Mono h h' := by
  unfold storeV at hs
  split at hs
  case isFalse => cases hs
  split at hs
  · simp only [Option.map_eq_some_iff, Prod.mk.injEq] at hs
    obtain ⟨h1, hw, _, rfl⟩ := hs
    exact Mono.write hw
  · split at hs
    · split at hs
      · simp only [Option.map_eq_some_iff, Prod.mk.injEq] at hs
        obtain ⟨_, _, _, rfl⟩ := hs
        exact Mono.refl _
      · cases hs
    · cases hs

theorem appendS_mono {t0 t1 : TypeId} {h : Heap} {x y v : V} {h' : Heap} (hv : appendS P t0 t1 h x y = some (v, h')) : Mono h h' := by
  unfold appendS at hv
  split at hv
  case h_2 => cases hv
  split at hv
  case h_2 => cases hv
  simp only at hv
  split at hv
  · cases hv
  split at hv
  case h_1 => cases hv
  split at hv
  · split at hv
    · cases hv; exact Mono.refl _
    · split at hv
      · cases hv; exact Mono.alloc _ _
      · cases hv
  · split at hv
    case h_2 => cases hv
    split at hv
    case isFalse => cases hv
    split at hv
    · split at hv
      · split at hv
        · cases hv; exact Mono.refl _
        · split at hv
          · rename_i hw; cases hv; exact Mono.write hw
          · cases hv
      · split at hv
        · cases hv; exact Mono.alloc _ _
        · cases hv
    · split at hv
      · cases hv; exact Mono.refl _
      · split at hv
        · cases hv
        · split at hv
          · split at hv
            · rename_i hw; cases hv; exact Mono.write hw
            · cases hv
          · split at hv
            · cases hv; exact (Mono.set _ _ _).trans (Mono.alloc _ _)
            · cases hv
  · cases hv

theorem appendV_mono {t0 t1 : TypeId} {h : Heap} {x y v : V} {h' : Heap} (hv : appendV P t0 t1 h x y = some (v, h')) : Mono h h' := by
  unfold appendV at hv
  split at hv
  case isFalse => cases hv
  split at hv
  · unfold appendZ at hv
    split at hv
    · split at hv
      · split at hv
        · cases hv; exact Mono.alloc _ _
        · cases hv
      · cases hv
    · cases hv
  · exact appendS_mono hv

theorem copyV_mono {t0 : TypeId} {h : Heap} {x y : V} {n : Int} {h' : Heap} (hv : copyV P t0 h x y = some (n, h')) : Mono h h' := by
  unfold copyV at hv
  split at hv
  case h_2 => cases hv
  split at hv
  case h_2 => cases hv
  split at hv
  case h_1 => cases hv
  split at hv
  · cases hv; exact Mono.refl _
  · split at hv
    · cases hv; exact Mono.refl _
    · simp only [Option.map_eq_some_iff, Prod.mk.injEq] at hv
      obtain ⟨h1, hw, _, rfl⟩ := hv
      exact Mono.write hw
  · cases hv

theorem convV_mono {src dst : TypeId} {h : Heap} {x v : V} {h' : Heap} (hv : convV P src dst h x = some (v, h')) : Mono h h' := by
  unfold convV at hv
  split at hv
  · cases hv; exact Mono.refl _
  · cases hv; exact Mono.refl _
  · split at hv
    · split at hv
      · cases hv; exact Mono.alloc _ _
      · cases hv
    · cases hv
  · split at hv
    · cases hv; exact Mono.refl _
    · split at hv
      · split at hv
        · simp only [Option.map_eq_some_iff, Prod.mk.injEq] at hv
          obtain ⟨_, _, _, rfl⟩ := hv
          exact Mono.refl _
        · cases hv
      · cases hv
    · cases hv
  · cases hv

theorem makeSliceU_mono {t : TypeId} {h : Heap} {l c v : V} {h' : Heap} (hv : makeSliceU P t h l c = some (v, h')) : Mono h h' := by
  unfold makeSliceU at hv
  split at hv
  case h_2 => cases hv
  split at hv
  case h_2 => cases hv
  split at hv
  case isFalse => cases hv
  simp only [Option.some.injEq, Prod.mk.injEq] at hv
  obtain ⟨_, rfl⟩ := hv
  exact Mono.alloc _ _

theorem makeSliceV_mono {t : TypeId} {h : Heap} {l c v : V} {h' : Heap} (hv : makeSliceV P t h l c = some (v, h')) : Mono h h' := by
  unfold makeSliceV at hv
  split at hv
  · exact makeSliceU_mono hv
  · cases hv

theorem buildSliceU_mono {t : TypeId} {n : Nat} {ps : List (Nat × V)} {h : Heap} {v : V} {h' : Heap} (hv : buildSliceU P t n ps h = some (v, h')) : Mono h h' := by
  unfold buildSliceU at hv
  split at hv
  case h_2 => cases hv
  split at hv
  case h_2 => cases hv
  split at hv
  case isFalse => cases hv
  split at hv
  case h_2 => cases hv
  cases hv
  exact Mono.alloc _ _

theorem buildSliceV_mono {t : TypeId} {n : Nat} {ps : List (Nat × V)} {h : Heap} {v : V} {h' : Heap} (hv : buildSliceV P t n ps h = some (v, h')) : Mono h h' := by
  unfold buildSliceV at hv
  split at hv
  · exact buildSliceU_mono hv
  · cases hv

theorem bltn_mono {b : Builtin} {ty : Array TypeId} {t : List V} {h : Heap} {args : List V} {v : V} {t' : List V} {h' : Heap} (hb : bltn P b ty t h args = some (v, t', h')) : Mono h h' ∧ t' = t := by
  unfold bltn at hb
  split at hb
  · split at hb
    · simp only [Option.map_eq_some_iff, Prod.mk.injEq] at hb
      obtain ⟨_, _, _, rfl, rfl⟩ := hb; exact ⟨Mono.refl _, rfl⟩
    · cases hb
  · split at hb
    · simp only [Option.map_eq_some_iff, Prod.mk.injEq, Prod.exists] at hb
      obtain ⟨_, _, hap, _, rfl, rfl⟩ := hb; exact ⟨appendV_mono hap, rfl⟩
    · cases hb
  · split at hb
    · simp only [Option.map_eq_some_iff, Prod.mk.injEq, Prod.exists] at hb
      obtain ⟨_, _, hap, _, rfl, rfl⟩ := hb; exact ⟨copyV_mono hap, rfl⟩
    · cases hb
  · simp only [Option.map_eq_some_iff, Prod.mk.injEq] at hb
    obtain ⟨_, _, _, rfl, rfl⟩ := hb; exact ⟨Mono.refl _, rfl⟩
  · simp only [Option.map_eq_some_iff, Prod.mk.injEq] at hb
    obtain ⟨_, _, _, rfl, rfl⟩ := hb; exact ⟨Mono.refl _, rfl⟩
  · split at hb
    · split at hb
      · cases hb; exact ⟨Mono.refl _, rfl⟩
      · cases hb; exact ⟨Mono.refl _, rfl⟩
      · cases hb
    · cases hb
  · cases hb

theorem callV_mono {call : CallF} (hc : CallMono call) {t : List V} {h : Heap} {f : V} {args : List V} {v : V} {t' : List V} {h' : Heap} (hb : callV P call t h f args = some (v, t', h')) : Mono h h' ∧ t' = t := by
  unfold callV at hb
  split at hb
  · split at hb
    · simp only [Option.map_eq_some_iff, Prod.mk.injEq, Prod.exists] at hb
      obtain ⟨_, _, hap, _, rfl, rfl⟩ := hb; exact ⟨hc _ _ _ _ _ hap, rfl⟩
    · cases hb
  · cases hb

theorem step_mono {call : CallF} (hc : CallMono call) {L : List Tmp} {o : Oper} {t : List V} {h : Heap} {v : V} {t' : List V} {h' : Heap} (hst : step P call L o t h = some (v, t', h')) : Mono h h' := by
  unfold step at hst
  split at hst
  · simp only [Option.map_eq_some_iff, Prod.mk.injEq] at hst; obtain ⟨_, _, _, _, rfl⟩ := hst; exact Mono.refl _
  · simp only [Option.map_eq_some_iff, Prod.mk.injEq] at hst; obtain ⟨_, _, _, _, rfl⟩ := hst; exact Mono.refl _
  · split at hst
    · simp only [Option.map_eq_some_iff, Prod.mk.injEq] at hst; obtain ⟨_, _, _, _, rfl⟩ := hst; exact Mono.refl _
    · cases hst
  · split at hst
    · split at hst
      · cases hst
      · simp only [Option.some.injEq] at hst; exact newVarV_mono hst
    · cases hst
  · split at hst
    · split at hst
      · cases hst
      · simp only [Option.some.injEq] at hst; exact newVarV_mono hst
    · cases hst
  · split at hst
    · simp only [Option.map_eq_some_iff, Prod.mk.injEq] at hst; obtain ⟨_, _, _, _, rfl⟩ := hst; exact Mono.refl _
    · cases hst
  · split at hst
    · simp only [Option.map_eq_some_iff, Prod.mk.injEq, Prod.exists] at hst; obtain ⟨_, _, hb, _, _, rfl⟩ := hst; exact buildSliceV_mono hb
    · cases hst
  · split at hst
    · simp only [Option.map_eq_some_iff, Prod.mk.injEq] at hst; obtain ⟨_, _, _, _, rfl⟩ := hst; exact Mono.refl _
    · cases hst
  · split at hst
    · simp only [Option.map_eq_some_iff, Prod.mk.injEq, Prod.exists] at hst; obtain ⟨_, _, hb, _, _, rfl⟩ := hst; exact storeV_mono hb
    · cases hst
  · split at hst
    · cases hst; exact Mono.refl _
    · cases hst; exact Mono.refl _
    · cases hst
  · split at hst
    · split at hst
      · simp only [Option.map_eq_some_iff, Prod.mk.injEq] at hst; obtain ⟨_, _, _, _, rfl⟩ := hst; exact Mono.refl _
      · cases hst
    · cases hst
  · split at hst
    · simp only [Option.map_eq_some_iff, Prod.mk.injEq] at hst; obtain ⟨_, _, _, _, rfl⟩ := hst; exact Mono.refl _
    · cases hst
  · split at hst
    · simp only [Option.map_eq_some_iff, Prod.mk.injEq, Prod.exists] at hst; obtain ⟨_, _, hb, _, _, rfl⟩ := hst; exact convV_mono hb
    · cases hst
  · split at hst
    · split at hst
      · cases hst
      · cases hst; exact Mono.refl _
    · cases hst
  · split at hst
    · cases hst; exact Mono.refl _
    · cases hst
  · split at hst
    · simp only [Option.map_eq_some_iff, Prod.mk.injEq, Prod.exists] at hst; obtain ⟨_, _, hb, _, _, rfl⟩ := hst; exact makeSliceV_mono hb
    · cases hst
  · split at hst
    · simp only [Option.map_eq_some_iff, Prod.mk.injEq] at hst; obtain ⟨_, _, _, _, rfl⟩ := hst; exact Mono.refl _
    · cases hst
  · split at hst
    · simp only [Option.map_eq_some_iff, Prod.mk.injEq] at hst; obtain ⟨_, _, _, _, rfl⟩ := hst; exact Mono.refl _
    · cases hst
  · split at hst
    · split at hst
      · simp only [Option.map_eq_some_iff, Prod.mk.injEq] at hst; obtain ⟨_, _, _, _, rfl⟩ := hst; exact Mono.refl _
      · cases hst
    · cases hst
  · split at hst
    · simp only [Option.map_eq_some_iff, Prod.mk.injEq] at hst; obtain ⟨_, _, _, _, rfl⟩ := hst; exact Mono.refl _
    · cases hst
  · split at hst
    · simp only [Option.map_eq_some_iff, Prod.mk.injEq] at hst; obtain ⟨_, _, _, _, rfl⟩ := hst; exact Mono.refl _
    · cases hst
  · split at hst
    · simp only [Option.map_eq_some_iff, Prod.mk.injEq] at hst; obtain ⟨_, _, _, _, rfl⟩ := hst; exact Mono.refl _
    · cases hst
  · split at hst
    · split at hst
      · exact (bltn_mono hst).1
      · cases hst
    · split at hst
      · exact (callV_mono hc hst).1
      · cases hst
    · cases hst
  · cases hst

theorem stepIf_mono {call : CallF} (hc : CallMono call) {L : List Tmp} {ops : Array Oper} {o : Oper} {s s' : St} (h : stepIf P call L ops o s = some s') : Mono s.h s'.h := by
  unfold stepIf at h
  split at h
  · split at h
    · rename_i hst
      split at h
      · cases h; exact step_mono hc hst
      · cases h
    · cases h
  · cases h; exact Mono.refl _
  · cases h

theorem runOps_mono {call : CallF} (hc : CallMono call) {L : List Tmp} {ops : Array Oper} : ∀ (l : List Oper) (s s' : St), runOps P call L ops l s = some s' → Mono s.h s'.h
  | [], s, s', h => by simp only [runOps, Option.some.injEq] at h; subst h; exact Mono.refl _
  | o :: l, s, s', h => by
    simp only [runOps] at h
    split at h
    · rename_i s1 h1; exact (stepIf_mono hc h1).trans (runOps_mono hc l s1 s' h)
    · cases h

/-- Asking anew what is written turns nothing else. -/
theorem Mono.asked {h h1 : Heap} (m : Mono { h with lo := h.next } h1) : Mono h { h1 with lo := min h.lo h1.lo } :=
  ⟨m.next, Nat.min_le_left _ _, fun b hb hl => m.keep b hb (Nat.lt_of_lt_of_le hl (Nat.min_le_right _ _))⟩

theorem runDraw_mono {call : CallF} (hc : CallMono call) {L : List Tmp} {ops : Array Oper} : ∀ (l : List Oper) (ms : List Nat) (fs : List Foot) (s s' : St), runDraw P call L ops l ms fs s = some s' → Mono s.h s'.h
  | [], ms, fs, s, s', h => by simp only [runDraw, Option.some.injEq] at h; subst h; exact Mono.refl _
  | o :: l, [], fs, s, s', h => by simp [runDraw] at h
  | o :: l, m :: ms, fs, s, s', h => by
    simp only [runDraw] at h
    split at h
    · split at h
      · rename_i hst
        split at h
        · exact (Mono.asked (step_mono hc hst)).trans (runDraw_mono hc l ms _ _ s' h)
        · cases h
      · cases h
    · split at h
      · have := runDraw_mono hc l ms _ _ s' h; exact this
      · cases h
    · cases h

theorem exec_mono {call : CallF} (hc : CallMono call) {L : List Tmp} {n : Nat} : ∀ (c : Code) (s s' : St) (e : AM.E), exec P call L n c s = some (e, s') → Mono s.h s'.h
  | .skip, s, s', e, h => by simp only [exec, Option.some.injEq, Prod.mk.injEq] at h; obtain ⟨_, rfl⟩ := h; exact Mono.refl _
  | .region _ ops draw, s, s', e, h => by
    simp only [exec] at h
    split at h
    · split at h
      · simp only [Option.map_eq_some_iff, Prod.mk.injEq] at h
        obtain ⟨s2, h2, _, rfl⟩ := h
        exact runDraw_mono hc _ _ _ _ _ h2
      · cases h
    · simp only [Option.map_eq_some_iff, Prod.mk.injEq] at h
      obtain ⟨s2, h2, _, rfl⟩ := h
      exact runOps_mono hc _ _ _ h2
  | .seq x y, s, s', e, h => by
    simp only [exec] at h
    split at h
    · rename_i s1 h1; exact (exec_mono hc x s s1 _ h1).trans (exec_mono hc y s1 s' e h)
    · exact exec_mono hc x s s' e h
  | .cond c x y, s, s', e, h => by
    simp only [exec] at h
    split at h
    · split at h
      · exact exec_mono hc x s s' e h
      · exact exec_mono hc y s s' e h
    · cases h
  | .block id c, s, s', e, h => by
    simp only [exec] at h
    split at h
    · rename_i k s1 h1
      split at h <;> (cases h; exact exec_mono hc c s _ _ h1)
    · exact exec_mono hc c s s' e h
  | .loop c, s, s', e, h => by
    simp only [exec] at h
    have key : ∀ (m : Nat) (s : St), rounds (exec P call L n c) m s = some (e, s') → Mono s.h s'.h := by
      intro m
      induction m with
      | zero => intro s h; cases h
      | succ m ih =>
        intro s h
        simp only [rounds] at h
        split at h
        · rename_i s1 h1; exact (exec_mono hc c s s1 _ h1).trans (ih s1 h)
        · exact exec_mono hc c s s' e h
    exact key n s h
  | .exit id, s, s', e, h => by simp only [exec, Option.some.injEq, Prod.mk.injEq] at h; obtain ⟨_, rfl⟩ := h; exact Mono.refl _
  | .ret, s, s', e, h => by simp only [exec, Option.some.injEq, Prod.mk.injEq] at h; obtain ⟨_, rfl⟩ := h; exact Mono.refl _
  | .rangeFunc _ _ _ _, s, s', e, h => by simp [exec] at h
  | .scope c, s, s', e, h => by simp only [exec] at h; exact exec_mono hc c s s' e h
  | .label _, s, s', e, h => by simp only [exec, Option.some.injEq, Prod.mk.injEq] at h; obtain ⟨_, rfl⟩ := h; exact Mono.refl _
  | .goto _, s, s', e, h => by simp [exec] at h
  | .refuse _, s, s', e, h => by simp [exec] at h

theorem rounds_mono {call : CallF} (hc : CallMono call) {L : List Tmp} {n : Nat} (c : Code) : ∀ (m : Nat) (s s' : St) (e : AM.E), rounds (exec P call L n c) m s = some (e, s') → Mono s.h s'.h
  | 0, s, s', e, h => by cases h
  | m + 1, s, s', e, h => by
    simp only [rounds] at h
    split at h
    · rename_i s1 h1; exact (exec_mono hc c s s1 _ h1).trans (rounds_mono hc c m s1 s' e h)
    · exact exec_mono hc c s s' e h

def ExtMono (X : Ext) : Prop := ∀ f g, X f = some g → ∀ args h v h', g args h = some (v, h') → Mono h h'

theorem callN_mono (X : Ext) (hX : ExtMono X) : ∀ n, CallMono (callN P X n)
  | 0 => by intro f args h v h' hc; cases hc
  | n + 1 => by
    intro f args h v h' hc
    simp only [callN] at hc
    split at hc
    · rename_i g hg; exact hX f g hg args h v h' hc
    · split at hc
      · split at hc
        · split at hc
          · cases hc
          · rename_i e s hne hex
            simp only [Option.map_eq_some_iff, Prod.mk.injEq] at hc
            obtain ⟨u, hu, _, rfl⟩ := hc
            exact exec_mono (callN_mono X hX n) _ _ _ _ hex
          · cases hc
        · cases hc
      · cases hc

end Go.AM
