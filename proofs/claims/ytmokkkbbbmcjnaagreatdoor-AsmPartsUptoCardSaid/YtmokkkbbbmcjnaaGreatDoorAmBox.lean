/-
  Private variables stand among L alone.
-/
import Derived.Test.YtmokkkbbbmcjnaaGreatDoorAmMono
import Derived.Test.YtmokkkbbbmcjnaaGreatDoorAmCong
set_option linter.unusedSimpArgs false
set_option linter.unusedVariables false
namespace Go.AM

variable {P : Program}

def BoxIn (L : List Tmp) (t : List V) : Prop := ∀ d, BoxAt t d → d ∈ L

theorem newVarV_tbox {L : List Tmp} {d : Option Tmp} {ty : TypeId} {cells t : List V} {h : Heap} {v : V} {t' : List V} {h' : Heap} (hn : newVarV L d ty cells t h = (v, t', h')) : ∀ d, BoxAt t' d → BoxAt t d := by
  unfold newVarV at hn
  split at hn
  · rename_i dd
    split at hn
    · simp only [Prod.mk.injEq] at hn
      obtain ⟨_, rfl, _⟩ := hn
      rintro d ⟨l, hl⟩
      rw [List.getElem?_map, Option.map_eq_some_iff] at hl
      obtain ⟨u, hu, he⟩ := hl
      cases u <;> simp only [scrub] at he <;> first | exact ⟨_, hu⟩ | (split at he <;> cases he) | cases he
    · simp only [Prod.mk.injEq] at hn
      obtain ⟨_, rfl, _⟩ := hn
      exact fun _ h => h
  · simp only [Prod.mk.injEq] at hn
    obtain ⟨_, rfl, _⟩ := hn
    exact fun _ h => h

theorem storeV_tbox {ty : TypeId} {t : List V} {h : Heap} {x : Operand} {a v : V} {t' : List V} {h' : Heap} (hs : storeV P ty t h x a v = some (t', h')) : ∀ d, BoxAt t' d → BoxAt t d := by
  unfold storeV at hs
  split at hs
  · split at hs
    · simp only [Option.map_eq_some_iff, Prod.mk.injEq] at hs
      obtain ⟨_, _, rfl, _⟩ := hs
      exact fun _ h => h
    · split at hs
      · split at hs
        · rename_i dd off hbs _ l hl
          simp only [Option.map_eq_some_iff, Prod.mk.injEq] at hs
          obtain ⟨l', _, rfl, _⟩ := hs
          rintro d ⟨u, hu⟩
          by_cases e : dd = d
          · subst e; exact ⟨l, hl⟩
          · rw [List.getElem?_set_ne e] at hu; exact ⟨u, hu⟩
        · cases hs
      · cases hs
  · cases hs

theorem bltn_tbox {b : Builtin} {ty : Array TypeId} {t : List V} {h : Heap} {args : List V} {v : V} {t' : List V} {h' : Heap} (hb : bltn P b ty t h args = some (v, t', h')) : t' = t := by
  unfold bltn at hb
  split at hb
  · split at hb
    · simp only [Option.map_eq_some_iff, Prod.mk.injEq] at hb
      obtain ⟨_, _, _, rfl, _⟩ := hb; rfl
    · cases hb
  · split at hb
    · simp only [Option.map_eq_some_iff, Prod.mk.injEq, Prod.exists] at hb
      obtain ⟨_, _, _, _, rfl, _⟩ := hb; rfl
    · cases hb
  · split at hb
    · simp only [Option.map_eq_some_iff, Prod.mk.injEq, Prod.exists] at hb
      obtain ⟨_, _, _, _, rfl, _⟩ := hb; rfl
    · cases hb
  · simp only [Option.map_eq_some_iff, Prod.mk.injEq] at hb
    obtain ⟨_, _, _, rfl, _⟩ := hb; rfl
  · simp only [Option.map_eq_some_iff, Prod.mk.injEq] at hb
    obtain ⟨_, _, _, rfl, _⟩ := hb; rfl
  · split at hb
    · split at hb
      · cases hb; rfl
      · cases hb; rfl
      · cases hb
    · cases hb
  · cases hb

theorem callV_tbox {call : CallF} {t : List V} {h : Heap} {f : V} {args : List V} {v : V} {t' : List V} {h' : Heap} (hb : callV P call t h f args = some (v, t', h')) : t' = t := by
  unfold callV at hb
  split at hb
  · split at hb
    · simp only [Option.map_eq_some_iff, Prod.mk.injEq, Prod.exists] at hb
      obtain ⟨_, _, _, _, rfl, _⟩ := hb; rfl
    · cases hb
  · cases hb

theorem step_tbox {call : CallF} {L : List Tmp} {o : Oper} {t : List V} {h : Heap} {v : V} {t' : List V} {h' : Heap} (hst : step P call L o t h = some (v, t', h')) : ∀ d, BoxAt t' d → BoxAt t d := by
  unfold step at hst
  split at hst
  · simp only [Option.map_eq_some_iff, Prod.mk.injEq] at hst; obtain ⟨_, _, _, rfl, _⟩ := hst; exact fun _ h => h
  · simp only [Option.map_eq_some_iff, Prod.mk.injEq] at hst; obtain ⟨_, _, _, rfl, _⟩ := hst; exact fun _ h => h
  · split at hst
    · simp only [Option.map_eq_some_iff, Prod.mk.injEq] at hst; obtain ⟨_, _, _, rfl, _⟩ := hst; exact fun _ h => h
    · cases hst
  · split at hst
    · split at hst
      · cases hst
      · simp only [Option.some.injEq] at hst; exact newVarV_tbox hst
    · cases hst
  · split at hst
    · split at hst
      · cases hst
      · simp only [Option.some.injEq] at hst; exact newVarV_tbox hst
    · cases hst
  · split at hst
    · simp only [Option.map_eq_some_iff, Prod.mk.injEq] at hst; obtain ⟨_, _, _, rfl, _⟩ := hst; exact fun _ h => h
    · cases hst
  · split at hst
    · simp only [Option.map_eq_some_iff, Prod.mk.injEq, Prod.exists] at hst; obtain ⟨_, _, _, _, rfl, _⟩ := hst; exact fun _ h => h
    · cases hst
  · split at hst
    · simp only [Option.map_eq_some_iff, Prod.mk.injEq] at hst; obtain ⟨_, _, _, rfl, _⟩ := hst; exact fun _ h => h
    · cases hst
  · split at hst
    · simp only [Option.map_eq_some_iff, Prod.mk.injEq, Prod.exists] at hst; obtain ⟨_, _, hb, _, rfl, rfl⟩ := hst; exact storeV_tbox hb
    · cases hst
  · split at hst
    · cases hst; exact fun _ h => h
    · cases hst; exact fun _ h => h
    · cases hst
  · split at hst
    · split at hst
      · simp only [Option.map_eq_some_iff, Prod.mk.injEq] at hst; obtain ⟨_, _, _, rfl, _⟩ := hst; exact fun _ h => h
      · cases hst
    · cases hst
  · split at hst
    · simp only [Option.map_eq_some_iff, Prod.mk.injEq] at hst; obtain ⟨_, _, _, rfl, _⟩ := hst; exact fun _ h => h
    · cases hst
  · split at hst
    · simp only [Option.map_eq_some_iff, Prod.mk.injEq, Prod.exists] at hst; obtain ⟨_, _, _, _, rfl, _⟩ := hst; exact fun _ h => h
    · cases hst
  · split at hst
    · split at hst
      · cases hst
      · cases hst; exact fun _ h => h
    · cases hst
  · split at hst
    · cases hst; exact fun _ h => h
    · cases hst
  · split at hst
    · simp only [Option.map_eq_some_iff, Prod.mk.injEq, Prod.exists] at hst; obtain ⟨_, _, _, _, rfl, _⟩ := hst; exact fun _ h => h
    · cases hst
  · split at hst
    · simp only [Option.map_eq_some_iff, Prod.mk.injEq] at hst; obtain ⟨_, _, _, rfl, _⟩ := hst; exact fun _ h => h
    · cases hst
  · split at hst
    · simp only [Option.map_eq_some_iff, Prod.mk.injEq] at hst; obtain ⟨_, _, _, rfl, _⟩ := hst; exact fun _ h => h
    · cases hst
  · split at hst
    · split at hst
      · simp only [Option.map_eq_some_iff, Prod.mk.injEq] at hst; obtain ⟨_, _, _, rfl, _⟩ := hst; exact fun _ h => h
      · cases hst
    · cases hst
  · split at hst
    · simp only [Option.map_eq_some_iff, Prod.mk.injEq] at hst; obtain ⟨_, _, _, rfl, _⟩ := hst; exact fun _ h => h
    · cases hst
  · split at hst
    · simp only [Option.map_eq_some_iff, Prod.mk.injEq] at hst; obtain ⟨_, _, _, rfl, _⟩ := hst; exact fun _ h => h
    · cases hst
  · split at hst
    · simp only [Option.map_eq_some_iff, Prod.mk.injEq] at hst; obtain ⟨_, _, _, rfl, _⟩ := hst; exact fun _ h => h
    · cases hst
  · split at hst
    · split at hst
      · rw [bltn_tbox hst]; exact fun _ h => h
      · cases hst
    · split at hst
      · rw [callV_tbox hst]; exact fun _ h => h
      · cases hst
    · cases hst
  · cases hst


theorem put_box {L : List Tmp} {t : List V} {d : Option Tmp} {v : V} (ht : BoxIn L t) (hv : okBox L d v = true) : BoxIn L (putV t d v) := by
  intro k hk
  cases d with
  | none => exact ht k hk
  | some e =>
    obtain ⟨l, hl⟩ := hk
    simp only [putV] at hl
    by_cases he : e = k
    · subst he
      rw [List.getElem?_set] at hl
      simp only [if_true] at hl
      split at hl
      · cases hl
        simpa [okBox] using hv
      · cases hl
    · rw [List.getElem?_set_ne he] at hl
      exact ht k ⟨l, hl⟩

theorem stepIf_box {call : CallF} {L : List Tmp} {ops : Array Oper} {o : Oper} {s s' : St} (h : stepIf P call L ops o s = some s') (hb : BoxIn L s.t) : BoxIn L s'.t := by
  unfold stepIf at h
  split at h
  · split at h
    · rename_i hst
      split at h
      · rename_i hok
        cases h
        exact put_box (fun d hd => hb d (step_tbox hst d hd)) hok
      · cases h
    · cases h
  · cases h; exact put_box hb rfl
  · cases h

theorem runOps_box {call : CallF} {L : List Tmp} {ops : Array Oper} : ∀ (l : List Oper) (s s' : St), runOps P call L ops l s = some s' → BoxIn L s.t → BoxIn L s'.t
  | [], s, s', h, hb => by simp only [runOps, Option.some.injEq] at h; subst h; exact hb
  | o :: l, s, s', h, hb => by
    simp only [runOps] at h
    split at h
    · rename_i s1 h1; exact runOps_box l s1 s' h (stepIf_box h1 hb)
    · cases h

theorem runDraw_box {call : CallF} {L : List Tmp} {ops : Array Oper} : ∀ (l : List Oper) (ms : List Nat) (fs : List Foot) (s s' : St), runDraw P call L ops l ms fs s = some s' → BoxIn L s.t → BoxIn L s'.t
  | [], ms, fs, s, s', h, hb => by simp only [runDraw, Option.some.injEq] at h; subst h; exact hb
  | o :: l, [], fs, s, s', h, hb => by simp [runDraw] at h
  | o :: l, m :: ms, fs, s, s', h, hb => by
    simp only [runDraw] at h
    split at h
    · split at h
      · rename_i v t h1 hst
        split at h
        · rename_i hap
          simp only [Bool.and_eq_true, Bool.not_eq_true'] at hap
          refine runDraw_box l ms _ _ s' h (put_box (fun d hd => hb d (step_tbox hst d hd)) ?_)
          cases v <;> first | rfl | cases hap.2
        · cases h
      · cases h
    · split at h
      · exact runDraw_box l ms _ _ s' h (put_box hb rfl)
      · cases h
    · cases h

theorem rounds_box {L : List Tmp} {body : St → Option (AM.E × St)} (hbody : ∀ s e s', body s = some (e, s') → BoxIn L s.t → BoxIn L s'.t) : ∀ (n : Nat) (s : St) (e : AM.E) (s' : St), rounds body n s = some (e, s') → BoxIn L s.t → BoxIn L s'.t
  | 0, s, e, s', h, _ => by simp [rounds] at h
  | n + 1, s, e, s', h, hb => by
    simp only [rounds] at h
    split at h
    · rename_i s1 h1; exact rounds_box hbody n s1 e s' h (hbody _ _ _ h1 hb)
    · exact hbody _ _ _ h hb

theorem exec_box {call : CallF} {L : List Tmp} {n : Nat} : ∀ (c : Code) (s s' : St) (e : AM.E), exec P call L n c s = some (e, s') → BoxIn L s.t → BoxIn L s'.t
  | .skip, s, s', e, h, hb => by simp only [exec, Option.some.injEq, Prod.mk.injEq] at h; obtain ⟨_, rfl⟩ := h; exact hb
  | .exit _, s, s', e, h, hb => by simp only [exec, Option.some.injEq, Prod.mk.injEq] at h; obtain ⟨_, rfl⟩ := h; exact hb
  | .ret, s, s', e, h, hb => by simp only [exec, Option.some.injEq, Prod.mk.injEq] at h; obtain ⟨_, rfl⟩ := h; exact hb
  | .region _ ops draw, s, s', e, h, hb => by
    simp only [exec] at h
    split at h
    · split at h
      · simp only [Option.map_eq_some_iff, Prod.mk.injEq] at h
        obtain ⟨s2, h2, _, rfl⟩ := h
        exact runDraw_box _ _ _ _ _ h2 hb
      · cases h
    · simp only [Option.map_eq_some_iff, Prod.mk.injEq] at h
      obtain ⟨s2, h2, _, rfl⟩ := h
      exact runOps_box _ _ _ h2 hb
  | .seq x y, s, s', e, h, hb => by
    simp only [exec] at h
    split at h
    · rename_i s1 h1; exact exec_box y s1 s' e h (exec_box x s s1 _ h1 hb)
    · exact exec_box x s s' e h hb
  | .cond c x y, s, s', e, h, hb => by
    simp only [exec] at h
    split at h
    · split at h
      · exact exec_box x s s' e h hb
      · exact exec_box y s s' e h hb
    · cases h
  | .block id c, s, s', e, h, hb => by
    simp only [exec] at h
    split at h
    · rename_i k s1 h1
      split at h
      · simp only [Option.some.injEq, Prod.mk.injEq] at h; obtain ⟨_, rfl⟩ := h; exact exec_box c s s1 _ h1 hb
      · simp only [Option.some.injEq, Prod.mk.injEq] at h; obtain ⟨_, rfl⟩ := h; exact exec_box c s s1 _ h1 hb
    · exact exec_box c s s' e h hb
  | .loop c, s, s', e, h, hb => by
    simp only [exec] at h
    exact rounds_box (fun s e s' h hb => exec_box c s s' e h hb) n s e s' h hb
  | .rangeFunc _ _ _ _, s, s', e, h, _ => by simp [exec] at h
  | .scope c, s, s', e, h, hb => by simp only [exec] at h; exact exec_box c s s' e h hb
  | .label _, s, s', e, h, hb => by simp only [exec, Option.some.injEq, Prod.mk.injEq] at h; obtain ⟨_, rfl⟩ := h; exact hb
  | .goto _, s, s', e, h, _ => by simp [exec] at h
  | .refuse _, s, s', e, h, _ => by simp [exec] at h

end Go.AM
