/-
  Loops, by a law of their round.
-/
import Derived.Test.YtmokkkbbbmcjnaaGreatDoorAmTell
set_option linter.unusedSimpArgs false
set_option linter.unusedVariables false
namespace Go.AM

variable {P : Program}

theorem rounds_up {body : St → Option (E × St)} (Inv : Nat → St → Prop) (k : Nat) (hstep : ∀ i s, i < k → Inv i s → ∃ s', body s = some (.normal, s') ∧ Inv (i + 1) s') :
    ∀ (d i : Nat) (s : St) (n : Nat), i + d = k → Inv i s → ∃ s', Inv k s' ∧ rounds body (n + d) s = rounds body n s'
  | 0, i, s, n, hk, hi => ⟨s, by rw [show i + 0 = i from rfl] at hk; rw [← hk]; exact hi, rfl⟩
  | d + 1, i, s, n, hk, hi => by
    obtain ⟨s1, h1, h2⟩ := hstep i s (by omega) hi
    obtain ⟨s', h3, h4⟩ := rounds_up Inv k hstep d (i + 1) s1 n (by omega) h2
    refine ⟨s', h3, ?_⟩
    rw [← h4]
    show rounds body (n + d + 1) s = _
    simp only [rounds, h1]

/-- So many rounds, and out. -/
theorem rounds_out {body : St → Option (E × St)} (Inv : Nat → St → Prop) (k : Nat) (hstep : ∀ i s, i < k → Inv i s → ∃ s', body s = some (.normal, s') ∧ Inv (i + 1) s')
    {e : E} {Out : St → Prop} (he : e ≠ .normal) (hlast : ∀ s, Inv k s → ∃ s', body s = some (e, s') ∧ Out s') (s : St) (h0 : Inv 0 s) (n : Nat) (hn : k < n) : ∃ s', rounds body n s = some (e, s') ∧ Out s' := by
  obtain ⟨s1, h1, h2⟩ := rounds_up Inv k hstep k 0 s (n - k) (by omega) h0
  rw [show n - k + k = n by omega] at h2
  obtain ⟨s2, h3, h4⟩ := hlast s1 h1
  refine ⟨s2, ?_, h4⟩
  rw [h2]
  obtain ⟨m, hm⟩ : ∃ m, n - k = m + 1 := ⟨n - k - 1, by omega⟩
  rw [hm]
  simp only [rounds, h3]
  cases e with
  | normal => exact absurd rfl he
  | exit _ => rfl
  | ret => rfl

theorem lookupN_mem {k : Nat} {v : V} : ∀ {l : List (Nat × V)}, lookupN k l = some v → (k, v) ∈ l
  | [], h => by cases h
  | (j, u) :: l, h => by
    simp only [lookupN] at h
    split at h
    · rename_i hj
      cases h
      rw [Nat.eq_of_beq_eq_true hj]; exact List.mem_cons_self
    · exact List.mem_cons_of_mem _ (lookupN_mem h)

/-- What is known stands there already. -/
theorem normL_eq {N : Nat} {kn : List (Nat × V)} {t : List V} (hl : t.length = N) (hk : ∀ k v, (k, v) ∈ kn → t.getD k (.tup []) = v) : normL N kn t = t := by
  apply List.ext_getElem?
  intro i
  unfold normL
  rw [List.getElem?_map]
  rcases Nat.lt_or_ge i N with h | h
  · rw [List.getElem?_range h]
    simp only [Option.map_some]
    rw [List.getElem?_eq_getElem (by omega)]
    have e : t[i]'(by omega) = t.getD i (.tup []) := by rw [List.getD_eq_getElem?_getD, List.getElem?_eq_getElem (by omega)]; rfl
    cases hlk : lookupN i kn with
    | none => simp only; rw [e]
    | some v => simp only; rw [e, hk i v (lookupN_mem hlk)]
  · rw [List.getElem?_eq_none (by simpa using h), List.getElem?_eq_none (by omega)]
    rfl

theorem proj_known {ks : List Nat} {vs : List V} {t : List V} (h : proj ks t = vs) : ∀ k v, (k, v) ∈ ks.zip vs → t.getD k (.tup []) = v := by
  subst h
  intro k v hm
  unfold proj at hm
  rw [List.zip_map_right, List.mem_map] at hm
  obtain ⟨⟨a, b⟩, hab, he⟩ := hm
  cases he
  have := List.of_mem_zip hab
  have hz : (a, b) ∈ ks.zip ks := hab
  have : a = b := by
    clear this
    revert hz
    generalize ks = l
    intro hz
    induction l with
    | nil => simp at hz
    | cons x l ih =>
      rw [List.zip_cons_cons, List.mem_cons] at hz
      rcases hz with hz | hz
      · cases hz; rfl
      · exact ih hz
  subst this
  rfl

theorem norm_zip {N : Nat} {ks : List Nat} {vs : List V} {t : List V} (hl : t.length = N) (h : proj ks t = vs) : normL N (ks.zip vs) t = t := normL_eq hl (proj_known h)

/-- A piece of code, run under promises: how it ends, and what is known then. -/
def tellCode (P : Program) (X : Ext) (m : Nat) (f : FuncId) (L : List Tmp) (n : Nat) (c : Code) (s : St) (O : Orc2) (ks : List Nat) : Option (E × Nat × List V × Heap × List Ob2) :=
  (execT P (Nat.ble 1 m) (callT P X m) f L n c s O).map fun r => (r.1, r.2.1.t.length, proj ks r.2.1.t, r.2.1.h, r.2.2.2)

theorem code_of_tell {X : Ext} {m : Nat} {f : FuncId} {L : List Tmp} {c : Code} {s : St} {O : Orc2} {ks : List Nat} {e : E} {N : Nat} {vs : List V} {h' : Heap} {obs : List Ob2} (ht : tellCode P X m f L m c s O ks = some (e, N, vs, h', obs)) (hobs : Obs2 P X obs) :
    ∃ t', exec P (callN P X m) L m c s = some (e, ⟨t', h'⟩) ∧ t'.length = N ∧ proj ks t' = vs := by
  simp only [tellCode, Option.map_eq_some_iff, Prod.mk.injEq, Prod.exists] at ht
  obtain ⟨e1, s1, O1, obs1, hc, rfl, rfl, rfl, rfl, rfl⟩ := ht
  exact ⟨s1.t, execT_ok (callT_ok X m) (live_ok m) rfl _ _ _ _ _ _ _ hc hobs, rfl, rfl⟩

/-- The loop's promise, from a run. -/
theorem ok_loop {X : Ext} {n : Nat} {L : List Tmp} {c : Code} {N : Nat} {ks : List Nat} {vs : List V} {h : Heap} {e : E} {ks' : List Nat} {vs' : List V} {h' : Heap}
    (hr : ∀ t : List V, t.length = N → proj ks t = vs → ∃ t', rounds (exec P (callN P X n) L n c) n ⟨t, h⟩ = some (e, ⟨t', h'⟩) ∧ t'.length = N ∧ proj ks' t' = vs') :
    (Ob2.loop n L c N ks vs h e (ks'.zip vs') (fun t => match rounds (exec P (callN P X n) L n c) n ⟨t, h⟩ with | some (_, s) => s.t | none => []) h').ok P X := by
  intro t ht hp
  obtain ⟨t', h1, h2, h3⟩ := hr t ht hp
  simp only [h1]
  rw [norm_zip h2 h3]

def Code.go : Code → List Nat → Code
  | c, [] => c
  | .seq a b, k :: p => match k with | 0 => Code.go a p | _ => Code.go b p
  | .cond _ a b, k :: p => match k with | 0 => Code.go a p | _ => Code.go b p
  | .block _ c, _ :: p => Code.go c p
  | .loop c, _ :: p => Code.go c p
  | .scope c, _ :: p => Code.go c p
  | _, _ => .skip

def bodyOf (P : Program) (f : FuncId) : Code := match P.funcs[f]? with
  | some fn => match fn.body with
    | some c => c
    | none => .skip
  | none => .skip

end Go.AM
