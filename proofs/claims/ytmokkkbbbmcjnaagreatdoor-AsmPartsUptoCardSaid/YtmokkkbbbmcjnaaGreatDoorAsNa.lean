/-
  Functions answered by their own runs; and a law of loops that go through rows.
-/
import Derived.Test.YtmokkkbbbmcjnaaGreatDoorAsH4
import Derived.Test.YtmokkkbbbmcjnaaGreatDoorAsH8
set_option linter.unusedSectionVars false
set_option linter.unusedVariables false
set_option linter.unusedSimpArgs false
namespace Go.AM
open Go.Proofs Go.RowKit

def memN (f : FuncId) : List FuncId → Bool
  | [] => false
  | k :: l => if Nat.beq k f then true else memN f l

section
variable {P : Program} [Glob P]

/-- Functions answered by what their run tells. -/
def runExt (P : Program) (X : Ext) (n : Nat) (fs : List FuncId) : Ext := fun f => if memN f fs then some (fun args h => callN P X n f args h) else X f

theorem runExt_ok (hm : P.follows .mixedOrders = true) {X : Ext} (hX : ExtOk P X) (hXm : ExtMono X) (n : Nat) (fs : List FuncId) : ExtOk P (runExt P X n fs) := by
  intro f g hg
  unfold runExt at hg
  split at hg
  · cases hg
    intro f' args h v h' hr
    simp only at hr
    split at hr
    · rename_i hf
      subst hf
      exact callN_ok hm X hX hXm n _ args h v h' hr
    · cases hr
  · exact hX f g hg
theorem runExt_mono {X : Ext} (hXm : ExtMono X) (n : Nat) (fs : List FuncId) : ExtMono (runExt P X n fs) := by
  intro f g hg
  unfold runExt at hg
  split at hg
  · cases hg
    intro args h v h' hr
    exact callN_mono X hXm n _ _ _ _ _ hr
  · exact hXm f g hg

theorem okRun {X : Ext} {n : Nat} {fs : List FuncId} {f : FuncId} (hf : memN f fs = true) {args : List V} {h : Heap} {v : V} {h' : Heap} (hr : callN P X n f args h = some (v, h')) : (Ob2.cax f args h v h').ok P (runExt P X n fs) := by
  refine ⟨_, ?_, hr⟩
  unfold runExt
  rw [if_pos hf]
theorem okOld {X : Ext} {n : Nat} {fs : List FuncId} {f : FuncId} (hf : memN f fs = false) {args : List V} {h : Heap} {v : V} {h' : Heap} (hr : (Ob2.cax f args h v h').ok P X) : (Ob2.cax f args h v h').ok P (runExt P X n fs) := by
  obtain ⟨g, h1, h2⟩ := hr
  refine ⟨g, ?_, h2⟩
  unfold runExt
  rw [hf]
  exact h1
end

/-! ### Loops -/

theorem first_bad {ok : Nat → Prop} : ∀ (n : Nat), (∀ i, i < n → ok i) ∨ ∃ i, i < n ∧ (∀ j, j < i → ok j) ∧ ¬ ok i
  | 0 => .inl fun i h => absurd h (Nat.not_lt_zero i)
  | n + 1 => by
    rcases first_bad (ok := ok) n with h | ⟨i, h1, h2, h3⟩
    · by_cases hn : ok n
      · left
        intro i hi
        rcases Nat.lt_or_ge i n with h' | h'
        · exact h i h'
        · rw [show i = n by omega]; exact hn
      · exact .inr ⟨n, Nat.lt_succ_self n, h, hn⟩
    · exact .inr ⟨i, by omega, h2, h3⟩

theorem ok_loopk {P : Program} {X : Ext} {n : Nat} {L : List Tmp} {c : Code} {N : Nat} {ks : List Nat} {vs : List V} {h : Heap} {e : E} (ks' : List Nat) (vs' : List V) {kn : List (Nat × V)} {h' : Heap} (hkn : kn = ks'.zip vs')
    (hr : ∀ t : List V, t.length = N → proj ks t = vs → ∃ t', rounds (exec P (callN P X n) L n c) n ⟨t, h⟩ = some (e, ⟨t', h'⟩) ∧ t'.length = N ∧ proj ks' t' = vs') :
    (Ob2.loop n L c N ks vs h e kn (fun t => match rounds (exec P (callN P X n) L n c) n ⟨t, h⟩ with | some (_, s) => s.t | none => []) h').ok P X := by
  subst hkn
  exact ok_loop hr

/-- The rounds up to one. -/
theorem scan_to {body : St → Option (E × St)} {N : Nat} {ks : List Nat} {vs : Nat → List V} {hs : Nat → Heap} {n : Nat}
    (go : ∀ i, i < n → ∀ t : List V, t.length = N → proj ks t = vs i → ∃ t', body ⟨t, hs i⟩ = some (.normal, ⟨t', hs (i + 1)⟩) ∧ t'.length = N ∧ proj ks t' = vs (i + 1)) :
    ∀ (d : Nat), d ≤ n → ∀ t : List V, t.length = N → proj ks t = vs 0 → ∃ t', (∀ fuel, rounds body (fuel + d) ⟨t, hs 0⟩ = rounds body fuel ⟨t', hs d⟩) ∧ t'.length = N ∧ proj ks t' = vs d
  | 0, _, t, ht, hp => ⟨t, fun _ => rfl, ht, hp⟩
  | d + 1, hd, t, ht, hp => by
    obtain ⟨t1, e1, e2, e3⟩ := scan_to go d (by omega) t ht hp
    obtain ⟨t2, g1, g2, g3⟩ := go d (by omega) t1 e2 e3
    refine ⟨t2, fun fuel => ?_, g2, g3⟩
    rw [show fuel + (d + 1) = (fuel + 1) + d by omega, e1 (fuel + 1)]
    simp only [rounds, g1]

/-- Rounds up to one, which leaves. -/
theorem scan_at {body : St → Option (E × St)} {N : Nat} {ks : List Nat} {vs : Nat → List V} {hs : Nat → Heap} {n : Nat}
    (go : ∀ i, i < n → ∀ t : List V, t.length = N → proj ks t = vs i → ∃ t', body ⟨t, hs i⟩ = some (.normal, ⟨t', hs (i + 1)⟩) ∧ t'.length = N ∧ proj ks t' = vs (i + 1))
    {e : E} (he : e ≠ .normal) {ks' : List Nat} {vs' : List V} {h' : Heap}
    (out : ∀ t : List V, t.length = N → proj ks t = vs n → ∃ t', body ⟨t, hs n⟩ = some (e, ⟨t', h'⟩) ∧ t'.length = N ∧ proj ks' t' = vs') {fuel : Nat} (hf : n < fuel) :
    ∀ t : List V, t.length = N → proj ks t = vs 0 → ∃ t', rounds body fuel ⟨t, hs 0⟩ = some (e, ⟨t', h'⟩) ∧ t'.length = N ∧ proj ks' t' = vs' := by
  intro t ht hp
  obtain ⟨t1, e1, e2, e3⟩ := scan_to go n (Nat.le_refl _) t ht hp
  obtain ⟨t2, g1, g2, g3⟩ := out t1 e2 e3
  refine ⟨t2, ?_, g2, g3⟩
  obtain ⟨k, rfl⟩ : ∃ k, fuel = (k + 1) + n := ⟨fuel - n - 1, by omega⟩
  rw [e1 (k + 1)]
  simp only [rounds, g1]
  cases e with
  | normal => exact absurd rfl he
  | exit _ => rfl
  | ret => rfl


/-! ### The same, with a state that is known by what holds of it -/

/-- From any temporaries of which so much is known. -/
def Goes (ex : St → Option (E × St)) (N : Nat) (ks : List Nat) (vs : List V) (h : Heap) (e : E) (ks' : List Nat) (vs' : List V) (h' : Heap) : Prop :=
  ∀ t : List V, t.length = N → proj ks t = vs → ∃ t', ex ⟨t, h⟩ = some (e, ⟨t', h'⟩) ∧ t'.length = N ∧ proj ks' t' = vs'

theorem goes_tell {P : Program} {X : Ext} {m : Nat} {f : FuncId} {L : List Tmp} {c : Code} {N : Nat} {ks : List Nat} {vs : List V} {h : Heap} {O : Orc2} {e : E} {ks' : List Nat} {vs' : List V} {h' : Heap} {obs : List Ob2}
    (ht : ∀ t, tellCode P X m f L m c ⟨normL N (ks.zip vs) t, h⟩ O ks' = some (e, N, vs', h', obs)) (hobs : Obs2 P X obs) : Goes (exec P (callN P X m) L m c) N ks vs h e ks' vs' h' := by
  intro t hl hp
  have hr := ht t
  rw [norm_zip hl hp] at hr
  exact code_of_tell hr hobs

theorem ok_goes {P : Program} {X : Ext} {n : Nat} {L : List Tmp} {c : Code} {N : Nat} {ks : List Nat} {vs : List V} {h : Heap} {e : E} {ks' : List Nat} {vs' : List V} {kn : List (Nat × V)} {h' : Heap}
    (hr : Goes (rounds (exec P (callN P X n) L n c) n) N ks vs h e ks' vs' h') (hkn : kn = ks'.zip vs') :
    (Ob2.loop n L c N ks vs h e kn (fun t => match rounds (exec P (callN P X n) L n c) n ⟨t, h⟩ with | some (_, s) => s.t | none => []) h').ok P X := by
  subst hkn
  exact ok_loop hr

/-- So many rounds; then one that leaves. -/
theorem loop_inv {ex : St → Option (E × St)} {N : Nat} {ks : List Nat} {n : Nat} (Inv : Nat → List V → Heap → Prop)
    (go : ∀ i vs h, i < n → Inv i vs h → ∃ vs' h', Inv (i + 1) vs' h' ∧ Goes ex N ks vs h .normal ks vs' h') {vs0 : List V} {h0 : Heap} (h : Inv 0 vs0 h0) :
    ∀ d, d ≤ n → ∃ vs' h', Inv d vs' h' ∧ ∀ t : List V, t.length = N → proj ks t = vs0 → ∃ t', (∀ fuel, rounds ex (fuel + d) ⟨t, h0⟩ = rounds ex fuel ⟨t', h'⟩) ∧ t'.length = N ∧ proj ks t' = vs'
  | 0, _ => ⟨vs0, h0, h, fun t ht hp => ⟨t, fun _ => rfl, ht, hp⟩⟩
  | d + 1, hd => by
    obtain ⟨vs1, h1, i1, g1⟩ := loop_inv Inv go h d (by omega)
    obtain ⟨vs2, h2, i2, g2⟩ := go d vs1 h1 (by omega) i1
    refine ⟨vs2, h2, i2, fun t ht hp => ?_⟩
    obtain ⟨t1, e1, l1, p1⟩ := g1 t ht hp
    obtain ⟨t2, e2, l2, p2⟩ := g2 t1 l1 p1
    refine ⟨t2, fun fuel => ?_, l2, p2⟩
    rw [show fuel + (d + 1) = (fuel + 1) + d by omega, e1 (fuel + 1)]
    simp only [rounds, e2]

theorem loop_leave {ex : St → Option (E × St)} {N : Nat} {ks : List Nat} {n : Nat} (Inv : Nat → List V → Heap → Prop)
    (go : ∀ i vs h, i < n → Inv i vs h → ∃ vs' h', Inv (i + 1) vs' h' ∧ Goes ex N ks vs h .normal ks vs' h') {vs0 : List V} {h0 : Heap} (h : Inv 0 vs0 h0) {e : E} (he : e ≠ .normal) {Q : List Nat → List V → Heap → Prop}
    (out : ∀ vs h, Inv n vs h → ∃ ks' vs' h', Q ks' vs' h' ∧ Goes ex N ks vs h e ks' vs' h') {fuel : Nat} (hf : n < fuel) : ∃ ks' vs' h', Q ks' vs' h' ∧ Goes (rounds ex fuel) N ks vs0 h0 e ks' vs' h' := by
  obtain ⟨vs1, h1, i1, g1⟩ := loop_inv Inv go h n (Nat.le_refl _)
  obtain ⟨ks', vs', h', q, g2⟩ := out vs1 h1 i1
  refine ⟨ks', vs', h', q, fun t ht hp => ?_⟩
  obtain ⟨t1, e1, l1, p1⟩ := g1 t ht hp
  obtain ⟨t2, e2, l2, p2⟩ := g2 t1 l1 p1
  refine ⟨t2, ?_, l2, p2⟩
  obtain ⟨k, rfl⟩ : ∃ k, fuel = (k + 1) + n := ⟨fuel - n - 1, by omega⟩
  rw [e1 (k + 1)]
  simp only [rounds, e2]
  cases e with
  | normal => exact absurd rfl he
  | exit _ => rfl
  | ret => rfl

/-! ### Memory that reads the same -/

structure SameH (H H' : Heap) : Prop where
  next : H'.next = H.next
  get : ∀ b, H'.get b = H.get b
  lo : H.next ≤ H.lo → H'.next ≤ H'.lo
theorem SameH.refl (H : Heap) : SameH H H := ⟨rfl, fun _ => rfl, id⟩
theorem SameH.trans {A B C : Heap} (h : SameH A B) (h' : SameH B C) : SameH A C := ⟨h'.next.trans h.next, fun b => (h'.get b).trans (h.get b), fun k => h'.lo (h.lo k)⟩
theorem LOk_next : ∀ (k : Nat) (H : Heap), (LOk k H).next = H.next
  | 0, _ => rfl
  | k + 1, H => by unfold LOk; rw [LOk_next k]
theorem LOk_lo : ∀ (k : Nat) (H : Heap), H.next ≤ H.lo → (LOk k H).next ≤ (LOk k H).lo
  | 0, _, h => h
  | k + 1, H, h => by
    unfold LOk
    refine LOk_lo k _ ?_
    show H.next ≤ min H.lo H.next
    omega
theorem SameH.lok (k : Nat) (H : Heap) : SameH H (LOk k H) := ⟨LOk_next k H, LOk_get k H, LOk_lo k H⟩
theorem SameH.up (H : Heap) : SameH H (up H) := ⟨rfl, fun _ => rfl, fun _ => Nat.le_refl _⟩

theorem get_up (k : Nat) (H : Heap) (b : Id) : (up (LOk k H)).get b = H.get b := ((SameH.up (LOk k H)).get b).trans (LOk_get k H b)

end Go.AM
