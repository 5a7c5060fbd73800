/-
  A region whose order is drawn: whatever comes up, we stand where the lexical run stands.
-/
import Derived.Test.YtmokkkbbbmcjnaaGreatDoorAmDraw1
import Derived.Test.YtmokkkbbbmcjnaaGreatDoorAmStep2
set_option linter.unusedSectionVars false
set_option linter.unusedSimpArgs false
set_option linter.unusedVariables false
namespace Go.AM

variable {P : Program}

/-- What operation j did to the temporaries and to memory. -/
structure Did (F : Foot) (s s' : St) (o : Oper) : Prop where
  temps : ∃ v t, s'.t = putV t o.dst v ∧ v.isBox = false ∧ (t = s.t ∨ ∃ d l', F = .ws d ∧ BoxAt s.t d ∧ t = s.t.set d (.box l'))
  mono : Mono s.h s'.h
  quiet : F ≠ .write → ∀ b, b < s.h.next → s'.h.get b = s.h.get b

theorem slot_heap {call : CallF} {L : List Tmp} {o : Oper} {t : List V} {h : Heap} {v : V} {t' : List V} {h' : Heap} (hst : step P call L o t h = some (v, t', h')) (d : Tmp) (hd : slotOf o t = some d) :
    h' = h ∧ ((isStore o = true ∧ foot o t true = .ws d) ∨ (isStore o = false ∧ foot o t true = .rs d)) := by
  unfold slotOf at hd
  split at hd
  · rename_i ty x hop
    split at hd
    · rename_i a ha
      simp only [Option.map_eq_some_iff] at hd
      obtain ⟨⟨d', off⟩, hbs, rfl⟩ := hd
      unfold step at hst
      rw [hop] at hst
      simp only [ha, Option.map_eq_some_iff, Prod.mk.injEq] at hst
      obtain ⟨_, _, _, _, rfl⟩ := hst
      exact ⟨rfl, .inr ⟨by simp [isStore, hop], by simp [foot, hop, ha, hbs]⟩⟩
    · cases hd
  · rename_i ty x y hop
    split at hd
    · rename_i a ha
      simp only [Option.map_eq_some_iff] at hd
      obtain ⟨⟨d', off⟩, hbs, rfl⟩ := hd
      unfold step at hst
      rw [hop] at hst
      simp only [ha] at hst
      split at hst
      · rename_i hu2
        rename_i u2
        simp only [Option.map_eq_some_iff, Prod.mk.injEq, Prod.exists] at hst
        obtain ⟨t2, h2, hsv, rfl, rfl, rfl⟩ := hst
        refine ⟨?_, .inl ⟨by simp [isStore, hop], by simp [foot, hop, ha, hbs]⟩⟩
        unfold storeV at hsv
        split at hsv
        case isFalse => cases hsv
        split at hsv
        · simp [boxSlot] at hbs
          split at hbs <;> simp_all
        · split at hsv
          · split at hsv
            · simp only [Option.map_eq_some_iff, Prod.mk.injEq] at hsv
              obtain ⟨_, _, _, rfl⟩ := hsv
              rfl
            · cases hsv
          · cases hsv
      · cases hst
    · cases hd
  · cases hd

theorem rec_did {call : CallF} (hmo : CallMono call) {L : List Tmp} {ops : Array Oper} {S : Nat → St} {F : Nat → Foot} {j : Nat} {o : Oper} (hd : ∀ d, o.dst = some d → d ∉ L) (h : Rec P call L ops S F j o) : Did (F j) (S j) (S (j + 1)) o := by
  obtain ⟨_, h⟩ := h
  rcases h with ⟨hw, v, t, h1, hst, hnb, hF, hS⟩ | ⟨hw, hF, hS⟩
  · have hm := step_mono hmo hst
    obtain ⟨u', hu', hcase⟩ := step_cong hst (u := (S j).t) (fun x hx i _ => .inl rfl) (fun d => Iff.rfl) (fun d _ => rfl) hd
    rw [hst] at hu'
    simp only [Option.some.injEq, Prod.mk.injEq, true_and] at hu'
    refine ⟨⟨v, t, by rw [hS], hnb, ?_⟩, by rw [hS]; exact Mono.asked hm, ?_⟩
    · rcases hcase with ⟨h2, _⟩ | ⟨d, l', hsl, his, hbx, h2, _, h3⟩
      · exact .inl h2
      · refine .inr ⟨d, l', ?_, hbx, h2⟩
        rw [hF]
        obtain ⟨_, h4⟩ := slot_heap hst d hsl
        have hq : Nat.ble (S j).h.next h1.lo = true := by rw [h3]; simp
        rw [hq]
        rcases h4 with ⟨_, h4⟩ | ⟨h5, _⟩
        · exact h4
        · rw [his] at h5; cases h5
    · intro hnw b hb
      rw [hS]
      have hq : Nat.ble (S j).h.next h1.lo = true := by
        cases hq : Nat.ble (S j).h.next h1.lo with
        | true => rfl
        | false => rw [hF, hq] at hnw; exact absurd rfl hnw
      exact hm.keep b hb (Nat.lt_of_lt_of_le hb (Nat.le_of_ble_eq_true hq))
  · refine ⟨⟨.tup [], (S j).t, by rw [hS], rfl, .inl rfl⟩, by rw [hS]; exact Mono.refl _, fun _ b _ => by rw [hS]⟩

section
variable {L : List Tmp} {ops : Array Oper} {S : Nat → St} {F : Nat → Foot}

/-- All that is known of the lexical run. -/
structure Lex (P : Program) (call : CallF) (L : List Tmp) (ops : Array Oper) (S : Nat → St) (F : Nat → Foot) : Prop where
  recs : ∀ j o, ops[j]? = some o → Rec P call L ops S F j o
  notL : ∀ (j : Nat) (o : Oper) (d : Tmp), ops[j]? = some o → o.dst = some d → d ∉ L
  uniq : ∀ (i j : Nat) (x y : Oper) (d : Tmp), ops[i]? = some x → ops[j]? = some y → x.dst = some d → y.dst = some d → i = j
  tmps : ∀ (j : Nat) (o : Oper), ops[j]? = some o → ∀ (i : Nat) (x : Oper), i < j → ops[i]? = some x → Ahead ops i j ∨ x.apart ops o = true
  nobox : ∀ (j : Nat) (o : Oper) (d : Tmp), ops[j]? = some o → o.dst = some d → ¬ BoxAt (S 0).t d
  back : ∀ (j : Nat) (o : Oper), ops[j]? = some o → ∀ e ∈ o.after, Region.binds .any e = true → e.on < j

variable {call : CallF}

theorem Lex.did (X : Lex P call L ops S F) (hmo : CallMono call) {j : Nat} {o : Oper} (ho : ops[j]? = some o) : Did (F j) (S j) (S (j + 1)) o :=
  rec_did hmo (X.notL j o · ho) (X.recs j o ho)

theorem op_at {j : Nat} (hj : j < ops.size) : ∃ o, ops[j]? = some o := ⟨ops[j], by simp [hj]⟩

/-- Which temporaries hold private variables does not turn. -/
theorem Lex.box (X : Lex P call L ops S F) (hmo : CallMono call) : ∀ (k : Nat), k ≤ ops.size → ∀ d, BoxAt (S k).t d ↔ BoxAt (S 0).t d
  | 0, _, d => Iff.rfl
  | k + 1, hk, d => by
    obtain ⟨o, ho⟩ := op_at (ops := ops) (j := k) (by omega)
    obtain ⟨v, t, h1, h2, h3⟩ := (X.did hmo ho).temps
    have ih := X.box hmo k (by omega) d
    rw [← ih]
    have ht : BoxAt t d ↔ BoxAt (S k).t d := by
      rcases h3 with rfl | ⟨d', l', _, ⟨l, hl⟩, rfl⟩
      · exact Iff.rfl
      · constructor
        · rintro ⟨u, hu⟩
          by_cases e : d' = d
          · subst e; exact ⟨l, hl⟩
          · rw [List.getElem?_set_ne e] at hu; exact ⟨u, hu⟩
        · rintro ⟨u, hu⟩
          by_cases e : d' = d
          · subst e
            have hlt : d' < (S k).t.length := (List.getElem?_eq_some_iff.1 hl).1
            exact ⟨l', by simp [hlt]⟩
          · exact ⟨u, by rw [List.getElem?_set_ne e]; exact hu⟩
    rw [h1]
    cases hd : o.dst with
    | none => exact ht
    | some e =>
      simp only [putV]
      by_cases hed : e = d
      · subst hed
        have hnb : ¬ BoxAt (S k).t e := fun h => X.nobox k o e ho hd (ih.1 h)
        constructor
        · rintro ⟨u, hu⟩
          rw [List.getElem?_set] at hu
          split at hu
          · split at hu
            · simp only [Option.some.injEq] at hu
              rw [hu] at h2; cases h2
            · cases hu
          · rename_i hne; exact absurd rfl hne
        · intro h; exact absurd h hnb
      · rw [← ht]
        unfold BoxAt
        rw [List.getElem?_set_ne hed]

/-- A temporary that no operation between writes. -/
theorem Lex.stay (X : Lex P call L ops S F) (hmo : CallMono call) (d : Tmp) (k : Nat) : ∀ (n : Nat), k + n ≤ ops.size →
    (∀ j o, k ≤ j → j < k + n → ops[j]? = some o → (¬ BoxAt (S 0).t d → o.dst ≠ some d) ∧ (BoxAt (S 0).t d → F j ≠ .ws d)) → (S (k + n)).t[d]? = (S k).t[d]?
  | 0, _, _ => rfl
  | n + 1, hn, h => by
    obtain ⟨o, ho⟩ := op_at (ops := ops) (j := k + n) (by omega)
    obtain ⟨v, t, h1, h2, h3⟩ := (X.did hmo ho).temps
    have ih := X.stay hmo d k n (by omega) (fun j o hj hj2 hoj => h j o hj (by omega) hoj)
    rw [← ih, show k + (n + 1) = k + n + 1 from rfl, h1]
    obtain ⟨hA, hB⟩ := h (k + n) o (by omega) (by omega) ho
    have hbx := X.box hmo (k + n) (by omega) d
    have ht : t[d]? = (S (k + n)).t[d]? := by
      rcases h3 with rfl | ⟨d', l', hF, hb, rfl⟩
      · rfl
      · by_cases e : d' = d
        · subst e
          exact absurd hF (hB (hbx.1 hb))
        · exact List.getElem?_set_ne e
    rw [← ht]
    cases hd : o.dst with
    | none => rfl
    | some e =>
      simp only [putV]
      refine List.getElem?_set_ne (fun hed => ?_)
      subst hed
      by_cases hbb : BoxAt (S 0).t e
      · exact X.nobox _ o e ho hd hbb
      · exact hA hbb hd

theorem Lex.len (X : Lex P call L ops S F) (hmo : CallMono call) : ∀ (k : Nat), k ≤ ops.size → (S k).t.length = (S 0).t.length
  | 0, _ => rfl
  | k + 1, hk => by
    obtain ⟨o, ho⟩ := op_at (ops := ops) (j := k) (by omega)
    obtain ⟨v, t, h1, h2, h3⟩ := (X.did hmo ho).temps
    rw [h1, putV_length, ← X.len hmo k (by omega)]
    rcases h3 with rfl | ⟨d', l', hF, hb, rfl⟩
    · rfl
    · simp

theorem Lex.next (X : Lex P call L ops S F) (hmo : CallMono call) (k : Nat) : ∀ (n : Nat), k + n ≤ ops.size → (S k).h.next ≤ (S (k + n)).h.next
  | 0, _ => Nat.le_refl _
  | n + 1, hn => by
    obtain ⟨o, ho⟩ := op_at (ops := ops) (j := k + n) (by omega)
    exact Nat.le_trans (X.next hmo k n (by omega)) (X.did hmo ho).mono.next

theorem Lex.next_le (X : Lex P call L ops S F) (hmo : CallMono call) {j k : Nat} (h : j ≤ k) (hk : k ≤ ops.size) : (S j).h.next ≤ (S k).h.next := by
  have := X.next hmo j (k - j) (by omega)
  rwa [show j + (k - j) = k by omega] at this

/-- Blocks that no operation between writes. -/
theorem Lex.keep (X : Lex P call L ops S F) (hmo : CallMono call) (b : Id) (k : Nat) (hb : b < (S k).h.next) : ∀ (n : Nat), k + n ≤ ops.size → (∀ j, k ≤ j → j < k + n → F j ≠ .write) → (S (k + n)).h.get b = (S k).h.get b
  | 0, _, _ => rfl
  | n + 1, hn, h => by
    obtain ⟨o, ho⟩ := op_at (ops := ops) (j := k + n) (by omega)
    have ih := X.keep hmo b k hb n (by omega) (fun j hj hj2 => h j hj (by omega))
    rw [← ih]
    exact (X.did hmo ho).quiet (h _ (by omega) (by omega)) b (Nat.lt_of_lt_of_le hb (X.next hmo k n (by omega)))

/-- Two operations of which one must not be apart from the other: one stands ahead. -/
theorem Lex.order (X : Lex P call L ops S F) {D : Nat → Prop} (hc : Closed ops D) {i m : Nat} (hi : i < ops.size) (hm : m < ops.size) (hne : i ≠ m) (hap : Foot.apart (F i) (F m) = false ∧ Foot.apart (F m) (F i) = false)
    (hiD : ¬ D i) (hrdy : Closed ops (fun j => D j ∨ j = i)) : (D m ↔ m < i) := by
  rcases Nat.lt_or_ge m i with h | h
  · refine ⟨fun _ => h, fun _ => ?_⟩
    obtain ⟨o, ho⟩ := op_at hi
    rcases (X.recs i o ho).1 m h with h1 | h1
    · rcases ahead_in ops _ hrdy i m (.inr rfl) h1 with h2 | h2
      · exact h2
      · exact absurd h2.symm hne
    · rw [hap.1] at h1; cases h1
  · have hlt : i < m := by omega
    refine ⟨fun hD => ?_, fun h2 => by omega⟩
    obtain ⟨o, ho⟩ := op_at hm
    rcases (X.recs m o ho).1 i hlt with h1 | h1
    · exact absurd (ahead_in ops D hc m i hD h1) hiD
    · rw [hap.2] at h1; cases h1

end

/-! ### The state behind any choice -/

structure Inv (P : Program) [Glob P] (W : Nat → Prop) (lim : Nat) (E0 : Emb) (w0 : World) (ops : Array Oper) (S : Nat → St) (F : Nat → Foot) (D : Nat → Prop) (a : Act) (w : World) : Prop where
  closed : Closed ops D
  inv : ∃ (E : Emb) (lam : Tmp → Nat) (tb : List V) (g : Id → Option Obj),
    HG P W 0 E g 0 w ∧ SR W E lam tb w a.tmps ∧ a.defers = [] ∧ E0.le E ∧ Same W w0 w ∧
    (∀ b, E.dom b → (b < (S 0).h.next ∨ lim ≤ b) ∨ ∃ j, D j ∧ (S j).h.next ≤ b ∧ b < (S (j + 1)).h.next) ∧
    (∀ b, E.dom b → E0.dom b ∨ ((S 0).h.next ≤ b ∧ b < (S ops.size).h.next ∧ W (E.pl b).c)) ∧
    (∀ k, k ≤ ops.size → (∀ m, m < ops.size → F m = .write → (D m ↔ m < k)) → ∀ b, E.dom b → b < (S k).h.next → g b = (S k).h.get b) ∧
    (∀ b, E.dom b → lim ≤ b → g b = none) ∧
    tb.length = (S 0).t.length ∧
    (∀ d, BoxAt tb d ↔ BoxAt (S 0).t d) ∧
    (∀ d, BoxAt (S 0).t d → ∀ k, k ≤ ops.size → (∀ m, m < ops.size → F m = .ws d → (D m ↔ m < k)) → tb[d]? = (S k).t[d]?) ∧
    (∀ d, ¬ BoxAt (S 0).t d → (∀ j o, D j → ops[j]? = some o → o.dst ≠ some d) → tb[d]? = (S 0).t[d]?) ∧
    (∀ j o d, D j → ops[j]? = some o → o.dst = some d → tb[d]? = (S (j + 1)).t[d]?)

end Go.AM

/-
  A region whose order is drawn: one operation more.
-/
set_option linter.unusedSectionVars false
set_option linter.unusedSimpArgs false
set_option linter.unusedVariables false
namespace Go.AM

variable {P : Program} [Glob P]

theorem wanted_cong {ops : Array Oper} {o : Oper} {t u : List V} (h : ∀ d, d ∈ o.looksAt ops → t[d]? = u[d]? ∨ (∃ l l', t[d]? = some (V.box l) ∧ u[d]? = some (V.box l'))) : wantedV ops t o = wantedV ops u o := by
  unfold wantedV
  split
  · rfl
  · rename_i j want hg
    split
    · rename_i oj hj
      split
      · rename_i d hd
        have hmem : d ∈ o.looksAt ops := by
          unfold Oper.looksAt
          apply List.mem_append_right
          simp [hg, hj, hd]
        rcases h d hmem with h1 | ⟨l, l', h1, h2⟩
        · rw [h1]
        · rw [h1, h2]
      · rfl
    · rfl

theorem slot_box {call : CallF} {L : List Tmp} {o : Oper} {t : List V} {h : Heap} {v : V} {t' : List V} {h' : Heap} (hst : step P call L o t h = some (v, t', h')) (d : Tmp) (hd : slotOf o t = some d) : BoxAt t d := by
  unfold slotOf at hd
  split at hd
  · rename_i ty x hop
    split at hd
    · rename_i a ha
      simp only [Option.map_eq_some_iff] at hd
      obtain ⟨⟨d', off⟩, hbs, rfl⟩ := hd
      unfold step at hst
      rw [hop] at hst
      simp only [ha, Option.map_eq_some_iff, Prod.mk.injEq] at hst
      obtain ⟨z, hz, _⟩ := hst
      unfold loadV at hz
      split at hz
      · rename_i l off2 hr
        unfold rowAt at hr
        split at hr
        · simp [boxSlot] at hbs
        · rw [hbs] at hr
          simp only at hr
          split at hr
          · rename_i l2 hl2; exact ⟨l2, hl2⟩
          · cases hr
      · cases hz
    · cases hd
  · rename_i ty x y hop
    split at hd
    · rename_i a ha
      simp only [Option.map_eq_some_iff] at hd
      obtain ⟨⟨d', off⟩, hbs, rfl⟩ := hd
      unfold step at hst
      rw [hop] at hst
      simp only [ha] at hst
      split at hst
      · rename_i a1 u1 hu1 hu2
        cases hu1
        simp only [Option.map_eq_some_iff, Prod.mk.injEq, Prod.exists] at hst
        obtain ⟨t2, h2, hsv, rfl, rfl, rfl⟩ := hst
        unfold storeV at hsv
        split at hsv
        case isFalse => cases hsv
        split at hsv
        · simp [boxSlot] at hbs
        · rw [hbs] at hsv
          simp only at hsv
          split at hsv
          · rename_i l2 hl2; exact ⟨l2, hl2⟩
          · cases hsv
      · cases hst
    · cases hd
  · cases hd

/-- It looks at no memory. -/
def NH (f : Foot) : Prop := f = .free ∨ ∃ d, f = .rs d
theorem apart_write (f : Foot) (h : ¬ NH f) : Foot.apart f .write = false ∧ Foot.apart .write f = false := by
  cases f
  case free => exact absurd (.inl rfl) h
  case rs d => exact absurd (.inr ⟨d, rfl⟩) h
  all_goals exact ⟨rfl, rfl⟩
theorem nh_write {f : Foot} (h : f = .write) : ¬ NH f := by
  subst h
  rintro (h | ⟨d, h⟩) <;> cases h

theorem step_free {call : CallF} {L : List Tmp} {o : Oper} {t : List V} {h : Heap} {v : V} {t' : List V} {h' : Heap} (hst : step P call L o t h = some (v, t', h')) (q : Bool) (hf : NH (foot o t q)) :
    h' = h ∧ ∀ h2, step P call L o t h2 = some (v, t', h2) := by
  have hq : q = true := by
    cases q with
    | true => rfl
    | false => exact absurd hf (nh_write rfl)
  subst hq
  have mp : ∀ (z : Option V), z.map (fun x => (x, t, h)) = some (v, t', h') → h' = h ∧ ∀ h2 : Heap, z.map (fun x => (x, t, h2)) = some (v, t', h2) := by
    intro z hz
    cases z with
    | none => cases hz
    | some a => cases hz; exact ⟨rfl, fun _ => rfl⟩
  unfold foot at hf
  unfold step at hst ⊢
  cases hop : o.op
  all_goals (simp only [hop] at hst hf ⊢)
  all_goals first
    | (exfalso; revert hf; simp [freeOp, NH]; done)
    | skip
  case load ty x =>
    split at hf
    · rename_i a ha
      split at hf
      · rename_i d off hbs
        simp only [ha] at hst ⊢
        have e : ∀ h2, loadV P ty t h2 x a = loadV P ty t h x a := fun h2 => by
          have : rowAt t h2 x a = rowAt t h x a := by
            unfold rowAt
            cases a <;> first | rfl | (cases x <;> cases hbs)
          unfold loadV
          rw [this]
        obtain ⟨h1, h2⟩ := mp _ hst
        exact ⟨h1, fun h3 => by rw [e]; exact h2 h3⟩
      · rcases hf with hf | ⟨d, hf⟩ <;> cases hf
    · rcases hf with hf | ⟨d, hf⟩ <;> cases hf
  case store ty x y =>
    exfalso
    split at hf
    · split at hf <;> rcases hf with hf | ⟨d, hf⟩ <;> cases hf
    · rcases hf with hf | ⟨d, hf⟩ <;> cases hf
  all_goals first
    | exact mp _ hst
    | (split at hst <;> first
        | (cases hst; done)
        | exact mp _ hst
        | (cases hst; exact ⟨rfl, fun _ => rfl⟩)
        | (split at hst <;> first
            | (cases hst; done)
            | exact mp _ hst
            | (rename_i hq; simp only [hq, if_true]; exact mp _ hst)))
theorem apart_slot (f : Foot) (d : Tmp) (h : f = .rs d ∨ f = .ws d) : Foot.apart f (.ws d) = false ∧ Foot.apart (.ws d) f = false := by
  rcases h with rfl | rfl <;> simp [Foot.apart]

section
variable {W : Nat → Prop} {lim : Nat} {E0 : Emb} {w0 : World} {L : List Tmp} {ops : Array Oper} {S : Nat → St} {F : Nat → Foot} {call : CallF} {D : Nat → Prop} {a : Act} {w : World}

theorem Lex.nh_next (X : Lex P call L ops S F) (hmo : CallMono call) {j : Nat} (hj : j < ops.size) (h : NH (F j)) : (S (j + 1)).h.next = (S j).h.next := by
  obtain ⟨o, ho⟩ := op_at (ops := ops) hj
  rcases (X.recs j o ho).2 with ⟨_, v, t, h1, hst, _, hF, hS⟩ | ⟨_, _, hS⟩
  · rw [hF] at h
    have := (step_free hst _ h).1
    rw [hS, this]
  · rw [hS]

/-- The writable places while operation i is carried out: none of those that others, who stand behind it, have made. -/
def Wi (W : Nat → Prop) (E : Emb) (g : Id → Option Obj) (l : Nat) : Nat → Prop := fun c => W c ∧ ∀ b, E.dom b → l ≤ b → isLive (g b) = true → (E.pl b).c ≠ c

theorem Inv.op (X : Lex P call L ops S F) (hc : CallOk P call) (hmo : CallMono call) (hlim : (S ops.size).h.next ≤ lim) (I : Inv P W lim E0 w0 ops S F D a w) (i : Nat) (o : Oper) (ho : ops[i]? = some o) (hiD : ¬ D i)
    (hdeps : ∀ e ∈ o.after, Region.binds .any e = true → D e.on) (K : Act → World → Prop) (Q : Exit → Act → World → Prop)
    (hK : ∀ a' w', Inv P W lim E0 w0 ops S F (fun j => D j ∨ j = i) a' w' → K a' w') : wpOp P ops Q i K a w := by
  obtain ⟨closed, E, lam, tb, g, HGg, SRb, dfr, le0, same0, ids, new0, Gk, Glim, tlen, tbox, tslot, tfree, tdst⟩ := I
  have hin : i < ops.size := by
    rcases Nat.lt_or_ge i ops.size with h | h
    · exact h
    · rw [Array.getElem?_eq_none h] at ho; cases ho
  have hrdy : Closed ops (fun j => D j ∨ j = i) := by
    rintro j (hj | rfl)
    · obtain ⟨oj, hoj, hd⟩ := closed j hj
      exact ⟨oj, hoj, fun e he hb => .inl (hd e he hb)⟩
    · exact ⟨o, ho, fun e he hb => .inl (hdeps e he hb)⟩
  have consW : ¬ NH (F i) → ∀ m, m < ops.size → F m = .write → (D m ↔ m < i) := by
    intro hnh m hm hF
    by_cases e : i = m
    · subst e; exact ⟨fun h => absurd h hiD, fun h => absurd h (Nat.lt_irrefl _)⟩
    · exact X.order closed hin hm e (by rw [hF]; exact apart_write _ hnh) hiD hrdy
  have geq : ¬ NH (F i) → ∀ b, E.dom b → b < (S i).h.next → g b = (S i).h.get b := fun hnh => Gk i (by omega) (consW hnh)
  have made : ∀ j, j < ops.size → ∀ b, (S j).h.next ≤ b → b < (S (j + 1)).h.next → ¬ NH (F j) := by
    intro j hj b h1 h2 hnh
    have := X.nh_next hmo hj hnh
    rw [this] at h2
    exact absurd (Nat.lt_of_lt_of_le h2 h1) (Nat.lt_irrefl _)
  have hn1 : (S i).h.next ≤ (S (i + 1)).h.next := X.next_le hmo (by omega) (by omega)
  have hn2 : (S (i + 1)).h.next ≤ (S ops.size).h.next := X.next_le hmo (by omega) (by omega)
  have hn0 : (S 0).h.next ≤ (S i).h.next := X.next_le hmo (by omega) (by omega)
  have lt_i : ∀ b, E.dom b → b < (S i).h.next ∨ (S (i + 1)).h.next ≤ b := by
    intro b hb
    rcases ids b hb with (h | h) | ⟨j, hj, h1, h2⟩
    · exact .inl (Nat.lt_of_lt_of_le h hn0)
    · exact .inr (Nat.le_trans hn2 (Nat.le_trans hlim h))
    · have hjn : j < ops.size := by
        obtain ⟨oj, hoj, _⟩ := closed j hj
        rcases Nat.lt_or_ge j ops.size with h | h
        · exact h
        · rw [Array.getElem?_eq_none h] at hoj; cases hoj
      rcases Nat.lt_trichotomy j i with h | h | h
      · exact .inl (Nat.lt_of_lt_of_le h2 (X.next_le hmo (by omega) (by omega)))
      · subst h; exact absurd hj hiD
      · exact .inr (Nat.le_trans (X.next_le hmo (by omega) (by omega)) h1)
  -- memory, as operation i finds it
  have H1 : ¬ NH (F i) → HR P (Wi W E g (S (i + 1)).h.next) (S (i + 1)).h.next E { (S i).h with lo := (S i).h.next } w := by
    intro hnh
    have ge : ∀ b x, E.dom b → (S i).h.get b = some x → g b = some x := fun b x hb hg => by rw [geq hnh b hb (Heap.get_lt hg)]; exact hg
    refine ⟨lt_i, HGg.size, fun b ro ty l hb hg => HGg.row b ro ty l hb (ge b _ hb hg), ?_, fun b ro ty l hb hg => HGg.esz b ro ty l hb (ge b _ hb hg), ?_, ?_, Glob.sub HGg.glob (fun c hc => .inl hc.1), fun b ty l hb hg => HGg.bld b ty l hb (ge b _ hb hg)⟩
    · intro b hb hr
      have hr' : isRw ((S i).h.get b) = true := hr
      cases hg : (S i).h.get b with
      | none => rw [hg] at hr'; cases hr'
      | some x =>
        have hgb := ge b x hb hg
        rw [hg] at hr'
        refine ⟨HGg.own b hb (by rw [hgb]; exact hr'), fun b' hb' hl' hlive e => ?_⟩
        have hne : b ≠ b' := fun e2 => by
          have := Heap.get_lt hg
          subst e2
          exact absurd (Nat.lt_of_lt_of_le this (Nat.le_trans hn1 hl')) (Nat.lt_irrefl _)
        exact HGg.inj b b' hb hb' hne (by rw [hgb]; exact hr') hlive e.symm
    · intro b b' hb hb' hne hr hl
      have hr' : isRw ((S i).h.get b) = true := hr
      have hl2 : isLive ((S i).h.get b') = true := hl
      cases hg : (S i).h.get b with
      | none => rw [hg] at hr'; cases hr'
      | some x =>
        cases hg' : (S i).h.get b' with
        | none => rw [hg'] at hl2; cases hl2
        | some x' =>
          rw [hg] at hr'
          rw [hg'] at hl2
          exact HGg.inj b b' hb hb' hne (by rw [ge b x hb hg]; exact hr') (by rw [ge b' x' hb' hg']; exact hl2)
    · intro c hcs
      exact ⟨HGg.top c hcs, fun b hb _ _ e => by have := HGg.size b hb; omega⟩
  have S1 : SR (Wi W E g (S (i + 1)).h.next) E lam tb w a.tmps :=
    ⟨SRb.len, SRb.val, fun d l hd => ⟨(SRb.box d l hd).1, ⟨(SRb.box d l hd).2.1, fun b hb _ _ e => SRb.apart d l b hd hb e.symm⟩, (SRb.box d l hd).2.2⟩, SRb.dist, SRb.apart⟩
  -- the temporaries that operation i looks at
  have look : ∀ t, t ∈ o.looksAt ops → ¬ BoxAt (S 0).t t → (S i).t[t]? = tb[t]? := by
    intro t ht hnb
    by_cases hex : ∃ (j : Nat) (oj : Oper), ops[j]? = some oj ∧ oj.dst = some t
    · obtain ⟨j, oj, hoj, hd⟩ := hex
      have hjn : j < ops.size := by
        rcases Nat.lt_or_ge j ops.size with h | h
        · exact h
        · rw [Array.getElem?_eq_none h] at hoj; cases hoj
      rcases Nat.lt_or_ge j i with h | h
      · have hDj : D j := by
          rcases X.tmps i o ho j oj h hoj with h1 | h1
          · rcases ahead_in ops _ hrdy i j (.inr rfl) h1 with h2 | h2
            · exact h2
            · omega
          · exact absurd ht ((Oper.apart_spec h1).1 t hd)
        rw [tdst j oj t hDj hoj hd]
        have := X.stay hmo t (j + 1) (i - (j + 1)) (by omega) (fun j' o' hj1 hj2 ho' => ⟨fun _ hd' => by have := X.uniq j j' oj o' t hoj ho' hd hd'; omega, fun hb => absurd hb hnb⟩)
        rwa [show j + 1 + (i - (j + 1)) = i by omega] at this
      · have e1 := X.stay hmo t 0 i (by omega) (fun j' o' hj1 hj2 ho' => ⟨fun _ hd' => by have := X.uniq j j' oj o' t hoj ho' hd hd'; omega, fun hb => absurd hb hnb⟩)
        rw [Nat.zero_add] at e1
        rw [e1]
        refine (tfree t hnb (fun j' o' hD' ho' hd' => ?_)).symm
        have := X.uniq j j' oj o' t hoj ho' hd hd'
        subst this
        rcases Nat.eq_or_lt_of_le h with h2 | h2
        · subst h2; exact hiD hD'
        · rcases X.tmps j oj hoj i o h2 ho with h3 | h3
          · exact hiD (ahead_in ops D closed j i hD' h3)
          · exact (Oper.apart_spec h3).2.2 t hd ht
    · have e1 := X.stay hmo t 0 i (by omega) (fun j' o' hj1 hj2 ho' => ⟨fun _ hd' => hex ⟨j', o', ho', hd'⟩, fun hb => absurd hb hnb⟩)
      rw [Nat.zero_add] at e1
      rw [e1]
      exact (tfree t hnb (fun j' o' hD' ho' hd' => hex ⟨j', o', ho', hd'⟩)).symm
  have boxes : ∀ d, BoxAt (S i).t d ↔ BoxAt tb d := fun d => (X.box hmo i (by omega) d).trans (tbox d).symm
  have look2 : ∀ t, t ∈ o.looksAt ops → (S i).t[t]? = tb[t]? ∨ (∃ l l', (S i).t[t]? = some (V.box l) ∧ tb[t]? = some (V.box l')) := by
    intro t ht
    by_cases hb : BoxAt (S 0).t t
    · obtain ⟨l, hl⟩ := (X.box hmo i (by omega) t).2 hb
      obtain ⟨l', hl'⟩ := (tbox t).2 hb
      exact .inr ⟨l, l', hl, hl'⟩
    · exact .inl (look t ht hb)
  -- the temporaries behind the operation
  have temps : ∀ (u1 tt t : List V) (v : V), v.isBox = false → (S (i + 1)).t = putV t o.dst v → u1 = putV tt o.dst v →
      ((t = (S i).t ∧ tt = tb) ∨ ∃ d l', F i = .ws d ∧ BoxAt (S i).t d ∧ t = (S i).t.set d (.box l') ∧ tt = tb.set d (.box l')) →
      u1.length = (S 0).t.length ∧ (∀ d, BoxAt u1 d ↔ BoxAt (S 0).t d) ∧
      (∀ d, BoxAt (S 0).t d → ∀ k, k ≤ ops.size → (∀ m, m < ops.size → F m = .ws d → ((D m ∨ m = i) ↔ m < k)) → u1[d]? = (S k).t[d]?) ∧
      (∀ d, ¬ BoxAt (S 0).t d → (∀ j o, (D j ∨ j = i) → ops[j]? = some o → o.dst ≠ some d) → u1[d]? = (S 0).t[d]?) ∧
      (∀ j o d, (D j ∨ j = i) → ops[j]? = some o → o.dst = some d → u1[d]? = (S (j + 1)).t[d]?) := by
    intro u1 tt t v hvb hSt hu1 hcase
    have hlen : u1.length = (S 0).t.length := by
      rw [hu1, putV_length, ← tlen]
      rcases hcase with ⟨_, rfl⟩ | ⟨d, l', _, _, _, rfl⟩
      · rfl
      · simp
    -- a temporary behind it
    have tmp_at : ∀ d, (o.dst ≠ some d) → (¬ (F i = .ws d)) → u1[d]? = tb[d]? := by
      intro d hd hF
      have h1 : tt[d]? = tb[d]? := by
        rcases hcase with ⟨_, rfl⟩ | ⟨d', l', hF', _, _, rfl⟩
        · rfl
        · exact List.getElem?_set_ne (fun (e : d' = d) => hF (by rw [← e]; exact hF'))
      rw [hu1, ← h1]
      cases hdst : o.dst with
      | none => rfl
      | some e => simp only [putV]; exact List.getElem?_set_ne (fun e2 => hd (by rw [hdst, e2]))
    refine ⟨hlen, ?_, ?_, ?_, ?_⟩
    · -- which are private variables
      intro d
      rw [← tbox d]
      have ht : BoxAt tt d ↔ BoxAt tb d := by
        rcases hcase with ⟨_, rfl⟩ | ⟨d', l', _, hb', _, rfl⟩
        · exact Iff.rfl
        · obtain ⟨l, hl⟩ := (boxes d').1 hb'
          constructor
          · rintro ⟨u, hu⟩
            by_cases e : d' = d
            · subst e; exact ⟨l, hl⟩
            · rw [List.getElem?_set_ne e] at hu; exact ⟨u, hu⟩
          · rintro ⟨u, hu⟩
            by_cases e : d' = d
            · subst e
              have hlt : d' < tb.length := (List.getElem?_eq_some_iff.1 hl).1
              exact ⟨l', by simp [hlt]⟩
            · exact ⟨u, by rw [List.getElem?_set_ne e]; exact hu⟩
      rw [← ht, hu1]
      cases hdst : o.dst with
      | none => exact Iff.rfl
      | some e =>
        simp only [putV]
        by_cases hed : e = d
        · subst hed
          have hnb : ¬ BoxAt tt e := fun h => X.nobox i o e ho hdst ((tbox e).1 (ht.1 h))
          constructor
          · rintro ⟨u, hu⟩
            rw [List.getElem?_set] at hu
            split at hu
            · split at hu
              · simp only [Option.some.injEq] at hu
                rw [hu] at hvb; cases hvb
              · cases hu
            · rename_i hne; exact absurd rfl hne
          · intro h; exact absurd h hnb
        · unfold BoxAt
          rw [List.getElem?_set_ne hed]
    · -- a private variable's cells
      intro d hb k hk hcons
      have hdne : o.dst ≠ some d := fun e => X.nobox i o d ho e hb
      by_cases hF : F i = .ws d
      · have hik : i < k := (hcons i hin hF).1 (.inr rfl)
        have hnow : ∀ j, i + 1 ≤ j → j < k → F j ≠ .ws d := by
          intro j hj1 hj2 hFj
          have hjn : j < ops.size := by omega
          rcases (hcons j hjn hFj).2 hj2 with h1 | h1
          · have := (X.order closed hin hjn (by omega) (by rw [hFj]; exact apart_slot _ d (.inr hF)) hiD hrdy).1 h1
            omega
          · omega
        have e1 := X.stay hmo d (i + 1) (k - (i + 1)) (by omega) (fun j oj hj1 hj2 hoj => ⟨fun hnb => absurd hb hnb, fun _ => hnow j hj1 (by omega)⟩)
        rw [show i + 1 + (k - (i + 1)) = k by omega] at e1
        rw [e1]
        have hput : ∀ (l : List V), (putV l o.dst v)[d]? = l[d]? := by
          intro l
          cases hdst : o.dst with
          | none => rfl
          | some e => simp only [putV]; exact List.getElem?_set_ne (fun e2 => hdne (by rw [hdst, e2]))
        rw [hu1, hSt, hput, hput]
        rcases hcase with ⟨rfl, rfl⟩ | ⟨d', l', hF', hb', rfl, rfl⟩
        · -- it stored nothing: as before
          refine tslot d hb i (by omega) (fun m hm hFm => ?_)
          by_cases e : i = m
          · subst e; exact ⟨fun h => absurd h hiD, fun h => absurd h (Nat.lt_irrefl _)⟩
          · exact X.order closed hin hm e (by rw [hFm]; exact apart_slot _ d (.inr hF)) hiD hrdy
        · rw [hF] at hF'
          cases hF'
          have hl1 : d < tb.length := by obtain ⟨l, hl⟩ := (tbox d).2 hb; exact (List.getElem?_eq_some_iff.1 hl).1
          have hl2 : d < (S i).t.length := by obtain ⟨l, hl⟩ := hb'; exact (List.getElem?_eq_some_iff.1 hl).1
          simp [hl1, hl2]
      · rw [tmp_at d hdne hF]
        refine tslot d hb k hk (fun m hm hFm => ?_)
        have h1 := hcons m hm hFm
        constructor
        · intro h; exact h1.1 (.inl h)
        · intro h
          rcases h1.2 h with h2 | h2
          · exact h2
          · subst h2; exact absurd hFm hF
    · intro d hnb hfree
      have hdne : o.dst ≠ some d := hfree i o (.inr rfl) ho
      have hFne : F i ≠ .ws d ∨ F i = .ws d := by by_cases h : F i = .ws d <;> simp [h]
      have htt : tt[d]? = tb[d]? := by
        rcases hcase with ⟨_, rfl⟩ | ⟨d', l', hF', hb', _, rfl⟩
        · rfl
        · refine List.getElem?_set_ne (fun e => ?_)
          subst e
          exact hnb ((X.box hmo i (by omega) d').1 hb')
      have : u1[d]? = tb[d]? := by
        rw [hu1, ← htt]
        cases hdst : o.dst with
        | none => rfl
        | some e => simp only [putV]; exact List.getElem?_set_ne (fun e2 => hdne (by rw [hdst, e2]))
      rw [this]
      exact tfree d hnb (fun j oj hj hoj => hfree j oj (.inl hj) hoj)
    · intro j oj d hj hoj hd
      rcases hj with hj | rfl
      · have hne : j ≠ i := fun e => hiD (e ▸ hj)
        have hdne : o.dst ≠ some d := fun e => hne (X.uniq j i oj o d hoj ho hd e)
        have hnb : ¬ BoxAt (S 0).t d := X.nobox j oj d hoj hd
        have htt : tt[d]? = tb[d]? := by
          rcases hcase with ⟨_, rfl⟩ | ⟨d', l', hF', hb', _, rfl⟩
          · rfl
          · refine List.getElem?_set_ne (fun e => ?_)
            subst e
            exact hnb ((X.box hmo i (by omega) d').1 hb')
        have : u1[d]? = tb[d]? := by
          rw [hu1, ← htt]
          cases hdst : o.dst with
          | none => rfl
          | some e => simp only [putV]; exact List.getElem?_set_ne (fun e2 => hdne (by rw [hdst, e2]))
        rw [this]
        exact tdst j oj d hj hoj hd
      · rw [ho] at hoj
        cases hoj
        rw [hu1, hSt, hd]
        simp only [putV]
        have hl1 : tt.length = (S 0).t.length := by
          have := hlen; rw [hu1, putV_length] at this; exact this
        have hl2 : t.length = (S 0).t.length := by
          have := X.len hmo (j + 1) (by omega); rw [hSt, putV_length] at this; exact this
        rw [List.getElem?_set, List.getElem?_set]
        simp [hl1, hl2]
  -- what is known behind the operation
  have after : ¬ NH (F i) → ∀ (E' : Emb) (lam' : Tmp → Nat) (u1 tt t : List V) (v : V) (h' : Heap) (a' : Act) (w' : World), HR P (Wi W E g (S (i + 1)).h.next) (S (i + 1)).h.next E' h' w' → SR (Wi W E g (S (i + 1)).h.next) E' lam' u1 w' a'.tmps → a'.defers = [] →
      Fwd (Wi W E g (S (i + 1)).h.next) E { (S i).h with lo := (S i).h.next } w E' h' w' → h'.next = (S (i + 1)).h.next → (∀ b, h'.get b = (S (i + 1)).h.get b) → v.isBox = false → (S (i + 1)).t = putV t o.dst v → u1 = putV tt o.dst v →
      ((t = (S i).t ∧ tt = tb) ∨ ∃ d l', F i = .ws d ∧ BoxAt (S i).t d ∧ t = (S i).t.set d (.box l') ∧ tt = tb.set d (.box l')) → Inv P W lim E0 w0 ops S F (fun j => D j ∨ j = i) a' w' := by
    intro hnh E' lam' u1 tt t v h' a' w' HR' SR' dfr' fw hnx hget hvb hSt hu1 hcase
    have hT := temps u1 tt t v hvb hSt hu1 hcase
    have hfw_new : ∀ b, E'.dom b → E.dom b ∨ ((S i).h.next ≤ b ∧ b < (S (i + 1)).h.next ∧ Wi W E g (S (i + 1)).h.next (E'.pl b).c) := fun b hb => by
      rcases fw.new b hb with h1 | ⟨h1, h2, h3⟩
      · exact .inl h1
      · exact .inr ⟨h1, by rw [← hnx]; exact h2, h3⟩
    have old_ge : ∀ b, E'.dom b → (S (i + 1)).h.next ≤ b → E.dom b := fun b hb hl => by
      rcases hfw_new b hb with h1 | ⟨_, h2, _⟩
      · exact h1
      · exact absurd (Nat.lt_of_lt_of_le h2 hl) (Nat.lt_irrefl _)
    have quiet_of : (∃ b, E.dom b ∧ (S (i + 1)).h.next ≤ b ∧ isLive (g b) = true) → F i ≠ .write := by
      rintro ⟨b, hb, hl, hlive⟩ hFw
      rcases ids b hb with (h | h) | ⟨j, hj, h1, h2⟩
      · exact absurd (Nat.lt_of_lt_of_le h (Nat.le_trans hn0 (Nat.le_trans hn1 hl))) (Nat.lt_irrefl _)
      · rw [Glim b hb h] at hlive; cases hlive
      · have hjn : j < ops.size := by
          obtain ⟨oj, hoj, _⟩ := closed j hj
          rcases Nat.lt_or_ge j ops.size with h | h
          · exact h
          · rw [Array.getElem?_eq_none h] at hoj; cases hoj
        have hji : i < j := by
          rcases Nat.lt_trichotomy j i with h | h | h
          · have := X.next_le hmo (show j + 1 ≤ i by omega) (by omega)
            exact absurd (Nat.lt_of_lt_of_le h2 (Nat.le_trans this (Nat.le_trans hn1 hl))) (Nat.lt_irrefl _)
          · subst h; exact absurd hj hiD
          · exact h
        have := (X.order closed hin hjn (by omega) (by rw [hFw]; exact ⟨(apart_write _ (made j hjn b h1 h2)).2, (apart_write _ (made j hjn b h1 h2)).1⟩) hiD hrdy).1 hj
        omega
    refine ⟨hrdy, E', lam', u1, (fun b => if b < (S (i + 1)).h.next then (S (i + 1)).h.get b else g b), ?_, ?_, dfr', Emb.le_trans le0 fw.le, same0.trans (fw.same.weaken (fun c h => h.1)), ?_, ?_, ?_, ?_, hT.1, hT.2.1, hT.2.2.1, hT.2.2.2.1, hT.2.2.2.2⟩
    · -- memory
      have glt : ∀ b, b < (S (i + 1)).h.next → (if b < (S (i + 1)).h.next then (S (i + 1)).h.get b else g b) = h'.get b := fun b hb => by rw [if_pos hb, hget]
      have gge : ∀ b, (S (i + 1)).h.next ≤ b → (if b < (S (i + 1)).h.next then (S (i + 1)).h.get b else g b) = g b := fun b hb => by rw [if_neg (Nat.not_lt.2 hb)]
      refine ⟨fun b _ => .inr (Nat.zero_le _), HR'.size, ?_, ?_, ?_, ?_, fun c hcs => (HR'.top c hcs).1, Glob.same HGg.glob fw.same.size (fun c hc => fw.same.heap c (fun h => hc h.1)), ?_⟩
      · intro b ro ty l hb hg
        rcases Nat.lt_or_ge b (S (i + 1)).h.next with hlt | hge
        · simp only [glt b hlt] at hg; exact HR'.row b ro ty l hb hg
        · simp only [gge b hge] at hg
          have hbE := old_ge b hb hge
          rw [(fw.le b hbE).2]
          exact ((HGg.row b ro ty l hbE hg).mono fw.le).of_eq (fw.same.heap _ (fun hW => hW.2 b hbE hge (by rw [hg]; rfl) rfl))
      · intro b hb hr
        rcases Nat.lt_or_ge b (S (i + 1)).h.next with hlt | hge
        · simp only [glt b hlt] at hr; exact (HR'.own b hb hr).1
        · simp only [gge b hge] at hr
          have hbE := old_ge b hb hge
          rw [(fw.le b hbE).2]; exact HGg.own b hbE hr
      · intro b ro ty l hb hg
        rcases Nat.lt_or_ge b (S (i + 1)).h.next with hlt | hge
        · simp only [glt b hlt] at hg; exact HR'.esz b ro ty l hb hg
        · simp only [gge b hge] at hg
          have hbE := old_ge b hb hge
          rw [(fw.le b hbE).2]; exact HGg.esz b ro ty l hbE hg
      · intro b b' hb hb' hne hr hl
        rcases Nat.lt_or_ge b (S (i + 1)).h.next with hlt | hge
        · simp only [glt b hlt] at hr
          rcases Nat.lt_or_ge b' (S (i + 1)).h.next with hlt' | hge'
          · simp only [glt b' hlt'] at hl; exact HR'.inj b b' hb hb' hne hr hl
          · simp only [gge b' hge'] at hl
            have hbE' := old_ge b' hb' hge'
            have hW := HR'.own b hb hr
            rw [(fw.le b' hbE').2]
            exact fun e => hW.2 b' hbE' hge' hl e.symm
        · simp only [gge b hge] at hr
          have hbE := old_ge b hb hge
          have hblive := isLive_of_isRw hr
          rw [(fw.le b hbE).2]
          rcases Nat.lt_or_ge b' (S (i + 1)).h.next with hlt' | hge'
          · simp only [glt b' hlt'] at hl
            rcases hfw_new b' hb' with hE' | ⟨_, _, hW'⟩
            · have hb'i : b' < (S i).h.next := by
                rcases lt_i b' hE' with h1 | h1
                · exact h1
                · exact absurd (Nat.lt_of_lt_of_le hlt' h1) (Nat.lt_irrefl _)
              have hq := quiet_of ⟨b, hbE, hge, hblive⟩
              have hk := (X.did hmo ho).quiet hq b' hb'i
              rw [hget, hk, ← geq hnh b' hE' hb'i] at hl
              rw [(fw.le b' hE').2]
              exact HGg.inj b b' hbE hE' hne hr hl
            · exact hW'.2 b hbE hge hblive
          · simp only [gge b' hge'] at hl
            have hbE' := old_ge b' hb' hge'
            rw [(fw.le b' hbE').2]
            exact HGg.inj b b' hbE hbE' hne hr hl
      · intro b ty l hb hg
        rcases Nat.lt_or_ge b (S (i + 1)).h.next with hlt | hge
        · simp only [glt b hlt] at hg; exact HR'.bld b ty l hb hg
        · simp only [gge b hge] at hg
          have hbE := old_ge b hb hge
          rw [(fw.le b hbE).2, shape_of (fw.same.heap _ (fun hW => hW.2 b hbE hge (by rw [hg]; rfl) rfl))]
          exact HGg.bld b ty l hbE hg
    · exact ⟨SR'.len, SR'.val, fun d l hd => ⟨(SR'.box d l hd).1, (SR'.box d l hd).2.1.1, (SR'.box d l hd).2.2⟩, SR'.dist, SR'.apart⟩
    · intro b hb
      rcases hfw_new b hb with h1 | ⟨h1, h2, _⟩
      · rcases ids b h1 with h3 | ⟨j, hj, h4⟩
        · exact .inl h3
        · exact .inr ⟨j, .inl hj, h4⟩
      · exact .inr ⟨i, .inr rfl, h1, h2⟩
    · intro b hb
      rcases hfw_new b hb with h1 | ⟨h1, h2, h3⟩
      · rw [(fw.le b h1).2]; exact new0 b h1
      · exact .inr ⟨Nat.le_trans hn0 h1, Nat.lt_of_lt_of_le h2 hn2, h3.1⟩
    · -- the rows are those of the lexical run
      intro k hk hcons b hb hbk
      rcases Nat.lt_or_ge b (S (i + 1)).h.next with hlt | hge
      · simp only [if_pos hlt]
        have nowr : ∀ m, m < ops.size → F m = .write → (m < i + 1 ↔ m < k) := by
          intro m hm hF
          have h1 := hcons m hm hF
          by_cases e : m = i
          · subst e
            have : m < k := h1.1 (.inr rfl)
            exact ⟨fun _ => this, fun _ => Nat.lt_succ_self _⟩
          · have h2 := consW hnh m hm hF
            constructor
            · intro h; exact h1.1 (.inl (h2.2 (by omega)))
            · intro h
              rcases h1.2 h with h3 | h3
              · have := h2.1 h3; omega
              · exact absurd h3 e
        rcases Nat.le_total (i + 1) k with hle | hle
        · have := X.keep hmo b (i + 1) hlt (k - (i + 1)) (by omega) (fun j hj1 hj2 hF => by have := (nowr j (by omega) hF).2 (by omega); omega)
          rw [show i + 1 + (k - (i + 1)) = k by omega] at this
          exact this.symm
        · have := X.keep hmo b k hbk (i + 1 - k) (by omega) (fun j hj1 hj2 hF => by have := (nowr j (by omega) hF).1 (by omega); omega)
          rw [show k + (i + 1 - k) = i + 1 by omega] at this
          exact this
      · simp only [if_neg (Nat.not_lt.2 hge)]
        have hbE := old_ge b hb hge
        have hbnone : isLive (g b) = false ∨ isLive (g b) = true := by cases isLive (g b) <;> simp
        refine Gk k hk (fun m hm hF => ?_) b hbE hbk
        have h1 := hcons m hm hF
        by_cases e : m = i
        · subst e
          -- operation i wrote: nobody behind it has come
          have : m < k := h1.1 (.inr rfl)
          rcases ids b hbE with (h | h) | ⟨j, hj, h3, h4⟩
          · exact absurd (Nat.lt_of_lt_of_le h (Nat.le_trans hn0 (Nat.le_trans hn1 hge))) (Nat.lt_irrefl _)
          · have := X.next_le hmo hk (Nat.le_refl _)
            exact absurd (Nat.lt_of_lt_of_le hbk (Nat.le_trans this (Nat.le_trans hlim h))) (Nat.lt_irrefl _)
          · have hjn : j < ops.size := by
              obtain ⟨oj, hoj, _⟩ := closed j hj
              rcases Nat.lt_or_ge j ops.size with h | h
              · exact h
              · rw [Array.getElem?_eq_none h] at hoj; cases hoj
            have hji : m < j := by
              rcases Nat.lt_trichotomy j m with h | h | h
              · have := X.next_le hmo (show j + 1 ≤ m by omega) (by omega)
                exact absurd (Nat.lt_of_lt_of_le h4 (Nat.le_trans this (Nat.le_trans hn1 hge))) (Nat.lt_irrefl _)
              · subst h; exact absurd hj hiD
              · exact h
            have := (X.order closed hin hjn (by omega) (by rw [hF]; exact ⟨(apart_write _ (made j hjn b h3 h4)).2, (apart_write _ (made j hjn b h3 h4)).1⟩) hiD hrdy).1 hj
            omega
        · constructor
          · intro h; exact h1.1 (.inl h)
          · intro h
            rcases h1.2 h with h2 | h2
            · exact h2
            · exact absurd h2 e
    · intro b hb hl
      have hge : (S (i + 1)).h.next ≤ b := Nat.le_trans hn2 (Nat.le_trans hlim hl)
      simp only [if_neg (Nat.not_lt.2 hge)]
      exact Glim b (old_ge b hb hge) hl
  -- an operation that looks at no memory
  have afterF : NH (F i) → ∀ (E' : Emb) (lam' : Tmp → Nat) (u1 tt t : List V) (v : V) (a' : Act) (w' : World),
      HR P (fun c => w.heap.size ≤ c ∨ ∃ d l, tb[d]? = some (.box l) ∧ lam d = c) (S (i + 1)).h.next E' ⟨(S i).h.next, (S i).h.next, .leaf⟩ w' →
      SR (fun c => w.heap.size ≤ c ∨ ∃ d l, tb[d]? = some (.box l) ∧ lam d = c) E' lam' u1 w' a'.tmps → a'.defers = [] →
      Fwd (fun c => w.heap.size ≤ c ∨ ∃ d l, tb[d]? = some (.box l) ∧ lam d = c) E ⟨(S i).h.next, (S i).h.next, .leaf⟩ w E' ⟨(S i).h.next, (S i).h.next, .leaf⟩ w' → v.isBox = false → (S (i + 1)).t = putV t o.dst v → u1 = putV tt o.dst v →
      ((t = (S i).t ∧ tt = tb) ∨ ∃ d l', F i = .ws d ∧ BoxAt (S i).t d ∧ t = (S i).t.set d (.box l') ∧ tt = tb.set d (.box l')) → Inv P W lim E0 w0 ops S F (fun j => D j ∨ j = i) a' w' := by
    intro hnh E' lam' u1 tt t v a' w' HR' SR' dfr' fw hvb hSt hu1 hcase
    have hT := temps u1 tt t v hvb hSt hu1 hcase
    have hWW : ∀ c, (w.heap.size ≤ c ∨ ∃ d l, tb[d]? = some (.box l) ∧ lam d = c) → W c := by
      rintro c (h | ⟨d, l, hd, rfl⟩)
      · exact HGg.top c h
      · exact (SRb.box d l hd).2.1
    have old : ∀ b, E'.dom b → E.dom b := fun b hb => by
      rcases fw.new b hb with h | ⟨h1, h2, _⟩
      · exact h
      · exact absurd (Nat.lt_of_lt_of_le h2 h1) (Nat.lt_irrefl _)
    have keep : ∀ b, E.dom b → w'.heap[(E.pl b).c]? = w.heap[(E.pl b).c]? := fun b hb => fw.same.heap _ (by
      rintro (h | ⟨d, l, hd, e⟩)
      · have := HGg.size b hb; omega
      · exact SRb.apart d l b hd hb e)
    have hFw : F i ≠ .write := fun h => nh_write h hnh
    refine ⟨hrdy, E', lam', u1, g, ?_, ?_, dfr', Emb.le_trans le0 fw.le, same0.trans (fw.same.weaken hWW), ?_, ?_, ?_, fun b hb hl => Glim b (old b hb) hl, hT.1, hT.2.1, hT.2.2.1, hT.2.2.2.1, hT.2.2.2.2⟩
    · refine ⟨fun b _ => .inr (Nat.zero_le _), HR'.size, ?_, ?_, ?_, ?_, fun c hcs => HGg.top c (Nat.le_trans fw.same.size hcs), Glob.same HGg.glob fw.same.size (fun c hc => fw.same.heap c (fun h => hc (hWW c h))), ?_⟩
      · intro b ro ty l hb hg
        have hE := old b hb
        rw [(fw.le b hE).2]
        exact ((HGg.row b ro ty l hE hg).mono fw.le).of_eq (keep b hE)
      · intro b hb hr
        have hE := old b hb
        rw [(fw.le b hE).2]; exact HGg.own b hE hr
      · intro b ro ty l hb hg
        have hE := old b hb
        rw [(fw.le b hE).2]; exact HGg.esz b ro ty l hE hg
      · intro b b' hb hb' hne hr hl
        have hE := old b hb
        have hE' := old b' hb'
        rw [(fw.le b hE).2, (fw.le b' hE').2]; exact HGg.inj b b' hE hE' hne hr hl
      · intro b ty l hb hg
        have hE := old b hb
        rw [(fw.le b hE).2, shape_of (keep b hE)]; exact HGg.bld b ty l hE hg
    · exact ⟨SR'.len, SR'.val, fun d l hd => ⟨(SR'.box d l hd).1, hWW _ (SR'.box d l hd).2.1, (SR'.box d l hd).2.2⟩, SR'.dist, SR'.apart⟩
    · intro b hb
      rcases ids b (old b hb) with h3 | ⟨j, hj, h4⟩
      · exact .inl h3
      · exact .inr ⟨j, .inl hj, h4⟩
    · intro b hb
      rw [(fw.le b (old b hb)).2]; exact new0 b (old b hb)
    · intro k hk hcons b hb hbk
      refine Gk k hk (fun m hm hF => ?_) b (old b hb) hbk
      have h1 := hcons m hm hF
      constructor
      · intro h; exact h1.1 (.inl h)
      · intro h
        rcases h1.2 h with h2 | h2
        · exact h2
        · subst h2; exact absurd hF hFw
  -- the operation itself
  obtain ⟨_, hrec⟩ := X.recs i o ho
  unfold wpOp
  simp only [ho]
  have SRst : ¬ NH (F i) → StR P (Wi W E g (S (i + 1)).h.next) (S (i + 1)).h.next E lam ⟨tb, { (S i).h with lo := (S i).h.next }⟩ a w := fun hnh => ⟨H1 hnh, S1, dfr⟩
  have SRfr : StR P (fun c => w.heap.size ≤ c ∨ ∃ d l, tb[d]? = some (.box l) ∧ lam d = c) (S (i + 1)).h.next E lam ⟨tb, ⟨(S i).h.next, (S i).h.next, .leaf⟩⟩ a w := by
    have gn : ∀ b, (⟨(S i).h.next, (S i).h.next, .leaf⟩ : Heap).get b = none := fun b => by
      unfold Heap.get
      split
      · exact Tr.get_leaf _
      · rfl
    refine ⟨⟨lt_i, HGg.size, fun b ro ty l hb hg => (by rw [gn] at hg; cases hg), fun b hb hr => (by rw [gn] at hr; cases hr), fun b ro ty l hb hg => (by rw [gn] at hg; cases hg), fun b b' hb hb' hne hr => (by rw [gn] at hr; cases hr), fun c hc => .inl hc, Glob.sub HGg.glob (by
      rintro c (h | ⟨d, l, hd, rfl⟩)
      · exact .inr h
      · exact .inl (SRb.box d l hd).2.1), fun b ty l hb hg => (by rw [gn] at hg; cases hg)⟩, ⟨SRb.len, SRb.val, fun d l hd => ⟨(SRb.box d l hd).1, .inr ⟨d, l, hd, rfl⟩, (SRb.box d l hd).2.2⟩, SRb.dist, SRb.apart⟩, dfr⟩
  rcases hrec with ⟨hw, v, t, h1, hst, hvb, hF, hS⟩ | ⟨hw, hF, hS⟩
  · rw [wanted_cong look2] at hw
    have := wanted_ok (s := ⟨tb, { (S i).h with lo := (S i).h.next }⟩) S1 ops o true hw
    rw [this]
    simp only [if_true]
    have hslot : ∀ d, slotOf o (S i).t = some d → (S i).t[d]? = tb[d]? := by
      intro d hd
      have hb0 : BoxAt (S 0).t d := (X.box hmo i (by omega) d).1 (slot_box hst d hd)
      have hFi : F i = .rs d ∨ F i = .ws d := by
        obtain ⟨hh, hf⟩ := slot_heap hst d hd
        have hq : Nat.ble (S i).h.next h1.lo = true := by rw [hh]; simp
        rw [hF, hq]
        rcases hf with ⟨_, hf⟩ | ⟨_, hf⟩
        · exact .inr hf
        · exact .inl hf
      refine (tslot d hb0 i (by omega) (fun m hm hFm => ?_)).symm
      by_cases e : i = m
      · subst e; exact ⟨fun h => absurd h hiD, fun h => absurd h (Nat.lt_irrefl _)⟩
      · exact X.order closed hin hm e (by rw [hFm]; exact apart_slot _ d hFi) hiD hrdy
    by_cases hnh : NH (F i)
    · have hfr := step_free hst _ (hF ▸ hnh)
      obtain ⟨u', hu', hcase⟩ := step_cong (hfr.2 ⟨(S i).h.next, (S i).h.next, .leaf⟩) (u := tb) (fun x hx t' ht' => look2 t' (by subst ht'; unfold Oper.looksAt; exact List.mem_append_left _ (List.mem_filterMap.2 ⟨.tmp t', hx, rfl⟩))) boxes hslot (X.notL i o · ho)
      refine .inl (step_ok hc SRfr L o v u' _ hu' hn1 K Q ?_)
      rintro a' w' ⟨E', lam', ST', fw⟩
      refine hK a' w' (afterF hnh E' lam' (putV u' o.dst v) u' t v a' w' ST'.hr ST'.sr ST'.dfr fw hvb (by rw [hS]) rfl ?_)
      rcases hcase with ⟨h2, h3⟩ | ⟨d, l', hsl, his, hbx, h2, h3, h4⟩
      · exact .inl ⟨h2, h3⟩
      · refine .inr ⟨d, l', ?_, hbx, h2, h3⟩
        obtain ⟨hh, hf⟩ := slot_heap hst d hsl
        have hq : Nat.ble (S i).h.next h1.lo = true := by rw [hh]; simp
        rw [hF, hq]
        rcases hf with ⟨_, hf⟩ | ⟨hf, _⟩
        · exact hf
        · rw [his] at hf; cases hf
    obtain ⟨u', hu', hcase⟩ := step_cong hst (u := tb) (fun x hx t' ht' => look2 t' (by subst ht'; unfold Oper.looksAt; exact List.mem_append_left _ (List.mem_filterMap.2 ⟨.tmp t', hx, rfl⟩))) boxes hslot (X.notL i o · ho)
    have hnx : h1.next = (S (i + 1)).h.next := by rw [hS]
    refine .inl (step_ok hc (SRst hnh) L o v u' h1 hu' (Nat.le_of_eq hnx) K Q ?_)
    rintro a' w' ⟨E', lam', ST', fw⟩
    refine hK a' w' (after hnh E' lam' (putV u' o.dst v) u' t v h1 a' w' ST'.hr ST'.sr ST'.dfr fw hnx (fun b => by rw [hS]; rfl) hvb (by rw [hS]) rfl ?_)
    rcases hcase with ⟨h2, h3⟩ | ⟨d, l', hsl, his, hbx, h2, h3, h4⟩
    · exact .inl ⟨h2, h3⟩
    · refine .inr ⟨d, l', ?_, hbx, h2, h3⟩
      obtain ⟨hh, hf⟩ := slot_heap hst d hsl
      have hq : Nat.ble (S i).h.next h1.lo = true := by rw [hh]; simp
      rw [hF, hq]
      rcases hf with ⟨_, hf⟩ | ⟨hf, _⟩
      · exact hf
      · rw [his] at hf; cases hf
  · rw [wanted_cong look2] at hw
    have := wanted_ok (s := ⟨tb, { (S i).h with lo := (S i).h.next }⟩) S1 ops o false hw
    have hnh : ¬ NH (F i) := by
      rw [hF]
      rintro (h | ⟨d, h⟩) <;> cases h
    rw [this]
    simp only [Bool.false_eq_true, if_false]
    obtain ⟨E', lam', ST', fw⟩ := done_skip (SRst hnh) o.dst
    exact hK _ _ (after hnh E' lam' (putV tb o.dst (.tup [])) tb (S i).t (.tup []) _ _ w ST'.hr ST'.sr ST'.dfr fw (by rw [hS]) (fun b => by rw [hS]; rfl) rfl (by rw [hS]) rfl (.inl ⟨rfl, rfl⟩))

end
end Go.AM
