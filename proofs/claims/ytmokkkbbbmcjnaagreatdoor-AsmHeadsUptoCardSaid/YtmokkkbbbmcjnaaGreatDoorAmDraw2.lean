/-
  A region whose order is drawn: whatever comes up, we stand where the lexical run stands.
-/
import Derived.Test.YtmokkkbbbmcjnaaGreatDoorAmDraw1
import Derived.Test.YtmokkkbbbmcjnaaGreatDoorAmStep2
set_option linter.unusedSectionVars false
set_option linter.unusedSimpArgs false
set_option linter.unusedVariables false
namespace Go.AM

variable {P : Program}

/-- What operation j did to the temporaries and to memory. -/
structure Did (F : Foot) (s s' : St) (o : Oper) : Prop where
  temps : ∃ v t, s'.t = putV t o.dst v ∧ v.isBox = false ∧ (t = s.t ∨ ∃ d l', F = .ws d ∧ BoxAt s.t d ∧ t = s.t.set d (.box l'))
  mono : Mono s.h s'.h
  quiet : F ≠ .write → ∀ b, b < s.h.next → s'.h.get b = s.h.get b

theorem slot_heap {call : CallF} {L : List Tmp} {o : Oper} {t : List V} {h : Heap} {v : V} {t' : List V} {h' : Heap} (hst : step P call L o t h = some (v, t', h')) (d : Tmp) (hd : slotOf o t = some d) :
    h' = h ∧ ((isStore o = true ∧ foot o t true = .ws d) ∨ (isStore o = false ∧ foot o t true = .rs d)) := by
  unfold slotOf at hd
  split at hd
  · rename_i ty x hop
    split at hd
    · rename_i a ha
      simp only [Option.map_eq_some_iff] at hd
      obtain ⟨⟨d', off⟩, hbs, rfl⟩ := hd
      unfold step at hst
      rw [hop] at hst
      simp only [ha, Option.map_eq_some_iff, Prod.mk.injEq] at hst
      obtain ⟨_, _, _, _, rfl⟩ := hst
      exact ⟨rfl, .inr ⟨by simp [isStore, hop], by simp [foot, hop, ha, hbs]⟩⟩
    · cases hd
  · rename_i ty x y hop
    split at hd
    · rename_i a ha
      simp only [Option.map_eq_some_iff] at hd
      obtain ⟨⟨d', off⟩, hbs, rfl⟩ := hd
      unfold step at hst
      rw [hop] at hst
      simp only [ha] at hst
      split at hst
      · rename_i hu2
        rename_i u2
        simp only [Option.map_eq_some_iff, Prod.mk.injEq, Prod.exists] at hst
        obtain ⟨t2, h2, hsv, rfl, rfl, rfl⟩ := hst
        refine ⟨?_, .inl ⟨by simp [isStore, hop], by simp [foot, hop, ha, hbs]⟩⟩
        unfold storeV at hsv
        split at hsv
        case isFalse => cases hsv
        split at hsv
        · simp [boxSlot] at hbs
          split at hbs <;> simp_all
        · split at hsv
          · split at hsv
            · simp only [Option.map_eq_some_iff, Prod.mk.injEq] at hsv
              obtain ⟨_, _, _, rfl⟩ := hsv
              rfl
            · cases hsv
          · cases hsv
      · cases hst
    · cases hd
  · cases hd

theorem rec_did {call : CallF} (hmo : CallMono call) {L : List Tmp} {ops : Array Oper} {S : Nat → St} {F : Nat → Foot} {j : Nat} {o : Oper} (hd : ∀ d, o.dst = some d → d ∉ L) (h : Rec P call L ops S F j o) : Did (F j) (S j) (S (j + 1)) o := by
  obtain ⟨_, h⟩ := h
  rcases h with ⟨hw, v, t, h1, hst, hnb, hF, hS⟩ | ⟨hw, hF, hS⟩
  · have hm := step_mono hmo hst
    obtain ⟨u', hu', hcase⟩ := step_cong hst (u := (S j).t) (fun x hx i _ => .inl rfl) (fun d => Iff.rfl) (fun d _ => rfl) hd
    rw [hst] at hu'
    simp only [Option.some.injEq, Prod.mk.injEq, true_and] at hu'
    refine ⟨⟨v, t, by rw [hS], hnb, ?_⟩, by rw [hS]; exact Mono.asked hm, ?_⟩
    · rcases hcase with ⟨h2, _⟩ | ⟨d, l', hsl, his, hbx, h2, _, h3⟩
      · exact .inl h2
      · refine .inr ⟨d, l', ?_, hbx, h2⟩
        rw [hF]
        obtain ⟨_, h4⟩ := slot_heap hst d hsl
        have hq : Nat.ble (S j).h.next h1.lo = true := by rw [h3]; simp
        rw [hq]
        rcases h4 with ⟨_, h4⟩ | ⟨h5, _⟩
        · exact h4
        · rw [his] at h5; cases h5
    · intro hnw b hb
      rw [hS]
      have hq : Nat.ble (S j).h.next h1.lo = true := by
        cases hq : Nat.ble (S j).h.next h1.lo with
        | true => rfl
        | false => rw [hF, hq] at hnw; exact absurd rfl hnw
      exact hm.keep b hb (Nat.lt_of_lt_of_le hb (Nat.le_of_ble_eq_true hq))
  · refine ⟨⟨.tup [], (S j).t, by rw [hS], rfl, .inl rfl⟩, by rw [hS]; exact Mono.refl _, fun _ b _ => by rw [hS]⟩

section
variable {L : List Tmp} {ops : Array Oper} {S : Nat → St} {F : Nat → Foot}

/-- All that is known of the lexical run. -/
structure Lex (P : Program) (call : CallF) (L : List Tmp) (ops : Array Oper) (S : Nat → St) (F : Nat → Foot) : Prop where
  recs : ∀ j o, ops[j]? = some o → Rec P call L ops S F j o
  notL : ∀ (j : Nat) (o : Oper) (d : Tmp), ops[j]? = some o → o.dst = some d → d ∉ L
  uniq : ∀ (i j : Nat) (x y : Oper) (d : Tmp), ops[i]? = some x → ops[j]? = some y → x.dst = some d → y.dst = some d → i = j
  tmps : ∀ (j : Nat) (o : Oper), ops[j]? = some o → ∀ (i : Nat) (x : Oper), i < j → ops[i]? = some x → Ahead ops i j ∨ x.apart ops o = true
  nobox : ∀ (j : Nat) (o : Oper) (d : Tmp), ops[j]? = some o → o.dst = some d → ¬ BoxAt (S 0).t d
  back : ∀ (j : Nat) (o : Oper), ops[j]? = some o → ∀ e ∈ o.after, Region.binds .any e = true → e.on < j

variable {call : CallF}

theorem Lex.did (X : Lex P call L ops S F) (hmo : CallMono call) {j : Nat} {o : Oper} (ho : ops[j]? = some o) : Did (F j) (S j) (S (j + 1)) o :=
  rec_did hmo (X.notL j o · ho) (X.recs j o ho)

theorem op_at {j : Nat} (hj : j < ops.size) : ∃ o, ops[j]? = some o := ⟨ops[j], by simp [hj]⟩

/-- Which temporaries hold private variables does not turn. -/
theorem Lex.box (X : Lex P call L ops S F) (hmo : CallMono call) : ∀ (k : Nat), k ≤ ops.size → ∀ d, BoxAt (S k).t d ↔ BoxAt (S 0).t d
  | 0, _, d => Iff.rfl
  | k + 1, hk, d => by
    obtain ⟨o, ho⟩ := op_at (ops := ops) (j := k) (by omega)
    obtain ⟨v, t, h1, h2, h3⟩ := (X.did hmo ho).temps
    have ih := X.box hmo k (by omega) d
    rw [← ih]
    have ht : BoxAt t d ↔ BoxAt (S k).t d := by
      rcases h3 with rfl | ⟨d', l', _, ⟨l, hl⟩, rfl⟩
      · exact Iff.rfl
      · constructor
        · rintro ⟨u, hu⟩
          by_cases e : d' = d
          · subst e; exact ⟨l, hl⟩
          · rw [List.getElem?_set_ne e] at hu; exact ⟨u, hu⟩
        · rintro ⟨u, hu⟩
          by_cases e : d' = d
          · subst e
            have hlt : d' < (S k).t.length := (List.getElem?_eq_some_iff.1 hl).1
            exact ⟨l', by simp [hlt]⟩
          · exact ⟨u, by rw [List.getElem?_set_ne e]; exact hu⟩
    rw [h1]
    cases hd : o.dst with
    | none => exact ht
    | some e =>
      simp only [putV]
      by_cases hed : e = d
      · subst hed
        have hnb : ¬ BoxAt (S k).t e := fun h => X.nobox k o e ho hd (ih.1 h)
        constructor
        · rintro ⟨u, hu⟩
          rw [List.getElem?_set] at hu
          split at hu
          · split at hu
            · simp only [Option.some.injEq] at hu
              rw [hu] at h2; cases h2
            · cases hu
          · rename_i hne; exact absurd rfl hne
        · intro h; exact absurd h hnb
      · rw [← ht]
        unfold BoxAt
        rw [List.getElem?_set_ne hed]

/-- A temporary that no operation between writes. -/
theorem Lex.stay (X : Lex P call L ops S F) (hmo : CallMono call) (d : Tmp) (k : Nat) : ∀ (n : Nat), k + n ≤ ops.size →
    (∀ j o, k ≤ j → j < k + n → ops[j]? = some o → (¬ BoxAt (S 0).t d → o.dst ≠ some d) ∧ (BoxAt (S 0).t d → F j ≠ .ws d)) → (S (k + n)).t[d]? = (S k).t[d]?
  | 0, _, _ => rfl
  | n + 1, hn, h => by
    obtain ⟨o, ho⟩ := op_at (ops := ops) (j := k + n) (by omega)
    obtain ⟨v, t, h1, h2, h3⟩ := (X.did hmo ho).temps
    have ih := X.stay hmo d k n (by omega) (fun j o hj hj2 hoj => h j o hj (by omega) hoj)
    rw [← ih, show k + (n + 1) = k + n + 1 from rfl, h1]
    obtain ⟨hA, hB⟩ := h (k + n) o (by omega) (by omega) ho
    have hbx := X.box hmo (k + n) (by omega) d
    have ht : t[d]? = (S (k + n)).t[d]? := by
      rcases h3 with rfl | ⟨d', l', hF, hb, rfl⟩
      · rfl
      · by_cases e : d' = d
        · subst e
          exact absurd hF (hB (hbx.1 hb))
        · exact List.getElem?_set_ne e
    rw [← ht]
    cases hd : o.dst with
    | none => rfl
    | some e =>
      simp only [putV]
      refine List.getElem?_set_ne (fun hed => ?_)
      subst hed
      by_cases hbb : BoxAt (S 0).t e
      · exact X.nobox _ o e ho hd hbb
      · exact hA hbb hd

theorem Lex.len (X : Lex P call L ops S F) (hmo : CallMono call) : ∀ (k : Nat), k ≤ ops.size → (S k).t.length = (S 0).t.length
  | 0, _ => rfl
  | k + 1, hk => by
    obtain ⟨o, ho⟩ := op_at (ops := ops) (j := k) (by omega)
    obtain ⟨v, t, h1, h2, h3⟩ := (X.did hmo ho).temps
    rw [h1, putV_length, ← X.len hmo k (by omega)]
    rcases h3 with rfl | ⟨d', l', hF, hb, rfl⟩
    · rfl
    · simp

theorem Lex.next (X : Lex P call L ops S F) (hmo : CallMono call) (k : Nat) : ∀ (n : Nat), k + n ≤ ops.size → (S k).h.next ≤ (S (k + n)).h.next
  | 0, _ => Nat.le_refl _
  | n + 1, hn => by
    obtain ⟨o, ho⟩ := op_at (ops := ops) (j := k + n) (by omega)
    exact Nat.le_trans (X.next hmo k n (by omega)) (X.did hmo ho).mono.next

theorem Lex.next_le (X : Lex P call L ops S F) (hmo : CallMono call) {j k : Nat} (h : j ≤ k) (hk : k ≤ ops.size) : (S j).h.next ≤ (S k).h.next := by
  have := X.next hmo j (k - j) (by omega)
  rwa [show j + (k - j) = k by omega] at this

/-- Blocks that no operation between writes. -/
theorem Lex.keep (X : Lex P call L ops S F) (hmo : CallMono call) (b : Id) (k : Nat) (hb : b < (S k).h.next) : ∀ (n : Nat), k + n ≤ ops.size → (∀ j, k ≤ j → j < k + n → F j ≠ .write) → (S (k + n)).h.get b = (S k).h.get b
  | 0, _, _ => rfl
  | n + 1, hn, h => by
    obtain ⟨o, ho⟩ := op_at (ops := ops) (j := k + n) (by omega)
    have ih := X.keep hmo b k hb n (by omega) (fun j hj hj2 => h j hj (by omega))
    rw [← ih]
    exact (X.did hmo ho).quiet (h _ (by omega) (by omega)) b (Nat.lt_of_lt_of_le hb (X.next hmo k n (by omega)))

/-- Two operations of which one must not be apart from the other: one stands ahead. -/
theorem Lex.order (X : Lex P call L ops S F) {D : Nat → Prop} (hc : Closed ops D) {i m : Nat} (hi : i < ops.size) (hm : m < ops.size) (hne : i ≠ m) (hap : Foot.apart (F i) (F m) = false ∧ Foot.apart (F m) (F i) = false)
    (hiD : ¬ D i) (hrdy : Closed ops (fun j => D j ∨ j = i)) : (D m ↔ m < i) := by
  rcases Nat.lt_or_ge m i with h | h
  · refine ⟨fun _ => h, fun _ => ?_⟩
    obtain ⟨o, ho⟩ := op_at hi
    rcases (X.recs i o ho).1 m h with h1 | h1
    · rcases ahead_in ops _ hrdy i m (.inr rfl) h1 with h2 | h2
      · exact h2
      · exact absurd h2.symm hne
    · rw [hap.1] at h1; cases h1
  · have hlt : i < m := by omega
    refine ⟨fun hD => ?_, fun h2 => by omega⟩
    obtain ⟨o, ho⟩ := op_at hm
    rcases (X.recs m o ho).1 i hlt with h1 | h1
    · exact absurd (ahead_in ops D hc m i hD h1) hiD
    · rw [hap.2] at h1; cases h1

end

/-! ### The state behind any choice -/

structure Inv (P : Program) [Glob P] (W : Nat → Prop) (lim : Nat) (E0 : Emb) (w0 : World) (ops : Array Oper) (S : Nat → St) (F : Nat → Foot) (D : Nat → Prop) (a : Act) (w : World) : Prop where
  closed : Closed ops D
  inv : ∃ (E : Emb) (lam : Tmp → Nat) (tb : List V) (g : Id → Option Obj),
    HG P W 0 E g 0 w ∧ SR W E lam tb w a.tmps ∧ a.defers = [] ∧ E0.le E ∧ Same W w0 w ∧
    (∀ b, E.dom b → (b < (S 0).h.next ∨ lim ≤ b) ∨ ∃ j, D j ∧ (S j).h.next ≤ b ∧ b < (S (j + 1)).h.next) ∧
    (∀ b, E.dom b → E0.dom b ∨ ((S 0).h.next ≤ b ∧ b < (S ops.size).h.next ∧ W (E.pl b).c)) ∧
    (∀ k, k ≤ ops.size → (∀ m, m < ops.size → F m = .write → (D m ↔ m < k)) → ∀ b, E.dom b → b < (S k).h.next → g b = (S k).h.get b) ∧
    (∀ b, E.dom b → lim ≤ b → g b = none) ∧
    tb.length = (S 0).t.length ∧
    (∀ d, BoxAt tb d ↔ BoxAt (S 0).t d) ∧
    (∀ d, BoxAt (S 0).t d → ∀ k, k ≤ ops.size → (∀ m, m < ops.size → F m = .ws d → (D m ↔ m < k)) → tb[d]? = (S k).t[d]?) ∧
    (∀ d, ¬ BoxAt (S 0).t d → (∀ j o, D j → ops[j]? = some o → o.dst ≠ some d) → tb[d]? = (S 0).t[d]?) ∧
    (∀ j o d, D j → ops[j]? = some o → o.dst = some d → tb[d]? = (S (j + 1)).t[d]?)

end Go.AM
