/-
  What stands ahead of what, in a region whose order is drawn.
-/
import Derived.Test.YtmokkkbbbmcjnaaGreatDoorAmCong
set_option linter.unusedSimpArgs false
set_option linter.unusedVariables false
namespace Go.AM

variable {P : Program}

/-! ### Bits -/

def maskOf (acc : List Nat) (o : Oper) : Nat := o.after.toList.foldl (fun s e => if Region.binds .any e then s ||| 2 ^ e.on ||| acc.getD e.on 0 else s) 0

theorem befs_spec : ∀ (l : List Oper) (acc : List Nat), ∃ tail, befs l acc = acc ++ tail ∧ tail.length = l.length ∧ ∀ (j : Nat) (o : Oper), l[j]? = some o → tail[j]? = some (maskOf (acc ++ tail.take j) o)
  | [], acc => ⟨[], by simp [befs], rfl, by simp⟩
  | o :: l, acc => by
    obtain ⟨tail, h1, h2, h3⟩ := befs_spec l (acc ++ [maskOf acc o])
    refine ⟨maskOf acc o :: tail, ?_, by simp [h2], ?_⟩
    · show befs l (acc ++ [maskOf acc o]) = _
      rw [h1]; simp
    · intro j o' hj
      cases j with
      | zero => simp at hj; subst hj; simp
      | succ j =>
        simp at hj ⊢
        have := h3 j o' hj
        simpa using this

theorem foldl_bits (acc : List Nat) (i : Nat) : ∀ (es : List Edge) (s : Nat), (es.foldl (fun s e => if Region.binds .any e then s ||| 2 ^ e.on ||| acc.getD e.on 0 else s) s).testBit i = true →
    s.testBit i = true ∨ ∃ e ∈ es, Region.binds .any e = true ∧ (i = e.on ∨ (acc.getD e.on 0).testBit i = true)
  | [], s, h => .inl h
  | e :: es, s, h => by
    simp only [List.foldl_cons] at h
    rcases foldl_bits acc i es _ h with h1 | ⟨e', he', hb, hr⟩
    · split at h1
      · rename_i hb
        simp only [Nat.testBit_or, Bool.or_eq_true] at h1
        rcases h1 with (h1 | h1) | h1
        · exact .inl h1
        · refine .inr ⟨e, by simp, hb, .inl ?_⟩
          rw [Nat.testBit_two_pow] at h1
          have : e.on = i := by simpa using h1
          exact this.symm
        · exact .inr ⟨e, by simp, hb, .inr h1⟩
      · exact .inl h1
    · exact .inr ⟨e', by simp [he'], hb, hr⟩

/-- A set of operations in which nobody comes ahead of what he waits for. -/
def Closed (ops : Array Oper) (D : Nat → Prop) : Prop := ∀ j, D j → ∃ o, ops[j]? = some o ∧ ∀ e ∈ o.after, Region.binds .any e = true → D e.on

/-- Number i stands ahead of number j. -/
def Ahead (ops : Array Oper) (i j : Nat) : Prop := ∃ m, (befs ops.toList [])[j]? = some m ∧ m.testBit i = true

theorem ahead_in (ops : Array Oper) (D : Nat → Prop) (hc : Closed ops D) : ∀ (j i : Nat), D j → Ahead ops i j → D i := by
  obtain ⟨tail, h1, h2, h3⟩ := befs_spec ops.toList []
  simp only [List.nil_append] at h1 h3
  intro j
  induction j using Nat.strongRecOn with
  | _ j ih =>
    intro i hj ⟨m, hm, hbit⟩
    obtain ⟨o, ho, hdeps⟩ := hc j hj
    rw [h1] at hm
    have hm2 := h3 j o (by simpa using ho)
    rw [hm] at hm2
    simp only [Option.some.injEq] at hm2
    subst hm2
    rcases foldl_bits _ i _ 0 hbit with h0 | ⟨e, he, hb, hr⟩
    · simp at h0
    · have hde := hdeps e (by simpa using he) hb
      rcases hr with rfl | hr
      · exact hde
      · have hlt : e.on < j := by
          rcases Nat.lt_or_ge e.on j with h | h
          · exact h
          · have : (tail.take j).getD e.on 0 = 0 := by
              rw [List.getD_eq_getElem?_getD, List.getElem?_eq_none (by rw [List.length_take]; omega)]; rfl
            rw [this] at hr; simp at hr
        refine ih e.on hlt i hde ⟨(tail.take j).getD e.on 0, ?_, hr⟩
        have hlt2 : e.on < tail.length := by
          rcases Nat.lt_or_ge e.on tail.length with h | h
          · exact h
          · have : (tail.take j).getD e.on 0 = 0 := by
              rw [List.getD_eq_getElem?_getD, List.getElem?_eq_none (by rw [List.length_take]; omega)]; rfl
            rw [this] at hr; simp at hr
        rw [h1, List.getD_eq_getElem?_getD, List.getElem?_take, if_pos hlt, List.getElem?_eq_getElem hlt2]
        rfl

/-! ### The checks, read -/

theorem apartAll_spec (m : Nat) (f : Foot) : ∀ (i0 : Nat) (fs : List Foot), apartAll m f i0 fs = true → ∀ (i : Nat) (g : Foot), fs[i]? = some g → m.testBit (i0 + i) = true ∨ Foot.apart f g = true
  | i0, [], _, i, g, hi => by simp at hi
  | i0, g0 :: fs, h, i, g, hi => by
    simp only [apartAll, Bool.and_eq_true, Bool.or_eq_true] at h
    cases i with
    | zero => simp at hi; subst hi; simpa using h.1
    | succ i =>
      simp at hi
      have := apartAll_spec m f (i0 + 1) fs h.2 i g hi
      rwa [show i0 + 1 + i = i0 + (i + 1) by omega] at this

theorem tmpsApart_spec (ops : Array Oper) (m : Nat) (o : Oper) : ∀ (i0 : Nat) (l : List Oper), tmpsApart ops m o i0 l = true → ∀ (i : Nat) (x : Oper), l[i]? = some x → m.testBit (i0 + i) = true ∨ x.apart ops o = true
  | i0, [], _, i, x, hi => by simp at hi
  | i0, g0 :: fs, h, i, g, hi => by
    simp only [tmpsApart, Bool.and_eq_true, Bool.or_eq_true] at h
    cases i with
    | zero => simp at hi; subst hi; simpa using h.1
    | succ i =>
      simp at hi
      have := tmpsApart_spec ops m o (i0 + 1) fs h.2 i g hi
      rwa [show i0 + 1 + i = i0 + (i + 1) by omega] at this

theorem tmpsOk_spec (ops : Array Oper) : ∀ (l : List Oper) (ms : List Nat) (before : List Oper), tmpsOk ops l ms before = true →
    ∀ (j : Nat) (o : Oper), l[j]? = some o → ∃ m, ms[j]? = some m ∧ ∀ (i : Nat) (x : Oper), i < before.length + j → (before ++ l)[i]? = some x → m.testBit i = true ∨ x.apart ops o = true
  | [], ms, before, _, j, o, hj => by simp at hj
  | o0 :: l, [], before, h, j, o, hj => by simp [tmpsOk] at h
  | o0 :: l, m0 :: ms, before, h, j, o, hj => by
    simp only [tmpsOk, Bool.and_eq_true] at h
    cases j with
    | zero =>
      simp at hj
      subst hj
      refine ⟨m0, rfl, fun i x hi hx => ?_⟩
      simp only [Nat.add_zero] at hi
      have := tmpsApart_spec ops m0 o0 0 before h.1 i x (by rwa [List.getElem?_append_left hi] at hx)
      simpa using this
    | succ j =>
      simp at hj
      obtain ⟨m, hm, hr⟩ := tmpsOk_spec ops l ms (before ++ [o0]) h.2 j o hj
      exact ⟨m, by simpa using hm, fun i x hi hx => hr i x (by simp; omega) (by simpa using hx)⟩

theorem dstsOk_spec (L : List Tmp) : ∀ (l : List Oper), dstsOk L l = true → (∀ (j : Nat) (o : Oper) (d : Tmp), l[j]? = some o → o.dst = some d → d ∉ L) ∧
    ∀ (i j : Nat) (x y : Oper) (d : Tmp), l[i]? = some x → l[j]? = some y → x.dst = some d → y.dst = some d → i = j
  | [], _ => ⟨fun j o d hj => by simp at hj, fun i j x y d hi => by simp at hi⟩
  | o0 :: l, h => by
    simp only [dstsOk, Bool.and_eq_true] at h
    obtain ⟨h1, h2⟩ := h
    obtain ⟨r1, r2⟩ := dstsOk_spec L l h2
    have one : ∀ (j : Nat) (y : Oper) (d : Tmp), l[j]? = some y → o0.dst = some d → y.dst = some d → False := by
      intro j y d hj hd hy
      rw [hd] at h1
      simp only [Bool.and_eq_true, List.all_eq_true] at h1
      have := h1.1 y (List.mem_of_getElem? hj)
      simp [hy] at this
    refine ⟨fun j o d hj hd => ?_, fun i j x y d hi hj hx hy => ?_⟩
    · cases j with
      | zero =>
        simp at hj; subst hj
        rw [hd] at h1
        simp only [Bool.and_eq_true] at h1
        intro hm
        have := h1.2
        simp [hm] at this
      | succ j => simp at hj; exact r1 j o d hj hd
    · cases i with
      | zero =>
        simp at hi; subst hi
        cases j with
        | zero => rfl
        | succ j => simp at hj; exact (one j y d hj hx hy).elim
      | succ i =>
        simp at hi
        cases j with
        | zero => simp at hj; subst hj; exact (one i x d hi hy hx).elim
        | succ j => simp at hj; rw [r2 i j x y d hi hj hx hy]

theorem backOk_spec : ∀ (l : List Oper) (j0 : Nat), backOk j0 l = true → ∀ (j : Nat) (o : Oper), l[j]? = some o → ∀ e ∈ o.after, Region.binds .any e = true → e.on < j0 + j
  | [], j0, _, j, o, hj => by simp at hj
  | o0 :: l, j0, h, j, o, hj => by
    simp only [backOk, Bool.and_eq_true, List.all_eq_true, Bool.or_eq_true, Bool.not_eq_true'] at h
    cases j with
    | zero =>
      simp at hj; subst hj
      intro e he hb
      rcases h.1 e (by simpa using he) with h1 | h1
      · rw [hb] at h1; cases h1
      · simpa [Nat.blt_eq] using h1
    | succ j =>
      simp at hj
      intro e he hb
      have := backOk_spec l (j0 + 1) h.2 j o hj e he hb
      omega

theorem noBox_spec (t : List V) : ∀ (l : List Oper), noBox t l = true → ∀ (j : Nat) (o : Oper) (d : Tmp), l[j]? = some o → o.dst = some d → ¬ BoxAt t d
  | [], _, j, o, d, hj => by simp at hj
  | o0 :: l, h, j, o, d, hj => by
    simp only [noBox, Bool.and_eq_true] at h
    cases j with
    | zero =>
      simp at hj; subst hj
      rintro hd ⟨b, hb⟩
      rw [hd] at h
      simp [hb] at h
    | succ j => simp at hj; exact noBox_spec t l h.2 j o d hj

/-! ### The lexical run, as a row of states -/

/-- What the machine's run of operation j tells. -/
def Rec (P : Program) (call : CallF) (L : List Tmp) (ops : Array Oper) (S : Nat → St) (F : Nat → Foot) (j : Nat) (o : Oper) : Prop :=
  (∀ i, i < j → Ahead ops i j ∨ Foot.apart (F j) (F i) = true) ∧
  ((wantedV ops (S j).t o = some true ∧ ∃ v t h1, step P call L o (S j).t { (S j).h with lo := (S j).h.next } = some (v, t, h1) ∧ v.isBox = false ∧ F j = foot o (S j).t (Nat.ble (S j).h.next h1.lo) ∧
      S (j + 1) = ⟨putV t o.dst v, { h1 with lo := min (S j).h.lo h1.lo }⟩) ∨
   (wantedV ops (S j).t o = some false ∧ F j = .quiet ∧ S (j + 1) = ⟨putV (S j).t o.dst (.tup []), (S j).h⟩))

theorem trace (call : CallF) (L : List Tmp) (ops : Array Oper) (masks : List Nat) (hmasks : masks = befs ops.toList []) : ∀ (l : List Oper) (k : Nat) (ms : List Nat) (fs : List Foot) (s s' : St),
    l = ops.toList.drop k → ms = masks.drop k → fs.length = k → runDraw P call L ops l ms fs s = some s' →
    ∃ (S : Nat → St) (F : Nat → Foot), S k = s ∧ S (k + l.length) = s' ∧ (∀ i, i < k → fs[i]? = some (F i)) ∧ ∀ (j : Nat) (o : Oper), k ≤ j → ops[j]? = some o → Rec P call L ops S F j o
  | [], k, ms, fs, s, s', hl, hms, hfs, h => by
    simp only [runDraw, Option.some.injEq] at h
    subst h
    refine ⟨fun _ => s, fun i => fs.getD i .quiet, rfl, rfl, fun i hi => by simp only [List.getD_eq_getElem?_getD]; rw [List.getElem?_eq_getElem (by omega)]; rfl, fun j o hj ho => ?_⟩
    have hlen : ops.toList.length ≤ k := by
      have := congrArg List.length hl
      simp at this
      simp; omega
    rw [Array.getElem?_eq_none (by simpa using Nat.le_trans hlen hj)] at ho
    cases ho
  | o :: l, k, [], fs, s, s', hl, hms, hfs, h => by simp [runDraw] at h
  | o :: l, k, m :: ms, fs, s, s', hl, hms, hfs, h => by
    have hk : ops[k]? = some o := by
      have : (ops.toList.drop k)[0]? = some o := by rw [← hl]; rfl
      rw [List.getElem?_drop] at this
      simpa using this
    have hl' : l = ops.toList.drop (k + 1) := by
      have : (o :: l).tail = (ops.toList.drop k).tail := by rw [hl]
      simpa using this
    have hmk : masks[k]? = some m := by
      have : (masks.drop k)[0]? = some m := by rw [← hms]; rfl
      rw [List.getElem?_drop] at this
      simpa using this
    have hms' : ms = masks.drop (k + 1) := by
      have : (m :: ms).tail = (masks.drop k).tail := by rw [hms]
      simpa using this
    have step1 : ∀ (f : Foot) (s1 : St), runDraw P call L ops l ms (fs ++ [f]) s1 = some s' → (∀ i g, fs[i]? = some g → m.testBit i = true ∨ Foot.apart f g = true) →
        ((wantedV ops s.t o = some true ∧ ∃ v t h1, step P call L o s.t { s.h with lo := s.h.next } = some (v, t, h1) ∧ v.isBox = false ∧ f = foot o s.t (Nat.ble s.h.next h1.lo) ∧ s1 = ⟨putV t o.dst v, { h1 with lo := min s.h.lo h1.lo }⟩) ∨
          (wantedV ops s.t o = some false ∧ f = .quiet ∧ s1 = ⟨putV s.t o.dst (.tup []), s.h⟩)) →
        ∃ (S : Nat → St) (F : Nat → Foot), S k = s ∧ S (k + (o :: l).length) = s' ∧ (∀ i, i < k → fs[i]? = some (F i)) ∧ ∀ (j : Nat) (o : Oper), k ≤ j → ops[j]? = some o → Rec P call L ops S F j o := by
      intro f s1 hrun hap hrec
      obtain ⟨S, F, g1, g2, g3, g4⟩ := trace call L ops masks hmasks l (k + 1) ms (fs ++ [f]) s1 s' hl' hms' (by simp [hfs]) hrun
      have hFk : F k = f := by
        have := g3 k (by omega)
        rw [List.getElem?_append_right (by omega)] at this
        simpa [hfs] using this.symm
      have hFi : ∀ i, i < k → fs[i]? = some (F i) := fun i hi => by
        have := g3 i (by omega)
        rwa [List.getElem?_append_left (by omega)] at this
      refine ⟨fun j => if j = k then s else S j, F, by simp, by simp only [List.length_cons]; rw [if_neg (by omega)]; rw [← g2]; congr 1; omega, hFi, fun j o' hj ho' => ?_⟩
      by_cases hjk : j = k
      · subst hjk
        rw [hk] at ho'
        cases ho'
        refine ⟨fun i hi => ?_, ?_⟩
        · rcases hap i (F i) (hFi i hi) with h1 | h1
          · exact .inl ⟨m, by rw [← hmasks]; exact hmk, h1⟩
          · exact .inr (by rw [hFk]; exact h1)
        · simp only [if_true, if_neg (show j + 1 ≠ j by omega), g1, hFk]
          rcases hrec with ⟨h1, v, t, h2, h3, h4, h5, h6⟩ | ⟨h1, h2, h3⟩
          · exact .inl ⟨h1, v, t, h2, h3, h4, h5, h6⟩
          · exact .inr ⟨h1, h2, h3⟩
      · obtain ⟨r1, r2⟩ := g4 j o' (by omega) ho'
        refine ⟨r1, ?_⟩
        simp only [if_neg hjk, if_neg (show j + 1 ≠ k by omega)]
        exact r2
    simp only [runDraw] at h
    split at h
    · rename_i hw
      split at h
      · rename_i v t h1 hst
        split at h
        · rename_i hap
          simp only [Bool.and_eq_true, Bool.not_eq_true'] at hap
          refine step1 _ _ h (fun i g hg => by have := apartAll_spec m _ 0 fs hap.1 i g hg; simpa using this) (.inl ⟨hw, v, t, h1, hst, hap.2, rfl, rfl⟩)
        · cases h
      · cases h
    · rename_i hw
      split at h
      · rename_i hap
        exact step1 .quiet _ h (fun i g hg => by have := apartAll_spec m _ 0 fs hap i g hg; simpa using this) (.inr ⟨hw, rfl, rfl⟩)
      · cases h
    · cases h

end Go.AM
