/-
  A region whose order is drawn: all of it.
-/
import Derived.Test.YtmokkkbbbmcjnaaGreatDoorAmDraw3
import Derived.Test.YtmokkkbbbmcjnaaGreatDoorAmBox
import Derived.Orders
set_option linter.unusedSectionVars false
set_option linter.unusedSimpArgs false
set_option linter.unusedVariables false
namespace Go.AM

variable {P : Program} [Glob P]
section
variable {W : Nat → Prop} {lim : Nat} {E0 : Emb} {w0 : World} {L : List Tmp} {ops : Array Oper} {S : Nat → St} {F : Nat → Foot} {call : CallF} {D : Nat → Prop} {a : Act} {w : World}

theorem Inv.start (X : Lex P call L ops S F) (hmo : CallMono call) (hlim : (S ops.size).h.next ≤ lim) {lam : Tmp → Nat} (R : StR P W lim E0 lam (S 0) a w0) : Inv P W lim E0 w0 ops S F (fun _ => False) a { w0 with drawn := w0.drawn + 1 } := by
  have hlim0 : (S 0).h.next ≤ lim := Nat.le_trans (X.next_le hmo (Nat.zero_le _) (Nat.le_refl _)) hlim
  refine ⟨fun j h => h.elim, E0, lam, (S 0).t, (S 0).h.get, ?_, SR.heap R.sr rfl, R.dfr, Emb.le_refl E0, Same.draw W w0 _, fun b hb => .inl (R.hr.lt b hb), fun b hb => .inl hb, ?_, ?_, rfl, fun d => Iff.rfl, ?_, fun d _ _ => rfl, fun j o d h => h.elim⟩
  · have H := HR.heap R.hr (w' := { w0 with drawn := w0.drawn + 1 }) rfl
    exact ⟨fun b _ => .inr (Nat.zero_le _), H.size, H.row, H.own, H.esz, H.inj, H.top, H.glob, H.bld⟩
  · intro k hk hcons b hb hbk
    have h0 : b < (S 0).h.next := by
      rcases R.hr.lt b hb with h | h
      · exact h
      · have := X.next_le hmo hk (Nat.le_refl _)
        exact absurd (Nat.lt_of_lt_of_le hbk (Nat.le_trans this (Nat.le_trans hlim h))) (Nat.lt_irrefl _)
    have := X.keep hmo b 0 h0 k (by omega) (fun j _ hj hF => ((hcons j (by omega) hF).2 (by omega)).elim)
    rw [show 0 + k = k by omega] at this
    exact this.symm
  · intro b hb hl
    cases hg : (S 0).h.get b with
    | none => rfl
    | some x => exact absurd (Nat.lt_of_lt_of_le (Heap.get_lt hg) (Nat.le_trans hlim0 hl)) (Nat.lt_irrefl _)
  · intro d hb k hk hcons
    have := X.stay hmo d 0 k (by omega) (fun j o _ hj ho => ⟨fun h => absurd hb h, fun _ hF => ((hcons j (by omega) hF).2 (by omega)).elim⟩)
    rw [show 0 + k = k by omega] at this
    exact this.symm

theorem Inv.stop (X : Lex P call L ops S F) (hmo : CallMono call) (hlim : (S ops.size).h.next ≤ lim) (I : Inv P W lim E0 w0 ops S F D a w) (hall : ∀ j, j < ops.size → D j) : Done P W lim E0 (S 0).h w0 (S ops.size) a w := by
  obtain ⟨closed, E, lam, tb, g, HGg, SRb, dfr, le0, same0, ids, new0, Gk, Glim, tlen, tbox, tslot, tfree, tdst⟩ := I
  have geq : ∀ b x, E.dom b → (S ops.size).h.get b = some x → g b = some x := fun b x hb hg => by
    rw [Gk ops.size (Nat.le_refl _) (fun m hm _ => ⟨fun _ => hm, fun _ => hall m hm⟩) b hb (Heap.get_lt hg)]; exact hg
  have htb : tb = (S ops.size).t := by
    apply List.ext_getElem?
    intro d
    by_cases hb : BoxAt (S 0).t d
    · exact tslot d hb ops.size (Nat.le_refl _) (fun m hm _ => ⟨fun _ => hm, fun _ => hall m hm⟩)
    · by_cases hex : ∃ (j : Nat) (oj : Oper), ops[j]? = some oj ∧ oj.dst = some d
      · obtain ⟨j, oj, hoj, hd⟩ := hex
        have hj : j < ops.size := by
          rcases Nat.lt_or_ge j ops.size with h | h
          · exact h
          · rw [Array.getElem?_eq_none h] at hoj; cases hoj
        rw [tdst j oj d (hall j hj) hoj hd]
        have := X.stay hmo d (j + 1) (ops.size - (j + 1)) (by omega) (fun m o hm _ ho => ⟨fun _ hd2 => by have := X.uniq j m oj o d hoj ho hd hd2; omega, fun h => absurd h hb⟩)
        rw [show j + 1 + (ops.size - (j + 1)) = ops.size by omega] at this
        exact this.symm
      · have hno : ∀ (j : Nat) (o : Oper), ops[j]? = some o → o.dst ≠ some d := fun j o ho hd => hex ⟨j, o, ho, hd⟩
        rw [tfree d hb (fun j o _ ho => hno j o ho)]
        have := X.stay hmo d 0 ops.size (by omega) (fun m o hm _ ho => ⟨fun _ => hno m o ho, fun h => absurd h hb⟩)
        rw [show 0 + ops.size = ops.size by omega] at this
        exact this.symm
  refine ⟨E, lam, ⟨⟨?_, HGg.size, fun b ro ty l hb hg => HGg.row b ro ty l hb (geq b _ hb hg), ?_, fun b ro ty l hb hg => HGg.esz b ro ty l hb (geq b _ hb hg), ?_, HGg.top, HGg.glob, fun b ty l hb hg => HGg.bld b ty l hb (geq b _ hb hg)⟩, htb ▸ SRb, dfr⟩, ⟨le0, new0, same0, X.next_le hmo (Nat.zero_le _) (Nat.le_refl _)⟩⟩
  · intro b hb
    rcases ids b hb with (h | h) | ⟨j, hj, h1, h2⟩
    · exact .inl (Nat.lt_of_lt_of_le h (X.next_le hmo (Nat.zero_le _) (Nat.le_refl _)))
    · exact .inr h
    · have hjn : j < ops.size := by
        obtain ⟨oj, hoj, _⟩ := closed j hj
        rcases Nat.lt_or_ge j ops.size with h | h
        · exact h
        · rw [Array.getElem?_eq_none h] at hoj; cases hoj
      exact .inl (Nat.lt_of_lt_of_le h2 (X.next_le hmo (by omega) (Nat.le_refl _)))
  · intro b hb hr
    cases hg : (S ops.size).h.get b with
    | none => rw [hg] at hr; cases hr
    | some x => rw [hg] at hr; exact HGg.own b hb (by rw [geq b x hb hg]; exact hr)
  · intro b b' hb hb' hne hr hl
    cases hg : (S ops.size).h.get b with
    | none => rw [hg] at hr; cases hr
    | some x =>
      cases hg' : (S ops.size).h.get b' with
      | none => rw [hg'] at hl; cases hl
      | some x' =>
        rw [hg] at hr
        rw [hg'] at hl
        exact HGg.inj b b' hb hb' hne (by rw [geq b x hb hg]; exact hr) (by rw [geq b' x' hb' hg']; exact hl)

theorem Inv.any (X : Lex P call L ops S F) (hc : CallOk P call) (hmo : CallMono call) (hlim : (S ops.size).h.next ≤ lim) (Q : Exit → Act → World → Prop) (hq : ∀ a' w', Done P W lim E0 (S 0).h w0 (S ops.size) a' w' → Q .normal a' w') :
    ∀ (fuel : Nat) (listed : Array Bool) (a : Act) (w : World), listed.size = ops.size → listed.toList.count false = fuel → Inv P W lim E0 w0 ops S F (fun j => listed.getD j false = true) a w → wpAny P .any ops Q fuel listed a w := by
  have fin : ∀ (listed : Array Bool), listed.size = ops.size → Region.ready .any ops listed = [] → ∀ j, j < ops.size → listed.getD j false = true := by
    intro listed hsz hnil j
    induction j using Nat.strongRecOn with
    | _ j ih =>
      intro hj
      have hjs : j < listed.size := by omega
      cases hv : listed[j] with
      | true => simp [hjs, hv]
      | false =>
        obtain ⟨o, ho⟩ := op_at hj
        have : j ∈ Region.ready .any ops listed := by
          rw [mem_ready]
          refine ⟨by simp [hjs, hv], o, ho, fun e he hb => ?_⟩
          have hlt := X.back j o ho e he hb
          exact ih e.on hlt (by omega)
        rw [hnil] at this
        cases this
  intro fuel
  induction fuel with
  | zero =>
    intro listed a w hsz hcnt I
    have hall : ∀ j, j < ops.size → listed.getD j false = true := by
      intro j hj
      have hjs : j < listed.size := by omega
      cases hv : listed[j] with
      | true => simp [hjs, hv]
      | false =>
        have := List.count_eq_zero.1 hcnt
        exact absurd (by rw [← hv]; simp) this
    have hnil : Region.ready .any ops listed = [] := by
      cases hr : Region.ready .any ops listed with
      | nil => rfl
      | cons i l =>
        have hi : i ∈ Region.ready .any ops listed := by rw [hr]; simp
        rw [mem_ready] at hi
        obtain ⟨h0, o, ho, _⟩ := hi
        have hin : i < ops.size := (Array.getElem?_eq_some_iff.1 ho).1
        have h1 := hall i hin
        simp [show i < listed.size by omega] at h0 h1
        rw [h0] at h1; cases h1
    exact ⟨hnil, hq _ _ (I.stop X hmo hlim hall)⟩
  | succ fuel ih =>
    intro listed a w hsz hcnt I
    refine ⟨fun hnil => hq _ _ (I.stop X hmo hlim (fin listed hsz hnil)), fun i hi => ?_⟩
    rw [mem_ready] at hi
    obtain ⟨h0, o, ho, hdeps⟩ := hi
    have hin : i < ops.size := (Array.getElem?_eq_some_iff.1 ho).1
    have his : i < listed.size := by omega
    have hv : listed[i] = false := by simpa [his] using h0
    refine I.op X hc hmo hlim i o ho (by simp [his, hv]) hdeps _ Q (fun a' w' I' => ih (listed.setIfInBounds i true) a' w' (by simpa using hsz) ?_ ?_)
    · have h1 : (listed.setIfInBounds i true).toList = listed.toList.set i true := by simp
      rw [h1, List.count_set (by simpa using his), hcnt]
      simp [hv]
    · have : (fun j => (listed.setIfInBounds i true).getD j false = true) = (fun j => listed.getD j false = true ∨ j = i) := by
        funext j
        apply propext
        by_cases e : i = j
        · subst e; simp [his]
        · rw [getD_set_ne false e]
          exact ⟨.inl, fun h => h.resolve_right (fun h2 => e h2.symm)⟩
      rw [this]; exact I'

end

section
variable {W : Nat → Prop} {lim : Nat} {E : Emb} {lam : Tmp → Nat} {s : St} {a : Act} {w : World}

/-- A region whose order is drawn. -/
theorem runDraw_ok (hm : P.follows .mixedOrders = true) {call : CallF} (hc : CallOk P call) (hmo : CallMono call) (L : List Tmp) (id : Nat) (ops : Array Oper) (hd : drawOk L ops = true) (s s' : St) (hnb : BoxIn L s.t) (R : StR P W lim E lam s a w)
    (hr : runDraw P call L ops ops.toList (befs ops.toList []) [] s = some s') (hlim : s'.h.next ≤ lim) (Q : Exit → Act → World → Prop) (hq : ∀ a' w', Done P W lim E s.h w s' a' w' → Q .normal a' w') :
    (Code.region id ops true).wp P Q a w := by
  obtain ⟨S, F, h0, hn, _, hrec⟩ := trace call L ops _ rfl ops.toList 0 (befs ops.toList []) [] s s' (by simp) (by simp) rfl hr
  have hn' : S ops.size = s' := by rw [← hn]; simp
  simp only [drawOk, Bool.and_eq_true] at hd
  obtain ⟨⟨hd1, hd2⟩, hd3⟩ := hd
  have e1 : ∀ (j : Nat) (o : Oper), ops[j]? = some o → ops.toList[j]? = some o := fun j o h => by simpa using h
  have X : Lex P call L ops S F := by
    refine ⟨fun j o ho => hrec j o (Nat.zero_le _) ho, fun j o d ho => (dstsOk_spec L _ hd1).1 j o d (e1 j o ho), fun i j x y d hx hy => (dstsOk_spec L _ hd1).2 i j x y d (e1 i x hx) (e1 j y hy), ?_, fun j o d ho hdd hbx => by rw [h0] at hbx; exact (dstsOk_spec L _ hd1).1 j o d (e1 j o ho) hdd (hnb d hbx), fun j o ho e he hb => by have := backOk_spec _ 0 hd3 j o (e1 j o ho) e he hb; simpa using this⟩
    intro j o ho i x hij hx
    obtain ⟨m, hm2, hr2⟩ := tmpsOk_spec ops _ _ [] hd2 j o (e1 j o ho)
    rcases hr2 i x (by simpa using hij) (by simpa using hx) with h | h
    · exact .inl ⟨m, hm2, h⟩
    · exact .inr h
  subst hn'
  subst h0
  refine wp_region_any hm ?_
  refine Inv.any X hc hmo hlim Q hq ops.size _ a _ (by simp) (by simp) ?_
  have : (fun j => (Array.replicate ops.size false).getD j false = true) = (fun _ => False) := by
    funext j
    apply propext
    constructor
    · intro h
      simp only [Array.getD_eq_getD_getElem?, Array.getElem?_replicate] at h
      split at h <;> simp at h
    · exact False.elim
  rw [this]
  exact Inv.start X hmo hlim R

end
end Go.AM
