/-
  A function that hands back a new slice, answered at once; the document's words; the document's Read, run.
-/
import Derived.Test.YtmokkkbbbmcjnaaGreatDoorAsP
set_option linter.unusedSectionVars false
set_option linter.unusedVariables false
set_option linter.unusedSimpArgs false
namespace Go.AM
open Go.Proofs Go.RowKit

section
variable {P : Program} [Glob P]

theorem fresh_slice (hm : P.follows .mixedOrders = true) {X : Ext} (hX : ExtOk P X) (hXm : ExtMono X) {n : Nat} {f : FuncId} {args : List V} {b : Id} {k : Nat} {H' : Heap} {ty : TypeId} {row : List V} (hrun : callN P X n f args h0 = some (.slice b 0 k none, H'))
    (hg : H'.get b = some (.cells false ty row)) (hfl : flats args = true) (hrf : flats row = true) {W : Nat → Prop} {lim : Nat} {E : Emb} {h : Heap} {w : World} {args' : List Value} (hlim : h.next < lim) (H : HR P W lim E h w) (hr : VRs E args args') :
    Calls P f ⟨args'⟩ w fun e w' => ∃ x E', e = .returned x ∧ HR P W lim E' (h.alloc (.cells false ty row)) w' ∧ VR E' (.slice h.next 0 k none) x ∧ Fwd W E h w E' (h.alloc (.cells false ty row)) w' := by
  have G : Glob.ok P (fun c => w.heap.size ≤ c) w := Glob.sub H.glob (fun c hc => .inr hc)
  refine Calls.mono (callN_ok hm X hX hXm n f args h0 _ H' hrun (fun c => w.heap.size ≤ c) H'.next noEmb w args' (Nat.le_refl _) (HR.none w _ G) (VRs.flat _ _ hfl hr)) ?_
  rintro e w' ⟨x, E1, rfl, HR1, hx, fw⟩
  have hs := fw.same
  have H2 := H.after hs
  simp only [VR] at hx
  obtain ⟨hd, hk, a, rfl, ha⟩ := hx
  have hpc : w.heap.size ≤ (E1.pl b).c := by
    rcases fw.new b hd with h | ⟨_, _, h⟩
    · exact h.elim
    · exact h
  have hn := H.new hlim
  have hle := Emb.le_ext E h.next (E1.pl b) hn
  have hge : ∀ c, E.dom c → (h.alloc (.cells false ty row)).get c = h.get c := fun c hc => Heap.get_alloc_ne _ _ _ (fun e => hn (e ▸ hc))
  have hpl : ∀ c, E.dom c → (E.ext h.next (E1.pl b)).pl c = E.pl c := fun c hc => Emb.ext_pl_ne _ _ _ _ (fun e => hn (e ▸ hc))
  have hnew : (h.alloc (.cells false ty row)).get h.next = some (.cells false ty row) := Heap.get_alloc_same _ _
  have hrow1 := HR1.row b false ty row hd hg
  refine ⟨_, E.ext h.next (E1.pl b), rfl, ⟨?_, ?_, ?_, ?_, ?_, ?_, H2.top, H2.glob, ?_⟩, ?_, hle, ?_, hs.weaken H.top, by simp⟩
  · rintro c (hc | rfl)
    · exact (H.lt c hc).imp Nat.lt_succ_of_lt id
    · exact .inl (Nat.lt_succ_self _)
  · rintro c (hc | rfl)
    · rw [hpl c hc]; exact H2.size c hc
    · rw [Emb.ext_pl]; exact HR1.size b hd
  · rintro c ro ty1 l (hc | rfl) hgc
    · rw [hge c hc] at hgc
      rw [hpl c hc]; exact (H2.row c ro ty1 l hc hgc).mono hle
    · rw [hnew] at hgc
      cases hgc
      rw [Emb.ext_pl]
      obtain ⟨arr, ty2, fz, q1, q2, q3, q4, q5, q6⟩ := hrow1.ex
      exact ⟨arr, ty2, fz, q1, q2, q3, VRs.flat _ _ hrf q4, q5, q6⟩
  · rintro c (hc | rfl) hrw
    · rw [hge c hc] at hrw
      rw [hpl c hc]; exact H2.own c hc hrw
    · rw [Emb.ext_pl]; exact H.top _ hpc
  · rintro c ro ty1 l (hc | rfl) hgc
    · rw [hge c hc] at hgc
      rw [hpl c hc]; exact H2.esz c ro ty1 l hc hgc
    · rw [hnew] at hgc
      cases hgc
      rw [Emb.ext_pl]; exact HR1.esz b false _ _ hd hg
  · rintro c c' (hc | rfl) (hc' | rfl) hne hrw hl
    · rw [hge c hc] at hrw
      rw [hge c' hc'] at hl
      rw [hpl c hc, hpl c' hc']; exact H2.inj c c' hc hc' hne hrw hl
    · rw [hpl c hc, Emb.ext_pl]
      have := H.size c hc
      omega
    · rw [hpl c' hc', Emb.ext_pl]
      have := H.size c' hc'
      omega
    · exact absurd rfl hne
  · rintro c ty1 l (hc | rfl) hgc
    · rw [hge c hc] at hgc
      rw [hpl c hc]; exact H2.bld c ty1 l hc hgc
    · rw [hnew] at hgc
      cases hgc
      rw [Emb.ext_pl]; exact HR1.bld b _ _ hd hg
  · simp only [VR, Emb.ext_pl]
    exact ⟨Emb.ext_dom _ _ _, hk, a, rfl, ha⟩
  · rintro c (hc | rfl)
    · exact .inl hc
    · refine .inr ⟨Nat.le_refl _, by simp, ?_⟩
      rw [Emb.ext_pl]; exact H.top _ hpc

end

theorem strs_flat : ∀ l : List (List UInt8), flats (l.map V.str) = true
  | [] => rfl
  | x :: l => by simp only [List.map_cons, flats, flat, strs_flat l]; rfl

def wordsE : GFun := fun args h => match args with
  | [.str s] => if s.length ≤ 2097152 then some (.slice h.next 0 (wordsG s []).length none, h.alloc (.cells false 9 ((wordsG s []).map V.str))) else none
  | _ => none
theorem words_entry : EntryOk Tryz.prog 27 wordsE where
  call := by
    intro args h v h' hg W lim E w args' hlim H hr
    unfold wordsE at hg
    split at hg
    case h_2 => cases hg
    rename_i s
    split at hg
    case isFalse => cases hg
    rename_i hs
    cases hg
    obtain ⟨n, b, H', hb, hrow, hrun⟩ := words_run s hs
    exact fresh_slice mixed XL_ok XL_mono hrun hrow rfl (strs_flat _) hlim H hr
  mono := by
    intro args h v h' hg
    unfold wordsE at hg
    split at hg
    · split at hg
      · cases hg; exact Mono.alloc _ _
      · cases hg
    · cases hg

def XW : Ext := orExt (libExt [(27, wordsE)]) (orExt (flatExt [digitsF, decimalF]) XL)
theorem words_all : ∀ x ∈ [((27 : FuncId), wordsE)], EntryOk Tryz.prog x.1 x.2 := by
  intro x hx
  rw [List.mem_singleton] at hx
  subst hx
  exact words_entry
theorem XW_ok : ExtOk Tryz.prog XW := orExt_ok (libExt_ok words_all) (orExt_ok (flatExt_ok mixed (by
  intro x hx
  simp only [List.mem_cons, List.not_mem_nil, or_false] at hx
  rcases hx with rfl | rfl
  · exact ⟨XL, XL_ok, XL_mono, digits_knows⟩
  · exact ⟨XD, XD_ok, XD_mono, decimal_knows⟩)) XL_ok)
theorem XW_mono : ExtMono XW := orExt_mono (libExt_mono words_all) (orExt_mono (flatExt_mono _) XL_mono)

/-! ### Lines -/

abbrev insV (op a : Int) : V := .agg [i64 op, i64 a]
theorem l10_1 (op a k : Int) (s p d : List UInt8) (hs : nameA op = s) (hk : takesA op = k) : tellFrom Tryz.prog XW 60 10 [insV op a] h0 [tv 10 9 true, tv 10 14 true, tp 10 17 (.str p), tp 10 20 (.str d), tp 10 21 (.str (p ++ d))] =
  some (.str (p ++ d), [obS .neq (nameA op) [] true, obI .neq (takesA op) 0 true, .bin .add 9 (.str (nameA op)) (.str [32]) (.str p), .rd 32 [i64 a] (.str d), .bin .add 9 (.str p) (.str d) (.str (p ++ d))]) := by kernel_rfl
theorem l10_2 (op a : Int) : tellFrom Tryz.prog XW 60 10 [insV op a] h0 [tv 10 9 true, tv 10 14 false, tv 10 25 true] =
  some (.str [], [obS .neq (nameA op) [] true, obI .neq (takesA op) 0 false, obI .neq a 0 true]) := by kernel_rfl
theorem l10_3 (op a : Int) : tellFrom Tryz.prog XW 60 10 [insV op a] h0 [tv 10 9 true, tv 10 14 false, tv 10 25 false] =
  some (.str (nameA op), [obS .neq (nameA op) [] true, obI .neq (takesA op) 0 false, obI .neq a 0 false]) := by kernel_rfl
theorem l10_4 (op a : Int) : tellFrom Tryz.prog XW 60 10 [insV op a] h0 [tv 10 9 false, tv 10 25 true] =
  some (.str [], [obS .neq (nameA op) [] false, obI .neq a 0 true]) := by kernel_rfl
theorem l10_5 (op a : Int) : tellFrom Tryz.prog XW 60 10 [insV op a] h0 [tv 10 9 false, tv 10 25 false] =
  some (.str (nameA op), [obS .neq (nameA op) [] false, obI .neq a 0 false]) := by kernel_rfl
theorem l11_0 (op a : Int) : tellFrom Tryz.prog XW 60 11 [insV op a] h0 [tv 11 8 true] = some (.str [], [obS .eql (nameA op) [] true]) := by kernel_rfl
theorem l11_1 (op a : Int) (p d : List UInt8) : tellFrom Tryz.prog XW 60 11 [insV op a] h0 [tv 11 8 false, tv 11 12 true, tp 11 14 (.str p), tp 11 17 (.str d), tp 11 18 (.str (p ++ d))] =
  some (.str (p ++ d), [obS .eql (nameA op) [] false, obI .neq (takesA op) 0 true, .bin .add 9 (.str (nameA op)) (.str [32]) (.str p), .rd 35 [i64 a] (.str d), .bin .add 9 (.str p) (.str d) (.str (p ++ d))]) := by kernel_rfl
theorem l11_2 (op a : Int) : tellFrom Tryz.prog XW 60 11 [insV op a] h0 [tv 11 8 false, tv 11 12 false, tv 11 21 true] = some (.str [], [obS .eql (nameA op) [] false, obI .neq (takesA op) 0 false, obI .neq a 0 true]) := by kernel_rfl
theorem l11_3 (op a : Int) : tellFrom Tryz.prog XW 60 11 [insV op a] h0 [tv 11 8 false, tv 11 12 false, tv 11 21 false] = some (.str (nameA op), [obS .eql (nameA op) [] false, obI .neq (takesA op) 0 false, obI .neq a 0 false]) := by kernel_rfl

end Go.AM
