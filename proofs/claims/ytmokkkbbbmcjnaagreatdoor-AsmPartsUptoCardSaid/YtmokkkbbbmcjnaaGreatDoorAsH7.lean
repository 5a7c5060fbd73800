/-
  strings.Split at a blank: the document's words; answered at once.
-/
import Derived.Test.YtmokkkbbbmcjnaaGreatDoorAsH5
set_option linter.unusedVariables false
set_option linter.unusedSimpArgs false
namespace Go.AM
open Go.Proofs Go.RowKit

theorem index_blank (s : List UInt8) : Lib.index s [32] = Lib.indexByte s 32 := Lib.index_one s 32

theorem split_words : ∀ (n : Nat) (s : List UInt8), s.length ≤ n → Lib.splitK [32] 0 (Lib.count s [32]) s = wordsG s [] := by
  intro n
  induction n with
  | zero =>
    intro s hs
    have : s = [] := List.eq_nil_of_length_eq_zero (by omega)
    subst this
    decide
  | succ n ih =>
    intro s hs
    cases hc : cutB 32 s with
    | none =>
      have e := cutB_none 32 s hc
      rw [Lib.count_miss (by rw [index_blank]; exact e), words_none s [] hc]
      rfl
    | some pq =>
      obtain ⟨p, q⟩ := pq
      obtain ⟨e1, e2, e3⟩ := cutB_some 32 s p q hc
      have hi : Lib.index s [32] = (p.length : Nat) := by rw [index_blank]; exact e1
      have hd : s.drop (p.length + 1) = q := by rw [e2, List.drop_append]; simp
      have ht : s.take p.length = p := by rw [e2]; simp
      rw [Lib.count_hit (by simp) hi, words_some s [] p q hc]
      simp only [List.length_singleton, List.length_cons, List.length_nil, Nat.zero_add]
      rw [hd, Nat.add_comm 1]
      have hne : ¬ (Lib.index s [32] == -1) = true := by rw [hi]; simp
      show (if Lib.index s [32] == -1 then [s] else s.take ((Lib.index s [32]).toNat + 0) :: Lib.splitK [32] 0 (Lib.count q [32]) (s.drop ((Lib.index s [32]).toNat + 1))) = _
      rw [if_neg hne, hi]
      simp only [Int.toNat_natCast, Nat.add_zero]
      rw [hd, ht, ih q (by rw [e2] at hs; simp at hs; omega)]
      rfl

theorem strs_VRs (E : Emb) : ∀ l : List (List UInt8), VRs E (l.map V.str) (l.map fun x => Value.string ⟨⟨x⟩⟩)
  | [] => rfl
  | x :: l => ⟨_, _, rfl, rfl, strs_VRs E l⟩

def splitE : GFun := fun args h => match args with
  | [.str s, .str [32]] => if s.length ≤ 2097152 then some (.slice h.next 0 (wordsG s []).length (some (wordsG s []).length), h.alloc (.cells false 9 ((wordsG s []).map V.str))) else none
  | _ => none
theorem split_entry : EntryOk Tryz.prog 36 splitE where
  call := by
    intro args h v h' hg W lim E w args' hlim H hr
    unfold splitE at hg
    split at hg
    case h_2 => cases hg
    rename_i s
    split at hg
    case isFalse => cases hg
    rename_i hs
    cases hg
    simp only [VRs, VR] at hr
    obtain ⟨_, _, rfl, rfl, _, _, rfl, rfl, rfl⟩ := hr
    obtain ⟨m, hm⟩ := H.glob.c0
    have ew : ((Lib.splitB ⟨⟨[32]⟩⟩ 0 (Lib.countB ⟨⟨s⟩⟩ ⟨⟨[32]⟩⟩) ⟨⟨s⟩⟩).map (·.data.toList)) = wordsG s [] := by
      rw [Lib.splitB_data]
      exact split_words s.length s (Nat.le_refl _)
    have ev : (Lib.splitB ⟨⟨[32]⟩⟩ 0 (Lib.countB ⟨⟨s⟩⟩ ⟨⟨[32]⟩⟩) ⟨⟨s⟩⟩).map Value.string = (wordsG s []).map fun x => Value.string ⟨⟨x⟩⟩ := by
      rw [← ew, List.map_map]
      rfl
    have en : Lib.countB ⟨⟨s⟩⟩ ⟨⟨[32]⟩⟩ + 1 = (wordsG s []).length := by
      rw [← ew, List.length_map]
      exact (Lib.splitB_all ⟨⟨[32]⟩⟩ (by decide) 0 _ ⟨⟨s⟩⟩ rfl).symm
    have hlen : ((wordsG s []).map fun x => Value.string ⟨⟨x⟩⟩).length = (wordsG s []).length := by simp
    refine (Tryz.strings_Split ⟨⟨s⟩⟩ ⟨⟨[32]⟩⟩ m w (by show s.length < _; omega) hm (by decide)).mono ?_
    rintro e w' ⟨rfl, rfl⟩
    rw [en, ev]
    have HA := H.alloc (Nat.lt_of_lt_of_le (Nat.lt_succ_self _) hlim) 9 ((wordsG s []).map V.str) ((szOf Tryz.prog 9).getD 0) ((wordsG s []).map fun x => Value.string ⟨⟨x⟩⟩).toArray 9 (0, 0) (by simp) (by
      have := strs_VRs E (wordsG s [])
      simpa [List.take_of_length_le] using this) (by
      intro y hy
      have hy := List.mem_of_mem_take hy
      simp only [List.mem_map] at hy
      obtain ⟨x, _, rfl⟩ := hy
      rfl) (by unfold NoFreeze; simp) rfl rfl (fun h => by cases h)
    have hn := H.new (Nat.lt_of_lt_of_le (Nat.lt_succ_self _) hlim)
    refine ⟨_, _, rfl, HA, ?_, Emb.le_ext E h.next _ hn, ?_, Same.alloc w _ H.top, by simp⟩
    · simp only [VR, Emb.ext_pl]
      exact ⟨Emb.ext_dom _ _ _, Nat.le_refl _, _, rfl, .inl rfl⟩
    · rintro c (hc | rfl)
      · exact .inl hc
      · refine .inr ⟨Nat.le_refl _, by simp, ?_⟩
        rw [Emb.ext_pl]; exact H.top _ (Nat.le_refl _)
  mono := by
    intro args h v h' hg
    unfold splitE at hg
    split at hg
    · split at hg
      · cases hg; exact Mono.alloc _ _
      · cases hg
    · cases hg

def XS : Ext := orExt (libExt [(36, splitE)]) XH
theorem split_all : ∀ x ∈ [((36 : FuncId), splitE)], EntryOk Tryz.prog x.1 x.2 := by
  intro x hx
  rw [List.mem_singleton] at hx
  subst hx
  exact split_entry
theorem XS_ok : ExtOk Tryz.prog XS := orExt_ok (libExt_ok split_all) XH_ok
theorem XS_mono : ExtMono XS := orExt_mono (libExt_mono split_all) XH_mono

end Go.AM
