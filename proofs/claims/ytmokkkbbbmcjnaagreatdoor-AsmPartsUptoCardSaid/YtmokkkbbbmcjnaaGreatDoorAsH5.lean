/-
  Head: its rounds, and its run under promises.
-/
import Derived.Test.YtmokkkbbbmcjnaaGreatDoorAsH4
set_option linter.unusedVariables false
set_option linter.unusedSimpArgs false
namespace Go.AM
open Go.Proofs Go.RowKit

noncomputable abbrev hBody : Code := Code.go (bodyOf Tryz.prog 16) [1, 1, 0, 1, 0, 0, 1, 1, 0, 0, 1, 1, 1, 0, 0]
abbrev hKs : List Nat := [3, 15, 16, 28, 29, 30]
abbrev hVs (o a b s : V) (n i : Int) : List V := [o, a, b, s, i64 n, i64 i]
abbrev kindsV : V := .agg [.str [], .str kI, .str kB, .str kO]
abbrev ldH (H : Heap) (b i : Nat) (k : Int) : Ob2 := .ldx 3 H (.tmp 32) (.ptr b i) (i64 k)
abbrev idK (k : Int) (w : List UInt8) : Ob2 := .idx 61 kindsV (i64 k) (.str w)

theorem h_roundO (cp : Option Nat) (m b bl n p k' : Nat) (c : Option Nat) (A B : V) (w : List UInt8) (row : List V) (i j k : Int) (H : Heap) (t : List V) :
    tellCode Tryz.prog XH (m + 1) 16 [1] (m + 1) hBody ⟨normL 50 (hKs.zip (hVs (.slice b 0 1 (some 1)) A B (.slice bl 0 n cp) n i)) t, H⟩ [tv 16 31 true, tp 16 32 (.ptr bl p), (16, 33, .ldx (i64 k)), tv 16 35 false, tv 16 38 false, tp 16 43 (.str w), (16, 45, .blk k' 9 row), tp 16 46 (i64 j)] hKs =
      some (.normal, 50, hVs (.slice (H.alloc (pcell w)).next 0 k' none) A B (.slice bl 0 n cp) n j, (H.alloc (pcell w)).alloc (.cells false 9 row),
        [obI .lss i n true, iaX bl n cp i p, ldH H bl p k, obI .lss k 1 false, obI .gtr k 3 false, idK k w, .app 37 37 (H.alloc (pcell w)) (.slice b 0 1 (some 1)) (.slice H.next 0 1 (some 1)) k' 9 row, addO i j]) := by kernel_rfl
theorem h_roundD (cp : Option Nat) (m b bl n p k' n' : Nat) (A B : V) (w : List UInt8) (row : List V) (i j k : Int) (H : Heap) (t : List V) :
    tellCode Tryz.prog XH (m + 1) 16 [1] (m + 1) hBody ⟨normL 50 (hKs.zip (hVs (.slice b 0 n' none) A B (.slice bl 0 n cp) n i)) t, H⟩ [tv 16 31 true, tp 16 32 (.ptr bl p), (16, 33, .ldx (i64 k)), tv 16 35 false, tv 16 38 false, tp 16 43 (.str w), (16, 45, .dblk b k' 9 row), tp 16 46 (i64 j)] hKs =
      some (.normal, 50, hVs (.slice (H.alloc (pcell w)).next 0 k' none) A B (.slice bl 0 n cp) n j, ((H.alloc (pcell w)).set b .dead).alloc (.cells false 9 row),
        [obI .lss i n true, iaX bl n cp i p, ldH H bl p k, obI .lss k 1 false, obI .gtr k 3 false, idK k w, .apd 37 37 (H.alloc (pcell w)) (.slice b 0 n' none) (.slice H.next 0 1 (some 1)) b k' 9 row, addO i j]) := by kernel_rfl
theorem h_bad1 (cp : Option Nat) (m bl n p : Nat) (o A B : V) (i k : Int) (H : Heap) (t : List V) :
    tellCode Tryz.prog XH (m + 1) 16 [1] (m + 1) hBody ⟨normL 50 (hKs.zip (hVs o A B (.slice bl 0 n cp) n i)) t, H⟩ [tv 16 31 true, tp 16 32 (.ptr bl p), (16, 33, .ldx (i64 k)), tv 16 35 true] [2] =
      some (.ret, 50, [.str []], H, [obI .lss i n true, iaX bl n cp i p, ldH H bl p k, obI .lss k 1 true]) := by kernel_rfl
theorem h_bad2 (cp : Option Nat) (m bl n p : Nat) (o A B : V) (i k : Int) (H : Heap) (t : List V) :
    tellCode Tryz.prog XH (m + 1) 16 [1] (m + 1) hBody ⟨normL 50 (hKs.zip (hVs o A B (.slice bl 0 n cp) n i)) t, H⟩ [tv 16 31 true, tp 16 32 (.ptr bl p), (16, 33, .ldx (i64 k)), tv 16 35 false, tv 16 38 true] [2] =
      some (.ret, 50, [.str []], H, [obI .lss i n true, iaX bl n cp i p, ldH H bl p k, obI .lss k 1 false, obI .gtr k 3 true]) := by kernel_rfl
theorem h_exit (m : Nat) (o A B s : V) (n i : Int) (H : Heap) (t : List V) :
    tellCode Tryz.prog XH m 16 [1] m hBody ⟨normL 50 (hKs.zip (hVs o A B s n i)) t, H⟩ [tv 16 31 false] hKs = some (.exit 2, 50, hVs o A B s n i, H, [obI .lss i n false]) := by kernel_rfl

/-! ### A growing list of words -/

structure OutS (N0 : Nat) (H : Heap) (o : V) (acc : List (List UInt8)) (own : Bool) : Prop where
  ex : ∃ b, o = (if own then .slice b 0 1 (some 1) else .slice b 0 acc.length none) ∧ (own = true → acc.length = 1) ∧ b < H.next ∧ N0 ≤ b ∧ H.get b = some (.cells false 9 (acc.map V.str))
  old : N0 ≤ H.next

def KeepB (N0 : Nat) (H H' : Heap) : Prop := ∀ c, c < N0 → H'.get c = H.get c
theorem KeepB.refl (N0 : Nat) (H : Heap) : KeepB N0 H H := fun _ _ => rfl
theorem KeepB.trans {N0 : Nat} {A B C : Heap} (h : KeepB N0 A B) (h' : KeepB N0 B C) : KeepB N0 A C := fun c hc => (h' c hc).trans (h c hc)
theorem KeepB.alloc {N0 : Nat} {H : Heap} (o : Obj) (h : N0 ≤ H.next) : KeepB N0 H (H.alloc o) := fun c hc => Heap.get_alloc_ne _ _ _ (Nat.ne_of_lt (Nat.lt_of_lt_of_le hc h))
theorem KeepB.set {N0 : Nat} {H : Heap} (b : Id) (o : Obj) (h : N0 ≤ b) : KeepB N0 H (H.set b o) := fun c hc => Heap.get_set_ne _ _ _ _ (Nat.ne_of_lt (Nat.lt_of_lt_of_le hc h))

theorem okApO {X : Ext} (H : Heap) (p q : List UInt8) (b : Id) (hb : b < H.next) (hrow : H.get b = some (.cells false 9 [.str q])) :
    (Ob2.app 37 37 (H.alloc (pcell p)) (.slice b 0 1 (some 1)) (.slice H.next 0 1 (some 1)) 2 9 [.str q, .str p]).ok Tryz.prog X := by
  have hu : Tryz.prog.underlying 37 = some (.slice 9) := Tryz.underlying37
  obtain ⟨i, h1, h2, h3, h4⟩ := i9
  have hc : cellsOfV 1 (H.alloc (pcell p)) (.slice H.next 0 1 (some 1)) = some (1, [.str p]) := by
    simp only [cellsOfV, row_new]; rfl
  have hg : (H.alloc (pcell p)).get b = some (.cells false 9 [.str q]) := by rw [Heap.get_alloc_ne _ _ _ (Nat.ne_of_lt hb)]; exact hrow
  show appendV Tryz.prog 37 37 (H.alloc (pcell p)) (.slice b 0 1 (some 1)) (.slice H.next 0 1 (some 1)) = _
  unfold appendV
  rw [if_pos lt37]
  simp only
  unfold appendS
  simp only [hu, h1, h2, h3, h4, hc, hg]
  rfl

/-- One word more: which heap, which slice, and what was promised. -/
theorem push_own {X : Ext} {N0 : Nat} {H : Heap} {o : V} {acc : List (List UInt8)} (p : List UInt8) (h : OutS N0 H o acc true) : ∃ b q, o = .slice b 0 1 (some 1) ∧ acc = [q] ∧
    (Ob2.app 37 37 (H.alloc (pcell p)) (.slice b 0 1 (some 1)) (.slice H.next 0 1 (some 1)) 2 9 [.str q, .str p]).ok Tryz.prog X ∧
    OutS N0 ((H.alloc (pcell p)).alloc (.cells false 9 [.str q, .str p])) (.slice (H.alloc (pcell p)).next 0 2 none) (acc ++ [p]) false ∧ KeepB N0 H ((H.alloc (pcell p)).alloc (.cells false 9 [.str q, .str p])) := by
  obtain ⟨b, ho, hl, hb, hN, hg⟩ := h.ex
  have hl := hl rfl
  obtain ⟨q, rfl⟩ : ∃ q, acc = [q] := by
    match acc, hl with
    | [q], _ => exact ⟨q, rfl⟩
  have h1 := h.old
  refine ⟨b, q, ho, rfl, okApO H p q b hb hg, ⟨⟨_, rfl, (fun h => by cases h), by simp, by simp; omega, by rw [Heap.get_alloc_same]; rfl⟩, by simp; omega⟩, ?_⟩
  exact (KeepB.alloc _ h1).trans (KeepB.alloc _ (by simp; omega))
theorem push_row {X : Ext} {N0 : Nat} {H : Heap} {o : V} {acc : List (List UInt8)} (p : List UInt8) (h : OutS N0 H o acc false) (hn : acc.length < 1099511627776) : ∃ b, o = .slice b 0 acc.length none ∧
    (Ob2.apd 37 37 (H.alloc (pcell p)) (.slice b 0 acc.length none) (.slice H.next 0 1 (some 1)) b (acc.length + 1) 9 (acc.map V.str ++ [.str p])).ok Tryz.prog X ∧
    OutS N0 (((H.alloc (pcell p)).set b .dead).alloc (.cells false 9 (acc.map V.str ++ [.str p]))) (.slice (H.alloc (pcell p)).next 0 (acc.length + 1) none) (acc ++ [p]) false ∧ KeepB N0 H (((H.alloc (pcell p)).set b .dead).alloc (.cells false 9 (acc.map V.str ++ [.str p]))) := by
  obtain ⟨b, ho, _, hb, hN, hg⟩ := h.ex
  have h1 := h.old
  refine ⟨b, ho, ?_, ⟨⟨(H.alloc (pcell p)).next, by simp, (fun h => by cases h), by simp, by simp; omega, by
    have := Heap.get_alloc_same ((H.alloc (pcell p)).set b .dead) (.cells false 9 (acc.map V.str ++ [.str p]))
    simpa using this⟩, by simp; omega⟩, ?_⟩
  · have := okApd (X := X) H p b (acc.map V.str) hb hg (by simpa using hn)
    simpa using this
  · exact ((KeepB.alloc _ h1).trans (KeepB.set b _ hN)).trans (KeepB.alloc _ (by simp; omega))

/-! ### The rounds -/

def headW : List Int → Option (List (List UInt8))
  | [] => some []
  | k :: l => if k < 1 ∨ k > 3 then none else (headW l).map (kindW k :: ·)

theorem okKind {X : Ext} {k : Int} (h1 : ¬ k < 1) (h2 : ¬ k > 3) : (idK k (kindW k)).ok Tryz.prog X := by
  have hk : k = 1 ∨ k = 2 ∨ k = 3 := by omega
  rcases hk with rfl | rfl | rfl
  · exact (show indexV Tryz.prog 61 kindsV (i64 1) = some (.str kI) by kernel_rfl)
  · exact (show indexV Tryz.prog 61 kindsV (i64 2) = some (.str kB) by kernel_rfl)
  · exact (show indexV Tryz.prog 61 kindsV (i64 3) = some (.str kO) by kernel_rfl)

theorem h_rounds (cp : Option Nat) (m bl N0 : Nat) (A B : V) (L : List Int) (ro : Bool) (ty : TypeId) (hbl : bl < N0) (hL : L.length ≤ 1048576) : ∀ (l : List Int) (i : Nat) (o : V) (acc : List (List UInt8)) (own : Bool) (H : Heap), L.drop i = l → i + l.length = L.length → acc.length ≤ 1048576 * 4 + i →
    H.get bl = some (.cells ro ty (L.map i64)) → OutS N0 H o acc own →
    match headW l with
    | some ws => ∃ o' H' own', OutS N0 H' o' (acc ++ ws) own' ∧ (own' = true → ws = [] ∧ own = true) ∧ (own' = false → ws = [] → own = false) ∧ KeepB N0 H H' ∧ ∀ (t : List V) (fuel : Nat), l.length < fuel → t.length = 50 → proj hKs t = hVs o A B (.slice bl 0 L.length cp) L.length i →
        ∃ t', rounds (exec Tryz.prog (callN Tryz.prog XH (m + 1)) [1] (m + 1) hBody) fuel ⟨t, H⟩ = some (.exit 2, ⟨t', H'⟩) ∧ t'.length = 50 ∧ proj hKs t' = hVs o' A B (.slice bl 0 L.length cp) L.length L.length
    | none => ∃ H', ∀ (t : List V) (fuel : Nat), l.length < fuel → t.length = 50 → proj hKs t = hVs o A B (.slice bl 0 L.length cp) L.length i →
        ∃ t', rounds (exec Tryz.prog (callN Tryz.prog XH (m + 1)) [1] (m + 1) hBody) fuel ⟨t, H⟩ = some (.ret, ⟨t', H'⟩) ∧ t'.length = 50 ∧ proj [2] t' = [.str []] := by
  intro l
  induction l with
  | nil =>
    intro i o acc own H hd hi hacc hg ho
    simp at hi
    subst hi
    refine ⟨o, H, own, by simpa using ho, (fun h => ⟨rfl, h⟩), (fun h _ => h), KeepB.refl _ _, ?_⟩
    intro t fuel hf ht hp
    obtain ⟨f, rfl⟩ : ∃ f, fuel = f + 1 := ⟨fuel - 1, by omega⟩
    have hr := h_exit (m + 1) o A B (.slice bl 0 L.length cp) L.length (L.length : Nat) H t
    rw [norm_zip ht hp] at hr
    obtain ⟨t', e1, e2, e3⟩ := code_of_tell hr (obs2_cons (okIlt (by simp)) obs2_nil)
    exact ⟨t', by simp only [rounds, e1], e2, e3⟩
  | cons k l ih =>
    intro i o acc own H hd hi hacc hg ho
    have hk : L[i]? = some k := by
      have := congrArg List.head? hd
      simpa using this
    have hd' : L.drop (i + 1) = l := by
      have : (L.drop i).tail = l := by rw [hd]; rfl
      simpa using this
    rw [List.length_cons] at hi
    have o1 : (obI .lss (i : Nat) L.length true).ok Tryz.prog XH := okIlt (by simp; omega)
    have o2 := okIa (X := XH) bl L.length i cp (by omega)
    have o3 : (ldH H bl i k).ok Tryz.prog XH := okLdx agg3 hg (by simp [hk])
    simp only [headW]
    by_cases hlo : k < 1
    · rw [if_pos (.inl hlo)]
      refine ⟨H, fun t fuel hf ht hp => ?_⟩
      obtain ⟨f, rfl⟩ : ∃ f, fuel = f + 1 := ⟨fuel - 1, by omega⟩
      have hr := h_bad1 cp m bl L.length i o A B (i : Nat) k H t
      rw [norm_zip ht hp] at hr
      obtain ⟨t', e1, e2, e3⟩ := code_of_tell hr (obs2_cons o1 (obs2_cons o2 (obs2_cons o3 (obs2_cons (okIlt (by simp [hlo])) obs2_nil))))
      exact ⟨t', by simp only [rounds, e1], e2, e3⟩
    have o4 : (obI .lss k 1 false).ok Tryz.prog XH := okIlt (by simp; omega)
    by_cases hhi : k > 3
    · rw [if_pos (.inr hhi)]
      refine ⟨H, fun t fuel hf ht hp => ?_⟩
      obtain ⟨f, rfl⟩ : ∃ f, fuel = f + 1 := ⟨fuel - 1, by omega⟩
      have hr := h_bad2 cp m bl L.length i o A B (i : Nat) k H t
      rw [norm_zip ht hp] at hr
      obtain ⟨t', e1, e2, e3⟩ := code_of_tell hr (obs2_cons o1 (obs2_cons o2 (obs2_cons o3 (obs2_cons o4 (obs2_cons (okIgt (by simp; omega)) obs2_nil)))))
      exact ⟨t', by simp only [rounds, e1], e2, e3⟩
    have o5 : (obI .gtr k 3 false).ok Tryz.prog XH := okIgt (by simp; omega)
    have o6 := okKind (X := XH) hlo hhi
    have o7 : (addO (i : Nat) ((i + 1 : Nat) : Int)).ok Tryz.prog XH := okInc i (by omega)
    rw [if_neg (by omega)]
    obtain ⟨o', H', hstep, ho', hkeep⟩ : ∃ (o' : V) (H' : Heap), (∀ t : List V, t.length = 50 → proj hKs t = hVs o A B (.slice bl 0 L.length cp) L.length i → ∃ t', exec Tryz.prog (callN Tryz.prog XH (m + 1)) [1] (m + 1) hBody ⟨t, H⟩ = some (.normal, ⟨t', H'⟩) ∧ t'.length = 50 ∧ proj hKs t' = hVs o' A B (.slice bl 0 L.length cp) L.length (i + 1 : Nat)) ∧
        OutS N0 H' o' (acc ++ [kindW k]) false ∧ KeepB N0 H H' := by
      cases own with
      | true =>
        obtain ⟨b, q, rfl, rfl, p1, p2, p3⟩ := push_own (X := XH) (kindW k) ho
        refine ⟨_, _, fun t ht hp => ?_, p2, p3⟩
        have hr := h_roundO cp m b bl L.length i 2 none A B (kindW k) [.str q, .str (kindW k)] (i : Nat) ((i + 1 : Nat) : Int) k H t
        rw [norm_zip ht hp] at hr
        exact code_of_tell hr (obs2_cons o1 (obs2_cons o2 (obs2_cons o3 (obs2_cons o4 (obs2_cons o5 (obs2_cons o6 (obs2_cons p1 (obs2_cons o7 obs2_nil))))))))
      | false =>
        obtain ⟨b, rfl, p1, p2, p3⟩ := push_row (X := XH) (kindW k) ho (by omega)
        refine ⟨_, _, fun t ht hp => ?_, p2, p3⟩
        have hr := h_roundD cp m b bl L.length i (acc.length + 1) acc.length A B (kindW k) (acc.map V.str ++ [.str (kindW k)]) (i : Nat) ((i + 1 : Nat) : Int) k H t
        rw [norm_zip ht hp] at hr
        exact code_of_tell hr (obs2_cons o1 (obs2_cons o2 (obs2_cons o3 (obs2_cons o4 (obs2_cons o5 (obs2_cons o6 (obs2_cons p1 (obs2_cons o7 obs2_nil))))))))
    have hg' : H'.get bl = some (.cells ro ty (L.map i64)) := by rw [hkeep bl hbl]; exact hg
    have := ih (i + 1) o' (acc ++ [kindW k]) false H' hd' (by omega) (by simp; omega) hg' ho'
    cases hw : headW l with
    | none =>
      rw [hw] at this
      obtain ⟨H2, g⟩ := this
      refine ⟨H2, fun t fuel hf ht hp => ?_⟩
      obtain ⟨f, rfl⟩ : ∃ f, fuel = f + 1 := ⟨fuel - 1, by omega⟩
      obtain ⟨t', e1, e2, e3⟩ := hstep t ht hp
      obtain ⟨t2, g1, g2, g3⟩ := g t' f (by simp at hf; omega) e2 e3
      exact ⟨t2, by simp only [rounds, e1]; exact g1, g2, g3⟩
    | some ws =>
      rw [hw] at this
      obtain ⟨o2', H2, own2, q1, q2, q3, q4, g⟩ := this
      refine ⟨o2', H2, own2, by simpa using q1, (fun h => by cases (q2 h).2), (fun _ h => by cases h), hkeep.trans q4, fun t fuel hf ht hp => ?_⟩
      obtain ⟨f, rfl⟩ : ∃ f, fuel = f + 1 := ⟨fuel - 1, by omega⟩
      obtain ⟨t', e1, e2, e3⟩ := hstep t ht hp
      obtain ⟨t2, g1, g2, g3⟩ := g t' f (by simp at hf; omega) e2 e3
      exact ⟨t2, by simp only [rounds, e1]; exact g1, g2, g3⟩

end Go.AM
