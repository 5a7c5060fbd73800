/-
  ReadHead and the document's ReadHead: what their loops do.
-/
import Derived.Test.YtmokkkbbbmcjnaaGreatDoorAsH8
set_option linter.unusedVariables false
set_option linter.unusedSimpArgs false
namespace Go.AM
open Go.Proofs Go.RowKit

def kindOf (x : List UInt8) : Option Nat := if x = kI then some 1 else if x = kB then some 2 else if x = kO then some 3 else none
def addC (c k : Nat) (ls : Nat → List Int) : Nat → List Int := fun i => if i = c then ls i ++ [(k : Int)] else ls i
def rdW : List (List UInt8) → Nat → (Nat → List Int) → Option (Nat × (Nat → List Int))
  | [], c, ls => some (c, ls)
  | x :: l, c, ls => if (x = sAr ∧ c = 0) ∨ (x = sSe ∧ c = 1) then rdW l (c + 1) ls else match kindOf x with
    | none => none
    | some k => rdW l c (addC c k ls)

theorem kindOf_some {x : List UInt8} {k : Nat} (h : kindOf x = some k) : Kd k ∧ x ≠ sAr ∧ x ≠ sSe := by
  unfold kindOf at h
  split at h
  · rename_i e; cases h; subst e; exact ⟨.inl rfl, by decide, by decide⟩
  · split at h
    · rename_i e; cases h; subst e; exact ⟨.inr (.inl rfl), by decide, by decide⟩
    · split at h
      · rename_i e; cases h; subst e; exact ⟨.inr (.inr rfl), by decide, by decide⟩
      · cases h
theorem kindOf_none {x : List UInt8} (h : kindOf x = none) : x ≠ kI ∧ x ≠ kB ∧ x ≠ kO := by
  unfold kindOf at h
  split at h
  · cases h
  · split at h
    · cases h
    · split at h
      · cases h
      · exact ⟨‹_›, ‹_›, ‹_›⟩
theorem seq_true {a b : List UInt8} (h : a = b) : (a == b) = true := by simp [h]
theorem seq_false {a b : List UInt8} (h : a ≠ b) : (a == b) = false := by simp [h]

theorem obs2_append {X : Ext} {a b : List Ob2} (ha : Obs2 Tryz.prog X a) (hb : Obs2 Tryz.prog X b) : Obs2 Tryz.prog X (a ++ b) := fun x hx => (List.mem_append.1 hx).elim (ha x) (hb x)

theorem kOb_ok {X : Ext} {x : List UInt8} {k : Nat} (h : kindOf x = some k) : Obs2 Tryz.prog X (kOb x k) := by
  unfold kindOf at h
  split at h
  · rename_i e; cases h; subst e
    exact obs2_cons (okSe (by decide)) obs2_nil
  · split at h
    · rename_i e; cases h; subst e
      exact obs2_cons (okSe (by decide)) (obs2_cons (okSe (by decide)) obs2_nil)
    · split at h
      · rename_i e; cases h; subst e
        exact obs2_cons (okSe (by decide)) (obs2_cons (okSe (by decide)) (obs2_cons (okSe (by decide)) obs2_nil))
      · cases h

/-! ### Lists that grow -/

def Lst (N0 : Nat) (H : Heap) (v : V) (l : List Int) : Prop := (l = [] ∧ v = .nilslice) ∨ (l ≠ [] ∧ ∃ b : Nat, v = sN b l.length ∧ N0 ≤ b ∧ b < H.next ∧ H.get b = some (.cells false 3 (l.map i64)))
structure Own (N0 : Nat) (H : Heap) (vs : Nat → V) (ls : Nat → List Int) : Prop where
  each : ∀ i, Lst N0 H (vs i) (ls i)
  ne : ∀ i j (b b' : Nat) n n', i ≠ j → vs i = sN b n → vs j = sN b' n' → b ≠ b'
  old : N0 ≤ H.next

theorem Lst.keep {N0 : Nat} {H H' : Heap} {v : V} {l : List Int} (h : Lst N0 H v l) (hk : ∀ (b : Nat) n, v = sN b n → N0 ≤ b → b < H.next → H'.get b = H.get b) (hn : H.next ≤ H'.next) : Lst N0 H' v l := by
  rcases h with h | ⟨h1, b, rfl, h2, h3, h4⟩
  · exact .inl h
  · exact .inr ⟨h1, b, rfl, h2, Nat.lt_of_lt_of_le h3 hn, by rw [hk b _ rfl h2 h3]; exact h4⟩

theorem i3' : (Tryz.prog.info? 3).map (fun i => (i.size, i.bytes, zok i)) = some (1, 8, true) := by kernel_rfl
theorem i3 : ∃ i, Tryz.prog.info? 3 = some i ∧ i.size = 1 ∧ i.bytes = 8 ∧ zok i = true := by
  obtain ⟨i, h, e⟩ := Option.map_eq_some_iff.1 i3'
  simp only [Prod.mk.injEq] at e
  exact ⟨i, h, e.1, e.2.1, e.2.2⟩
theorem lt29 : Nat.blt 29 Tryz.prog.types.size = true := by kernel_rfl
theorem sz3 : szOf Tryz.prog 3 = some 1 := by kernel_rfl
theorem irow_new (H : Heap) (o : List V) : (H.alloc (.cells false 3 o)).row H.next = some o := by
  unfold Heap.row
  rw [Heap.get_alloc_same]

theorem okIApN {X : Ext} (H : Heap) (k : Int) : (iApN H k).ok Tryz.prog X := by
  have hu : Tryz.prog.underlying 29 = some (.slice 3) := Tryz.underlying29
  obtain ⟨i, h1, h2, h3, h4⟩ := i3
  have hc : cellsOfV 1 (H.alloc (icell k)) (.slice H.next 0 1 (some 1)) = some (1, [i64 k]) := by
    simp only [cellsOfV, irow_new]; rfl
  show appendV Tryz.prog 29 29 (H.alloc (icell k)) .nilslice (.slice H.next 0 1 (some 1)) = _
  unfold appendV
  rw [if_pos lt29]
  simp only
  unfold appendS
  simp only [hu, h1, h2, h3, h4, hc]
  rfl
theorem okIApD {X : Ext} (H : Heap) (k : Int) (b : Id) (row : List V) (hb : b < H.next) (hrow : H.get b = some (.cells false 3 row)) (hn : row.length < 1099511627776) : (iApD H k b row.length (row.length + 1) (row ++ [i64 k])).ok Tryz.prog X := by
  have hu : Tryz.prog.underlying 29 = some (.slice 3) := Tryz.underlying29
  obtain ⟨i, h1, h2, h3, h4⟩ := i3
  have hc : cellsOfV 1 (H.alloc (icell k)) (.slice H.next 0 1 (some 1)) = some (1, [i64 k]) := by
    simp only [cellsOfV, irow_new]; rfl
  have hg : (H.alloc (icell k)).get b = some (.cells false 3 row) := by rw [Heap.get_alloc_ne _ _ _ (Nat.ne_of_lt hb)]; exact hrow
  have hs := sz3
  show appendV Tryz.prog 29 29 (H.alloc (icell k)) (.slice b 0 row.length none) (.slice H.next 0 1 (some 1)) = _
  unfold appendV
  rw [if_pos lt29]
  simp only
  unfold appendS
  simp only [hu, h1, h2, h3, h4, hc, hg, hs]
  rw [if_neg (by simp [srcOk]), if_pos ⟨by unfold room; omega, by unfold room; omega⟩]
  simp
  intro h
  omega

theorem gApN_keep {N0 : Nat} (H : Heap) (k : Int) (h : N0 ≤ H.next) : KeepB N0 H (gApN H k) := (KeepB.alloc _ h).trans (KeepB.alloc _ (by simp; omega))
theorem gApD_keep {N0 : Nat} (H : Heap) (k : Int) (b : Nat) (row : List V) (h : N0 ≤ H.next) (hb : N0 ≤ b) : KeepB N0 H (gApD H k b row) := ((KeepB.alloc _ h).trans (KeepB.set b _ hb)).trans (KeepB.alloc _ (by simp; omega))

theorem own_N {N0 : Nat} {H : Heap} {vs : Nat → V} {ls : Nat → List Int} {c : Nat} (k : Nat) (ho : Own N0 H vs ls) (hl : ls c = []) : Own N0 (gApN H k) (upd vs c (sN (ny H k) 1)) (addC c k ls) := by
  have old := ho.old
  refine ⟨fun i => ?_, fun i j b b' n n' hij hi hj => ?_, by simp; omega⟩
  · by_cases e : i = c
    · subst e
      refine .inr ⟨by simp [addC], (H.alloc (icell k)).next, by simp [upd, addC, hl], by simp; omega, by simp, ?_⟩
      rw [Heap.get_alloc_same]
      simp [addC, hl]
    · simp only [upd, addC, if_neg e]
      refine (ho.each i).keep (fun b n _ _ h2 => ?_) (by simp; omega)
      rw [Heap.get_alloc_ne _ _ _ (Nat.ne_of_lt (Nat.lt_succ_of_lt h2)), Heap.get_alloc_ne _ _ _ (Nat.ne_of_lt h2)]
  · have lt : ∀ i (b : Nat) n, vs i = sN b n → b < H.next := fun i b n h => by
      rcases ho.each i with ⟨_, e⟩ | ⟨_, b1, e, _, h3, _⟩
      · rw [h] at e; cases e
      · rw [h] at e; cases e; exact h3
    by_cases e1 : i = c
    · have e2 : j ≠ c := fun e => hij (e1.trans e.symm)
      simp only [upd, if_pos e1, if_neg e2] at hi hj
      cases hi
      have := lt j _ _ hj
      simp; omega
    · by_cases e2 : j = c
      · simp only [upd, if_neg e1, if_pos e2] at hi hj
        cases hj
        have := lt i _ _ hi
        simp; omega
      · simp only [upd, if_neg e1, if_neg e2] at hi hj
        exact ho.ne i j b b' n n' hij hi hj

theorem own_D {N0 : Nat} {H : Heap} {vs : Nat → V} {ls : Nat → List Int} {c : Nat} (k : Nat) (ho : Own N0 H vs ls) {b : Nat} {n : Nat} (hv : vs c = sN b n) (hb : b < H.next) : Own N0 (gApD H k b ((ls c).map i64 ++ [i64 (k : Nat)])) (upd vs c (sN (ny H k) ((ls c).length + 1))) (addC c k ls) := by
  have old := ho.old
  refine ⟨fun i => ?_, fun i j b1 b' n n' hij hi hj => ?_, by simp; omega⟩
  · by_cases e : i = c
    · subst e
      refine .inr ⟨by simp [addC], (H.alloc (icell k)).next, by simp [upd, addC], by simp; omega, by simp, ?_⟩
      have := Heap.get_alloc_same ((H.alloc (icell k)).set b .dead) (.cells false 3 ((ls i).map i64 ++ [i64 (k : Nat)]))
      simpa [addC] using this
    · simp only [upd, addC, if_neg e]
      refine (ho.each i).keep (fun b1 n1 hv1 _ h2 => ?_) (by simp; omega)
      have hne : b1 ≠ b := ho.ne i c b1 b n1 n e hv1 hv
      rw [Heap.get_alloc_ne _ _ _ (Nat.ne_of_lt (Nat.lt_succ_of_lt h2)), Heap.get_set_ne _ _ _ _ hne, Heap.get_alloc_ne _ _ _ (Nat.ne_of_lt h2)]
  · have lt : ∀ i (b : Nat) n, vs i = sN b n → b < H.next := fun i b n h => by
      rcases ho.each i with ⟨_, e⟩ | ⟨_, b1, e, _, h3, _⟩
      · rw [h] at e; cases e
      · rw [h] at e; cases e; exact h3
    by_cases e1 : i = c
    · have e2 : j ≠ c := fun e => hij (e1.trans e.symm)
      simp only [upd, if_pos e1, if_neg e2] at hi hj
      cases hi
      have := lt j _ _ hj
      simp; omega
    · by_cases e2 : j = c
      · simp only [upd, if_neg e1, if_pos e2] at hi hj
        cases hj
        have := lt i _ _ hi
        simp; omega
      · simp only [upd, if_neg e1, if_neg e2] at hi hj
        exact ho.ne i j b1 b' n n' hij hi hj

/-- One more: whichever way. -/
theorem own_push {X : Ext} {N0 : Nat} {H : Heap} {vs : Nat → V} {ls : Nat → List Int} (c k : Nat) (ho : Own N0 H vs ls) (hn : (ls c).length < 1099511627776) :
    (vs c = .nilslice ∧ (iApN H k).ok Tryz.prog X ∧ Own N0 (gApN H k) (upd vs c (sN (ny H k) 1)) (addC c k ls) ∧ KeepB N0 H (gApN H k)) ∨
    (∃ b l q row, vs c = sN b l ∧ (iApD H k b l q row).ok Tryz.prog X ∧ Own N0 (gApD H k b row) (upd vs c (sN (ny H k) q)) (addC c k ls) ∧ KeepB N0 H (gApD H k b row)) := by
  rcases ho.each c with ⟨h1, h2⟩ | ⟨h1, b, h2, h3, h4, h5⟩
  · exact .inl ⟨h2, okIApN H k, own_N k ho h1, gApN_keep H k ho.old⟩
  · refine .inr ⟨b, (ls c).length, (ls c).length + 1, (ls c).map i64 ++ [i64 (k : Nat)], h2, ?_, own_D k ho h2 h4, gApD_keep H k b _ ho.old h3⟩
    have := okIApD (X := X) H k b ((ls c).map i64) h4 h5 (by simpa using hn)
    simpa using this

theorem upd_same (vs : Nat → V) (c : Nat) {v : V} (h : vs c = v) : upd vs c v = vs := by
  funext i
  unfold upd
  split
  · rename_i e; rw [e, h]
  · rfl

/-! ### ReadHead -/

def Inv13 (ws : List (List UInt8)) (H : Heap) (vs : Nat → V) (ls : Nat → List Int) : Prop := Own 2 H vs ls ∧ H.get 0 = some (.cells false 32 [vs 0, vs 1, vs 2, .nilslice]) ∧ H.get 1 = some (.cells false 9 (ws.map V.str))

theorem okIb1 {X : Ext} (b n i : Nat) (c : Option Nat) (h : i < n) : (Ob2.iadr 37 b 1 n c (i64 (i : Nat)) (.ptr b (1 + i))).ok Tryz.prog X := by
  intro ts x
  have hu : Tryz.prog.underlying 37 = some (.slice 9) := Tryz.underlying37
  have hs : szOf Tryz.prog 9 = some 1 := by kernel_rfl
  unfold indexAddrV
  simp only [hu, hs]
  rw [if_pos (by omega)]
  simp

theorem sz29 : szOf Tryz.prog 29 = some 1 := by kernel_rfl
theorem okStx {X : Ext} {H : Heap} {x : Operand} {c b n : Nat} {row : List V} (hg : H.get 0 = some (.cells false 32 row)) (hc : c < row.length) : (Ob2.stx 29 H x (.ptr 0 c) (sN b n) (H.set 0 (.cells false 32 (row.set c (sN b n))))).ok Tryz.prog X := by
  intro t
  unfold storeV
  rw [if_pos ⟨by rw [sz29]; rfl, rfl⟩]
  have e : storeRow row c (sN b n).cells = some (row.set c (sN b n)) := by
    show (if c + 1 ≤ row.length then some (row.take c ++ [sN b n] ++ row.drop (c + 1)) else none) = _
    rw [if_pos (by omega), List.set_eq_take_append_cons_drop, if_pos hc]
    simp
  simp only [Heap.write, hg, e, Option.map_some]

theorem okInc' {X : Ext} (i : Nat) (h : i < 9223372036854775807) : (addO (i : Nat) ((i + 1 : Nat) : Int)).ok Tryz.prog X := okInc i h

theorem Own.set0 {N0 : Nat} {H : Heap} {vs : Nat → V} {ls : Nat → List Int} (o : Obj) (h0 : 0 < N0) (h : Own N0 H vs ls) : Own N0 (H.set 0 o) vs ls :=
  ⟨fun i => (h.each i).keep (fun b n _ h1 _ => Heap.get_set_ne _ _ _ _ (Nat.ne_of_gt (Nat.lt_of_lt_of_le h0 h1))) (by simp), h.ne, by simpa using h.old⟩

theorem len_addC {c k : Nat} {ls : Nat → List Int} {i : Nat} (h : ∀ j, (ls j).length ≤ i) : ∀ j, (addC c k ls j).length ≤ i + 1 := by
  intro j
  have := h j
  unfold addC
  split
  · simp; omega
  · omega

theorem r13_rounds (m k : Nat) (x0 : List UInt8) (ws : List (List UInt8)) (hW : ws.length ≤ 2097153) : ∀ (l : List (List UInt8)) (i c : Nat) (vs : Nat → V) (ls : Nat → List Int) (H : Heap), ws.drop i = l → i + l.length = ws.length → c ≤ 2 → (∀ j, (ls j).length ≤ i) → Inv13 (x0 :: ws) H vs ls →
    match rdW l c ls with
    | some (c', ls') => ∃ vs' H', c' ≤ 2 ∧ Inv13 (x0 :: ws) H' vs' ls' ∧ ∀ (t : List V) (fuel : Nat), l.length < fuel → t.length = 87 → proj pKs t = pVs c (c : Nat) k ws.length (i : Nat) →
        ∃ t', rounds (exec Tryz.prog (callN Tryz.prog XS (m + 6)) [2] (m + 6) pBody) fuel ⟨t, H⟩ = some (.exit 0, ⟨t', H'⟩) ∧ t'.length = 87 ∧ proj pKs t' = pVs c' (c' : Nat) k ws.length (ws.length : Nat)
    | none => ∃ H', ∀ (t : List V) (fuel : Nat), l.length < fuel → t.length = 87 → proj pKs t = pVs c (c : Nat) k ws.length (i : Nat) →
        ∃ t', rounds (exec Tryz.prog (callN Tryz.prog XS (m + 6)) [2] (m + 6) pBody) fuel ⟨t, H⟩ = some (.ret, ⟨t', H'⟩) ∧ t'.length = 87 ∧ proj [2, 3] t' = [.box nil4, .bool false] := by
  intro l
  induction l with
  | nil =>
    intro i c vs ls H hd hi hc hl hI
    simp at hi
    subst hi
    refine ⟨vs, H, hc, hI, ?_⟩
    intro t fuel hf ht hp
    obtain ⟨f, rfl⟩ : ∃ f, fuel = f + 1 := ⟨fuel - 1, by omega⟩
    have hr := r13_x (m + 6) c k ws.length (c : Nat) (ws.length : Nat) H t
    rw [norm_zip ht hp] at hr
    obtain ⟨t', e1, e2, e3⟩ := code_of_tell hr (obs2_cons (okIlt (by simp)) obs2_nil)
    exact ⟨t', by simp only [rounds, e1], e2, e3⟩
  | cons x l ih =>
    intro i c vs ls H hd hi hc hl hI
    have hk : ws[i]? = some x := by
      have := congrArg List.head? hd
      simpa using this
    have hd' : ws.drop (i + 1) = l := by
      have : (ws.drop i).tail = l := by rw [hd]; rfl
      simpa using this
    rw [List.length_cons] at hi
    obtain ⟨hO, hR, hS⟩ := hI
    have o1 : (obI .lss (i : Nat) ws.length true).ok Tryz.prog XS := okIlt (by simp; omega)
    have o2 := okIb1 (X := XS) 1 ws.length i (some ws.length) (by omega)
    have o3 : (ldS H 24 1 (1 + i) x).ok Tryz.prog XS := okLdx agg9 hS (by rw [Nat.add_comm]; simp [hk])
    have oj : (addO (i : Nat) ((i + 1 : Nat) : Int)).ok Tryz.prog XS := okInc' i (by omega)
    -- what a step and the rest make
    have glue : ∀ (c' : Nat) (vs' : Nat → V) (ls' : Nat → List Int) (H1 : Heap), c' ≤ 2 → (∀ j, (ls' j).length ≤ i + 1) → Inv13 (x0 :: ws) H1 vs' ls' →
        (∀ t : List V, t.length = 87 → proj pKs t = pVs c (c : Nat) k ws.length (i : Nat) → ∃ t', exec Tryz.prog (callN Tryz.prog XS (m + 6)) [2] (m + 6) pBody ⟨t, H⟩ = some (.normal, ⟨t', H1⟩) ∧ t'.length = 87 ∧ proj pKs t' = pVs c' (c' : Nat) k ws.length ((i + 1 : Nat) : Int)) →
        rdW (x :: l) c ls = rdW l c' ls' →
        match rdW (x :: l) c ls with
        | some (c', ls') => ∃ vs' H', c' ≤ 2 ∧ Inv13 (x0 :: ws) H' vs' ls' ∧ ∀ (t : List V) (fuel : Nat), (x :: l).length < fuel → t.length = 87 → proj pKs t = pVs c (c : Nat) k ws.length (i : Nat) →
            ∃ t', rounds (exec Tryz.prog (callN Tryz.prog XS (m + 6)) [2] (m + 6) pBody) fuel ⟨t, H⟩ = some (.exit 0, ⟨t', H'⟩) ∧ t'.length = 87 ∧ proj pKs t' = pVs c' (c' : Nat) k ws.length (ws.length : Nat)
        | none => ∃ H', ∀ (t : List V) (fuel : Nat), (x :: l).length < fuel → t.length = 87 → proj pKs t = pVs c (c : Nat) k ws.length (i : Nat) →
            ∃ t', rounds (exec Tryz.prog (callN Tryz.prog XS (m + 6)) [2] (m + 6) pBody) fuel ⟨t, H⟩ = some (.ret, ⟨t', H'⟩) ∧ t'.length = 87 ∧ proj [2, 3] t' = [.box nil4, .bool false] := by
      intro c' vs' ls' H1 hc' hl' hI' hstep he
      rw [he]
      have := ih (i + 1) c' vs' ls' H1 hd' (by omega) hc' hl' hI'
      split at this
      · rename_i r c2 ls2 hrd
        obtain ⟨vs2, H2, g1, g2, g⟩ := this
        refine ⟨vs2, H2, g1, g2, fun t fuel hf ht hp => ?_⟩
        obtain ⟨f, rfl⟩ : ∃ f, fuel = f + 1 := ⟨fuel - 1, by omega⟩
        obtain ⟨t', e1, e2, e3⟩ := hstep t ht hp
        obtain ⟨t2, q1, q2, q3⟩ := g t' f (by simp at hf; omega) e2 e3
        exact ⟨t2, by simp only [rounds, e1]; exact q1, q2, q3⟩
      · rename_i r hrd
        obtain ⟨H2, g⟩ := this
        refine ⟨H2, fun t fuel hf ht hp => ?_⟩
        obtain ⟨f, rfl⟩ : ∃ f, fuel = f + 1 := ⟨fuel - 1, by omega⟩
        obtain ⟨t', e1, e2, e3⟩ := hstep t ht hp
        obtain ⟨t2, q1, q2, q3⟩ := g t' f (by simp at hf; omega) e2 e3
        exact ⟨t2, by simp only [rounds, e1]; exact q1, q2, q3⟩
    by_cases h1 : x = sAr ∧ c = 0
    · obtain ⟨hx, rfl⟩ := h1
      refine glue 1 vs ls H (by omega) (fun j => Nat.le_succ_of_le (hl j)) ⟨hO, hR, hS⟩ (fun t ht hp => ?_) (by simp only [rdW]; rw [if_pos (by simp [hx])])
      have hr := r13_m1 m 0 k ws.length (1 + i) (0 : Nat) ((0 + 1 : Nat) : Int) (i : Nat) ((i + 1 : Nat) : Int) x H t
      rw [norm_zip ht hp] at hr
      exact code_of_tell hr (obs2_cons o1 (obs2_cons o2 (obs2_cons o3 (obs2_cons (okSe (seq_true hx)) (obs2_cons (okIeq rfl) (obs2_cons (okInc' 0 (by omega)) (obs2_cons oj obs2_nil)))))))
    by_cases h2 : x = sSe ∧ c = 1
    · obtain ⟨hx, rfl⟩ := h2
      have hxa : x ≠ sAr := by rw [hx]; decide
      refine glue 2 vs ls H (by omega) (fun j => Nat.le_succ_of_le (hl j)) ⟨hO, hR, hS⟩ (fun t ht hp => ?_) (by simp only [rdW]; rw [if_pos (by simp [hx])])
      have hr := r13_m2 m 1 k ws.length (1 + i) (1 : Nat) ((1 + 1 : Nat) : Int) (i : Nat) ((i + 1 : Nat) : Int) x H t
      rw [norm_zip ht hp] at hr
      exact code_of_tell hr (obs2_cons o1 (obs2_cons o2 (obs2_cons o3 (obs2_cons (okSe (seq_false hxa)) (obs2_cons (okSe (seq_true hx)) (obs2_cons (okIeq rfl) (obs2_cons (okInc' 1 (by omega)) (obs2_cons oj obs2_nil))))))))
    have hno : ¬ ((x = sAr ∧ c = 0) ∨ (x = sSe ∧ c = 1)) := fun h => h.elim h1 h2
    cases hkd : kindOf x with
    | none =>
      obtain ⟨n1, n2, n3⟩ := kindOf_none hkd
      have he : rdW (x :: l) c ls = none := by simp only [rdW]; rw [if_neg hno, hkd]
      rw [he]
      have q1 : (obS .eql kI x false).ok Tryz.prog XS := okSe (seq_false (Ne.symm n1))
      have q2 : (obS .eql kB x false).ok Tryz.prog XS := okSe (seq_false (Ne.symm n2))
      have q3 : (obS .eql kO x false).ok Tryz.prog XS := okSe (seq_false (Ne.symm n3))
      refine ⟨H, fun t fuel hf ht hp => ?_⟩
      obtain ⟨f, rfl⟩ : ∃ f, fuel = f + 1 := ⟨fuel - 1, by omega⟩
      by_cases ha : x = sAr
      · have hc0 : c ≠ 0 := fun e => h1 ⟨ha, e⟩
        have hxs : x ≠ sSe := by rw [ha]; decide
        have hr := r13_fb m c k ws.length (1 + i) (c : Nat) (i : Nat) x H t
        rw [norm_zip ht hp] at hr
        obtain ⟨t', e1, e2, e3⟩ := code_of_tell hr (obs2_cons o1 (obs2_cons o2 (obs2_cons o3 (obs2_cons (okSe (seq_true ha)) (obs2_cons (okIeq (by simp; omega)) (obs2_cons (okSe (seq_false hxs)) (obs2_cons q1 (obs2_cons q2 (obs2_cons q3 obs2_nil)))))))))
        exact ⟨t', by simp only [rounds, e1], e2, e3⟩
      · by_cases hs : x = sSe
        · have hc1 : c ≠ 1 := fun e => h2 ⟨hs, e⟩
          have hr := r13_fc m c k ws.length (1 + i) (c : Nat) (i : Nat) x H t
          rw [norm_zip ht hp] at hr
          obtain ⟨t', e1, e2, e3⟩ := code_of_tell hr (obs2_cons o1 (obs2_cons o2 (obs2_cons o3 (obs2_cons (okSe (seq_false ha)) (obs2_cons (okSe (seq_true hs)) (obs2_cons (okIeq (by simp; omega)) (obs2_cons q1 (obs2_cons q2 (obs2_cons q3 obs2_nil)))))))))
          exact ⟨t', by simp only [rounds, e1], e2, e3⟩
        · have hr := r13_fa m c k ws.length (1 + i) (c : Nat) (i : Nat) x H t
          rw [norm_zip ht hp] at hr
          obtain ⟨t', e1, e2, e3⟩ := code_of_tell hr (obs2_cons o1 (obs2_cons o2 (obs2_cons o3 (obs2_cons (okSe (seq_false ha)) (obs2_cons (okSe (seq_false hs)) (obs2_cons q1 (obs2_cons q2 (obs2_cons q3 obs2_nil))))))))
          exact ⟨t', by simp only [rounds, e1], e2, e3⟩
    | some kk =>
      obtain ⟨hK, ha, hs⟩ := kindOf_some hkd
      have he : rdW (x :: l) c ls = rdW l c (addC c kk ls) := by simp only [rdW]; rw [if_neg hno, hkd]
      have hvc : ([vs 0, vs 1, vs 2, V.nilslice])[c]? = some (vs c) := by
        rcases (show c = 0 ∨ c = 1 ∨ c = 2 by omega) with rfl | rfl | rfl <;> rfl
      have hset : ∀ v, ([vs 0, vs 1, vs 2, V.nilslice]).set c v = [upd vs c v 0, upd vs c v 1, upd vs c v 2, V.nilslice] := by
        intro v
        rcases (show c = 0 ∨ c = 1 ∨ c = 2 by omega) with rfl | rfl | rfl <;> rfl
      have ol : (ldL H 60 c (vs c)).ok Tryz.prog XS := okLdx agg29 hR hvc
      have hlc := hl c
      have op := obs2_cons o1 (obs2_cons o2 (obs2_cons o3 (obs2_cons (okSe (seq_false ha)) (obs2_cons (okSe (seq_false hs)) obs2_nil))))
      rcases own_push (X := XS) c kk hO (by omega) with ⟨e1, p1, p2, p3⟩ | ⟨b, l', q, row, e1, p1, p2, p3⟩
      · have hR1 : (gApN H kk).get 0 = some (.cells false 32 [vs 0, vs 1, vs 2, .nilslice]) := by rw [p3 0 (by omega)]; exact hR
        have hn1 : 0 < (gApN H kk).next := by simp
        refine glue c _ _ ((gApN H kk).set 0 (.cells false 32 (([vs 0, vs 1, vs 2, V.nilslice]).set c (sN (ny H kk) 1)))) hc (len_addC hl) ⟨p2.set0 _ (by omega), ?_, ?_⟩ (fun t ht hp => ?_) he
        · rw [Heap.get_set_same _ _ _ hn1, hset]
        · rw [Heap.get_set_ne _ _ _ _ (Nat.succ_ne_zero 0), p3 1 (by omega)]; exact hS
        · rw [e1] at ol
          have hr := r13_N m c k ws.length (1 + i) (c : Nat) (i : Nat) ((i + 1 : Nat) : Int) x H t ((gApN H kk).set 0 (.cells false 32 (([vs 0, vs 1, vs 2, V.nilslice]).set c (sN (ny H kk) 1)))) kk hK
          rw [norm_zip ht hp] at hr
          exact code_of_tell hr (obs2_append op (obs2_append (kOb_ok hkd) (obs2_cons ol (obs2_cons p1 (obs2_cons (okStx hR1 (by simp; omega)) (obs2_cons oj obs2_nil))))))
      · have hR1 : (gApD H kk b row).get 0 = some (.cells false 32 [vs 0, vs 1, vs 2, .nilslice]) := by rw [p3 0 (by omega)]; exact hR
        have hn1 : 0 < (gApD H kk b row).next := by simp
        refine glue c _ _ ((gApD H kk b row).set 0 (.cells false 32 (([vs 0, vs 1, vs 2, V.nilslice]).set c (sN (ny H kk) q)))) hc (len_addC hl) ⟨p2.set0 _ (by omega), ?_, ?_⟩ (fun t ht hp => ?_) he
        · rw [Heap.get_set_same _ _ _ hn1, hset]
        · rw [Heap.get_set_ne _ _ _ _ (Nat.succ_ne_zero 0), p3 1 (by omega)]; exact hS
        · rw [e1] at ol
          have hr := r13_D m c k ws.length (1 + i) (c : Nat) (i : Nat) ((i + 1 : Nat) : Int) x H t ((gApD H kk b row).set 0 (.cells false 32 (([vs 0, vs 1, vs 2, V.nilslice]).set c (sN (ny H kk) q)))) b l' q row kk hK
          rw [norm_zip ht hp] at hr
          exact code_of_tell hr (obs2_append op (obs2_append (kOb_ok hkd) (obs2_cons ol (obs2_cons p1 (obs2_cons (okStx hR1 (by simp; omega)) (obs2_cons oj obs2_nil))))))

end Go.AM

/-
  The document's ReadHead: its loop; both functions' answers.
-/
set_option linter.unusedVariables false
set_option linter.unusedSimpArgs false
namespace Go.AM
open Go.Proofs Go.RowKit

def Inv14 (ws : List (List UInt8)) (H : Heap) (vs : Nat → V) (ls : Nat → List Int) : Prop := Own 1 H vs ls ∧ H.get 0 = some (.cells false 9 (ws.map V.str))

theorem kO14_ok {X : Ext} {k i : Nat} {x : List UInt8} {H : Heap} {kk : Nat} (h : kindOf x = some kk) (o2 : (iaG k (i : Nat) i).ok Tryz.prog X) (o3 : ∀ y, (ldS H y 0 i x).ok Tryz.prog X) : Obs2 Tryz.prog X (kO14 k i (i : Nat) x H kk) := by
  unfold kindOf at h
  split at h
  · rename_i e; cases h; subst e
    exact obs2_cons o2 (obs2_cons (o3 _) (obs2_cons (okSe (by decide)) obs2_nil))
  · split at h
    · rename_i e; cases h; subst e
      exact obs2_cons o2 (obs2_cons (o3 _) (obs2_cons (okSe (by decide)) (obs2_cons o2 (obs2_cons (o3 _) (obs2_cons (okSe (by decide)) obs2_nil)))))
    · split at h
      · rename_i e; cases h; subst e
        exact obs2_cons o2 (obs2_cons (o3 _) (obs2_cons (okSe (by decide)) (obs2_cons o2 (obs2_cons (o3 _) (obs2_cons (okSe (by decide)) (obs2_cons o2 (obs2_cons (o3 _) (obs2_cons (okSe (by decide)) obs2_nil))))))))
      · cases h

theorem g14_rounds (m : Nat) (ws : List (List UInt8)) (hW : ws.length ≤ 2097154) : ∀ (l : List (List UInt8)) (i c : Nat) (vs : Nat → V) (ls : Nat → List Int) (H : Heap), ws.drop i = l → i + l.length = ws.length → c ≤ 2 → (∀ j, (ls j).length ≤ i) → Inv14 ws H vs ls →
    match rdW l c ls with
    | some (c', ls') => ∃ vs' H', c' ≤ 2 ∧ Inv14 ws H' vs' ls' ∧ ∀ (t : List V) (fuel : Nat), l.length < fuel → t.length = 98 → proj gKs t = gVs ws.length vs (c : Nat) (i : Nat) →
        ∃ t', rounds (exec Tryz.prog (callN Tryz.prog XS m) [2, 5] m gBody) fuel ⟨t, H⟩ = some (.exit 0, ⟨t', H'⟩) ∧ t'.length = 98 ∧ proj gKs t' = gVs ws.length vs' (c' : Nat) (ws.length : Nat)
    | none => ∃ H', ∀ (t : List V) (fuel : Nat), l.length < fuel → t.length = 98 → proj gKs t = gVs ws.length vs (c : Nat) (i : Nat) →
        ∃ t', rounds (exec Tryz.prog (callN Tryz.prog XS m) [2, 5] m gBody) fuel ⟨t, H⟩ = some (.ret, ⟨t', H'⟩) ∧ t'.length = 98 ∧ proj [2, 3] t' = [.box nil4, .bool false] := by
  intro l
  induction l with
  | nil =>
    intro i c vs ls H hd hi hc hl hI
    simp at hi
    subst hi
    refine ⟨vs, H, hc, hI, ?_⟩
    intro t fuel hf ht hp
    obtain ⟨f, rfl⟩ : ∃ f, fuel = f + 1 := ⟨fuel - 1, by omega⟩
    have hr := g14_x m ws.length (c : Nat) (ws.length : Nat) H t vs
    rw [norm_zip ht hp] at hr
    obtain ⟨t', e1, e2, e3⟩ := code_of_tell hr (obs2_cons (okIlt (by simp)) obs2_nil)
    exact ⟨t', by simp only [rounds, e1], e2, e3⟩
  | cons x l ih =>
    intro i c vs ls H hd hi hc hl hI
    have hk : ws[i]? = some x := by
      have := congrArg List.head? hd
      simpa using this
    have hd' : ws.drop (i + 1) = l := by
      have : (ws.drop i).tail = l := by rw [hd]; rfl
      simpa using this
    rw [List.length_cons] at hi
    obtain ⟨hO, hS⟩ := hI
    have hM : Mk c := by unfold Mk; omega
    have o1 : (obI .lss (i : Nat) ws.length true).ok Tryz.prog XS := okIlt (by simp; omega)
    have o2 : (iaG ws.length (i : Nat) i).ok Tryz.prog XS := okIb (X := XS) 0 ws.length i none (by omega)
    have o3 : ∀ y, (ldS H y 0 i x).ok Tryz.prog XS := fun y => okLdx agg9 hS (by simp [hk])
    have oj : (addO (i : Nat) ((i + 1 : Nat) : Int)).ok Tryz.prog XS := okInc' i (by omega)
    have glue : ∀ (c' : Nat) (vs' : Nat → V) (ls' : Nat → List Int) (H1 : Heap), c' ≤ 2 → (∀ j, (ls' j).length ≤ i + 1) → Inv14 ws H1 vs' ls' →
        (∀ t : List V, t.length = 98 → proj gKs t = gVs ws.length vs (c : Nat) (i : Nat) → ∃ t', exec Tryz.prog (callN Tryz.prog XS m) [2, 5] m gBody ⟨t, H⟩ = some (.normal, ⟨t', H1⟩) ∧ t'.length = 98 ∧ proj gKs t' = gVs ws.length vs' (c' : Nat) ((i + 1 : Nat) : Int)) →
        rdW (x :: l) c ls = rdW l c' ls' →
        match rdW (x :: l) c ls with
        | some (c', ls') => ∃ vs' H', c' ≤ 2 ∧ Inv14 ws H' vs' ls' ∧ ∀ (t : List V) (fuel : Nat), (x :: l).length < fuel → t.length = 98 → proj gKs t = gVs ws.length vs (c : Nat) (i : Nat) →
            ∃ t', rounds (exec Tryz.prog (callN Tryz.prog XS m) [2, 5] m gBody) fuel ⟨t, H⟩ = some (.exit 0, ⟨t', H'⟩) ∧ t'.length = 98 ∧ proj gKs t' = gVs ws.length vs' (c' : Nat) (ws.length : Nat)
        | none => ∃ H', ∀ (t : List V) (fuel : Nat), (x :: l).length < fuel → t.length = 98 → proj gKs t = gVs ws.length vs (c : Nat) (i : Nat) →
            ∃ t', rounds (exec Tryz.prog (callN Tryz.prog XS m) [2, 5] m gBody) fuel ⟨t, H⟩ = some (.ret, ⟨t', H'⟩) ∧ t'.length = 98 ∧ proj [2, 3] t' = [.box nil4, .bool false] := by
      intro c' vs' ls' H1 hc' hl' hI' hstep he
      rw [he]
      have := ih (i + 1) c' vs' ls' H1 hd' (by omega) hc' hl' hI'
      split at this
      · rename_i r c2 ls2 hrd
        obtain ⟨vs2, H2, g1, g2, g⟩ := this
        refine ⟨vs2, H2, g1, g2, fun t fuel hf ht hp => ?_⟩
        obtain ⟨f, rfl⟩ : ∃ f, fuel = f + 1 := ⟨fuel - 1, by omega⟩
        obtain ⟨t', e1, e2, e3⟩ := hstep t ht hp
        obtain ⟨t2, q1, q2, q3⟩ := g t' f (by simp at hf; omega) e2 e3
        exact ⟨t2, by simp only [rounds, e1]; exact q1, q2, q3⟩
      · rename_i r hrd
        obtain ⟨H2, g⟩ := this
        refine ⟨H2, fun t fuel hf ht hp => ?_⟩
        obtain ⟨f, rfl⟩ : ∃ f, fuel = f + 1 := ⟨fuel - 1, by omega⟩
        obtain ⟨t', e1, e2, e3⟩ := hstep t ht hp
        obtain ⟨t2, q1, q2, q3⟩ := g t' f (by simp at hf; omega) e2 e3
        exact ⟨t2, by simp only [rounds, e1]; exact q1, q2, q3⟩
    by_cases h1 : x = sAr ∧ c = 0
    · obtain ⟨hx, rfl⟩ := h1
      refine glue 1 vs ls H (by omega) (fun j => Nat.le_succ_of_le (hl j)) ⟨hO, hS⟩ (fun t ht hp => ?_) (by simp only [rdW]; rw [if_pos (by simp [hx])])
      have hr := g14_m1 m ws.length i (i : Nat) ((i + 1 : Nat) : Int) x H t vs
      have hp : proj gKs t = gVs ws.length vs 0 (i : Nat) := hp
      rw [norm_zip ht hp] at hr
      exact code_of_tell hr (obs2_cons o1 (obs2_cons o2 (obs2_cons (o3 _) (obs2_cons (okSe (seq_true hx)) (obs2_cons oj obs2_nil)))))
    by_cases h2 : x = sSe ∧ c = 1
    · obtain ⟨hx, rfl⟩ := h2
      have hxa : x ≠ sAr := by rw [hx]; decide
      refine glue 2 vs ls H (by omega) (fun j => Nat.le_succ_of_le (hl j)) ⟨hO, hS⟩ (fun t ht hp => ?_) (by simp only [rdW]; rw [if_pos (by simp [hx])])
      have hr := g14_m2 m ws.length i (i : Nat) ((i + 1 : Nat) : Int) x H t vs
      have hp : proj gKs t = gVs ws.length vs 1 (i : Nat) := hp
      rw [norm_zip ht hp] at hr
      exact code_of_tell hr (obs2_cons o1 (obs2_cons o2 (obs2_cons (o3 _) (obs2_cons (okSe (seq_false hxa)) (obs2_cons o2 (obs2_cons (o3 _) (obs2_cons (okSe (seq_true hx)) (obs2_cons oj obs2_nil))))))))
    have hno : ¬ ((x = sAr ∧ c = 0) ∨ (x = sSe ∧ c = 1)) := fun h => h.elim h1 h2
    cases hkd : kindOf x with
    | none =>
      obtain ⟨n1, n2, n3⟩ := kindOf_none hkd
      have he : rdW (x :: l) c ls = none := by simp only [rdW]; rw [if_neg hno, hkd]
      rw [he]
      have q1 : (obS .eql x kI false).ok Tryz.prog XS := okSe (seq_false n1)
      have q2 : (obS .eql x kB false).ok Tryz.prog XS := okSe (seq_false n2)
      have q3 : (obS .eql x kO false).ok Tryz.prog XS := okSe (seq_false n3)
      have tail := obs2_cons o2 (obs2_cons (o3 53) (obs2_cons q1 (obs2_cons o2 (obs2_cons (o3 66) (obs2_cons q2 (obs2_cons o2 (obs2_cons (o3 79) (obs2_cons q3 obs2_nil))))))))
      refine ⟨H, fun t fuel hf ht hp => ?_⟩
      obtain ⟨f, rfl⟩ : ∃ f, fuel = f + 1 := ⟨fuel - 1, by omega⟩
      by_cases ha : x = sAr
      · have hc0 : c ≠ 0 := fun e => h1 ⟨ha, e⟩
        have hxs : x ≠ sSe := by rw [ha]; decide
        have hr := g14_fb m ws.length i (i : Nat) x H t vs c (by omega)
        rw [norm_zip ht hp] at hr
        obtain ⟨t', e1, e2, e3⟩ := code_of_tell hr (obs2_cons o1 (obs2_cons o2 (obs2_cons (o3 _) (obs2_cons (okSe (seq_true ha)) (obs2_cons o2 (obs2_cons (o3 _) (obs2_cons (okSe (seq_false hxs)) tail)))))))
        exact ⟨t', by simp only [rounds, e1], e2, e3⟩
      · by_cases hs : x = sSe
        · have hc1 : c ≠ 1 := fun e => h2 ⟨hs, e⟩
          have hr := g14_fc m ws.length i (i : Nat) x H t vs c (by omega)
          rw [norm_zip ht hp] at hr
          obtain ⟨t', e1, e2, e3⟩ := code_of_tell hr (obs2_cons o1 (obs2_cons o2 (obs2_cons (o3 _) (obs2_cons (okSe (seq_false ha)) (obs2_cons o2 (obs2_cons (o3 _) (obs2_cons (okSe (seq_true hs)) tail)))))))
          exact ⟨t', by simp only [rounds, e1], e2, e3⟩
        · have hr := g14_fa m ws.length i (i : Nat) x H t vs c hM
          rw [norm_zip ht hp] at hr
          obtain ⟨t', e1, e2, e3⟩ := code_of_tell hr (obs2_cons o1 (obs2_cons o2 (obs2_cons (o3 _) (obs2_cons (okSe (seq_false ha)) (obs2_cons o2 (obs2_cons (o3 _) (obs2_cons (okSe (seq_false hs)) tail)))))))
          exact ⟨t', by simp only [rounds, e1], e2, e3⟩
    | some kk =>
      obtain ⟨hK, ha, hs⟩ := kindOf_some hkd
      have he : rdW (x :: l) c ls = rdW l c (addC c kk ls) := by simp only [rdW]; rw [if_neg hno, hkd]
      have hlc := hl c
      have op := obs2_cons o1 (obs2_cons o2 (obs2_cons (o3 30) (obs2_cons (okSe (seq_false ha)) (obs2_cons o2 (obs2_cons (o3 40) (obs2_cons (okSe (seq_false hs)) obs2_nil))))))
      rcases own_push (X := XS) c kk hO (by omega) with ⟨e1, p1, p2, p3⟩ | ⟨b, l', q, row, e1, p1, p2, p3⟩
      · refine glue c _ _ (gApN H kk) hc (len_addC hl) ⟨p2, by rw [p3 0 (by omega)]; exact hS⟩ (fun t ht hp => ?_) he
        have hr := g14_N m ws.length i (i : Nat) ((i + 1 : Nat) : Int) x H t vs c kk hM hK
        rw [upd_same vs c e1, norm_zip ht hp] at hr
        exact code_of_tell hr (obs2_append op (obs2_append (kO14_ok hkd o2 o3) (obs2_cons p1 (obs2_cons oj obs2_nil))))
      · refine glue c _ _ (gApD H kk b row) hc (len_addC hl) ⟨p2, by rw [p3 0 (by omega)]; exact hS⟩ (fun t ht hp => ?_) he
        have hr := g14_D m ws.length i (i : Nat) ((i + 1 : Nat) : Int) x H t vs row b l' q c kk hM hK
        rw [upd_same vs c e1, norm_zip ht hp] at hr
        exact code_of_tell hr (obs2_append op (obs2_append (kO14_ok hkd o2 o3) (obs2_cons p1 (obs2_cons oj obs2_nil))))

end Go.AM

/-
  ReadHead and the document's ReadHead: what they answer.
-/
set_option linter.unusedVariables false
set_option linter.unusedSimpArgs false
namespace Go.AM
open Go.Proofs Go.RowKit

theorem wordsG_count : ∀ (l cur : List UInt8), (wordsG l cur).length ≤ l.length + 1
  | [], cur => by simp [wordsG]
  | c :: l, cur => by
    unfold wordsG
    split
    · have := wordsG_count l []
      simp; omega
    · have := wordsG_count l (cur ++ [c])
      simp; omega
theorem wordsG_cons : ∀ (l cur : List UInt8), ∃ x r, wordsG l cur = x :: r
  | [], cur => ⟨cur, [], rfl⟩
  | c :: l, cur => by
    unfold wordsG
    split
    · exact ⟨_, _, rfl⟩
    · exact wordsG_cons l _

def lv (l : List Int) : Option (List V) := if l = [] then none else some (l.map i64)
theorem lv_flat {l : List Int} {r : List V} (h : lv l = some r) : flats r = true := by
  unfold lv at h
  split at h
  · cases h
  · cases h; exact ints_flat l

theorem Lst.sv {N0 : Nat} {H : Heap} {v : V} {l : List Int} (h : Lst N0 H v l) : ∃ b : Nat, v = svO (lv l) b ∧ (∀ row, lv l = some row → v = sN b row.length ∧ H.get b = some (.cells false 3 row)) := by
  rcases h with ⟨rfl, rfl⟩ | ⟨h1, b, rfl, h2, h3, h4⟩
  · exact ⟨0, rfl, fun row h => by simp [lv] at h⟩
  · refine ⟨b, by simp [lv, h1, svO], fun row h => ?_⟩
    simp only [lv, if_neg h1, Option.some.injEq] at h
    subst h
    exact ⟨by simp, h4⟩

/-- What a reader of heads answers: whether it is one, and the three lists. -/
abbrev Out3 := Bool × List Int × List Int × List Int
def out13 (ws : List (List UInt8)) : Out3 := match ws with
  | [] => (false, [], [], [])
  | x :: r => if 67 < r.length + 1 then (false, [], [], []) else match rdW r 0 (fun _ => []) with
    | none => (false, [], [], [])
    | some (c, ls) => (decide (x = sFunc ∧ c = 2), ls 0, ls 1, ls 2)
def out14 (ws : List (List UInt8)) : Out3 := match ws with
  | [] => (false, [], [], [])
  | x :: r => if x ≠ sFunc ∨ 67 < r.length + 1 then (false, [], [], []) else match rdW r 0 (fun _ => []) with
    | none => (false, [], [], [])
    | some (c, ls) => (decide (c = 2), ls 0, ls 1, ls 2)

/-- A run that tells a record and whether it is one. -/
def Runs3 (f : FuncId) (s : List UInt8) (o : Out3) : Prop := ∃ (n : Nat) (H' : Heap) (b1 b2 b3 : Id), callN Tryz.prog XS n f [.str s] h0 = some (recV (lv o.2.1) (lv o.2.2.1) (lv o.2.2.2) b1 b2 b3 o.1, H') ∧
  (∀ x ∈ [nb (lv o.2.1) b1, nb (lv o.2.2.1) b2, nb (lv o.2.2.2) b3], ∀ ty row, x.1 = some (ty, row) → H'.get x.2 = some (.cells false ty row) ∧ flats row = true) ∧ (newIds [nb (lv o.2.1) b1, nb (lv o.2.2.1) b2, nb (lv o.2.2.2) b3]).Nodup

theorem runs_none {f : FuncId} {s : List UInt8} {n : Nat} {H' : Heap} (h : callN Tryz.prog XS n f [.str s] h0 = some (no4, H')) : Runs3 f s (false, [], [], []) :=
  ⟨n, H', 0, 0, 0, h, (by
    intro x hx ty row e
    simp only [List.mem_cons, List.not_mem_nil, or_false] at hx
    rcases hx with rfl | rfl | rfl <;> cases e), by decide⟩

theorem runs_some {f : FuncId} {s : List UInt8} {n N0 : Nat} {H G : Heap} {vs : Nat → V} {ls : Nat → List Int} {ok : Bool} (hO : Own N0 G vs ls) (hG : ∀ b, H.get b = G.get b)
    (h : callN Tryz.prog XS n f [.str s] h0 = some (.tup [.agg [vs 0, vs 1, vs 2, .nilslice], .bool ok], H)) : Runs3 f s (ok, ls 0, ls 1, ls 2) := by
  obtain ⟨b1, e1, g1⟩ := (hO.each 0).sv
  obtain ⟨b2, e2, g2⟩ := (hO.each 1).sv
  obtain ⟨b3, e3, g3⟩ := (hO.each 2).sv
  refine ⟨n, H, b1, b2, b3, by rw [h, e1, e2, e3]; rfl, ?_, ?_⟩
  · intro x hx ty row e
    simp only [List.mem_cons, List.not_mem_nil, or_false] at hx
    rw [hG]
    rcases hx with rfl | rfl | rfl
    · simp only [nb, Option.map_eq_some_iff, Prod.mk.injEq] at e
      obtain ⟨r, hr, rfl, rfl⟩ := e
      exact ⟨(g1 _ hr).2, lv_flat hr⟩
    · simp only [nb, Option.map_eq_some_iff, Prod.mk.injEq] at e
      obtain ⟨r, hr, rfl, rfl⟩ := e
      exact ⟨(g2 _ hr).2, lv_flat hr⟩
    · simp only [nb, Option.map_eq_some_iff, Prod.mk.injEq] at e
      obtain ⟨r, hr, rfl, rfl⟩ := e
      exact ⟨(g3 _ hr).2, lv_flat hr⟩
  · cases l1 : lv (ls 0) with
    | none =>
      cases l2 : lv (ls 1) with
      | none => cases l3 : lv (ls 2) <;> simp [nb, newIds]
      | some r2 =>
        cases l3 : lv (ls 2) with
        | none => simp [nb, newIds]
        | some r3 =>
          have := hO.ne 1 2 b2 b3 _ _ (by decide) (g2 _ l2).1 (g3 _ l3).1
          simp [nb, newIds, this]
    | some r1 =>
      cases l2 : lv (ls 1) with
      | none =>
        cases l3 : lv (ls 2) with
        | none => simp [nb, newIds]
        | some r3 =>
          have := hO.ne 0 2 b1 b3 _ _ (by decide) (g1 _ l1).1 (g3 _ l3).1
          simp [nb, newIds, this]
      | some r2 =>
        have h12 := hO.ne 0 1 b1 b2 _ _ (by decide) (g1 _ l1).1 (g2 _ l2).1
        cases l3 : lv (ls 2) with
        | none => simp [nb, newIds, h12]
        | some r3 =>
          have h13 := hO.ne 0 2 b1 b3 _ _ (by decide) (g1 _ l1).1 (g3 _ l3).1
          have h23 := hO.ne 1 2 b2 b3 _ _ (by decide) (g2 _ l2).1 (g3 _ l3).1
          simp [nb, newIds, h12, h13, h23]

theorem okSpl {s : List UInt8} (hs : s.length ≤ 2097152) : (spl s (wordsG s []).length ((wordsG s []).map V.str)).ok Tryz.prog XS := by
  refine ⟨splitE, rfl, ?_⟩
  show (if s.length ≤ 2097152 then _ else none) = _
  rw [if_pos hs]
  rfl
theorem okWds {s : List UInt8} (hs : s.length ≤ 2097152) : (wds s (wordsG s []).length ((wordsG s []).map V.str)).ok Tryz.prog XS := by
  refine ⟨wordsE, rfl, ?_⟩
  show (if s.length ≤ 2097152 then _ else none) = _
  rw [if_pos hs]
theorem okSlw {X : Ext} (n : Nat) : (slw (n + 1) n).ok Tryz.prog X := by
  intro h
  have hu : Tryz.prog.underlying 37 = some (.slice 9) := Tryz.underlying37
  have hs : szOf Tryz.prog 9 = some 1 := by kernel_rfl
  unfold sliceV
  simp only [hu, hs, bounds, bound]
  have e1 : (0 : Int) ≤ 1 ∧ (1 : Int) ≤ ((n + 1 : Nat) : Int) := by omega
  have e2 : (1 : Int) ≤ (n : Int) + 1 := by omega
  simp [e1, e2]

theorem own_start {N0 : Nat} {H : Heap} (h : N0 ≤ H.next) : Own N0 H noV (fun _ => []) := ⟨fun i => .inl ⟨rfl, rfl⟩, (fun i j b b' n n' _ hi => by cases hi), h⟩

theorem head13 (s : List UInt8) (hs : s.length ≤ 2097152) : Runs3 13 s (out13 (wordsG s [])) := by
  have hc := wordsG_count s []
  obtain ⟨x, r, hw⟩ := wordsG_cons s []
  have o1 := okSpl hs
  rw [hw] at o1 hc ⊢
  simp only [List.length_cons] at hc o1
  have hg1 : (Hs ((x :: r).map V.str)).get 1 = some (.cells false 9 ((x :: r).map V.str)) := Heap.get_alloc_same _ _
  simp only [out13]
  by_cases hl : 67 < r.length + 1
  · rw [if_pos hl]
    exact runs_none (run_heap (r13_long 0 (r.length + 1) s ((x :: r).map V.str)) (obs2_cons o1 (obs2_cons (okIgt (by simp; omega)) obs2_nil)))
  · rw [if_neg hl]
    have o2 : (obI .gtr ((r.length + 1 : Nat) : Int) 67 false).ok Tryz.prog XS := okIgt (by simp; omega)
    have o3 := okSlw (X := XS) r.length
    have key := r13_rounds (r.length + 1) (r.length + 1) x r (by omega) r 0 0 noV (fun _ => []) (Hs ((x :: r).map V.str)) rfl (by simp) (by omega) (fun j => by simp) ⟨own_start (Nat.le_refl 2), rfl, hg1⟩
    cases hrd : rdW r 0 (fun _ => []) with
    | none =>
      rw [hrd] at key
      obtain ⟨G, g⟩ := key
      exact runs_none (run_heap (r13_ret (r.length + 5) (r.length + 1) r.length s ((x :: r).map V.str) _ G) (obs2_cons o1 (obs2_cons o2 (obs2_cons o3 (obs2_cons (ok_loop (fun t ht hp => g t _ (by omega) ht hp)) obs2_nil)))))
    | some cl =>
      obtain ⟨c, ls⟩ := cl
      rw [hrd] at key
      obtain ⟨vs, G, hc2, ⟨hO, hR, hS⟩, g⟩ := key
      have o4 := ok_loop (P := Tryz.prog) (X := XS) (fun t ht hp => g t _ (show r.length < r.length + 1 + 6 by omega) ht hp)
      have o5 : (ia0 (r.length + 1)).ok Tryz.prog XS := by
        intro ts y
        have hu : Tryz.prog.underlying 37 = some (.slice 9) := Tryz.underlying37
        have hz : szOf Tryz.prog 9 = some 1 := by kernel_rfl
        unfold indexAddrV
        simp only [hu, hz]
        rw [if_pos (by omega)]
        simp
      have o6 : ∀ (H : Heap) (y : Nat), H.get 1 = G.get 1 → (ldS H y 1 0 x).ok Tryz.prog XS := fun H y e => okLdx (ro := false) (ty' := 9) (row := (x :: r).map V.str) agg9 (by rw [e]; exact hS) rfl
      have o7 : ∀ (H : Heap), H.get 0 = G.get 0 → (ldR H (.tmp 4) (ag (vs 0) (vs 1) (vs 2))).ok Tryz.prog XS := fun H e t => by
        have ha : isAggT Tryz.prog 32 = some true := by kernel_rfl
        have hz : szOf Tryz.prog 32 = some 4 := by kernel_rfl
        unfold loadV rowAt
        simp only [Heap.row, e, hR, Option.map_some, ha, hz]
        rfl
      simp only
      by_cases hx : x = sFunc
      · by_cases h2 : c = 2
        · have := runs_some hO (fun b => rfl) (run_heap (r13_e3 (r.length + 5) (r.length + 1) r.length s ((x :: r).map V.str) c (c : Nat) (r.length : Nat) _ G x (vs 0) (vs 1) (vs 2)) (obs2_cons o1 (obs2_cons o2 (obs2_cons o3 (obs2_cons o4 (obs2_cons o5 (obs2_cons (o6 G 70 rfl) (obs2_cons (okSn (by simp [hx])) (obs2_cons (okIne (by simp [h2])) (obs2_cons (o7 G rfl) obs2_nil))))))))))
          simpa [hx, h2] using this
        · have := runs_some hO (LOk_get 11 G) (run_heap (r13_e2 (r.length + 5) (r.length + 1) r.length s ((x :: r).map V.str) c (c : Nat) (r.length : Nat) _ G x (vs 0) (vs 1) (vs 2)) (obs2_cons o1 (obs2_cons o2 (obs2_cons o3 (obs2_cons o4 (obs2_cons o5 (obs2_cons (o6 G 70 rfl) (obs2_cons (okSn (by simp [hx])) (obs2_cons (okIne (by simp; omega)) (obs2_cons (o7 (up G) rfl) (obs2_cons o5 (obs2_cons (o6 (up (LOk 3 G)) 79 (LOk_get 3 G 1)) (obs2_cons (okSe (by simp [hx])) (obs2_cons (okIeq (by simp; omega)) obs2_nil))))))))))))))
          simpa [hx, h2] using this
      · have := runs_some hO (LOk_get 9 G) (run_heap (r13_e1 (r.length + 5) (r.length + 1) r.length s ((x :: r).map V.str) c (c : Nat) (r.length : Nat) _ G x (vs 0) (vs 1) (vs 2)) (obs2_cons o1 (obs2_cons o2 (obs2_cons o3 (obs2_cons o4 (obs2_cons o5 (obs2_cons (o6 G 70 rfl) (obs2_cons (okSn (by simp [hx])) (obs2_cons (o7 (up G) rfl) (obs2_cons o5 (obs2_cons (o6 (up (LOk 3 G)) 79 (LOk_get 3 G 1)) (obs2_cons (okSe (by simp [hx])) obs2_nil))))))))))))
        simpa [hx] using this

theorem head14 (s : List UInt8) (hs : s.length ≤ 2097152) : Runs3 14 s (out14 (wordsG s [])) := by
  have hc := wordsG_count s []
  obtain ⟨x, r, hw⟩ := wordsG_cons s []
  have o1 := okWds hs
  rw [hw] at o1 hc ⊢
  simp only [List.length_cons] at hc o1
  have hg0 : (Hw ((x :: r).map V.str)).get 0 = some (.cells false 9 ((x :: r).map V.str)) := Heap.get_alloc_same _ _
  have o2 : (iaG (r.length + 1) 0 0).ok Tryz.prog XS := okIb (X := XS) 0 (r.length + 1) 0 none (by omega)
  have o3 : (ldS (Hw ((x :: r).map V.str)) 11 0 0 x).ok Tryz.prog XS := okLdx agg9 hg0 rfl
  simp only [out14]
  by_cases hx : x = sFunc
  · have o4 : (obS .neq x sFunc false).ok Tryz.prog XS := okSn (by simp [hx])
    by_cases hl : 67 < r.length + 1
    · rw [if_pos (.inr hl)]
      exact runs_none (run_heap (g14_l 0 (r.length + 1) s x ((x :: r).map V.str)) (obs2_cons o1 (obs2_cons o2 (obs2_cons o3 (obs2_cons o4 (obs2_cons (okIgt (by simp; omega)) obs2_nil))))))
    · rw [if_neg (by simp [hx]; omega)]
      have o5 : (obI .gtr ((r.length + 1 : Nat) : Int) 67 false).ok Tryz.prog XS := okIgt (by simp; omega)
      have key := g14_rounds (r.length + 3) (x :: r) (by simp; omega) r 1 0 noV (fun _ => []) (Hw ((x :: r).map V.str)) rfl (by simp; omega) (by omega) (fun j => by simp) ⟨own_start (Nat.le_refl 1), hg0⟩
      cases hrd : rdW r 0 (fun _ => []) with
      | none =>
        rw [hrd] at key
        obtain ⟨G, g⟩ := key
        exact runs_none (run_heap (g14_r (r.length + 1) (r.length + 1) s x ((x :: r).map V.str) _ G) (obs2_cons o1 (obs2_cons o2 (obs2_cons o3 (obs2_cons o4 (obs2_cons o5 (obs2_cons (ok_loop (fun t ht hp => g t _ (by omega) ht hp)) obs2_nil)))))))
      | some cl =>
        obtain ⟨c, ls⟩ := cl
        rw [hrd] at key
        obtain ⟨vs, G, hc2, ⟨hO, hS⟩, g⟩ := key
        obtain ⟨b1, e1, _⟩ := (hO.each 0).sv
        obtain ⟨b2, e2, _⟩ := (hO.each 1).sv
        obtain ⟨b3, e3, _⟩ := (hO.each 2).sv
        have ev : gVs (r.length + 1) vs (c : Nat) ((r.length + 1 : Nat) : Int) = gVs (r.length + 1) (vs3 (lv (ls 0)) (lv (ls 1)) (lv (ls 2)) b1 b2 b3) (c : Nat) ((r.length + 1 : Nat) : Int) := by
          simp only [gVs, e1, e2, e3, vs3]
        have := runs_some hO (fun b => rfl) ((run_heap (g14_e (r.length + 1) (r.length + 1) s x ((x :: r).map V.str) _ G (lv (ls 0)) (lv (ls 1)) (lv (ls 2)) b1 b2 b3 (c : Nat) ((r.length + 1 : Nat) : Int) (decide (c = 2))) (obs2_cons o1 (obs2_cons o2 (obs2_cons o3 (obs2_cons o4 (obs2_cons o5 (obs2_cons (ok_loop (fun t ht hp => by
          have := g t _ (show r.length < r.length + 3 by omega) ht hp
          simp only [List.length_cons] at this
          rw [ev] at this
          exact this)) (obs2_cons (okIeq (by
            by_cases h : c = 2
            · simp [h]
            · simp [h]; omega)) obs2_nil)))))))).trans (by rw [e1, e2, e3]; rfl))
        exact this
  · rw [if_pos (.inl hx)]
    exact runs_none (run_heap (g14_w 0 (r.length + 1) s x ((x :: r).map V.str)) (obs2_cons o1 (obs2_cons o2 (obs2_cons o3 (obs2_cons (okSn (by simp [hx])) obs2_nil)))))

end Go.AM
