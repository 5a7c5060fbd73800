/-
  The machine's memory and temporaries against the model's world, and what keeps that.
-/
import Derived.Test.YtmokkkbbbmcjnaaGreatDoorAmRel
set_option linter.unusedSectionVars false
set_option linter.unusedSimpArgs false
set_option linter.unusedVariables false
namespace Go.AM

def NoFreeze (n : Nat) (fz : Nat × Nat) : Prop := ∀ i, i < n → ¬ (fz.1 ≤ i ∧ i < fz.2)

def isRw : Option Obj → Bool
  | some (.cells false _ _) | some (.map _) => true
  | _ => false
def isLive : Option Obj → Bool
  | some (.cells _ _ _) | some (.map _) => true
  | _ => false

theorem isLive_of_isRw {o : Option Obj} (h : isRw o = true) : isLive o = true := by
  cases o with
  | none => cases h
  | some o => cases o with
    | cells ro ty l => rfl
    | map l => rfl
    | dead => cases h

/-- A row of cells in the model's heap. -/
structure RowIn (E : Emb) (ro : Bool) (l : List V) (c o csz : Nat) (H : Array Go.Obj) : Prop where
  ex : ∃ arr ty fz, H[c]? = some (.cells arr ty fz) ∧ csz = arr.size ∧ o + l.length ≤ arr.size ∧ VRs E l ((arr.toList.drop o).take l.length) ∧
    (∀ y ∈ (arr.toList.drop o).take l.length, isCell y = true) ∧ (ro = false → NoFreeze arr.size fz)

/-- What is known of the world whoever runs: of blocks that nobody writes. -/
class Glob (P : Program) where
  ok : (Nat → Prop) → World → Prop
  same : ∀ {W : Nat → Prop} {w w' : World}, ok W w → w.heap.size ≤ w'.heap.size → (∀ c, ¬ W c → w'.heap[c]? = w.heap[c]?) → ok W w'
  sub : ∀ {W W' : Nat → Prop} {w : World}, ok W w → (∀ c, W' c → W c ∨ w.heap.size ≤ c) → ok W' w
  /-- A type of variables whose blocks we know to the cell (strings.Builder); no slice has such elements. -/
  bty : TypeId
  noslice : ∀ t, t < P.types.size → P.underlying t ≠ some (.slice bty)
  noint : ∀ k, P.underlying bty ≠ some (.int k)

theorem shape_of {w w' : World} {c : Nat} (e : w'.heap[c]? = w.heap[c]?) : w'.shape? c = w.shape? c := by unfold World.shape?; rw [e]

/-- Our memory 'g' (its next number 'nx'; numbers from 'lim' on are somebody else's) in the model's world. -/
structure HG (P : Program) [Glob P] (W : Nat → Prop) (lim : Nat) (E : Emb) (g : Id → Option Obj) (nx : Nat) (w : World) : Prop where
  lt : ∀ b, E.dom b → b < nx ∨ lim ≤ b
  size : ∀ b, E.dom b → (E.pl b).c < w.heap.size
  row : ∀ b ro ty l, E.dom b → g b = some (.cells ro ty l) → RowIn E ro l (E.pl b).c (E.pl b).o (E.pl b).csz w.heap
  own : ∀ b, E.dom b → isRw (g b) = true → W (E.pl b).c
  esz : ∀ b ro ty l, E.dom b → g b = some (.cells ro ty l) → (E.pl b).esz = (szOf P ty).getD 0
  inj : ∀ b b', E.dom b → E.dom b' → b ≠ b' → isRw (g b) = true → isLive (g b') = true → (E.pl b).c ≠ (E.pl b').c
  top : ∀ c, w.heap.size ≤ c → W c
  glob : Glob.ok P W w
  bld : ∀ b ty l, E.dom b → g b = some (.cells false ty l) → (E.pl b).o = 0 ∧ w.shape? (E.pl b).c = some (ty, (E.pl b).csz) ∧ (ty = Glob.bty P → (E.pl b).csz = l.length)

abbrev HR (P : Program) [Glob P] (W : Nat → Prop) (lim : Nat) (E : Emb) (h : Heap) (w : World) : Prop := HG P W lim E h.get h.next w

def TR (E : Emb) (lam : Tmp → Nat) (t : List V) (i : Nat) (v : V) (x : Value) : Prop :=
  match v with
  | .box _ => x = .pointer (some ⟨lam i, 0, none⟩)
  | .lref d off => (∃ l, t[d]? = some (.box l)) → x = .pointer (some ⟨lam d, off, none⟩)
  | .junk => True
  | v => VR E v x

structure SR (W : Nat → Prop) (E : Emb) (lam : Tmp → Nat) (t : List V) (w : World) (tmps : Array Value) : Prop where
  len : tmps.size = t.length
  val : ∀ i v, t[i]? = some v → ∃ x, tmps[i]? = some x ∧ TR E lam t i v x
  box : ∀ d l, t[d]? = some (.box l) → RowIn E false l (lam d) 0 l.length w.heap ∧ W (lam d) ∧ lam d < w.heap.size
  dist : ∀ d d' l l', t[d]? = some (.box l) → t[d']? = some (.box l') → d ≠ d' → lam d ≠ lam d'
  apart : ∀ d l b, t[d]? = some (.box l) → E.dom b → lam d ≠ (E.pl b).c

structure StR (P : Program) [Glob P] (W : Nat → Prop) (lim : Nat) (E : Emb) (lam : Tmp → Nat) (s : St) (a : Act) (w : World) : Prop where
  hr : HR P W lim E s.h w
  sr : SR W E lam s.t w a.tmps
  dfr : a.defers = []

/-- Nothing else has turned. -/
structure Same (W : Nat → Prop) (w w' : World) : Prop where
  os : w'.os = w.os
  tape : w'.tape = w.tape
  output : w'.output = w.output
  size : w.heap.size ≤ w'.heap.size
  heap : ∀ c, ¬ W c → w'.heap[c]? = w.heap[c]?

theorem Same.refl (W : Nat → Prop) (w : World) : Same W w w := ⟨rfl, rfl, rfl, Nat.le_refl _, fun _ _ => rfl⟩
theorem Same.trans {W : Nat → Prop} {a b c : World} (h : Same W a b) (h' : Same W b c) : Same W a c :=
  ⟨h'.os.trans h.os, h'.tape.trans h.tape, h'.output.trans h.output, Nat.le_trans h.size h'.size, fun k hk => (h'.heap k hk).trans (h.heap k hk)⟩
theorem Same.weaken {W W' : Nat → Prop} {a b : World} (h : Same W a b) (hw : ∀ c, W c → W' c) : Same W' a b :=
  ⟨h.os, h.tape, h.output, h.size, fun k hk => h.heap k (fun hc => hk (hw k hc))⟩

/-! ### Same heap, other count of draws -/

theorem HR.heap {P : Program} [Glob P] {W : Nat → Prop} {lim : Nat} {E : Emb} {h : Heap} {w w' : World} (H : HR P W lim E h w) (e : w'.heap = w.heap) : HR P W lim E h w' :=
  ⟨H.lt, by rw [e]; exact H.size, by rw [e]; exact H.row, H.own, H.esz, H.inj, by rw [e]; exact H.top, Glob.same H.glob (by rw [e]; exact Nat.le_refl _) (fun c _ => by rw [e]), fun b ty l hb hg => by rw [shape_of (w := w) (w' := w') (by rw [e])]; exact H.bld b ty l hb hg⟩
theorem SR.heap {W : Nat → Prop} {E : Emb} {lam : Tmp → Nat} {t : List V} {w w' : World} {tm : Array Value} (H : SR W E lam t w tm) (e : w'.heap = w.heap) : SR W E lam t w' tm :=
  ⟨H.len, H.val, by rw [e]; exact H.box, H.dist, H.apart⟩
theorem Same.draw (W : Nat → Prop) (w : World) (n : Nat) : Same W w { w with drawn := n } := ⟨rfl, rfl, rfl, Nat.le_refl _, fun _ _ => rfl⟩

/-- Only 'lo' differs. -/
theorem HR.lo {P : Program} [Glob P] {W : Nat → Prop} {lim : Nat} {E : Emb} {h : Heap} {w : World} (H : HR P W lim E h w) (n : Nat) : HR P W lim E { h with lo := n } w :=
  ⟨H.lt, H.size, H.row, H.own, H.esz, H.inj, H.top, H.glob, H.bld⟩

/-! ### Rows -/

theorem RowIn.mono {E E' : Emb} {ro : Bool} {l : List V} {c o csz : Nat} {H : Array Go.Obj} (h : RowIn E ro l c o csz H) (he : E.le E') : RowIn E' ro l c o csz H := by
  obtain ⟨arr, ty, fz, h1, h2, h3, h4, h5, h6⟩ := h.ex
  exact ⟨arr, ty, fz, h1, h2, h3, VRs.mono he _ _ h4, h5, h6⟩

theorem RowIn.of_eq {E : Emb} {ro : Bool} {l : List V} {c o csz : Nat} {H H' : Array Go.Obj} (h : RowIn E ro l c o csz H) (e : H'[c]? = H[c]?) : RowIn E ro l c o csz H' := by
  obtain ⟨arr, ty, fz, h1, hr⟩ := h.ex
  exact ⟨arr, ty, fz, by rw [e]; exact h1, hr⟩

/-- A cell of a row, as the model reads it. -/
theorem RowIn.cell {E : Emb} {ro : Bool} {l : List V} {c o csz : Nat} {w : World} (h : RowIn E ro l c o csz w.heap) (i : Nat) (v : V) (hv : l[i]? = some v) :
    ∃ x, w.cell? ⟨c, o + i, none⟩ = some x ∧ VR E v x ∧ isCell x = true := by
  obtain ⟨arr, ty, fz, h1, h2, h3, h4, h5, h6⟩ := h.ex
  obtain ⟨x, hx, hr⟩ := h4.get i v hv
  have hi : i < l.length := by
    rcases Nat.lt_or_ge i l.length with h' | h'
    · exact h'
    · rw [List.getElem?_eq_none h'] at hv; cases hv
  refine ⟨x, ?_, hr, h5 x (List.mem_of_getElem? hx)⟩
  simp only [World.cell?, h1]
  rw [List.getElem?_take, if_pos hi, List.getElem?_drop] at hx
  simpa using hx

/-- A stretch of cells, as the model reads it. -/
theorem RowIn.cells {E : Emb} {ro : Bool} {l : List V} {c o csz : Nat} {w : World} (P : Program) (h : RowIn E ro l c o csz w.heap) (off n : Nat) (hn : off + n ≤ l.length) :
    ∃ xs : List Value, xs.length = n ∧ (loadCells ⟨c, o + off, none⟩ n).run P w = .ok xs.toArray w ∧ VRs E ((l.drop off).take n) xs ∧ ∀ y ∈ xs, isCell y = true := by
  obtain ⟨arr, ty, fz, h1, h2, h3, h4, h5, h6⟩ := h.ex
  refine ⟨(((arr.toList.drop o).take l.length).drop off).take n, ?_, ?_, (h4.drop off).take n, fun y hy => h5 y (List.mem_of_mem_drop (List.mem_of_mem_take hy))⟩
  · simp only [List.length_take, List.length_drop, Array.length_toList]; omega
  · have e := run_loadCells_list (P := P) w ⟨c, o + off, none⟩ ((((arr.toList.drop o).take l.length).drop off).take n) (fun j v hj => by
      have hadd : (⟨c, o + off, none⟩ : Addr).add j = ⟨c, o + off + j, none⟩ := by unfold Addr.add; split <;> simp_all
      rw [hadd]
      simp only [World.cell?, h1]
      rw [List.getElem?_take] at hj
      split at hj
      · rw [List.getElem?_drop, List.getElem?_take] at hj
        split at hj
        · rw [List.getElem?_drop] at hj
          simpa [Nat.add_assoc] using hj
        · cases hj
      · cases hj)
    have hl : ((((arr.toList.drop o).take l.length).drop off).take n).length = n := by
      simp only [List.length_take, List.length_drop, Array.length_toList]; omega
    rw [hl] at e
    exact e

/-! ### Storing into a row -/

def setRowAt (w : World) (c : Nat) (arr : Array Value) : World :=
  { w with heap := w.heap.modify c fun | .cells _ e f => .cells arr e f | o => o }

theorem setRowAt_heap (w : World) (c : Nat) (arr cur : Array Value) (ty : TypeId) (fz : Nat × Nat) (h : w.heap[c]? = some (.cells cur ty fz)) :
    (setRowAt w c arr).heap[c]? = some (.cells arr ty fz) := by
  simp [setRowAt, Array.getElem?_modify, h]
theorem setRowAt_other (w : World) (c k : Nat) (arr : Array Value) (h : k ≠ c) : (setRowAt w c arr).heap[k]? = w.heap[k]? := by
  simp only [setRowAt, Array.getElem?_modify]
  rw [if_neg (by omega)]
theorem setRowAt_size (w : World) (c : Nat) (arr : Array Value) : (setRowAt w c arr).heap.size = w.heap.size := by simp [setRowAt]

theorem setCell_eq (w : World) (c off : Nat) (cur : Array Value) (ty : TypeId) (fz : Nat × Nat) (v : Value) (h : w.heap[c]? = some (.cells cur ty fz)) :
    w.setCell ⟨c, off, none⟩ v = setRowAt w c (cur.setIfInBounds off v) := by
  have hlt : c < w.heap.size := (Array.getElem?_eq_some_iff.1 h).1
  have hv : w.heap[c] = .cells cur ty fz := (Array.getElem?_eq_some_iff.1 h).2
  unfold World.setCell setRowAt
  cases w with
  | mk heap tape drawn os output =>
    congr 1
    apply Array.ext
    · simp
    · intro k h1 h2
      simp only [Array.getElem_modify]
      split
      · rename_i hk; subst hk; simp at hv; simp [hv]
      · rfl

theorem setRowAt_twice (w : World) (c : Nat) (a b : Array Value) : setRowAt (setRowAt w c a) c b = setRowAt w c b := by
  unfold setRowAt
  cases w with
  | mk heap tape drawn os output =>
    congr 1
    apply Array.ext
    · simp
    · intro k h1 h2
      simp only [Array.getElem_modify]
      split
      · rename_i hk; subst hk
        generalize heap[c]'_ = z
        cases z <;> rfl
      · rfl

theorem setRowAt_self (w : World) (c : Nat) (cur : Array Value) (ty : TypeId) (fz : Nat × Nat) (h : w.heap[c]? = some (.cells cur ty fz)) : setRowAt w c cur = w := by
  have hlt : c < w.heap.size := (Array.getElem?_eq_some_iff.1 h).1
  have hv : w.heap[c] = .cells cur ty fz := (Array.getElem?_eq_some_iff.1 h).2
  unfold setRowAt
  cases w with
  | mk heap tape drawn os output =>
    congr 1
    apply Array.ext
    · simp
    · intro k h1 h2
      simp only [Array.getElem_modify]
      split
      · rename_i hk; subst hk; simp at hv; simp [hv]
      · rfl

theorem run_storeCells_nf (P : Program) (c o : Nat) (ty : TypeId) (fz : Nat × Nat) : ∀ (vs : List Value) (i : Nat) (cur : Array Value) (w : World), w.heap[c]? = some (.cells cur ty fz) → NoFreeze cur.size fz →
    o + i + vs.length ≤ cur.size → (∀ v ∈ vs, isCell v = true) →
    (storeCells ⟨c, o, none⟩ vs i).run P w = .ok () (setRowAt w c (cur.toList.take (o + i) ++ vs ++ cur.toList.drop (o + i + vs.length)).toArray)
  | [], i, cur, w, hg, _, _, _ => by
    simp only [storeCells, List.append_nil, List.length_nil, Nat.add_zero, List.take_append_drop, Array.toArray_toList]
    rw [setRowAt_self w c cur ty fz hg]
    rfl
  | v :: rest, i, cur, w, hg, hf, hl, h1 => by
    have hi : o + i < cur.size := by simp at hl; omega
    have hadd : (⟨c, o, none⟩ : Addr).add i = ⟨c, o + i, none⟩ := by unfold Addr.add; split <;> simp_all
    have hcell : w.cell? ⟨c, o + i, none⟩ = some cur[o + i] := by simp [World.cell?, hg, hi]
    have hfro : w.frozen? ⟨c, o + i, none⟩ = false := by
      have := hf (o + i) hi
      simp only [World.frozen?, hg]
      simp only [Bool.and_eq_false_iff, decide_eq_false_iff_not]
      omega
    have hst : (store ((⟨c, o, none⟩ : Addr).add i) v).run P w = .ok () (setRowAt w c (cur.setIfInBounds (o + i) v)) := by
      rw [hadd, run_store P w _ v _ (oneCell_of_isCell (h1 v (by simp))), hcell]
      simp [hfro, setCell_eq w c (o + i) cur ty fz v hg]
    have ih := run_storeCells_nf P c o ty fz rest (i + 1) (cur.setIfInBounds (o + i) v) (setRowAt w c (cur.setIfInBounds (o + i) v)) (setRowAt_heap w c _ cur ty fz hg)
      (by simpa using hf) (by simp at hl ⊢; omega) (fun x hx => h1 x (by simp [hx]))
    simp only [storeCells, Sem.run_bind, hst, Result.andThen_ok, ih, setRowAt_twice]
    congr 3
    have e := list_seg_step cur.toList (o + i) v rest (by simp at hl ⊢; omega)
    simpa [Array.toList_setIfInBounds, Nat.add_assoc] using e

/-- Storing cells into a row that may be written: the row behind it. -/
theorem RowIn.store {E : Emb} {l l' : List V} {c o csz : Nat} {w : World} (P : Program) (h : RowIn E false l c o csz w.heap) (off : Nat) (vs : List V) (xs : List Value)
    (hs : storeRow l off vs = some l') (hx : VRs E vs xs) (hc : ∀ y ∈ xs, isCell y = true) :
    ∃ arr, (storeCells ⟨c, o + off, none⟩ xs).run P w = .ok () (setRowAt w c arr) ∧ (∃ cur ty fz, w.heap[c]? = some (.cells cur ty fz)) ∧ RowIn E false l' c o csz (setRowAt w c arr).heap := by
  obtain ⟨arr, ty, fz, h1, h2, h3, h4, h5, h6⟩ := h.ex
  unfold storeRow at hs
  split at hs
  · rename_i hle
    simp only [Option.some.injEq] at hs
    have hxl := hx.length
    have hr := run_storeCells_nf P c (o + off) ty fz xs 0 arr w h1 (h6 rfl) (by omega) hc
    refine ⟨_, hr, ⟨arr, ty, fz, h1⟩, ?_⟩
    have hsz : ((arr.toList.take (o + off + 0) ++ xs ++ arr.toList.drop (o + off + 0 + xs.length)).toArray).size = arr.size := by
      simp only [List.size_toArray, List.length_append, List.length_take, List.length_drop, Array.length_toList]; omega
    have hl' : l'.length = l.length := by
      rw [← hs]; simp only [List.length_append, List.length_take, List.length_drop]; omega
    have e : (((arr.toList.take (o + off + 0) ++ xs ++ arr.toList.drop (o + off + 0 + xs.length)).toArray).toList.drop o).take l'.length =
        ((arr.toList.drop o).take l.length).take off ++ xs ++ ((arr.toList.drop o).take l.length).drop (off + vs.length) := by
      rw [hl']
      apply List.ext_getElem?
      intro j
      simp only [List.getElem?_take, List.getElem?_drop, List.getElem?_append, List.length_take, List.length_append, List.length_drop, Array.length_toList, Nat.add_zero]
      have m1 : min (o + off) arr.size = o + off := by omega
      have m2 : min off (min l.length (arr.size - o)) = off := by omega
      by_cases hj : j < l.length
      · simp only [hj, if_true, m1, m2]
        by_cases hj1 : j < off
        · simp only [hj1, if_true, show o + j < o + off + xs.length from by omega, show o + j < o + off from by omega, show j < off + xs.length from by omega]
        · by_cases hj2 : j < off + xs.length
          · simp only [hj1, hj2, if_true, if_false, show o + j < o + off + xs.length from by omega, show ¬ o + j < o + off from by omega]
            congr 1; omega
          · simp only [hj2, if_false, show ¬ o + j < o + off + xs.length from by omega, show off + vs.length + (j - (off + xs.length)) < l.length from by omega, if_true]
            congr 1; omega
      · simp only [hj, if_false]
        have : ¬ j < off := by omega
        have h3' : ¬ j < off + xs.length := by omega
        simp only [m2, h3', if_false]
        rw [if_neg (by omega)]
    refine ⟨_, ty, fz, setRowAt_heap w c _ arr ty fz h1, by rw [hsz]; exact h2, by rw [hsz, hl']; exact h3, ?_, ?_, fun _ => by rw [hsz]; exact h6 rfl⟩
    · rw [e, ← hs]
      exact ((h4.take off).append hx).append (h4.drop (off + vs.length))
    · rw [e]
      intro y hy
      simp only [List.mem_append] at hy
      rcases hy with (hy | hy) | hy
      · exact h5 y (List.mem_of_mem_take hy)
      · exact hc y hy
      · exact h5 y (List.mem_of_mem_drop hy)
  · cases hs

end Go.AM
