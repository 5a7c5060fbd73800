/-
  How the values and the memory of the machine (AmCore) lie in the model's world.
-/
import Derived.Test.YtmokkkbbbmcjnaaGreatDoorAmCore
import Derived.Calls
import Derived.Orders
import Derived.Laws.CopyRow
import Derived.Laws.Strings
import Derived.Laws.Slices
import Derived.Laws.AppendOwn
set_option linter.unusedSimpArgs false
set_option linter.unusedVariables false
namespace Go.AM

/-! ### The tree -/

theorem Tr.setF_get_same : ∀ (f : Nat) (t : Tr) (n : Nat) (x : Obj), n < f → (Tr.setF f t n x).get n = some x
  | 0, _, _, _, h => absurd h (by omega)
  | f + 1, .leaf, n, x, h => by
    cases n with
    | zero => rfl
    | succ m =>
      simp only [Tr.setF]
      split
      · rename_i hm; simp only [Tr.get, hm]; exact Tr.setF_get_same f .leaf (m / 2) x (by omega)
      · rename_i hm; simp only [Tr.get, hm]; exact Tr.setF_get_same f .leaf (m / 2) x (by omega)
  | f + 1, .node l v r, n, x, h => by
    cases n with
    | zero => rfl
    | succ m =>
      simp only [Tr.setF]
      split
      · rename_i hm; simp only [Tr.get, hm]; exact Tr.setF_get_same f l (m / 2) x (by omega)
      · rename_i hm; simp only [Tr.get, hm]; exact Tr.setF_get_same f r (m / 2) x (by omega)

theorem Tr.get_leaf (k : Nat) : Tr.leaf.get k = none := by cases k <;> rfl

theorem Tr.setF_get_ne : ∀ (f : Nat) (t : Tr) (n k : Nat) (x : Obj), n < f → k ≠ n → (Tr.setF f t n x).get k = t.get k
  | 0, _, _, _, _, h, _ => absurd h (by omega)
  | f + 1, .leaf, n, k, x, h, hk => by
    rw [Tr.get_leaf]
    cases n with
    | zero =>
      cases k with
      | zero => exact absurd rfl hk
      | succ j => simp only [Tr.setF, Tr.get, Tr.get_leaf]; split <;> rfl
    | succ m =>
      simp only [Tr.setF]
      split
      · rename_i hm
        cases k with
        | zero => rfl
        | succ j =>
          simp only [Tr.get]
          split
          · rename_i hj
            rw [Tr.setF_get_ne f .leaf (m / 2) (j / 2) x (by omega) (by omega)]; exact Tr.get_leaf _
          · first | rfl | exact Tr.get_leaf _
      · rename_i hm
        cases k with
        | zero => rfl
        | succ j =>
          simp only [Tr.get]
          split
          · first | rfl | exact Tr.get_leaf _
          · rename_i hj
            have h1 : m % 2 ≠ 0 := fun e => hm e
            have h2 : j % 2 ≠ 0 := fun e => hj e
            rw [Tr.setF_get_ne f .leaf (m / 2) (j / 2) x (by omega) (by omega)]; exact Tr.get_leaf _
  | f + 1, .node l v r, n, k, x, h, hk => by
    cases n with
    | zero =>
      cases k with
      | zero => exact absurd rfl hk
      | succ j => simp only [Tr.setF, Tr.get]
    | succ m =>
      simp only [Tr.setF]
      split
      · rename_i hm
        cases k with
        | zero => rfl
        | succ j =>
          simp only [Tr.get]
          split
          · exact Tr.setF_get_ne f l (m / 2) (j / 2) x (by omega) (by omega)
          · rfl
      · rename_i hm
        cases k with
        | zero => rfl
        | succ j =>
          simp only [Tr.get]
          split
          · rfl
          · rename_i hj
            have h1 : m % 2 ≠ 0 := fun e => hm e
            have h2 : j % 2 ≠ 0 := fun e => hj e
            exact Tr.setF_get_ne f r (m / 2) (j / 2) x (by omega) (by omega)

theorem Tr.get_set_same (t : Tr) (n : Nat) (x : Obj) : (t.set n x).get n = some x := Tr.setF_get_same _ _ _ _ (by omega)
theorem Tr.get_set_ne (t : Tr) (n k : Nat) (x : Obj) (h : k ≠ n) : (t.set n x).get k = t.get k := Tr.setF_get_ne _ _ _ _ _ (by omega) h

theorem Heap.get_lt {h : Heap} {b : Id} {x : Obj} (hg : h.get b = some x) : b < h.next := by
  unfold Heap.get at hg
  split at hg
  · assumption
  · cases hg
theorem Heap.get_ge {h : Heap} {b : Id} (hb : h.next ≤ b) : h.get b = none := by
  unfold Heap.get
  rw [if_neg (Nat.not_lt.2 hb)]
theorem Heap.get_set_same (h : Heap) (b : Id) (x : Obj) (hb : b < h.next) : (h.set b x).get b = some x := by
  unfold Heap.get Heap.set
  rw [if_pos hb]
  exact Tr.get_set_same _ _ _
theorem Heap.get_set_ne (h : Heap) (b k : Id) (x : Obj) (hk : k ≠ b) : (h.set b x).get k = h.get k := by
  unfold Heap.get Heap.set
  simp only [Tr.get_set_ne _ _ _ _ hk]
@[simp] theorem Heap.get_alloc_same (h : Heap) (x : Obj) : (h.alloc x).get h.next = some x := by
  unfold Heap.get Heap.alloc
  rw [if_pos (Nat.lt_succ_self _)]
  exact Tr.get_set_same _ _ _
theorem Heap.get_alloc_ne (h : Heap) (k : Id) (x : Obj) (hk : k ≠ h.next) : (h.alloc x).get k = h.get k := by
  unfold Heap.get Heap.alloc
  simp only [Tr.get_set_ne _ _ _ _ hk]
  by_cases hlt : k < h.next
  · rw [if_pos hlt, if_pos (Nat.lt_succ_of_lt hlt)]
  · rw [if_neg hlt, if_neg (fun h1 => hk (Nat.le_antisymm (Nat.le_of_lt_succ h1) (Nat.not_lt.1 hlt)))]
@[simp] theorem Heap.next_set (h : Heap) (b : Id) (x : Obj) : (h.set b x).next = h.next := rfl
@[simp] theorem Heap.next_alloc (h : Heap) (x : Obj) : (h.alloc x).next = h.next + 1 := rfl

/-! ### Where a block lies -/

/-- The model's block, the place in it where ours begins, its size, and the size of an element (for capacities). -/
structure Pl where
  c : Nat
  o : Nat
  csz : Nat
  esz : Nat

def Pl.cap (p : Pl) (off : Nat) : Nat := (p.csz - (p.o + off)) / p.esz
def Pl.addr (p : Pl) (off : Nat) : Addr := ⟨p.c, p.o + off, none⟩

structure Emb where
  dom : Id → Prop
  pl : Id → Pl

def Emb.le (E E' : Emb) : Prop := ∀ b, E.dom b → E'.dom b ∧ E'.pl b = E.pl b
theorem Emb.le_refl (E : Emb) : E.le E := fun _ h => ⟨h, rfl⟩
theorem Emb.le_trans {E E' E'' : Emb} (h : E.le E') (h' : E'.le E'') : E.le E'' := fun b hb =>
  ⟨(h' b (h b hb).1).1, ((h' b (h b hb).1).2).trans (h b hb).2⟩

mutual
def VR (E : Emb) : V → Value → Prop
  | .bool b, x => x = .bool b
  | .int k n, x => x = .int k n
  | .str l, x => x = .string ⟨⟨l⟩⟩
  | .ptr b off, x => E.dom b ∧ x = .pointer (some ((E.pl b).addr off))
  | .nilptr, x => x = .pointer none
  | .slice b off len (some k), x => E.dom b ∧ len ≤ k ∧ ∃ a, x = .slice (some a) len k ∧ (a = (E.pl b).addr off ∨ k = 0)
  | .slice b off len none, x => E.dom b ∧ len ≤ (E.pl b).cap off ∧ ∃ a, x = .slice (some a) len ((E.pl b).cap off) ∧ (a = (E.pl b).addr off ∨ (E.pl b).cap off = 0)
  | .nilslice, x => x = .slice none 0 0
  | .map b, x => E.dom b ∧ x = .map (some (E.pl b).c)
  | .nilmap, x => x = .map none
  | .func fn f c, x => ∃ f' c', x = .func fn ⟨f'⟩ ⟨c'⟩ ∧ VRs E f f' ∧ VRs E c c'
  | .nilfunc, x => x = .nilFunc
  | .iface t v, x => ∃ y, x = .iface t y ∧ VR E v y
  | .niliface, x => x = .nilIface
  | .agg l, x => ∃ l', x = .agg ⟨l'⟩ ∧ VRs E l l' ∧ ∀ y ∈ l', isCell y = true
  | .tup l, x => ∃ l', x = .tuple ⟨l'⟩ ∧ VRs E l l'
  | .box _, _ => False
  | .lref _ _, _ => False
  | .junk, _ => False
def VRs (E : Emb) : List V → List Value → Prop
  | [], l => l = []
  | v :: vs, l => ∃ y ys, l = y :: ys ∧ VR E v y ∧ VRs E vs ys
end

mutual
theorem VR.mono {E E' : Emb} (h : E.le E') : ∀ (v : V) (x : Value), VR E v x → VR E' v x
  | .bool _, _, hv | .int _ _, _, hv | .str _, _, hv | .nilptr, _, hv | .nilslice, _, hv | .nilmap, _, hv | .nilfunc, _, hv | .niliface, _, hv => by
    simpa only [VR] using hv
  | .ptr b off, x, hv => by simp only [VR] at hv ⊢; rw [(h b hv.1).2]; exact ⟨(h b hv.1).1, hv.2⟩
  | .slice b off len (some k), x, hv => by simp only [VR] at hv ⊢; rw [(h b hv.1).2]; exact ⟨(h b hv.1).1, hv.2⟩
  | .slice b off len none, x, hv => by simp only [VR] at hv ⊢; rw [(h b hv.1).2]; exact ⟨(h b hv.1).1, hv.2⟩
  | .map b, x, hv => by simp only [VR] at hv ⊢; rw [(h b hv.1).2]; exact ⟨(h b hv.1).1, hv.2⟩
  | .func fn f c, x, hv => by
    simp only [VR] at hv ⊢
    obtain ⟨f', c', e, h1, h2⟩ := hv
    exact ⟨f', c', e, VRs.mono h f f' h1, VRs.mono h c c' h2⟩
  | .iface t v, x, hv => by
    simp only [VR] at hv ⊢
    obtain ⟨y, e, h1⟩ := hv
    exact ⟨y, e, VR.mono h v y h1⟩
  | .agg l, x, hv => by
    simp only [VR] at hv ⊢
    obtain ⟨y, e, h1, h2⟩ := hv
    exact ⟨y, e, VRs.mono h l y h1, h2⟩
  | .tup l, x, hv => by
    simp only [VR] at hv ⊢
    obtain ⟨y, e, h1⟩ := hv
    exact ⟨y, e, VRs.mono h l y h1⟩
  | .box _, _, hv | .lref _ _, _, hv | .junk, _, hv => by simp only [VR] at hv
theorem VRs.mono {E E' : Emb} (h : E.le E') : ∀ (v : List V) (x : List Value), VRs E v x → VRs E' v x
  | [], _, hv => by simpa only [VRs] using hv
  | v :: vs, x, hv => by
    simp only [VRs] at hv ⊢
    obtain ⟨y, ys, e, h1, h2⟩ := hv
    exact ⟨y, ys, e, VR.mono h v y h1, VRs.mono h vs ys h2⟩
end

theorem VRs.length {E : Emb} : ∀ {v : List V} {x : List Value}, VRs E v x → x.length = v.length
  | [], _, h => by simp only [VRs] at h; rw [h]; rfl
  | v :: vs, x, h => by
    simp only [VRs] at h
    obtain ⟨y, ys, rfl, _, h2⟩ := h
    simp [h2.length]

theorem VRs.get {E : Emb} : ∀ {v : List V} {x : List Value}, VRs E v x → ∀ (i : Nat) (a : V), v[i]? = some a → ∃ y, x[i]? = some y ∧ VR E a y
  | [], _, _, i, a, ha => by simp at ha
  | v :: vs, x, h, i, a, ha => by
    simp only [VRs] at h
    obtain ⟨y, ys, rfl, h1, h2⟩ := h
    cases i with
    | zero => simp at ha; subst ha; exact ⟨y, rfl, h1⟩
    | succ i => simp at ha; obtain ⟨z, hz, h3⟩ := h2.get i a ha; exact ⟨z, by simpa using hz, h3⟩

theorem VRs.append {E : Emb} : ∀ {v : List V} {x : List Value} {u : List V} {y : List Value}, VRs E v x → VRs E u y → VRs E (v ++ u) (x ++ y)
  | [], _, _, _, h, h' => by simp only [VRs] at h; subst h; simpa using h'
  | v :: vs, x, u, z, h, h' => by
    simp only [VRs] at h
    obtain ⟨y, ys, rfl, h1, h2⟩ := h
    simp only [List.cons_append, VRs]
    exact ⟨y, ys ++ z, rfl, h1, h2.append h'⟩

theorem VRs.nil (E : Emb) : VRs E [] [] := rfl
theorem VRs.cons {E : Emb} {v : V} {x : Value} {vs : List V} {xs : List Value} (h : VR E v x) (h' : VRs E vs xs) : VRs E (v :: vs) (x :: xs) := ⟨x, xs, rfl, h, h'⟩

theorem VRs.take {E : Emb} : ∀ {v : List V} {x : List Value} (n : Nat), VRs E v x → VRs E (v.take n) (x.take n)
  | [], _, n, h => by simp only [VRs] at h; subst h; simp [VRs]
  | v :: vs, x, n, h => by
    simp only [VRs] at h
    obtain ⟨y, ys, rfl, h1, h2⟩ := h
    cases n with
    | zero => simp [VRs]
    | succ n => exact ⟨y, ys.take n, rfl, h1, h2.take n⟩

theorem VRs.drop {E : Emb} : ∀ {v : List V} {x : List Value} (n : Nat), VRs E v x → VRs E (v.drop n) (x.drop n)
  | [], _, n, h => by simp only [VRs] at h; subst h; simp [VRs]
  | v :: vs, x, n, h => by
    simp only [VRs] at h
    cases n with
    | zero => exact h
    | succ n => obtain ⟨y, ys, rfl, h1, h2⟩ := h; exact h2.drop n

theorem VRs.mk {E : Emb} : ∀ {v : List V} {x : List Value}, x.length = v.length → (∀ (i : Nat) (a : V) (y : Value), v[i]? = some a → x[i]? = some y → VR E a y) → VRs E v x
  | [], x, hl, _ => by simpa [VRs] using hl
  | v :: vs, [], hl, _ => by simp at hl
  | v :: vs, y :: ys, hl, h => ⟨y, ys, rfl, h 0 v y rfl rfl, VRs.mk (by simpa using hl) (fun i a z ha hz => h (i + 1) a z (by simpa using ha) (by simpa using hz))⟩

/-! ### Cells of a value -/

theorem VR.cell {E : Emb} {v : V} {x : Value} (h : VR E v x) (hv : ∀ l, v ≠ .agg l) (hv' : ∀ l, v ≠ .tup l) : isCell x = true := by
  cases v
  case agg l => exact absurd rfl (hv l)
  case tup l => exact absurd rfl (hv' l)
  case slice b off len cap =>
    cases cap <;> simp only [VR] at h <;> obtain ⟨_, _, a, rfl, _⟩ := h <;> rfl
  case ptr => simp only [VR] at h; obtain ⟨_, rfl⟩ := h; rfl
  case map => simp only [VR] at h; obtain ⟨_, rfl⟩ := h; rfl
  case func => simp only [VR] at h; obtain ⟨_, _, rfl, _⟩ := h; rfl
  case iface => simp only [VR] at h; obtain ⟨_, rfl, _⟩ := h; rfl
  all_goals (simp only [VR] at h; first | done | (subst h; rfl))

theorem VR.cells {E : Emb} {v : V} {x : Value} (h : VR E v x) (hv' : ∀ l, v ≠ .tup l) : VRs E v.cells x.cells.toList ∧ ∀ y ∈ x.cells.toList, isCell y = true := by
  by_cases ha : ∃ l, v = .agg l
  · obtain ⟨l, rfl⟩ := ha
    simp only [VR] at h
    obtain ⟨l', rfl, h1, h2⟩ := h
    exact ⟨h1, h2⟩
  · have hc := h.cell (fun l e => ha ⟨l, e⟩) hv'
    have e1 : v.cells = [v] := by cases v <;> first | rfl | (exact absurd ⟨_, rfl⟩ ha)
    have e2 : x.cells = #[x] := by cases x <;> first | rfl | (simp [isCell] at hc)
    rw [e1, e2]
    exact ⟨VRs.cons h (VRs.nil E), by simpa using hc⟩

theorem oneCell_of_isCell {x : Value} (h : isCell x = true) : x.oneCell' = true := by cases x <;> simp_all [isCell, Value.oneCell']

end Go.AM
