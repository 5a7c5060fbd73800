/-
  Two lists of values are the same: known by heart.
-/
import Derived.Test.YthgidafohcfjoaaOpS
set_option linter.unusedVariables false
set_option linter.unusedSimpArgs false
namespace Go.AM
open Go.Proofs

theorem rowOf_get : ∀ (l : List Va) (i : Nat) (x : Va), l[i]? = some x → (rowOf l)[i * 3 + 0]? = some (.int .i64 x.t) ∧ (rowOf l)[i * 3 + 1]? = some (.int .i64 x.n) ∧ (rowOf l)[i * 3 + 2]? = some (.str x.s)
  | [], i, x, h => by simp at h
  | y :: l, 0, x, h => by
    simp at h
    subst h
    exact ⟨rfl, rfl, rfl⟩
  | y :: l, i + 1, x, h => by
    have := rowOf_get l i x (by simpa using h)
    rw [show (i + 1) * 3 + 0 = (i * 3 + 0) + 1 + 1 + 1 by omega, show (i + 1) * 3 + 1 = (i * 3 + 1) + 1 + 1 + 1 by omega, show (i + 1) * 3 + 2 = (i * 3 + 2) + 1 + 1 + 1 by omega]
    simp only [rowOf, List.getElem?_cons_succ]
    exact this

theorem okIadr {X : Ext} (b n : Nat) (c : Option Nat) (i : Nat) (hi : i < n) : (Ob2.iadr 22 b 0 n c (.int .i64 (i : Nat)) (.ptr b (i * 3))).ok Try.prog X := by
  intro ts x
  have hu : Try.prog.underlying 22 = some (.slice 36) := Try.underlying22
  have hs : szOf Try.prog 36 = some 3 := by kernel_rfl
  unfold indexAddrV
  simp only [hu, hs]
  rw [if_pos ⟨by omega, by omega⟩]
  simp

theorem isAgg3 : isAggT Try.prog 3 = some false := by kernel_rfl
theorem isAgg9 : isAggT Try.prog 9 = some false := by kernel_rfl
theorem okLd3 {X : Ext} {l : List V} {o : Nat} {v : V} (h : l[o]? = some v) : (Ob2.ld 3 l o v).ok Try.prog X := by
  show rowGet Try.prog 3 l o = some v
  unfold rowGet
  rw [isAgg3]; exact h
theorem okLd9 {X : Ext} {l : List V} {o : Nat} {v : V} (h : l[o]? = some v) : (Ob2.ld 9 l o v).ok Try.prog X := by
  show rowGet Try.prog 9 l o = some v
  unfold rowGet
  rw [isAgg9]; exact h
theorem okSn {X : Ext} {a : List UInt8} : (obS .neq a a false).ok Try.prog X := by
  show some (V.bool (!(a == a))) = _
  simp
theorem okInc {X : Ext} (i : Nat) (h : i < 9223372036854775807) : (Ob2.bin .add 3 (.int .i64 (i : Nat)) (.int .i64 1) (.int .i64 ((i + 1 : Nat) : Int))).ok Try.prog X := by
  show some (V.int .i64 (wr .i64 ((i : Int) + 1))) = _
  have : wr .i64 ((i : Int) + 1) = ((i + 1 : Nat) : Int) := by
    unfold wr loK hiK
    rw [if_pos ⟨by simp only; omega, by simp only; omega⟩]
    simp
  rw [this]

theorem same_ok (l : List Va) (c c' : V) (u u' : Int) (hl : l.length < 9223372036854775807) : ∃ n h', callN Try.prog X6 n 13 (und [dV l c u, dV l c' u'] 0).1 (allocs h0 (und [dV l c u, dV l c' u'] 0).2) = some (.bool true, h') := by
  refine ⟨l.length + 1 + 1, ?_⟩
  refine run_of_from (same_call (l.length + 1) l c c' u u' _) (obs2_cons (oIn (by simp)) (obs2_cons (ok_loop (ks' := []) (vs' := []) ?_) obs2_nil))
  intro t ht hp
  have key := rounds_out (body := exec Try.prog (callN Try.prog X6 (l.length + 1)) [] (l.length + 1) sBody)
    (fun i s => s.t.length = 54 ∧ proj sKs s.t = sVs l (capOf c) (capOf c') i ∧ s.h = sHeap l u.toNat u'.toNat) l.length
    (by
      rintro i ⟨t, h⟩ hi ⟨h1, h2, h3⟩
      simp only at h1 h2 h3
      subst h3
      have hx : l[i]? = some l[i] := List.getElem?_eq_getElem hi
      obtain ⟨g0, g1, g2⟩ := rowOf_get l i _ hx
      have hr := same_round (l.length + 1) l (capOf c) (capOf c') u.toNat u'.toNat l[i] i t
      rw [norm_zip h1 h2] at hr
      obtain ⟨t', e1, e2, e3⟩ := code_of_tell hr (by
        have ia := okIadr (X := X6) 0 l.length (capOf c) i hi
        have ib := okIadr (X := X6) 1 l.length (capOf c') i hi
        refine obs2_cons (x := obI .lss (i : Nat) (l.length : Nat) true) (okLt _ _ _ (by simp; omega)) ?_
        refine obs2_cons ia (obs2_cons (okLd3 g0) (obs2_cons ib (obs2_cons (okLd3 g0) (obs2_cons (oIn (by simp)) ?_))))
        refine obs2_cons ia (obs2_cons (okLd3 g1) (obs2_cons ib (obs2_cons (okLd3 g1) (obs2_cons (oIn (by simp)) ?_))))
        refine obs2_cons ia (obs2_cons (okLd9 g2) (obs2_cons ib (obs2_cons (okLd9 g2) (obs2_cons okSn ?_))))
        exact obs2_cons (okInc i (by omega)) obs2_nil)
      exact ⟨⟨t', _⟩, e1, e2, e3, rfl⟩)
    (e := .exit 0) (Out := fun s => s.t.length = 54 ∧ s.h = sHeap l u.toNat u'.toNat) (by intro h; cases h)
    (by
      rintro ⟨t, h⟩ ⟨h1, h2, h3⟩
      simp only at h1 h2 h3
      subst h3
      have hr := same_end (l.length + 1) l (capOf c) (capOf c') u.toNat u'.toNat l.length t
      rw [norm_zip h1 h2] at hr
      obtain ⟨t', e1, e2, e3⟩ := code_of_tell hr (obs2_cons (x := obI .lss (l.length : Nat) (l.length : Nat) false) (okLt _ _ _ (by simp)) obs2_nil)
      exact ⟨⟨t', _⟩, e1, e2, rfl⟩)
    ⟨t, sHeap l u.toNat u'.toNat⟩ ⟨ht, hp, rfl⟩ (l.length + 1) (Nat.lt_succ_self _)
  obtain ⟨⟨t', h'⟩, k1, k2, k3⟩ := key
  simp only at k2 k3
  subst k3
  exact ⟨t', k1, k2, rfl⟩

end Go.AM
