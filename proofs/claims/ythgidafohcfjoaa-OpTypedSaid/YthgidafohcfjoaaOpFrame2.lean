/-
  From a run over an argument []api.Value to the call.
-/
import Derived.Test.YthgidafohcfjoaaOpOpen
import Derived.Test.YthgidafohcfjoaaOpFrame
set_option linter.unusedVariables false
set_option linter.unusedSimpArgs false
namespace Go.AM
open Go.Proofs Go.RowKit

theorem rows_rel (E : Emb) (arr : List Value) : ∀ (l : List Va) (o : Nat), (∀ i y, l[i]? = some y → arr[o + i * 3]? = some (.int .i64 y.t) ∧ arr[o + (i * 3 + 1)]? = some (.int .i64 y.n) ∧ arr[o + (i * 3 + 2)]? = some (.string ⟨⟨y.s⟩⟩)) →
    VRs E (rowOf l) ((arr.drop o).take (l.length * 3)) ∧ (∀ y ∈ (arr.drop o).take (l.length * 3), isCell y = true) ∧ (0 < l.length → o + l.length * 3 ≤ arr.length)
  | [], o, h => by simp [rowOf, VRs]
  | x :: l, o, h => by
    obtain ⟨h0, h1, h2⟩ := h 0 x rfl
    have ih := rows_rel E arr l (o + 3) (fun i y hy => by
      have := h (i + 1) y (by simpa using hy)
      rw [show o + (i + 1) * 3 = o + 3 + i * 3 by omega, show o + ((i + 1) * 3 + 1) = o + 3 + (i * 3 + 1) by omega, show o + ((i + 1) * 3 + 2) = o + 3 + (i * 3 + 2) by omega] at this
      exact this)
    have hlt : o + 2 < arr.length := by
      rcases Nat.lt_or_ge (o + 2) arr.length with h' | h'
      · exact h'
      · rw [show o + (0 * 3 + 2) = o + 2 by omega, List.getElem?_eq_none h'] at h2; cases h2
    have e : arr.drop o = .int .i64 x.t :: .int .i64 x.n :: .string ⟨⟨x.s⟩⟩ :: arr.drop (o + 3) := by
      have g : ∀ k (hk : k < arr.length) v, arr[k]? = some v → arr.drop k = v :: arr.drop (k + 1) := by
        intro k hk v hv
        rw [List.drop_eq_getElem_cons hk]
        rw [List.getElem?_eq_getElem hk] at hv
        cases hv; rfl
      rw [g o (by omega) _ (by simpa using h0), g (o + 1) (by omega) _ (by simpa using h1), g (o + 2) (by omega) _ (by simpa using h2)]
    rw [e, show (x :: l).length * 3 = l.length * 3 + 1 + 1 + 1 by simp; omega]
    simp only [List.take_succ_cons, rowOf, VRs]
    refine ⟨⟨_, _, rfl, by simp [VR], _, _, rfl, by simp [VR], _, _, rfl, by simp [VR], ih.1⟩, ?_, ?_⟩
    · intro y hy
      simp only [List.mem_cons] at hy
      rcases hy with rfl | rfl | rfl | hy
      · rfl
      · rfl
      · rfl
      · exact ih.2.1 y hy
    · intro _
      rcases Nat.eq_zero_or_pos l.length with hz | hp
      · rw [hz]; omega
      · have := ih.2.2 hp; omega

theorem law_vals {X : Ext} (hX : ExtOk Try.prog X) (hXm : ExtMono X) {m : Nat} {f : FuncId} (x : Int) (a : Addr) (cap : Nat) (l : List Va) (w : World) (hle : l.length ≤ cap) (hlt : a.block < w.heap.size) (hspot : a.spot = none)
    (hrow : ∃ arr ty fz, w.heap[a.block]? = some (.cells arr ty fz) ∧ (0 < cap → a.off ≤ arr.size) ∧ ∀ i y, l[i]? = some y → arr[a.off + i * 3]? = some (.int .i64 y.t) ∧ arr[a.off + (i * 3 + 1)]? = some (.int .i64 y.n) ∧ arr[a.off + (i * 3 + 2)]? = some (.string ⟨⟨y.s⟩⟩))
    (hr : ∃ h', callN Try.prog X m f [.int .i64 x, .slice 0 0 l.length (some cap)] (allocs h0 [.cells true 36 (rowOf l)]) = some (.bool true, h')) :
    Calls Try.prog f #[.int .i64 x, .slice (some a) l.length cap] w fun e w' => e = .returned (.bool true) ∧ Below w.heap.size w w' := by
  obtain ⟨h', hr⟩ := hr
  obtain ⟨arr, ty, fz, hheap, hoff0, hcells⟩ := hrow
  have hn : (allocs h0 [Obj.cells true 36 (rowOf l)]).next = 1 := rfl
  have hg : ∀ b : Nat, (allocs h0 [Obj.cells true 36 (rowOf l)]).get b = [Obj.cells true 36 (rowOf l)][b]? := fun b => by rw [allocs_get]; simp
  let pl : Pl := ⟨a.block, if cap = 0 then 0 else a.off, arr.size, 3⟩
  let E0 : Emb := ⟨fun b => b = 0, fun _ => pl⟩
  have hrowin : RowIn E0 true (rowOf l) pl.c pl.o pl.csz w.heap := by
    by_cases hc : cap = 0
    · have hl : l = [] := List.length_eq_zero_iff.1 (by omega)
      subst hl
      exact ⟨arr, ty, fz, hheap, rfl, by show (if cap = 0 then 0 else a.off) + 0 ≤ _; rw [if_pos hc]; omega, by simp [rowOf, VRs], by simp [rowOf], fun h => by cases h⟩
    · have ho : pl.o = a.off := if_neg hc
      obtain ⟨k1, k2, k3⟩ := rows_rel E0 arr.toList l a.off (fun i y hy => by simpa using hcells i y hy)
      by_cases hl : l = []
      · subst hl
        by_cases hoff : a.off ≤ arr.size
        · exact ⟨arr, ty, fz, hheap, rfl, by rw [ho]; simpa [rowOf] using hoff, by simp [rowOf, VRs], by simp [rowOf], fun h => by cases h⟩
        · exact absurd (hoff0 (by omega)) hoff
      · have hpos : 0 < l.length := List.length_pos_iff.2 hl
        refine ⟨arr, ty, fz, hheap, rfl, ?_, by rw [ho, rowOf_length]; exact k1, by rw [ho, rowOf_length]; exact k2, fun h => by cases h⟩
        have := k3 hpos
        rw [ho, rowOf_length]
        simpa using this
  have H0 : HR Try.prog (fun c => w.heap.size ≤ c) h'.next E0 (allocs h0 [Obj.cells true 36 (rowOf l)]) w := by
    refine ⟨fun b hb => .inl (by rw [hn, show b = 0 from hb]; exact Nat.zero_lt_one), fun b _ => hlt, fun b ro ty l' hb hgb => ?_, fun b hb hrw => ?_, fun b ro ty l' hb hgb => ?_, fun b b' hb hb' hne => absurd ((show b = 0 from hb).trans (show b' = 0 from hb').symm) hne, fun _ h => h⟩
    · have : b = 0 := hb
      subst this
      rw [hg] at hgb
      cases hgb
      exact hrowin
    · have : b = 0 := hb
      subst this
      rw [hg] at hrw
      cases hrw
    · have : b = 0 := hb
      subst this
      rw [hg] at hgb
      cases hgb
      show (3 : Nat) = (szOf Try.prog 36).getD 0
      have : szOf Try.prog 36 = some 3 := by kernel_rfl
      rw [this]; rfl
  have hv : VRs E0 [.int .i64 x, .slice 0 0 l.length (some cap)] [.int .i64 x, .slice (some a) l.length cap] := by
    simp only [VRs, VR]
    refine ⟨_, _, rfl, rfl, _, _, rfl, ⟨rfl, hle, a, rfl, ?_⟩, rfl⟩
    by_cases hc : cap = 0
    · exact .inr hc
    · left
      show a = ⟨a.block, (if cap = 0 then 0 else a.off) + 0, none⟩
      rw [if_neg hc]
      cases a
      simp only at hspot
      subst hspot
      rfl
  refine Calls.mono (callN_ok mixed X hX hXm m f _ _ _ h' hr (fun c => w.heap.size ≤ c) h'.next E0 w _ (Nat.le_refl _) H0 hv) ?_
  rintro e w' ⟨y, E', rfl, _, hy, fw⟩
  simp only [VR] at hy
  have hs := fw.same
  exact ⟨by rw [hy], hs.os, hs.tape, hs.output, hs.size, fun k hk => hs.heap k (Nat.not_le.2 hk)⟩

end Go.AM
