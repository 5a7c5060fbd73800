/-
  An argument []api.Value: its rows, read out of the statement's hypothesis.
-/
import Derived.Test.YthgidafohcfjoaaOpK
import Derived.Test.YthgidafohcfjoaaOpNum
import Derived.Deep.Slices
import Derived.Test.YthgidafohcfjoaaRows
import Derived.OpenShut
set_option linter.unusedVariables false
set_option linter.unusedSimpArgs false
namespace Go.AM
open Go.Proofs Go.RowKit Go.ChangeShapes Go.WideShapes Go.Deep

section
variable {H : Type} {enc : TypeId × Value → H} {W : World}

/-- One value, out of its three cells. -/
theorem open_va {fuel : Nat} {cs : List Value} {x : DataW H × List MemPlace} (h : DataW.trod enc Try.prog W 0 (fun _ => true) true fuel 36 cs = some x) :
    ∃ y : Va, cs = [.int .i64 y.t, .int .i64 y.n, .string ⟨⟨y.s⟩⟩] ∧ In64 y.t ∧ In64 y.n := by
  obtain ⟨xs, n, rfl, rfl, hlen, hxl, hf⟩ := DataW.trod_struct Try.underlying36 h
  have c36 : Try.prog.cellsOf 36 = 3 := by kernel_rfl
  have c3 : Try.prog.cellsOf 3 = 1 := by kernel_rfl
  have c9 : Try.prog.cellsOf 9 = 1 := by kernel_rfl
  rw [c36] at hlen
  match xs, hxl, cs, hlen with
  | [y0, y1, y2], _, [v0, v1, v2], _ =>
    have g0 : DataW.trod enc Try.prog W 0 (fun _ => true) true n 3 (List.take (Try.prog.cellsOf 3) [v0, v1, v2]) = some y0 := hf 0 _ rfl
    have g1 : DataW.trod enc Try.prog W 0 (fun _ => true) true n 3 (List.take (Try.prog.cellsOf 3) [v1, v2]) = some y1 := hf 1 _ rfl
    have g2 : DataW.trod enc Try.prog W 0 (fun _ => true) true n 9 (List.take (Try.prog.cellsOf 9) [v2]) = some y2 := hf 2 _ rfl
    rw [c3] at g0 g1
    rw [c9] at g2
    obtain ⟨m0, e0, _, w0⟩ := DataW.trod_int Try.underlying3 g0
    obtain ⟨m1, e1, _, w1⟩ := DataW.trod_int Try.underlying3 g1
    obtain ⟨s, e2, _, _⟩ := DataW.trod_string Try.underlying9 g2
    have f0 : v0 = .int .i64 m0 := by simpa using e0
    have f1 : v1 = .int .i64 m1 := by simpa using e1
    have f2 : v2 = .string s := by simpa using e2
    exact ⟨⟨m0, m1, s.data.toList⟩, by rw [f0, f1, f2], in64_of_wf w0, in64_of_wf w1⟩

theorem rowOf_length : ∀ (l : List Va), (rowOf l).length = l.length * 3
  | [] => rfl
  | x :: l => by simp only [rowOf, List.length_cons, rowOf_length l]; omega

/-- The argument: nil, or a row of values. -/
theorem open_vals {v : Value} {d : DataW H} {p : List MemPlace} (hval : Value.okWide Try.prog W .any 0 22 v) (h : DataW.Trod enc Try.prog W 0 (fun _ => true) true 22 v d p) :
    v = .slice none 0 0 ∨ ∃ (a : Addr) (cap : Nat) (l : List Va), v = .slice (some a) l.length cap ∧ l.length ≤ cap ∧ cap ≤ maxLen ∧ a.block < W.heap.size ∧ a.spot = none ∧
      (∃ arr ty fz, W.heap[a.block]? = some (.cells arr ty fz) ∧ (0 < cap → a.off ≤ arr.size) ∧ ∀ i y, l[i]? = some y → arr[a.off + i * 3]? = some (.int .i64 y.t) ∧ arr[a.off + (i * 3 + 1)]? = some (.int .i64 y.n) ∧ arr[a.off + (i * 3 + 2)]? = some (.string ⟨⟨y.s⟩⟩)) ∧
      ∀ y ∈ l, In64 y.t ∧ In64 y.n := by
  obtain ⟨fuel, h⟩ := h
  have c36 : Try.prog.cellsOf 36 = 3 := by kernel_rfl
  obtain ⟨a0, len0, cap0, rfl⟩ := okWide_slice Try.underlying22 hval
  simp only [Value.cells] at h
  rcases open_slice Try.underlying22 h with ⟨h0, _⟩ | ⟨a, len, cap, m, n, D, Pl, h0, hb, hl, hm, hmm, hxx, hx⟩
  · left
    simpa using h0
  · right
    have h0' : a0 = some a ∧ len0 = len ∧ cap0 = cap := by simpa using h0
    obtain ⟨rfl, rfl, rfl⟩ := h0'
    have hok : W.has Try.prog .any 0 a 36 cap0 := by
      simp only [Value.okWide, Try.underlying22, Cell.okWide, Cell.ok] at hval
      exact hval.2.2
    obtain ⟨_, hspot, row, cells, hshape, _⟩ := hok
    obtain ⟨arr, ty, fz, hheap⟩ : ∃ arr ty fz, W.heap[a.block]? = some (.cells arr ty fz) := by
      unfold World.shape? at hshape
      split at hshape
      · rename_i c e f hc; exact ⟨c, e, f, hc⟩
      · cases hshape
    have hlt : a.block < W.heap.size := by
      rcases Nat.lt_or_ge a.block W.heap.size with h | h
      · exact h
      · rw [Array.getElem?_eq_none h] at hheap; cases hheap
    have each0 : ∀ i, i < m → ∃ y : Va, arr[a.off + i * 3]? = some (.int .i64 y.t) ∧ arr[a.off + (i * 3 + 1)]? = some (.int .i64 y.n) ∧ arr[a.off + (i * 3 + 2)]? = some (.string ⟨⟨y.s⟩⟩) ∧ In64 y.t ∧ In64 y.n := by
      intro i hi
      obtain ⟨cs, e1, e2⟩ := hx i hi
      obtain ⟨y, rfl, w1, w2⟩ := open_va e2
      rw [c36] at e1
      obtain ⟨_, _, hc⟩ := World.cells?_some e1
      have at3 : ∀ j, j < 3 → W.cell? ((a.add (i * 3)).add j) = arr[a.off + (i * 3 + j)]? := by
        intro j hj
        have hadd : ((a.add (i * 3)).add j) = ⟨a.block, a.off + (i * 3 + j), none⟩ := by
          cases a
          simp only at hspot
          subst hspot
          unfold Addr.add
          split <;> split <;> simp <;> omega
        rw [hadd]
        simp only [World.cell?, hheap]
        simp
      exact ⟨y, by rw [show a.off + i * 3 = a.off + (i * 3 + 0) from rfl, ← at3 0 (by omega), hc 0 (by omega)]; rfl, by rw [← at3 1 (by omega), hc 1 (by omega)]; rfl, by rw [← at3 2 (by omega), hc 2 (by omega)]; rfl, w1, w2⟩
    have hmc : m = cap0 := by rw [hmm]; simp
    have hoff : 0 < cap0 → a.off ≤ arr.size := fun hc => by
      obtain ⟨y, g0, _⟩ := each0 0 (by omega)
      rcases Nat.lt_or_ge (a.off + 0 * 3) arr.size with h' | h'
      · omega
      · rw [Array.getElem?_eq_none h'] at g0; cases g0
    have each := fun i (hi : i < len0) => each0 i (by omega)
    clear each0
    obtain ⟨l, hll, hl2⟩ : ∃ l : List Va, l.length = len0 ∧ ∀ i y, l[i]? = some y → arr[a.off + i * 3]? = some (.int .i64 y.t) ∧ arr[a.off + (i * 3 + 1)]? = some (.int .i64 y.n) ∧ arr[a.off + (i * 3 + 2)]? = some (.string ⟨⟨y.s⟩⟩) ∧ In64 y.t ∧ In64 y.n := by
      clear hx hxx h0 h hval hb hl hm hmm hmc
      induction len0 with
      | zero => exact ⟨[], rfl, fun i y hy => by simp at hy⟩
      | succ k ih =>
        obtain ⟨l, e1, e2⟩ := ih (fun i hi => each i (by omega))
        obtain ⟨y, hy⟩ := each k (by omega)
        refine ⟨l ++ [y], by simp [e1], fun i z hz => ?_⟩
        rcases Nat.lt_or_ge i l.length with h | h
        · rw [List.getElem?_append_left h] at hz; exact e2 i z hz
        · rw [List.getElem?_append_right h] at hz
          have : i - l.length = 0 := by
            rcases Nat.eq_zero_or_pos (i - l.length) with h' | h'
            · exact h'
            · rw [List.getElem?_eq_none (by simp; omega)] at hz; cases hz
          rw [this] at hz
          simp at hz
          subst hz
          have : i = k := by omega
          subst this
          exact hy
    subst hll
    refine ⟨a, cap0, l, rfl, hl, hm, hlt, hspot, ⟨arr, ty, fz, hheap, hoff, fun i y hy => ⟨(hl2 i y hy).1, (hl2 i y hy).2.1, (hl2 i y hy).2.2.1⟩⟩, fun y hy => ?_⟩
    obtain ⟨i, hi⟩ := List.getElem?_of_mem hy
    exact (hl2 i y hi).2.2.2

end
end Go.AM
