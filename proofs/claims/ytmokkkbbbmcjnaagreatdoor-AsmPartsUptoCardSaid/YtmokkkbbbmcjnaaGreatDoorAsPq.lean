/-
  An argument api.Script: what lies in it, read out of the statement's hypothesis.
-/
import Derived.Test.YtmokkkbbbmcjnaaGreatDoorAsNl
import Derived.Test.YtmokkkbbbmcjnaaGreatDoorAsHo
set_option linter.unusedSectionVars false
set_option linter.unusedVariables false
set_option linter.unusedSimpArgs false
set_option maxRecDepth 100000
namespace Go.AM
open Go.Proofs Go.Proofs.YtmokkkbbbmcjnaaGreatDoor Go.RowKit Go.ChangeShapes Go.WideShapes Go.Deep

section
variable {H : Type} {enc : TypeId × Value → H} {W : World}

theorem cell_spot {a : Addr} {v : Value} (h : W.cell? a = some v) : a.spot = none ∧ ∃ arr ty fz, W.heap[a.block]? = some (.cells arr ty fz) := by
  unfold World.cell? at h
  split at h
  · rename_i c ty fz hc
    split at h
    · cases h
    · rename_i hs
      refine ⟨?_, c, ty, fz, hc⟩
      cases hsp : a.spot with
      | none => rfl
      | some _ => rw [hsp] at hs; exact absurd rfl hs
  · cases h

theorem bulkAll_append : ∀ (a b : List (DataW H)), Rows.uptoBulkAll (a ++ b) = Rows.uptoBulkAll a + Rows.uptoBulkAll b
  | [], b => by simp [Rows.uptoBulkAll]
  | x :: a, b => by simp only [List.cons_append, Rows.uptoBulkAll, bulkAll_append a b]; omega
theorem bulk_mem : ∀ {l : List (DataW H)} {d : DataW H}, d ∈ l → Rows.uptoBulk d ≤ Rows.uptoBulkAll l
  | x :: l, d, h => by
    simp only [Rows.uptoBulkAll]
    rcases List.mem_cons.1 h with rfl | h
    · omega
    · have := bulk_mem h; omega

/-- A slice's elements, cell by cell. -/
theorem open_raw {t e : TypeId} {s : Nat} (ht : Tryz.prog.underlying t = some (.slice e)) (hs : Tryz.prog.cellsOf e = s) (h0 : 0 < s) {v : Value} {fuel : Nat} {y : DataW H × List MemPlace} (h : DataW.trod enc Tryz.prog W 0 (fun _ => true) true fuel t [v] = some y) :
    v = .slice none 0 0 ∨ ∃ (a : Addr) (len cap n : Nat) (D : Nat → DataW H), v = .slice (some a) len cap ∧ len ≤ cap ∧ len < Rows.uptoBulk y.1 ∧ (∀ i, i < cap → Rows.uptoBulk (D i) ≤ Rows.uptoBulk y.1) ∧
      (0 < cap → a.spot = none ∧ ∃ arr ty fz, W.heap[a.block]? = some (.cells arr ty fz) ∧ ∀ i, i < cap → a.off + (i + 1) * s ≤ arr.size ∧ ∃ Pp, DataW.trod enc Tryz.prog W 0 (fun _ => true) true n e ((arr.toList.drop (a.off + i * s)).take s) = some (D i, Pp)) := by
  rcases open_slice ht h with ⟨h0', _⟩ | ⟨a, len, cap, m, n, D, Pp, h0', hb, hl, hm, hmm, hy, hx⟩
  · left; simpa using h0'
  · right
    have h0' : v = .slice (some a) len cap := by simpa using h0'
    have hmc : m = cap := by rw [hmm]; simp
    subst hmc
    rw [hs] at hx
    refine ⟨a, len, m, n, D, h0', hl, ?_, fun i hi => ?_, fun hc => ?_⟩
    · rw [hy]
      simp only [Rows.uptoBulk]
      have := bulk_length ((List.range len).map D)
      rw [List.length_map, List.length_range] at this
      omega
    · rw [hy]
      simp only [Rows.uptoBulk]
      rcases Nat.lt_or_ge i len with h | h
      · have := bulk_mem (List.mem_map_of_mem (f := D) (List.mem_range.2 h))
        omega
      · have := bulk_mem (List.mem_map_of_mem (f := fun j => D (len + j)) (List.mem_range.2 (show i - len < m - len by omega)))
        rw [show len + (i - len) = i by omega] at this
        omega
    · obtain ⟨cs0, g1, _⟩ := hx 0 hc
      obtain ⟨_, l1, c1⟩ := World.cells?_some g1
      have c10 := c1 0 h0
      obtain ⟨v0, hv0⟩ : ∃ v0, cs0[0]? = some v0 := ⟨_, List.getElem?_eq_getElem (by omega)⟩
      rw [hv0] at c10
      have ea : (a.add (0 * s)).add 0 = a := by
        rw [Nat.zero_mul]
        unfold Addr.add
        simp
      rw [ea] at c10
      obtain ⟨hspot, arr, ty, fz, hheap⟩ := cell_spot c10
      refine ⟨hspot, arr, ty, fz, hheap, fun i hi => ?_⟩
      obtain ⟨cs, e1, e2⟩ := hx i hi
      obtain ⟨_, l2, c2⟩ := World.cells?_some e1
      have at' : ∀ j, j < s → arr[a.off + i * s + j]? = cs[j]? := by
        intro j hj
        rw [← c2 j hj]
        have hadd : ((a.add (i * s)).add j) = ⟨a.block, a.off + i * s + j, none⟩ := by
          cases a
          simp only at hspot
          subst hspot
          unfold Addr.add
          split <;> split <;> simp <;> omega
        rw [hadd]
        simp only [World.cell?, hheap]
        simp
      have hend : a.off + (i + 1) * s ≤ arr.size := by
        obtain ⟨w, hw⟩ : ∃ w, cs[s - 1]? = some w := ⟨_, List.getElem?_eq_getElem (by omega)⟩
        have := at' (s - 1) (by omega)
        rw [hw] at this
        rcases Nat.lt_or_ge (a.off + i * s + (s - 1)) arr.size with h' | h'
        · have : (i + 1) * s = i * s + s := Nat.succ_mul i s
          omega
        · rw [Array.getElem?_eq_none h'] at this; cases this
      refine ⟨hend, Pp i, ?_⟩
      have hcs : (arr.toList.drop (a.off + i * s)).take s = cs := by
        apply List.ext_getElem?
        intro j
        rcases Nat.lt_or_ge j s with hj | hj
        · rw [List.getElem?_take_of_lt hj, List.getElem?_drop]
          simpa using at' j hj
        · rw [List.getElem?_eq_none (by simp; omega), List.getElem?_eq_none (by omega)]
      rw [hcs]
      exact e2

theorem mk_list {α : Type} {p : Nat → α → Prop} : ∀ n, (∀ i, i < n → ∃ x, p i x) → ∃ L : List α, L.length = n ∧ ∀ i x, L[i]? = some x → p i x
  | 0, _ => ⟨[], rfl, fun i x h => by simp at h⟩
  | n + 1, h => by
    obtain ⟨L, h1, h2⟩ := mk_list n (fun i hi => h i (by omega))
    obtain ⟨y, hy⟩ := h n (by omega)
    refine ⟨L ++ [y], by simp [h1], fun i x hx => ?_⟩
    rcases Nat.lt_or_ge i L.length with hi | hi
    · rw [List.getElem?_append_left hi] at hx; exact h2 i x hx
    · rw [List.getElem?_append_right hi] at hx
      have : i - L.length = 0 := by
        rcases Nat.eq_zero_or_pos (i - L.length) with h' | h'
        · exact h'
        · rw [List.getElem?_eq_none (by simp; omega)] at hx; cases hx
      rw [this] at hx
      simp at hx
      subst hx
      have : i = n := by omega
      subst this
      exact hy

/-- Rows put together. -/
def frow {α : Type} (mk : Nat → α → List V) : Nat → List α → List V
  | _, [] => []
  | k, x :: L => mk k x ++ frow mk (k + 1) L
theorem frow_length {α : Type} {mk : Nat → α → List V} {s : Nat} (hs : ∀ k x, (mk k x).length = s) : ∀ (L : List α) (k : Nat), (frow mk k L).length = L.length * s
  | [], k => by simp [frow]
  | x :: L, k => by simp only [frow, List.length_append, hs, frow_length hs L, List.length_cons, Nat.succ_mul]; omega
theorem frow_get {α : Type} {mk : Nat → α → List V} {s : Nat} (hs : ∀ k x, (mk k x).length = s) : ∀ (L : List α) (k i : Nat) (x : α), L[i]? = some x → ((frow mk k L).drop (i * s)).take s = mk (k + i) x
  | y :: L, k, 0, x, h => by
    simp at h
    subst h
    simp only [frow, Nat.zero_mul, List.drop_zero, Nat.add_zero]
    rw [List.take_append_of_le_length (by rw [hs]; exact Nat.le_refl _), List.take_of_length_le (by rw [hs]; exact Nat.le_refl _)]
  | y :: L, k, i + 1, x, h => by
    have ih := frow_get hs L (k + 1) i x (by simpa using h)
    rw [show k + 1 + i = k + (i + 1) by omega] at ih
    rw [← ih]
    simp only [frow]
    rw [show (i + 1) * s = (mk k y).length + i * s by rw [hs, Nat.succ_mul]; omega, List.drop_append, List.drop_eq_nil_of_le (by omega)]
    simp
  | [], k, i, x, h => by simp at h

theorem rows_list (E : Emb) (arr : List Value) {α : Type} (mk : Nat → α → List V) (s : Nat) : ∀ (L : List α) (k o : Nat), (∀ i x, L[i]? = some x → VRs E (mk (k + i) x) ((arr.drop (o + i * s)).take s) ∧ (∀ y ∈ (arr.drop (o + i * s)).take s, isCell y = true)) →
    VRs E (frow mk k L) ((arr.drop o).take (L.length * s)) ∧ (∀ y ∈ (arr.drop o).take (L.length * s), isCell y = true)
  | [], k, o, h => by simp [frow, VRs]
  | x :: L, k, o, h => by
    obtain ⟨h1, h2⟩ := h 0 x rfl
    rw [Nat.zero_mul, Nat.add_zero] at h1 h2
    have ih := rows_list E arr mk s L (k + 1) (o + s) (fun i y hy => by
      have := h (i + 1) y (by simpa using hy)
      rw [show k + (i + 1) = k + 1 + i by omega, show o + (i + 1) * s = o + s + i * s by rw [Nat.succ_mul]; omega] at this
      exact this)
    have e : (arr.drop o).take ((x :: L).length * s) = (arr.drop o).take s ++ (arr.drop (o + s)).take (L.length * s) := by
      rw [List.length_cons, Nat.succ_mul, Nat.add_comm, List.take_add, List.drop_drop]
    rw [e]
    refine ⟨VRs.append h1 ih.1, fun y hy => ?_⟩
    rcases List.mem_append.1 hy with hy | hy
    · exact h2 y hy
    · exact ih.2 y hy

/-! ### A slice of flat elements -/

structure SlD where
  n : Option Nat
  cap : Nat
  pl : Pl
  ty : TypeId
  row : List V
def slV (d : SlD) (b : Id) : V := match d.n with
  | none => .nilslice
  | some n => .slice b 0 n (some d.cap)
def SlD.obj (d : SlD) : Obj := match d.n with
  | none => .dead
  | some _ => .cells true d.ty d.row
def SlD.emb (d : SlD) (W : World) (E : Emb) : Prop := d.n ≠ none → d.pl.c < W.heap.size ∧ d.pl.esz = (szOf Tryz.prog d.ty).getD 0 ∧ RowIn E true d.row d.pl.c d.pl.o d.pl.csz W.heap
def SlRel (v : Value) (d : SlD) : Prop := ∀ (E : Emb) (b : Id), (d.n ≠ none → E.dom b ∧ E.pl b = d.pl) → VR E (slV d b) v

theorem rel_slice {a : Addr} {len cap : Nat} {d : SlD} (hn : d.n = some len) (hc : d.cap = cap) (hl : len ≤ cap) (hp : 0 < cap → a.spot = none ∧ d.pl.c = a.block ∧ d.pl.o = a.off) : SlRel (.slice (some a) len cap) d := by
  intro E b hd
  obtain ⟨d1, d2⟩ := hd (by rw [hn]; simp)
  unfold slV
  rw [hn]
  simp only [VR, hc]
  refine ⟨d1, hl, a, rfl, ?_⟩
  by_cases h0 : cap = 0
  · exact .inr h0
  · left
    obtain ⟨h1, h2, h3⟩ := hp (by omega)
    rw [d2]
    unfold Pl.addr
    rw [h2, h3]
    cases a
    simp only at h1
    subst h1
    rfl

theorem open_flat {α : Type} {t e : TypeId} {s : Nat} (ht : Tryz.prog.underlying t = some (.slice e)) (hs : Tryz.prog.cellsOf e = s) (hz : szOf Tryz.prog e = some s) (h0 : 0 < s) (mk : α → List V) (hmk : ∀ x, (mk x).length = s) (P : α → Prop) {B : Nat}
    (elem : ∀ {n : Nat} {cs : List Value} {x : DataW H × List MemPlace}, DataW.trod enc Tryz.prog W 0 (fun _ => true) true n e cs = some x → Rows.uptoBulk x.1 ≤ B → ∃ z, (∀ E, VRs E (mk z) cs) ∧ (∀ y ∈ cs, isCell y = true) ∧ P z)
    (hB : ∃ arr ty fz, W.heap[0]? = some (.cells arr ty fz)) {v : Value} {fuel : Nat} {y : DataW H × List MemPlace} (h : DataW.trod enc Tryz.prog W 0 (fun _ => true) true fuel t [v] = some y) (hy : Rows.uptoBulk y.1 ≤ B) :
    ∃ (d : SlD) (L : List α), SlRel v d ∧ (∀ E, d.emb W E) ∧ d.ty = e ∧ ((d.n = none ∧ L = []) ∨ (d.n = some L.length ∧ d.row = L.flatMap mk)) ∧ (∀ x ∈ L, P x) ∧ L.length ≤ B := by
  rcases open_raw ht hs h0 h with rfl | ⟨a, len, cap, n, D, rfl, hl, hlen, hD, hc⟩
  · exact ⟨⟨none, 0, ⟨0, 0, 0, 0⟩, e, []⟩, [], fun E b _ => by simp [slV, VR], fun E hn => absurd rfl hn, rfl, .inl ⟨rfl, rfl⟩, (fun x hx => by cases hx), Nat.zero_le _⟩
  · by_cases h1 : cap = 0
    · have hl0 : len = 0 := by omega
      subst h1 hl0
      obtain ⟨arr, ty, fz, hh⟩ := hB
      refine ⟨⟨some 0, 0, ⟨0, 0, arr.size, s⟩, e, []⟩, [], rel_slice rfl rfl (Nat.le_refl _) (fun h => absurd h (Nat.lt_irrefl 0)), fun E _ => ⟨?_, by rw [hz]; rfl, arr, ty, fz, hh, rfl, by simp, by simp [VRs], by simp, fun h => by cases h⟩, rfl, .inr ⟨rfl, rfl⟩, (fun x hx => by cases hx), Nat.zero_le _⟩
      rcases Nat.lt_or_ge 0 W.heap.size with h' | h'
      · exact h'
      · rw [Array.getElem?_eq_none h'] at hh; cases hh
    · obtain ⟨hspot, arr, ty, fz, hh, each⟩ := hc (by omega)
      have hlt : a.block < W.heap.size := by
        rcases Nat.lt_or_ge a.block W.heap.size with h' | h'
        · exact h'
        · rw [Array.getElem?_eq_none h'] at hh; cases hh
      obtain ⟨L, hL, hL2⟩ := mk_list (p := fun i z => (∀ E, VRs E (mk z) ((arr.toList.drop (a.off + i * s)).take s)) ∧ (∀ y ∈ (arr.toList.drop (a.off + i * s)).take s, isCell y = true) ∧ P z) len (fun i hi => by
        obtain ⟨_, Pp, ht'⟩ := each i (by omega)
        exact elem ht' (Nat.le_trans (hD i (by omega)) hy))
      subst hL
      have hfr : frow (fun _ => mk) 0 L = L.flatMap mk := by
        have : ∀ (L : List α) k, frow (fun _ => mk) k L = L.flatMap mk := by
          intro L
          induction L with
          | nil => intro k; rfl
          | cons x L ih => intro k; simp only [frow, List.flatMap_cons, ih]
        exact this L 0
      have hfl : (L.flatMap mk).length = L.length * s := by rw [← hfr]; exact frow_length (fun _ => hmk) L 0
      refine ⟨⟨some L.length, cap, ⟨a.block, a.off, arr.size, s⟩, e, L.flatMap mk⟩, L, rel_slice rfl rfl hl (fun _ => ⟨hspot, rfl, rfl⟩), fun E _ => ⟨hlt, by rw [hz]; rfl, arr, ty, fz, hh, rfl, ?_, ?_, ?_, fun h => by cases h⟩, rfl, .inr ⟨rfl, rfl⟩, fun x hx => ?_, by omega⟩
      · rw [hfl]
        rcases Nat.eq_zero_or_pos L.length with h' | h'
        · rw [h']
          obtain ⟨g, _⟩ := each 0 (by omega)
          rw [Nat.zero_mul]
          show a.off + 0 ≤ arr.size
          omega
        · obtain ⟨g, _⟩ := each (L.length - 1) (by omega)
          rw [show L.length - 1 + 1 = L.length by omega] at g
          exact g
      · have := (rows_list E arr.toList (fun _ => mk) s L 0 a.off (fun i x hx => ⟨(hL2 i x hx).1 E, (hL2 i x hx).2.1⟩)).1
        rw [hfr] at this
        rw [hfl]; exact this
      · have := (rows_list E arr.toList (fun _ => mk) s L 0 a.off (fun i x hx => ⟨(hL2 i x hx).1 E, (hL2 i x hx).2.1⟩)).2
        rw [hfl]; exact this
      · obtain ⟨i, hi⟩ := List.getElem?_of_mem hx
        exact (hL2 i x hi).2.2
end

end Go.AM

/-
  A script's functions, opened; and the memory that the run sees.
-/
set_option linter.unusedSectionVars false
set_option linter.unusedVariables false
set_option linter.unusedSimpArgs false
set_option maxRecDepth 100000
namespace Go.AM
open Go.Proofs Go.Proofs.YtmokkkbbbmcjnaaGreatDoor Go.RowKit Go.ChangeShapes Go.WideShapes Go.Deep

def IntsD (d : SlD) (l : List Int) : Prop := d.ty = 3 ∧ ((d.n = none ∧ l = []) ∨ (d.n = some l.length ∧ d.row = l.map i64))
def CodeD (d : SlD) (l : List (Int × Int)) : Prop := d.ty = 23 ∧ ((d.n = none ∧ l = []) ∨ (d.n = some l.length ∧ d.row = crow l))
def StrsD (d : SlD) (l : List (List UInt8)) : Prop := d.ty = 9 ∧ ((d.n = none ∧ l = []) ∨ (d.n = some l.length ∧ d.row = l.map V.str))

section
variable {H : Type} {enc : TypeId × Value → H} {W : World}

theorem open_int (hB : ∃ arr ty fz, W.heap[0]? = some (.cells arr ty fz)) {v : Value} {fuel B : Nat} {y : DataW H × List MemPlace} (h : DataW.trod enc Tryz.prog W 0 (fun _ => true) true fuel 29 [v] = some y) (hy : Rows.uptoBulk y.1 ≤ B) :
    ∃ d L, SlRel v d ∧ (∀ E, d.emb W E) ∧ IntsD d L ∧ L.length ≤ B := by
  obtain ⟨d, L, h1, h2, h3, h4, h5, h6⟩ := open_flat (s := 1) Tryz.underlying29 (by kernel_rfl) (by kernel_rfl) (by decide) (fun n : Int => [i64 n]) (fun _ => rfl) (fun _ => True) (B := B) (fun {n cs x} ht _ => by
    obtain ⟨m, rfl, _, _⟩ := DataW.trod_int Tryz.underlying3 ht
    exact ⟨m, fun E => by simp [VRs, VR], by simp [isCell], trivial⟩) hB h hy
  refine ⟨d, L, h1, h2, ⟨h3, ?_⟩, h6⟩
  rcases h4 with h4 | ⟨a, b⟩
  · exact .inl h4
  · exact .inr ⟨a, by rw [b]; clear a b h5 h6; induction L with | nil => rfl | cons x L ih => simp only [List.flatMap_cons, List.map_cons, ih]; rfl⟩
theorem open_str (hB : ∃ arr ty fz, W.heap[0]? = some (.cells arr ty fz)) {v : Value} {fuel B : Nat} {y : DataW H × List MemPlace} (h : DataW.trod enc Tryz.prog W 0 (fun _ => true) true fuel 37 [v] = some y) (hy : Rows.uptoBulk y.1 ≤ B) :
    ∃ d L, SlRel v d ∧ (∀ E, d.emb W E) ∧ StrsD d L ∧ (∀ c ∈ L, c.length ≤ B) ∧ L.length ≤ B := by
  obtain ⟨d, L, h1, h2, h3, h4, h5, h6⟩ := open_flat (s := 1) Tryz.underlying37 (by kernel_rfl) (by kernel_rfl) (by decide) (fun c : List UInt8 => [V.str c]) (fun _ => rfl) (fun c => c.length ≤ B) (B := B) (fun {n cs x} ht hb => by
    obtain ⟨s, rfl, rfl, _⟩ := DataW.trod_string Tryz.underlying9 ht
    refine ⟨s.data.toList, fun E => by simp [VRs, VR], by simp [isCell], ?_⟩
    simp only [Rows.uptoBulk] at hb
    omega) hB h hy
  refine ⟨d, L, h1, h2, ⟨h3, ?_⟩, h5, h6⟩
  rcases h4 with h4 | ⟨a, b⟩
  · exact .inl h4
  · exact .inr ⟨a, by rw [b]; clear a b h5 h6; induction L with | nil => rfl | cons x L ih => simp only [List.flatMap_cons, List.map_cons, ih]; rfl⟩
theorem in64_of {k : Int} (h : (Lit.int .i64 k).wf = true) : In64 k := by
  simp [Lit.wf, IntKind.min, IntKind.max, IntKind.signed, IntKind.bits] at h
  exact ⟨h.1, by omega⟩
theorem open_code2 (hB : ∃ arr ty fz, W.heap[0]? = some (.cells arr ty fz)) {v : Value} {fuel B : Nat} {y : DataW H × List MemPlace} (h : DataW.trod enc Tryz.prog W 0 (fun _ => true) true fuel 30 [v] = some y) (hy : Rows.uptoBulk y.1 ≤ B) :
    ∃ d L, SlRel v d ∧ (∀ E, d.emb W E) ∧ CodeD d L ∧ (∀ x ∈ L, In64 x.2) ∧ L.length ≤ B := by
  have c3 : Tryz.prog.cellsOf 3 = 1 := by kernel_rfl
  have c23 : Tryz.prog.cellsOf 23 = 2 := by kernel_rfl
  obtain ⟨d, L, h1, h2, h3, h4, h5, h6⟩ := open_flat (s := 2) Tryz.underlying30 c23 (by kernel_rfl) (by decide) (fun x : Int × Int => [i64 x.1, i64 x.2]) (fun _ => rfl) (fun x => In64 x.2) (B := B) (fun {n cs x} ht _ => by
    obtain ⟨y0, y1, n', hx, hl, g0, g1⟩ := trod_struct2 Tryz.underlying23 ht
    rw [c23] at hl
    match cs, hl with
    | [v0, v1], _ =>
      have g0 : DataW.trod enc Tryz.prog W 0 (fun _ => true) true n' 3 (List.take (Tryz.prog.cellsOf 3) [v0, v1]) = some y0 := g0
      have g1 : DataW.trod enc Tryz.prog W 0 (fun _ => true) true n' 3 (List.take (Tryz.prog.cellsOf 3) [v1]) = some y1 := g1
      rw [c3] at g0 g1
      obtain ⟨m0, e0, _, w0⟩ := DataW.trod_int Tryz.underlying3 g0
      obtain ⟨m1, e1, _, w1⟩ := DataW.trod_int Tryz.underlying3 g1
      have f0 : v0 = .int .i64 m0 := by simpa using e0
      have f1 : v1 = .int .i64 m1 := by simpa using e1
      subst f0 f1
      exact ⟨(m0, m1), fun E => by simp [VRs, VR], by simp [isCell], in64_of w1⟩) hB h hy
  refine ⟨d, L, h1, h2, ⟨h3, ?_⟩, h5, h6⟩
  rcases h4 with h4 | ⟨a, b⟩
  · exact .inl h4
  · exact .inr ⟨a, by rw [b]; clear a b h5 h6; induction L with | nil => rfl | cons x L ih => simp only [List.flatMap_cons, crow, ih]; rfl⟩

/-- A function's four slices. -/
structure FnD where
  p : SlD
  r : SlD
  l : SlD
  c : SlD
  f : Fn
def FnD.sl (d : FnD) : List SlD := [d.p, d.r, d.l, d.c]
structure FnD.ok (d : FnD) (W : World) : Prop where
  emb : ∀ s ∈ d.sl, ∀ E, s.emb W E
  p : IntsD d.p d.f.p
  r : IntsD d.r d.f.r
  l : IntsD d.l d.f.l
  c : CodeD d.c d.f.c
  small : d.f.small
  in64 : ∀ x ∈ d.f.c, In64 x.2
def FnRel (cs : List Value) (d : FnD) : Prop := ∃ v0 v1 v2 v3, cs = [v0, v1, v2, v3] ∧ SlRel v0 d.p ∧ SlRel v1 d.r ∧ SlRel v2 d.l ∧ SlRel v3 d.c

theorem open_fn (hB : ∃ arr ty fz, W.heap[0]? = some (.cells arr ty fz)) {cs : List Value} {fuel : Nat} {y : DataW H × List MemPlace} (h : DataW.trod enc Tryz.prog W 0 (fun _ => true) true fuel 32 cs = some y) (hy : Rows.uptoBulk y.1 ≤ 1048576) : ∃ d : FnD, FnRel cs d ∧ d.ok W := by
  have c29 : Tryz.prog.cellsOf 29 = 1 := by kernel_rfl
  have c30 : Tryz.prog.cellsOf 30 = 1 := by kernel_rfl
  have c32 : Tryz.prog.cellsOf 32 = 4 := by kernel_rfl
  obtain ⟨y0, y1, y2, y3, n, hx, hl, g0, g1, g2, g3⟩ := Joins.trod_struct4 Tryz.underlying32 h
  rw [c32] at hl
  match cs, hl with
  | [v0, v1, v2, v3], _ =>
    have g0 : DataW.trod enc Tryz.prog W 0 (fun _ => true) true n 29 (List.take (Tryz.prog.cellsOf 29) [v0, v1, v2, v3]) = some y0 := g0
    have g1 : DataW.trod enc Tryz.prog W 0 (fun _ => true) true n 29 (List.take (Tryz.prog.cellsOf 29) [v1, v2, v3]) = some y1 := g1
    have g2 : DataW.trod enc Tryz.prog W 0 (fun _ => true) true n 29 (List.take (Tryz.prog.cellsOf 29) [v2, v3]) = some y2 := g2
    have g3 : DataW.trod enc Tryz.prog W 0 (fun _ => true) true n 30 (List.take (Tryz.prog.cellsOf 30) [v3]) = some y3 := g3
    rw [c29] at g0 g1 g2
    rw [c30] at g3
    rw [hx] at hy
    simp only [Rows.uptoBulk, Rows.uptoBulkAll] at hy
    obtain ⟨d0, l0, a0, b0, e0, z0⟩ := open_int hB (B := 1048576) g0 (by omega)
    obtain ⟨d1, l1, a1, b1, e1, z1⟩ := open_int hB (B := 1048576) g1 (by omega)
    obtain ⟨d2, l2, a2, b2, e2, z2⟩ := open_int hB (B := 1048576) g2 (by omega)
    obtain ⟨d3, l3, a3, b3, e3, i3, z3⟩ := open_code2 hB (B := 1048576) g3 (by omega)
    refine ⟨⟨d0, d1, d2, d3, ⟨l0, l1, l2, l3⟩⟩, ⟨v0, v1, v2, v3, rfl, a0, a1, a2, a3⟩, ⟨fun s hs E => ?_, e0, e1, e2, e3, ⟨z0, z1, z2, z3⟩, i3⟩⟩
    simp only [FnD.sl, List.mem_cons, List.not_mem_nil, or_false] at hs
    rcases hs with rfl | rfl | rfl | rfl
    · exact b0 E
    · exact b1 E
    · exact b2 E
    · exact b3 E

theorem rel_cell {v : Value} {d : SlD} {E : Emb} {b : Id} (h : VR E (slV d b) v) : isCell v = true := by
  unfold slV at h
  split at h
  · simp only [VR] at h; subst h; rfl
  · simp only [VR] at h; obtain ⟨_, _, a, rfl, _⟩ := h; rfl

def mkF (j : Nat) (d : FnD) : List V := [slV d.p (2 + 4 * j), slV d.r (2 + 4 * j + 1), slV d.l (2 + 4 * j + 2), slV d.c (2 + 4 * j + 3)]
/-- Where a function's blocks stand. -/
def Placed (E : Emb) (fs : List FnD) : Prop := ∀ j d, fs[j]? = some d → ∀ k s, d.sl[k]? = some s → s.n ≠ none → E.dom (2 + 4 * j + k) ∧ E.pl (2 + 4 * j + k) = s.pl

theorem open_funcs (hB : ∃ arr ty fz, W.heap[0]? = some (.cells arr ty fz)) {v : Value} {fuel : Nat} {y : DataW H × List MemPlace} (h : DataW.trod enc Tryz.prog W 0 (fun _ => true) true fuel 36 [v] = some y) (hy : Rows.uptoBulk y.1 ≤ 1048576) :
    ∃ (d : SlD) (fs : List FnD), SlRel v d ∧ d.ty = 32 ∧ ((d.n = none ∧ fs = []) ∨ d.n = some fs.length) ∧ d.row = frow mkF 0 fs ∧ (∀ f ∈ fs, f.ok W) ∧ fs.length ≤ 1048576 ∧ ∀ E, Placed E fs → d.emb W E := by
  have c32 : Tryz.prog.cellsOf 32 = 4 := by kernel_rfl
  have z32 : szOf Tryz.prog 32 = some 4 := by kernel_rfl
  rcases open_raw (s := 4) Tryz.underlying36 c32 (by decide) h with rfl | ⟨a, len, cap, n, D, rfl, hl, hlen, hD, hc⟩
  · exact ⟨⟨none, 0, ⟨0, 0, 0, 0⟩, 32, []⟩, [], fun E b _ => by simp [slV, VR], rfl, .inl ⟨rfl, rfl⟩, rfl, (fun x hx => by cases hx), Nat.zero_le _, fun E _ hn => absurd rfl hn⟩
  · by_cases h1 : cap = 0
    · have hl0 : len = 0 := by omega
      subst h1 hl0
      obtain ⟨arr, ty, fz, hh⟩ := hB
      refine ⟨⟨some 0, 0, ⟨0, 0, arr.size, 4⟩, 32, []⟩, [], rel_slice rfl rfl (Nat.le_refl _) (fun h => absurd h (Nat.lt_irrefl 0)), rfl, .inr rfl, rfl, (fun x hx => by cases hx), Nat.zero_le _, fun E _ _ => ⟨?_, by rw [z32]; rfl, arr, ty, fz, hh, rfl, by simp, by simp [VRs], by simp, fun h => by cases h⟩⟩
      rcases Nat.lt_or_ge 0 W.heap.size with h' | h'
      · exact h'
      · rw [Array.getElem?_eq_none h'] at hh; cases hh
    · obtain ⟨hspot, arr, ty, fz, hh, each⟩ := hc (by omega)
      have hlt : a.block < W.heap.size := by
        rcases Nat.lt_or_ge a.block W.heap.size with h' | h'
        · exact h'
        · rw [Array.getElem?_eq_none h'] at hh; cases hh
      obtain ⟨fs, hL, hL2⟩ := mk_list (p := fun i (d : FnD) => FnRel ((arr.toList.drop (a.off + i * 4)).take 4) d ∧ d.ok W) len (fun i hi => by
        obtain ⟨_, Pp, ht'⟩ := each i (by omega)
        exact open_fn hB ht' (Nat.le_trans (hD i (by omega)) hy))
      subst hL
      have hfl : (frow mkF 0 fs).length = fs.length * 4 := frow_length (mk := mkF) (s := 4) (fun _ _ => rfl) fs 0
      have key : ∀ E, Placed E fs → VRs E (frow mkF 0 fs) ((arr.toList.drop a.off).take (fs.length * 4)) ∧ ∀ y ∈ (arr.toList.drop a.off).take (fs.length * 4), isCell y = true := fun E hE => rows_list E arr.toList mkF 4 fs 0 a.off (fun i d hd => by
        obtain ⟨⟨v0, v1, v2, v3, ecs, r0, r1, r2, r3⟩, _⟩ := hL2 i d hd
        rw [ecs]
        have q0 := r0 E (2 + 4 * i) (fun hn => hE i d hd 0 d.p rfl hn)
        have q1 := r1 E (2 + 4 * i + 1) (fun hn => hE i d hd 1 d.r rfl hn)
        have q2 := r2 E (2 + 4 * i + 2) (fun hn => hE i d hd 2 d.l rfl hn)
        have q3 := r3 E (2 + 4 * i + 3) (fun hn => hE i d hd 3 d.c rfl hn)
        rw [Nat.zero_add]
        refine ⟨?_, fun y hy => ?_⟩
        · simp only [mkF, VRs]
          exact ⟨_, _, rfl, q0, _, _, rfl, q1, _, _, rfl, q2, _, _, rfl, q3, rfl⟩
        · simp only [List.mem_cons, List.not_mem_nil, or_false] at hy
          rcases hy with rfl | rfl | rfl | rfl
          · exact rel_cell q0
          · exact rel_cell q1
          · exact rel_cell q2
          · exact rel_cell q3)
      refine ⟨⟨some fs.length, cap, ⟨a.block, a.off, arr.size, 4⟩, 32, frow mkF 0 fs⟩, fs, rel_slice rfl rfl hl (fun _ => ⟨hspot, rfl, rfl⟩), rfl, .inr rfl, rfl, fun f hf => ?_, by omega, fun E hE _ => ⟨hlt, by rw [z32]; rfl, arr, ty, fz, hh, rfl, ?_, by rw [hfl]; exact (key E hE).1, by rw [hfl]; exact (key E hE).2, fun h => by cases h⟩⟩
      · obtain ⟨i, hi⟩ := List.getElem?_of_mem hf
        exact (hL2 i f hi).2
      · rw [hfl]
        rcases Nat.eq_zero_or_pos fs.length with h' | h'
        · rw [h']
          obtain ⟨g, _⟩ := each 0 (by omega)
          show a.off + 0 * 4 ≤ arr.size
          omega
        · obtain ⟨g, _⟩ := each (fs.length - 1) (by omega)
          rw [show fs.length - 1 + 1 = fs.length by omega] at g
          exact g
end

/-! ### The memory -/

theorem flat4 {α β : Type} (g : α → List β) (hg : ∀ x, (g x).length = 4) : ∀ (L : List α) (j k : Nat) (x : α), L[j]? = some x → k < 4 → (L.flatMap g)[4 * j + k]? = (g x)[k]?
  | y :: L, 0, k, x, h, hk => by
    simp at h
    subst h
    simp only [List.flatMap_cons, Nat.mul_zero, Nat.zero_add]
    rw [List.getElem?_append_left (by rw [hg]; exact hk)]
  | y :: L, j + 1, k, x, h, hk => by
    have ih := flat4 g hg L j k x (by simpa using h) hk
    simp only [List.flatMap_cons]
    rw [List.getElem?_append_right (by rw [hg]; omega), hg, show 4 * (j + 1) + k - 4 = 4 * j + k by omega]
    exact ih
  | [], j, k, x, h, hk => by simp at h

def slotsOf (dc df : SlD) (fs : List FnD) : List SlD := dc :: df :: fs.flatMap FnD.sl
def embOf (sl : List SlD) : Emb := ⟨fun b => ∃ d, sl[b]? = some d ∧ d.n ≠ none, fun b => match sl[b]? with | some d => d.pl | none => ⟨0, 0, 0, 0⟩⟩
def heapOf (sl : List SlD) : Heap := allocs h0 (sl.map SlD.obj)
theorem heapOf_get (sl : List SlD) (b : Nat) : (heapOf sl).get b = (sl[b]?).map SlD.obj := by
  unfold heapOf
  rw [allocs_get]
  simp [show h0.next = 0 from rfl]
theorem heapOf_next (sl : List SlD) : (heapOf sl).next = sl.length := by
  unfold heapOf
  rw [allocs_next]
  simp [show h0.next = 0 from rfl]
theorem obj_cells {d : SlD} {ro : Bool} {ty : TypeId} {l : List V} (h : d.obj = .cells ro ty l) : d.n ≠ none ∧ ro = true ∧ ty = d.ty ∧ l = d.row := by
  unfold SlD.obj at h
  split at h
  · cases h
  · rename_i n hn; cases h; exact ⟨by rw [hn]; simp, rfl, rfl, rfl⟩

theorem heapOf_ok {w : World} {lim : Nat} (sl : List SlD) (hs : ∀ d ∈ sl, d.emb w (embOf sl)) (G : Glob.ok Tryz.prog (fun c => w.heap.size ≤ c) w) : HR Tryz.prog (fun c => w.heap.size ≤ c) lim (embOf sl) (heapOf sl) w := by
  have pl : ∀ b d, sl[b]? = some d → (embOf sl).pl b = d.pl := fun b d h => by simp only [embOf, h]
  have cells : ∀ b ro ty l, (heapOf sl).get b = some (.cells ro ty l) → ro = true ∧ ((embOf sl).pl b).esz = (szOf Tryz.prog ty).getD 0 ∧ RowIn (embOf sl) true l ((embOf sl).pl b).c ((embOf sl).pl b).o ((embOf sl).pl b).csz w.heap := by
    intro b ro ty l hg
    rw [heapOf_get] at hg
    simp only [Option.map_eq_some_iff] at hg
    obtain ⟨d, hd, ho⟩ := hg
    obtain ⟨hn, rfl, rfl, rfl⟩ := obj_cells ho
    obtain ⟨_, e2, e3⟩ := hs d (List.mem_of_getElem? hd) hn
    rw [pl b d hd]
    exact ⟨rfl, e2, e3⟩
  have norw : ∀ b, isRw ((heapOf sl).get b) = true → False := by
    intro b hrw
    cases hg : (heapOf sl).get b with
    | none => rw [hg] at hrw; cases hrw
    | some x =>
      rw [hg] at hrw
      rw [heapOf_get] at hg
      simp only [Option.map_eq_some_iff] at hg
      obtain ⟨d, hd, rfl⟩ := hg
      unfold SlD.obj at hrw
      split at hrw <;> cases hrw
  refine ⟨fun b ⟨d, hd, _⟩ => .inl ?_, fun b ⟨d, hd, hn⟩ => ?_, fun b ro ty l _ hg => ?_, fun b _ hrw => (norw b hrw).elim, fun b ro ty l _ hg => (cells b ro ty l hg).2.1, fun b b' _ _ _ hrw => (norw b hrw).elim, fun _ h => h, G, fun b ty l _ hg => ?_⟩
  · rw [heapOf_next]; exact lt_of_get hd
  · rw [pl b d hd]
    exact (hs d (List.mem_of_getElem? hd) hn).1
  · obtain ⟨rfl, _, e⟩ := cells b ro ty l hg
    exact e
  · have := (cells b _ ty l hg).1
    cases this

theorem get_obj {sl : List SlD} {b : Nat} {d : SlD} (h : sl[b]? = some d) : (heapOf sl).get b = some d.obj := by rw [heapOf_get, h]; rfl
theorem ints_at {sl : List SlD} {b : Nat} {d : SlD} {l : List Int} (h : sl[b]? = some d) (hd : IntsD d l) : IntsAt (heapOf sl) (slV d b) l := by
  have hg := get_obj h
  unfold SlD.obj at hg
  unfold slV
  rcases hd.2 with ⟨h1, h2⟩ | ⟨h1, h2⟩
  · rw [h1]; exact .inl ⟨rfl, h2⟩
  · rw [h1] at hg ⊢
    simp only [hd.1, h2] at hg
    exact .inr ⟨b, _, true, rfl, hg⟩
theorem code_at {sl : List SlD} {b : Nat} {d : SlD} {l : List (Int × Int)} (h : sl[b]? = some d) (hd : CodeD d l) : CodeAt (heapOf sl) (slV d b) l := by
  have hg := get_obj h
  unfold SlD.obj at hg
  unfold slV
  rcases hd.2 with ⟨h1, h2⟩ | ⟨h1, h2⟩
  · rw [h1]; exact .inl ⟨rfl, h2⟩
  · rw [h1] at hg ⊢
    simp only [hd.1, h2] at hg
    exact .inr ⟨b, _, true, rfl, hg⟩
theorem strs_at {sl : List SlD} {b : Nat} {d : SlD} {l : List (List UInt8)} (h : sl[b]? = some d) (hd : StrsD d l) : StrsAt (heapOf sl) (slV d b) l := by
  have hg := get_obj h
  unfold SlD.obj at hg
  unfold slV
  rcases hd.2 with ⟨h1, h2⟩ | ⟨h1, h2⟩
  · rw [h1]; exact .inl ⟨rfl, h2⟩
  · rw [h1] at hg ⊢
    simp only [hd.1, h2] at hg
    exact .inr ⟨b, _, true, rfl, hg⟩

theorem slot_at {dc df : SlD} {fs : List FnD} {j k : Nat} {d : FnD} (hd : fs[j]? = some d) (hk : k < 4) : (slotsOf dc df fs)[2 + 4 * j + k]? = d.sl[k]? := by
  unfold slotsOf
  rw [show 2 + 4 * j + k = (4 * j + k) + 1 + 1 by omega]
  simp only [List.getElem?_cons_succ]
  exact flat4 FnD.sl (fun _ => rfl) fs j k d hd hk

/-- What the run sees. -/
theorem sc_at {w : World} {dc df : SlD} {fs : List FnD} {cs : List (List UInt8)} (hc : StrsD dc cs) (ht : df.ty = 32) (hn : (df.n = none ∧ fs = []) ∨ df.n = some fs.length) (hr : df.row = frow mkF 0 fs) (hf : ∀ f ∈ fs, f.ok w) : ScAt (heapOf (slotsOf dc df fs)) [slV dc 0, slV df 1] ⟨cs, fs.map FnD.f⟩ := by
  refine ⟨_, _, rfl, strs_at rfl hc, ?_⟩
  rcases hn with ⟨h1, h2⟩ | h1
  · subst h2
    refine .inl ⟨by unfold slV; rw [h1], rfl⟩
  · have hg : (heapOf (slotsOf dc df fs)).get 1 = some df.obj := get_obj rfl
    unfold SlD.obj at hg
    rw [h1] at hg
    simp only [ht, hr] at hg
    refine .inr ⟨1, some df.cap, true, frow mkF 0 fs, by unfold slV; rw [h1]; simp, hg, by rw [frow_length (mk := mkF) (s := 4) (fun _ _ => rfl)]; simp, fun i f hfi => ?_⟩
    simp only [List.getElem?_map, Option.map_eq_some_iff] at hfi
    obtain ⟨d, hd, rfl⟩ := hfi
    have ok := hf d (List.mem_of_getElem? hd)
    rw [frow_get (mk := mkF) (s := 4) (fun _ _ => rfl) fs 0 i d hd, Nat.zero_add]
    exact ⟨_, _, _, _, rfl, ints_at (slot_at (k := 0) hd (by decide)) ok.p, ints_at (slot_at (k := 1) hd (by decide)) ok.r, ints_at (slot_at (k := 2) hd (by decide)) ok.l, code_at (slot_at (k := 3) hd (by decide)) ok.c⟩
theorem placed_of {dc df : SlD} {fs : List FnD} : Placed (embOf (slotsOf dc df fs)) fs := by
  intro j d hd k s hs hn
  have hk : k < 4 := by
    have := lt_of_get hs
    exact this
  have e := slot_at (dc := dc) (df := df) hd hk
  rw [hs] at e
  exact ⟨⟨s, e, hn⟩, by simp only [embOf, e]⟩

/-- From the run to the call. -/
theorem law_parts {w : World} (G : Glob.ok Tryz.prog (fun c => w.heap.size ≤ c) w) {dc df : SlD} {fs : List FnD} {cs : List (List UInt8)} {v0 v1 : Value} (r0 : SlRel v0 dc) (r1 : SlRel v1 df) (ec : ∀ E, dc.emb w E) (ef : ∀ E, Placed E fs → df.emb w E) (hc : StrsD dc cs) (hcl : ∀ c ∈ cs, c.length ≤ 1048576) (hcn : cs.length ≤ 1048576)
    (ht : df.ty = 32) (hn : (df.n = none ∧ fs = []) ∨ df.n = some fs.length) (hr : df.row = frow mkF 0 fs) (hf : ∀ f ∈ fs, f.ok w) (hfn : fs.length ≤ 1048576) :
    Calls Tryz.prog 7 ⟨[.agg ⟨[v0, v1]⟩]⟩ w fun e w' => e = .returned (.bool true) ∧ Go.RowKit.Below w.heap.size w w' := by
  have hsc := sc_at (w := w) hc ht hn hr hf
  obtain ⟨h', hrun⟩ := parts_run hsc ⟨hcn, by simpa using hfn, (fun f hf' => by
    obtain ⟨d, hd, rfl⟩ := List.mem_map.1 hf'
    exact (hf d hd).small), hcl⟩ (fun f hf' => by
    obtain ⟨d, hd, rfl⟩ := List.mem_map.1 hf'
    exact (hf d hd).in64)
  have all : ∀ d ∈ slotsOf dc df fs, d.emb w (embOf (slotsOf dc df fs)) := by
    intro d hd
    unfold slotsOf at hd
    rcases List.mem_cons.1 hd with rfl | hd
    · exact ec _
    · rcases List.mem_cons.1 hd with rfl | hd
      · exact ef _ placed_of
      · obtain ⟨f, hff, hdf⟩ := List.mem_flatMap.1 hd
        exact (hf f hff).emb d hdf _
  have H0 := heapOf_ok (lim := h'.next) (slotsOf dc df fs) all G
  have q0 := r0 (embOf (slotsOf dc df fs)) 0 (fun hn => ⟨⟨dc, rfl, hn⟩, rfl⟩)
  have q1 := r1 (embOf (slotsOf dc df fs)) 1 (fun hn => ⟨⟨df, rfl, hn⟩, rfl⟩)
  have hv : VRs (embOf (slotsOf dc df fs)) [.agg [slV dc 0, slV df 1]] [.agg ⟨[v0, v1]⟩] := by
    simp only [VR, VRs]
    refine ⟨_, _, rfl, ⟨_, rfl, ⟨_, _, rfl, q0, _, _, rfl, q1, rfl⟩, ?_⟩, rfl⟩
    intro y hy
    simp only [List.mem_cons, List.not_mem_nil, or_false] at hy
    rcases hy with rfl | rfl
    · exact rel_cell q0
    · exact rel_cell q1
  refine Calls.mono (callN_ok mixed Y7 Y7_ok Y7_mono NF 7 _ _ _ h' hrun (fun c => w.heap.size ≤ c) h'.next _ w _ (Nat.le_refl _) H0 hv) ?_
  rintro e w' ⟨x, E', rfl, _, hx, fw⟩
  simp only [VR] at hx
  have hs := fw.same
  exact ⟨by rw [hx], hs.os, hs.tape, hs.output, hs.size, fun k hk => hs.heap k (Nat.not_le.2 hk)⟩

end Go.AM
