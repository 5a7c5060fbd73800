/-
  An argument api.Func: its rows of numbers, read out of the statement's hypothesis.
-/
import Derived.Test.YtmokkkbbbmcjnaaGreatDoorAsH15
import Derived.Deep.Slices
import Derived.Lib.SmallJoins
import Derived.OpenShut
import Derived.Test.YtmokkkbbbmcjnaaGreatDoorRows
set_option linter.unusedVariables false
set_option linter.unusedSimpArgs false
set_option maxRecDepth 100000
namespace Go.AM
open Go.Proofs Go.Proofs.YtmokkkbbbmcjnaaGreatDoor Go.RowKit Go.ChangeShapes Go.WideShapes Go.Deep

section
variable {H : Type} {enc : TypeId × Value → H} {W : World} {b0 : Nat}

theorem bulk_one (d : DataW H) : 1 ≤ Rows.uptoBulk d := by
  cases d with
  | lit l => cases l <;> simp [Rows.uptoBulk]
  | nil => simp [Rows.uptoBulk]
  | ptr d => simp [Rows.uptoBulk]
  | slice elems spare => simp [Rows.uptoBulk]
  | agg parts => simp [Rows.uptoBulk]
  | iface t d => simp [Rows.uptoBulk]
  | map entries => simp [Rows.uptoBulk]
  | held h => simp [Rows.uptoBulk]
theorem bulk_length : ∀ l : List (DataW H), l.length ≤ Rows.uptoBulkAll l
  | [] => by simp [Rows.uptoBulkAll]
  | d :: l => by
    have := bulk_length l
    have := bulk_one d
    simp only [List.length_cons, Rows.uptoBulkAll]
    omega

theorem slice_arr {t e : TypeId} {a : Addr} {len cap : Nat} (ht : Tryz.prog.underlying t = some (.slice e)) (hval : Cell.okWide Tryz.prog W .any b0 t (.slice (some a) len cap)) :
    a.spot = none ∧ a.block < W.heap.size ∧ ∃ arr ty fz, W.heap[a.block]? = some (.cells arr ty fz) := by
  have hok : W.has Tryz.prog .any b0 a e cap := by
    simp only [Cell.okWide, ht, Cell.ok] at hval
    exact hval.2.2
  obtain ⟨_, hspot, row, cells, hshape, _⟩ := hok
  obtain ⟨arr, ty, fz, hheap⟩ : ∃ arr ty fz, W.heap[a.block]? = some (.cells arr ty fz) := by
    unfold World.shape? at hshape
    split at hshape
    · rename_i c e f hc; exact ⟨c, e, f, hc⟩
    · cases hshape
  refine ⟨hspot, ?_, arr, ty, fz, hheap⟩
  rcases Nat.lt_or_ge a.block W.heap.size with h | h
  · exact h
  · rw [Array.getElem?_eq_none h] at hheap; cases hheap

theorem ints_rel (E : Emb) (arr : List Value) : ∀ (l : List Int) (o : Nat), (∀ (i : Nat) n, l[i]? = some n → arr[o + i]? = some (.int .i64 n)) →
    VRs E (l.map i64) ((arr.drop o).take l.length) ∧ (∀ y ∈ (arr.drop o).take l.length, isCell y = true) ∧ (0 < l.length → o + l.length ≤ arr.length)
  | [], o, h => by simp [VRs]
  | x :: l, o, h => by
    have h0 := h 0 x rfl
    have ih := ints_rel E arr l (o + 1) (fun i n hn => by
      have := h (i + 1) n (by simpa using hn)
      rw [show o + (i + 1) = o + 1 + i by omega] at this
      exact this)
    have hlt : o < arr.length := by
      rcases Nat.lt_or_ge o arr.length with h' | h'
      · exact h'
      · rw [show o + 0 = o from rfl, List.getElem?_eq_none h'] at h0; cases h0
    have e : arr.drop o = .int .i64 x :: arr.drop (o + 1) := by
      rw [List.drop_eq_getElem_cons hlt]
      rw [show o + 0 = o from rfl, List.getElem?_eq_getElem hlt] at h0
      rw [Option.some.inj h0]
    rw [e]
    simp only [List.length_cons, List.take_succ_cons, List.map_cons, VRs]
    refine ⟨⟨_, _, rfl, by simp [VR], ih.1⟩, ?_, ?_⟩
    · intro y hy
      simp only [List.mem_cons] at hy
      rcases hy with rfl | hy
      · rfl
      · exact ih.2.1 y hy
    · intro _
      rcases Nat.eq_zero_or_pos l.length with hz | hp
      · rw [hz]; omega
      · have := ih.2.2 hp; omega

/-- A slice of numbers: nil, or a row. -/
theorem open_ints {v : Value} {fuel : Nat} {y : DataW H × List MemPlace} (hval : Cell.okWide Tryz.prog W .any b0 29 v) (h : DataW.trod enc Tryz.prog W 0 (fun _ => true) true fuel 29 [v] = some y) :
    ∃ (o : Option (List Int)) (cp : Option Nat) (pl : Pl), (ints o).length ≤ Rows.uptoBulk y.1 ∧ (∀ (E : Emb) (b : Id), (o ≠ none → E.dom b ∧ E.pl b = pl) → VR E (svQ (vrow o) cp b) v) ∧
      (∀ L, o = some L → pl.c < W.heap.size ∧ pl.esz = 1 ∧ ∀ E, RowIn E true (L.map i64) pl.c pl.o pl.csz W.heap) := by
  have c3 : Tryz.prog.cellsOf 3 = 1 := by kernel_rfl
  rcases open_slice1 Tryz.underlying29 c3 h with ⟨h0, _⟩ | ⟨a, len, cap, m, n, Vv, D, Pp, h0, hb, hl, hm, hmm, hy, hx⟩
  · have h0 : v = .slice none 0 0 := by simpa using h0
    subst h0
    exact ⟨none, none, ⟨0, 0, 0, 1⟩, Nat.le_trans (Nat.zero_le _) (bulk_one _), (fun E b _ => by simp [vrow, svQ, VR]), fun L hL => by cases hL⟩
  · have h0 : v = .slice (some a) len cap := by simpa using h0
    subst h0
    obtain ⟨hspot, hlt, arr, ty, fz, hheap⟩ := slice_arr Tryz.underlying29 hval
    have hmc : m = cap := by rw [hmm]; simp
    have each0 : ∀ i, i < cap → ∃ k : Int, arr[a.off + i]? = some (.int .i64 k) := by
      intro i hi
      obtain ⟨e1, e2⟩ := hx i (by omega)
      obtain ⟨k, ek, _, _⟩ := DataW.trod_int Tryz.underlying3 e2
      have ek : Vv i = .int .i64 k := by simpa using ek
      rw [ek] at e1
      have hadd : a.add i = ⟨a.block, a.off + i, none⟩ := by
        cases a
        simp only at hspot
        subst hspot
        unfold Addr.add
        split <;> simp_all
      rw [hadd] at e1
      simp only [World.cell?, hheap] at e1
      exact ⟨k, by simpa using e1⟩
    have hoff : 0 < cap → a.off ≤ arr.size := fun hc => by
      obtain ⟨k, g0⟩ := each0 0 hc
      rcases Nat.lt_or_ge (a.off + 0) arr.size with h' | h'
      · omega
      · rw [Array.getElem?_eq_none h'] at g0; cases g0
    obtain ⟨L, hL, hL2⟩ : ∃ L : List Int, L.length = len ∧ ∀ (i : Nat) k, L[i]? = some k → arr[a.off + i]? = some (.int .i64 k) := by
      have each := fun i (hi : i < len) => each0 i (by omega)
      clear each0 hx hy hval h hl hm hmm hmc hoff h0
      induction len with
      | zero => exact ⟨[], rfl, fun i y hy => by simp at hy⟩
      | succ k ih =>
        obtain ⟨l, e1, e2⟩ := ih (fun i hi => each i (by omega))
        obtain ⟨y, hy⟩ := each k (by omega)
        refine ⟨l ++ [y], by simp [e1], fun i z hz => ?_⟩
        rcases Nat.lt_or_ge i l.length with h | h
        · rw [List.getElem?_append_left h] at hz; exact e2 i z hz
        · rw [List.getElem?_append_right h] at hz
          have : i - l.length = 0 := by
            rcases Nat.eq_zero_or_pos (i - l.length) with h' | h'
            · exact h'
            · rw [List.getElem?_eq_none (by simp; omega)] at hz; cases hz
          rw [this] at hz
          simp at hz
          subst hz
          have : i = k := by omega
          subst this
          exact hy
    subst hL
    refine ⟨some L, some cap, ⟨a.block, if cap = 0 then 0 else a.off, arr.size, 1⟩, ?_, ?_, ?_⟩
    · rw [hy]
      show L.length ≤ _
      simp only [Rows.uptoBulk]
      have := bulk_length ((List.range L.length).map D)
      rw [List.length_map, List.length_range] at this
      omega
    · intro E b hd
      obtain ⟨d1, d2⟩ := hd (by simp)
      have es : svQ (vrow (some L)) (some cap) b = .slice b 0 L.length (some cap) := by simp [svQ, vrow]
      rw [es]
      simp only [VR]
      refine ⟨d1, hl, a, rfl, ?_⟩
      rw [d2]
      by_cases hc : cap = 0
      · exact .inr hc
      · left
        show a = ⟨a.block, (if cap = 0 then 0 else a.off) + 0, none⟩
        rw [if_neg hc]
        cases a
        simp only at hspot
        subst hspot
        rfl
    · intro L' hL'
      cases hL'
      refine ⟨hlt, rfl, fun E => ?_⟩
      show RowIn E true (L.map i64) a.block (if cap = 0 then 0 else a.off) arr.size W.heap
      by_cases hc : cap = 0
      · have hl : L = [] := List.length_eq_zero_iff.1 (by omega)
        subst hl
        exact ⟨arr, ty, fz, hheap, rfl, by rw [if_pos hc]; simp, by simp [VRs], by simp, fun h => by cases h⟩
      · rw [if_neg hc]
        obtain ⟨k1, k2, k3⟩ := ints_rel E arr.toList L a.off (fun i y hy => by simpa using hL2 i y hy)
        by_cases hl : L = []
        · subst hl
          exact ⟨arr, ty, fz, hheap, rfl, by simpa using hoff (by omega), by simp [VRs], by simp, fun h => by cases h⟩
        · have hpos : 0 < L.length := List.length_pos_iff.2 hl
          refine ⟨arr, ty, fz, hheap, rfl, ?_, by rw [List.length_map]; exact k1, by rw [List.length_map]; exact k2, fun h => by cases h⟩
          have := k3 hpos
          rw [List.length_map]
          simpa using this

/-- A slice that is not looked at. -/
theorem open_code {v : Value} {fuel : Nat} {y : DataW H × List MemPlace} (hval : Cell.okWide Tryz.prog W .any b0 30 v) (h : DataW.trod enc Tryz.prog W 0 (fun _ => true) true fuel 30 [v] = some y) :
    ∃ (o : Option (Nat × Option Nat)) (pl : Pl), (∀ (E : Emb) (b : Id), (o ≠ none → E.dom b ∧ E.pl b = pl) → VR E (sv4 o b) v) ∧ (o ≠ none → pl.c < W.heap.size) := by
  rcases open_slice Tryz.underlying30 h with ⟨h0, _⟩ | ⟨a, len, cap, m, n, D, Pp, h0, hb, hl, hm, hmm, hy, hx⟩
  · have h0 : v = .slice none 0 0 := by simpa using h0
    subst h0
    exact ⟨none, ⟨0, 0, 0, 1⟩, (fun E b _ => by simp [sv4, VR]), fun hL => absurd rfl hL⟩
  · have h0 : v = .slice (some a) len cap := by simpa using h0
    subst h0
    obtain ⟨hspot, hlt, arr, ty, fz, hheap⟩ := slice_arr Tryz.underlying30 hval
    refine ⟨some (len, some cap), ⟨a.block, a.off, arr.size, 1⟩, ?_, fun _ => hlt⟩
    intro E b hd
    obtain ⟨d1, d2⟩ := hd (by simp)
    simp only [sv4, VR]
    refine ⟨d1, hl, a, rfl, .inl ?_⟩
    rw [d2]
    show a = ⟨a.block, a.off + 0, none⟩
    cases a
    simp only at hspot
    subst hspot
    rfl

/-- A cell of an aggregate of one-cell fields. -/
theorem cell_wide {t : TypeId} {fs : Array Field} {ts : List TypeId} {cs : Array Value} (hs : Tryz.prog.underlying t = some (.struct fs)) (hts : Tryz.prog.cellTypes Tryz.prog.depth t = some ts) (hval : Value.okWide Tryz.prog W .any b0 t (.agg cs)) {i : Nat} {u : TypeId} {v : Value} (hi : i < ts.length) (hu : ts[i]? = some u) (hv : cs[i]? = some v) : Cell.okWide Tryz.prog W .any b0 u v := by
  simp only [Value.okWide, hs] at hval
  obtain ⟨cs', hc, _, ts', h1, _, h2⟩ := hval
  cases hc
  rw [hts] at h1
  cases h1
  obtain ⟨u', e1, e2⟩ := h2 i v hv
  rw [Nat.mod_eq_of_lt hi, hu] at e1
  cases e1
  exact e2
end

end Go.AM

/-
  From the run of heads to the call, over a record read out of the statement's hypothesis.
-/
set_option linter.unusedVariables false
set_option linter.unusedSimpArgs false
namespace Go.AM
open Go.Proofs Go.RowKit

theorem svQ_cell {E : Emb} {o : Option (List V)} {cp : Option Nat} {b : Id} {v : Value} (h : VR E (svQ o cp b) v) : isCell v = true := by
  cases o with
  | none => simp only [svQ, VR] at h; subst h; rfl
  | some r => cases cp with
    | none => simp only [svQ, VR] at h; obtain ⟨_, _, a, rfl, _⟩ := h; rfl
    | some c => simp only [svQ, VR] at h; obtain ⟨_, _, a, rfl, _⟩ := h; rfl
theorem sv4_cell {E : Emb} {o : Option (Nat × Option Nat)} {b : Id} {v : Value} (h : VR E (sv4 o b) v) : isCell v = true := by
  cases o with
  | none => simp only [sv4, VR] at h; subst h; rfl
  | some r =>
    obtain ⟨k, cp⟩ := r
    cases cp with
    | none => simp only [sv4, VR] at h; obtain ⟨_, _, a, rfl, _⟩ := h; rfl
    | some c => simp only [sv4, VR] at h; obtain ⟨_, _, a, rfl, _⟩ := h; rfl

def plF (p0 p1 p2 p3 : Pl) : Id → Pl := fun b => match b with | 0 => p0 | 1 => p1 | 2 => p2 | _ => p3
def Emb4 (p0 p1 p2 p3 : Pl) (n0 n1 n2 n3 : Prop) : Emb := ⟨fun b => (b = 0 ∧ n0) ∨ (b = 1 ∧ n1) ∨ (b = 2 ∧ n2) ∨ (b = 3 ∧ n3), plF p0 p1 p2 p3⟩

theorem rdH_some {o1 o2 o3 : Option (List Int)} {n3 : Prop} {p0 p1 p2 p3 : Pl} {b : Id} {x : Obj} (hb : (Emb4 p0 p1 p2 p3 (o1 ≠ none) (o2 ≠ none) (o3 ≠ none) n3).dom b) (hg : (rdH (vrow o1) (vrow o2) (vrow o3)).get b = some x) :
    (∃ L, o1 = some L ∧ b = 0 ∧ x = .cells true 3 (L.map i64)) ∨ (∃ L, o2 = some L ∧ b = 1 ∧ x = .cells true 3 (L.map i64)) ∨ (∃ L, o3 = some L ∧ b = 2 ∧ x = .cells true 3 (L.map i64)) ∨ x = .dead := by
  have hget : ∀ k, (rdH (vrow o1) (vrow o2) (vrow o3)).get k = _ := fun k => allocs_get _ _ _
  rw [hget] at hg
  simp only [Nat.not_lt_zero, if_false, Nat.sub_zero, show h0.next = 0 from rfl] at hg
  rcases hb with ⟨rfl, h1⟩ | ⟨rfl, h1⟩ | ⟨rfl, h1⟩ | ⟨rfl, h1⟩
  · cases o1 with
    | none => exact absurd rfl h1
    | some r => simp [roO, vrow] at hg; exact .inl ⟨r, rfl, rfl, hg.symm⟩
  · cases o2 with
    | none => exact absurd rfl h1
    | some r => simp [roO, vrow] at hg; exact .inr (.inl ⟨r, rfl, rfl, hg.symm⟩)
  · cases o3 with
    | none => exact absurd rfl h1
    | some r => simp [roO, vrow] at hg; exact .inr (.inr (.inl ⟨r, rfl, rfl, hg.symm⟩))
  · simp at hg; exact .inr (.inr (.inr hg.symm))

theorem law_heads {o1 o2 o3 : Option (List Int)} {c1 c2 c3 : Option Nat} {o4 : Option (Nat × Option Nat)} {p0 p1 p2 p3 : Pl} {v0 v1 v2 v3 : Value} (s : List UInt8) (w : World) (G : Glob.ok Tryz.prog (fun c => w.heap.size ≤ c) w)
    (l1 : (ints o1).length ≤ 1048576) (l2 : (ints o2).length ≤ 1048576) (l3 : (ints o3).length ≤ 1048576) (ls : s.length ≤ 1048576)
    (r1 : ∀ (E : Emb) (b : Id), (o1 ≠ none → E.dom b ∧ E.pl b = p0) → VR E (svQ (vrow o1) c1 b) v0) (r2 : ∀ (E : Emb) (b : Id), (o2 ≠ none → E.dom b ∧ E.pl b = p1) → VR E (svQ (vrow o2) c2 b) v1)
    (r3 : ∀ (E : Emb) (b : Id), (o3 ≠ none → E.dom b ∧ E.pl b = p2) → VR E (svQ (vrow o3) c3 b) v2) (r4 : ∀ (E : Emb) (b : Id), (o4 ≠ none → E.dom b ∧ E.pl b = p3) → VR E (sv4 o4 b) v3)
    (q1 : ∀ L, o1 = some L → p0.c < w.heap.size ∧ p0.esz = 1 ∧ ∀ E, RowIn E true (L.map i64) p0.c p0.o p0.csz w.heap) (q2 : ∀ L, o2 = some L → p1.c < w.heap.size ∧ p1.esz = 1 ∧ ∀ E, RowIn E true (L.map i64) p1.c p1.o p1.csz w.heap)
    (q3 : ∀ L, o3 = some L → p2.c < w.heap.size ∧ p2.esz = 1 ∧ ∀ E, RowIn E true (L.map i64) p2.c p2.o p2.csz w.heap) (q4 : o4 ≠ none → p3.c < w.heap.size) :
    Calls Tryz.prog 4 ⟨[.agg ⟨[v0, v1, v2, v3]⟩, .string ⟨⟨s⟩⟩]⟩ w fun e w' => e = .returned (.bool true) ∧ Below w.heap.size w w' := by
  obtain ⟨h', hr⟩ := heads_run o1 o2 o3 (c1, c2, c3, o4) s l1 l2 l3 ls
  let E0 : Emb := Emb4 p0 p1 p2 p3 (o1 ≠ none) (o2 ≠ none) (o3 ≠ none) (o4 ≠ none)
  have hdom : ∀ b, E0.dom b → (b = 0 ∧ o1 ≠ none) ∨ (b = 1 ∧ o2 ≠ none) ∨ (b = 2 ∧ o3 ≠ none) ∨ (b = 3 ∧ o4 ≠ none) := fun b h => h
  have cells : ∀ b ro ty l, E0.dom b → (rdH (vrow o1) (vrow o2) (vrow o3)).get b = some (.cells ro ty l) → ro = true ∧ ty = 3 ∧ (E0.pl b).esz = 1 ∧ RowIn E0 ro l (E0.pl b).c (E0.pl b).o (E0.pl b).csz w.heap := by
    intro b ro ty l hb hg
    rcases rdH_some hb hg with ⟨L, ho, rfl, hx⟩ | ⟨L, ho, rfl, hx⟩ | ⟨L, ho, rfl, hx⟩ | hx
    · cases hx; exact ⟨rfl, rfl, (q1 L ho).2.1, (q1 L ho).2.2 E0⟩
    · cases hx; exact ⟨rfl, rfl, (q2 L ho).2.1, (q2 L ho).2.2 E0⟩
    · cases hx; exact ⟨rfl, rfl, (q3 L ho).2.1, (q3 L ho).2.2 E0⟩
    · cases hx
  have norw : ∀ b, E0.dom b → isRw ((rdH (vrow o1) (vrow o2) (vrow o3)).get b) = true → False := by
    intro b hb hrw
    cases hg : (rdH (vrow o1) (vrow o2) (vrow o3)).get b with
    | none => rw [hg] at hrw; cases hrw
    | some x =>
      rw [hg] at hrw
      rcases rdH_some hb hg with ⟨L, ho, rfl, hx⟩ | ⟨L, ho, rfl, hx⟩ | ⟨L, ho, rfl, hx⟩ | hx <;> (subst hx; cases hrw)
  have H0 : HR Tryz.prog (fun c => w.heap.size ≤ c) h'.next E0 (rdH (vrow o1) (vrow o2) (vrow o3)) w := by
    refine ⟨fun b hb => .inl ?_, fun b hb => ?_, fun b ro ty l hb hg => (cells b ro ty l hb hg).2.2.2, fun b hb hrw => (norw b hb hrw).elim, fun b ro ty l hb hg => ?_, fun b b' hb hb' hne hrw => (norw b hb hrw).elim, fun _ h => h, G, fun b ty l hb hg => ?_⟩
    · show b < 4
      rcases hdom b hb with ⟨rfl, _⟩ | ⟨rfl, _⟩ | ⟨rfl, _⟩ | ⟨rfl, _⟩ <;> decide
    · rcases hdom b hb with ⟨rfl, hn⟩ | ⟨rfl, hn⟩ | ⟨rfl, hn⟩ | ⟨rfl, hn⟩
      · obtain ⟨L, rfl⟩ := Option.ne_none_iff_exists'.1 hn; exact (q1 L rfl).1
      · obtain ⟨L, rfl⟩ := Option.ne_none_iff_exists'.1 hn; exact (q2 L rfl).1
      · obtain ⟨L, rfl⟩ := Option.ne_none_iff_exists'.1 hn; exact (q3 L rfl).1
      · exact q4 hn
    · obtain ⟨_, rfl, e, _⟩ := cells b ro ty l hb hg
      rw [e]
      show (1 : Nat) = (szOf Tryz.prog 3).getD 0
      have : szOf Tryz.prog 3 = some 1 := by kernel_rfl
      rw [this]; rfl
    · obtain ⟨h, _⟩ := cells b _ ty l hb hg
      cases h
  have e1 := r1 E0 0 (fun hn => ⟨.inl ⟨rfl, hn⟩, rfl⟩)
  have e2 := r2 E0 1 (fun hn => ⟨.inr (.inl ⟨rfl, hn⟩), rfl⟩)
  have e3 := r3 E0 2 (fun hn => ⟨.inr (.inr (.inl ⟨rfl, hn⟩)), rfl⟩)
  have e4 := r4 E0 3 (fun hn => ⟨.inr (.inr (.inr ⟨rfl, hn⟩)), rfl⟩)
  have hv : VRs E0 [hArg (vrow o1) (vrow o2) (vrow o3) (c1, c2, c3, o4), .str s] [.agg ⟨[v0, v1, v2, v3]⟩, .string ⟨⟨s⟩⟩] := by
    simp only [VR, VRs]
    refine ⟨_, _, rfl, ⟨_, rfl, ⟨_, _, rfl, e1, _, _, rfl, e2, _, _, rfl, e3, _, _, rfl, e4, rfl⟩, ?_⟩, _, _, rfl, rfl, rfl⟩
    intro y hy
    simp only [List.mem_cons, List.not_mem_nil, or_false] at hy
    rcases hy with rfl | rfl | rfl | rfl
    · exact svQ_cell e1
    · exact svQ_cell e2
    · exact svQ_cell e3
    · exact sv4_cell e4
  refine Calls.mono (callN_ok mixed XE XE_ok XE_mono 60 4 _ _ _ h' hr (fun c => w.heap.size ≤ c) h'.next E0 w _ (Nat.le_refl _) H0 hv) ?_
  rintro e w' ⟨x, E', rfl, _, hx, fw⟩
  simp only [VR] at hx
  have hs := fw.same
  exact ⟨by rw [hx], hs.os, hs.tape, hs.output, hs.size, fun k hk => hs.heap k (Nat.not_le.2 hk)⟩

end Go.AM
