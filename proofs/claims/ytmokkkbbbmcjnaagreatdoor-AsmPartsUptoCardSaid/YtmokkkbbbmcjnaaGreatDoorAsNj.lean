/-
  strings.Builder: what is written behind; value.Text.
-/
import Derived.Test.YtmokkkbbbmcjnaaGreatDoorAsNh
set_option linter.unusedSectionVars false
set_option linter.unusedVariables false
set_option linter.unusedSimpArgs false
set_option maxRecDepth 100000
namespace Go.AM
open Go.Proofs Go.RowKit

abbrev byV (c : UInt8) : V := .int .u8 (c.toNat : Int)

theorem ws_run0 {y : V} {n_y : Nat} (h_y : LenIs y n_y) {v : V} {n_v : Nat} (h_v : LenIs v n_v) (m bb : Nat) (s : List UInt8) (H H1 H2 H3 : Heap) :
    tellHeap Tryz.prog Y3 (m + 3) 44 [.ptr bb 0, .str s] H [(44, 7, .cax (.tup []) H1), (44, 12, .ldx y), (44, 14, .apx none v H2), (44, 0, .stx H3)] =
      (some ((V.tup [(i64 (s.length)), V.niliface]), (H3, [(Ob2.cax 69 [(V.ptr bb 0)] H (V.tup []) H1), (Ob2.ldx 73 H1 (Go.Operand.tmp 11) (V.ptr bb 1) y), (Ob2.apx none 73 9 H1 y (V.str s) v H2), (Ob2.stx 73 H2 (Go.Operand.tmp 16) (V.ptr bb 1) v H3)]))) := by rcases h_y with ⟨rfl, rfl⟩ | ⟨b_y, c_y, rfl⟩ <;> rcases h_v with ⟨rfl, rfl⟩ | ⟨b_v, c_v, rfl⟩ <;> kernel_rfl
theorem wb_run0 {y : V} {n_y : Nat} (h_y : LenIs y n_y) {v : V} {n_v : Nat} (h_v : LenIs v n_v) (m bb : Nat) (c : Int) (H H1 H2 H3 : Heap) :
    tellHeap Tryz.prog Y3 (m + 3) 96 [.ptr bb 0, .int .u8 c] H [(96, 6, .cax (.tup []) H1), (96, 11, .ldx y), (96, 14, .apx none v H2), (96, 0, .stx H3)] =
      (some (V.niliface, (H3, [(Ob2.cax 69 [(V.ptr bb 0)] H (V.tup []) H1), (Ob2.ldx 73 H1 (Go.Operand.tmp 10) (V.ptr bb 1) y), (Ob2.apx none 73 73 (H1.alloc (.cells false 5 [.int .u8 c])) y (V.slice (H1).next 0 1 (some 1)) v H2), (Ob2.stx 73 H2 (Go.Operand.tmp 16) (V.ptr bb 1) v H3)]))) := by rcases h_y with ⟨rfl, rfl⟩ | ⟨b_y, c_y, rfl⟩ <;> rcases h_v with ⟨rfl, rfl⟩ | ⟨b_v, c_v, rfl⟩ <;> kernel_rfl
theorem tx_run0 (m : Nat) (s : List UInt8) (H : Heap) :
    tellHeap Tryz.prog Y3 (m + 3) 46 [.str s] H [] =
      (some ((V.agg [(i64 2), (i64 0), (V.str s)]), (H, []))) := by kernel_rfl
/-- Blocks that are as they were. -/
structure KeepK (K : Id → Prop) (H H' : Heap) : Prop where
  dom : ∀ b, K b → b < H.next
  next : H.next ≤ H'.next
  get : ∀ b, K b → H'.get b = H.get b
theorem KeepK.refl {K : Id → Prop} {H : Heap} (h : ∀ b, K b → b < H.next) : KeepK K H H := ⟨h, Nat.le_refl _, fun _ _ => rfl⟩
theorem KeepK.step {K : Id → Prop} {A B C : Heap} (h : KeepK K A B) (hn : B.next ≤ C.next) (hg : ∀ b, K b → C.get b = B.get b) : KeepK K A C := ⟨h.dom, Nat.le_trans h.next hn, fun b hb => (hg b hb).trans (h.get b hb)⟩
theorem KeepK.keeps {K : Id → Prop} {A B C : Heap} (h : KeepK K A B) (h' : Keeps B C) : KeepK K A C := h.step h'.next fun b hb => h'.get b (Nat.lt_of_lt_of_le (h.dom b hb) h.next)
theorem KeepK.lt {K : Id → Prop} {A B : Heap} (h : KeepK K A B) {b : Id} (hb : K b) : b < B.next := Nat.lt_of_lt_of_le (h.dom b hb) h.next
theorem KeepK.row {K : Id → Prop} {A B : Heap} (h : KeepK K A B) {b : Id} (hb : K b) {x : Obj} (hg : A.get b = some x) : B.get b = some x := (h.get b hb).trans hg
theorem ne_of_k {K : Id → Prop} {a b : Id} (ha : K a) (hb : ¬ K b) : a ≠ b := fun e => hb (e ▸ ha)
def Below (H : Heap) : Id → Prop := fun b => b < H.next
theorem KeepK.all {H H' : Heap} (h : KeepK (Below H) H H') : Keeps H H' := ⟨h.next, h.get⟩
theorem Keeps.k {H H' : Heap} (h : Keeps H H') : KeepK (Below H) H H' := ⟨fun _ h => h, h.next, h.get⟩

def YAt (K : Id → Prop) (H : Heap) (bb : Id) (y : V) (txt : List UInt8) : Prop := (y = .nilslice ∧ txt = []) ∨ ∃ b2, ¬ K b2 ∧ b2 ≠ bb ∧ y = .slice b2 0 txt.length none ∧ H.get b2 = some (.cells false 5 (txt.map byV))
def BldAt (K : Id → Prop) (H : Heap) (bb : Id) (txt : List UInt8) : Prop := ¬ K bb ∧ ∃ x y, H.get bb = some (.cells false 75 [x, y]) ∧ (x = .nilptr ∨ x = .ptr bb 0) ∧ YAt K H bb y txt
theorem YAt.len {K : Id → Prop} {H : Heap} {bb : Id} {y : V} {txt : List UInt8} (h : YAt K H bb y txt) : LenIs y txt.length := by
  rcases h with ⟨rfl, rfl⟩ | ⟨b, _, _, rfl, _⟩
  · exact .inl ⟨rfl, rfl⟩
  · exact .inr ⟨b, none, rfl⟩
theorem YAt.mono {K : Id → Prop} {H H' : Heap} {bb : Id} (hs : ∀ b, b ≠ bb → ∀ x, H.get b = some x → H'.get b = some x) {y : V} {txt : List UInt8} (h : YAt K H bb y txt) : YAt K H' bb y txt := by
  rcases h with h | ⟨b, h1, h2, h3, h4⟩
  · exact .inl h
  · exact .inr ⟨b, h1, h2, h3, hs b h2 _ h4⟩
/-- More blocks that are kept, and new ones behind. -/
theorem BldAt.more {K K' : Id → Prop} {H H' : Heap} {bb : Id} {txt : List UInt8} (h : BldAt K H bb txt) (hk : Keeps H H') (hK : ∀ b, b < H.next → ¬ K b → ¬ K' b) : BldAt K' H' bb txt := by
  obtain ⟨h1, x, y, hg, hx, hy⟩ := h
  refine ⟨hK bb (Heap.get_lt hg) h1, x, y, hk.keep _ _ hg, hx, ?_⟩
  rcases hy with h | ⟨b, g1, g2, g3, g4⟩
  · exact .inl h
  · exact .inr ⟨b, hK b (Heap.get_lt g4) g1, g2, g3, hk.keep _ _ g4⟩

theorem i5' : (Tryz.prog.info? 5).map (fun i => (i.size, i.bytes, zok i)) = some (1, 1, true) := by kernel_rfl
theorem i5 : ∃ i, Tryz.prog.info? 5 = some i ∧ i.size = 1 ∧ i.bytes = 1 ∧ zok i = true := by
  obtain ⟨i, h, e⟩ := Option.map_eq_some_iff.1 i5'
  simp only [Prod.mk.injEq] at e
  exact ⟨i, h, e.1, e.2.1, e.2.2⟩
theorem lt73 : Nat.blt 73 Tryz.prog.types.size = true := by kernel_rfl
theorem sz5 : szOf Tryz.prog 5 = some 1 := by kernel_rfl
theorem sz73 : szOf Tryz.prog 73 = some 1 := by kernel_rfl

theorem bld_app {K : Id → Prop} {H0 H : Heap} {bb : Id} {y : V} {txt new : List UInt8} {t1 : TypeId} {u1 : TypeDesc} (hu1 : Tryz.prog.underlying t1 = some u1) (hso : srcOk u1 = true) (hk : KeepK K H0 H) (hbb : bb < H.next) (hy : YAt K H bb y txt) {src : V} (hc : cellsOfV 1 H src = some (new.length, new.map byV)) (hsz : txt.length + new.length ≤ 1099511627776) :
    ∃ v H2, appendV Tryz.prog 73 t1 H y src = some (v, H2) ∧ KeepK K H0 H2 ∧ H2.get bb = H.get bb ∧ YAt K H2 bb v (txt ++ new) := by
  have hu : Tryz.prog.underlying 73 = some (.slice 5) := Tryz.underlying73
  obtain ⟨i, h1, h2, h3, h4⟩ := i5
  have e1 : appendV Tryz.prog 73 t1 H y src = appendS Tryz.prog 73 t1 H y src := by
    unfold appendV
    rw [if_pos lt73]
    cases src <;> first | rfl | (simp [cellsOfV] at hc; done)
  rw [e1]
  unfold appendS
  simp only [hu, hu1, h1, h2, h3, h4, hc]
  rw [if_neg (by simp [hso])]
  rcases hy with ⟨rfl, rfl⟩ | ⟨b2, g1, g2, rfl, g4⟩
  · simp only
    by_cases h0 : new = []
    · subst h0
      exact ⟨.nilslice, H, by simp, hk, rfl, .inl ⟨rfl, rfl⟩⟩
    · have hp : 0 < new.length := List.length_pos_iff.2 h0
      rw [if_neg (by omega), if_pos ⟨by unfold room; omega, by unfold room; omega⟩]
      exact ⟨_, _, rfl, hk.keeps (Keeps.alloc _ _), Heap.get_alloc_ne _ _ _ (Nat.ne_of_lt hbb), .inr ⟨H.next, fun h => Nat.lt_irrefl _ (hk.lt h), Nat.ne_of_gt hbb, by simp, by simp⟩⟩
  · simp only [g4, sz5]
    have hr : (txt.map byV).length = txt.length := List.length_map _
    rw [if_pos ⟨by unfold room; omega, by unfold room; omega⟩]
    by_cases h0 : new = []
    · subst h0
      exact ⟨.slice b2 0 txt.length none, H, by simp, hk, rfl, .inr ⟨b2, g1, g2, by simp, by simpa using g4⟩⟩
    · have hp : 0 < new.length := List.length_pos_iff.2 h0
      rw [if_neg (by omega), if_neg (by simp), if_neg (by omega), if_pos ⟨by omega, by simp, by simp, by simp⟩]
      refine ⟨_, _, rfl, hk.step ?_ fun c hc' => ?_, ?_, .inr ⟨H.next, fun h => Nat.lt_irrefl _ (hk.lt h), Nat.ne_of_gt hbb, by simp, ?_⟩⟩
      · simp only [Heap.next_alloc, Heap.next_set]
        exact Nat.le_succ _
      · have : c < H.next := hk.lt hc'
        rw [Heap.get_alloc_ne _ _ _ (by simp only [Heap.next_set]; exact Nat.ne_of_lt this), Heap.get_set_ne _ _ _ _ (ne_of_k hc' g1)]
      · rw [Heap.get_alloc_ne _ _ _ (by simp only [Heap.next_set]; exact Nat.ne_of_lt hbb), Heap.get_set_ne _ _ _ _ (Ne.symm g2)]
      · have e := Heap.get_alloc_same (H.set b2 .dead) (.cells false 5 ((txt.map byV).drop 0 ++ new.map byV))
        simpa using e

theorem check_law {K : Id → Prop} {H0 H : Heap} {bb : Id} {txt : List UInt8} (hk : KeepK K H0 H) (h : BldAt K H bb txt) : ∃ y H1, (Ob2.cax 69 [.ptr bb 0] H (.tup []) H1).ok Tryz.prog Y3 ∧ KeepK K H0 H1 ∧ bb < H1.next ∧ H1.get bb = some (.cells false 75 [.ptr bb 0, y]) ∧ YAt K H1 bb y txt := by
  obtain ⟨hN, x, y, hg, hx, hy⟩ := h
  have hlt := Heap.get_lt hg
  rcases hx with rfl | rfl
  · refine ⟨y, H.set bb (.cells false 75 [.ptr bb 0, y]), ⟨checkG, rfl, ?_⟩, hk.step (Nat.le_refl _) fun c hc => ?_, hlt, Heap.get_set_same _ _ _ hlt, hy.mono fun b hb x hx => ?_⟩
    · simp only [checkG, hg]; rfl
    · rw [Heap.get_set_ne _ _ _ _ (ne_of_k hc hN)]
    · rw [Heap.get_set_ne _ _ _ _ hb]; exact hx
  · refine ⟨y, H, ⟨checkG, rfl, ?_⟩, hk, hlt, hg, hy⟩
    simp only [checkG, hg]
    simp
theorem okStB {X : Ext} {H : Heap} {x : Operand} {bb : Id} {a y v : V} {n : Nat} (hg : H.get bb = some (.cells false 75 [a, y])) (hv : LenIs v n) : (Ob2.stx 73 H x (.ptr bb 1) v (H.set bb (.cells false 75 [a, v]))).ok Tryz.prog X := by
  intro t
  have hc : v.cells = [v] := by rcases hv with ⟨rfl, _⟩ | ⟨_, _, rfl⟩ <;> rfl
  have ht : v.isTup = false := by rcases hv with ⟨rfl, _⟩ | ⟨_, _, rfl⟩ <;> rfl
  unfold storeV
  rw [if_pos ⟨by rw [sz73, hc]; rfl, ht⟩]
  simp only [Heap.write, hg, hc]
  rfl
theorem agg73 : isAggT Tryz.prog 73 = some false := by kernel_rfl

theorem bld_end {K : Id → Prop} {H0 H2 : Heap} {bb : Id} {y v : V} {txt : List UInt8} (hN : ¬ K bb) (hk : KeepK K H0 H2) (hg : H2.get bb = some (.cells false 75 [.ptr bb 0, y])) (hy : YAt K H2 bb v txt) : KeepK K H0 (H2.set bb (.cells false 75 [.ptr bb 0, v])) ∧ BldAt K (H2.set bb (.cells false 75 [.ptr bb 0, v])) bb txt := by
  refine ⟨hk.step (Nat.le_refl _) fun c hc => ?_, hN, _, _, Heap.get_set_same _ _ _ (Heap.get_lt hg), .inr rfl, hy.mono fun b hb x hx => ?_⟩
  · rw [Heap.get_set_ne _ _ _ _ (ne_of_k hc hN)]
  · rw [Heap.get_set_ne _ _ _ _ hb]; exact hx

/-- WriteString. -/
theorem ws_law (m : Nat) {K : Id → Prop} {H0 H : Heap} {bb : Id} {txt : List UInt8} (s : List UInt8) (hk : KeepK K H0 H) (h : BldAt K H bb txt) (hsz : txt.length + s.length ≤ 1099511627776) :
    ∃ H', callN Tryz.prog Y3 (m + 3) 44 [.ptr bb 0, .str s] H = some (.tup [i64 s.length, .niliface], H') ∧ KeepK K H0 H' ∧ BldAt K H' bb (txt ++ s) := by
  obtain ⟨y, H1, o1, k1, l1, g1, y1⟩ := check_law hk h
  obtain ⟨v, H2, a2, k2, g2, y2⟩ := bld_app (t1 := 9) (new := s) (src := .str s) Tryz.underlying9 rfl k1 l1 y1 (by simp [cellsOfV]) hsz
  rw [g1] at g2
  obtain ⟨k3, b3⟩ := bld_end h.1 k2 g2 y2
  exact ⟨_, run_heap (ws_run0 y1.len y2.len m bb s H H1 H2 _) (obs2_cons (o1) (obs2_cons (okLdx agg73 g1 rfl) (obs2_cons (okApN a2) (obs2_cons (okStB g2 y2.len) obs2_nil)))), k3, b3⟩
/-- WriteByte. -/
theorem wb_law (m : Nat) {K : Id → Prop} {H0 H : Heap} {bb : Id} {txt : List UInt8} (c : UInt8) (hk : KeepK K H0 H) (h : BldAt K H bb txt) (hsz : txt.length + 1 ≤ 1099511627776) :
    ∃ H', callN Tryz.prog Y3 (m + 3) 96 [.ptr bb 0, byV c] H = some (.niliface, H') ∧ KeepK K H0 H' ∧ BldAt K H' bb (txt ++ [c]) := by
  obtain ⟨y, H1, o1, k1, l1, g1, y1⟩ := check_law hk h
  have kA : Keeps H1 (H1.alloc (.cells false 5 [byV c])) := Keeps.alloc _ _
  obtain ⟨v, H2, a2, k2, g2, y2⟩ := bld_app (t1 := 73) (new := [c]) (src := .slice H1.next 0 1 (some 1)) Tryz.underlying73 rfl (k1.keeps kA) (Nat.lt_of_lt_of_le l1 kA.next) (y1.mono fun b _ x hx => kA.keep b x hx) (by simp [cellsOfV, Heap.row, loadRow]) hsz
  rw [kA.get bb l1, g1] at g2
  obtain ⟨k3, b3⟩ := bld_end h.1 k2 g2 y2
  exact ⟨_, run_heap (wb_run0 y1.len y2.len m bb c.toNat H H1 H2 _) (obs2_cons (o1) (obs2_cons (okLdx agg73 g1 rfl) (obs2_cons (okApN a2) (obs2_cons (okStB g2 y2.len) obs2_nil)))), k3, b3⟩

/-- What a builder says in the end. -/
theorem bytesX_map : ∀ l : List UInt8, bytesX (l.map byV) = some l
  | [] => rfl
  | c :: l => by
    have h : (0 : Int) ≤ (c.toNat : Int) ∧ (c.toNat : Int) < 256 := by have := c.toNat_lt; omega
    simp only [List.map_cons, bytesX, bytesX_map l]
    rw [if_pos h]
    simp
theorem str_law {K : Id → Prop} {H0 H : Heap} {bb : Id} {txt : List UInt8} {X : Ext} (hX : X 47 = some stringG) (hk : KeepK K H0 H) (h : BldAt K H bb txt) (hp : 0 < txt.length) (hsz : txt.length ≤ 140737488355328) : ∃ H', (Ob2.cax 47 [.ptr bb 0] H (.str txt) H').ok Tryz.prog X ∧ KeepK K H0 H' := by
  obtain ⟨hN, x, y, hg, hx, hy⟩ := h
  rcases hy with ⟨_, rfl⟩ | ⟨b2, g1, g2, rfl, g4⟩
  · simp at hp
  · refine ⟨H.set b2 (.cells true 5 (txt.map byV)), ⟨stringG, hX, ?_⟩, hk.step (Nat.le_refl _) fun c hc => ?_⟩
    · have e : (txt.map byV).take txt.length = txt.map byV := List.take_of_length_le (by simp)
      simp only [stringG, hg, g4]
      simp only [e, bytesX_map]
      simp [hp, hsz]
    · rw [Heap.get_set_ne _ _ _ _ (ne_of_k hc g1)]

end Go.AM

/-
  value.Print of one row of bytes.
-/
set_option linter.unusedSectionVars false
set_option linter.unusedVariables false
set_option linter.unusedSimpArgs false
set_option maxRecDepth 100000
namespace Go.AM
open Go.Proofs Go.RowKit

noncomputable def Y4 : Ext := runExt Tryz.prog Y3 NF [42, 18, 46, 44, 96]
theorem Y4_ok : ExtOk Tryz.prog Y4 := runExt_ok mixed Y3_ok Y3_mono NF _
theorem Y4_mono : ExtMono Y4 := runExt_mono Y3_mono NF _
noncomputable def Y5 : Ext := runExt Tryz.prog Y4 NF [94, 71]
theorem Y5_ok : ExtOk Tryz.prog Y5 := runExt_ok mixed Y4_ok Y4_mono NF _
theorem Y5_mono : ExtMono Y5 := runExt_mono Y4_mono NF _

abbrev txt2 (c : List UInt8) : V := .agg [i64 2, i64 0, .str c]
noncomputable abbrev vtB : Code := Code.go (bodyOf Tryz.prog 71) [1, 1, 1, 1, 0, 1, 0, 0]
abbrev vtK : List Nat := [3, 22, 23, 24]
abbrev vtV (bb bs : Nat) (n : Nat) (i : Int) : List V := [.ptr bb 0, .slice bs 0 n none, i64 n, i64 i]
abbrev u8 (n : Int) : V := .int .u8 n
abbrev blk75 : Obj := .cells false 75 [.nilptr, .nilslice]

theorem vr_run (m : Nat) (c : List UInt8) (r : Bool) (H : Heap) :
    tellHeap Tryz.prog Y4 (m + 3) 94 [txt2 c] H [(94, 17, .caq (txt2 c) (up (LOk 3 H))), tv 94 18 true, tv 94 23 r] =
      (some ((V.bool r), ((LOk 12 H), [(Ob2.caq 46 [(V.str c)] (up (LOk 3 H)) (V.agg [(i64 2), (i64 0), (V.str c)]) (up (LOk 3 H))), (Ob2.bin Go.BinOp.eql 78 (V.agg [(i64 2), (i64 0), (V.str c)]) (V.agg [(i64 2), (i64 0), (V.str c)]) (V.bool true)), (Ob2.bin Go.BinOp.leq 3 (i64 (c.length)) (i64 256) (V.bool r))]))) := by kernel_rfl
theorem vt_run (m bs n : Nat) (i : Int) (c out : List UInt8) (cells : List V) (H H1 G G2 G3 : Heap) (J : List V → List V) :
    tellHeap Tryz.prog Y4 (m + 3) 71 [txt2 c] H [(71, 19, .cax (.tup [i64 2, .niliface]) H1), (71, 22, .blk n 5 cells), (71, 0, .loop 39 vtK (.exit 1) (vtK.zip (vtV H.next H1.next n i)) J G), (71, 37, .cax .niliface G2), (71, 38, .cax (.str out) G3)] =
      (some ((V.str out), (G3, [(Ob2.cax 44 [(V.ptr (H).next 0), (V.str [120, 39])] (H.alloc blk75) (V.tup [(i64 2), V.niliface]) H1), (Ob2.cnb 9 73 H1 (V.str c) n 5 cells), (Ob2.loop ((m+1)+1) [1] vtB 39 [3, 22, 23, 24] [(V.ptr (H).next 0), (V.slice (H1).next 0 n none), (i64 n), (i64 0)] (H1.alloc (.cells false 5 cells)) (E.exit 1) [(3, (V.ptr (H).next 0)), (22, (V.slice (H1).next 0 n none)), (23, (i64 n)), (24, (i64 i))] J G), (Ob2.cax 96 [(V.ptr (H).next 0), (V.int Go.IntKind.u8 39)] G V.niliface G2), (Ob2.cax 47 [(V.ptr (H).next 0)] G2 (V.str out) G3)]))) := by kernel_rfl
theorem vt_go (m bb bs n pp : Nat) (i j c q1 q2 d1 d2 : Int) (H H1 H2 : Heap) (t : List V) :
    tellCode Tryz.prog Y4 (m + 2) 71 [1] (m + 2) vtB ⟨normL 39 (vtK.zip (vtV bb bs n i)) t, H⟩ [tv 71 25 true, tp 71 26 (.ptr bs pp), (71, 27, .ldx (u8 c)), tp 71 29 (u8 q1), tp 71 30 (u8 d1), (71, 31, .cax .niliface H1), tp 71 33 (u8 q2), tp 71 34 (u8 d2), (71, 35, .cax .niliface H2), tp 71 36 (i64 j)] vtK =
      (some (E.normal, (39, ([(V.ptr bb 0), (V.slice bs 0 n none), (i64 n), (i64 j)], (H2, [(Ob2.bin Go.BinOp.lss 3 (i64 i) (i64 n) (V.bool true)), (Ob2.iadr 73 bs 0 n none (i64 i) (V.ptr bs pp)), (Ob2.ldx 5 H (Go.Operand.tmp 26) (V.ptr bs pp) (V.int Go.IntKind.u8 c)), (Ob2.bin Go.BinOp.shr 5 (V.int Go.IntKind.u8 c) (V.int Go.IntKind.u64 4) (V.int Go.IntKind.u8 q1)), (Ob2.idx 9 (V.str [48, 49, 50, 51, 52, 53, 54, 55, 56, 57, 97, 98, 99, 100, 101, 102]) (V.int Go.IntKind.u8 q1) (V.int Go.IntKind.u8 d1)), (Ob2.cax 96 [(V.ptr bb 0), (V.int Go.IntKind.u8 d1)] H V.niliface H1), (Ob2.bin Go.BinOp.and 5 (V.int Go.IntKind.u8 c) (V.int Go.IntKind.u8 15) (V.int Go.IntKind.u8 q2)), (Ob2.idx 9 (V.str [48, 49, 50, 51, 52, 53, 54, 55, 56, 57, 97, 98, 99, 100, 101, 102]) (V.int Go.IntKind.u8 q2) (V.int Go.IntKind.u8 d2)), (Ob2.cax 96 [(V.ptr bb 0), (V.int Go.IntKind.u8 d2)] H1 V.niliface H2), (Ob2.bin Go.BinOp.add 3 (i64 i) (i64 1) (i64 j))]))))) := by kernel_rfl
theorem vt_out (m bb bs n : Nat) (i : Int) (H : Heap) (t : List V) :
    tellCode Tryz.prog Y4 (m + 2) 71 [1] (m + 2) vtB ⟨normL 39 (vtK.zip (vtV bb bs n i)) t, H⟩ [tv 71 25 false] vtK =
      (some ((E.exit 1), (39, ([(V.ptr bb 0), (V.slice bs 0 n none), (i64 n), (i64 i)], (H, [(Ob2.bin Go.BinOp.lss 3 (i64 i) (i64 n) (V.bool false))]))))) := by kernel_rfl
theorem vp_run (m bs : Nat) (c out : List UInt8) (H H1 H2 : Heap) :
    tellHeap Tryz.prog Y5 (m + 6) 45 [.slice bs 0 1 (some 1)] H [(70, 10, .ldx (txt2 c)), (70, 12, .cax (.bool true) H1), (45, 14, .ldx (txt2 c)), (45, 17, .cax (.str out) H2), (45, 19, .blk 1 9 [.str out]), (45, 22, .cax (.str out) ((H2.alloc (pcell out)).alloc (pcell out)))] =
      (some ((V.str out), (((H2.alloc (pcell out)).alloc (pcell out)), [(Ob2.ldx 78 H (Go.Operand.tmp 9) (V.ptr bs 0) (V.agg [(i64 2), (i64 0), (V.str c)])), (Ob2.cax 94 [(V.agg [(i64 2), (i64 0), (V.str c)])] H (V.bool true) H1), (Ob2.ldx 78 H1 (Go.Operand.tmp 13) (V.ptr bs 0) (V.agg [(i64 2), (i64 0), (V.str c)])), (Ob2.cax 71 [(V.agg [(i64 2), (i64 0), (V.str c)])] H1 (V.str out) H2), (Ob2.app 37 37 (H2.alloc (pcell out)) V.nilslice (V.slice (H2).next 0 1 (some 1)) 1 9 [(V.str out)]), (Ob2.cax 57 [(V.slice ((H2).next+1) 0 1 none), (V.str [32])] ((H2.alloc (pcell out)).alloc (pcell out)) (V.str out) ((H2.alloc (pcell out)).alloc (pcell out)))]))) := by kernel_rfl
/-! ### Two letters a byte -/

def hexL : List UInt8 := [48, 49, 50, 51, 52, 53, 54, 55, 56, 57, 97, 98, 99, 100, 101, 102]
def hx (k : Nat) : UInt8 := hexL.getD k 0
def hexS : List UInt8 → List UInt8
  | [] => []
  | c :: l => hx (c.toNat / 16) :: hx (c.toNat % 16) :: hexS l
theorem hexS_append : ∀ a b : List UInt8, hexS (a ++ b) = hexS a ++ hexS b
  | [], b => rfl
  | c :: a, b => by simp only [List.cons_append, hexS, hexS_append a b]
theorem hexS_length : ∀ l : List UInt8, (hexS l).length = 2 * l.length
  | [] => rfl
  | c :: l => by simp only [hexS, List.length_cons, hexS_length l]; omega
def valR (c : List UInt8) : List UInt8 := [120, 39] ++ hexS c ++ [39]

theorem sh_tab : (List.range' 0 256).map (fun k => binV Tryz.prog .shr 5 (u8 (.ofNat k)) (.int .u64 4)) = (List.range' 0 256).map (fun k => some (u8 (.ofNat (k / 16)))) := by kernel_rfl
theorem an_tab : (List.range' 0 256).map (fun k => binV Tryz.prog .and 5 (u8 (.ofNat k)) (u8 15)) = (List.range' 0 256).map (fun k => some (u8 (.ofNat (k % 16)))) := by kernel_rfl
theorem ix_tab : (List.range' 0 16).map (fun k => indexV Tryz.prog 9 (.str hexL) (u8 (.ofNat k))) = (List.range' 0 16).map (fun k => some (u8 (.ofNat (hx k).toNat))) := by kernel_rfl
theorem okSh {X : Ext} (c : UInt8) : (Ob2.bin .shr 5 (byV c) (.int .u64 4) (u8 ((c.toNat / 16 : Nat) : Int))).ok Tryz.prog X := at_range sh_tab c.toNat (by omega) (by have := c.toNat_lt; omega)
theorem okAn {X : Ext} (c : UInt8) : (Ob2.bin .and 5 (byV c) (u8 15) (u8 ((c.toNat % 16 : Nat) : Int))).ok Tryz.prog X := at_range an_tab c.toNat (by omega) (by have := c.toNat_lt; omega)
theorem okHx {X : Ext} (k : Nat) (hk : k < 16) : (Ob2.idx 9 (.str hexL) (u8 (k : Nat)) (byV (hx k))).ok Tryz.prog X := at_range ix_tab k (by omega) (by omega)

theorem ok4 {f : FuncId} (hf : memN f [42, 18, 46, 44, 96] = true) {args : List V} {h : Heap} {v : V} {h' : Heap} (hr : callN Tryz.prog Y3 NF f args h = some (v, h')) : (Ob2.cax f args h v h').ok Tryz.prog Y4 := okRun (P := Tryz.prog) (X := Y3) (n := NF) (fs := [42, 18, 46, 44, 96]) hf hr
theorem ok5 {f : FuncId} (hf : memN f [94, 71] = true) {args : List V} {h : Heap} {v : V} {h' : Heap} (hr : callN Tryz.prog Y4 NF f args h = some (v, h')) : (Ob2.cax f args h v h').ok Tryz.prog Y5 := okRun (P := Tryz.prog) (X := Y4) (n := NF) (fs := [94, 71]) hf hr

theorem eqT (c : List UInt8) : eqV Tryz.prog 10000 78 (txt2 c) (txt2 c) = (match some (c == c) with | some true => some true | r => r) := by kernel_rfl
theorem okEqT {X : Ext} (c : List UInt8) : (Ob2.bin .eql 78 (txt2 c) (txt2 c) (.bool true)).ok Tryz.prog X := by
  show (eqV Tryz.prog 10000 78 (txt2 c) (txt2 c)).map V.bool = _
  rw [eqT]; simp

theorem vr_law (c : List UInt8) (hc : c.length ≤ 256) (H : Heap) : callN Tryz.prog Y4 NF 94 [txt2 c] H = some (.bool true, LOk 12 H) :=
  run_heap (vr_run 2097149 c true H) (obs2_cons (okCaq (ok4 (f := 46) rfl (run_heap (tx_run0 2097149 c (up (LOk 3 H))) obs2_nil)) (Nat.le_refl _)) (obs2_cons (okEqT c) (obs2_cons (okIle (by simp; omega)) obs2_nil)))

theorem okIaB {X : Ext} (b n i : Nat) (c : Option Nat) (h : i < n) : (Ob2.iadr 73 b 0 n c (i64 (i : Nat)) (.ptr b i)).ok Tryz.prog X := by
  intro ts x
  have hu : Tryz.prog.underlying 73 = some (.slice 5) := Tryz.underlying73
  unfold indexAddrV
  simp only [hu, sz5]
  rw [if_pos (by omega)]
  simp
theorem agg5 : isAggT Tryz.prog 5 = some false := by kernel_rfl
theorem okCnB {X : Ext} (H : Heap) (c : List UInt8) (hc : c.length ≤ 140737488351232) : (Ob2.cnb 9 73 H (.str c) c.length 5 (c.map byV)).ok Tryz.prog X := by
  have hu : Tryz.prog.underlying 73 = some (.slice 5) := Tryz.underlying73
  have hu9 : Tryz.prog.underlying 9 = some .string := Tryz.underlying9
  have hu5 : Tryz.prog.underlying 5 = some (.int .u8) := Tryz.underlying5
  show convV Tryz.prog 9 73 H (.str c) = _
  unfold convV
  simp only [hu, hu9, hu5, sz5]
  rw [if_pos ⟨by unfold room; exact hc, by simp⟩]

set_option maxHeartbeats 1000000 in
/-- value.text of bytes. -/
theorem vt_law (c : List UInt8) (hc : c.length ≤ 1048576) (H : Heap) : ∃ H', callN Tryz.prog Y4 NF 71 [txt2 c] H = some (.str (valR c), H') ∧ Keeps H H' := by
  have kA : Keeps H (H.alloc blk75) := Keeps.alloc H _
  have b0 : BldAt (Below H) (H.alloc blk75) H.next [] := ⟨Nat.lt_irrefl _, .nilptr, .nilslice, Heap.get_alloc_same _ _, .inl rfl, .inl ⟨rfl, rfl⟩⟩
  obtain ⟨H1, r1, k1, b1⟩ := ws_law 2097149 [120, 39] kA.k b0 (by simp)
  have kB : Keeps H1 (H1.alloc (.cells false 5 (c.map byV))) := Keeps.alloc H1 _
  have k2 := k1.all.trans kB
  have hlt : H.next < H1.next := by
    obtain ⟨_, x, y, hg, _⟩ := b1
    exact Heap.get_lt hg
  let K : Id → Prop := fun b => b < H.next ∨ b = H1.next
  have b2 : BldAt K (H1.alloc (.cells false 5 (c.map byV))) H.next ([] ++ [120, 39]) := b1.more kB fun b hb hn hk => by
    rcases hk with h | h
    · exact hn h
    · exact Nat.ne_of_lt hb h
  have hdom : ∀ b, K b → b < (H1.alloc (.cells false 5 (c.map byV))).next := fun b hb => by
    rcases hb with h | h
    · exact Nat.lt_of_lt_of_le h k2.next
    · subst h; exact Nat.lt_succ_self _
  have hrow : (H1.alloc (.cells false 5 (c.map byV))).get H1.next = some (.cells false 5 (c.map byV)) := Heap.get_alloc_same _ _
  have bsz : ∀ i, (([] : List UInt8) ++ [120, 39] ++ hexS (c.take i)).length ≤ 2 + 2 * 1048576 := fun i => by
    have := hexS_length (c.take i)
    have : (c.take i).length ≤ c.length := by rw [List.length_take]; omega
    simp only [List.nil_append, List.length_append, List.length_cons, List.length_nil]
    omega
  obtain ⟨ks', vs', h', ⟨rfl, rfl, kk, bk⟩, g⟩ := loop_leave (ex := exec Tryz.prog (callN Tryz.prog Y4 2097151) [1] 2097151 vtB) (N := 39) (ks := vtK) (n := c.length) (fun i vs h => vs = vtV H.next H1.next c.length i ∧ KeepK K (H1.alloc (.cells false 5 (c.map byV))) h ∧ BldAt K h H.next ([] ++ [120, 39] ++ hexS (c.take i))) (fun i vs h hi ⟨e, hk, hb⟩ => by
      subst e
      obtain ⟨x, hci⟩ := get_of_lt hi
      obtain ⟨Ha, ra, ka, ba⟩ := wb_law 2097149 (hx (x.toNat / 16)) hk hb (by have := bsz i; omega)
      obtain ⟨Hb, rb, kb, bb⟩ := wb_law 2097149 (hx (x.toNat % 16)) ka ba (by have := bsz i; rw [List.length_append]; simp only [List.length_cons, List.length_nil]; omega)
      have e1 : c.take (i + 1) = c.take i ++ [x] := by rw [List.take_add_one, hci]; rfl
      refine ⟨_, Hb, ⟨rfl, kb, ?_⟩, goes_tell (fun t => vt_go 2097149 H.next H1.next c.length i i ((i + 1 : Nat) : Int) x.toNat _ _ _ _ h Ha Hb t) (obs2_cons (okIlt (by simp; omega)) (obs2_cons (okIaB H1.next c.length i none hi) (obs2_cons (okLdx agg5 (hk.row (.inr rfl) hrow) (by simp [hci])) (obs2_cons (okSh x) (obs2_cons (okHx _ (by have := x.toNat_lt; omega)) (obs2_cons (ok4 (f := 96) rfl ra) (obs2_cons (okAn x) (obs2_cons (okHx _ (by omega)) (obs2_cons (ok4 (f := 96) rfl rb) (obs2_cons (okInc i (by omega)) obs2_nil))))))))))⟩
      rw [e1, hexS_append]
      simpa [hexS] using bb) (vs0 := vtV H.next H1.next c.length 0) (h0 := H1.alloc (.cells false 5 (c.map byV))) ⟨rfl, KeepK.refl hdom, by simpa [hexS] using b2⟩ (e := .exit 1) (by decide) (Q := fun ks' vs' h' => ks' = vtK ∧ vs' = vtV H.next H1.next c.length c.length ∧ KeepK K (H1.alloc (.cells false 5 (c.map byV))) h' ∧ BldAt K h' H.next ([] ++ [120, 39] ++ hexS (c.take c.length))) (fun vs h ⟨e, hk, hb⟩ => by
      subst e
      exact ⟨_, _, _, ⟨rfl, rfl, hk, hb⟩, goes_tell (fun t => vt_out 2097149 H.next H1.next c.length c.length h t) (obs2_cons (okIlt (by simp)) obs2_nil)⟩) (fuel := 2097151) (by omega)
  obtain ⟨G2, r2, k3, b3⟩ := wb_law 2097149 39 kk bk (by have := bsz c.length; omega)
  obtain ⟨G3, o3, k4⟩ := str_law (X := Y4) rfl k3 b3 (by simp) (by have := bsz c.length; rw [List.length_append]; simp only [List.length_cons, List.length_nil]; omega)
  have e2 : [] ++ [120, 39] ++ hexS (c.take c.length) ++ [39] = valR c := by simp [valR]
  rw [e2] at o3
  exact ⟨G3, run_heap (vt_run 2097149 0 c.length c.length c (valR c) (c.map byV) H H1 h' G2 G3 _) (obs2_cons (ok4 (f := 44) rfl r1) (obs2_cons (okCnB H1 c (by omega)) (obs2_cons (ok_goes g rfl) (obs2_cons (ok4 (f := 96) rfl r2) (obs2_cons (o3) obs2_nil))))), ⟨Nat.le_trans k2.next k4.next, fun b hb => (k4.get b (.inl hb)).trans (k2.get b hb)⟩⟩

theorem agg78 : isAggT Tryz.prog 78 = some true := by kernel_rfl
theorem okLdV {X : Ext} {H : Heap} {x : Operand} {b : Id} {ro : Bool} {c : List UInt8} (hg : H.get b = some (.cells ro 78 [i64 2, i64 0, .str c])) : (Ob2.ldx 78 H x (.ptr b 0) (txt2 c)).ok Tryz.prog X := by
  intro t
  have hs : szOf Tryz.prog 78 = some 3 := by kernel_rfl
  unfold loadV rowAt
  simp only [Heap.row, hg, Option.map_some, agg78, hs, loadRow]
  rfl

/-- value.Print of one row of bytes. -/
theorem vp_law (c : List UInt8) (hc : c.length ≤ 256) {H : Heap} {bs : Id} {ro : Bool} (hg : H.get bs = some (.cells ro 78 [i64 2, i64 0, .str c])) : ∃ H', callN Tryz.prog Y5 NF 45 [.slice bs 0 1 (some 1)] H = some (.str (valR c), H') ∧ Keeps H H' := by
  have o1 := ok5 (f := 94) rfl (vr_law c hc H)
  have s1 : Keeps H (LOk 12 H) := (SameH.lok 12 H).keeps
  obtain ⟨H2, r2, k2⟩ := vt_law c (by omega) (LOk 12 H)
  have oj : (Ob2.cax 57 [.slice (H2.next + 1) 0 1 none, .str [32]] ((H2.alloc (pcell (valR c))).alloc (pcell (valR c))) (.str (valR c)) ((H2.alloc (pcell (valR c))).alloc (pcell (valR c)))).ok Tryz.prog Y5 := by
    refine ⟨joinG, rfl, ?_⟩
    have hg2 : ((H2.alloc (pcell (valR c))).alloc (pcell (valR c))).get (H2.next + 1) = some (pcell (valR c)) := Heap.get_alloc_same _ _
    have hl : (valR c).length ≤ 140737488355328 := by
      have := hexS_length c
      simp only [valR, List.length_append, List.length_cons, List.length_nil]
      omega
    simp only [joinG, hg2]
    simp [strsOf, Lib.join, hl]
  exact ⟨_, run_heap (vp_run 2097146 bs c (valR c) H (LOk 12 H) H2) (obs2_cons (okLdV hg) (obs2_cons (o1) (obs2_cons (okLdV (s1.keep _ _ hg)) (obs2_cons (ok5 (f := 71) rfl r2) (obs2_cons (okApp H2 (valR c)) (obs2_cons (oj) obs2_nil)))))), (s1.trans k2).trans ((Keeps.alloc _ _).trans (Keeps.alloc _ _))⟩

end Go.AM
