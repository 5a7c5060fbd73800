/-
  The document's Clone: a script in memory of its own.
-/
import Derived.Test.YtmokkkbbbmcjnaaGreatDoorAsNg
set_option linter.unusedSectionVars false
set_option linter.unusedVariables false
set_option linter.unusedSimpArgs false
set_option maxRecDepth 100000
namespace Go.AM
open Go.Proofs Go.RowKit

noncomputable abbrev clB : Code := Code.go (bodyOf Tryz.prog 18) [1, 1, 0, 1, 0, 0]
abbrev clK : List Nat := [1, 2, 3, 4]
abbrev clV (sc sf oc of : V) (i : Int) : List V := [.box [sc, sf], .box [.nilslice, .nilslice], .box [oc, of], i64 i]
abbrev e0 (H : Heap) (ty : TypeId) : Heap := H.alloc (.cells false ty [])

def minL (a : Nat) (l : List Nat) : Nat := l.foldl min a
def clLo (H G1 G2 G3 G4 G5 : Heap) : Nat := minL H.lo [H.next, H.next, H.next, H.next + 1, H.next + 1, G1.lo, G1.next, G1.next + 1, G1.next + 1, G2.lo, G2.next, G2.next + 1, G2.next + 1, G3.lo, G3.next, G3.next + 1, G3.next + 1, G4.lo, G4.next, G4.next, G5.lo, G5.next, G5.next]

theorem cl_call {sc : V} {n_sc : Nat} (h_sc : LenIs sc n_sc) {sf : V} {n_sf : Nat} (h_sf : LenIs sf n_sf) {of : V} {n_of : Nat} (h_of : LenIs of n_of) (m bo ko : Nat) (co : Option Nat) (i : Int) (H G0 G : Heap) (J : List V → List V) :
    tellHeap Tryz.prog Y3 (m + 4) 18 [.agg [sc, sf]] H [(18, 9, .apx none (.slice bo 0 ko co) G0), (18, 0, .loop 46 clK (.exit 0) (clK.zip (clV sc sf (.slice bo 0 ko co) of i)) J G)] =
      (some ((V.agg [(V.slice bo 0 ko co), of]), (G, [(Ob2.apx none 37 37 (e0 H 9) (V.slice (H).next 0 0 (some 0)) sc (V.slice bo 0 ko co) G0), (Ob2.loop (((m+1)+1)+1) [1, 2, 3, 5] clB 46 [1, 2, 3, 4] [(V.box [sc, sf]), (V.box [V.nilslice, V.nilslice]), (V.box [(V.slice bo 0 ko co), V.nilslice]), (i64 0)] G0 (E.exit 0) [(1, (V.box [sc, sf])), (2, (V.box [V.nilslice, V.nilslice])), (3, (V.box [(V.slice bo 0 ko co), of])), (4, (i64 i))] J G)]))) := by rcases h_sc with ⟨rfl, rfl⟩ | ⟨b_sc, c_sc, rfl⟩ <;> rcases h_sf with ⟨rfl, rfl⟩ | ⟨b_sf, c_sf, rfl⟩ <;> rcases h_of with ⟨rfl, rfl⟩ | ⟨b_of, c_of, rfl⟩ <;> kernel_rfl
theorem cl_out {sf : V} {n_sf : Nat} (h_sf : LenIs sf n_sf) (m : Nat) (sc oc of : V) (i : Int) (H : Heap) (t : List V) :
    tellCode Tryz.prog Y3 (m + 3) 18 [1, 2, 3, 5] (m + 3) clB ⟨normL 46 (clK.zip (clV sc sf oc of i)) t, H⟩ [tv 18 15 false] clK =
      (some ((E.exit 0), (46, ([(V.box [sc, sf]), (V.box [V.nilslice, V.nilslice]), (V.box [oc, of]), (i64 i)], (H, [(Ob2.bin Go.BinOp.lss 3 (i64 i) (i64 n_sf) (V.bool false))]))))) := by rcases h_sf with ⟨rfl, rfl⟩ | ⟨b_sf, c_sf, rfl⟩ <;> kernel_rfl
theorem cl_go0 {p : V} {n_p : Nat} (h_p : LenIs p n_p) {r : V} {n_r : Nat} (h_r : LenIs r n_r) {l : V} {n_l : Nat} (h_l : LenIs l n_l) {c : V} {n_c : Nat} (h_c : LenIs c n_c) (m b n pp bo ko b1 b2 b3 b4 k1 k2 k3 k4 : Nat) (cp c1 c2 c3 c4 : Option Nat) (sc oc : V) (i j : Int) (H G1 G2 G3 G4 G5 : Heap) (t : List V) :
    tellCode Tryz.prog Y3 (m + 3) 18 [1, 2, 3, 5] (m + 3) clB ⟨normL 46 (clK.zip (clV sc (.slice b 0 n cp) oc .nilslice i)) t, H⟩ [tv 18 15 true, tp 18 21 (.ptr b pp), (18, 22, .ldx (.agg [p, r, l, c])), (18, 28, .apx (some true) (.slice b1 0 k1 c1) G1), (18, 32, .apx (some true) (.slice b2 0 k2 c2) G2), (18, 36, .apx (some true) (.slice b3 0 k3 c3) G3), (18, 40, .apx (some true) (.slice b4 0 k4 c4) G4), (18, 43, .apx (some true) (.slice bo 0 ko none) G5), tp 18 17 (i64 j)] clK =
      (some (E.normal, (46, ([(V.box [sc, (V.slice b 0 n cp)]), (V.box [V.nilslice, V.nilslice]), (V.box [oc, (V.slice bo 0 ko none)]), (i64 j)], (({ G5 with lo := clLo H G1 G2 G3 G4 G5 }), [(Ob2.bin Go.BinOp.lss 3 (i64 i) (i64 n) (V.bool true)), (Ob2.iadr 36 b 0 n cp (i64 i) (V.ptr b pp)), (Ob2.ldx 32 H (Go.Operand.tmp 21) (V.ptr b pp) (V.agg [p, r, l, c])), (Ob2.apx (some true) 29 29 (up (H.alloc (.cells false 3 []))) (V.slice (H).next 0 0 (some 0)) p (V.slice b1 0 k1 c1) G1), (Ob2.apx (some true) 29 29 (up (G1.alloc (.cells false 3 []))) (V.slice (G1).next 0 0 (some 0)) r (V.slice b2 0 k2 c2) G2), (Ob2.apx (some true) 29 29 (up (G2.alloc (.cells false 3 []))) (V.slice (G2).next 0 0 (some 0)) l (V.slice b3 0 k3 c3) G3), (Ob2.apx (some true) 30 30 (up (G3.alloc (.cells false 23 []))) (V.slice (G3).next 0 0 (some 0)) c (V.slice b4 0 k4 c4) G4), (Ob2.apx (some true) 36 36 (up (G4.alloc (.cells false 32 [.slice b1 0 k1 c1, .slice b2 0 k2 c2, .slice b3 0 k3 c3, .slice b4 0 k4 c4]))) V.nilslice (V.slice (G4).next 0 1 (some 1)) (V.slice bo 0 ko none) G5), (Ob2.bin Go.BinOp.add 3 (i64 i) (i64 1) (i64 j))]))))) := by rcases h_p with ⟨rfl, rfl⟩ | ⟨b_p, c_p, rfl⟩ <;> rcases h_r with ⟨rfl, rfl⟩ | ⟨b_r, c_r, rfl⟩ <;> rcases h_l with ⟨rfl, rfl⟩ | ⟨b_l, c_l, rfl⟩ <;> rcases h_c with ⟨rfl, rfl⟩ | ⟨b_c, c_c, rfl⟩ <;> kernel_rfl
theorem cl_go {p : V} {n_p : Nat} (h_p : LenIs p n_p) {r : V} {n_r : Nat} (h_r : LenIs r n_r) {l : V} {n_l : Nat} (h_l : LenIs l n_l) {c : V} {n_c : Nat} (h_c : LenIs c n_c) (m b n pp bo ko b1 b2 b3 b4 k1 k2 k3 k4 bx kx : Nat) (cp c1 c2 c3 c4 : Option Nat) (sc oc : V) (i j : Int) (H G1 G2 G3 G4 G5 : Heap) (t : List V) :
    tellCode Tryz.prog Y3 (m + 3) 18 [1, 2, 3, 5] (m + 3) clB ⟨normL 46 (clK.zip (clV sc (.slice b 0 n cp) oc (.slice bx 0 kx none) i)) t, H⟩ [tv 18 15 true, tp 18 21 (.ptr b pp), (18, 22, .ldx (.agg [p, r, l, c])), (18, 28, .apx (some true) (.slice b1 0 k1 c1) G1), (18, 32, .apx (some true) (.slice b2 0 k2 c2) G2), (18, 36, .apx (some true) (.slice b3 0 k3 c3) G3), (18, 40, .apx (some true) (.slice b4 0 k4 c4) G4), (18, 43, .apx (some false) (.slice bo 0 ko none) G5), tp 18 17 (i64 j)] clK =
      (some (E.normal, (46, ([(V.box [sc, (V.slice b 0 n cp)]), (V.box [V.nilslice, V.nilslice]), (V.box [oc, (V.slice bo 0 ko none)]), (i64 j)], (({ G5 with lo := clLo H G1 G2 G3 G4 G5 }), [(Ob2.bin Go.BinOp.lss 3 (i64 i) (i64 n) (V.bool true)), (Ob2.iadr 36 b 0 n cp (i64 i) (V.ptr b pp)), (Ob2.ldx 32 H (Go.Operand.tmp 21) (V.ptr b pp) (V.agg [p, r, l, c])), (Ob2.apx (some true) 29 29 (up (H.alloc (.cells false 3 []))) (V.slice (H).next 0 0 (some 0)) p (V.slice b1 0 k1 c1) G1), (Ob2.apx (some true) 29 29 (up (G1.alloc (.cells false 3 []))) (V.slice (G1).next 0 0 (some 0)) r (V.slice b2 0 k2 c2) G2), (Ob2.apx (some true) 29 29 (up (G2.alloc (.cells false 3 []))) (V.slice (G2).next 0 0 (some 0)) l (V.slice b3 0 k3 c3) G3), (Ob2.apx (some true) 30 30 (up (G3.alloc (.cells false 23 []))) (V.slice (G3).next 0 0 (some 0)) c (V.slice b4 0 k4 c4) G4), (Ob2.apx (some false) 36 36 (up (G4.alloc (.cells false 32 [.slice b1 0 k1 c1, .slice b2 0 k2 c2, .slice b3 0 k3 c3, .slice b4 0 k4 c4]))) (V.slice bx 0 kx none) (V.slice (G4).next 0 1 (some 1)) (V.slice bo 0 ko none) G5), (Ob2.bin Go.BinOp.add 3 (i64 i) (i64 1) (i64 j))]))))) := by rcases h_p with ⟨rfl, rfl⟩ | ⟨b_p, c_p, rfl⟩ <;> rcases h_r with ⟨rfl, rfl⟩ | ⟨b_r, c_r, rfl⟩ <;> rcases h_l with ⟨rfl, rfl⟩ | ⟨b_l, c_l, rfl⟩ <;> rcases h_c with ⟨rfl, rfl⟩ | ⟨b_c, c_c, rfl⟩ <;> kernel_rfl
/-! ### Rows copied -/

theorem Keeps.up {H H' : Heap} (h : Keeps H H') : Keeps H (up H') := ⟨h.next, h.get⟩
theorem Keeps.lo {H H' : Heap} (h : Keeps H H') (l : Nat) : Keeps H { H' with lo := l } := ⟨h.next, fun b hb => h.get b hb⟩

theorem copy_gen {t e : TypeId} {s bytes : Nat} (hu : Tryz.prog.underlying t = some (.slice e)) (hi : ∃ i, Tryz.prog.info? e = some i ∧ i.size = s ∧ i.bytes = bytes ∧ zok i = true) (hlt : Nat.blt t Tryz.prog.types.size = true) (hs : s ≠ 0) {h : Heap} {b0 : Id} {ro : Bool} {ty : TypeId} {row : List V} (hg : h.get b0 = some (.cells ro ty row)) {y : V} {m : Nat} {new : List V}
    (hc : cellsOfV s h y = some (m, new)) (hb : m * bytes ≤ room) (hm : m ≤ room) : appendV Tryz.prog t t h (.slice b0 0 0 (some 0)) y = if m = 0 then some (.slice b0 0 0 (some 0), h) else some (.slice h.next 0 m none, h.alloc (.cells false e new)) := by
  obtain ⟨i, h1, h2, h3, h4⟩ := hi
  have e1 : appendV Tryz.prog t t h (.slice b0 0 0 (some 0)) y = appendS Tryz.prog t t h (.slice b0 0 0 (some 0)) y := by
    unfold appendV
    rw [if_pos hlt]
    cases y <;> first | rfl | (simp [cellsOfV] at hc; done)
  rw [e1]
  unfold appendS
  simp only [hu, h1, h2, h3, h4, hc, hg]
  rw [if_neg (by simp [srcOk, hs]), if_pos ⟨by simpa using hb, by simpa using hm⟩]
  by_cases h0 : m = 0
  · subst h0; simp
  · rw [if_neg (by omega), if_neg h0]
    simp [loadRow]

theorem i23' : (Tryz.prog.info? 23).map (fun i => (i.size, i.bytes, zok i)) = some (2, 16, true) := by kernel_rfl
theorem i23 : ∃ i, Tryz.prog.info? 23 = some i ∧ i.size = 2 ∧ i.bytes = 16 ∧ zok i = true := by
  obtain ⟨i, h, e⟩ := Option.map_eq_some_iff.1 i23'
  simp only [Prod.mk.injEq] at e
  exact ⟨i, h, e.1, e.2.1, e.2.2⟩
theorem i32' : (Tryz.prog.info? 32).map (fun i => (i.size, i.bytes, zok i)) = some (4, 96, true) := by kernel_rfl
theorem i32 : ∃ i, Tryz.prog.info? 32 = some i ∧ i.size = 4 ∧ i.bytes = 96 ∧ zok i = true := by
  obtain ⟨i, h, e⟩ := Option.map_eq_some_iff.1 i32'
  simp only [Prod.mk.injEq] at e
  exact ⟨i, h, e.1, e.2.1, e.2.2⟩
theorem lt30 : Nat.blt 30 Tryz.prog.types.size = true := by kernel_rfl
theorem lt36 : Nat.blt 36 Tryz.prog.types.size = true := by kernel_rfl
theorem sz32 : szOf Tryz.prog 32 = some 4 := by kernel_rfl

theorem code_cells {H : Heap} {y : V} {l : List (Int × Int)} (h : CodeAt H y l) : cellsOfV 2 H y = some (l.length, crow l) := by
  rcases h with ⟨rfl, rfl⟩ | ⟨b, cp, ro, rfl, hg⟩
  · rfl
  · simp only [cellsOfV, Heap.row, hg, loadRow]
    rw [if_pos (by simp [crow_length])]
    rw [List.drop_zero, List.take_of_length_le (by rw [crow_length]; omega)]
    rfl
theorem strs_cells {H : Heap} {y : V} {l : List (List UInt8)} (h : StrsAt H y l) : cellsOfV 1 H y = some (l.length, l.map V.str) := by
  rcases h with ⟨rfl, rfl⟩ | ⟨b, cp, ro, rfl, hg⟩
  · rfl
  · simp only [cellsOfV, Heap.row, hg, loadRow]
    rw [if_pos (by simp)]
    simp [List.take_of_length_le]

theorem copy_ints {h : Heap} {v : V} {l : List Int} (hv : IntsAt h v l) (hl : l.length ≤ 1048576) :
    ∃ b k c G, appendV Tryz.prog 29 29 (up (h.alloc (.cells false 3 []))) (.slice h.next 0 0 (some 0)) v = some (.slice b 0 k c, G) ∧ (up (h.alloc (.cells false 3 []))).next ≤ G.lo ∧ Keeps h G ∧ IntsAt G (.slice b 0 k c) l := by
  have k0 : Keeps h (up (h.alloc (.cells false 3 []))) := (Keeps.alloc h _).up
  have g0 : (up (h.alloc (.cells false 3 []))).get h.next = some (.cells false 3 []) := Heap.get_alloc_same _ _
  have key := copy_gen (t := 29) (e := 3) (s := 1) (bytes := 8) Tryz.underlying29 i3 lt29 (by decide) g0 (ints_cells (hv.mono k0.keep)) (by unfold room; omega) (by unfold room; omega)
  by_cases h0 : l = []
  · subst h0
    exact ⟨_, _, _, _, key, Nat.le_refl _, k0, .inr ⟨h.next, some 0, false, rfl, g0⟩⟩
  · have hpos : 0 < l.length := List.length_pos_iff.2 h0
    rw [if_neg (by omega)] at key
    exact ⟨_, _, _, _, key, Nat.le_refl _, k0.trans (Keeps.alloc _ _), .inr ⟨_, none, false, rfl, Heap.get_alloc_same _ _⟩⟩
theorem copy_code {h : Heap} {v : V} {l : List (Int × Int)} (hv : CodeAt h v l) (hl : l.length ≤ 1048576) :
    ∃ b k c G, appendV Tryz.prog 30 30 (up (h.alloc (.cells false 23 []))) (.slice h.next 0 0 (some 0)) v = some (.slice b 0 k c, G) ∧ (up (h.alloc (.cells false 23 []))).next ≤ G.lo ∧ Keeps h G ∧ CodeAt G (.slice b 0 k c) l := by
  have k0 : Keeps h (up (h.alloc (.cells false 23 []))) := (Keeps.alloc h _).up
  have g0 : (up (h.alloc (.cells false 23 []))).get h.next = some (.cells false 23 []) := Heap.get_alloc_same _ _
  have key := copy_gen (t := 30) (e := 23) (s := 2) (bytes := 16) Tryz.underlying30 i23 lt30 (by decide) g0 (code_cells (hv.mono k0.keep)) (by unfold room; omega) (by unfold room; omega)
  by_cases h0 : l = []
  · subst h0
    exact ⟨_, _, _, _, key, Nat.le_refl _, k0, .inr ⟨h.next, some 0, false, rfl, g0⟩⟩
  · have hpos : 0 < l.length := List.length_pos_iff.2 h0
    rw [if_neg (by omega)] at key
    exact ⟨_, _, _, _, key, Nat.le_refl _, k0.trans (Keeps.alloc _ _), .inr ⟨_, none, false, rfl, Heap.get_alloc_same _ _⟩⟩
theorem copy_strs {h : Heap} {v : V} {l : List (List UInt8)} (hv : StrsAt h v l) (hl : l.length ≤ 1048576) :
    ∃ b k c G, appendV Tryz.prog 37 37 (e0 h 9) (.slice h.next 0 0 (some 0)) v = some (.slice b 0 k c, G) ∧ Keeps h G ∧ StrsAt G (.slice b 0 k c) l := by
  have k0 : Keeps h (e0 h 9) := Keeps.alloc h _
  have g0 : (e0 h 9).get h.next = some (.cells false 9 []) := Heap.get_alloc_same _ _
  have key := copy_gen (t := 37) (e := 9) (s := 1) (bytes := 16) Tryz.underlying37 i9 lt37 (by decide) g0 (strs_cells (hv.mono k0.keep)) (by unfold room; omega) (by unfold room; omega)
  by_cases h0 : l = []
  · subst h0
    exact ⟨_, _, _, _, key, k0, .inr ⟨h.next, some 0, false, rfl, g0⟩⟩
  · have hpos : 0 < l.length := List.length_pos_iff.2 h0
    rw [if_neg (by omega)] at key
    exact ⟨_, _, _, _, key, k0.trans (Keeps.alloc _ _), .inr ⟨_, none, false, rfl, Heap.get_alloc_same _ _⟩⟩

theorem fn_cells (h : Heap) {vs : List V} (hv : vs.length = 4) : cellsOfV 4 (up (h.alloc (.cells false 32 vs))) (.slice h.next 0 1 (some 1)) = some (1, vs) := by
  have g0 : (up (h.alloc (.cells false 32 vs))).get h.next = some (.cells false 32 vs) := Heap.get_alloc_same _ _
  simp only [cellsOfV, Heap.row, g0, loadRow]
  rw [if_pos (by omega)]
  simp [List.take_of_length_le, hv]
theorem fn_app0 (h : Heap) {vs : List V} (hv : vs.length = 4) : appendV Tryz.prog 36 36 (up (h.alloc (.cells false 32 vs))) .nilslice (.slice h.next 0 1 (some 1)) = some (.slice (h.next + 1) 0 1 none, (up (h.alloc (.cells false 32 vs))).alloc (.cells false 32 vs)) := by
  have hu : Tryz.prog.underlying 36 = some (.slice 32) := Tryz.underlying36
  obtain ⟨i, h1, h2, h3, h4⟩ := i32
  unfold appendV
  rw [if_pos lt36]
  simp only
  unfold appendS
  simp only [hu, h1, h2, h3, h4, fn_cells h hv]
  rfl
theorem fn_app (h : Heap) {vs : List V} (hv : vs.length = 4) {b : Id} {row : List V} {k : Nat} (hb : b < h.next) (hg : h.get b = some (.cells false 32 row)) (hr : row.length = k * 4) (hk : k ≤ 1048576) :
    appendV Tryz.prog 36 36 (up (h.alloc (.cells false 32 vs))) (.slice b 0 k none) (.slice h.next 0 1 (some 1)) = some (.slice (h.next + 1) 0 (k + 1) none, ((up (h.alloc (.cells false 32 vs))).set b .dead).alloc (.cells false 32 (row ++ vs))) := by
  have hu : Tryz.prog.underlying 36 = some (.slice 32) := Tryz.underlying36
  obtain ⟨i, h1, h2, h3, h4⟩ := i32
  have hg' : (up (h.alloc (.cells false 32 vs))).get b = some (.cells false 32 row) := ((Keeps.alloc h (.cells false 32 vs)).up.get b hb).trans hg
  unfold appendV
  rw [if_pos lt36]
  simp only
  unfold appendS
  simp only [hu, h1, h2, h3, h4, fn_cells h hv, hg', sz32]
  rw [if_neg (by simp [srcOk]), if_pos ⟨by unfold room; omega, by unfold room; omega⟩]
  simp only [show ¬ (1 = 0) by decide, if_false, ne_eq, not_true_eq_false]
  rw [if_neg (by omega), if_pos ⟨by omega, by simp⟩]
  rfl

/-- Rows other than of functions are as they were. -/
def KeepN (H H' : Heap) : Prop := ∀ b ro ty l, ty ≠ 32 → H.get b = some (.cells ro ty l) → H'.get b = some (.cells ro ty l)
theorem Keeps.n {H H' : Heap} (h : Keeps H H') : KeepN H H' := fun b _ _ _ _ hg => h.keep b _ hg
theorem KeepN.trans {A B C : Heap} (h : KeepN A B) (h' : KeepN B C) : KeepN A C := fun b ro ty l ht hg => h' b ro ty l ht (h b ro ty l ht hg)
theorem KeepN.set {H : Heap} {b : Id} {row : List V} (hg : H.get b = some (.cells false 32 row)) (o : Obj) : KeepN H (H.set b o) := fun c ro ty l ht hc => by
  rw [Heap.get_set_ne _ _ _ _ (fun e => by subst e; rw [hg] at hc; cases hc; exact ht rfl)]
  exact hc
theorem IntsAt.n {H H' : Heap} (hs : KeepN H H') {v : V} {l : List Int} (h : IntsAt H v l) : IntsAt H' v l := by
  rcases h with h | ⟨b, cp, ro, h1, h2⟩
  · exact .inl h
  · exact .inr ⟨b, cp, ro, h1, hs _ _ _ _ (by decide) h2⟩
theorem CodeAt.n {H H' : Heap} (hs : KeepN H H') {v : V} {l : List (Int × Int)} (h : CodeAt H v l) : CodeAt H' v l := by
  rcases h with h | ⟨b, cp, ro, h1, h2⟩
  · exact .inl h
  · exact .inr ⟨b, cp, ro, h1, hs _ _ _ _ (by decide) h2⟩
theorem FnAt.n {H H' : Heap} (hs : KeepN H H') {v : List V} {f : Fn} (h : FnAt H v f) : FnAt H' v f := by
  obtain ⟨vp, vr, vl, vc, h1, h2, h3, h4, h5⟩ := h.ex
  exact ⟨vp, vr, vl, vc, h1, h2.n hs, h3.n hs, h4.n hs, h5.n hs⟩

theorem fn_app0' (h : Heap) {vs : List V} (hv : vs.length = 4) : ∃ GA, appendV Tryz.prog 36 36 (up (h.alloc (.cells false 32 vs))) .nilslice (.slice h.next 0 1 (some 1)) = some (.slice (h.next + 1) 0 1 none, GA) ∧ (up (h.alloc (.cells false 32 vs))).next ≤ GA.lo ∧ Keeps h GA ∧ GA.get (h.next + 1) = some (.cells false 32 vs) :=
  ⟨_, fn_app0 h hv, Nat.le_refl _, (Keeps.alloc h _).up.trans (Keeps.alloc _ _), Heap.get_alloc_same _ _⟩
theorem fn_app' (h : Heap) {vs : List V} (hv : vs.length = 4) {b : Id} {row : List V} {k : Nat} (hb : b < h.next) (hg : h.get b = some (.cells false 32 row)) (hr : row.length = k * 4) (hk : k ≤ 1048576) :
    ∃ GA, appendV Tryz.prog 36 36 (up (h.alloc (.cells false 32 vs))) (.slice b 0 k none) (.slice h.next 0 1 (some 1)) = some (.slice (h.next + 1) 0 (k + 1) none, GA) ∧ GA.lo < (up (h.alloc (.cells false 32 vs))).next ∧ KeepN h GA ∧ (∀ c, c < h.next → c ≠ b → GA.get c = h.get c) ∧ h.next ≤ GA.next ∧ GA.get (h.next + 1) = some (.cells false 32 (row ++ vs)) := by
  have kA : Keeps h (up (h.alloc (.cells false 32 vs))) := (Keeps.alloc h _).up
  refine ⟨_, fn_app h hv hb hg hr hk, ?_, (kA.n.trans (KeepN.set (kA.keep _ _ hg) .dead)).trans (Keeps.alloc _ _).n, fun c hc hcb => ?_, ?_, Heap.get_alloc_same _ _⟩
  · have hb' : b < h.next := hb
    exact Nat.lt_of_le_of_lt (Nat.min_le_right (h.next + 1) b) (Nat.lt_succ_of_lt hb')
  · rw [Heap.get_alloc_ne _ _ _ (by simp only [Heap.next_set]; show c ≠ h.next + 1; omega), Heap.get_set_ne _ _ _ _ hcb]
    exact kA.get c hc
  · simp only [Heap.next_alloc, Heap.next_set]
    omega

theorem okApT {X : Ext} {t0 t1 : TypeId} {h h' : Heap} {x y v : V} (ha : appendV Tryz.prog t0 t1 h x y = some (v, h')) (hq : h.next ≤ h'.lo) : (Ob2.apx (some true) t0 t1 h x y v h').ok Tryz.prog X := ⟨ha, hq⟩
theorem okApF {X : Ext} {t0 t1 : TypeId} {h h' : Heap} {x y v : V} (ha : appendV Tryz.prog t0 t1 h x y = some (v, h')) (hq : h'.lo < h.next) : (Ob2.apx (some false) t0 t1 h x y v h').ok Tryz.prog X := ⟨ha, hq⟩
theorem okApN {X : Ext} {t0 t1 : TypeId} {h h' : Heap} {x y v : V} (ha : appendV Tryz.prog t0 t1 h x y = some (v, h')) : (Ob2.apx none t0 t1 h x y v h').ok Tryz.prog X := ⟨ha, trivial⟩
theorem KeepN.lo {H H' : Heap} (h : KeepN H H') (l : Nat) : KeepN H { H' with lo := l } := h
theorem get_lo {G : Heap} {b : Id} {x : Option Obj} (h : G.get b = x) (l : Nat) : ({ G with lo := l } : Heap).get b = x := h
theorem FnAt.lo {H : Heap} {v : List V} {f : Fn} (h : FnAt H v f) (l : Nat) : FnAt { H with lo := l } v f := h.mono (H' := { H with lo := l }) fun _ _ hg => get_lo hg l

def OutAt (G0 h : Heap) (of : V) (fs : List Fn) (i : Nat) : Prop := (i = 0 ∧ of = .nilslice) ∨ (0 < i ∧ ∃ bo row, of = .slice bo 0 i none ∧ G0.next ≤ bo ∧ h.get bo = some (.cells false 32 row) ∧ row.length = i * 4 ∧ ∀ j f, j < i → fs[j]? = some f → FnAt h ((row.drop (j * 4)).take 4) f)

noncomputable abbrev clEx : St → Option (E × St) := exec Tryz.prog (callN Tryz.prog Y3 2097151) [1, 2, 3, 5] 2097151 clB

set_option maxHeartbeats 1000000 in
theorem cl_round {G0 : Heap} {sc oc of : V} {b : Id} {cp : Option Nat} {ro : Bool} {row : List V} {fs : List Fn} (hn : fs.length ≤ 1048576) (hg : G0.get b = some (.cells ro 32 row)) (hlen : row.length = fs.length * 4) {i : Nat} {f : Fn} (hf : fs[i]? = some f) (hat : FnAt G0 ((row.drop (i * 4)).take 4) f) (hs : f.small) {h : Heap} (hk : Keeps G0 h) (ho : OutAt G0 h of fs i) :
    ∃ of' G, Keeps G0 G ∧ OutAt G0 G of' fs (i + 1) ∧ Goes clEx 46 clK (clV sc (.slice b 0 fs.length cp) oc of i) h .normal clK (clV sc (.slice b 0 fs.length cp) oc of' (i + 1 : Nat)) G := by
  have hi := lt_of_get hf
  obtain ⟨vp, vr, vl, vc, hrow, ap, ar, al, ac⟩ := hat.ex
  have o1 : (obI .lss (i : Nat) fs.length true).ok Tryz.prog Y3 := okIlt (by simp; omega)
  have o2 := okIaF (X := Y3) b fs.length i cp hi
  have o3 : (Ob2.ldx 32 h (.tmp 21) (.ptr b (i * 4)) (.agg [vp, vr, vl, vc])).ok Tryz.prog Y3 := by
    rw [← hrow]
    exact okLdF (hk.keep _ _ hg) hlen hi
  obtain ⟨b1, k1, c1, G1, a1, q1, s1, t1⟩ := copy_ints (ap.mono hk.keep) hs.p
  have m1 := hk.trans s1
  obtain ⟨b2, k2, c2, G2, a2, q2, s2, t2⟩ := copy_ints (ar.mono m1.keep) hs.r
  have m2 := m1.trans s2
  obtain ⟨b3, k3, c3, G3, a3, q3, s3, t3⟩ := copy_ints (al.mono m2.keep) hs.l
  have m3 := m2.trans s3
  obtain ⟨b4, k4, c4, G4, a4, q4, s4, t4⟩ := copy_code (ac.mono m3.keep) hs.c
  have m4 := m3.trans s4
  have n1 := t1.mono ((s2.trans s3).trans s4).keep
  have n2 := t2.mono (s3.trans s4).keep
  have n3 := t3.mono s4.keep
  have h4 := ((s1.trans s2).trans s3).trans s4
  have hnew : ∀ G, KeepN G4 G → FnAt G [.slice b1 0 k1 c1, .slice b2 0 k2 c2, .slice b3 0 k3 c3, .slice b4 0 k4 c4] f := fun G hG => ⟨_, _, _, _, rfl, n1.n hG, n2.n hG, n3.n hG, t4.n hG⟩
  rcases ho with ⟨rfl, rfl⟩ | ⟨hi0, bo, orow, rfl, hbo, hgo, hol, hfo⟩
  · obtain ⟨GA, a5, q5, k5, g5⟩ := fn_app0' G4 (vs := [.slice b1 0 k1 c1, .slice b2 0 k2 c2, .slice b3 0 k3 c3, .slice b4 0 k4 c4]) rfl
    have go := goes_tell (fun t => cl_go0 ap.len ar.len al.len ac.len 2097148 b fs.length (0 * 4) (G4.next + 1) 1 b1 b2 b3 b4 k1 k2 k3 k4 cp c1 c2 c3 c4 sc oc (0 : Nat) ((0 + 1 : Nat) : Int) h G1 G2 G3 G4 GA t) (obs2_cons (o1) (obs2_cons (o2) (obs2_cons (o3) (obs2_cons (okApT a1 q1) (obs2_cons (okApT a2 q2) (obs2_cons (okApT a3 q3) (obs2_cons (okApT a4 q4) (obs2_cons (okApT a5 q5) (obs2_cons (okInc 0 (by omega)) obs2_nil)))))))))
    refine ⟨.slice (G4.next + 1) 0 1 none, { GA with lo := clLo h G1 G2 G3 G4 GA }, (m4.trans k5).lo _, .inr ⟨by omega, G4.next + 1, _, rfl, Nat.le_trans m4.next (Nat.le_succ _), get_lo g5 _, rfl, ?_⟩, go⟩
    intro j f' hj hf'
    have : j = 0 := by omega
    subst this
    rw [hf] at hf'
    cases hf'
    exact (hnew GA k5.n).lo _
  · have hbx : bo < G4.next := Nat.lt_of_lt_of_le (Heap.get_lt hgo) h4.next
    have hgx : G4.get bo = some (.cells false 32 orow) := h4.keep _ _ hgo
    obtain ⟨GA, a5, q5, kN, kc, nx, g5⟩ := fn_app' G4 (vs := [.slice b1 0 k1 c1, .slice b2 0 k2 c2, .slice b3 0 k3 c3, .slice b4 0 k4 c4]) rfl hbx hgx hol (by omega)
    have go := goes_tell (fun t => cl_go ap.len ar.len al.len ac.len 2097148 b fs.length (i * 4) (G4.next + 1) (i + 1) b1 b2 b3 b4 k1 k2 k3 k4 bo i cp c1 c2 c3 c4 sc oc i ((i + 1 : Nat) : Int) h G1 G2 G3 G4 GA t) (obs2_cons (o1) (obs2_cons (o2) (obs2_cons (o3) (obs2_cons (okApT a1 q1) (obs2_cons (okApT a2 q2) (obs2_cons (okApT a3 q3) (obs2_cons (okApT a4 q4) (obs2_cons (okApF a5 q5) (obs2_cons (okInc i (by omega)) obs2_nil)))))))))
    have kGA : Keeps G0 GA := ⟨Nat.le_trans m4.next nx, fun c hc => (kc c (Nat.lt_of_lt_of_le hc m4.next) (by omega)).trans (m4.get c hc)⟩
    refine ⟨.slice (G4.next + 1) 0 (i + 1) none, { GA with lo := clLo h G1 G2 G3 G4 GA }, kGA.lo _, .inr ⟨by omega, G4.next + 1, _, rfl, Nat.le_trans m4.next (Nat.le_succ _), get_lo g5 _, by simp [hol]; omega, ?_⟩, go⟩
    intro j f' hj hf'
    rcases Nat.lt_or_ge j i with hj' | hj'
    · have e : ((orow ++ [V.slice b1 0 k1 c1, .slice b2 0 k2 c2, .slice b3 0 k3 c3, .slice b4 0 k4 c4]).drop (j * 4)).take 4 = (orow.drop (j * 4)).take 4 := by
        rw [List.drop_append_of_le_length (by omega), List.take_append_of_le_length (by simp; omega)]
      rw [e]
      exact (((hfo j f' hj' hf').mono h4.keep).n kN).lo _
    · have : j = i := by omega
      subst this
      rw [hf] at hf'
      cases hf'
      have e : ((orow ++ [V.slice b1 0 k1 c1, .slice b2 0 k2 c2, .slice b3 0 k3 c3, .slice b4 0 k4 c4]).drop (j * 4)).take 4 = [V.slice b1 0 k1 c1, .slice b2 0 k2 c2, .slice b3 0 k3 c3, .slice b4 0 k4 c4] := by
        rw [List.drop_append, List.drop_eq_nil_of_le (by omega), hol]
        simp
      rw [e]
      exact (hnew GA kN).lo _

set_option maxHeartbeats 1000000 in
/-- A copy that holds the same. -/
theorem clone_run {H : Heap} {v : List V} {s : Sc} (hv : ScAt H v s) (hs : s.small) : ∃ v' H', callN Tryz.prog Y3 NF 18 [.agg v] H = some (.agg v', H') ∧ Keeps H H' ∧ ScAt H' v' s := by
  obtain ⟨sc, sf, rfl, ac, af⟩ := hv.ex
  obtain ⟨bc, kc, cc, G0, a0, k0, ac0⟩ := copy_strs ac hs.cs
  have af0 := af.mono k0.keep
  obtain ⟨ks', vs', h', ⟨of, rfl, rfl, hk, ho⟩, g⟩ := loop_leave (ex := clEx) (N := 46) (ks := clK) (n := s.fs.length) (fun i vs h => ∃ of, vs = clV sc sf (.slice bc 0 kc cc) of i ∧ Keeps G0 h ∧ OutAt G0 h of s.fs i) (fun i vs h hi ⟨of, e, hk, ho⟩ => by
      subst e
      obtain ⟨f, hf⟩ := get_of_lt hi
      rcases af0 with ⟨_, h0⟩ | ⟨b, cp, ro, row, rfl, hg, hlen, hat⟩
      · rw [h0] at hf; simp at hf
      obtain ⟨of', G, g1, g2, g3⟩ := cl_round (sc := sc) (oc := .slice bc 0 kc cc) (cp := cp) hs.fs hg hlen hf (hat i f hf) (hs.fn f (List.mem_of_getElem? hf)) hk ho
      exact ⟨_, G, ⟨of', rfl, g1, g2⟩, g3⟩) (vs0 := clV sc sf (.slice bc 0 kc cc) .nilslice 0) (h0 := G0) ⟨_, rfl, Keeps.refl _, .inl ⟨rfl, rfl⟩⟩ (e := .exit 0) (by decide) (Q := fun ks' vs' h' => ∃ of, ks' = clK ∧ vs' = clV sc sf (.slice bc 0 kc cc) of s.fs.length ∧ Keeps G0 h' ∧ OutAt G0 h' of s.fs s.fs.length) (fun vs h ⟨of, e, hk, ho⟩ => by
      subst e
      exact ⟨_, _, _, ⟨of, rfl, rfl, hk, ho⟩, goes_tell (fun t => cl_out af0.len 2097148 sc _ of s.fs.length h t) (obs2_cons (okIlt (by simp)) obs2_nil)⟩) (fuel := 2097151) (by have := hs.fs; omega)
  have hout : FnsAt h' of s.fs := by
    rcases ho with ⟨h0, rfl⟩ | ⟨h0, bo, row, rfl, _, hg, hl, hat⟩
    · exact .inl ⟨rfl, List.length_eq_zero_iff.1 h0⟩
    · exact .inr ⟨bo, none, false, row, rfl, hg, hl, fun j f hf => hat j f (lt_of_get hf) hf⟩
  exact ⟨_, h', run_heap (cl_call ac.len af.len hout.len 2097148 bc kc cc s.fs.length H G0 h' _) (obs2_cons (okApN a0) (obs2_cons (ok_goes g rfl) obs2_nil)), k0.trans hk, ⟨_, _, rfl, ac0.mono hk.keep, hout⟩⟩

end Go.AM
