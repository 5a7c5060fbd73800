/-
  The document's answer of a function of a script: may it be?
-/
import Derived.Test.YtmokkkbbbmcjnaaGreatDoorAsNc
set_option linter.unusedSectionVars false
set_option linter.unusedVariables false
set_option linter.unusedSimpArgs false
namespace Go.AM
open Go.Proofs Go.RowKit

abbrev NF : Nat := 2097152
noncomputable def Y1 : Ext := runExt Tryz.prog XE NF [73, 74, 66]
theorem Y1_ok : ExtOk Tryz.prog Y1 := runExt_ok mixed XE_ok XE_mono NF _
theorem Y1_mono : ExtMono Y1 := runExt_mono XE_mono NF _

noncomputable abbrev rfBody : Code := Code.go (bodyOf Tryz.prog 49) [1, 1, 0, 1, 0, 0]
abbrev rfKs : List Nat := [2, 3, 4, 5]
abbrev rfVs (sc sf p r l c : V) (i : Int) : List V := [.box [sc, sf], .box [p, r, l, c], .bool false, i64 i]
abbrev t73 (d : Tmp) (r : Bool) (H : Heap) : FuncId × Tmp × Tell := (49, d, .cax (.bool r) H)
abbrev q74 (d : Tmp) (r : Bool) (H : Heap) : FuncId × Tmp × Tell := (49, d, .caq (.bool r) H)
abbrev go13 (H : Heap) : Heap := up (LOk 13 H)

theorem rf_1 {p : V} {n_p : Nat} (h_p : LenIs p n_p) {r : V} {n_r : Nat} (h_r : LenIs r n_r) {l : V} {n_l : Nat} (h_l : LenIs l n_l) {c : V} {n_c : Nat} (h_c : LenIs c n_c) (m : Nat) (sc sf : V) (H : Heap) :
    tellHeap Tryz.prog Y1 (m + 2) 49 [.agg [sc, sf], .agg [p, r, l, c]] H [t73 8 false H] =
      (some ((V.bool false), (H, [(Ob2.cax 73 [p, (i64 8)] H (V.bool false) H)]))) := by rcases h_p with ⟨rfl, rfl⟩ | ⟨b_p, c_p, rfl⟩ <;> rcases h_r with ⟨rfl, rfl⟩ | ⟨b_r, c_r, rfl⟩ <;> rcases h_l with ⟨rfl, rfl⟩ | ⟨b_l, c_l, rfl⟩ <;> rcases h_c with ⟨rfl, rfl⟩ | ⟨b_c, c_c, rfl⟩ <;> kernel_rfl
theorem rf_2 {p : V} {n_p : Nat} (h_p : LenIs p n_p) {r : V} {n_r : Nat} (h_r : LenIs r n_r) {l : V} {n_l : Nat} (h_l : LenIs l n_l) {c : V} {n_c : Nat} (h_c : LenIs c n_c) (m : Nat) (sc sf : V) (H : Heap) :
    tellHeap Tryz.prog Y1 (m + 2) 49 [.agg [sc, sf], .agg [p, r, l, c]] H [t73 8 true H, t73 13 false H] =
      (some ((V.bool false), (H, [(Ob2.cax 73 [p, (i64 8)] H (V.bool true) H), (Ob2.cax 73 [r, (i64 8)] H (V.bool false) H)]))) := by rcases h_p with ⟨rfl, rfl⟩ | ⟨b_p, c_p, rfl⟩ <;> rcases h_r with ⟨rfl, rfl⟩ | ⟨b_r, c_r, rfl⟩ <;> rcases h_l with ⟨rfl, rfl⟩ | ⟨b_l, c_l, rfl⟩ <;> rcases h_c with ⟨rfl, rfl⟩ | ⟨b_c, c_c, rfl⟩ <;> kernel_rfl
theorem rf_3 {p : V} {n_p : Nat} (h_p : LenIs p n_p) {r : V} {n_r : Nat} (h_r : LenIs r n_r) {l : V} {n_l : Nat} (h_l : LenIs l n_l) {c : V} {n_c : Nat} (h_c : LenIs c n_c) (m : Nat) (sc sf : V) (H : Heap) :
    tellHeap Tryz.prog Y1 (m + 2) 49 [.agg [sc, sf], .agg [p, r, l, c]] H [t73 8 true H, t73 13 true H, t73 19 false H] =
      (some ((V.bool false), (H, [(Ob2.cax 73 [p, (i64 8)] H (V.bool true) H), (Ob2.cax 73 [r, (i64 8)] H (V.bool true) H), (Ob2.cax 73 [l, (i64 16)] H (V.bool false) H)]))) := by rcases h_p with ⟨rfl, rfl⟩ | ⟨b_p, c_p, rfl⟩ <;> rcases h_r with ⟨rfl, rfl⟩ | ⟨b_r, c_r, rfl⟩ <;> rcases h_l with ⟨rfl, rfl⟩ | ⟨b_l, c_l, rfl⟩ <;> rcases h_c with ⟨rfl, rfl⟩ | ⟨b_c, c_c, rfl⟩ <;> kernel_rfl
theorem rf_4 {p : V} {n_p : Nat} (h_p : LenIs p n_p) {r : V} {n_r : Nat} (h_r : LenIs r n_r) {l : V} {n_l : Nat} (h_l : LenIs l n_l) {c : V} {n_c : Nat} (h_c : LenIs c n_c) (m : Nat) (sc sf : V) (q : Int) (H : Heap) :
    tellHeap Tryz.prog Y1 (m + 2) 49 [.agg [sc, sf], .agg [p, r, l, c]] H [t73 8 true H, t73 13 true H, t73 19 true H, tp 49 29 (i64 q), tv 49 30 true] =
      (some ((V.bool false), (H, [(Ob2.cax 73 [p, (i64 8)] H (V.bool true) H), (Ob2.cax 73 [r, (i64 8)] H (V.bool true) H), (Ob2.cax 73 [l, (i64 16)] H (V.bool true) H), (Ob2.bin Go.BinOp.sub 3 (i64 16) (i64 n_l) (i64 q)), (Ob2.bin Go.BinOp.gtr 3 (i64 n_p) (i64 q) (V.bool true))]))) := by rcases h_p with ⟨rfl, rfl⟩ | ⟨b_p, c_p, rfl⟩ <;> rcases h_r with ⟨rfl, rfl⟩ | ⟨b_r, c_r, rfl⟩ <;> rcases h_l with ⟨rfl, rfl⟩ | ⟨b_l, c_l, rfl⟩ <;> rcases h_c with ⟨rfl, rfl⟩ | ⟨b_c, c_c, rfl⟩ <;> kernel_rfl
theorem rf_5 {p : V} {n_p : Nat} (h_p : LenIs p n_p) {r : V} {n_r : Nat} (h_r : LenIs r n_r) {l : V} {n_l : Nat} (h_l : LenIs l n_l) {c : V} {n_c : Nat} (h_c : LenIs c n_c) (m : Nat) (sc sf : V) (q : Int) (H : Heap) :
    tellHeap Tryz.prog Y1 (m + 2) 49 [.agg [sc, sf], .agg [p, r, l, c]] H [t73 8 true H, t73 13 true H, t73 19 true H, tp 49 29 (i64 q), tv 49 30 false, tv 49 36 true] =
      (some ((V.bool false), (H, [(Ob2.cax 73 [p, (i64 8)] H (V.bool true) H), (Ob2.cax 73 [r, (i64 8)] H (V.bool true) H), (Ob2.cax 73 [l, (i64 16)] H (V.bool true) H), (Ob2.bin Go.BinOp.sub 3 (i64 16) (i64 n_l) (i64 q)), (Ob2.bin Go.BinOp.gtr 3 (i64 n_p) (i64 q) (V.bool false)), (Ob2.bin Go.BinOp.gtr 3 (i64 n_c) (i64 256) (V.bool true))]))) := by rcases h_p with ⟨rfl, rfl⟩ | ⟨b_p, c_p, rfl⟩ <;> rcases h_r with ⟨rfl, rfl⟩ | ⟨b_r, c_r, rfl⟩ <;> rcases h_l with ⟨rfl, rfl⟩ | ⟨b_l, c_l, rfl⟩ <;> rcases h_c with ⟨rfl, rfl⟩ | ⟨b_c, c_c, rfl⟩ <;> kernel_rfl
theorem rf_yes {p : V} {n_p : Nat} (h_p : LenIs p n_p) {r : V} {n_r : Nat} (h_r : LenIs r n_r) {l : V} {n_l : Nat} (h_l : LenIs l n_l) {c : V} {n_c : Nat} (h_c : LenIs c n_c) (m : Nat) (sc sf : V) (q i : Int) (H G : Heap) (J : List V → List V) :
    tellHeap Tryz.prog Y1 (m + 2) 49 [.agg [sc, sf], .agg [p, r, l, c]] H [t73 8 true H, t73 13 true H, t73 19 true H, tp 49 29 (i64 q), tv 49 30 false, tv 49 36 false, (49, 0, .loop 60 rfKs (.exit 0) (rfKs.zip (rfVs sc sf p r l c i)) J G)] =
      (some ((V.bool true), (G, [(Ob2.cax 73 [p, (i64 8)] H (V.bool true) H), (Ob2.cax 73 [r, (i64 8)] H (V.bool true) H), (Ob2.cax 73 [l, (i64 16)] H (V.bool true) H), (Ob2.bin Go.BinOp.sub 3 (i64 16) (i64 n_l) (i64 q)), (Ob2.bin Go.BinOp.gtr 3 (i64 n_p) (i64 q) (V.bool false)), (Ob2.bin Go.BinOp.gtr 3 (i64 n_c) (i64 256) (V.bool false)), (Ob2.loop (m+1) [2, 3] rfBody 60 [2, 3, 4, 5] [(V.box [sc, sf]), (V.box [p, r, l, c]), (V.bool false), (i64 0)] H (E.exit 0) [(2, (V.box [sc, sf])), (3, (V.box [p, r, l, c])), (4, (V.bool false)), (5, (i64 i))] J G)]))) := by rcases h_p with ⟨rfl, rfl⟩ | ⟨b_p, c_p, rfl⟩ <;> rcases h_r with ⟨rfl, rfl⟩ | ⟨b_r, c_r, rfl⟩ <;> rcases h_l with ⟨rfl, rfl⟩ | ⟨b_l, c_l, rfl⟩ <;> rcases h_c with ⟨rfl, rfl⟩ | ⟨b_c, c_c, rfl⟩ <;> kernel_rfl
theorem rf_no {p : V} {n_p : Nat} (h_p : LenIs p n_p) {r : V} {n_r : Nat} (h_r : LenIs r n_r) {l : V} {n_l : Nat} (h_l : LenIs l n_l) {c : V} {n_c : Nat} (h_c : LenIs c n_c) (m : Nat) (sc sf : V) (q : Int) (H G : Heap) (J : List V → List V) :
    tellHeap Tryz.prog Y1 (m + 2) 49 [.agg [sc, sf], .agg [p, r, l, c]] H [t73 8 true H, t73 13 true H, t73 19 true H, tp 49 29 (i64 q), tv 49 30 false, tv 49 36 false, (49, 0, .loop 60 rfKs .ret ([4].zip [.bool false]) J G)] =
      (some ((V.bool false), (G, [(Ob2.cax 73 [p, (i64 8)] H (V.bool true) H), (Ob2.cax 73 [r, (i64 8)] H (V.bool true) H), (Ob2.cax 73 [l, (i64 16)] H (V.bool true) H), (Ob2.bin Go.BinOp.sub 3 (i64 16) (i64 n_l) (i64 q)), (Ob2.bin Go.BinOp.gtr 3 (i64 n_p) (i64 q) (V.bool false)), (Ob2.bin Go.BinOp.gtr 3 (i64 n_c) (i64 256) (V.bool false)), (Ob2.loop (m+1) [2, 3] rfBody 60 [2, 3, 4, 5] [(V.box [sc, sf]), (V.box [p, r, l, c]), (V.bool false), (i64 0)] H E.ret [(4, (V.bool false))] J G)]))) := by rcases h_p with ⟨rfl, rfl⟩ | ⟨b_p, c_p, rfl⟩ <;> rcases h_r with ⟨rfl, rfl⟩ | ⟨b_r, c_r, rfl⟩ <;> rcases h_l with ⟨rfl, rfl⟩ | ⟨b_l, c_l, rfl⟩ <;> rcases h_c with ⟨rfl, rfl⟩ | ⟨b_c, c_c, rfl⟩ <;> kernel_rfl
theorem rf_out {p : V} {n_p : Nat} (h_p : LenIs p n_p) {r : V} {n_r : Nat} (h_r : LenIs r n_r) {l : V} {n_l : Nat} (h_l : LenIs l n_l) {c : V} {n_c : Nat} (h_c : LenIs c n_c) (m : Nat) (sc sf : V) (i : Int) (H : Heap) (t : List V) :
    tellCode Tryz.prog Y1 (m + 2) 49 [2, 3] (m + 2) rfBody ⟨normL 60 (rfKs.zip (rfVs sc sf p r l c i)) t, H⟩ [tv 49 42 false] rfKs =
      (some ((E.exit 0), (60, ([(V.box [sc, sf]), (V.box [p, r, l, c]), (V.bool false), (i64 i)], (H, [(Ob2.bin Go.BinOp.lss 3 (i64 i) (i64 n_c) (V.bool false))]))))) := by rcases h_p with ⟨rfl, rfl⟩ | ⟨b_p, c_p, rfl⟩ <;> rcases h_r with ⟨rfl, rfl⟩ | ⟨b_r, c_r, rfl⟩ <;> rcases h_l with ⟨rfl, rfl⟩ | ⟨b_l, c_l, rfl⟩ <;> rcases h_c with ⟨rfl, rfl⟩ | ⟨b_c, c_c, rfl⟩ <;> kernel_rfl
theorem rf_go {p : V} {n_p : Nat} (h_p : LenIs p n_p) {l : V} {n_l : Nat} (h_l : LenIs l n_l) (m b n pp : Nat) (cp : Option Nat) (sc sf r : V) (i j q op a : Int) (H : Heap) (t : List V) :
    tellCode Tryz.prog Y1 (m + 2) 49 [2, 3] (m + 2) rfBody ⟨normL 60 (rfKs.zip (rfVs sc sf p r l (.slice b 0 n cp) i)) t, H⟩ [tv 49 42 true, tp 49 52 (i64 q), tp 49 56 (.ptr b pp), (49, 57, .ldx (insA op a)), q74 58 true (go13 H), tp 49 44 (i64 j)] rfKs =
      (some (E.normal, (60, ([(V.box [sc, sf]), (V.box [p, r, l, (V.slice b 0 n cp)]), (V.bool false), (i64 j)], ((LOk 15 H), [(Ob2.bin Go.BinOp.lss 3 (i64 i) (i64 n) (V.bool true)), (Ob2.bin Go.BinOp.add 3 (i64 n_p) (i64 n_l) (i64 q)), (Ob2.iadr 30 b 0 n cp (i64 i) (V.ptr b pp)), (Ob2.ldx 23 (up (LOk 12 H)) (Go.Operand.tmp 56) (V.ptr b pp) (V.agg [(i64 op), (i64 a)])), (Ob2.caq 74 [(V.agg [sc, sf]), (i64 q), (V.agg [(i64 op), (i64 a)])] (go13 H) (V.bool true) (go13 H)), (Ob2.bin Go.BinOp.add 3 (i64 i) (i64 1) (i64 j))]))))) := by rcases h_p with ⟨rfl, rfl⟩ | ⟨b_p, c_p, rfl⟩ <;> rcases h_l with ⟨rfl, rfl⟩ | ⟨b_l, c_l, rfl⟩ <;> kernel_rfl
theorem rf_bad {p : V} {n_p : Nat} (h_p : LenIs p n_p) {l : V} {n_l : Nat} (h_l : LenIs l n_l) (m b n pp : Nat) (cp : Option Nat) (sc sf r : V) (i j q op a : Int) (H : Heap) (t : List V) :
    tellCode Tryz.prog Y1 (m + 2) 49 [2, 3] (m + 2) rfBody ⟨normL 60 (rfKs.zip (rfVs sc sf p r l (.slice b 0 n cp) i)) t, H⟩ [tv 49 42 true, tp 49 52 (i64 q), tp 49 56 (.ptr b pp), (49, 57, .ldx (insA op a)), q74 58 false (go13 H)] [4] =
      (some (E.ret, (60, ([(V.bool false)], ((LOk 15 H), [(Ob2.bin Go.BinOp.lss 3 (i64 i) (i64 n) (V.bool true)), (Ob2.bin Go.BinOp.add 3 (i64 n_p) (i64 n_l) (i64 q)), (Ob2.iadr 30 b 0 n cp (i64 i) (V.ptr b pp)), (Ob2.ldx 23 (up (LOk 12 H)) (Go.Operand.tmp 56) (V.ptr b pp) (V.agg [(i64 op), (i64 a)])), (Ob2.caq 74 [(V.agg [sc, sf]), (i64 q), (V.agg [(i64 op), (i64 a)])] (go13 H) (V.bool false) (go13 H))]))))) := by rcases h_p with ⟨rfl, rfl⟩ | ⟨b_p, c_p, rfl⟩ <;> rcases h_l with ⟨rfl, rfl⟩ | ⟨b_l, c_l, rfl⟩ <;> kernel_rfl
/-! ### A function of a script, in memory -/

structure Fn where
  p : List Int
  r : List Int
  l : List Int
  c : List (Int × Int)

def crow : List (Int × Int) → List V
  | [] => []
  | x :: l => i64 x.1 :: i64 x.2 :: crow l
theorem crow_length : ∀ l, (crow l).length = l.length * 2
  | [] => rfl
  | x :: l => by simp only [crow, List.length_cons, crow_length l]; omega
theorem crow_get : ∀ (l : List (Int × Int)) (i : Nat) (x : Int × Int), l[i]? = some x → ((crow l).drop (i * 2)).take 2 = [i64 x.1, i64 x.2]
  | y :: l, 0, x, h => by simp at h; subst h; rfl
  | y :: l, i + 1, x, h => by
    have := crow_get l i x (by simpa using h)
    rw [show (i + 1) * 2 = i * 2 + 1 + 1 by omega]
    simpa [crow] using this
  | [], i, x, h => by simp at h

def IntsAt (H : Heap) (v : V) (l : List Int) : Prop := (v = .nilslice ∧ l = []) ∨ ∃ b cp ro, v = .slice b 0 l.length cp ∧ H.get b = some (.cells ro 3 (l.map i64))
def CodeAt (H : Heap) (v : V) (l : List (Int × Int)) : Prop := (v = .nilslice ∧ l = []) ∨ ∃ b cp ro, v = .slice b 0 l.length cp ∧ H.get b = some (.cells ro 23 (crow l))
theorem IntsAt.len {H : Heap} {v : V} {l : List Int} (h : IntsAt H v l) : LenIs v l.length := by
  rcases h with ⟨rfl, rfl⟩ | ⟨b, cp, _, rfl, _⟩
  · exact .inl ⟨rfl, rfl⟩
  · exact .inr ⟨b, cp, rfl⟩
theorem CodeAt.len {H : Heap} {v : V} {l : List (Int × Int)} (h : CodeAt H v l) : LenIs v l.length := by
  rcases h with ⟨rfl, rfl⟩ | ⟨b, cp, _, rfl, _⟩
  · exact .inl ⟨rfl, rfl⟩
  · exact .inr ⟨b, cp, rfl⟩
theorem IntsAt.mono {H H' : Heap} (hs : ∀ b x, H.get b = some x → H'.get b = some x) {v : V} {l : List Int} (h : IntsAt H v l) : IntsAt H' v l := by
  rcases h with h | ⟨b, cp, ro, h1, h2⟩
  · exact .inl h
  · exact .inr ⟨b, cp, ro, h1, hs _ _ h2⟩
theorem CodeAt.mono {H H' : Heap} (hs : ∀ b x, H.get b = some x → H'.get b = some x) {v : V} {l : List (Int × Int)} (h : CodeAt H v l) : CodeAt H' v l := by
  rcases h with h | ⟨b, cp, ro, h1, h2⟩
  · exact .inl h
  · exact .inr ⟨b, cp, ro, h1, hs _ _ h2⟩

structure FnAt (H : Heap) (v : List V) (f : Fn) : Prop where
  ex : ∃ vp vr vl vc, v = [vp, vr, vl, vc] ∧ IntsAt H vp f.p ∧ IntsAt H vr f.r ∧ IntsAt H vl f.l ∧ CodeAt H vc f.c
theorem FnAt.mono {H H' : Heap} (hs : ∀ b x, H.get b = some x → H'.get b = some x) {v : List V} {f : Fn} (h : FnAt H v f) : FnAt H' v f := by
  obtain ⟨vp, vr, vl, vc, h1, h2, h3, h4, h5⟩ := h.ex
  exact ⟨vp, vr, vl, vc, h1, h2.mono hs, h3.mono hs, h4.mono hs, h5.mono hs⟩

structure Fn.small (f : Fn) : Prop where
  p : f.p.length ≤ 1048576
  r : f.r.length ≤ 1048576
  l : f.l.length ≤ 1048576
  c : f.c.length ≤ 1048576

theorem types_at {H : Heap} {v : V} {l : List Int} (h : IntsAt H v l) (hl : l.length ≤ 1048576) (most : Int) : callN Tryz.prog XE NF 73 [v, i64 most] H = some (.bool (typesR l most), H) := by
  rcases h with ⟨rfl, rfl⟩ | ⟨b, cp, ro, rfl, hg⟩
  · exact types_run 2097151 none none 0 most H (fun L h => by cases h) hl (by simp [ints])
  · have e : svQ (vrow (some l)) cp b = .slice b 0 l.length cp := by simp [svQ, vrow]
    rw [← e]
    exact types_run 2097151 (some l) cp b most H (fun L h => by cases h; exact ⟨ro, hg⟩) hl (by show l.length < _; omega)

theorem okIaC {X : Ext} (b n i : Nat) (c : Option Nat) (h : i < n) : (Ob2.iadr 30 b 0 n c (i64 (i : Nat)) (.ptr b (i * 2))).ok Tryz.prog X := by
  intro ts x
  have hu : Tryz.prog.underlying 30 = some (.slice 23) := Tryz.underlying30
  have hs : szOf Tryz.prog 23 = some 2 := by kernel_rfl
  unfold indexAddrV
  simp only [hu, hs]
  rw [if_pos (by omega)]
  simp
theorem agg23 : isAggT Tryz.prog 23 = some true := by kernel_rfl
theorem okLdC {X : Ext} {H : Heap} {x : Operand} {b i : Nat} {ro : Bool} {l : List (Int × Int)} {y : Int × Int} (hg : H.get b = some (.cells ro 23 (crow l))) (hi : l[i]? = some y) : (Ob2.ldx 23 H x (.ptr b (i * 2)) (insA y.1 y.2)).ok Tryz.prog X := by
  intro t
  have hs : szOf Tryz.prog 23 = some 2 := by kernel_rfl
  have := lt_of_get hi
  unfold loadV rowAt
  simp only [Heap.row, hg, Option.map_some, agg23, hs, loadRow]
  rw [if_pos (by rw [crow_length]; omega), crow_get l i y hi]
  rfl

def rightF (nc nf : Nat) (f : Fn) : Bool :=
  typesR f.p 8 && (typesR f.r 8 && (typesR f.l 16 && (decide ((f.p.length : Int) ≤ 16 - f.l.length) && (decide (f.c.length ≤ 256) && f.c.all fun x => instrR nc nf ((f.p.length : Int) + f.l.length) x.1 x.2))))

theorem okCaq {X : Ext} {f : FuncId} {args : List V} {h : Heap} {v : V} {h' : Heap} (hr : (Ob2.cax f args h v h').ok Tryz.prog X) (hl : h.next ≤ h'.lo) : (Ob2.caq f args h v h').ok Tryz.prog X := ⟨hr, hl⟩

set_option maxHeartbeats 2000000 in
theorem rightF_run {sc sf : V} {nc nf : Nat} (hc : LenIs sc nc) (hf : LenIs sf nf) {H : Heap} {v : List V} {f : Fn} (hv : FnAt H v f) (hs : f.small) :
    ∃ H', callN Tryz.prog Y1 NF 49 [.agg [sc, sf], .agg v] H = some (.bool (rightF nc nf f), H') ∧ SameH H H' := by
  obtain ⟨vp, vr, vl, vc, rfl, ap, ar, al, ac⟩ := hv.ex
  have lp := ap.len
  have lr := ar.len
  have ll := al.len
  have lc := ac.len
  have bp := hs.p
  have br := hs.r
  have bl := hs.l
  have bc := hs.c
  have q1 := okRun (P := Tryz.prog) (X := XE) (n := NF) (fs := [73, 74, 66]) (f := 73) rfl (types_at ap hs.p 8)
  have q2 := okRun (P := Tryz.prog) (X := XE) (n := NF) (fs := [73, 74, 66]) (f := 73) rfl (types_at ar hs.r 8)
  have q3 := okRun (P := Tryz.prog) (X := XE) (n := NF) (fs := [73, 74, 66]) (f := 73) rfl (types_at al hs.l 16)
  unfold rightF
  cases h1 : typesR f.p 8 with
  | false => rw [h1] at q1; exact ⟨H, run_heap (rf_1 lp lr ll lc 2097150 sc sf H) (obs2_cons (q1) obs2_nil), SameH.refl H⟩
  | true =>
  rw [h1] at q1
  cases h2 : typesR f.r 8 with
  | false => rw [h2] at q2; exact ⟨H, run_heap (rf_2 lp lr ll lc 2097150 sc sf H) (obs2_cons (q1) (obs2_cons (q2) obs2_nil)), SameH.refl H⟩
  | true =>
  rw [h2] at q2
  cases h3 : typesR f.l 16 with
  | false => rw [h3] at q3; exact ⟨H, run_heap (rf_3 lp lr ll lc 2097150 sc sf H) (obs2_cons (q1) (obs2_cons (q2) (obs2_cons (q3) obs2_nil))), SameH.refl H⟩
  | true =>
  rw [h3] at q3
  have sb : (Ob2.bin .sub 3 (i64 16) (i64 f.l.length) (i64 (16 - (f.l.length : Int)))).ok Tryz.prog Y1 := okSubI rfl (by simp only [In64]; omega)
  by_cases h4 : (f.p.length : Int) ≤ 16 - f.l.length
  case neg =>
    rw [decide_eq_false h4]
    exact ⟨H, run_heap (rf_4 lp lr ll lc 2097150 sc sf _ H) (obs2_cons (q1) (obs2_cons (q2) (obs2_cons (q3) (obs2_cons (sb) (obs2_cons (okIgt (by simp; omega)) obs2_nil))))), SameH.refl H⟩
  rw [decide_eq_true h4]
  have p4 : (obI .gtr f.p.length (16 - (f.l.length : Int)) false).ok Tryz.prog Y1 := okIgt (by simp; omega)
  by_cases h5 : f.c.length ≤ 256
  case neg =>
    rw [decide_eq_false h5]
    exact ⟨H, run_heap (rf_5 lp lr ll lc 2097150 sc sf _ H) (obs2_cons (q1) (obs2_cons (q2) (obs2_cons (q3) (obs2_cons (sb) (obs2_cons (p4) (obs2_cons (okIgt (by simp; omega)) obs2_nil)))))), SameH.refl H⟩
  rw [decide_eq_true h5]
  have p5 : (obI .gtr f.c.length 256 false).ok Tryz.prog Y1 := okIgt (by simp; omega)
  simp only [Bool.true_and]
  have slots : In64 ((f.p.length : Int) + f.l.length) := by simp only [In64]; omega
  -- a round
  have go : ∀ (i : Nat) x (h : Heap) (b : Bool), f.c[i]? = some x → instrR nc nf ((f.p.length : Int) + f.l.length) x.1 x.2 = b → SameH H h →
      SameH H (LOk 15 h) ∧ (b = true → Goes (exec Tryz.prog (callN Tryz.prog Y1 2097151) [2, 3] 2097151 rfBody) 60 rfKs (rfVs sc sf vp vr vl vc i) h .normal rfKs (rfVs sc sf vp vr vl vc (i + 1 : Nat)) (LOk 15 h)) ∧
      (b = false → Goes (exec Tryz.prog (callN Tryz.prog Y1 2097151) [2, 3] 2097151 rfBody) 60 rfKs (rfVs sc sf vp vr vl vc i) h .ret [4] [.bool false] (LOk 15 h)) := by
    intro i x h b hx hb hsame
    have hi := lt_of_get hx
    have s2 := hsame.trans (SameH.lok 15 h)
    rcases ac with ⟨_, h0⟩ | ⟨bb, cp, ro, rfl, hg⟩
    · rw [h0] at hx; simp at hx
    have o1 : (obI .lss (i : Nat) f.c.length true).ok Tryz.prog Y1 := okIlt (by simp; omega)
    have o2 : (Ob2.bin .add 3 (i64 f.p.length) (i64 f.l.length) (i64 ((f.p.length : Int) + f.l.length))).ok Tryz.prog Y1 := okAddI rfl slots
    have o3 := okIaC (X := Y1) bb f.c.length i cp hi
    have o4 : (Ob2.ldx 23 (up (LOk 12 h)) (.tmp 56) (.ptr bb (i * 2)) (insA x.1 x.2)).ok Tryz.prog Y1 := okLdC ((get_up 12 h bb).trans ((hsame.get bb).trans hg)) hx
    have o5 : (Ob2.caq 74 [.agg [sc, sf], i64 ((f.p.length : Int) + f.l.length), insA x.1 x.2] (go13 h) (.bool b) (go13 h)).ok Tryz.prog Y1 :=
      okCaq (okRun (P := Tryz.prog) (X := XE) (n := NF) (fs := [73, 74, 66]) (f := 74) rfl (by rw [← hb]; exact instr_run 2097150 sc sf nc nf hc hf _ x.1 x.2 _)) (Nat.le_refl _)
    refine ⟨s2, fun hb => ?_, fun hb => ?_⟩
    · subst hb
      exact goes_tell (fun t => rf_go lp ll 2097149 bb f.c.length (i * 2) cp sc sf vr i ((i + 1 : Nat) : Int) _ x.1 x.2 h t) (obs2_cons (o1) (obs2_cons (o2) (obs2_cons (o3) (obs2_cons (o4) (obs2_cons (o5) (obs2_cons (okInc i (by omega)) obs2_nil))))))
    · subst hb
      exact goes_tell (fun t => rf_bad lp ll 2097149 bb f.c.length (i * 2) cp sc sf vr i 0 _ x.1 x.2 h t) (obs2_cons (o1) (obs2_cons (o2) (obs2_cons (o3) (obs2_cons (o4) (obs2_cons (o5) obs2_nil)))))
  rcases first_bad (ok := fun i => ∀ x, f.c[i]? = some x → instrR nc nf ((f.p.length : Int) + f.l.length) x.1 x.2 = true) f.c.length with hall | ⟨i, hi, hbef, hbad⟩
  · have ha : (f.c.all fun x => instrR nc nf ((f.p.length : Int) + f.l.length) x.1 x.2) = true := by
      rw [List.all_eq_true]
      intro x hx
      obtain ⟨i, hi⟩ := List.getElem?_of_mem hx
      exact hall i (lt_of_get hi) x hi
    rw [ha]
    obtain ⟨ks', vs', h', ⟨rfl, rfl, q⟩, g⟩ := loop_leave (ex := exec Tryz.prog (callN Tryz.prog Y1 2097151) [2, 3] 2097151 rfBody) (N := 60) (ks := rfKs) (n := f.c.length) (fun i vs h => vs = rfVs sc sf vp vr vl vc i ∧ SameH H h) (fun i vs h hi ⟨e, hsame⟩ => by
        subst e
        obtain ⟨x, hx⟩ := get_of_lt hi
        obtain ⟨g1, g2, _⟩ := go i x h true hx (hall i hi x hx) hsame
        exact ⟨_, _, ⟨rfl, g1⟩, g2 rfl⟩) (vs0 := rfVs sc sf vp vr vl vc 0) (h0 := H) ⟨rfl, SameH.refl H⟩ (e := .exit 0) (by decide) (Q := fun ks' vs' h' => ks' = rfKs ∧ vs' = rfVs sc sf vp vr vl vc f.c.length ∧ SameH H h') (fun vs h ⟨e, hsame⟩ => by
        subst e
        exact ⟨_, _, _, ⟨rfl, rfl, hsame⟩, goes_tell (fun t => rf_out lp lr ll lc 2097149 sc sf f.c.length h t) (obs2_cons (okIlt (by simp)) obs2_nil)⟩) (fuel := 2097151) (by omega)
    exact ⟨h', run_heap (rf_yes lp lr ll lc 2097150 sc sf _ f.c.length H h' _) (obs2_cons (q1) (obs2_cons (q2) (obs2_cons (q3) (obs2_cons (sb) (obs2_cons (p4) (obs2_cons (p5) (obs2_cons (ok_goes g rfl) obs2_nil))))))), q⟩
  · obtain ⟨x, hx⟩ := get_of_lt hi
    have hb : instrR nc nf ((f.p.length : Int) + f.l.length) x.1 x.2 = false := by
      cases h : instrR nc nf ((f.p.length : Int) + f.l.length) x.1 x.2 with
      | false => rfl
      | true => exact absurd (fun x' hx' => by rw [hx] at hx'; cases hx'; exact h) hbad
    have ha : (f.c.all fun x => instrR nc nf ((f.p.length : Int) + f.l.length) x.1 x.2) = false := by
      rw [List.all_eq_false]
      exact ⟨x, List.mem_of_getElem? hx, by rw [hb]; decide⟩
    rw [ha]
    obtain ⟨ks', vs', h', ⟨rfl, rfl, q⟩, g⟩ := loop_leave (ex := exec Tryz.prog (callN Tryz.prog Y1 2097151) [2, 3] 2097151 rfBody) (N := 60) (ks := rfKs) (n := i) (fun i vs h => vs = rfVs sc sf vp vr vl vc i ∧ SameH H h) (fun j vs h hj ⟨e, hsame⟩ => by
        subst e
        obtain ⟨x', hx'⟩ := get_of_lt (show j < f.c.length by omega)
        obtain ⟨g1, g2, _⟩ := go j x' h true hx' (hbef j hj x' hx') hsame
        exact ⟨_, _, ⟨rfl, g1⟩, g2 rfl⟩) (vs0 := rfVs sc sf vp vr vl vc 0) (h0 := H) ⟨rfl, SameH.refl H⟩ (e := .ret) (by decide) (Q := fun ks' vs' h' => ks' = [4] ∧ vs' = [.bool false] ∧ SameH H h') (fun vs h ⟨e, hsame⟩ => by
        subst e
        obtain ⟨g1, _, g2⟩ := go i x h false hx hb hsame
        exact ⟨_, _, _, ⟨rfl, rfl, g1⟩, g2 rfl⟩) (fuel := 2097151) (by omega)
    exact ⟨h', run_heap (rf_no lp lr ll lc 2097150 sc sf _ H h' _) (obs2_cons (q1) (obs2_cons (q2) (obs2_cons (q3) (obs2_cons (sb) (obs2_cons (p4) (obs2_cons (p5) (obs2_cons (ok_goes g rfl) obs2_nil))))))), q⟩

end Go.AM

/-
  The document's answer of a script: may it be?
-/
set_option linter.unusedSectionVars false
set_option linter.unusedVariables false
set_option linter.unusedSimpArgs false
namespace Go.AM
open Go.Proofs Go.RowKit

/-- A loop that goes through a list and leaves at the first that is not right. -/
theorem scan_list {ex : St → Option (E × St)} {N : Nat} {ks : List Nat} {α : Type} {L : List α} {f : α → Bool} {vs : Nat → List V} {I : Heap → Prop} {H : Heap} (hI : I H) {e : E} {kr : List Nat} {vr : Nat → List V}
    (go : ∀ i x h, L[i]? = some x → f x = true → I h → ∃ h', I h' ∧ Goes ex N ks (vs i) h .normal ks (vs (i + 1)) h') (bad : ∀ i x h, L[i]? = some x → f x = false → I h → ∃ h', I h' ∧ Goes ex N ks (vs i) h .ret kr (vr i) h')
    (out : ∀ h, I h → ∃ h', I h' ∧ Goes ex N ks (vs L.length) h e ks (vs L.length) h') (he : e ≠ .normal) {fuel : Nat} (hf : L.length < fuel) :
    (L.all f = true → ∃ h', I h' ∧ Goes (rounds ex fuel) N ks (vs 0) H e ks (vs L.length) h') ∧ (L.all f = false → ∃ i, i < L.length ∧ ∃ h', I h' ∧ Goes (rounds ex fuel) N ks (vs 0) H .ret kr (vr i) h') := by
  rcases first_bad (ok := fun i => ∀ x, L[i]? = some x → f x = true) L.length with hall | ⟨i, hi, hbef, hbad⟩
  · have ha : L.all f = true := by
      rw [List.all_eq_true]
      intro x hx
      obtain ⟨i, hi⟩ := List.getElem?_of_mem hx
      exact hall i (lt_of_get hi) x hi
    refine ⟨fun _ => ?_, fun h => by rw [ha] at h; cases h⟩
    obtain ⟨ks', vs', h', ⟨rfl, rfl, q⟩, g⟩ := loop_leave (ex := ex) (N := N) (ks := ks) (n := L.length) (fun i v h => v = vs i ∧ I h) (fun i v h hi ⟨e, hh⟩ => by
        subst e
        obtain ⟨x, hx⟩ := get_of_lt hi
        obtain ⟨h', g1, g2⟩ := go i x h hx (hall i hi x hx) hh
        exact ⟨_, _, ⟨rfl, g1⟩, g2⟩) (vs0 := vs 0) (h0 := H) ⟨rfl, hI⟩ he (Q := fun ks' vs' h' => ks' = ks ∧ vs' = vs L.length ∧ I h') (fun v h ⟨e, hh⟩ => by
        subst e
        obtain ⟨h', g1, g2⟩ := out h hh
        exact ⟨_, _, _, ⟨rfl, rfl, g1⟩, g2⟩) hf
    exact ⟨h', q, g⟩
  · obtain ⟨x, hx⟩ := get_of_lt hi
    have hb : f x = false := by
      cases h : f x with
      | false => rfl
      | true => exact absurd (fun x' hx' => by rw [hx] at hx'; cases hx'; exact h) hbad
    have ha : L.all f = false := by
      rw [List.all_eq_false]
      exact ⟨x, List.mem_of_getElem? hx, by rw [hb]; decide⟩
    refine ⟨fun h => absurd (ha.symm.trans h) (by decide), fun _ => ?_⟩
    obtain ⟨ks', vs', h', ⟨rfl, rfl, q⟩, g⟩ := loop_leave (ex := ex) (N := N) (ks := ks) (n := i) (fun i v h => v = vs i ∧ I h) (fun j v h hj ⟨e, hh⟩ => by
        subst e
        obtain ⟨x', hx'⟩ := get_of_lt (show j < L.length by omega)
        obtain ⟨h', g1, g2⟩ := go j x' h hx' (hbef j hj x' hx') hh
        exact ⟨_, _, ⟨rfl, g1⟩, g2⟩) (vs0 := vs 0) (h0 := H) ⟨rfl, hI⟩ (e := .ret) (by decide) (Q := fun ks' vs' h' => ks' = kr ∧ vs' = vr i ∧ I h') (fun v h ⟨e, hh⟩ => by
        subst e
        obtain ⟨h', g1, g2⟩ := bad i x h hx hb hh
        exact ⟨_, _, _, ⟨rfl, rfl, g1⟩, g2⟩) (fuel := fuel) (by omega)
    exact ⟨i, hi, h', q, g⟩

noncomputable def Y2 : Ext := runExt Tryz.prog Y1 NF [49]
theorem Y2_ok : ExtOk Tryz.prog Y2 := runExt_ok mixed Y1_ok Y1_mono NF _
theorem Y2_mono : ExtMono Y2 := runExt_mono Y1_mono NF _

noncomputable abbrev rsB1 : Code := Code.go (bodyOf Tryz.prog 23) [1, 1, 0, 1, 0, 0]
noncomputable abbrev rsB2 : Code := Code.go (bodyOf Tryz.prog 23) [1, 1, 1, 0, 1, 0, 0]
abbrev rsK1 : List Nat := [1, 2, 3]
abbrev rsK2 : List Nat := [1, 2, 4]
abbrev rsVs (sc sf : V) (i : Int) : List V := [.box [sc, sf], .bool false, i64 i]
abbrev mrg (A G : Heap) : Heap := { G with lo := min A.lo G.lo }

theorem rs_c {sc : V} {n_sc : Nat} (h_sc : LenIs sc n_sc) {sf : V} {n_sf : Nat} (h_sf : LenIs sf n_sf) (m : Nat) (H : Heap) :
    tellHeap Tryz.prog Y2 (m + 2) 23 [.agg [sc, sf]] H [tv 23 8 true] =
      (some ((V.bool false), (H, [(Ob2.bin Go.BinOp.gtr 3 (i64 n_sc) (i64 32) (V.bool true))]))) := by rcases h_sc with ⟨rfl, rfl⟩ | ⟨b_sc, c_sc, rfl⟩ <;> rcases h_sf with ⟨rfl, rfl⟩ | ⟨b_sf, c_sf, rfl⟩ <;> kernel_rfl
theorem rs_f {sc : V} {n_sc : Nat} (h_sc : LenIs sc n_sc) {sf : V} {n_sf : Nat} (h_sf : LenIs sf n_sf) (m : Nat) (H : Heap) :
    tellHeap Tryz.prog Y2 (m + 2) 23 [.agg [sc, sf]] H [tv 23 8 false, tv 23 13 true] =
      (some ((V.bool false), (H, [(Ob2.bin Go.BinOp.gtr 3 (i64 n_sc) (i64 32) (V.bool false)), (Ob2.bin Go.BinOp.lss 3 (i64 n_sf) (i64 1) (V.bool true))]))) := by rcases h_sc with ⟨rfl, rfl⟩ | ⟨b_sc, c_sc, rfl⟩ <;> rcases h_sf with ⟨rfl, rfl⟩ | ⟨b_sf, c_sf, rfl⟩ <;> kernel_rfl
theorem rs_g {sc : V} {n_sc : Nat} (h_sc : LenIs sc n_sc) {sf : V} {n_sf : Nat} (h_sf : LenIs sf n_sf) (m : Nat) (H : Heap) :
    tellHeap Tryz.prog Y2 (m + 2) 23 [.agg [sc, sf]] H [tv 23 8 false, tv 23 13 false, tv 23 19 true] =
      (some ((V.bool false), (H, [(Ob2.bin Go.BinOp.gtr 3 (i64 n_sc) (i64 32) (V.bool false)), (Ob2.bin Go.BinOp.lss 3 (i64 n_sf) (i64 1) (V.bool false)), (Ob2.bin Go.BinOp.gtr 3 (i64 n_sf) (i64 16) (V.bool true))]))) := by rcases h_sc with ⟨rfl, rfl⟩ | ⟨b_sc, c_sc, rfl⟩ <;> rcases h_sf with ⟨rfl, rfl⟩ | ⟨b_sf, c_sf, rfl⟩ <;> kernel_rfl
theorem rs_no1 {sc : V} {n_sc : Nat} (h_sc : LenIs sc n_sc) {sf : V} {n_sf : Nat} (h_sf : LenIs sf n_sf) (m : Nat) (H G : Heap) (J : List V → List V) :
    tellHeap Tryz.prog Y2 (m + 2) 23 [.agg [sc, sf]] H [tv 23 8 false, tv 23 13 false, tv 23 19 false, (23, 0, .loop 50 rsK1 .ret ([2].zip [.bool false]) J G)] =
      (some ((V.bool false), (G, [(Ob2.bin Go.BinOp.gtr 3 (i64 n_sc) (i64 32) (V.bool false)), (Ob2.bin Go.BinOp.lss 3 (i64 n_sf) (i64 1) (V.bool false)), (Ob2.bin Go.BinOp.gtr 3 (i64 n_sf) (i64 16) (V.bool false)), (Ob2.loop (m+1) [1] rsB1 50 [1, 2, 3] [(V.box [sc, sf]), (V.bool false), (i64 0)] H E.ret [(2, (V.bool false))] J G)]))) := by rcases h_sc with ⟨rfl, rfl⟩ | ⟨b_sc, c_sc, rfl⟩ <;> rcases h_sf with ⟨rfl, rfl⟩ | ⟨b_sf, c_sf, rfl⟩ <;> kernel_rfl
theorem rs_no2 {sc : V} {n_sc : Nat} (h_sc : LenIs sc n_sc) {sf : V} {n_sf : Nat} (h_sf : LenIs sf n_sf) (m : Nat) (i : Int) (H G G2 : Heap) (J J2 : List V → List V) :
    tellHeap Tryz.prog Y2 (m + 2) 23 [.agg [sc, sf]] H [tv 23 8 false, tv 23 13 false, tv 23 19 false, (23, 0, .loop 50 rsK1 (.exit 0) (rsK1.zip (rsVs sc sf i)) J G), (23, 0, .loop 50 rsK2 .ret ([2].zip [.bool false]) J2 G2)] =
      (some ((V.bool false), (G2, [(Ob2.bin Go.BinOp.gtr 3 (i64 n_sc) (i64 32) (V.bool false)), (Ob2.bin Go.BinOp.lss 3 (i64 n_sf) (i64 1) (V.bool false)), (Ob2.bin Go.BinOp.gtr 3 (i64 n_sf) (i64 16) (V.bool false)), (Ob2.loop (m+1) [1] rsB1 50 [1, 2, 3] [(V.box [sc, sf]), (V.bool false), (i64 0)] H (E.exit 0) [(1, (V.box [sc, sf])), (2, (V.bool false)), (3, (i64 i))] J G), (Ob2.loop (m+1) [1] rsB2 50 [1, 2, 4] [(V.box [sc, sf]), (V.bool false), (i64 0)] G E.ret [(2, (V.bool false))] J2 G2)]))) := by rcases h_sc with ⟨rfl, rfl⟩ | ⟨b_sc, c_sc, rfl⟩ <;> rcases h_sf with ⟨rfl, rfl⟩ | ⟨b_sf, c_sf, rfl⟩ <;> kernel_rfl
theorem rs_yes {sc : V} {n_sc : Nat} (h_sc : LenIs sc n_sc) {sf : V} {n_sf : Nat} (h_sf : LenIs sf n_sf) (m : Nat) (i j : Int) (H G G2 : Heap) (J J2 : List V → List V) :
    tellHeap Tryz.prog Y2 (m + 2) 23 [.agg [sc, sf]] H [tv 23 8 false, tv 23 13 false, tv 23 19 false, (23, 0, .loop 50 rsK1 (.exit 0) (rsK1.zip (rsVs sc sf i)) J G), (23, 0, .loop 50 rsK2 (.exit 2) (rsK2.zip (rsVs sc sf j)) J2 G2)] =
      (some ((V.bool true), (G2, [(Ob2.bin Go.BinOp.gtr 3 (i64 n_sc) (i64 32) (V.bool false)), (Ob2.bin Go.BinOp.lss 3 (i64 n_sf) (i64 1) (V.bool false)), (Ob2.bin Go.BinOp.gtr 3 (i64 n_sf) (i64 16) (V.bool false)), (Ob2.loop (m+1) [1] rsB1 50 [1, 2, 3] [(V.box [sc, sf]), (V.bool false), (i64 0)] H (E.exit 0) [(1, (V.box [sc, sf])), (2, (V.bool false)), (3, (i64 i))] J G), (Ob2.loop (m+1) [1] rsB2 50 [1, 2, 4] [(V.box [sc, sf]), (V.bool false), (i64 0)] G (E.exit 2) [(1, (V.box [sc, sf])), (2, (V.bool false)), (4, (i64 j))] J2 G2)]))) := by rcases h_sc with ⟨rfl, rfl⟩ | ⟨b_sc, c_sc, rfl⟩ <;> rcases h_sf with ⟨rfl, rfl⟩ | ⟨b_sf, c_sf, rfl⟩ <;> kernel_rfl
theorem rs_out1 {sc : V} {n_sc : Nat} (h_sc : LenIs sc n_sc) (m : Nat) (sf : V) (i : Int) (H : Heap) (t : List V) :
    tellCode Tryz.prog Y2 (m + 2) 23 [1] (m + 2) rsB1 ⟨normL 50 (rsK1.zip (rsVs sc sf i)) t, H⟩ [tv 23 25 false] rsK1 =
      (some ((E.exit 0), (50, ([(V.box [sc, sf]), (V.bool false), (i64 i)], (H, [(Ob2.bin Go.BinOp.lss 3 (i64 i) (i64 n_sc) (V.bool false))]))))) := by rcases h_sc with ⟨rfl, rfl⟩ | ⟨b_sc, c_sc, rfl⟩ <;> kernel_rfl
theorem rs_go1 (m b n pp : Nat) (cp : Option Nat) (sf : V) (i j : Int) (x : List UInt8) (H : Heap) (t : List V) :
    tellCode Tryz.prog Y2 (m + 2) 23 [1] (m + 2) rsB1 ⟨normL 50 (rsK1.zip (rsVs (.slice b 0 n cp) sf i)) t, H⟩ [tv 23 25 true, tp 23 31 (.ptr b pp), (23, 32, .ldx (.str x)), tv 23 34 false, tp 23 27 (i64 j)] rsK1 =
      (some (E.normal, (50, ([(V.box [(V.slice b 0 n cp), sf]), (V.bool false), (i64 j)], (H, [(Ob2.bin Go.BinOp.lss 3 (i64 i) (i64 n) (V.bool true)), (Ob2.iadr 37 b 0 n cp (i64 i) (V.ptr b pp)), (Ob2.ldx 9 H (Go.Operand.tmp 31) (V.ptr b pp) (V.str x)), (Ob2.bin Go.BinOp.gtr 3 (i64 (x.length)) (i64 256) (V.bool false)), (Ob2.bin Go.BinOp.add 3 (i64 i) (i64 1) (i64 j))]))))) := by kernel_rfl
theorem rs_bad1 (m b n pp : Nat) (cp : Option Nat) (sf : V) (i : Int) (x : List UInt8) (H : Heap) (t : List V) :
    tellCode Tryz.prog Y2 (m + 2) 23 [1] (m + 2) rsB1 ⟨normL 50 (rsK1.zip (rsVs (.slice b 0 n cp) sf i)) t, H⟩ [tv 23 25 true, tp 23 31 (.ptr b pp), (23, 32, .ldx (.str x)), tv 23 34 true] [2] =
      (some (E.ret, (50, ([(V.bool false)], (H, [(Ob2.bin Go.BinOp.lss 3 (i64 i) (i64 n) (V.bool true)), (Ob2.iadr 37 b 0 n cp (i64 i) (V.ptr b pp)), (Ob2.ldx 9 H (Go.Operand.tmp 31) (V.ptr b pp) (V.str x)), (Ob2.bin Go.BinOp.gtr 3 (i64 (x.length)) (i64 256) (V.bool true))]))))) := by kernel_rfl
theorem rs_out2 {sf : V} {n_sf : Nat} (h_sf : LenIs sf n_sf) (m : Nat) (sc : V) (i : Int) (H : Heap) (t : List V) :
    tellCode Tryz.prog Y2 (m + 2) 23 [1] (m + 2) rsB2 ⟨normL 50 (rsK2.zip (rsVs sc sf i)) t, H⟩ [tv 23 39 false] rsK2 =
      (some ((E.exit 2), (50, ([(V.box [sc, sf]), (V.bool false), (i64 i)], (H, [(Ob2.bin Go.BinOp.lss 3 (i64 i) (i64 n_sf) (V.bool false))]))))) := by rcases h_sf with ⟨rfl, rfl⟩ | ⟨b_sf, c_sf, rfl⟩ <;> kernel_rfl
theorem rs_go2 (m b n pp : Nat) (cp : Option Nat) (sc : V) (vs : List V) (i j : Int) (H G : Heap) (t : List V) :
    tellCode Tryz.prog Y2 (m + 2) 23 [1] (m + 2) rsB2 ⟨normL 50 (rsK2.zip (rsVs sc (.slice b 0 n cp) i)) t, H⟩ [tv 23 39 true, tp 23 46 (.ptr b pp), (23, 47, .ldx (.agg vs)), (23, 48, .caq (.bool true) G), tp 23 41 (i64 j)] rsK2 =
      (some (E.normal, (50, ([(V.box [sc, (V.slice b 0 n cp)]), (V.bool false), (i64 j)], ((LOk 1 (mrg (LOk 6 H) G)), [(Ob2.bin Go.BinOp.lss 3 (i64 i) (i64 n) (V.bool true)), (Ob2.iadr 36 b 0 n cp (i64 i) (V.ptr b pp)), (Ob2.ldx 32 (up (LOk 5 H)) (Go.Operand.tmp 46) (V.ptr b pp) (V.agg vs)), (Ob2.caq 49 [(V.agg [sc, (V.slice b 0 n cp)]), (V.agg vs)] (up (LOk 6 H)) (V.bool true) G), (Ob2.bin Go.BinOp.add 3 (i64 i) (i64 1) (i64 j))]))))) := by kernel_rfl
theorem rs_bad2 (m b n pp : Nat) (cp : Option Nat) (sc : V) (vs : List V) (i : Int) (H G : Heap) (t : List V) :
    tellCode Tryz.prog Y2 (m + 2) 23 [1] (m + 2) rsB2 ⟨normL 50 (rsK2.zip (rsVs sc (.slice b 0 n cp) i)) t, H⟩ [tv 23 39 true, tp 23 46 (.ptr b pp), (23, 47, .ldx (.agg vs)), (23, 48, .caq (.bool false) G)] [2] =
      (some (E.ret, (50, ([(V.bool false)], ((LOk 1 (mrg (LOk 6 H) G)), [(Ob2.bin Go.BinOp.lss 3 (i64 i) (i64 n) (V.bool true)), (Ob2.iadr 36 b 0 n cp (i64 i) (V.ptr b pp)), (Ob2.ldx 32 (up (LOk 5 H)) (Go.Operand.tmp 46) (V.ptr b pp) (V.agg vs)), (Ob2.caq 49 [(V.agg [sc, (V.slice b 0 n cp)]), (V.agg vs)] (up (LOk 6 H)) (V.bool false) G)]))))) := by kernel_rfl
/-! ### A script, in memory -/

structure Sc where
  cs : List (List UInt8)
  fs : List Fn

def StrsAt (H : Heap) (v : V) (l : List (List UInt8)) : Prop := (v = .nilslice ∧ l = []) ∨ ∃ b cp ro, v = .slice b 0 l.length cp ∧ H.get b = some (.cells ro 9 (l.map V.str))
def FnsAt (H : Heap) (v : V) (l : List Fn) : Prop := (v = .nilslice ∧ l = []) ∨ ∃ b cp ro row, v = .slice b 0 l.length cp ∧ H.get b = some (.cells ro 32 row) ∧ row.length = l.length * 4 ∧ ∀ i f, l[i]? = some f → FnAt H ((row.drop (i * 4)).take 4) f
structure ScAt (H : Heap) (v : List V) (s : Sc) : Prop where
  ex : ∃ sc sf, v = [sc, sf] ∧ StrsAt H sc s.cs ∧ FnsAt H sf s.fs
structure Sc.small (s : Sc) : Prop where
  cs : s.cs.length ≤ 1048576
  fs : s.fs.length ≤ 1048576
  fn : ∀ f ∈ s.fs, f.small
  str : ∀ c ∈ s.cs, c.length ≤ 1048576

theorem StrsAt.len {H : Heap} {v : V} {l : List (List UInt8)} (h : StrsAt H v l) : LenIs v l.length := by
  rcases h with ⟨rfl, rfl⟩ | ⟨b, cp, _, rfl, _⟩
  · exact .inl ⟨rfl, rfl⟩
  · exact .inr ⟨b, cp, rfl⟩
theorem FnsAt.len {H : Heap} {v : V} {l : List Fn} (h : FnsAt H v l) : LenIs v l.length := by
  rcases h with ⟨rfl, rfl⟩ | ⟨b, cp, _, _, rfl, _⟩
  · exact .inl ⟨rfl, rfl⟩
  · exact .inr ⟨b, cp, rfl⟩
theorem StrsAt.mono {H H' : Heap} (hs : ∀ b x, H.get b = some x → H'.get b = some x) {v : V} {l : List (List UInt8)} (h : StrsAt H v l) : StrsAt H' v l := by
  rcases h with h | ⟨b, cp, ro, h1, h2⟩
  · exact .inl h
  · exact .inr ⟨b, cp, ro, h1, hs _ _ h2⟩
theorem FnsAt.mono {H H' : Heap} (hs : ∀ b x, H.get b = some x → H'.get b = some x) {v : V} {l : List Fn} (h : FnsAt H v l) : FnsAt H' v l := by
  rcases h with h | ⟨b, cp, ro, row, h1, h2, h3, h4⟩
  · exact .inl h
  · exact .inr ⟨b, cp, ro, row, h1, hs _ _ h2, h3, fun i f hf => (h4 i f hf).mono hs⟩
theorem SameH.keep {H H' : Heap} (h : SameH H H') : ∀ b x, H.get b = some x → H'.get b = some x := fun b x hx => (h.get b).trans hx

theorem okIaF {X : Ext} (b n i : Nat) (c : Option Nat) (h : i < n) : (Ob2.iadr 36 b 0 n c (i64 (i : Nat)) (.ptr b (i * 4))).ok Tryz.prog X := by
  intro ts x
  have hu : Tryz.prog.underlying 36 = some (.slice 32) := Tryz.underlying36
  have hs : szOf Tryz.prog 32 = some 4 := by kernel_rfl
  unfold indexAddrV
  simp only [hu, hs]
  rw [if_pos (by omega)]
  simp
theorem agg32 : isAggT Tryz.prog 32 = some true := by kernel_rfl

theorem okLdF {X : Ext} {H : Heap} {x : Operand} {b i n : Nat} {ro : Bool} {row : List V} (hg : H.get b = some (.cells ro 32 row)) (hl : row.length = n * 4) (hi : i < n) : (Ob2.ldx 32 H x (.ptr b (i * 4)) (.agg ((row.drop (i * 4)).take 4))).ok Tryz.prog X := by
  intro t
  have hs : szOf Tryz.prog 32 = some 4 := by kernel_rfl
  unfold loadV rowAt
  simp only [Heap.row, hg, Option.map_some, agg32, hs, loadRow]
  rw [if_pos (by omega)]
  rfl

theorem SameH.mrg {H A G : Heap} (h : SameH H A) (h' : SameH H G) : SameH H (mrg A G) := ⟨h'.next, h'.get, fun k => by
  have e1 := h.lo k
  have e2 := h'.lo k
  rw [h.next] at e1
  rw [h'.next] at e2
  show G.next ≤ min A.lo G.lo
  rw [h'.next]
  omega⟩

def rightS (s : Sc) : Bool := decide (s.cs.length ≤ 32) && (decide (1 ≤ s.fs.length) && (decide (s.fs.length ≤ 16) && (s.cs.all (fun c => decide (c.length ≤ 256)) && s.fs.all (fun f => rightF s.cs.length s.fs.length f))))

set_option maxHeartbeats 2000000 in
/-- The document's answer. -/
theorem rightS_run {H : Heap} {v : List V} {s : Sc} (hv : ScAt H v s) (hs : s.small) : ∃ H', callN Tryz.prog Y2 NF 23 [.agg v] H = some (.bool (rightS s), H') ∧ SameH H H' := by
  obtain ⟨sc, sf, rfl, ac, af⟩ := hv.ex
  have lc := ac.len
  have lf := af.len
  have bc := hs.cs
  have bf := hs.fs
  unfold rightS
  by_cases h1 : s.cs.length ≤ 32
  case neg =>
    rw [decide_eq_false h1]
    exact ⟨H, run_heap (rs_c lc lf 2097150 H) (obs2_cons (okIgt (by simp; omega)) obs2_nil), SameH.refl H⟩
  rw [decide_eq_true h1]
  have p1 : (obI .gtr s.cs.length 32 false).ok Tryz.prog Y2 := okIgt (by simp; omega)
  by_cases h2 : 1 ≤ s.fs.length
  case neg =>
    rw [decide_eq_false h2]
    exact ⟨H, run_heap (rs_f lc lf 2097150 H) (obs2_cons (p1) (obs2_cons (okIlt (by simp; omega)) obs2_nil)), SameH.refl H⟩
  rw [decide_eq_true h2]
  have p2 : (obI .lss s.fs.length 1 false).ok Tryz.prog Y2 := okIlt (by simp; omega)
  by_cases h3 : s.fs.length ≤ 16
  case neg =>
    rw [decide_eq_false h3]
    exact ⟨H, run_heap (rs_g lc lf 2097150 H) (obs2_cons (p1) (obs2_cons (p2) (obs2_cons (okIgt (by simp; omega)) obs2_nil))), SameH.refl H⟩
  rw [decide_eq_true h3]
  have p3 : (obI .gtr s.fs.length 16 false).ok Tryz.prog Y2 := okIgt (by simp; omega)
  simp only [Bool.true_and]
  have L1 := scan_list (ex := exec Tryz.prog (callN Tryz.prog Y2 2097151) [1] 2097151 rsB1) (N := 50) (ks := rsK1) (L := s.cs) (f := fun c => decide (c.length ≤ 256)) (vs := fun i => rsVs sc sf i) (I := fun h => h = H) (H := H) rfl (e := .exit 0) (kr := [2]) (vr := fun _ => [.bool false])
    (fun i x h hx hok hh => by
      subst hh
      have hi := lt_of_get hx
      rcases ac with ⟨_, h0⟩ | ⟨b, cp, ro, rfl, hg⟩
      · rw [h0] at hx; simp at hx
      simp only [decide_eq_true_eq] at hok
      exact ⟨h, rfl, goes_tell (fun t => rs_go1 2097149 b s.cs.length i cp sf i ((i + 1 : Nat) : Int) x h t) (obs2_cons (okIlt (by simp; omega)) (obs2_cons (okIb b s.cs.length i cp hi) (obs2_cons (okLdx agg9 hg (by simp [hx])) (obs2_cons (okIgt (by simp; omega)) (obs2_cons (okInc i (by omega)) obs2_nil)))))⟩)
    (fun i x h hx hok hh => by
      subst hh
      have hi := lt_of_get hx
      rcases ac with ⟨_, h0⟩ | ⟨b, cp, ro, rfl, hg⟩
      · rw [h0] at hx; simp at hx
      simp only [decide_eq_false_iff_not] at hok
      exact ⟨h, rfl, goes_tell (fun t => rs_bad1 2097149 b s.cs.length i cp sf i x h t) (obs2_cons (okIlt (by simp; omega)) (obs2_cons (okIb b s.cs.length i cp hi) (obs2_cons (okLdx agg9 hg (by simp [hx])) (obs2_cons (okIgt (by simp; omega)) obs2_nil))))⟩)
    (fun h hh => ⟨h, hh, goes_tell (fun t => rs_out1 lc 2097149 sf s.cs.length h t) (obs2_cons (okIlt (by simp)) obs2_nil)⟩) (by decide) (fuel := 2097151) (by omega)
  cases c1 : s.cs.all (fun c => decide (c.length ≤ 256)) with
  | false =>
    obtain ⟨_, _, h', rfl, g⟩ := L1.2 c1
    exact ⟨_, run_heap (rs_no1 lc lf 2097150 h' h' _) (obs2_cons (p1) (obs2_cons (p2) (obs2_cons (p3) (obs2_cons (ok_goes g rfl) obs2_nil)))), SameH.refl _⟩
  | true =>
  obtain ⟨h', e, g⟩ := L1.1 c1
  subst e
  have o1 := ok_goes g rfl
  simp only [Bool.true_and]
  have rnd : ∀ (i : Nat) (x : Fn) (h : Heap) (b : Bool), s.fs[i]? = some x → rightF s.cs.length s.fs.length x = b → SameH h' h → ∃ G, SameH h' G ∧ (b = true → Goes (exec Tryz.prog (callN Tryz.prog Y2 2097151) [1] 2097151 rsB2) 50 rsK2 (rsVs sc sf i) h .normal rsK2 (rsVs sc sf (i + 1 : Nat)) G) ∧
      (b = false → Goes (exec Tryz.prog (callN Tryz.prog Y2 2097151) [1] 2097151 rsB2) 50 rsK2 (rsVs sc sf i) h .ret [2] [.bool false] G) := by
    intro i x h b hx hb hsame
    have hi := lt_of_get hx
    rcases af with ⟨_, h0⟩ | ⟨bb, cp, ro, row, rfl, hg, hlen, hat⟩
    · rw [h0] at hx; simp at hx
    have s6 : SameH h' (up (LOk 6 h)) := (hsame.trans (SameH.lok 6 h)).trans (SameH.up _)
    obtain ⟨G, hr, hG⟩ := rightF_run (sc := sc) (sf := .slice bb 0 s.fs.length cp) lc (.inr ⟨bb, cp, rfl⟩) ((hat i x hx).mono s6.keep) (hs.fn x (List.mem_of_getElem? hx))
    rw [hb] at hr
    have o5 : (Ob2.caq 49 [.agg [sc, .slice bb 0 s.fs.length cp], .agg ((row.drop (i * 4)).take 4)] (up (LOk 6 h)) (.bool b) G).ok Tryz.prog Y2 := okCaq (okRun (P := Tryz.prog) (X := Y1) (n := NF) (fs := [49]) (f := 49) rfl hr) (by
      have := hG.lo (Nat.le_refl _)
      rw [hG.next] at this
      exact this)
    have o1 : (obI .lss (i : Nat) s.fs.length true).ok Tryz.prog Y2 := okIlt (by simp; omega)
    have o3 := okIaF (X := Y2) bb s.fs.length i cp hi
    have o4 : (Ob2.ldx 32 (up (LOk 5 h)) (.tmp 46) (.ptr bb (i * 4)) (.agg ((row.drop (i * 4)).take 4))).ok Tryz.prog Y2 := okLdF ((get_up 5 h bb).trans ((hsame.get bb).trans hg)) hlen hi
    have sG : SameH h' (LOk 1 (mrg (LOk 6 h) G)) := ((hsame.trans (SameH.lok 6 h)).mrg (s6.trans hG)).trans (SameH.lok 1 _)
    refine ⟨_, sG, fun hb => ?_, fun hb => ?_⟩
    · subst hb
      exact goes_tell (fun t => rs_go2 2097149 bb s.fs.length (i * 4) cp sc _ i ((i + 1 : Nat) : Int) h G t) (obs2_cons (o1) (obs2_cons (o3) (obs2_cons (o4) (obs2_cons (o5) (obs2_cons (okInc i (by omega)) obs2_nil)))))
    · subst hb
      exact goes_tell (fun t => rs_bad2 2097149 bb s.fs.length (i * 4) cp sc _ i h G t) (obs2_cons (o1) (obs2_cons (o3) (obs2_cons (o4) (obs2_cons (o5) obs2_nil))))
  have L2 := scan_list (ex := exec Tryz.prog (callN Tryz.prog Y2 2097151) [1] 2097151 rsB2) (N := 50) (ks := rsK2) (L := s.fs) (f := fun f => rightF s.cs.length s.fs.length f) (vs := fun i => rsVs sc sf i) (I := fun h => SameH h' h) (H := h') (SameH.refl _) (e := .exit 2) (kr := [2]) (vr := fun _ => [.bool false])
    (fun i x h hx hok hh => by
      obtain ⟨G, g1, g2, _⟩ := rnd i x h true hx hok hh
      exact ⟨G, g1, g2 rfl⟩)
    (fun i x h hx hok hh => by
      obtain ⟨G, g1, _, g2⟩ := rnd i x h false hx hok hh
      exact ⟨G, g1, g2 rfl⟩)
    (fun h hh => ⟨h, hh, goes_tell (fun t => rs_out2 lf 2097149 sc s.fs.length h t) (obs2_cons (okIlt (by simp)) obs2_nil)⟩) (by decide) (fuel := 2097151) (by omega)
  cases c2 : s.fs.all (fun f => rightF s.cs.length s.fs.length f) with
  | false =>
    obtain ⟨_, _, h2, q, g2⟩ := L2.2 c2
    exact ⟨_, run_heap (rs_no2 lc lf 2097150 s.cs.length h' h' h2 _ _) (obs2_cons (p1) (obs2_cons (p2) (obs2_cons (p3) (obs2_cons (o1) (obs2_cons (ok_goes g2 rfl) obs2_nil))))), q⟩
  | true =>
    obtain ⟨h2, q, g2⟩ := L2.1 c2
    exact ⟨_, run_heap (rs_yes lc lf 2097150 s.cs.length s.fs.length h' h' h2 _ _) (obs2_cons (p1) (obs2_cons (p2) (obs2_cons (p3) (obs2_cons (o1) (obs2_cons (ok_goes g2 rfl) obs2_nil))))), q⟩

end Go.AM
