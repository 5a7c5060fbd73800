/-
  ReadHead and the document's ReadHead under promises: each kind of round, each way out.
-/
import Derived.Test.YtmokkkbbbmcjnaaGreatDoorAsH7
set_option linter.unusedVariables false
set_option linter.unusedSimpArgs false
namespace Go.AM
open Go.Proofs Go.RowKit

def sAr : List UInt8 := [45, 62]
def sSe : List UInt8 := [59]
abbrev sN (b : Id) (k : Nat) : V := .slice b 0 k none
def upd (vs : Nat → V) (c : Nat) (v : V) : Nat → V := fun i => if i = c then v else vs i
def Kd (k : Nat) : Prop := k = 1 ∨ k = 2 ∨ k = 3
noncomputable abbrev pBody : Code := Code.go (bodyOf Tryz.prog 13) [1, 0, 1, 1, 1, 1, 1, 1, 0, 1, 0, 0]
abbrev pKs : List Nat := [2, 4, 5, 6, 7, 20, 21, 22]
abbrev nil4 : List V := [.nilslice, .nilslice, .nilslice, .nilslice]
abbrev w1 (n : Nat) : V := .slice 1 1 n (some n)
abbrev w0 (k : Nat) : V := .slice 1 0 k (some k)
abbrev pVs (o : Nat) (c : Int) (k n : Nat) (i : Int) : List V := [.box nil4, .ptr 0 0, .ptr 0 o, w0 k, i64 c, w1 n, i64 (n : Nat), i64 i]
abbrev icell (t : Int) : Obj := .cells false 3 [i64 t]
abbrev ia1 (n : Nat) (i : Int) (p : Nat) : Ob2 := .iadr 37 1 1 n (some n) (i64 i) (.ptr 1 p)
abbrev ia0 (k : Nat) : Ob2 := .iadr 37 1 0 k (some k) (i64 0) (.ptr 1 0)
abbrev ldS (H : Heap) (x b p : Nat) (s : List UInt8) : Ob2 := .ldx 9 H (.tmp x) (.ptr b p) (.str s)
abbrev ldL (H : Heap) (x o : Nat) (v : V) : Ob2 := .ldx 29 H (.tmp x) (.ptr 0 o) v
abbrev iApN (H : Heap) (t : Int) : Ob2 := .app 29 29 (H.alloc (icell t)) .nilslice (.slice H.next 0 1 (some 1)) 1 3 [i64 t]
abbrev iApD (H : Heap) (t : Int) (b n q : Nat) (row : List V) : Ob2 := .apd 29 29 (H.alloc (icell t)) (sN b n) (.slice H.next 0 1 (some 1)) b q 3 row
abbrev gApN (H : Heap) (t : Int) : Heap := (H.alloc (icell t)).alloc (.cells false 3 [i64 t])
abbrev gApD (H : Heap) (t : Int) (b : Nat) (row : List V) : Heap := ((H.alloc (icell t)).set b .dead).alloc (.cells false 3 row)
abbrev ny (H : Heap) (t : Int) : Nat := (H.alloc (icell t)).next
abbrev tx (f : FuncId) (d : Tmp) (v : V) : FuncId × Tmp × Tell := (f, d, .ldx v)
def kT : Nat → Orc2
  | 1 => [tv 13 56 true]
  | 2 => [tv 13 56 false, tv 13 56 true]
  | _ => [tv 13 56 false, tv 13 56 false, tv 13 56 true]
def kOb (x : List UInt8) : Nat → List Ob2
  | 1 => [obS .eql kI x true]
  | 2 => [obS .eql kI x false, obS .eql kB x true]
  | _ => [obS .eql kI x false, obS .eql kB x false, obS .eql kO x true]

theorem r13_m1 (m o k n p : Nat) (c c' i j : Int) (x : List UInt8) (H : Heap) (t : List V) :
    tellCode Tryz.prog XS (m + 6) 13 [2] (m + 6) pBody ⟨normL 87 (pKs.zip (pVs o c k n i)) t, H⟩ [tv 13 23 true, tp 13 24 (.ptr 1 p), tx 13 25 (.str x), tv 13 28 true, tv 13 31 true, tp 13 35 (i64 c'), tp 13 68 (i64 j)] pKs =
      some (.normal, 87, pVs 1 c' k n j, H, [obI .lss i n true, ia1 n i p, ldS H 24 1 p x, obS .eql x sAr true, obI .eql c 0 true, addO c c', addO i j]) := by kernel_rfl
theorem r13_m2 (m o k n p : Nat) (c c' i j : Int) (x : List UInt8) (H : Heap) (t : List V) :
    tellCode Tryz.prog XS (m + 6) 13 [2] (m + 6) pBody ⟨normL 87 (pKs.zip (pVs o c k n i)) t, H⟩ [tv 13 23 true, tp 13 24 (.ptr 1 p), tx 13 25 (.str x), tv 13 28 false, tv 13 38 true, tv 13 41 true, tp 13 45 (i64 c'), tp 13 68 (i64 j)] pKs =
      some (.normal, 87, pVs 2 c' k n j, H, [obI .lss i n true, ia1 n i p, ldS H 24 1 p x, obS .eql x sAr false, obS .eql x sSe true, obI .eql c 1 true, addO c c', addO i j]) := by kernel_rfl
theorem r13_N (m o k n p : Nat) (c i j : Int) (x : List UInt8) (H : Heap) (t : List V) (H3 : Heap) (kk : Nat) (hk : Kd kk) :
    tellCode Tryz.prog XS (m + 6) 13 [2] (m + 6) pBody ⟨normL 87 (pKs.zip (pVs o c k n i)) t, H⟩ ([tv 13 23 true, tp 13 24 (.ptr 1 p), tx 13 25 (.str x), tv 13 28 false, tv 13 38 false] ++ (kT kk ++ [tx 13 61 .nilslice, (13, 64, .blk 1 3 [i64 (kk : Nat)]), (13, 0, .stx H3), tp 13 68 (i64 j)])) pKs =
      some (.normal, 87, pVs o c k n j, H3, [obI .lss i n true, ia1 n i p, ldS H 24 1 p x, obS .eql x sAr false, obS .eql x sSe false] ++ (kOb x kk ++ [ldL H 60 o .nilslice, iApN H kk, .stx 29 (gApN H kk) (.tmp 65) (.ptr 0 o) (sN (ny H kk) 1) H3, addO i j])) := by rcases hk with rfl | rfl | rfl <;> kernel_rfl
theorem r13_D (m o k n p : Nat) (c i j : Int) (x : List UInt8) (H : Heap) (t : List V) (H3 : Heap) (b l q : Nat) (row : List V) (kk : Nat) (hk : Kd kk) :
    tellCode Tryz.prog XS (m + 6) 13 [2] (m + 6) pBody ⟨normL 87 (pKs.zip (pVs o c k n i)) t, H⟩ ([tv 13 23 true, tp 13 24 (.ptr 1 p), tx 13 25 (.str x), tv 13 28 false, tv 13 38 false] ++ (kT kk ++ [tx 13 61 (sN b l), (13, 64, .dblk b q 3 row), (13, 0, .stx H3), tp 13 68 (i64 j)])) pKs =
      some (.normal, 87, pVs o c k n j, H3, [obI .lss i n true, ia1 n i p, ldS H 24 1 p x, obS .eql x sAr false, obS .eql x sSe false] ++ (kOb x kk ++ [ldL H 60 o (sN b l), iApD H kk b l q row, .stx 29 (gApD H kk b row) (.tmp 65) (.ptr 0 o) (sN (ny H kk) q) H3, addO i j])) := by rcases hk with rfl | rfl | rfl <;> kernel_rfl
theorem r13_fa (m o k n p : Nat) (c i : Int) (x : List UInt8) (H : Heap) (t : List V) :
    tellCode Tryz.prog XS (m + 6) 13 [2] (m + 6) pBody ⟨normL 87 (pKs.zip (pVs o c k n i)) t, H⟩ [tv 13 23 true, tp 13 24 (.ptr 1 p), tx 13 25 (.str x), tv 13 28 false, tv 13 38 false, tv 13 56 false, tv 13 56 false, tv 13 56 false] [2, 3] =
      some (.ret, 87, [.box nil4, .bool false], H, [obI .lss i n true, ia1 n i p, ldS H 24 1 p x, obS .eql x sAr false, obS .eql x sSe false, obS .eql kI x false, obS .eql kB x false, obS .eql kO x false]) := by kernel_rfl
theorem r13_fb (m o k n p : Nat) (c i : Int) (x : List UInt8) (H : Heap) (t : List V) :
    tellCode Tryz.prog XS (m + 6) 13 [2] (m + 6) pBody ⟨normL 87 (pKs.zip (pVs o c k n i)) t, H⟩ [tv 13 23 true, tp 13 24 (.ptr 1 p), tx 13 25 (.str x), tv 13 28 true, tv 13 31 false, tv 13 38 false, tv 13 56 false, tv 13 56 false, tv 13 56 false] [2, 3] =
      some (.ret, 87, [.box nil4, .bool false], H, [obI .lss i n true, ia1 n i p, ldS H 24 1 p x, obS .eql x sAr true, obI .eql c 0 false, obS .eql x sSe false, obS .eql kI x false, obS .eql kB x false, obS .eql kO x false]) := by kernel_rfl
theorem r13_fc (m o k n p : Nat) (c i : Int) (x : List UInt8) (H : Heap) (t : List V) :
    tellCode Tryz.prog XS (m + 6) 13 [2] (m + 6) pBody ⟨normL 87 (pKs.zip (pVs o c k n i)) t, H⟩ [tv 13 23 true, tp 13 24 (.ptr 1 p), tx 13 25 (.str x), tv 13 28 false, tv 13 38 true, tv 13 41 false, tv 13 56 false, tv 13 56 false, tv 13 56 false] [2, 3] =
      some (.ret, 87, [.box nil4, .bool false], H, [obI .lss i n true, ia1 n i p, ldS H 24 1 p x, obS .eql x sAr false, obS .eql x sSe true, obI .eql c 1 false, obS .eql kI x false, obS .eql kB x false, obS .eql kO x false]) := by kernel_rfl
theorem r13_x (m o k n : Nat) (c i : Int) (H : Heap) (t : List V) :
    tellCode Tryz.prog XS m 13 [2] m pBody ⟨normL 87 (pKs.zip (pVs o c k n i)) t, H⟩ [tv 13 23 false] pKs =
      some (.exit 0, 87, pVs o c k n i, H, [obI .lss i n false]) := by kernel_rfl

def LOk : Nat → Heap → Heap
  | 0, H => H
  | k + 1, H => LOk k { H with lo := min H.lo H.next }
theorem LOk_get : ∀ (k : Nat) (H : Heap) (b : Id), (LOk k H).get b = H.get b
  | 0, _, _ => rfl
  | k + 1, H, b => by unfold LOk; rw [LOk_get k]; rfl
abbrev up (H : Heap) : Heap := { H with lo := H.next }
abbrev rec0 : Obj := .cells false 32 nil4
abbrev Hs (row : List V) : Heap := (h0.alloc rec0).alloc (.cells false 9 row)
abbrev spl (s : List UInt8) (k : Nat) (row : List V) : Ob2 := .cax 36 [.str s, .str [32]] (h0.alloc rec0) (w0 k) (Hs row)
abbrev tspl (k : Nat) (row : List V) : FuncId × Tmp × Tell := (13, 14, .cax (w0 k) (Hs row))
abbrev no4 : V := .tup [.agg nil4, .bool false]
abbrev ag (v1 v2 v3 : V) : V := .agg [v1, v2, v3, .nilslice]
abbrev slw (k n : Nat) : Ob2 := .slc 37 (w0 k) (some (i64 1)) none none (w1 n)
abbrev ldR (H : Heap) (x : Operand) (v : V) : Ob2 := .ldx 32 H x (.ptr 0 0) v
noncomputable abbrev rLp (m k n : Nat) (row : List V) (o : Nat) (c j : Int) (J : List V → List V) (H : Heap) : Ob2 := .loop m [2] pBody 87 pKs (pVs 0 0 k n 0) (Hs row) (.exit 0) (pKs.zip (pVs o c k n j)) J H

theorem r13_long (m k : Nat) (s : List UInt8) (row : List V) :
    tellHeap Tryz.prog XS (m + 3) 13 [.str s] h0 [tspl k row, tv 13 17 true]  =
      some (no4, Hs row, [spl s k row, obI .gtr (k : Nat) 67 true]) := by kernel_rfl
theorem r13_ret (m k n : Nat) (s : List UInt8) (row : List V) (J : List V → List V) (G : Heap) :
    tellHeap Tryz.prog XS (m + 3) 13 [.str s] h0 [tspl k row, tv 13 17 false, tp 13 20 (w1 n), (13, 0, .loop 87 pKs .ret ([2, 3].zip [.box nil4, .bool false]) J G)]  =
      some (no4, G, [spl s k row, obI .gtr (k : Nat) 67 false, slw k n, .loop (m + 2) [2] pBody 87 pKs (pVs 0 0 k n 0) (Hs row) .ret ([2, 3].zip [.box nil4, .bool false]) J G]) := by kernel_rfl
theorem r13_e1 (m k n : Nat) (s : List UInt8) (row : List V) (o : Nat) (c j : Int) (J : List V → List V) (G : Heap) (w : List UInt8) (v1 v2 v3 : V) :
    tellHeap Tryz.prog XS (m + 3) 13 [.str s] h0 [tspl k row, tv 13 17 false, tp 13 20 (w1 n), (13, 0, .loop 87 pKs (.exit 0) (pKs.zip (pVs o c k n j)) J G), tp 13 70 (.ptr 1 0), tx 13 71 (.str w), tv 13 72 true, tx 13 77 (ag v1 v2 v3), tp 13 79 (.ptr 1 0), tx 13 80 (.str w), tv 13 81 false]  =
      some (.tup [ag v1 v2 v3, .bool false], LOk 9 G, [spl s k row, obI .gtr (k : Nat) 67 false, slw k n, rLp (m + 2) k n row o c j J G, ia0 k, ldS G 70 1 0 w, obS .neq w sFunc true, ldR (up G) (.tmp 4) (ag v1 v2 v3), ia0 k, ldS (up (LOk 3 G)) 79 1 0 w, obS .eql w sFunc false]) := by kernel_rfl
theorem r13_e2 (m k n : Nat) (s : List UInt8) (row : List V) (o : Nat) (c j : Int) (J : List V → List V) (G : Heap) (w : List UInt8) (v1 v2 v3 : V) :
    tellHeap Tryz.prog XS (m + 3) 13 [.str s] h0 [tspl k row, tv 13 17 false, tp 13 20 (w1 n), (13, 0, .loop 87 pKs (.exit 0) (pKs.zip (pVs o c k n j)) J G), tp 13 70 (.ptr 1 0), tx 13 71 (.str w), tv 13 72 false, tv 13 75 true, tx 13 77 (ag v1 v2 v3), tp 13 79 (.ptr 1 0), tx 13 80 (.str w), tv 13 81 true, tv 13 84 false]  =
      some (.tup [ag v1 v2 v3, .bool false], LOk 11 G, [spl s k row, obI .gtr (k : Nat) 67 false, slw k n, rLp (m + 2) k n row o c j J G, ia0 k, ldS G 70 1 0 w, obS .neq w sFunc false, obI .neq c 2 true, ldR (up G) (.tmp 4) (ag v1 v2 v3), ia0 k, ldS (up (LOk 3 G)) 79 1 0 w, obS .eql w sFunc true, obI .eql c 2 false]) := by kernel_rfl
theorem r13_e3 (m k n : Nat) (s : List UInt8) (row : List V) (o : Nat) (c j : Int) (J : List V → List V) (G : Heap) (w : List UInt8) (v1 v2 v3 : V) :
    tellHeap Tryz.prog XS (m + 3) 13 [.str s] h0 [tspl k row, tv 13 17 false, tp 13 20 (w1 n), (13, 0, .loop 87 pKs (.exit 0) (pKs.zip (pVs o c k n j)) J G), tp 13 70 (.ptr 1 0), tx 13 71 (.str w), tv 13 72 false, tv 13 75 false, tx 13 86 (ag v1 v2 v3)]  =
      some (.tup [ag v1 v2 v3, .bool true], G, [spl s k row, obI .gtr (k : Nat) 67 false, slw k n, rLp (m + 2) k n row o c j J G, ia0 k, ldS G 70 1 0 w, obS .neq w sFunc false, obI .neq c 2 false, ldR G (.tmp 4) (ag v1 v2 v3)]) := by kernel_rfl

/-! ### The document's -/

noncomputable abbrev gBody : Code := Code.go (bodyOf Tryz.prog 14) [1, 1, 1, 1, 1, 0, 1, 0, 0]
abbrev gKs : List Nat := [2, 4, 5, 6, 7]
abbrev wG (k : Nat) : V := .slice 0 0 k none
abbrev gVs (k : Nat) (vs : Nat → V) (c i : Int) : List V := [.box nil4, wG k, .box [vs 0, vs 1, vs 2], i64 c, i64 i]
abbrev iaG (k : Nat) (i : Int) (p : Nat) : Ob2 := .iadr 37 0 0 k none (i64 i) (.ptr 0 p)
def Mk (c : Nat) : Prop := c = 0 ∨ c = 1 ∨ c = 2

def kT14 (p : Nat) (x : List UInt8) (a : Tell) : Nat → Orc2
  | 1 => [tp 14 53 (.ptr 0 p), tx 14 54 (.str x), tv 14 55 true, (14, 61, a)]
  | 2 => [tp 14 53 (.ptr 0 p), tx 14 54 (.str x), tv 14 55 false, tp 14 66 (.ptr 0 p), tx 14 67 (.str x), tv 14 68 true, (14, 74, a)]
  | _ => [tp 14 53 (.ptr 0 p), tx 14 54 (.str x), tv 14 55 false, tp 14 66 (.ptr 0 p), tx 14 67 (.str x), tv 14 68 false, tp 14 79 (.ptr 0 p), tx 14 80 (.str x), tv 14 81 true, (14, 87, a)]
def kO14 (k p : Nat) (i : Int) (x : List UInt8) (H : Heap) : Nat → List Ob2
  | 1 => [iaG k i p, ldS H 53 0 p x, obS .eql x kI true]
  | 2 => [iaG k i p, ldS H 53 0 p x, obS .eql x kI false, iaG k i p, ldS H 66 0 p x, obS .eql x kB true]
  | _ => [iaG k i p, ldS H 53 0 p x, obS .eql x kI false, iaG k i p, ldS H 66 0 p x, obS .eql x kB false, iaG k i p, ldS H 79 0 p x, obS .eql x kO true]
theorem g14_m1 (m k p : Nat) (i j : Int) (x : List UInt8) (H : Heap) (t : List V) (vs : Nat → V) :
    tellCode Tryz.prog XS m 14 [2, 5] m gBody ⟨normL 98 (gKs.zip (gVs k vs 0 i)) t, H⟩ [tv 14 23 true, tp 14 30 (.ptr 0 p), tx 14 31 (.str x), tv 14 32 true, tp 14 25 (i64 j)] gKs =
      some (.normal, 98, gVs k vs 1 j, H, [obI .lss i k true, iaG k i p, ldS H 30 0 p x, obS .eql x sAr true, addO i j]) := by kernel_rfl
theorem g14_m2 (m k p : Nat) (i j : Int) (x : List UInt8) (H : Heap) (t : List V) (vs : Nat → V) :
    tellCode Tryz.prog XS m 14 [2, 5] m gBody ⟨normL 98 (gKs.zip (gVs k vs 1 i)) t, H⟩ [tv 14 23 true, tp 14 30 (.ptr 0 p), tx 14 31 (.str x), tv 14 32 false, tp 14 40 (.ptr 0 p), tx 14 41 (.str x), tv 14 42 true, tp 14 25 (i64 j)] gKs =
      some (.normal, 98, gVs k vs 2 j, H, [obI .lss i k true, iaG k i p, ldS H 30 0 p x, obS .eql x sAr false, iaG k i p, ldS H 40 0 p x, obS .eql x sSe true, addO i j]) := by kernel_rfl
theorem g14_N (m k p : Nat) (i j : Int) (x : List UInt8) (H : Heap) (t : List V) (vs : Nat → V) (c kk : Nat) (hc : Mk c) (hk : Kd kk) :
    tellCode Tryz.prog XS m 14 [2, 5] m gBody ⟨normL 98 (gKs.zip (gVs k (upd vs c .nilslice) c i)) t, H⟩ ([tv 14 23 true, tp 14 30 (.ptr 0 p), tx 14 31 (.str x), tv 14 32 false, tp 14 40 (.ptr 0 p), tx 14 41 (.str x), tv 14 42 false] ++ (kT14 p x (.blk 1 3 [i64 (kk : Nat)]) kk ++ [tp 14 25 (i64 j)])) gKs =
      some (.normal, 98, gVs k (upd vs c (sN (ny H kk) 1)) c j, (gApN H kk), [obI .lss i k true, iaG k i p, ldS H 30 0 p x, obS .eql x sAr false, iaG k i p, ldS H 40 0 p x, obS .eql x sSe false] ++ (kO14 k p i x H kk ++ [iApN H kk, addO i j])) := by 
  rcases hc with rfl | rfl | rfl <;> rcases hk with rfl | rfl | rfl <;> kernel_rfl
theorem g14_D (m k p : Nat) (i j : Int) (x : List UInt8) (H : Heap) (t : List V) (vs : Nat → V) (row : List V) (b l q : Nat) (c kk : Nat) (hc : Mk c) (hk : Kd kk) :
    tellCode Tryz.prog XS m 14 [2, 5] m gBody ⟨normL 98 (gKs.zip (gVs k (upd vs c (sN b l)) c i)) t, H⟩ ([tv 14 23 true, tp 14 30 (.ptr 0 p), tx 14 31 (.str x), tv 14 32 false, tp 14 40 (.ptr 0 p), tx 14 41 (.str x), tv 14 42 false] ++ (kT14 p x (.dblk b q 3 row) kk ++ [tp 14 25 (i64 j)])) gKs =
      some (.normal, 98, gVs k (upd vs c (sN (ny H kk) q)) c j, (gApD H kk b row), [obI .lss i k true, iaG k i p, ldS H 30 0 p x, obS .eql x sAr false, iaG k i p, ldS H 40 0 p x, obS .eql x sSe false] ++ (kO14 k p i x H kk ++ [iApD H kk b l q row, addO i j])) := by 
  rcases hc with rfl | rfl | rfl <;> rcases hk with rfl | rfl | rfl <;> kernel_rfl
theorem g14_fa (m k p : Nat) (i : Int) (x : List UInt8) (H : Heap) (t : List V) (vs : Nat → V) (c : Nat) (hc : Mk c) :
    tellCode Tryz.prog XS m 14 [2, 5] m gBody ⟨normL 98 (gKs.zip (gVs k vs c i)) t, H⟩ [tv 14 23 true, tp 14 30 (.ptr 0 p), tx 14 31 (.str x), tv 14 32 false, tp 14 40 (.ptr 0 p), tx 14 41 (.str x), tv 14 42 false, tp 14 53 (.ptr 0 p), tx 14 54 (.str x), tv 14 55 false, tp 14 66 (.ptr 0 p), tx 14 67 (.str x), tv 14 68 false, tp 14 79 (.ptr 0 p), tx 14 80 (.str x), tv 14 81 false] [2, 3] =
      some (.ret, 98, [.box nil4, .bool false], H, [obI .lss i k true, iaG k i p, ldS H 30 0 p x, obS .eql x sAr false, iaG k i p, ldS H 40 0 p x, obS .eql x sSe false, iaG k i p, ldS H 53 0 p x, obS .eql x kI false, iaG k i p, ldS H 66 0 p x, obS .eql x kB false, iaG k i p, ldS H 79 0 p x, obS .eql x kO false]) := by rcases hc with rfl | rfl | rfl <;> kernel_rfl
theorem g14_fb (m k p : Nat) (i : Int) (x : List UInt8) (H : Heap) (t : List V) (vs : Nat → V) (c : Nat) (hc : c = 1 ∨ c = 2) :
    tellCode Tryz.prog XS m 14 [2, 5] m gBody ⟨normL 98 (gKs.zip (gVs k vs c i)) t, H⟩ [tv 14 23 true, tp 14 30 (.ptr 0 p), tx 14 31 (.str x), tv 14 32 true, tp 14 40 (.ptr 0 p), tx 14 41 (.str x), tv 14 42 false, tp 14 53 (.ptr 0 p), tx 14 54 (.str x), tv 14 55 false, tp 14 66 (.ptr 0 p), tx 14 67 (.str x), tv 14 68 false, tp 14 79 (.ptr 0 p), tx 14 80 (.str x), tv 14 81 false] [2, 3] =
      some (.ret, 98, [.box nil4, .bool false], H, [obI .lss i k true, iaG k i p, ldS H 30 0 p x, obS .eql x sAr true, iaG k i p, ldS H 40 0 p x, obS .eql x sSe false, iaG k i p, ldS H 53 0 p x, obS .eql x kI false, iaG k i p, ldS H 66 0 p x, obS .eql x kB false, iaG k i p, ldS H 79 0 p x, obS .eql x kO false]) := by rcases hc with rfl | rfl <;> kernel_rfl
theorem g14_fc (m k p : Nat) (i : Int) (x : List UInt8) (H : Heap) (t : List V) (vs : Nat → V) (c : Nat) (hc : c = 0 ∨ c = 2) :
    tellCode Tryz.prog XS m 14 [2, 5] m gBody ⟨normL 98 (gKs.zip (gVs k vs c i)) t, H⟩ [tv 14 23 true, tp 14 30 (.ptr 0 p), tx 14 31 (.str x), tv 14 32 false, tp 14 40 (.ptr 0 p), tx 14 41 (.str x), tv 14 42 true, tp 14 53 (.ptr 0 p), tx 14 54 (.str x), tv 14 55 false, tp 14 66 (.ptr 0 p), tx 14 67 (.str x), tv 14 68 false, tp 14 79 (.ptr 0 p), tx 14 80 (.str x), tv 14 81 false] [2, 3] =
      some (.ret, 98, [.box nil4, .bool false], H, [obI .lss i k true, iaG k i p, ldS H 30 0 p x, obS .eql x sAr false, iaG k i p, ldS H 40 0 p x, obS .eql x sSe true, iaG k i p, ldS H 53 0 p x, obS .eql x kI false, iaG k i p, ldS H 66 0 p x, obS .eql x kB false, iaG k i p, ldS H 79 0 p x, obS .eql x kO false]) := by rcases hc with rfl | rfl <;> kernel_rfl
theorem g14_x (m k : Nat) (c i : Int) (H : Heap) (t : List V) (vs : Nat → V) :
    tellCode Tryz.prog XS m 14 [2, 5] m gBody ⟨normL 98 (gKs.zip (gVs k vs c i)) t, H⟩ [tv 14 23 false] gKs =
      some (.exit 0, 98, gVs k vs c i, H, [obI .lss i k false]) := by kernel_rfl

abbrev Hw (row : List V) : Heap := h0.alloc (.cells false 9 row)
abbrev wds (s : List UInt8) (k : Nat) (row : List V) : Ob2 := .cax 27 [.str s] h0 (wG k) (Hw row)
abbrev twds (k : Nat) (row : List V) : FuncId × Tmp × Tell := (14, 9, .cax (wG k) (Hw row))
def noV : Nat → V := fun _ => .nilslice

theorem g14_w (m k : Nat) (s w : List UInt8) (row : List V) :
    tellHeap Tryz.prog XS (m + 3) 14 [.str s] h0 [twds k row, tp 14 11 (.ptr 0 0), tx 14 12 (.str w), tv 14 13 true]  =
      some (no4, Hw row, [wds s k row, iaG k 0 0, ldS (Hw row) 11 0 0 w, obS .neq w sFunc true]) := by kernel_rfl
theorem g14_l (m k : Nat) (s w : List UInt8) (row : List V) :
    tellHeap Tryz.prog XS (m + 3) 14 [.str s] h0 [twds k row, tp 14 11 (.ptr 0 0), tx 14 12 (.str w), tv 14 13 false, tv 14 17 true]  =
      some (no4, Hw row, [wds s k row, iaG k 0 0, ldS (Hw row) 11 0 0 w, obS .neq w sFunc false, obI .gtr (k : Nat) 67 true]) := by kernel_rfl
theorem g14_r (m k : Nat) (s w : List UInt8) (row : List V) (J : List V → List V) (G : Heap) :
    tellHeap Tryz.prog XS (m + 3) 14 [.str s] h0 [twds k row, tp 14 11 (.ptr 0 0), tx 14 12 (.str w), tv 14 13 false, tv 14 17 false, (14, 0, .loop 98 gKs .ret ([2, 3].zip [.box nil4, .bool false]) J G)]  =
      some (no4, G, [wds s k row, iaG k 0 0, ldS (Hw row) 11 0 0 w, obS .neq w sFunc false, obI .gtr (k : Nat) 67 false, .loop (m + 2) [2, 5] gBody 98 gKs (gVs k noV 0 1) (Hw row) .ret ([2, 3].zip [.box nil4, .bool false]) J G]) := by kernel_rfl
def vs3 (o1 o2 o3 : Option (List V)) (b1 b2 b3 : Id) : Nat → V
  | 0 => svO o1 b1
  | 1 => svO o2 b2
  | _ => svO o3 b3
theorem g14_e (m k : Nat) (s w : List UInt8) (row : List V) (J : List V → List V) (G : Heap) (o1 o2 o3 : Option (List V)) (b1 b2 b3 : Id) (c i : Int) (z : Bool) :
    tellHeap Tryz.prog XS (m + 3) 14 [.str s] h0 [twds k row, tp 14 11 (.ptr 0 0), tx 14 12 (.str w), tv 14 13 false, tv 14 17 false, (14, 0, .loop 98 gKs (.exit 0) (gKs.zip (gVs k (vs3 o1 o2 o3 b1 b2 b3) c i)) J G), tv 14 97 z]  =
      some (recV o1 o2 o3 b1 b2 b3 z, G, [wds s k row, iaG k 0 0, ldS (Hw row) 11 0 0 w, obS .neq w sFunc false, obI .gtr (k : Nat) 67 false, .loop (m + 2) [2, 5] gBody 98 gKs (gVs k noV 0 1) (Hw row) (.exit 0) (gKs.zip (gVs k (vs3 o1 o2 o3 b1 b2 b3) c i)) J G, obI .eql c 2 z]) := by cases o1 <;> cases o2 <;> cases o3 <;> kernel_rfl

end Go.AM
