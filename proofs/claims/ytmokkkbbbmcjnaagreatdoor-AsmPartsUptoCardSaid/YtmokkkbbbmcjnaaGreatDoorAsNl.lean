/-
  Print: a script as text.
-/
import Derived.Test.YtmokkkbbbmcjnaaGreatDoorAsNj
set_option linter.unusedSectionVars false
set_option linter.unusedVariables false
set_option linter.unusedSimpArgs false
set_option maxRecDepth 100000
namespace Go.AM
open Go.Proofs Go.RowKit

noncomputable def Y6 : Ext := runExt Tryz.prog Y5 NF [45]
theorem Y6_ok : ExtOk Tryz.prog Y6 := runExt_ok mixed Y5_ok Y5_mono NF _
theorem Y6_mono : ExtMono Y6 := runExt_mono Y5_mono NF _

noncomputable abbrev paB1 : Code := Code.go (bodyOf Tryz.prog 21) [1, 1, 1, 0, 1, 0, 0]
noncomputable abbrev paB2 : Code := Code.go (bodyOf Tryz.prog 21) [1, 1, 1, 1, 0, 1, 0, 0]
noncomputable abbrev paB3 : Code := Code.go (bodyOf Tryz.prog 21) [1, 1, 1, 1, 0, 1, 0, 0, 1, 1, 0, 0, 1, 1, 1, 0, 0]
abbrev paK1 : List Nat := [1, 3, 14, 15, 16]
abbrev paV1 (sc sf : V) (bb : Nat) (n : Nat) (i : Int) : List V := [.box [sc, sf], .ptr bb 0, sc, i64 n, i64 i]
abbrev paK2 : List Nat := [3, 30, 31, 32]
abbrev paV2 (sf : V) (bb : Nat) (n : Nat) (i : Int) : List V := [.ptr bb 0, sf, i64 n, i64 i]
abbrev paK3 : List Nat := [3, 30, 31, 32, 41, 42, 43]
abbrev paV3 (sf : V) (bb : Nat) (n : Nat) (i : Int) (c : V) (nc : Nat) (k : Int) : List V := [.ptr bb 0, sf, i64 n, i64 i, c, i64 nc, i64 k]
abbrev ws (s : List UInt8) : V := .tup [i64 s.length, .niliface]
abbrev cV (H : Heap) (c : List UInt8) : Heap := H.alloc (.cells false 78 [i64 2, i64 0, .str c])
abbrev sConst : List UInt8 := [99, 111, 110, 115, 116]
abbrev cP (H : Heap) (p : List UInt8) : Heap := H.alloc (.cells false 9 [.str sConst, .str p])

theorem pa_no {sc : V} {n_sc : Nat} (h_sc : LenIs sc n_sc) {sf : V} {n_sf : Nat} (h_sf : LenIs sf n_sf) (m : Nat) (H G : Heap) :
    tellHeap Tryz.prog Y6 (m + 4) 21 [.agg [sc, sf]] H [(21, 11, .cax (.bool false) G)] =
      (some ((V.str []), (G, [(Ob2.cax 42 [(V.agg [sc, sf])] H (V.bool false) G)]))) := by rcases h_sc with ⟨rfl, rfl⟩ | ⟨b_sc, c_sc, rfl⟩ <;> rcases h_sf with ⟨rfl, rfl⟩ | ⟨b_sf, c_sf, rfl⟩ <;> kernel_rfl
theorem pa_yes {sc : V} {n_sc : Nat} (h_sc : LenIs sc n_sc) {sf : V} {n_sf : Nat} (h_sf : LenIs sf n_sf) (m : Nat) (i j : Int) (n1 n2 : Nat) (out : List UInt8) (H G G1 G2 G3 : Heap) (J J2 : List V → List V) :
    tellHeap Tryz.prog Y6 (m + 4) 21 [.agg [sc, sf]] H [(21, 11, .cax (.bool true) G), (21, 0, .loop 54 paK1 (.exit 0) (paK1.zip (paV1 sc sf G.next n1 i)) J G1), (21, 0, .loop 54 paK2 (.exit 2) (paK2.zip (paV2 sf G.next n2 j)) J2 G2), (21, 53, .cax (.str out) G3)] =
      (some ((V.str out), (G3, [(Ob2.cax 42 [(V.agg [sc, sf])] H (V.bool true) G), (Ob2.loop (((m+1)+1)+1) [1, 7, 9] paB1 54 [1, 3, 14, 15, 16] [(V.box [sc, sf]), (V.ptr (G).next 0), sc, (i64 n_sc), (i64 0)] (G.alloc blk75) (E.exit 0) [(1, (V.box [sc, sf])), (3, (V.ptr (G).next 0)), (14, sc), (15, (i64 n1)), (16, (i64 i))] J G1), (Ob2.loop (((m+1)+1)+1) [1, 7, 9] paB2 54 [3, 30, 31, 32] [(V.ptr (G).next 0), sf, (i64 n_sf), (i64 0)] G1 (E.exit 2) [(3, (V.ptr (G).next 0)), (30, sf), (31, (i64 n2)), (32, (i64 j))] J2 G2), (Ob2.cax 47 [(V.ptr (G).next 0)] G2 (V.str out) G3)]))) := by rcases h_sc with ⟨rfl, rfl⟩ | ⟨b_sc, c_sc, rfl⟩ <;> rcases h_sf with ⟨rfl, rfl⟩ | ⟨b_sf, c_sf, rfl⟩ <;> kernel_rfl
theorem pa_out1 {sc : V} {n_sc : Nat} (h_sc : LenIs sc n_sc) (m bb n : Nat) (sf : V) (i : Int) (H : Heap) (t : List V) :
    tellCode Tryz.prog Y6 (m + 3) 21 [1, 7, 9] (m + 3) paB1 ⟨normL 54 (paK1.zip (paV1 sc sf bb n i)) t, H⟩ [tv 21 17 false] paK1 =
      (some ((E.exit 0), (54, ([(V.box [sc, sf]), (V.ptr bb 0), sc, (i64 n), (i64 i)], (H, [(Ob2.bin Go.BinOp.lss 3 (i64 i) (i64 n) (V.bool false))]))))) := by rcases h_sc with ⟨rfl, rfl⟩ | ⟨b_sc, c_sc, rfl⟩ <;> kernel_rfl
theorem pa_go1 (m b n pp bb : Nat) (cp : Option Nat) (sf : V) (i j : Int) (c p q r : List UInt8) (H H1 H2 : Heap) (t : List V) :
    tellCode Tryz.prog Y6 (m + 3) 21 [1, 7, 9] (m + 3) paB1 ⟨normL 54 (paK1.zip (paV1 (.slice b 0 n cp) sf bb n i)) t, H⟩ [tv 21 17 true, tp 21 18 (.ptr b pp), (21, 19, .ldx (.str c)), (21, 21, .cax (txt2 c) H), (21, 23, .cax (.str p) H1), (39, 4, .cax (.str q) (cP H1 p)), tp 21 26 (.str r), (21, 27, .cax (ws r) H2), tp 21 28 (i64 j)] paK1 =
      (some (E.normal, (54, ([(V.box [(V.slice b 0 n cp), sf]), (V.ptr bb 0), (V.slice b 0 n cp), (i64 n), (i64 j)], (H2, [(Ob2.bin Go.BinOp.lss 3 (i64 i) (i64 n) (V.bool true)), (Ob2.iadr 37 b 0 n cp (i64 i) (V.ptr b pp)), (Ob2.ldx 9 H (Go.Operand.tmp 18) (V.ptr b pp) (V.str c)), (Ob2.cax 46 [(V.str c)] H (V.agg [(i64 2), (i64 0), (V.str c)]) H), (Ob2.cax 45 [(V.slice (H).next 0 1 (some 1))] (cV H c) (V.str p) H1), (Ob2.cax 57 [(V.slice (H1).next 0 2 (some 2)), (V.str [32])] (cP H1 p) (V.str q) (cP H1 p)), (Ob2.bin Go.BinOp.add 9 (V.str q) (V.str [10]) (V.str r)), (Ob2.cax 44 [(V.ptr bb 0), (V.str r)] (cP H1 p) (V.tup [(i64 (r.length)), V.niliface]) H2), (Ob2.bin Go.BinOp.add 3 (i64 i) (i64 1) (i64 j))]))))) := by kernel_rfl
theorem pa_out2 {sf : V} {n_sf : Nat} (h_sf : LenIs sf n_sf) (m bb n : Nat) (i : Int) (H : Heap) (t : List V) :
    tellCode Tryz.prog Y6 (m + 3) 21 [1, 7, 9] (m + 3) paB2 ⟨normL 54 (paK2.zip (paV2 sf bb n i)) t, H⟩ [tv 21 33 false] paK2 =
      (some ((E.exit 2), (54, ([(V.ptr bb 0), sf, (i64 n), (i64 i)], (H, [(Ob2.bin Go.BinOp.lss 3 (i64 i) (i64 n) (V.bool false))]))))) := by rcases h_sf with ⟨rfl, rfl⟩ | ⟨b_sf, c_sf, rfl⟩ <;> kernel_rfl
theorem pa_go2 {p : V} {n_p : Nat} (h_p : LenIs p n_p) {r : V} {n_r : Nat} (h_r : LenIs r n_r) {l : V} {n_l : Nat} (h_l : LenIs l n_l) {c : V} {n_c : Nat} (h_c : LenIs c n_c) (m b n pp bb nc : Nat) (cp : Option Nat) (i j k : Int) (h hl : List UInt8) (H H1 G : Heap) (J : List V → List V) (t : List V) :
    tellCode Tryz.prog Y6 (m + 3) 21 [1, 7, 9] (m + 3) paB2 ⟨normL 54 (paK2.zip (paV2 (.slice b 0 n cp) bb n i)) t, H⟩ [tv 21 33 true, tp 21 34 (.ptr b pp), (21, 35, .ldx (.agg [p, r, l, c])), (21, 37, .cax (.str h) H), tp 21 38 (.str hl), (21, 39, .cax (ws hl) H1), (21, 0, .loop 54 paK3 (.exit 4) (paK3.zip (paV3 (.slice b 0 n cp) bb n i c nc k)) J G), tp 21 52 (i64 j)] paK2 =
      (some (E.normal, (54, ([(V.ptr bb 0), (V.slice b 0 n cp), (i64 n), (i64 j)], (G, [(Ob2.bin Go.BinOp.lss 3 (i64 i) (i64 n) (V.bool true)), (Ob2.iadr 36 b 0 n cp (i64 i) (V.ptr b pp)), (Ob2.ldx 32 H (Go.Operand.tmp 34) (V.ptr b pp) (V.agg [p, r, l, c])), (Ob2.cax 16 [(V.agg [p, r, l, c])] H (V.str h) H), (Ob2.bin Go.BinOp.add 9 (V.str h) (V.str [10]) (V.str hl)), (Ob2.cax 44 [(V.ptr bb 0), (V.str hl)] H (V.tup [(i64 (hl.length)), V.niliface]) H1), (Ob2.loop (((m+1)+1)+1) [1, 7, 9] paB3 54 [3, 30, 31, 32, 41, 42, 43] [(V.ptr bb 0), (V.slice b 0 n cp), (i64 n), (i64 i), c, (i64 n_c), (i64 0)] H1 (E.exit 4) [(3, (V.ptr bb 0)), (30, (V.slice b 0 n cp)), (31, (i64 n)), (32, (i64 i)), (41, c), (42, (i64 nc)), (43, (i64 k))] J G), (Ob2.bin Go.BinOp.add 3 (i64 i) (i64 1) (i64 j))]))))) := by rcases h_p with ⟨rfl, rfl⟩ | ⟨b_p, c_p, rfl⟩ <;> rcases h_r with ⟨rfl, rfl⟩ | ⟨b_r, c_r, rfl⟩ <;> rcases h_l with ⟨rfl, rfl⟩ | ⟨b_l, c_l, rfl⟩ <;> rcases h_c with ⟨rfl, rfl⟩ | ⟨b_c, c_c, rfl⟩ <;> kernel_rfl
theorem pa_out3 {sf : V} {n_sf : Nat} (h_sf : LenIs sf n_sf) {c : V} {n_c : Nat} (h_c : LenIs c n_c) (m bb n nc : Nat) (i k : Int) (H : Heap) (t : List V) :
    tellCode Tryz.prog Y6 (m + 3) 21 [1, 7, 9] (m + 3) paB3 ⟨normL 54 (paK3.zip (paV3 sf bb n i c nc k)) t, H⟩ [tv 21 44 false] paK3 =
      (some ((E.exit 4), (54, ([(V.ptr bb 0), sf, (i64 n), (i64 i), c, (i64 nc), (i64 k)], (H, [(Ob2.bin Go.BinOp.lss 3 (i64 k) (i64 nc) (V.bool false))]))))) := by rcases h_sf with ⟨rfl, rfl⟩ | ⟨b_sf, c_sf, rfl⟩ <;> rcases h_c with ⟨rfl, rfl⟩ | ⟨b_c, c_c, rfl⟩ <;> kernel_rfl
theorem pa_go3 {sf : V} {n_sf : Nat} (h_sf : LenIs sf n_sf) (m b nc pp bb n : Nat) (cp : Option Nat) (i k j op a : Int) (x xl : List UInt8) (H H1 : Heap) (t : List V) :
    tellCode Tryz.prog Y6 (m + 3) 21 [1, 7, 9] (m + 3) paB3 ⟨normL 54 (paK3.zip (paV3 sf bb n i (.slice b 0 nc cp) nc k)) t, H⟩ [tv 21 44 true, tp 21 45 (.ptr b pp), (21, 46, .ldx (insA op a)), tp 21 48 (.str x), tp 21 49 (.str xl), (21, 50, .cax (ws xl) H1), tp 21 51 (i64 j)] paK3 =
      (some (E.normal, (54, ([(V.ptr bb 0), sf, (i64 n), (i64 i), (V.slice b 0 nc cp), (i64 nc), (i64 j)], (H1, [(Ob2.bin Go.BinOp.lss 3 (i64 k) (i64 nc) (V.bool true)), (Ob2.iadr 30 b 0 nc cp (i64 k) (V.ptr b pp)), (Ob2.ldx 23 H (Go.Operand.tmp 45) (V.ptr b pp) (V.agg [(i64 op), (i64 a)])), (Ob2.rd 10 [(V.agg [(i64 op), (i64 a)])] (V.str x)), (Ob2.bin Go.BinOp.add 9 (V.str x) (V.str [10]) (V.str xl)), (Ob2.cax 44 [(V.ptr bb 0), (V.str xl)] H (V.tup [(i64 (xl.length)), V.niliface]) H1), (Ob2.bin Go.BinOp.add 3 (i64 k) (i64 1) (i64 j))]))))) := by rcases h_sf with ⟨rfl, rfl⟩ | ⟨b_sf, c_sf, rfl⟩ <;> kernel_rfl
/-! ### The text -/

def constL (c : List UInt8) : List UInt8 := sConst ++ [32] ++ valR c ++ [10]
def lineL (x : Int × Int) : List UInt8 := lineA x.1 x.2 ++ [10]
def fnL (f : Fn) : List UInt8 := headP f.p f.r f.l ++ [10] ++ f.c.flatMap lineL
def printS (s : Sc) : List UInt8 := s.cs.flatMap constL ++ s.fs.flatMap fnL

theorem flatMap_len {α : Type} {g : α → List UInt8} {B : Nat} : ∀ l : List α, (∀ x ∈ l, (g x).length ≤ B) → (l.flatMap g).length ≤ B * l.length
  | [], _ => by simp
  | x :: l, h => by
    have h1 := h x (by simp)
    have h2 := flatMap_len l (fun y hy => h y (List.mem_cons_of_mem _ hy))
    simp only [List.flatMap_cons, List.length_append, List.length_cons, Nat.mul_add, Nat.mul_one]
    omega
theorem take_len {α : Type} {g : α → List UInt8} {B n : Nat} {l : List α} (h : ∀ x ∈ l, (g x).length ≤ B) (hn : l.length ≤ n) (i : Nat) : ((l.take i).flatMap g).length ≤ B * n := by
  have h1 := flatMap_len (l.take i) (fun x hx => h x (List.mem_of_mem_take hx))
  have h2 : (l.take i).length ≤ n := by rw [List.length_take]; omega
  exact Nat.le_trans h1 (Nat.mul_le_mul_left B h2)
theorem constL_len {c : List UInt8} (h : c.length ≤ 256) : (constL c).length ≤ 522 := by
  have := hexS_length c
  simp only [constL, valR, List.length_append, List.length_cons, List.length_nil]
  omega
theorem lineA_len (op a : Int) : (lineA op a).length ≤ 38 := by
  have l1 := nameA_len op
  have l2 := itoaF_len a
  unfold lineA
  split
  · simp only [List.length_append, List.length_cons, List.length_nil]; omega
  · split
    · simp
    · omega
theorem lineL_len (x : Int × Int) : (lineL x).length ≤ 39 := by
  have := lineA_len x.1 x.2
  simp only [lineL, List.length_append, List.length_cons, List.length_nil]
  omega
theorem headP_len (a b c : List Int) : (headP a b c).length ≤ 6 * (a.length + b.length + c.length + 3) := by
  unfold headP
  cases e1 : headW a with
  | none => simp
  | some x =>
    cases e2 : headW b with
    | none => simp
    | some y =>
      cases e3 : headW c with
      | none => simp
      | some z =>
        obtain ⟨lx, bx⟩ := headW_len _ _ e1
        obtain ⟨ly, by'⟩ := headW_len _ _ e2
        obtain ⟨lz, bz⟩ := headW_len _ _ e3
        simp only
        refine Nat.le_trans (join_len _ ?_) (by simp; omega)
        intro u hu
        simp only [List.mem_append, List.mem_singleton] at hu
        rcases hu with ((((rfl | hu) | rfl) | hu) | rfl) | hu
        · decide
        · exact bx u hu
        · decide
        · exact by' u hu
        · decide
        · exact bz u hu
theorem fnL_len {f : Fn} (hp : f.p.length ≤ 8) (hr : f.r.length ≤ 8) (hl : f.l.length ≤ 16) (hc : f.c.length ≤ 256) : (fnL f).length ≤ 11000 := by
  have h1 := headP_len f.p f.r f.l
  have h2 := flatMap_len f.c (fun x _ => lineL_len x)
  simp only [fnL, List.length_append, List.length_cons, List.length_nil]
  omega

structure Sc.ok (s : Sc) : Prop where
  cs : s.cs.length ≤ 32
  f1 : 1 ≤ s.fs.length
  fs : s.fs.length ≤ 16
  str : ∀ c ∈ s.cs, c.length ≤ 256
  fn : ∀ f ∈ s.fs, f.p.length ≤ 8 ∧ f.r.length ≤ 8 ∧ f.l.length ≤ 16 ∧ f.c.length ≤ 256
theorem rightS_ok {s : Sc} (h : rightS s = true) : s.ok := by
  simp only [rightS, Bool.and_eq_true, decide_eq_true_eq, List.all_eq_true] at h
  obtain ⟨h1, h2, h3, h4, h5⟩ := h
  refine ⟨h1, h2, h3, h4, fun f hf => ?_⟩
  have := h5 f hf
  rw [rightF_eq] at this
  simp only [Bool.and_eq_true, decide_eq_true_eq] at this
  obtain ⟨a, b, c, d, _⟩ := this
  exact ⟨a, b, by omega, d⟩

/-! ### Promises -/

theorem up6 {f : FuncId} (h1 : memN f [94, 71] = false) (h2 : memN f [45] = false) {args : List V} {h : Heap} {v : V} {h' : Heap} (hr : (Ob2.cax f args h v h').ok Tryz.prog Y4) : (Ob2.cax f args h v h').ok Tryz.prog Y6 :=
  okOld (P := Tryz.prog) (X := Y5) (n := NF) (fs := [45]) h2 (okOld (P := Tryz.prog) (X := Y4) (n := NF) (fs := [94, 71]) h1 hr)
theorem ok45 {args : List V} {h : Heap} {v : V} {h' : Heap} (hr : callN Tryz.prog Y5 NF 45 args h = some (v, h')) : (Ob2.cax 45 args h v h').ok Tryz.prog Y6 := okRun (P := Tryz.prog) (X := Y5) (n := NF) (fs := [45]) rfl hr
theorem okHead {X : Ext} (hX : X 16 = some (hdG headP)) {H : Heap} {v : List V} {f : Fn} (hv : FnAt H v f) (hs : f.small) : (Ob2.cax 16 [.agg v] H (.str (headP f.p f.r f.l)) H).ok Tryz.prog X := by
  refine ⟨_, hX, ?_⟩
  obtain ⟨vp, vr, vl, vc, rfl, ap, ar, al, ac⟩ := hv.ex
  have dg : ∀ {v : V} {l : List Int}, IntsAt H v l → l.length ≤ 1048576 → ∃ o, digI H v = some o ∧ ints o = l := by
    intro v l h hl
    rcases h with ⟨rfl, rfl⟩ | ⟨b, cp, ro, rfl, hg⟩
    · exact ⟨none, rfl, rfl⟩
    · exact ⟨some l, by simp [digI, hg, intsOf_map, hl], rfl⟩
  obtain ⟨o1, e1, f1⟩ := dg ap hs.p
  obtain ⟨o2, e2, f2⟩ := dg ar hs.r
  obtain ⟨o3, e3, f3⟩ := dg al hs.l
  obtain ⟨o4, e4⟩ : ∃ o, okD vc = some o := by
    rcases ac with ⟨rfl, _⟩ | ⟨b, cp, ro, rfl, _⟩
    · exact ⟨_, rfl⟩
    · exact ⟨_, rfl⟩
  simp only [hdG, e1, e2, e3, e4, f1, f2, f3]
theorem okLine {X : Ext} (hX : X 10 = some (fun args h => ((lineF 10).2 args).map (·, h))) {op a : Int} (h : In64 a) : (Ob2.rd 10 [insA op a] (.str (lineA op a))).ok Tryz.prog X := by
  refine ok_frd (r := (lineF 10).2) hX ?_ (notup1 (fun l h => by cases h))
  show (if In64 a then some (V.str (lineA op a)) else none) = _
  rw [if_pos h]

noncomputable abbrev paEx (b : Code) : St → Option (E × St) := exec Tryz.prog (callN Tryz.prog Y6 2097151) [1, 7, 9] 2097151 b

theorem kbelow {G h : Heap} (hk : KeepK (Below G) G h) : ∀ b x, G.get b = some x → h.get b = some x := fun b x hx => hk.row (Heap.get_lt hx) hx

/-- What is written keeps what was there. -/
theorem ws6 {G H : Heap} {bb : Id} {txt : List UInt8} (s : List UInt8) (hk : KeepK (Below G) G H) (h : BldAt (Below G) H bb txt) (hsz : txt.length + s.length ≤ 1099511627776) :
    ∃ H', (Ob2.cax 44 [.ptr bb 0, .str s] H (ws s) H').ok Tryz.prog Y6 ∧ KeepK (Below G) G H' ∧ BldAt (Below G) H' bb (txt ++ s) := by
  obtain ⟨H', r, k, b⟩ := ws_law 2097149 s hk h hsz
  exact ⟨H', up6 rfl rfl (ok4 (f := 44) rfl r), k, b⟩

set_option maxHeartbeats 1000000 in
theorem pa_round1 {G : Heap} {sf : V} {b bb : Id} {cp : Option Nat} {ro : Bool} {cs : List (List UInt8)} (hn : cs.length ≤ 1048576) (hg : G.get b = some (.cells ro 9 (cs.map V.str))) {i : Nat} {c : List UInt8} (hc : cs[i]? = some c) (hl : c.length ≤ 256) {h : Heap} {txt : List UInt8} (hk : KeepK (Below G) G h) (hb : BldAt (Below G) h bb txt) (hsz : txt.length ≤ 1048576) :
    ∃ h', KeepK (Below G) G h' ∧ BldAt (Below G) h' bb (txt ++ constL c) ∧ Goes (paEx paB1) 54 paK1 (paV1 (.slice b 0 cs.length cp) sf bb cs.length i) h .normal paK1 (paV1 (.slice b 0 cs.length cp) sf bb cs.length (i + 1 : Nat)) h' := by
  have hi := lt_of_get hc
  have kV : Keeps h (cV h c) := Keeps.alloc h _
  obtain ⟨H1, r1, k1⟩ := vp_law c hl (H := cV h c) (bs := h.next) (ro := false) (Heap.get_alloc_same _ _)
  have kP : Keeps H1 (cP H1 (valR c)) := Keeps.alloc H1 _
  have kA := (kV.trans k1).trans kP
  have hq : (valR c).length ≤ 600 := by
    have := constL_len hl
    simp only [constL, List.length_append] at this
    omega
  have oj : (Ob2.cax 57 [.slice H1.next 0 2 (some 2), .str [32]] (cP H1 (valR c)) (.str (sConst ++ [32] ++ valR c)) (cP H1 (valR c))).ok Tryz.prog Y6 := by
    refine ⟨joinG, rfl, ?_⟩
    have hg2 : (cP H1 (valR c)).get H1.next = some (.cells false 9 [.str sConst, .str (valR c)]) := Heap.get_alloc_same _ _
    have e : Lib.join [sConst, valR c] [32] = sConst ++ [32] ++ valR c := by simp [Lib.join]
    simp only [joinG, hg2]
    simp only [List.drop_zero, List.take_of_length_le (show [V.str sConst, .str (valR c)].length ≤ 2 from Nat.le_refl _), strsOf, Option.map_some, e]
    rw [if_pos ⟨rfl, by decide, by decide, by simp only [List.length_append, List.length_cons, List.length_nil]; omega⟩]
  obtain ⟨H2, o2, k2, b2⟩ := ws6 (sConst ++ [32] ++ valR c ++ [10]) (hk.keeps kA) (hb.more kA fun b _ hn => hn) (by simp only [List.length_append, List.length_cons, List.length_nil]; omega)
  exact ⟨H2, k2, b2, goes_tell (fun t => pa_go1 2097148 b cs.length i bb cp sf i ((i + 1 : Nat) : Int) c (valR c) _ _ h H1 H2 t) (obs2_cons (okIlt (by simp; omega)) (obs2_cons (okIb b cs.length i cp hi) (obs2_cons (okLdx agg9 (kbelow hk _ _ hg) (by simp [hc])) (obs2_cons (up6 rfl rfl (ok4 (f := 46) rfl (run_heap (tx_run0 2097149 c h) obs2_nil))) (obs2_cons (ok45 r1) (obs2_cons (oj) (obs2_cons (okCatS (by simp only [List.length_append, List.length_cons, List.length_nil]; omega) rfl) (obs2_cons (o2) (obs2_cons (okInc i (by omega)) obs2_nil)))))))))⟩

set_option maxHeartbeats 1000000 in
theorem pa_round2 {G : Heap} {b bb : Id} {cp : Option Nat} {ro : Bool} {row : List V} {fs : List Fn} (hn : fs.length ≤ 1048576) (hg : G.get b = some (.cells ro 32 row)) (hlen : row.length = fs.length * 4) {i : Nat} {f : Fn} (hf : fs[i]? = some f) (hat : FnAt G ((row.drop (i * 4)).take 4) f) (hs : f.small) (hw : ∀ x ∈ f.c, In64 x.2) (hL : f.p.length ≤ 8 ∧ f.r.length ≤ 8 ∧ f.l.length ≤ 16 ∧ f.c.length ≤ 256) {h : Heap} {txt : List UInt8} (hk : KeepK (Below G) G h) (hb : BldAt (Below G) h bb txt) (hsz : txt.length ≤ 1048576) :
    ∃ h', KeepK (Below G) G h' ∧ BldAt (Below G) h' bb (txt ++ fnL f) ∧ Goes (paEx paB2) 54 paK2 (paV2 (.slice b 0 fs.length cp) bb fs.length i) h .normal paK2 (paV2 (.slice b 0 fs.length cp) bb fs.length (i + 1 : Nat)) h' := by
  have hi := lt_of_get hf
  have hath := hat.mono (kbelow hk)
  obtain ⟨vp, vr, vl, vc, hrow, ap, ar, al, ac⟩ := hat.ex
  have hh := headP_len f.p f.r f.l
  obtain ⟨H1, o1, k1, b1⟩ := ws6 (headP f.p f.r f.l ++ [10]) hk hb (by simp only [List.length_append, List.length_cons, List.length_nil]; omega)
  have lsf : LenIs (.slice b 0 fs.length cp) fs.length := .inr ⟨b, cp, rfl⟩
  have bsz : ∀ k, ((f.c.take k).flatMap lineL).length ≤ 39 * 256 := fun k => take_len (fun x _ => lineL_len x) hL.2.2.2 k
  obtain ⟨ks', vs', h', ⟨rfl, rfl, k3, b3⟩, g⟩ := loop_leave (ex := paEx paB3) (N := 54) (ks := paK3) (n := f.c.length) (fun k vs h => vs = paV3 (.slice b 0 fs.length cp) bb fs.length i vc f.c.length k ∧ KeepK (Below G) G h ∧ BldAt (Below G) h bb (txt ++ (headP f.p f.r f.l ++ [10]) ++ (f.c.take k).flatMap lineL)) (fun k vs h2 hi2 ⟨e, hk2, hb2⟩ => by
      subst e
      obtain ⟨x, hx⟩ := get_of_lt hi2
      rcases ac with ⟨_, h0⟩ | ⟨bc, cc, roc, rfl, hgc⟩
      · rw [h0] at hx; simp at hx
      have hla := lineA_len x.1 x.2
      obtain ⟨H2, o2, k2, b2⟩ := ws6 (lineA x.1 x.2 ++ [10]) hk2 hb2 (by have := bsz k; simp only [List.length_append, List.length_cons, List.length_nil]; omega)
      have e1 : f.c.take (k + 1) = f.c.take k ++ [x] := by rw [List.take_add_one, hx]; rfl
      refine ⟨_, H2, ⟨rfl, k2, ?_⟩, goes_tell (fun t => pa_go3 lsf 2097148 bc f.c.length (k * 2) bb fs.length cc i k ((k + 1 : Nat) : Int) x.1 x.2 _ _ h2 H2 t) (obs2_cons (okIlt (by simp; omega)) (obs2_cons (okIaC bc f.c.length k cc hi2) (obs2_cons (okLdC (kbelow hk2 _ _ hgc) hx) (obs2_cons (okLine rfl (hw x (List.mem_of_getElem? hx))) (obs2_cons (okCatS (by simp only [List.length_cons, List.length_nil]; omega) rfl) (obs2_cons (o2) (obs2_cons (okInc k (by omega)) obs2_nil)))))))⟩
      rw [e1, List.flatMap_append]
      simpa [lineL] using b2) (vs0 := paV3 (.slice b 0 fs.length cp) bb fs.length i vc f.c.length 0) (h0 := H1) ⟨rfl, k1, by simpa using b1⟩ (e := .exit 4) (by decide) (Q := fun ks' vs' h' => ks' = paK3 ∧ vs' = paV3 (.slice b 0 fs.length cp) bb fs.length i vc f.c.length f.c.length ∧ KeepK (Below G) G h' ∧ BldAt (Below G) h' bb (txt ++ (headP f.p f.r f.l ++ [10]) ++ (f.c.take f.c.length).flatMap lineL)) (fun vs h2 ⟨e, hk2, hb2⟩ => by
      subst e
      exact ⟨_, _, _, ⟨rfl, rfl, hk2, hb2⟩, goes_tell (fun t => pa_out3 lsf ac.len 2097148 bb fs.length f.c.length i f.c.length h2 t) (obs2_cons (okIlt (by simp)) obs2_nil)⟩) (fuel := 2097151) (by omega)
  have o3 : (Ob2.ldx 32 h (.tmp 34) (.ptr b (i * 4)) (.agg [vp, vr, vl, vc])).ok Tryz.prog Y6 := by
    rw [← hrow]
    exact okLdF (kbelow hk _ _ hg) hlen hi
  rw [hrow] at hath
  refine ⟨h', k3, ?_, goes_tell (fun t => pa_go2 ap.len ar.len al.len ac.len 2097148 b fs.length (i * 4) bb f.c.length cp i ((i + 1 : Nat) : Int) f.c.length _ _ h H1 h' _ t) (obs2_cons (okIlt (by simp; omega)) (obs2_cons (okIaF b fs.length i cp hi) (obs2_cons (o3) (obs2_cons (okHead rfl hath hs) (obs2_cons (okCatS (by simp only [List.length_cons, List.length_nil]; omega) rfl) (obs2_cons (o1) (obs2_cons (ok_goes g rfl) (obs2_cons (okInc i (by omega)) obs2_nil))))))))⟩
  simpa [fnL] using b3

set_option maxHeartbeats 1000000 in
/-- Print. -/
theorem print_run {H : Heap} {v : List V} {s : Sc} (hv : ScAt H v s) (hs : s.small) (hw : ∀ f ∈ s.fs, ∀ x ∈ f.c, In64 x.2) : ∃ H', callN Tryz.prog Y6 NF 21 [.agg v] H = some (.str (if rightS s then printS s else []), H') ∧ Keeps H H' := by
  obtain ⟨G, rr, kG⟩ := rightP_run hv hs
  have hvG : StrsAt G (v.getD 0 .junk) s.cs ∧ FnsAt G (v.getD 1 .junk) s.fs ∧ v = [v.getD 0 .junk, v.getD 1 .junk] := by
    obtain ⟨sc, sf, rfl, ac, af⟩ := hv.ex
    exact ⟨ac.mono kG.keep, af.mono kG.keep, rfl⟩
  obtain ⟨ac, af, ev⟩ := hvG
  generalize v.getD 0 .junk = sc at ac ev
  generalize v.getD 1 .junk = sf at af ev
  subst ev
  have lc := ac.len
  have lf := af.len
  have o1 := up6 (f := 42) rfl rfl (ok4 (f := 42) rfl rr)
  cases hr : rightS s with
  | false =>
    rw [hr] at o1
    exact ⟨G, run_heap (pa_no lc lf 2097148 H G) (obs2_cons (o1) obs2_nil), kG⟩
  | true =>
  rw [hr] at o1
  have ok := rightS_ok hr
  have kA : Keeps G (G.alloc blk75) := Keeps.alloc G _
  have b0 : BldAt (Below G) (G.alloc blk75) G.next [] := ⟨Nat.lt_irrefl _, .nilptr, .nilslice, Heap.get_alloc_same _ _, .inl rfl, .inl ⟨rfl, rfl⟩⟩
  have sz1 : ∀ i, ((s.cs.take i).flatMap constL).length ≤ 522 * 32 := fun i => take_len (fun x hx => constL_len (ok.str x hx)) ok.cs i
  have sz2 : ∀ i, ((s.fs.take i).flatMap fnL).length ≤ 11000 * 16 := fun i => take_len (fun f hf => fnL_len (ok.fn f hf).1 (ok.fn f hf).2.1 (ok.fn f hf).2.2.1 (ok.fn f hf).2.2.2) ok.fs i
  obtain ⟨ks1, vs1, G1, ⟨rfl, rfl, k1, b1⟩, g1⟩ := loop_leave (ex := paEx paB1) (N := 54) (ks := paK1) (n := s.cs.length) (fun i vs h => vs = paV1 sc sf G.next s.cs.length i ∧ KeepK (Below G) G h ∧ BldAt (Below G) h G.next ((s.cs.take i).flatMap constL)) (fun i vs h hi ⟨e, hk, hb⟩ => by
      subst e
      obtain ⟨c, hc⟩ := get_of_lt hi
      rcases ac with ⟨_, h0⟩ | ⟨b, cp, ro, rfl, hg⟩
      · rw [h0] at hc; simp at hc
      obtain ⟨h', k', b', g'⟩ := pa_round1 (sf := sf) (cp := cp) hs.cs hg hc (ok.str c (List.mem_of_getElem? hc)) hk hb (by have := sz1 i; omega)
      refine ⟨_, h', ⟨rfl, k', ?_⟩, g'⟩
      have e1 : s.cs.take (i + 1) = s.cs.take i ++ [c] := by rw [List.take_add_one, hc]; rfl
      rw [e1, List.flatMap_append]
      simpa using b') (vs0 := paV1 sc sf G.next s.cs.length 0) (h0 := G.alloc blk75) ⟨rfl, kA.k, by simpa using b0⟩ (e := .exit 0) (by decide) (Q := fun ks' vs' h' => ks' = paK1 ∧ vs' = paV1 sc sf G.next s.cs.length s.cs.length ∧ KeepK (Below G) G h' ∧ BldAt (Below G) h' G.next ((s.cs.take s.cs.length).flatMap constL)) (fun vs h ⟨e, hk, hb⟩ => by
      subst e
      exact ⟨_, _, _, ⟨rfl, rfl, hk, hb⟩, goes_tell (fun t => pa_out1 lc 2097148 G.next s.cs.length sf s.cs.length h t) (obs2_cons (okIlt (by simp)) obs2_nil)⟩) (fuel := 2097151) (by have := ok.cs; omega)
  obtain ⟨ks2, vs2, G2, ⟨rfl, rfl, k2, b2⟩, g2⟩ := loop_leave (ex := paEx paB2) (N := 54) (ks := paK2) (n := s.fs.length) (fun i vs h => vs = paV2 sf G.next s.fs.length i ∧ KeepK (Below G) G h ∧ BldAt (Below G) h G.next ((s.cs.take s.cs.length).flatMap constL ++ (s.fs.take i).flatMap fnL)) (fun i vs h hi ⟨e, hk, hb⟩ => by
      subst e
      obtain ⟨f, hf⟩ := get_of_lt hi
      rcases af with ⟨_, h0⟩ | ⟨b, cp, ro, row, rfl, hg, hlen, hat⟩
      · rw [h0] at hf; simp at hf
      have hm := List.mem_of_getElem? hf
      obtain ⟨h', k', b', g'⟩ := pa_round2 (cp := cp) hs.fs hg hlen hf (hat i f hf) (hs.fn f hm) (hw f hm) (ok.fn f hm) hk hb (by have := sz1 s.cs.length; have := sz2 i; rw [List.length_append]; omega)
      refine ⟨_, h', ⟨rfl, k', ?_⟩, g'⟩
      have e1 : s.fs.take (i + 1) = s.fs.take i ++ [f] := by rw [List.take_add_one, hf]; rfl
      rw [e1, List.flatMap_append]
      simpa using b') (vs0 := paV2 sf G.next s.fs.length 0) (h0 := G1) ⟨rfl, k1, by simpa using b1⟩ (e := .exit 2) (by decide) (Q := fun ks' vs' h' => ks' = paK2 ∧ vs' = paV2 sf G.next s.fs.length s.fs.length ∧ KeepK (Below G) G h' ∧ BldAt (Below G) h' G.next ((s.cs.take s.cs.length).flatMap constL ++ (s.fs.take s.fs.length).flatMap fnL)) (fun vs h ⟨e, hk, hb⟩ => by
      subst e
      exact ⟨_, _, _, ⟨rfl, rfl, hk, hb⟩, goes_tell (fun t => pa_out2 lf 2097148 G.next s.fs.length s.fs.length h t) (obs2_cons (okIlt (by simp)) obs2_nil)⟩) (fuel := 2097151) (by have := ok.fs; omega)
  have ep : (s.cs.take s.cs.length).flatMap constL ++ (s.fs.take s.fs.length).flatMap fnL = printS s := by simp [printS]
  rw [ep] at b2
  have hpos : 0 < (printS s).length := by
    obtain ⟨f, hf⟩ := get_of_lt (show 0 < s.fs.length from ok.f1)
    have : s.fs ≠ [] := fun h => by rw [h] at hf; simp at hf
    obtain ⟨f0, r0, e0⟩ := List.exists_cons_of_ne_nil this
    simp only [printS, e0, List.flatMap_cons, fnL, List.length_append, List.length_cons, List.length_nil]
    omega
  obtain ⟨G3, o3, k3⟩ := str_law (X := Y6) rfl k2 b2 hpos (by
    rw [← ep, List.length_append]
    have := sz1 s.cs.length
    have := sz2 s.fs.length
    omega)
  exact ⟨G3, run_heap (pa_yes lc lf 2097148 s.cs.length s.fs.length s.cs.length s.fs.length (printS s) H G G1 G2 G3 _ _) (obs2_cons (o1) (obs2_cons (ok_goes g1 rfl) (obs2_cons (ok_goes g2 rfl) (obs2_cons (o3) obs2_nil)))), kG.trans k3.all⟩

end Go.AM

/-
  The law of parts: the run.
-/
set_option linter.unusedSectionVars false
set_option linter.unusedVariables false
set_option linter.unusedSimpArgs false
set_option maxRecDepth 100000
namespace Go.AM
open Go.Proofs Go.RowKit

noncomputable def Y7 : Ext := runExt Tryz.prog Y6 NF [21]
theorem Y7_ok : ExtOk Tryz.prog Y7 := runExt_ok mixed Y6_ok Y6_mono NF _
theorem Y7_mono : ExtMono Y7 := runExt_mono Y6_mono NF _

noncomputable abbrev apB1 : Code := Code.go (bodyOf Tryz.prog 7) [1, 1, 1, 1, 0, 1, 0, 0]
noncomputable abbrev apB2 : Code := Code.go (bodyOf Tryz.prog 7) [1, 1, 1, 1, 1, 1, 1, 0, 1, 0, 0]
noncomputable abbrev apB3 : Code := Code.go (bodyOf Tryz.prog 7) [1, 1, 1, 1, 1, 1, 1, 0, 1, 0, 0, 1, 0, 0, 1, 0, 1, 0, 0]
abbrev apK1 : List Nat := [1, 2, 3, 4, 5]
abbrev apV1 (sc sf : V) (T : List UInt8) (at' i : Int) : List V := [.box [sc, sf], .bool false, .str T, i64 at', i64 i]
abbrev apK2 : List Nat := [1, 2, 6, 7]
abbrev apV2 (sc sf : V) (rest : List UInt8) (i : Int) : List V := [.box [sc, sf], .bool false, .str rest, i64 i]
abbrev apK3 : List Nat := [1, 2, 6, 7, 8, 9]
abbrev apV3 (sc sf : V) (rest : List UInt8) (i : Int) (l : List UInt8) (k : Int) : List V := [.box [sc, sf], .bool false, .str rest, i64 i, .str l, i64 k]

theorem ap_no {sc : V} {n_sc : Nat} (h_sc : LenIs sc n_sc) {sf : V} {n_sf : Nat} (h_sf : LenIs sf n_sf) (m : Nat) (vs : List V) (H H1 H2 H3 : Heap) :
    tellHeap Tryz.prog Y7 (m + 4) 7 [.agg [sc, sf]] H [(7, 11, .cax (.bool false) H1), (7, 14, .cax (.agg vs) H2), (7, 15, .cax (.str []) H3), tv 7 16 true] =
      (some ((V.bool true), (H3, [(Ob2.cax 23 [(V.agg [sc, sf])] H (V.bool false) H1), (Ob2.cax 18 [(V.agg [sc, sf])] H1 (V.agg vs) H2), (Ob2.cax 21 [(V.agg vs)] H2 (V.str []) H3), (Ob2.bin Go.BinOp.eql 9 (V.str []) (V.str []) (V.bool true))]))) := by rcases h_sc with ⟨rfl, rfl⟩ | ⟨b_sc, c_sc, rfl⟩ <;> rcases h_sf with ⟨rfl, rfl⟩ | ⟨b_sf, c_sf, rfl⟩ <;> kernel_rfl
theorem ap_yes {sc : V} {n_sc : Nat} (h_sc : LenIs sc n_sc) {sf : V} {n_sf : Nat} (h_sf : LenIs sf n_sf) (m : Nat) (vs : List V) (T rest rest2 : List UInt8) (at' i j : Int) (H H1 H2 H3 G1 G2 : Heap) (J J2 : List V → List V) :
    tellHeap Tryz.prog Y7 (m + 4) 7 [.agg [sc, sf]] H [(7, 11, .cax (.bool true) H1), (7, 21, .cax (.agg vs) H2), (7, 22, .cax (.str T) H3), (7, 0, .loop 107 apK1 (.exit 0) (apK1.zip (apV1 sc sf T at' i)) J G1), tv 7 43 false, tp 7 46 (.str rest), (7, 0, .loop 107 apK2 (.exit 2) (apK2.zip (apV2 sc sf rest2 j)) J2 G2), tv 7 103 true] =
      (some ((V.bool true), (G2, [(Ob2.cax 23 [(V.agg [sc, sf])] H (V.bool true) H1), (Ob2.cax 18 [(V.agg [sc, sf])] H1 (V.agg vs) H2), (Ob2.cax 21 [(V.agg vs)] H2 (V.str T) H3), (Ob2.loop (((m+1)+1)+1) [1] apB1 107 [1, 2, 3, 4, 5] [(V.box [sc, sf]), (V.bool false), (V.str T), (i64 0), (i64 0)] H3 (E.exit 0) [(1, (V.box [sc, sf])), (2, (V.bool false)), (3, (V.str T)), (4, (i64 at')), (5, (i64 i))] J G1), (Ob2.bin Go.BinOp.gtr 3 (i64 at') (i64 (T.length)) (V.bool false)), (Ob2.slc 9 (V.str T) (some (i64 at')) none none (V.str rest)), (Ob2.loop (((m+1)+1)+1) [1] apB2 107 [1, 2, 6, 7] [(V.box [sc, sf]), (V.bool false), (V.str rest), (i64 0)] G1 (E.exit 2) [(1, (V.box [sc, sf])), (2, (V.bool false)), (6, (V.str rest2)), (7, (i64 j))] J2 G2), (Ob2.bin Go.BinOp.eql 9 (V.str rest2) (V.str []) (V.bool true))]))) := by rcases h_sc with ⟨rfl, rfl⟩ | ⟨b_sc, c_sc, rfl⟩ <;> rcases h_sf with ⟨rfl, rfl⟩ | ⟨b_sf, c_sf, rfl⟩ <;> kernel_rfl
theorem ap_out1 {sc : V} {n_sc : Nat} (h_sc : LenIs sc n_sc) (m : Nat) (sf : V) (T : List UInt8) (at' i : Int) (H : Heap) (t : List V) :
    tellCode Tryz.prog Y7 (m + 3) 7 [1] (m + 3) apB1 ⟨normL 107 (apK1.zip (apV1 sc sf T at' i)) t, H⟩ [tv 7 27 false] apK1 =
      (some ((E.exit 0), (107, ([(V.box [sc, sf]), (V.bool false), (V.str T), (i64 at'), (i64 i)], (H, [(Ob2.bin Go.BinOp.lss 3 (i64 i) (i64 n_sc) (V.bool false))]))))) := by rcases h_sc with ⟨rfl, rfl⟩ | ⟨b_sc, c_sc, rfl⟩ <;> kernel_rfl
theorem ap_go1 (m b n pp : Nat) (cp : Option Nat) (sf : V) (T c : List UInt8) (at' a1 a2 a3 i j : Int) (H : Heap) (t : List V) :
    tellCode Tryz.prog Y7 (m + 3) 7 [1] (m + 3) apB1 ⟨normL 107 (apK1.zip (apV1 (.slice b 0 n cp) sf T at' i)) t, H⟩ [tv 7 27 true, tp 7 31 (i64 a1), tp 7 35 (.ptr b pp), (7, 36, .ldx (.str c)), tp 7 38 (i64 a2), tp 7 39 (i64 a3), tp 7 29 (i64 j)] apK1 =
      (some (E.normal, (107, ([(V.box [(V.slice b 0 n cp), sf]), (V.bool false), (V.str T), (i64 a3), (i64 j)], (H, [(Ob2.bin Go.BinOp.lss 3 (i64 i) (i64 n) (V.bool true)), (Ob2.bin Go.BinOp.add 3 (i64 at') (i64 10) (i64 a1)), (Ob2.iadr 37 b 0 n cp (i64 i) (V.ptr b pp)), (Ob2.ldx 9 H (Go.Operand.tmp 35) (V.ptr b pp) (V.str c)), (Ob2.bin Go.BinOp.mul 3 (i64 2) (i64 (c.length)) (i64 a2)), (Ob2.bin Go.BinOp.add 3 (i64 a1) (i64 a2) (i64 a3)), (Ob2.bin Go.BinOp.add 3 (i64 i) (i64 1) (i64 j))]))))) := by kernel_rfl
theorem ap_out2 {sf : V} {n_sf : Nat} (h_sf : LenIs sf n_sf) (m : Nat) (sc : V) (rest : List UInt8) (i : Int) (H : Heap) (t : List V) :
    tellCode Tryz.prog Y7 (m + 3) 7 [1] (m + 3) apB2 ⟨normL 107 (apK2.zip (apV2 sc sf rest i)) t, H⟩ [tv 7 51 false] apK2 =
      (some ((E.exit 2), (107, ([(V.box [sc, sf]), (V.bool false), (V.str rest), (i64 i)], (H, [(Ob2.bin Go.BinOp.lss 3 (i64 i) (i64 n_sf) (V.bool false))]))))) := by rcases h_sf with ⟨rfl, rfl⟩ | ⟨b_sf, c_sf, rfl⟩ <;> kernel_rfl
theorem ap_go2 (m b n pp : Nat) (cp : Option Nat) (sc : V) (vs : List V) (rest h hl l l2 rest2 : List UInt8) (i j k : Int) (H G : Heap) (J : List V → List V) (t : List V) :
    tellCode Tryz.prog Y7 (m + 3) 7 [1] (m + 3) apB2 ⟨normL 107 (apK2.zip (apV2 sc (.slice b 0 n cp) rest i)) t, H⟩ [tv 7 51 true, tp 7 57 (.ptr b pp), (7, 58, .ldx (.agg vs)), (7, 59, .cax (.str h) H), tp 7 60 (.str hl), (7, 0, .loop 107 apK3 (.exit 4) (apK3.zip (apV3 sc (.slice b 0 n cp) rest i l k)) J G), tv 7 89 false, tp 7 94 (.str l2), tv 7 96 false, tp 7 101 (.str rest2), tp 7 53 (i64 j)] apK2 =
      (some (E.normal, (107, ([(V.box [sc, (V.slice b 0 n cp)]), (V.bool false), (V.str rest2), (i64 j)], (G, [(Ob2.bin Go.BinOp.lss 3 (i64 i) (i64 n) (V.bool true)), (Ob2.iadr 36 b 0 n cp (i64 i) (V.ptr b pp)), (Ob2.ldx 32 H (Go.Operand.tmp 57) (V.ptr b pp) (V.agg vs)), (Ob2.cax 16 [(V.agg vs)] H (V.str h) H), (Ob2.bin Go.BinOp.add 9 (V.str h) (V.str [10]) (V.str hl)), (Ob2.loop (((m+1)+1)+1) [1] apB3 107 [1, 2, 6, 7, 8, 9] [(V.box [sc, (V.slice b 0 n cp)]), (V.bool false), (V.str rest), (i64 i), (V.str hl), (i64 0)] H (E.exit 4) [(1, (V.box [sc, (V.slice b 0 n cp)])), (2, (V.bool false)), (6, (V.str rest)), (7, (i64 i)), (8, (V.str l)), (9, (i64 k))] J G), (Ob2.bin Go.BinOp.gtr 3 (i64 (l.length)) (i64 (rest.length)) (V.bool false)), (Ob2.slc 9 (V.str rest) none (some (i64 (l.length))) none (V.str l2)), (Ob2.bin Go.BinOp.neq 9 (V.str l2) (V.str l) (V.bool false)), (Ob2.slc 9 (V.str rest) (some (i64 (l.length))) none none (V.str rest2)), (Ob2.bin Go.BinOp.add 3 (i64 i) (i64 1) (i64 j))]))))) := by kernel_rfl
theorem ap_out3 {c : V} {n_c : Nat} (h_c : LenIs c n_c) (m b n pp : Nat) (cp : Option Nat) (sc : V) (rest l : List UInt8) (i k : Int) (H : Heap) (t : List V) :
    tellCode Tryz.prog Y7 (m + 3) 7 [1] (m + 3) apB3 ⟨normL 107 (apK3.zip (apV3 sc (.slice b 0 n cp) rest i l k)) t, H⟩ [tp 7 65 (.ptr b pp), (7, 67, .ldx c), tv 7 69 false] apK3 =
      (some ((E.exit 4), (107, ([(V.box [sc, (V.slice b 0 n cp)]), (V.bool false), (V.str rest), (i64 i), (V.str l), (i64 k)], (H, [(Ob2.iadr 36 b 0 n cp (i64 i) (V.ptr b pp)), (Ob2.ldx 30 H (Go.Operand.tmp 66) (V.ptr b (((pp+1)+1)+1)) c), (Ob2.bin Go.BinOp.lss 3 (i64 k) (i64 n_c) (V.bool false))]))))) := by rcases h_c with ⟨rfl, rfl⟩ | ⟨b_c, c_c, rfl⟩ <;> kernel_rfl
theorem ap_go3 (m b n pp b2 n2 pp2 : Nat) (cp cp2 : Option Nat) (sc : V) (rest l x y z : List UInt8) (i k j op a : Int) (H : Heap) (t : List V) :
    tellCode Tryz.prog Y7 (m + 3) 7 [1] (m + 3) apB3 ⟨normL 107 (apK3.zip (apV3 sc (.slice b 0 n cp) rest i l k)) t, H⟩ [tp 7 65 (.ptr b pp), (7, 67, .ldx (.slice b2 0 n2 cp2)), tv 7 69 true, tp 7 76 (.ptr b pp), (7, 78, .ldx (.slice b2 0 n2 cp2)), tp 7 80 (.ptr b2 pp2), (7, 81, .ldx (insA op a)), tp 7 82 (.str x), tp 7 83 (.str y), tp 7 84 (.str z), tp 7 71 (i64 j)] apK3 =
      (some (E.normal, (107, ([(V.box [sc, (V.slice b 0 n cp)]), (V.bool false), (V.str rest), (i64 i), (V.str z), (i64 j)], (H, [(Ob2.iadr 36 b 0 n cp (i64 i) (V.ptr b pp)), (Ob2.ldx 30 H (Go.Operand.tmp 66) (V.ptr b (((pp+1)+1)+1)) (V.slice b2 0 n2 cp2)), (Ob2.bin Go.BinOp.lss 3 (i64 k) (i64 n2) (V.bool true)), (Ob2.iadr 36 b 0 n cp (i64 i) (V.ptr b pp)), (Ob2.ldx 30 H (Go.Operand.tmp 77) (V.ptr b (((pp+1)+1)+1)) (V.slice b2 0 n2 cp2)), (Ob2.iadr 30 b2 0 n2 cp2 (i64 k) (V.ptr b2 pp2)), (Ob2.ldx 23 H (Go.Operand.tmp 80) (V.ptr b2 pp2) (V.agg [(i64 op), (i64 a)])), (Ob2.rd 10 [(V.agg [(i64 op), (i64 a)])] (V.str x)), (Ob2.bin Go.BinOp.add 9 (V.str l) (V.str x) (V.str y)), (Ob2.bin Go.BinOp.add 9 (V.str y) (V.str [10]) (V.str z)), (Ob2.bin Go.BinOp.add 3 (i64 k) (i64 1) (i64 j))]))))) := by kernel_rfl
theorem up7 {f : FuncId} (h2 : memN f [21] = false) {args : List V} {h : Heap} {v : V} {h' : Heap} (hr : (Ob2.cax f args h v h').ok Tryz.prog Y6) : (Ob2.cax f args h v h').ok Tryz.prog Y7 := okOld (P := Tryz.prog) (X := Y6) (n := NF) (fs := [21]) h2 hr
theorem up4 {f : FuncId} (h2 : memN f [42, 18, 46, 44, 96] = false) {args : List V} {h : Heap} {v : V} {h' : Heap} (hr : (Ob2.cax f args h v h').ok Tryz.prog Y3) : (Ob2.cax f args h v h').ok Tryz.prog Y4 := okOld (P := Tryz.prog) (X := Y3) (n := NF) (fs := [42, 18, 46, 44, 96]) h2 hr
theorem ok21 {args : List V} {h : Heap} {v : V} {h' : Heap} (hr : callN Tryz.prog Y6 NF 21 args h = some (v, h')) : (Ob2.cax 21 args h v h').ok Tryz.prog Y7 := okRun (P := Tryz.prog) (X := Y6) (n := NF) (fs := [21]) rfl hr

theorem ScAt.mono {H H' : Heap} (hs : ∀ b x, H.get b = some x → H'.get b = some x) {v : List V} {s : Sc} (h : ScAt H v s) : ScAt H' v s := by
  obtain ⟨sc, sf, h1, h2, h3⟩ := h.ex
  exact ⟨sc, sf, h1, h2.mono hs, h3.mono hs⟩
theorem constL_eq (c : List UInt8) : (constL c).length = 10 + 2 * c.length := by
  have := hexS_length c
  simp only [constL, valR, List.length_append, List.length_cons, List.length_nil]
  omega
theorem agg30 : isAggT Tryz.prog 30 = some false := by kernel_rfl

noncomputable abbrev apEx (b : Code) : St → Option (E × St) := exec Tryz.prog (callN Tryz.prog Y7 2097151) [1] 2097151 b

set_option maxHeartbeats 1000000 in
theorem ap_round2 {G : Heap} {sc : V} {b : Id} {cp : Option Nat} {ro : Bool} {row : List V} {fs : List Fn} (hn : fs.length ≤ 1048576) (hg : G.get b = some (.cells ro 32 row)) (hlen : row.length = fs.length * 4) {i : Nat} {f : Fn} (hf : fs[i]? = some f) (hat : FnAt G ((row.drop (i * 4)).take 4) f) (hs : f.small) (hw : ∀ x ∈ f.c, In64 x.2) (hL : f.p.length ≤ 8 ∧ f.r.length ≤ 8 ∧ f.l.length ≤ 16 ∧ f.c.length ≤ 256) (rest : List UInt8) :
    Goes (apEx apB2) 107 apK2 (apV2 sc (.slice b 0 fs.length cp) (fnL f ++ rest) i) G .normal apK2 (apV2 sc (.slice b 0 fs.length cp) rest (i + 1 : Nat)) G := by
  have hi := lt_of_get hf
  have hh := headP_len f.p f.r f.l
  have bsz : ∀ k, ((f.c.take k).flatMap lineL).length ≤ 39 * 256 := fun k => take_len (fun x _ => lineL_len x) hL.2.2.2 k
  have hrow : ∃ vc, row[i * 4 + 1 + 1 + 1]? = some vc ∧ CodeAt G vc f.c := by
    obtain ⟨vp, vr, vl, vc, e, _, _, _, ac⟩ := hat.ex
    have e3 := congrArg (fun l : List V => l[3]?) e
    simp only [List.getElem?_take, List.getElem?_drop] at e3
    exact ⟨vc, by simpa using e3, ac⟩
  obtain ⟨vc, hvc, ac⟩ := hrow
  have oia := okIaF (X := Y7) b fs.length i cp hi
  have oc : ∀ x, (Ob2.ldx 30 G x (.ptr b (i * 4 + 1 + 1 + 1)) vc).ok Tryz.prog Y7 := fun x => okLdx agg30 hg hvc
  obtain ⟨ks', vs', h', ⟨rfl, rfl, rfl⟩, g⟩ := loop_leave (ex := apEx apB3) (N := 107) (ks := apK3) (n := f.c.length) (fun k vs h => vs = apV3 sc (.slice b 0 fs.length cp) (fnL f ++ rest) i (headP f.p f.r f.l ++ [10] ++ (f.c.take k).flatMap lineL) k ∧ h = G) (fun k vs h hk ⟨e, eh⟩ => by
      subst e eh
      obtain ⟨x, hx⟩ := get_of_lt hk
      rcases ac with ⟨_, h0⟩ | ⟨bc, cc, roc, rfl, hgc⟩
      · rw [h0] at hx; simp at hx
      have hla := lineA_len x.1 x.2
      have e1 : f.c.take (k + 1) = f.c.take k ++ [x] := by rw [List.take_add_one, hx]; rfl
      have e2 : headP f.p f.r f.l ++ [10] ++ (f.c.take (k + 1)).flatMap lineL = headP f.p f.r f.l ++ [10] ++ (f.c.take k).flatMap lineL ++ lineA x.1 x.2 ++ [10] := by
        rw [e1, List.flatMap_append]; simp [lineL]
      refine ⟨_, h, ⟨rfl, rfl⟩, ?_⟩
      rw [e2]
      exact goes_tell (fun t => ap_go3 2097148 b fs.length (i * 4) bc f.c.length (k * 2) cp cc sc _ _ _ _ _ i k ((k + 1 : Nat) : Int) x.1 x.2 h t) (obs2_cons (oia) (obs2_cons (oc _) (obs2_cons (okIlt (by simp; omega)) (obs2_cons (oia) (obs2_cons (oc _) (obs2_cons (okIaC bc f.c.length k cc hk) (obs2_cons (okLdC hgc hx) (obs2_cons (okLine rfl (hw x (List.mem_of_getElem? hx))) (obs2_cons (okCatS (by have := bsz k; simp only [List.length_append, List.length_cons, List.length_nil]; omega) rfl) (obs2_cons (okCatS (by have := bsz k; simp only [List.length_append, List.length_cons, List.length_nil]; omega) rfl) (obs2_cons (okInc k (by omega)) obs2_nil)))))))))))) (vs0 := apV3 sc (.slice b 0 fs.length cp) (fnL f ++ rest) i (headP f.p f.r f.l ++ [10]) 0) (h0 := G) ⟨by simp, rfl⟩ (e := .exit 4) (by decide) (Q := fun ks' vs' h' => ks' = apK3 ∧ vs' = apV3 sc (.slice b 0 fs.length cp) (fnL f ++ rest) i (fnL f) f.c.length ∧ h' = G) (fun vs h ⟨e, eh⟩ => by
      subst e eh
      have e3 : headP f.p f.r f.l ++ [10] ++ (f.c.take f.c.length).flatMap lineL = fnL f := by simp [fnL]
      rw [e3]
      exact ⟨_, _, _, ⟨rfl, rfl, rfl⟩, goes_tell (fun t => ap_out3 ac.len 2097148 b fs.length (i * 4) cp sc _ _ i f.c.length h t) (obs2_cons (oia) (obs2_cons (oc _) (obs2_cons (okIlt (by simp)) obs2_nil)))⟩) (fuel := 2097151) (by omega)
  exact goes_tell (fun t => ap_go2 2097148 b fs.length (i * 4) cp sc _ (fnL f ++ rest) (headP f.p f.r f.l) (headP f.p f.r f.l ++ [10]) (fnL f) (fnL f) rest i ((i + 1 : Nat) : Int) f.c.length h' h' _ t) (obs2_cons (okIlt (by simp; omega)) (obs2_cons (oia) (obs2_cons (okLdF hg hlen hi) (obs2_cons (up7 rfl (okHead rfl hat hs)) (obs2_cons (okCatS (by simp only [List.length_cons, List.length_nil]; omega) rfl) (obs2_cons (ok_goes g rfl) (obs2_cons (okIgt (decide_eq_false (by rw [List.length_append]; omega))) (obs2_cons (okSlTo _ _ _ (by simp) (by simp)) (obs2_cons (okSn (by simp)) (obs2_cons (okSlFrom _ _ _ (by simp) (by simp)) (obs2_cons (okInc i (by omega)) obs2_nil)))))))))))

set_option maxHeartbeats 1000000 in
theorem parts_run {H : Heap} {v : List V} {s : Sc} (hv : ScAt H v s) (hs : s.small) (hw : ∀ f ∈ s.fs, ∀ x ∈ f.c, In64 x.2) : ∃ H', callN Tryz.prog Y7 NF 7 [.agg v] H = some (.bool true, H') := by
  obtain ⟨H1, r1, k1⟩ := rightS_run hv hs
  have o1 := up7 (f := 23) rfl (up6 (f := 23) rfl rfl (up4 (f := 23) rfl (ok3 (f := 23) rfl r1)))
  obtain ⟨v2, H2, r2, k2, hv2⟩ := clone_run (hv.mono k1.keep) hs
  have o2 := up7 (f := 18) rfl (up6 (f := 18) rfl rfl (ok4 (f := 18) rfl r2))
  obtain ⟨H3, r3, k3⟩ := print_run hv2 hs hw
  have o3 := ok21 r3
  have hv3 := hv.mono ((k1.keeps.trans k2).trans k3).keep
  obtain ⟨sc, sf, rfl, ac, af⟩ := hv3.ex
  have lc := ac.len
  have lf := af.len
  cases hr : rightS s with
  | false =>
    rw [hr] at o1 o3
    exact ⟨H3, run_heap (ap_no lc lf 2097148 v2 H H1 H2 H3) (obs2_cons (o1) (obs2_cons (o2) (obs2_cons (o3) (obs2_cons (okSe (by simp)) obs2_nil))))⟩
  | true =>
  rw [hr] at o1 o3
  have o3 : (Ob2.cax 21 [.agg v2] H2 (.str (printS s)) H3).ok Tryz.prog Y7 := o3
  have ok := rightS_ok hr
  have sz1 : ∀ i, ((s.cs.take i).flatMap constL).length ≤ 522 * 32 := fun i => take_len (fun x hx => constL_len (ok.str x hx)) ok.cs i
  obtain ⟨ks1, vs1, G1, ⟨rfl, rfl, rfl⟩, g1⟩ := loop_leave (ex := apEx apB1) (N := 107) (ks := apK1) (n := s.cs.length) (fun i vs h => vs = apV1 sc sf (printS s) ((s.cs.take i).flatMap constL).length i ∧ h = H3) (fun i vs h hi ⟨e, eh⟩ => by
      subst e eh
      obtain ⟨c, hc⟩ := get_of_lt hi
      rcases ac with ⟨_, h0⟩ | ⟨b, cp, ro, rfl, hg⟩
      · rw [h0] at hc; simp at hc
      have e1 : s.cs.take (i + 1) = s.cs.take i ++ [c] := by rw [List.take_add_one, hc]; rfl
      have hcl := ok.str c (List.mem_of_getElem? hc)
      have hsz := sz1 i
      have e2 : ((s.cs.take (i + 1)).flatMap constL).length = ((s.cs.take i).flatMap constL).length + 10 + 2 * c.length := by
        rw [e1, List.flatMap_append, List.length_append]
        have := constL_eq c
        simp only [List.flatMap_cons, List.flatMap_nil, List.append_nil]
        omega
      refine ⟨_, h, ⟨rfl, rfl⟩, ?_⟩
      rw [e2]
      exact goes_tell (fun t => ap_go1 2097148 b s.cs.length i cp sf (printS s) c _ (((s.cs.take i).flatMap constL).length + 10 : Nat) (2 * c.length : Nat) _ i ((i + 1 : Nat) : Int) h t) (obs2_cons (okIlt (by simp; omega)) (obs2_cons (okAddI (by simp) (by simp only [In64]; omega)) (obs2_cons (okIb b s.cs.length i cp hi) (obs2_cons (okLdx agg9 hg (by simp [hc])) (obs2_cons (okMulI (by simp) (by simp only [In64]; omega)) (obs2_cons (okAddI (by simp) (by simp only [In64]; omega)) (obs2_cons (okInc i (by have := ok.cs; omega)) obs2_nil)))))))) (vs0 := apV1 sc sf (printS s) 0 0) (h0 := H3) ⟨by simp, rfl⟩ (e := .exit 0) (by decide) (Q := fun ks' vs' h' => ks' = apK1 ∧ vs' = apV1 sc sf (printS s) (s.cs.flatMap constL).length s.cs.length ∧ h' = H3) (fun vs h ⟨e, eh⟩ => by
      subst e eh
      rw [List.take_length]
      exact ⟨_, _, _, ⟨rfl, rfl, rfl⟩, goes_tell (fun t => ap_out1 lc 2097148 sf (printS s) _ s.cs.length h t) (obs2_cons (okIlt (by simp)) obs2_nil)⟩) (fuel := 2097151) (by have := ok.cs; omega)
  obtain ⟨ks2, vs2, G2, ⟨rfl, rfl, rfl⟩, g2⟩ := loop_leave (ex := apEx apB2) (N := 107) (ks := apK2) (n := s.fs.length) (fun i vs h => vs = apV2 sc sf ((s.fs.drop i).flatMap fnL) i ∧ h = G1) (fun i vs h hi ⟨e, eh⟩ => by
      subst e eh
      obtain ⟨f, hf⟩ := get_of_lt hi
      rcases af with ⟨_, h0⟩ | ⟨b, cp, ro, row, rfl, hg, hlen, hat⟩
      · rw [h0] at hf; simp at hf
      have hm := List.mem_of_getElem? hf
      have e1 : (s.fs.drop i).flatMap fnL = fnL f ++ (s.fs.drop (i + 1)).flatMap fnL := by
        rw [List.drop_eq_getElem_cons hi]
        rw [List.getElem?_eq_getElem hi] at hf
        rw [Option.some.inj hf]
        rfl
      rw [e1]
      exact ⟨_, h, ⟨rfl, rfl⟩, ap_round2 hs.fs hg hlen hf (hat i f hf) (hs.fn f hm) (hw f hm) (ok.fn f hm) _⟩) (vs0 := apV2 sc sf (s.fs.flatMap fnL) 0) (h0 := G1) ⟨by simp, rfl⟩ (e := .exit 2) (by decide) (Q := fun ks' vs' h' => ks' = apK2 ∧ vs' = apV2 sc sf [] s.fs.length ∧ h' = G1) (fun vs h ⟨e, eh⟩ => by
      subst e eh
      rw [List.drop_length]
      exact ⟨_, _, _, ⟨rfl, rfl, rfl⟩, goes_tell (fun t => ap_out2 lf 2097148 sc _ s.fs.length h t) (obs2_cons (okIlt (by simp)) obs2_nil)⟩) (fuel := 2097151) (by have := ok.fs; omega)
  exact ⟨_, run_heap (ap_yes lc lf 2097148 v2 (printS s) (s.fs.flatMap fnL) [] _ s.cs.length s.fs.length H H1 H2 _ _ _ _ _) (obs2_cons (o1) (obs2_cons (o2) (obs2_cons (o3) (obs2_cons (ok_goes g1 rfl) (obs2_cons (okIgt (decide_eq_false (by unfold printS; rw [List.length_append]; omega))) (obs2_cons (okSlFrom _ _ _ (by unfold printS; rw [List.length_append]; omega) (by unfold printS; simp)) (obs2_cons (ok_goes g2 rfl) (obs2_cons (okSe (by simp)) obs2_nil))))))))⟩

end Go.AM
