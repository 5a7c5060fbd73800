/-
  The document's words: a text parted by blanks.
-/
import Derived.Test.YtmokkkbbbmcjnaaGreatDoorAsC
set_option linter.unusedVariables false
set_option linter.unusedSimpArgs false
namespace Go.AM
open Go.Proofs

noncomputable abbrev wBody : Code := Code.go (bodyOf Tryz.prog 27) [1, 1, 1, 0, 1, 0, 0]
abbrev wKs : List Nat := [0, 3, 4, 5]
abbrev wVs (s : List UInt8) (o : V) (a i : Int) : List V := [.str s, o, i64 a, i64 i]
abbrev addO (i j : Int) : Ob2 := .bin .add 3 (i64 i) (i64 1) (i64 j)
abbrev slO (s : List UInt8) (a i : Int) (p : List UInt8) : Ob2 := .slc 9 (.str s) (some (i64 a)) (some (i64 i)) none (.str p)
abbrev pcell (p : List UInt8) : Obj := .cells false 9 [.str p]

theorem w_skip (m : Nat) (s : List UInt8) (o : V) (a i c j : Int) (H : Heap) (t : List V) :
    tellCode Tryz.prog XL m 27 [] m wBody ⟨normL 32 (wKs.zip (wVs s o a i)) t, H⟩ [tv 27 9 true, tv 27 15 false, tp 27 19 (.int .u8 c), tv 27 20 false, tp 27 11 (i64 j)] wKs =
      some (.normal, 32, wVs s o a j, H, [obI .leq i s.length true, obI .eql i s.length false, ix s i c, ob8 .eql c 32 false, addO i j]) := by kernel_rfl
theorem w_exit (m : Nat) (s : List UInt8) (o : V) (a i : Int) (H : Heap) (t : List V) :
    tellCode Tryz.prog XL m 27 [] m wBody ⟨normL 32 (wKs.zip (wVs s o a i)) t, H⟩ [tv 27 9 false] [3] = some (.exit 0, 32, [o], H, [obI .leq i s.length false]) := by kernel_rfl
theorem w_nil_b (m : Nat) (s p : List UInt8) (a i c j : Int) (H : Heap) (t : List V) :
    tellCode Tryz.prog XL m 27 [] m wBody ⟨normL 32 (wKs.zip (wVs s .nilslice a i)) t, H⟩ [tv 27 9 true, tv 27 15 false, tp 27 19 (.int .u8 c), tv 27 20 true, tp 27 26 (.str p), (27, 28, .blk 1 9 [.str p]), tp 27 30 (i64 j), tp 27 11 (i64 j)] wKs =
      some (.normal, 32, wVs s (.slice (H.alloc (pcell p)).next 0 1 none) j j, (H.alloc (pcell p)).alloc (pcell p),
        [obI .leq i s.length true, obI .eql i s.length false, ix s i c, ob8 .eql c 32 true, slO s a i p, .app 37 37 (H.alloc (pcell p)) .nilslice (.slice H.next 0 1 (some 1)) 1 9 [.str p], addO i j, addO i j]) := by kernel_rfl
theorem w_nil_e (m : Nat) (s p : List UInt8) (a i j : Int) (H : Heap) (t : List V) :
    tellCode Tryz.prog XL m 27 [] m wBody ⟨normL 32 (wKs.zip (wVs s .nilslice a i)) t, H⟩ [tv 27 9 true, tv 27 15 true, tp 27 26 (.str p), (27, 28, .blk 1 9 [.str p]), tp 27 30 (i64 j), tp 27 11 (i64 j)] wKs =
      some (.normal, 32, wVs s (.slice (H.alloc (pcell p)).next 0 1 none) j j, (H.alloc (pcell p)).alloc (pcell p),
        [obI .leq i s.length true, obI .eql i s.length true, slO s a i p, .app 37 37 (H.alloc (pcell p)) .nilslice (.slice H.next 0 1 (some 1)) 1 9 [.str p], addO i j, addO i j]) := by kernel_rfl
theorem w_row_b (m : Nat) (s p : List UInt8) (a i c j : Int) (b : Id) (n k : Nat) (row : List V) (H : Heap) (t : List V) :
    tellCode Tryz.prog XL m 27 [] m wBody ⟨normL 32 (wKs.zip (wVs s (.slice b 0 n none) a i)) t, H⟩ [tv 27 9 true, tv 27 15 false, tp 27 19 (.int .u8 c), tv 27 20 true, tp 27 26 (.str p), (27, 28, .dblk b k 9 row), tp 27 30 (i64 j), tp 27 11 (i64 j)] wKs =
      some (.normal, 32, wVs s (.slice (H.alloc (pcell p)).next 0 k none) j j, ((H.alloc (pcell p)).set b .dead).alloc (.cells false 9 row),
        [obI .leq i s.length true, obI .eql i s.length false, ix s i c, ob8 .eql c 32 true, slO s a i p, .apd 37 37 (H.alloc (pcell p)) (.slice b 0 n none) (.slice H.next 0 1 (some 1)) b k 9 row, addO i j, addO i j]) := by kernel_rfl
theorem w_row_e (m : Nat) (s p : List UInt8) (a i j : Int) (b : Id) (n k : Nat) (row : List V) (H : Heap) (t : List V) :
    tellCode Tryz.prog XL m 27 [] m wBody ⟨normL 32 (wKs.zip (wVs s (.slice b 0 n none) a i)) t, H⟩ [tv 27 9 true, tv 27 15 true, tp 27 26 (.str p), (27, 28, .dblk b k 9 row), tp 27 30 (i64 j), tp 27 11 (i64 j)] wKs =
      some (.normal, 32, wVs s (.slice (H.alloc (pcell p)).next 0 k none) j j, ((H.alloc (pcell p)).set b .dead).alloc (.cells false 9 row),
        [obI .leq i s.length true, obI .eql i s.length true, slO s a i p, .apd 37 37 (H.alloc (pcell p)) (.slice b 0 n none) (.slice H.next 0 1 (some 1)) b k 9 row, addO i j, addO i j]) := by kernel_rfl

def tellHeap (P : Program) (X : Ext) (n : Nat) (f : FuncId) (args : List V) (h : Heap) (O : Orc2) : Option (V × Heap × List Ob2) := (callT P X n f args h O).map fun r => (r.1, r.2.1, r.2.2.2)

theorem words_call (m : Nat) (s : List UInt8) (b : Id) (n : Nat) (J : List V → List V) (H : Heap) :
    tellHeap Tryz.prog XL (m + 1) 27 [.str s] h0 [(27, 0, .loop 32 wKs (.exit 0) ([3].zip [.slice b 0 n none]) J H)] =
      some (.slice b 0 n none, H, [.loop m [] wBody 32 wKs (wVs s .nilslice 0 0) h0 (.exit 0) ([3].zip [.slice b 0 n none]) J H]) := by kernel_rfl

theorem run_heap {P : Program} {X : Ext} {n : Nat} {f : FuncId} {args : List V} {h : Heap} {O : Orc2} {v : V} {h' : Heap} {obs : List Ob2} (ht : tellHeap P X n f args h O = some (v, h', obs)) (hobs : Obs2 P X obs) : callN P X n f args h = some (v, h') := by
  simp only [tellHeap, Option.map_eq_some_iff, Prod.mk.injEq, Prod.exists] at ht
  obtain ⟨v1, h1, O1, obs1, hc, rfl, rfl, rfl⟩ := ht
  exact callT_ok X n _ _ _ _ _ _ _ _ hc hobs

/-! ### The promises -/

theorem okSl {X : Ext} (l : List UInt8) (x y : Nat) (r : List UInt8) (hxy : x ≤ y) (hy : y ≤ l.length) (hr : (l.take y).drop x = r) : (slO l x y r).ok Tryz.prog X := by
  intro h
  have hu : Tryz.prog.underlying 9 = some .string := Tryz.underlying9
  unfold sliceV
  rw [hu]
  simp only [bounds, bound]
  have e1 : (0 : Int) ≤ (y : Int) ∧ (y : Int) ≤ (l.length : Int) := by omega
  have e2 : (0 : Int) ≤ (x : Int) ∧ (x : Int) ≤ (y : Int) := by omega
  rw [if_pos e1]
  simp only [Int.toNat_natCast]
  rw [if_pos e2]
  simp only [hr]

theorem i9' : (Tryz.prog.info? 9).map (fun i => (i.size, i.bytes, zok i)) = some (1, 16, true) := by kernel_rfl
theorem i9 : ∃ i, Tryz.prog.info? 9 = some i ∧ i.size = 1 ∧ i.bytes = 16 ∧ zok i = true := by
  obtain ⟨i, h, e⟩ := Option.map_eq_some_iff.1 i9'
  simp only [Prod.mk.injEq] at e
  exact ⟨i, h, e.1, e.2.1, e.2.2⟩
theorem lt37 : Nat.blt 37 Tryz.prog.types.size = true := by kernel_rfl

theorem row_new (H : Heap) (o : List V) : (H.alloc (.cells false 9 o)).row H.next = some o := by
  unfold Heap.row
  rw [Heap.get_alloc_same]

theorem okApp {X : Ext} (H : Heap) (p : List UInt8) : (Ob2.app 37 37 (H.alloc (pcell p)) .nilslice (.slice H.next 0 1 (some 1)) 1 9 [.str p]).ok Tryz.prog X := by
  have hu : Tryz.prog.underlying 37 = some (.slice 9) := Tryz.underlying37
  obtain ⟨i, h1, h2, h3, h4⟩ := i9
  have hc : cellsOfV 1 (H.alloc (pcell p)) (.slice H.next 0 1 (some 1)) = some (1, [.str p]) := by
    simp only [cellsOfV, row_new]; rfl
  show appendV Tryz.prog 37 37 (H.alloc (pcell p)) .nilslice (.slice H.next 0 1 (some 1)) = _
  unfold appendV
  rw [if_pos lt37]
  simp only
  unfold appendS
  simp only [hu, h1, h2, h3, h4, hc]
  rfl

theorem okApd {X : Ext} (H : Heap) (p : List UInt8) (b : Id) (row : List V) (hb : b < H.next) (hrow : H.get b = some (.cells false 9 row)) (hn : row.length < 1099511627776) :
    (Ob2.apd 37 37 (H.alloc (pcell p)) (.slice b 0 row.length none) (.slice H.next 0 1 (some 1)) b (row.length + 1) 9 (row ++ [.str p])).ok Tryz.prog X := by
  have hu : Tryz.prog.underlying 37 = some (.slice 9) := Tryz.underlying37
  obtain ⟨i, h1, h2, h3, h4⟩ := i9
  have hc : cellsOfV 1 (H.alloc (pcell p)) (.slice H.next 0 1 (some 1)) = some (1, [.str p]) := by
    simp only [cellsOfV, row_new]; rfl
  have hg : (H.alloc (pcell p)).get b = some (.cells false 9 row) := by rw [Heap.get_alloc_ne _ _ _ (Nat.ne_of_lt hb)]; exact hrow
  have hs : szOf Tryz.prog 9 = some 1 := by kernel_rfl
  show appendV Tryz.prog 37 37 (H.alloc (pcell p)) (.slice b 0 row.length none) (.slice H.next 0 1 (some 1)) = _
  unfold appendV
  rw [if_pos lt37]
  simp only
  unfold appendS
  simp only [hu, h1, h2, h3, h4, hc, hg, hs]
  rw [if_neg (by simp [srcOk]), if_pos ⟨by unfold room; omega, by unfold room; omega⟩]
  simp
  intro h
  omega

/-! ### The rounds -/

def wordsG : List UInt8 → List UInt8 → List (List UInt8)
  | [], cur => [cur]
  | c :: l, cur => if c = 32 then cur :: wordsG l [] else wordsG l (cur ++ [c])

def OutR (H : Heap) (o : V) (acc : List (List UInt8)) : Prop :=
  (acc = [] ∧ o = .nilslice) ∨ (acc ≠ [] ∧ ∃ b, o = .slice b 0 acc.length none ∧ b < H.next ∧ H.get b = some (.cells false 9 (acc.map V.str)))

/-- One word more. -/
theorem word_more (m : Nat) (s : List UInt8) (a i : Nat) (o : V) (acc : List (List UInt8)) (H : Heap) (hs : s.length ≤ 2097152) (hai : a ≤ i) (hi : i ≤ s.length) (hacc : acc.length ≤ s.length) (ho : OutR H o acc)
    (hend : i = s.length ∨ s[i]? = some 32) :
    ∃ (o' : V) (H' : Heap), OutR H' o' (acc ++ [(s.take i).drop a]) ∧ ∀ t : List V, t.length = 32 → proj wKs t = wVs s o a i →
      ∃ t', exec Tryz.prog (callN Tryz.prog XL m) [] m wBody ⟨t, H⟩ = some (.normal, ⟨t', H'⟩) ∧ t'.length = 32 ∧ proj wKs t' = wVs s o' (i + 1 : Nat) (i + 1 : Nat) := by
  have o1 : (obI .leq (i : Nat) s.length true).ok Tryz.prog XL := okIle (by simp; omega)
  have osl := okSl (X := XL) s a i _ hai hi rfl
  have oin := okInc (X := XL) i (by omega)
  rcases ho with ⟨rfl, rfl⟩ | ⟨hne, b, rfl, hb, hrow⟩
  · refine ⟨.slice (H.alloc (pcell ((s.take i).drop a))).next 0 1 none, (H.alloc (pcell ((s.take i).drop a))).alloc (pcell ((s.take i).drop a)), .inr ⟨by simp, _, rfl, by simp, Heap.get_alloc_same _ _⟩, ?_⟩
    intro t ht hp
    have oa := okApp (X := XL) H ((s.take i).drop a)
    by_cases he : i = s.length
    · have hr := w_nil_e m s ((s.take i).drop a) a i (i + 1 : Nat) H t
      rw [norm_zip ht hp] at hr
      exact code_of_tell hr (obs2_cons o1 (obs2_cons (okIeq (by simp [he])) (obs2_cons osl (obs2_cons oa (obs2_cons oin (obs2_cons oin obs2_nil))))))
    · have hc : s[i]? = some 32 := hend.resolve_left he
      have hr := w_nil_b m s ((s.take i).drop a) a i (32 : UInt8).toNat (i + 1 : Nat) H t
      rw [norm_zip ht hp] at hr
      exact code_of_tell hr (obs2_cons o1 (obs2_cons (okIeq (by simp; omega)) (obs2_cons (okIx hc) (obs2_cons (ok8eq rfl) (obs2_cons osl (obs2_cons oa (obs2_cons oin (obs2_cons oin obs2_nil))))))))
  · have hl : (acc.map V.str).length = acc.length := by simp
    have oa := okApd (X := XL) H ((s.take i).drop a) b _ hb hrow (by rw [hl]; omega)
    rw [hl] at oa
    have hm : acc.map V.str ++ [V.str ((s.take i).drop a)] = (acc ++ [(s.take i).drop a]).map V.str := by simp
    rw [hm] at oa
    refine ⟨.slice (H.alloc (pcell ((s.take i).drop a))).next 0 (acc.length + 1) none, ((H.alloc (pcell ((s.take i).drop a))).set b .dead).alloc (.cells false 9 ((acc ++ [(s.take i).drop a]).map V.str)),
      .inr ⟨by simp, (H.alloc (pcell ((s.take i).drop a))).next, by simp, by simp, ?_⟩, ?_⟩
    · exact Heap.get_alloc_same ((H.alloc (pcell ((s.take i).drop a))).set b .dead) _
    intro t ht hp
    by_cases he : i = s.length
    · have hr := w_row_e m s ((s.take i).drop a) a i (i + 1 : Nat) b acc.length (acc.length + 1) ((acc ++ [(s.take i).drop a]).map V.str) H t
      rw [norm_zip ht hp] at hr
      exact code_of_tell hr (obs2_cons o1 (obs2_cons (okIeq (by simp [he])) (obs2_cons osl (obs2_cons oa (obs2_cons oin (obs2_cons oin obs2_nil))))))
    · have hc : s[i]? = some 32 := hend.resolve_left he
      have hr := w_row_b m s ((s.take i).drop a) a i (32 : UInt8).toNat (i + 1 : Nat) b acc.length (acc.length + 1) ((acc ++ [(s.take i).drop a]).map V.str) H t
      rw [norm_zip ht hp] at hr
      exact code_of_tell hr (obs2_cons o1 (obs2_cons (okIeq (by simp; omega)) (obs2_cons (okIx hc) (obs2_cons (ok8eq rfl) (obs2_cons osl (obs2_cons oa (obs2_cons oin (obs2_cons oin obs2_nil))))))))

theorem words_rounds (m : Nat) (s : List UInt8) (hs : s.length ≤ 2097152) : ∀ (l : List UInt8) (a i : Nat) (o : V) (acc : List (List UInt8)) (H : Heap), s.drop i = l → i + l.length = s.length → a ≤ i → acc.length ≤ i → OutR H o acc →
    ∃ (b : Id) (H' : Heap), b < H'.next ∧ H'.get b = some (.cells false 9 ((acc ++ wordsG l ((s.take i).drop a)).map V.str)) ∧ ∀ (t : List V) (fuel : Nat), l.length + 1 < fuel → t.length = 32 → proj wKs t = wVs s o a i →
      ∃ t', rounds (exec Tryz.prog (callN Tryz.prog XL m) [] m wBody) fuel ⟨t, H⟩ = some (.exit 0, ⟨t', H'⟩) ∧ t'.length = 32 ∧ proj [3] t' = [.slice b 0 (acc ++ wordsG l ((s.take i).drop a)).length none] := by
  intro l
  induction l with
  | nil =>
    intro a i o acc H hd hi hai hacc ho
    simp at hi
    subst hi
    obtain ⟨o', H', ho', hx⟩ := word_more m s a s.length o acc H hs hai (Nat.le_refl _) hacc ho (.inl rfl)
    rcases ho' with ⟨h, _⟩ | ⟨_, b, rfl, hb, hrow⟩
    · simp at h
    refine ⟨b, H', hb, hrow, fun t fuel hf ht hp => ?_⟩
    obtain ⟨f, rfl⟩ : ∃ f, fuel = f + 1 + 1 := ⟨fuel - 2, by simp at hf; omega⟩
    obtain ⟨t1, e1, e2, e3⟩ := hx t ht hp
    have hr := w_exit m s (.slice b 0 (acc ++ [(s.take s.length).drop a]).length none) (s.length + 1 : Nat) (s.length + 1 : Nat) H' t1
    rw [norm_zip e2 e3] at hr
    obtain ⟨t2, g1, g2, g3⟩ := code_of_tell hr (obs2_cons (okIle (by simp; omega)) obs2_nil)
    exact ⟨t2, by simp only [rounds, e1, g1], g2, g3⟩
  | cons c l ih =>
    intro a i o acc H hd hi hai hacc ho
    simp only [List.length_cons] at hi
    have hc : s[i]? = some c := by
      have : (s.drop i)[0]? = some c := by rw [hd]; rfl
      rw [List.getElem?_drop] at this
      simpa using this
    have hd' : s.drop (i + 1) = l := by
      have : (s.drop i).tail = l := by rw [hd]; rfl
      simpa using this
    by_cases h32 : c = 32
    · subst h32
      obtain ⟨o', H1, ho', hx⟩ := word_more m s a i o acc H hs hai (by omega) (by omega) ho (.inr hc)
      obtain ⟨b, H', hb, hrow, hy⟩ := ih (i + 1) (i + 1) o' (acc ++ [(s.take i).drop a]) H1 hd' (by omega) (Nat.le_refl _) (by simp; omega) ho'
      have hcur : (s.take (i + 1)).drop (i + 1) = [] := List.drop_eq_nil_of_le (by simp; omega)
      rw [hcur] at hrow hy
      have hw : acc ++ wordsG (32 :: l) ((s.take i).drop a) = acc ++ [(s.take i).drop a] ++ wordsG l [] := by simp [wordsG]
      rw [hw]
      refine ⟨b, H', hb, hrow, fun t fuel hf ht hp => ?_⟩
      obtain ⟨f, rfl⟩ : ∃ f, fuel = f + 1 := ⟨fuel - 1, by omega⟩
      obtain ⟨t1, e1, e2, e3⟩ := hx t ht hp
      obtain ⟨t2, g1, g2, g3⟩ := hy t1 f (by simp at hf; omega) e2 e3
      exact ⟨t2, by simp only [rounds, e1]; exact g1, g2, g3⟩
    · obtain ⟨b, H', hb, hrow, hy⟩ := ih a (i + 1) o acc H hd' (by omega) (by omega) (by omega) ho
      have hcur : (s.take (i + 1)).drop a = (s.take i).drop a ++ [c] := by
        rw [List.take_add_one, hc, List.drop_append_of_le_length (by simp; omega)]; rfl
      rw [hcur] at hrow hy
      have hw : wordsG (c :: l) ((s.take i).drop a) = wordsG l ((s.take i).drop a ++ [c]) := by simp [wordsG, h32]
      rw [hw]
      refine ⟨b, H', hb, hrow, fun t fuel hf ht hp => ?_⟩
      obtain ⟨f, rfl⟩ : ∃ f, fuel = f + 1 := ⟨fuel - 1, by omega⟩
      have hr := w_skip m s o a i c.toNat (i + 1 : Nat) H t
      rw [norm_zip ht hp] at hr
      obtain ⟨t1, e1, e2, e3⟩ := code_of_tell hr (obs2_cons (okIle (by simp; omega)) (obs2_cons (okIeq (by simp; omega)) (obs2_cons (okIx hc) (obs2_cons (ok8eq (by
        have : c.toNat ≠ 32 := fun e => h32 (UInt8.toNat_inj.1 e)
        simp; omega)) (obs2_cons (okInc i (by omega)) obs2_nil)))))
      obtain ⟨t2, g1, g2, g3⟩ := hy t1 f (by simp at hf; omega) e2 e3
      exact ⟨t2, by simp only [rounds, e1]; exact g1, g2, g3⟩

theorem words_run (s : List UInt8) (hs : s.length ≤ 2097152) : ∃ (n : Nat) (b : Id) (H' : Heap), b < H'.next ∧ H'.get b = some (.cells false 9 ((wordsG s []).map V.str)) ∧ callN Tryz.prog XL n 27 [.str s] h0 = some (.slice b 0 (wordsG s []).length none, H') := by
  obtain ⟨b, H', hb, hrow, hx⟩ := words_rounds (s.length + 2) s hs s 0 0 .nilslice [] h0 rfl (by simp) (Nat.le_refl _) (by simp) (.inl ⟨rfl, rfl⟩)
  simp only [List.nil_append, List.take_zero, List.drop_nil] at hrow hx
  exact ⟨s.length + 2 + 1, b, H', hb, hrow, run_heap (words_call (s.length + 2) s b _ _ H') (obs2_cons (ok_loop (fun t ht hp => hx t _ (by omega) ht hp)) obs2_nil)⟩

end Go.AM

/-
  A function that hands back a new slice, answered at once; the document's words; the document's Read, run.
-/
set_option linter.unusedSectionVars false
set_option linter.unusedVariables false
set_option linter.unusedSimpArgs false
namespace Go.AM
open Go.Proofs Go.RowKit

section
variable {P : Program} [Glob P]

theorem fresh_slice (hm : P.follows .mixedOrders = true) {X : Ext} (hX : ExtOk P X) (hXm : ExtMono X) {n : Nat} {f : FuncId} {args : List V} {b : Id} {k : Nat} {H' : Heap} {ty : TypeId} {row : List V} (hrun : callN P X n f args h0 = some (.slice b 0 k none, H'))
    (hg : H'.get b = some (.cells false ty row)) (hfl : flats args = true) (hrf : flats row = true) {W : Nat → Prop} {lim : Nat} {E : Emb} {h : Heap} {w : World} {args' : List Value} (hlim : h.next < lim) (H : HR P W lim E h w) (hr : VRs E args args') :
    Calls P f ⟨args'⟩ w fun e w' => ∃ x E', e = .returned x ∧ HR P W lim E' (h.alloc (.cells false ty row)) w' ∧ VR E' (.slice h.next 0 k none) x ∧ Fwd W E h w E' (h.alloc (.cells false ty row)) w' := by
  have G : Glob.ok P (fun c => w.heap.size ≤ c) w := Glob.sub H.glob (fun c hc => .inr hc)
  refine Calls.mono (callN_ok hm X hX hXm n f args h0 _ H' hrun (fun c => w.heap.size ≤ c) H'.next noEmb w args' (Nat.le_refl _) (HR.none w _ G) (VRs.flat _ _ hfl hr)) ?_
  rintro e w' ⟨x, E1, rfl, HR1, hx, fw⟩
  have hs := fw.same
  have H2 := H.after hs
  simp only [VR] at hx
  obtain ⟨hd, hk, a, rfl, ha⟩ := hx
  have hpc : w.heap.size ≤ (E1.pl b).c := by
    rcases fw.new b hd with h | ⟨_, _, h⟩
    · exact h.elim
    · exact h
  have hn := H.new hlim
  have hle := Emb.le_ext E h.next (E1.pl b) hn
  have hge : ∀ c, E.dom c → (h.alloc (.cells false ty row)).get c = h.get c := fun c hc => Heap.get_alloc_ne _ _ _ (fun e => hn (e ▸ hc))
  have hpl : ∀ c, E.dom c → (E.ext h.next (E1.pl b)).pl c = E.pl c := fun c hc => Emb.ext_pl_ne _ _ _ _ (fun e => hn (e ▸ hc))
  have hnew : (h.alloc (.cells false ty row)).get h.next = some (.cells false ty row) := Heap.get_alloc_same _ _
  have hrow1 := HR1.row b false ty row hd hg
  refine ⟨_, E.ext h.next (E1.pl b), rfl, ⟨?_, ?_, ?_, ?_, ?_, ?_, H2.top, H2.glob, ?_⟩, ?_, hle, ?_, hs.weaken H.top, by simp⟩
  · rintro c (hc | rfl)
    · exact (H.lt c hc).imp Nat.lt_succ_of_lt id
    · exact .inl (Nat.lt_succ_self _)
  · rintro c (hc | rfl)
    · rw [hpl c hc]; exact H2.size c hc
    · rw [Emb.ext_pl]; exact HR1.size b hd
  · rintro c ro ty1 l (hc | rfl) hgc
    · rw [hge c hc] at hgc
      rw [hpl c hc]; exact (H2.row c ro ty1 l hc hgc).mono hle
    · rw [hnew] at hgc
      cases hgc
      rw [Emb.ext_pl]
      obtain ⟨arr, ty2, fz, q1, q2, q3, q4, q5, q6⟩ := hrow1.ex
      exact ⟨arr, ty2, fz, q1, q2, q3, VRs.flat _ _ hrf q4, q5, q6⟩
  · rintro c (hc | rfl) hrw
    · rw [hge c hc] at hrw
      rw [hpl c hc]; exact H2.own c hc hrw
    · rw [Emb.ext_pl]; exact H.top _ hpc
  · rintro c ro ty1 l (hc | rfl) hgc
    · rw [hge c hc] at hgc
      rw [hpl c hc]; exact H2.esz c ro ty1 l hc hgc
    · rw [hnew] at hgc
      cases hgc
      rw [Emb.ext_pl]; exact HR1.esz b false _ _ hd hg
  · rintro c c' (hc | rfl) (hc' | rfl) hne hrw hl
    · rw [hge c hc] at hrw
      rw [hge c' hc'] at hl
      rw [hpl c hc, hpl c' hc']; exact H2.inj c c' hc hc' hne hrw hl
    · rw [hpl c hc, Emb.ext_pl]
      have := H.size c hc
      omega
    · rw [hpl c' hc', Emb.ext_pl]
      have := H.size c' hc'
      omega
    · exact absurd rfl hne
  · rintro c ty1 l (hc | rfl) hgc
    · rw [hge c hc] at hgc
      rw [hpl c hc]; exact H2.bld c ty1 l hc hgc
    · rw [hnew] at hgc
      cases hgc
      rw [Emb.ext_pl]; exact HR1.bld b _ _ hd hg
  · simp only [VR, Emb.ext_pl]
    exact ⟨Emb.ext_dom _ _ _, hk, a, rfl, ha⟩
  · rintro c (hc | rfl)
    · exact .inl hc
    · refine .inr ⟨Nat.le_refl _, by simp, ?_⟩
      rw [Emb.ext_pl]; exact H.top _ hpc

end

theorem strs_flat : ∀ l : List (List UInt8), flats (l.map V.str) = true
  | [] => rfl
  | x :: l => by simp only [List.map_cons, flats, flat, strs_flat l]; rfl

def wordsE : GFun := fun args h => match args with
  | [.str s] => if s.length ≤ 2097152 then some (.slice h.next 0 (wordsG s []).length none, h.alloc (.cells false 9 ((wordsG s []).map V.str))) else none
  | _ => none
theorem words_entry : EntryOk Tryz.prog 27 wordsE where
  call := by
    intro args h v h' hg W lim E w args' hlim H hr
    unfold wordsE at hg
    split at hg
    case h_2 => cases hg
    rename_i s
    split at hg
    case isFalse => cases hg
    rename_i hs
    cases hg
    obtain ⟨n, b, H', hb, hrow, hrun⟩ := words_run s hs
    exact fresh_slice mixed XL_ok XL_mono hrun hrow rfl (strs_flat _) hlim H hr
  mono := by
    intro args h v h' hg
    unfold wordsE at hg
    split at hg
    · split at hg
      · cases hg; exact Mono.alloc _ _
      · cases hg
    · cases hg

def XW : Ext := orExt (libExt [(27, wordsE)]) (orExt (flatExt [digitsF, decimalF]) XL)
theorem words_all : ∀ x ∈ [((27 : FuncId), wordsE)], EntryOk Tryz.prog x.1 x.2 := by
  intro x hx
  rw [List.mem_singleton] at hx
  subst hx
  exact words_entry
theorem XW_ok : ExtOk Tryz.prog XW := orExt_ok (libExt_ok words_all) (orExt_ok (flatExt_ok mixed (by
  intro x hx
  simp only [List.mem_cons, List.not_mem_nil, or_false] at hx
  rcases hx with rfl | rfl
  · exact ⟨XL, XL_ok, XL_mono, digits_knows⟩
  · exact ⟨XD, XD_ok, XD_mono, decimal_knows⟩)) XL_ok)
theorem XW_mono : ExtMono XW := orExt_mono (libExt_mono words_all) (orExt_mono (flatExt_mono _) XL_mono)

/-! ### Lines -/

abbrev insV (op a : Int) : V := .agg [i64 op, i64 a]
theorem l10_1 (op a k : Int) (s p d : List UInt8) (hs : nameA op = s) (hk : takesA op = k) : tellFrom Tryz.prog XW 60 10 [insV op a] h0 [tv 10 9 true, tv 10 14 true, tp 10 17 (.str p), tp 10 20 (.str d), tp 10 21 (.str (p ++ d))] =
  some (.str (p ++ d), [obS .neq (nameA op) [] true, obI .neq (takesA op) 0 true, .bin .add 9 (.str (nameA op)) (.str [32]) (.str p), .rd 32 [i64 a] (.str d), .bin .add 9 (.str p) (.str d) (.str (p ++ d))]) := by kernel_rfl
theorem l10_2 (op a : Int) : tellFrom Tryz.prog XW 60 10 [insV op a] h0 [tv 10 9 true, tv 10 14 false, tv 10 25 true] =
  some (.str [], [obS .neq (nameA op) [] true, obI .neq (takesA op) 0 false, obI .neq a 0 true]) := by kernel_rfl
theorem l10_3 (op a : Int) : tellFrom Tryz.prog XW 60 10 [insV op a] h0 [tv 10 9 true, tv 10 14 false, tv 10 25 false] =
  some (.str (nameA op), [obS .neq (nameA op) [] true, obI .neq (takesA op) 0 false, obI .neq a 0 false]) := by kernel_rfl
theorem l10_4 (op a : Int) : tellFrom Tryz.prog XW 60 10 [insV op a] h0 [tv 10 9 false, tv 10 25 true] =
  some (.str [], [obS .neq (nameA op) [] false, obI .neq a 0 true]) := by kernel_rfl
theorem l10_5 (op a : Int) : tellFrom Tryz.prog XW 60 10 [insV op a] h0 [tv 10 9 false, tv 10 25 false] =
  some (.str (nameA op), [obS .neq (nameA op) [] false, obI .neq a 0 false]) := by kernel_rfl
theorem l11_0 (op a : Int) : tellFrom Tryz.prog XW 60 11 [insV op a] h0 [tv 11 8 true] = some (.str [], [obS .eql (nameA op) [] true]) := by kernel_rfl
theorem l11_1 (op a : Int) (p d : List UInt8) : tellFrom Tryz.prog XW 60 11 [insV op a] h0 [tv 11 8 false, tv 11 12 true, tp 11 14 (.str p), tp 11 17 (.str d), tp 11 18 (.str (p ++ d))] =
  some (.str (p ++ d), [obS .eql (nameA op) [] false, obI .neq (takesA op) 0 true, .bin .add 9 (.str (nameA op)) (.str [32]) (.str p), .rd 35 [i64 a] (.str d), .bin .add 9 (.str p) (.str d) (.str (p ++ d))]) := by kernel_rfl
theorem l11_2 (op a : Int) : tellFrom Tryz.prog XW 60 11 [insV op a] h0 [tv 11 8 false, tv 11 12 false, tv 11 21 true] = some (.str [], [obS .eql (nameA op) [] false, obI .neq (takesA op) 0 false, obI .neq a 0 true]) := by kernel_rfl
theorem l11_3 (op a : Int) : tellFrom Tryz.prog XW 60 11 [insV op a] h0 [tv 11 8 false, tv 11 12 false, tv 11 21 false] = some (.str (nameA op), [obS .eql (nameA op) [] false, obI .neq (takesA op) 0 false, obI .neq a 0 false]) := by kernel_rfl

end Go.AM
