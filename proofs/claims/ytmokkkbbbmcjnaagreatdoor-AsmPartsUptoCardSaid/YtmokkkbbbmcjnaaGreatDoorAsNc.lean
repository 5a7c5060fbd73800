/-
  The document's types: are all of a row types, and not too many?
-/
import Derived.Test.YtmokkkbbbmcjnaaGreatDoorAsNa
import Derived.Test.YtmokkkbbbmcjnaaGreatDoorAsH14
set_option linter.unusedSectionVars false
set_option linter.unusedVariables false
set_option linter.unusedSimpArgs false
namespace Go.AM
open Go.Proofs Go.RowKit

noncomputable abbrev tyBody : Code := Code.go (bodyOf Tryz.prog 73) [1, 0, 1, 0, 0]
abbrev tyKs : List Nat := [0, 1, 4, 5]
abbrev tyVs (a : V) (most : Int) (i : Int) : List V := [a, i64 most, .bool false, i64 i]

theorem ty_go (cp : Option Nat) (m b n p : Nat) (most i j k : Int) (H : Heap) (t : List V) :
    tellCode Tryz.prog XE (m + 1) 73 [] (m + 1) tyBody ⟨normL 28 (tyKs.zip (tyVs (.slice b 0 n cp) most i)) t, H⟩ [tv 73 9 true, tp 73 14 (.ptr b p), (73, 15, .ldx (i64 k)), tv 73 16 false, tp 73 20 (.ptr b p), (73, 21, .ldx (i64 k)), tv 73 22 false, tp 73 11 (i64 j)] tyKs =
      (some (E.normal, (28, ([(V.slice b 0 n cp), (i64 most), (V.bool false), (i64 j)], (H, [(Ob2.bin Go.BinOp.lss 3 (i64 i) (i64 n) (V.bool true)), (Ob2.iadr 29 b 0 n cp (i64 i) (V.ptr b p)), (Ob2.ldx 3 H (Go.Operand.tmp 14) (V.ptr b p) (i64 k)), (Ob2.bin Go.BinOp.lss 3 (i64 k) (i64 1) (V.bool false)), (Ob2.iadr 29 b 0 n cp (i64 i) (V.ptr b p)), (Ob2.ldx 3 H (Go.Operand.tmp 20) (V.ptr b p) (i64 k)), (Ob2.bin Go.BinOp.gtr 3 (i64 k) (i64 3) (V.bool false)), (Ob2.bin Go.BinOp.add 3 (i64 i) (i64 1) (i64 j))]))))) := by kernel_rfl
theorem ty_b1 (cp : Option Nat) (m b n p : Nat) (most i k : Int) (H : Heap) (t : List V) :
    tellCode Tryz.prog XE (m + 1) 73 [] (m + 1) tyBody ⟨normL 28 (tyKs.zip (tyVs (.slice b 0 n cp) most i)) t, H⟩ [tv 73 9 true, tp 73 14 (.ptr b p), (73, 15, .ldx (i64 k)), tv 73 16 true] [4] =
      (some (E.ret, (28, ([(V.bool false)], (H, [(Ob2.bin Go.BinOp.lss 3 (i64 i) (i64 n) (V.bool true)), (Ob2.iadr 29 b 0 n cp (i64 i) (V.ptr b p)), (Ob2.ldx 3 H (Go.Operand.tmp 14) (V.ptr b p) (i64 k)), (Ob2.bin Go.BinOp.lss 3 (i64 k) (i64 1) (V.bool true))]))))) := by kernel_rfl
theorem ty_b2 (cp : Option Nat) (m b n p : Nat) (most i k : Int) (H : Heap) (t : List V) :
    tellCode Tryz.prog XE (m + 1) 73 [] (m + 1) tyBody ⟨normL 28 (tyKs.zip (tyVs (.slice b 0 n cp) most i)) t, H⟩ [tv 73 9 true, tp 73 14 (.ptr b p), (73, 15, .ldx (i64 k)), tv 73 16 false, tp 73 20 (.ptr b p), (73, 21, .ldx (i64 k)), tv 73 22 true] [4] =
      (some (E.ret, (28, ([(V.bool false)], (H, [(Ob2.bin Go.BinOp.lss 3 (i64 i) (i64 n) (V.bool true)), (Ob2.iadr 29 b 0 n cp (i64 i) (V.ptr b p)), (Ob2.ldx 3 H (Go.Operand.tmp 14) (V.ptr b p) (i64 k)), (Ob2.bin Go.BinOp.lss 3 (i64 k) (i64 1) (V.bool false)), (Ob2.iadr 29 b 0 n cp (i64 i) (V.ptr b p)), (Ob2.ldx 3 H (Go.Operand.tmp 20) (V.ptr b p) (i64 k)), (Ob2.bin Go.BinOp.gtr 3 (i64 k) (i64 3) (V.bool true))]))))) := by kernel_rfl
theorem ty_out (cp : Option Nat) (m b n : Nat) (most i : Int) (H : Heap) (t : List V) :
    tellCode Tryz.prog XE (m + 1) 73 [] (m + 1) tyBody ⟨normL 28 (tyKs.zip (tyVs (.slice b 0 n cp) most i)) t, H⟩ [tv 73 9 false] tyKs =
      (some ((E.exit 0), (28, ([(V.slice b 0 n cp), (i64 most), (V.bool false), (i64 i)], (H, [(Ob2.bin Go.BinOp.lss 3 (i64 i) (i64 n) (V.bool false))]))))) := by kernel_rfl
theorem ty_nil (m : Nat) (most i : Int) (H : Heap) (t : List V) :
    tellCode Tryz.prog XE (m + 1) 73 [] (m + 1) tyBody ⟨normL 28 (tyKs.zip (tyVs .nilslice most i)) t, H⟩ [tv 73 9 false] tyKs =
      (some ((E.exit 0), (28, ([V.nilslice, (i64 most), (V.bool false), (i64 i)], (H, [(Ob2.bin Go.BinOp.lss 3 (i64 i) (i64 0) (V.bool false))]))))) := by kernel_rfl
theorem ty_yes (cp : Option Nat) (m b n : Nat) (most i : Int) (H : Heap) (J : List V → List V) (r : Bool) :
    tellHeap Tryz.prog XE (m + 1) 73 [.slice b 0 n cp, i64 most] H [(73, 0, .loop 28 tyKs (.exit 0) (tyKs.zip (tyVs (.slice b 0 n cp) most i)) J H), tv 73 27 r] =
      (some ((V.bool r), (H, [(Ob2.loop m [] tyBody 28 [0, 1, 4, 5] [(V.slice b 0 n cp), (i64 most), (V.bool false), (i64 0)] H (E.exit 0) [(0, (V.slice b 0 n cp)), (1, (i64 most)), (4, (V.bool false)), (5, (i64 i))] J H), (Ob2.bin Go.BinOp.leq 3 (i64 n) (i64 most) (V.bool r))]))) := by kernel_rfl
theorem ty_yes0 (m : Nat) (most : Int) (H : Heap) (J : List V → List V) (r : Bool) :
    tellHeap Tryz.prog XE (m + 1) 73 [.nilslice, i64 most] H [(73, 0, .loop 28 tyKs (.exit 0) (tyKs.zip (tyVs .nilslice most 0)) J H), tv 73 27 r] =
      (some ((V.bool r), (H, [(Ob2.loop m [] tyBody 28 [0, 1, 4, 5] [V.nilslice, (i64 most), (V.bool false), (i64 0)] H (E.exit 0) [(0, V.nilslice), (1, (i64 most)), (4, (V.bool false)), (5, (i64 0))] J H), (Ob2.bin Go.BinOp.leq 3 (i64 0) (i64 most) (V.bool r))]))) := by kernel_rfl
theorem ty_no (cp : Option Nat) (m b n : Nat) (most : Int) (H : Heap) (J : List V → List V) :
    tellHeap Tryz.prog XE (m + 1) 73 [.slice b 0 n cp, i64 most] H [(73, 0, .loop 28 tyKs .ret ([4].zip [.bool false]) J H)] =
      (some ((V.bool false), (H, [(Ob2.loop m [] tyBody 28 [0, 1, 4, 5] [(V.slice b 0 n cp), (i64 most), (V.bool false), (i64 0)] H E.ret [(4, (V.bool false))] J H)]))) := by kernel_rfl
def typeR (k : Int) : Bool := decide (1 ≤ k) && decide (k ≤ 3)
def typesR (l : List Int) (most : Int) : Bool := l.all typeR && decide ((l.length : Int) ≤ most)

theorem lt_of_get {α : Type} {L : List α} {i : Nat} {k : α} (h : L[i]? = some k) : i < L.length := by
  rcases Nat.lt_or_ge i L.length with h' | h'
  · exact h'
  · rw [List.getElem?_eq_none h'] at h; cases h
theorem get_of_lt {α : Type} {L : List α} {i : Nat} (h : i < L.length) : ∃ k, L[i]? = some k := ⟨_, List.getElem?_eq_getElem h⟩
theorem all_of {L : List Int} {f : Int → Bool} (h : ∀ (i : Nat) k, L[i]? = some k → f k = true) : L.all f = true := by
  rw [List.all_eq_true]
  intro x hx
  obtain ⟨i, hi⟩ := List.getElem?_of_mem hx
  exact h i x hi
theorem all_not {L : List Int} {f : Int → Bool} {i : Nat} {k : Int} (h : L[i]? = some k) (hf : f k = false) : L.all f = false := by
  rw [List.all_eq_false]
  exact ⟨k, List.mem_of_getElem? h, by rw [hf]; decide⟩

theorem types_run (m : Nat) (o : Option (List Int)) (cp : Option Nat) (b : Id) (most : Int) (H : Heap) (hg : ∀ L, o = some L → ∃ ro, H.get b = some (.cells ro 3 (L.map i64))) (hL : (ints o).length ≤ 1048576) (hm : (ints o).length < m) :
    callN Tryz.prog XE (m + 1) 73 [svQ (vrow o) cp b, i64 most] H = some (.bool (typesR (ints o) most), H) := by
  obtain ⟨m, rfl⟩ : ∃ k, m = k + 1 := ⟨m - 1, by omega⟩
  cases o with
  | none =>
    refine run_heap (ty_yes0 (m + 1) most H _ _) (obs2_cons (ok_loopk tyKs (tyVs .nilslice most 0) rfl ?_) (obs2_cons (okIle rfl) obs2_nil))
    refine scan_at (n := 0) (vs := fun _ => tyVs .nilslice most 0) (hs := fun _ => H) (fun i hi => absurd hi (Nat.not_lt_zero i)) (by decide) (fun t ht hp => ?_) (by omega)
    have hr := ty_nil m most 0 H t
    rw [norm_zip ht hp] at hr
    exact code_of_tell hr (obs2_cons (okIlt (by simp)) obs2_nil)
  | some L =>
    obtain ⟨ro, hg⟩ := hg L rfl
    have es : svQ (vrow (some L)) cp b = .slice b 0 L.length cp := by simp [svQ, vrow]
    have ei : ints (some L) = L := rfl
    rw [es, ei]
    rw [ei] at hL hm
    have o2 := fun i (hi : i < L.length) => okIa (X := XE) b L.length i cp hi
    have go : ∀ (i : Nat) k, L[i]? = some k → typeR k = true → ∀ t : List V, t.length = 28 → proj tyKs t = tyVs (.slice b 0 L.length cp) most i →
        ∃ t', exec Tryz.prog (callN Tryz.prog XE (m + 1)) [] (m + 1) tyBody ⟨t, H⟩ = some (.normal, ⟨t', H⟩) ∧ t'.length = 28 ∧ proj tyKs t' = tyVs (.slice b 0 L.length cp) most (i + 1 : Nat) := by
      intro i k hk hy t ht hp
      have hi := lt_of_get hk
      simp only [typeR, Bool.and_eq_true, decide_eq_true_eq] at hy
      have o3 : ∀ x, (ldX x H b i k).ok Tryz.prog XE := fun x => okLdx agg3 hg (by simp [hk])
      have hr := ty_go cp m b L.length i most i ((i + 1 : Nat) : Int) k H t
      rw [norm_zip ht hp] at hr
      exact code_of_tell hr (obs2_cons (okIlt (by simp; omega)) (obs2_cons (o2 i hi) (obs2_cons (o3 14) (obs2_cons (okIlt (by simp; omega)) (obs2_cons (o2 i hi) (obs2_cons (o3 20) (obs2_cons (okIgt (by simp; omega)) (obs2_cons (okInc i (by omega)) obs2_nil))))))))
    rcases first_bad (ok := fun i => ∀ k, L[i]? = some k → typeR k = true) L.length with hall | ⟨i, hi, hbef, hbad⟩
    · have ha : L.all typeR = true := all_of fun i k hk => hall i (lt_of_get hk) k hk
      refine run_heap (ty_yes cp (m + 1) b L.length most L.length H _ _) (obs2_cons (ok_loopk tyKs (tyVs (.slice b 0 L.length cp) most L.length) rfl ?_) (obs2_cons (okIle (by simp [typesR, ha])) obs2_nil))
      refine scan_at (n := L.length) (vs := fun i => tyVs (.slice b 0 L.length cp) most i) (hs := fun _ => H) (fun i hi => ?_) (by decide) (fun t ht hp => ?_) hm
      · obtain ⟨k, hk⟩ := get_of_lt hi
        exact go i k hk (hall i hi k hk)
      · have hr := ty_out cp m b L.length most L.length H t
        rw [norm_zip ht hp] at hr
        exact code_of_tell hr (obs2_cons (okIlt (by simp)) obs2_nil)
    · obtain ⟨k, hk⟩ := get_of_lt hi
      have hf : typeR k = false := by
        cases h : typeR k with
        | false => rfl
        | true => exact absurd (fun k' hk' => by rw [hk] at hk'; cases hk'; exact h) hbad
      have ha : typesR L most = false := by simp [typesR, all_not hk hf]
      rw [ha]
      refine run_heap (ty_no cp (m + 1) b L.length most H _) (obs2_cons (ok_loopk [4] [.bool false] rfl ?_) obs2_nil)
      refine scan_at (n := i) (vs := fun i => tyVs (.slice b 0 L.length cp) most i) (hs := fun _ => H) (fun j hj => ?_) (by decide) (fun t ht hp => ?_) (by omega)
      · obtain ⟨k', hk'⟩ := get_of_lt (show j < L.length by omega)
        exact go j k' hk' (hbef j hj k' hk')
      · have o3 : ∀ x, (ldX x H b i k).ok Tryz.prog XE := fun x => okLdx agg3 hg (by simp [hk])
        simp only [typeR, Bool.and_eq_false_iff, decide_eq_false_iff_not] at hf
        by_cases h1 : k < 1
        · have hr := ty_b1 cp m b L.length i most i k H t
          rw [norm_zip ht hp] at hr
          exact code_of_tell hr (obs2_cons (okIlt (by simp; omega)) (obs2_cons (o2 i hi) (obs2_cons (o3 14) (obs2_cons (okIlt (by simp; omega)) obs2_nil))))
        · have hr := ty_b2 cp m b L.length i most i k H t
          rw [norm_zip ht hp] at hr
          exact code_of_tell hr (obs2_cons (okIlt (by simp; omega)) (obs2_cons (o2 i hi) (obs2_cons (o3 14) (obs2_cons (okIlt (by simp; omega)) (obs2_cons (o2 i hi) (obs2_cons (o3 20) (obs2_cons (okIgt (by simp; omega)) obs2_nil)))))))

end Go.AM

/-
  An instruction: may it be? Both answers, and that they are one.
-/
set_option linter.unusedSectionVars false
set_option linter.unusedVariables false
set_option linter.unusedSimpArgs false
namespace Go.AM
open Go.Proofs Go.RowKit

abbrev insA (op a : Int) : V := .agg [i64 op, i64 a]
def takeRange (k : Int) (nc nf slots : Int) (a : Int) : Bool :=
  if k = 1 then true else if k = 2 then decide (0 ≤ a) && decide (a < nc) else if k = 3 then decide (0 ≤ a) && decide (a < slots) else if k = 4 then decide (1 ≤ a) && decide (a ≤ 64) else if k = 5 then decide (0 ≤ a) && decide (a < nf) else decide (a = 0)
def instrR (nc nf slots op a : Int) : Bool := if op < 1 ∨ op > 53 then false else takeRange (takesA op) nc nf slots a

/-- A slice of so many. -/
def LenIs (v : V) (n : Nat) : Prop := (v = .nilslice ∧ n = 0) ∨ ∃ b cp, v = .slice b 0 n cp

theorem okAddI {X : Ext} {a b c : Int} (h : a + b = c) (hc : In64 c) : (Ob2.bin .add 3 (i64 a) (i64 b) (i64 c)).ok Tryz.prog X := by
  subst h
  show some (V.int .i64 (wr .i64 (a + b))) = _
  have : wr .i64 (a + b) = a + b := by
    unfold wr loK hiK
    rw [if_pos ⟨by simp only [In64] at hc; simp only; omega, by simp only [In64] at hc; simp only; omega⟩]
  rw [this]
theorem okSubI {X : Ext} {a b c : Int} (h : a - b = c) (hc : In64 c) : (Ob2.bin .sub 3 (i64 a) (i64 b) (i64 c)).ok Tryz.prog X := by
  subst h
  show some (V.int .i64 (wr .i64 (a - b))) = _
  have : wr .i64 (a - b) = a - b := by
    unfold wr loK hiK
    rw [if_pos ⟨by simp only [In64] at hc; simp only; omega, by simp only [In64] at hc; simp only; omega⟩]
  rw [this]
theorem okMulI {X : Ext} {a b c : Int} (h : a * b = c) (hc : In64 c) : (Ob2.bin .mul 3 (i64 a) (i64 b) (i64 c)).ok Tryz.prog X := by
  subst h
  show some (V.int .i64 (wr .i64 (a * b))) = _
  have : wr .i64 (a * b) = a * b := by
    unfold wr loK hiK
    rw [if_pos ⟨by simp only [In64] at hc; simp only; omega, by simp only [In64] at hc; simp only; omega⟩]
  rw [this]

theorem in_lo (m : Nat) (sc sf : V) (slots op a k q : Int) (nm : List UInt8) (H : Heap) (r : Bool) :
    tellHeap Tryz.prog XE (m + 2) 74 [.agg [sc, sf], i64 slots, insA op a] H [tv 74 9 true] =
      (some ((V.bool false), (H, [(Ob2.bin Go.BinOp.lss 3 (i64 op) (i64 1) (V.bool true))]))) := by kernel_rfl
theorem in_hi (m : Nat) (sc sf : V) (slots op a k q : Int) (nm : List UInt8) (H : Heap) (r : Bool) :
    tellHeap Tryz.prog XE (m + 2) 74 [.agg [sc, sf], i64 slots, insA op a] H [tv 74 9 false, tv 74 13 true] =
      (some ((V.bool false), (H, [(Ob2.bin Go.BinOp.lss 3 (i64 op) (i64 1) (V.bool false)), (Ob2.bin Go.BinOp.gtr 3 (i64 op) (i64 53) (V.bool true))]))) := by kernel_rfl
theorem in_1 (m : Nat) (sc sf : V) (slots op a k q : Int) (nm : List UInt8) (H : Heap) (r : Bool) :
    tellHeap Tryz.prog XE (m + 2) 74 [.agg [sc, sf], i64 slots, insA op a] H [tv 74 9 false, tv 74 13 false, tp 74 17 (i64 k), tv 74 19 true] =
      (some ((V.bool true), (H, [(Ob2.bin Go.BinOp.lss 3 (i64 op) (i64 1) (V.bool false)), (Ob2.bin Go.BinOp.gtr 3 (i64 op) (i64 53) (V.bool false)), (Ob2.rd 34 [(i64 op)] (i64 k)), (Ob2.bin Go.BinOp.eql 3 (i64 k) (i64 1) (V.bool true))]))) := by kernel_rfl
theorem in_2n (m : Nat) (sc sf : V) (slots op a k q : Int) (nm : List UInt8) (H : Heap) (r : Bool) :
    tellHeap Tryz.prog XE (m + 2) 74 [.agg [sc, sf], i64 slots, insA op a] H [tv 74 9 false, tv 74 13 false, tp 74 17 (i64 k), tv 74 19 false, tv 74 21 true, tv 74 24 false] =
      (some ((V.bool false), (H, [(Ob2.bin Go.BinOp.lss 3 (i64 op) (i64 1) (V.bool false)), (Ob2.bin Go.BinOp.gtr 3 (i64 op) (i64 53) (V.bool false)), (Ob2.rd 34 [(i64 op)] (i64 k)), (Ob2.bin Go.BinOp.eql 3 (i64 k) (i64 1) (V.bool false)), (Ob2.bin Go.BinOp.eql 3 (i64 k) (i64 2) (V.bool true)), (Ob2.bin Go.BinOp.geq 3 (i64 a) (i64 0) (V.bool false))]))) := by kernel_rfl
theorem in_2s (m : Nat) (sc sf : V) (slots op a k q : Int) (nm : List UInt8) (H : Heap) (r : Bool) (b n : Nat) (cp : Option Nat) :
    tellHeap Tryz.prog XE (m + 2) 74 [.agg [.slice b 0 n cp, sf], i64 slots, insA op a] H [tv 74 9 false, tv 74 13 false, tp 74 17 (i64 k), tv 74 19 false, tv 74 21 true, tv 74 24 true, tv 74 31 r] =
      (some ((V.bool r), (H, [(Ob2.bin Go.BinOp.lss 3 (i64 op) (i64 1) (V.bool false)), (Ob2.bin Go.BinOp.gtr 3 (i64 op) (i64 53) (V.bool false)), (Ob2.rd 34 [(i64 op)] (i64 k)), (Ob2.bin Go.BinOp.eql 3 (i64 k) (i64 1) (V.bool false)), (Ob2.bin Go.BinOp.eql 3 (i64 k) (i64 2) (V.bool true)), (Ob2.bin Go.BinOp.geq 3 (i64 a) (i64 0) (V.bool true)), (Ob2.bin Go.BinOp.lss 3 (i64 a) (i64 n) (V.bool r))]))) := by kernel_rfl
theorem in_2z (m : Nat) (sc sf : V) (slots op a k q : Int) (nm : List UInt8) (H : Heap) (r : Bool) :
    tellHeap Tryz.prog XE (m + 2) 74 [.agg [.nilslice, sf], i64 slots, insA op a] H [tv 74 9 false, tv 74 13 false, tp 74 17 (i64 k), tv 74 19 false, tv 74 21 true, tv 74 24 true, tv 74 31 r] =
      (some ((V.bool r), (H, [(Ob2.bin Go.BinOp.lss 3 (i64 op) (i64 1) (V.bool false)), (Ob2.bin Go.BinOp.gtr 3 (i64 op) (i64 53) (V.bool false)), (Ob2.rd 34 [(i64 op)] (i64 k)), (Ob2.bin Go.BinOp.eql 3 (i64 k) (i64 1) (V.bool false)), (Ob2.bin Go.BinOp.eql 3 (i64 k) (i64 2) (V.bool true)), (Ob2.bin Go.BinOp.geq 3 (i64 a) (i64 0) (V.bool true)), (Ob2.bin Go.BinOp.lss 3 (i64 a) (i64 0) (V.bool r))]))) := by kernel_rfl
theorem in_3n (m : Nat) (sc sf : V) (slots op a k q : Int) (nm : List UInt8) (H : Heap) (r : Bool) :
    tellHeap Tryz.prog XE (m + 2) 74 [.agg [sc, sf], i64 slots, insA op a] H [tv 74 9 false, tv 74 13 false, tp 74 17 (i64 k), tv 74 19 false, tv 74 21 false, tv 74 34 true, tv 74 37 false] =
      (some ((V.bool false), (H, [(Ob2.bin Go.BinOp.lss 3 (i64 op) (i64 1) (V.bool false)), (Ob2.bin Go.BinOp.gtr 3 (i64 op) (i64 53) (V.bool false)), (Ob2.rd 34 [(i64 op)] (i64 k)), (Ob2.bin Go.BinOp.eql 3 (i64 k) (i64 1) (V.bool false)), (Ob2.bin Go.BinOp.eql 3 (i64 k) (i64 2) (V.bool false)), (Ob2.bin Go.BinOp.eql 3 (i64 k) (i64 3) (V.bool true)), (Ob2.bin Go.BinOp.geq 3 (i64 a) (i64 0) (V.bool false))]))) := by kernel_rfl
theorem in_3s (m : Nat) (sc sf : V) (slots op a k q : Int) (nm : List UInt8) (H : Heap) (r : Bool) :
    tellHeap Tryz.prog XE (m + 2) 74 [.agg [sc, sf], i64 slots, insA op a] H [tv 74 9 false, tv 74 13 false, tp 74 17 (i64 k), tv 74 19 false, tv 74 21 false, tv 74 34 true, tv 74 37 true, tv 74 42 r] =
      (some ((V.bool r), (H, [(Ob2.bin Go.BinOp.lss 3 (i64 op) (i64 1) (V.bool false)), (Ob2.bin Go.BinOp.gtr 3 (i64 op) (i64 53) (V.bool false)), (Ob2.rd 34 [(i64 op)] (i64 k)), (Ob2.bin Go.BinOp.eql 3 (i64 k) (i64 1) (V.bool false)), (Ob2.bin Go.BinOp.eql 3 (i64 k) (i64 2) (V.bool false)), (Ob2.bin Go.BinOp.eql 3 (i64 k) (i64 3) (V.bool true)), (Ob2.bin Go.BinOp.geq 3 (i64 a) (i64 0) (V.bool true)), (Ob2.bin Go.BinOp.lss 3 (i64 a) (i64 slots) (V.bool r))]))) := by kernel_rfl
theorem in_4n (m : Nat) (sc sf : V) (slots op a k q : Int) (nm : List UInt8) (H : Heap) (r : Bool) :
    tellHeap Tryz.prog XE (m + 2) 74 [.agg [sc, sf], i64 slots, insA op a] H [tv 74 9 false, tv 74 13 false, tp 74 17 (i64 k), tv 74 19 false, tv 74 21 false, tv 74 34 false, tv 74 45 true, tv 74 48 false] =
      (some ((V.bool false), (H, [(Ob2.bin Go.BinOp.lss 3 (i64 op) (i64 1) (V.bool false)), (Ob2.bin Go.BinOp.gtr 3 (i64 op) (i64 53) (V.bool false)), (Ob2.rd 34 [(i64 op)] (i64 k)), (Ob2.bin Go.BinOp.eql 3 (i64 k) (i64 1) (V.bool false)), (Ob2.bin Go.BinOp.eql 3 (i64 k) (i64 2) (V.bool false)), (Ob2.bin Go.BinOp.eql 3 (i64 k) (i64 3) (V.bool false)), (Ob2.bin Go.BinOp.eql 3 (i64 k) (i64 4) (V.bool true)), (Ob2.bin Go.BinOp.geq 3 (i64 a) (i64 1) (V.bool false))]))) := by kernel_rfl
theorem in_4s (m : Nat) (sc sf : V) (slots op a k q : Int) (nm : List UInt8) (H : Heap) (r : Bool) :
    tellHeap Tryz.prog XE (m + 2) 74 [.agg [sc, sf], i64 slots, insA op a] H [tv 74 9 false, tv 74 13 false, tp 74 17 (i64 k), tv 74 19 false, tv 74 21 false, tv 74 34 false, tv 74 45 true, tv 74 48 true, tv 74 52 r] =
      (some ((V.bool r), (H, [(Ob2.bin Go.BinOp.lss 3 (i64 op) (i64 1) (V.bool false)), (Ob2.bin Go.BinOp.gtr 3 (i64 op) (i64 53) (V.bool false)), (Ob2.rd 34 [(i64 op)] (i64 k)), (Ob2.bin Go.BinOp.eql 3 (i64 k) (i64 1) (V.bool false)), (Ob2.bin Go.BinOp.eql 3 (i64 k) (i64 2) (V.bool false)), (Ob2.bin Go.BinOp.eql 3 (i64 k) (i64 3) (V.bool false)), (Ob2.bin Go.BinOp.eql 3 (i64 k) (i64 4) (V.bool true)), (Ob2.bin Go.BinOp.geq 3 (i64 a) (i64 1) (V.bool true)), (Ob2.bin Go.BinOp.leq 3 (i64 a) (i64 64) (V.bool r))]))) := by kernel_rfl
theorem in_5n (m : Nat) (sc sf : V) (slots op a k q : Int) (nm : List UInt8) (H : Heap) (r : Bool) :
    tellHeap Tryz.prog XE (m + 2) 74 [.agg [sc, sf], i64 slots, insA op a] H [tv 74 9 false, tv 74 13 false, tp 74 17 (i64 k), tv 74 19 false, tv 74 21 false, tv 74 34 false, tv 74 45 false, tv 74 55 true, tv 74 58 false] =
      (some ((V.bool false), (H, [(Ob2.bin Go.BinOp.lss 3 (i64 op) (i64 1) (V.bool false)), (Ob2.bin Go.BinOp.gtr 3 (i64 op) (i64 53) (V.bool false)), (Ob2.rd 34 [(i64 op)] (i64 k)), (Ob2.bin Go.BinOp.eql 3 (i64 k) (i64 1) (V.bool false)), (Ob2.bin Go.BinOp.eql 3 (i64 k) (i64 2) (V.bool false)), (Ob2.bin Go.BinOp.eql 3 (i64 k) (i64 3) (V.bool false)), (Ob2.bin Go.BinOp.eql 3 (i64 k) (i64 4) (V.bool false)), (Ob2.bin Go.BinOp.eql 3 (i64 k) (i64 5) (V.bool true)), (Ob2.bin Go.BinOp.geq 3 (i64 a) (i64 0) (V.bool false))]))) := by kernel_rfl
theorem in_5s (m : Nat) (sc sf : V) (slots op a k q : Int) (nm : List UInt8) (H : Heap) (r : Bool) (b n : Nat) (cp : Option Nat) :
    tellHeap Tryz.prog XE (m + 2) 74 [.agg [sc, .slice b 0 n cp], i64 slots, insA op a] H [tv 74 9 false, tv 74 13 false, tp 74 17 (i64 k), tv 74 19 false, tv 74 21 false, tv 74 34 false, tv 74 45 false, tv 74 55 true, tv 74 58 true, tv 74 65 r] =
      (some ((V.bool r), (H, [(Ob2.bin Go.BinOp.lss 3 (i64 op) (i64 1) (V.bool false)), (Ob2.bin Go.BinOp.gtr 3 (i64 op) (i64 53) (V.bool false)), (Ob2.rd 34 [(i64 op)] (i64 k)), (Ob2.bin Go.BinOp.eql 3 (i64 k) (i64 1) (V.bool false)), (Ob2.bin Go.BinOp.eql 3 (i64 k) (i64 2) (V.bool false)), (Ob2.bin Go.BinOp.eql 3 (i64 k) (i64 3) (V.bool false)), (Ob2.bin Go.BinOp.eql 3 (i64 k) (i64 4) (V.bool false)), (Ob2.bin Go.BinOp.eql 3 (i64 k) (i64 5) (V.bool true)), (Ob2.bin Go.BinOp.geq 3 (i64 a) (i64 0) (V.bool true)), (Ob2.bin Go.BinOp.lss 3 (i64 a) (i64 n) (V.bool r))]))) := by kernel_rfl
theorem in_5z (m : Nat) (sc sf : V) (slots op a k q : Int) (nm : List UInt8) (H : Heap) (r : Bool) :
    tellHeap Tryz.prog XE (m + 2) 74 [.agg [sc, .nilslice], i64 slots, insA op a] H [tv 74 9 false, tv 74 13 false, tp 74 17 (i64 k), tv 74 19 false, tv 74 21 false, tv 74 34 false, tv 74 45 false, tv 74 55 true, tv 74 58 true, tv 74 65 r] =
      (some ((V.bool r), (H, [(Ob2.bin Go.BinOp.lss 3 (i64 op) (i64 1) (V.bool false)), (Ob2.bin Go.BinOp.gtr 3 (i64 op) (i64 53) (V.bool false)), (Ob2.rd 34 [(i64 op)] (i64 k)), (Ob2.bin Go.BinOp.eql 3 (i64 k) (i64 1) (V.bool false)), (Ob2.bin Go.BinOp.eql 3 (i64 k) (i64 2) (V.bool false)), (Ob2.bin Go.BinOp.eql 3 (i64 k) (i64 3) (V.bool false)), (Ob2.bin Go.BinOp.eql 3 (i64 k) (i64 4) (V.bool false)), (Ob2.bin Go.BinOp.eql 3 (i64 k) (i64 5) (V.bool true)), (Ob2.bin Go.BinOp.geq 3 (i64 a) (i64 0) (V.bool true)), (Ob2.bin Go.BinOp.lss 3 (i64 a) (i64 0) (V.bool r))]))) := by kernel_rfl
theorem in_0 (m : Nat) (sc sf : V) (slots op a k q : Int) (nm : List UInt8) (H : Heap) (r : Bool) :
    tellHeap Tryz.prog XE (m + 2) 74 [.agg [sc, sf], i64 slots, insA op a] H [tv 74 9 false, tv 74 13 false, tp 74 17 (i64 k), tv 74 19 false, tv 74 21 false, tv 74 34 false, tv 74 45 false, tv 74 55 false, tv 74 69 r] =
      (some ((V.bool r), (H, [(Ob2.bin Go.BinOp.lss 3 (i64 op) (i64 1) (V.bool false)), (Ob2.bin Go.BinOp.gtr 3 (i64 op) (i64 53) (V.bool false)), (Ob2.rd 34 [(i64 op)] (i64 k)), (Ob2.bin Go.BinOp.eql 3 (i64 k) (i64 1) (V.bool false)), (Ob2.bin Go.BinOp.eql 3 (i64 k) (i64 2) (V.bool false)), (Ob2.bin Go.BinOp.eql 3 (i64 k) (i64 3) (V.bool false)), (Ob2.bin Go.BinOp.eql 3 (i64 k) (i64 4) (V.bool false)), (Ob2.bin Go.BinOp.eql 3 (i64 k) (i64 5) (V.bool false)), (Ob2.bin Go.BinOp.eql 3 (i64 a) (i64 0) (V.bool r))]))) := by kernel_rfl
theorem co_1 (m : Nat) (sc sf : V) (slots op a k q : Int) (nm : List UInt8) (H : Heap) (r : Bool) :
    tellHeap Tryz.prog XE (m + 2) 66 [.agg [sc, sf], i64 slots, insA op a] H [tp 66 11 (i64 k), tv 66 13 true] =
      (some ((V.bool true), (H, [(Ob2.rd 31 [(i64 op)] (i64 k)), (Ob2.bin Go.BinOp.eql 3 (i64 k) (i64 1) (V.bool true))]))) := by kernel_rfl
theorem co_2e (m : Nat) (sc sf : V) (slots op a k q : Int) (nm : List UInt8) (H : Heap) (r : Bool) (b n : Nat) (cp : Option Nat) :
    tellHeap Tryz.prog XE (m + 2) 66 [.agg [.slice b 0 n cp, sf], i64 slots, insA op a] H [tp 66 11 (i64 k), tv 66 13 false, tv 66 15 true, tp 66 19 (i64 q), tp 66 34 (.str nm), tv 66 35 false] =
      (some ((V.bool false), (H, [(Ob2.rd 31 [(i64 op)] (i64 k)), (Ob2.bin Go.BinOp.eql 3 (i64 k) (i64 1) (V.bool false)), (Ob2.bin Go.BinOp.eql 3 (i64 k) (i64 2) (V.bool true)), (Ob2.bin Go.BinOp.sub 3 (i64 n) (i64 1) (i64 q)), (Ob2.rd 30 [(i64 op)] (V.str nm)), (Ob2.bin Go.BinOp.neq 9 (V.str nm) (V.str []) (V.bool false))]))) := by kernel_rfl
theorem co_2n (m : Nat) (sc sf : V) (slots op a k q : Int) (nm : List UInt8) (H : Heap) (r : Bool) (b n : Nat) (cp : Option Nat) :
    tellHeap Tryz.prog XE (m + 2) 66 [.agg [.slice b 0 n cp, sf], i64 slots, insA op a] H [tp 66 11 (i64 k), tv 66 13 false, tv 66 15 true, tp 66 19 (i64 q), tp 66 34 (.str nm), tv 66 35 true, tv 66 40 false] =
      (some ((V.bool false), (H, [(Ob2.rd 31 [(i64 op)] (i64 k)), (Ob2.bin Go.BinOp.eql 3 (i64 k) (i64 1) (V.bool false)), (Ob2.bin Go.BinOp.eql 3 (i64 k) (i64 2) (V.bool true)), (Ob2.bin Go.BinOp.sub 3 (i64 n) (i64 1) (i64 q)), (Ob2.rd 30 [(i64 op)] (V.str nm)), (Ob2.bin Go.BinOp.neq 9 (V.str nm) (V.str []) (V.bool true)), (Ob2.bin Go.BinOp.geq 3 (i64 a) (i64 0) (V.bool false))]))) := by kernel_rfl
theorem co_2s (m : Nat) (sc sf : V) (slots op a k q : Int) (nm : List UInt8) (H : Heap) (r : Bool) (b n : Nat) (cp : Option Nat) :
    tellHeap Tryz.prog XE (m + 2) 66 [.agg [.slice b 0 n cp, sf], i64 slots, insA op a] H [tp 66 11 (i64 k), tv 66 13 false, tv 66 15 true, tp 66 19 (i64 q), tp 66 34 (.str nm), tv 66 35 true, tv 66 40 true, tv 66 46 r] =
      (some ((V.bool r), (H, [(Ob2.rd 31 [(i64 op)] (i64 k)), (Ob2.bin Go.BinOp.eql 3 (i64 k) (i64 1) (V.bool false)), (Ob2.bin Go.BinOp.eql 3 (i64 k) (i64 2) (V.bool true)), (Ob2.bin Go.BinOp.sub 3 (i64 n) (i64 1) (i64 q)), (Ob2.rd 30 [(i64 op)] (V.str nm)), (Ob2.bin Go.BinOp.neq 9 (V.str nm) (V.str []) (V.bool true)), (Ob2.bin Go.BinOp.geq 3 (i64 a) (i64 0) (V.bool true)), (Ob2.bin Go.BinOp.leq 3 (i64 a) (i64 q) (V.bool r))]))) := by kernel_rfl
theorem co_2ze (m : Nat) (sc sf : V) (slots op a k q : Int) (nm : List UInt8) (H : Heap) (r : Bool) :
    tellHeap Tryz.prog XE (m + 2) 66 [.agg [.nilslice, sf], i64 slots, insA op a] H [tp 66 11 (i64 k), tv 66 13 false, tv 66 15 true, tp 66 19 (i64 q), tp 66 34 (.str nm), tv 66 35 false] =
      (some ((V.bool false), (H, [(Ob2.rd 31 [(i64 op)] (i64 k)), (Ob2.bin Go.BinOp.eql 3 (i64 k) (i64 1) (V.bool false)), (Ob2.bin Go.BinOp.eql 3 (i64 k) (i64 2) (V.bool true)), (Ob2.bin Go.BinOp.sub 3 (i64 0) (i64 1) (i64 q)), (Ob2.rd 30 [(i64 op)] (V.str nm)), (Ob2.bin Go.BinOp.neq 9 (V.str nm) (V.str []) (V.bool false))]))) := by kernel_rfl
theorem co_2zn (m : Nat) (sc sf : V) (slots op a k q : Int) (nm : List UInt8) (H : Heap) (r : Bool) :
    tellHeap Tryz.prog XE (m + 2) 66 [.agg [.nilslice, sf], i64 slots, insA op a] H [tp 66 11 (i64 k), tv 66 13 false, tv 66 15 true, tp 66 19 (i64 q), tp 66 34 (.str nm), tv 66 35 true, tv 66 40 false] =
      (some ((V.bool false), (H, [(Ob2.rd 31 [(i64 op)] (i64 k)), (Ob2.bin Go.BinOp.eql 3 (i64 k) (i64 1) (V.bool false)), (Ob2.bin Go.BinOp.eql 3 (i64 k) (i64 2) (V.bool true)), (Ob2.bin Go.BinOp.sub 3 (i64 0) (i64 1) (i64 q)), (Ob2.rd 30 [(i64 op)] (V.str nm)), (Ob2.bin Go.BinOp.neq 9 (V.str nm) (V.str []) (V.bool true)), (Ob2.bin Go.BinOp.geq 3 (i64 a) (i64 0) (V.bool false))]))) := by kernel_rfl
theorem co_2zs (m : Nat) (sc sf : V) (slots op a k q : Int) (nm : List UInt8) (H : Heap) (r : Bool) :
    tellHeap Tryz.prog XE (m + 2) 66 [.agg [.nilslice, sf], i64 slots, insA op a] H [tp 66 11 (i64 k), tv 66 13 false, tv 66 15 true, tp 66 19 (i64 q), tp 66 34 (.str nm), tv 66 35 true, tv 66 40 true, tv 66 46 r] =
      (some ((V.bool r), (H, [(Ob2.rd 31 [(i64 op)] (i64 k)), (Ob2.bin Go.BinOp.eql 3 (i64 k) (i64 1) (V.bool false)), (Ob2.bin Go.BinOp.eql 3 (i64 k) (i64 2) (V.bool true)), (Ob2.bin Go.BinOp.sub 3 (i64 0) (i64 1) (i64 q)), (Ob2.rd 30 [(i64 op)] (V.str nm)), (Ob2.bin Go.BinOp.neq 9 (V.str nm) (V.str []) (V.bool true)), (Ob2.bin Go.BinOp.geq 3 (i64 a) (i64 0) (V.bool true)), (Ob2.bin Go.BinOp.leq 3 (i64 a) (i64 q) (V.bool r))]))) := by kernel_rfl
theorem co_3e (m : Nat) (sc sf : V) (slots op a k q : Int) (nm : List UInt8) (H : Heap) (r : Bool) :
    tellHeap Tryz.prog XE (m + 2) 66 [.agg [sc, sf], i64 slots, insA op a] H [tp 66 11 (i64 k), tv 66 13 false, tv 66 15 false, tv 66 21 true, tp 66 23 (i64 q), tp 66 34 (.str nm), tv 66 35 false] =
      (some ((V.bool false), (H, [(Ob2.rd 31 [(i64 op)] (i64 k)), (Ob2.bin Go.BinOp.eql 3 (i64 k) (i64 1) (V.bool false)), (Ob2.bin Go.BinOp.eql 3 (i64 k) (i64 2) (V.bool false)), (Ob2.bin Go.BinOp.eql 3 (i64 k) (i64 3) (V.bool true)), (Ob2.bin Go.BinOp.sub 3 (i64 slots) (i64 1) (i64 q)), (Ob2.rd 30 [(i64 op)] (V.str nm)), (Ob2.bin Go.BinOp.neq 9 (V.str nm) (V.str []) (V.bool false))]))) := by kernel_rfl
theorem co_3n (m : Nat) (sc sf : V) (slots op a k q : Int) (nm : List UInt8) (H : Heap) (r : Bool) :
    tellHeap Tryz.prog XE (m + 2) 66 [.agg [sc, sf], i64 slots, insA op a] H [tp 66 11 (i64 k), tv 66 13 false, tv 66 15 false, tv 66 21 true, tp 66 23 (i64 q), tp 66 34 (.str nm), tv 66 35 true, tv 66 40 false] =
      (some ((V.bool false), (H, [(Ob2.rd 31 [(i64 op)] (i64 k)), (Ob2.bin Go.BinOp.eql 3 (i64 k) (i64 1) (V.bool false)), (Ob2.bin Go.BinOp.eql 3 (i64 k) (i64 2) (V.bool false)), (Ob2.bin Go.BinOp.eql 3 (i64 k) (i64 3) (V.bool true)), (Ob2.bin Go.BinOp.sub 3 (i64 slots) (i64 1) (i64 q)), (Ob2.rd 30 [(i64 op)] (V.str nm)), (Ob2.bin Go.BinOp.neq 9 (V.str nm) (V.str []) (V.bool true)), (Ob2.bin Go.BinOp.geq 3 (i64 a) (i64 0) (V.bool false))]))) := by kernel_rfl
theorem co_3s (m : Nat) (sc sf : V) (slots op a k q : Int) (nm : List UInt8) (H : Heap) (r : Bool) :
    tellHeap Tryz.prog XE (m + 2) 66 [.agg [sc, sf], i64 slots, insA op a] H [tp 66 11 (i64 k), tv 66 13 false, tv 66 15 false, tv 66 21 true, tp 66 23 (i64 q), tp 66 34 (.str nm), tv 66 35 true, tv 66 40 true, tv 66 46 r] =
      (some ((V.bool r), (H, [(Ob2.rd 31 [(i64 op)] (i64 k)), (Ob2.bin Go.BinOp.eql 3 (i64 k) (i64 1) (V.bool false)), (Ob2.bin Go.BinOp.eql 3 (i64 k) (i64 2) (V.bool false)), (Ob2.bin Go.BinOp.eql 3 (i64 k) (i64 3) (V.bool true)), (Ob2.bin Go.BinOp.sub 3 (i64 slots) (i64 1) (i64 q)), (Ob2.rd 30 [(i64 op)] (V.str nm)), (Ob2.bin Go.BinOp.neq 9 (V.str nm) (V.str []) (V.bool true)), (Ob2.bin Go.BinOp.geq 3 (i64 a) (i64 0) (V.bool true)), (Ob2.bin Go.BinOp.leq 3 (i64 a) (i64 q) (V.bool r))]))) := by kernel_rfl
theorem co_4e (m : Nat) (sc sf : V) (slots op a k q : Int) (nm : List UInt8) (H : Heap) (r : Bool) :
    tellHeap Tryz.prog XE (m + 2) 66 [.agg [sc, sf], i64 slots, insA op a] H [tp 66 11 (i64 k), tv 66 13 false, tv 66 15 false, tv 66 21 false, tv 66 25 true, tp 66 34 (.str nm), tv 66 35 false] =
      (some ((V.bool false), (H, [(Ob2.rd 31 [(i64 op)] (i64 k)), (Ob2.bin Go.BinOp.eql 3 (i64 k) (i64 1) (V.bool false)), (Ob2.bin Go.BinOp.eql 3 (i64 k) (i64 2) (V.bool false)), (Ob2.bin Go.BinOp.eql 3 (i64 k) (i64 3) (V.bool false)), (Ob2.bin Go.BinOp.eql 3 (i64 k) (i64 4) (V.bool true)), (Ob2.rd 30 [(i64 op)] (V.str nm)), (Ob2.bin Go.BinOp.neq 9 (V.str nm) (V.str []) (V.bool false))]))) := by kernel_rfl
theorem co_4n (m : Nat) (sc sf : V) (slots op a k q : Int) (nm : List UInt8) (H : Heap) (r : Bool) :
    tellHeap Tryz.prog XE (m + 2) 66 [.agg [sc, sf], i64 slots, insA op a] H [tp 66 11 (i64 k), tv 66 13 false, tv 66 15 false, tv 66 21 false, tv 66 25 true, tp 66 34 (.str nm), tv 66 35 true, tv 66 40 false] =
      (some ((V.bool false), (H, [(Ob2.rd 31 [(i64 op)] (i64 k)), (Ob2.bin Go.BinOp.eql 3 (i64 k) (i64 1) (V.bool false)), (Ob2.bin Go.BinOp.eql 3 (i64 k) (i64 2) (V.bool false)), (Ob2.bin Go.BinOp.eql 3 (i64 k) (i64 3) (V.bool false)), (Ob2.bin Go.BinOp.eql 3 (i64 k) (i64 4) (V.bool true)), (Ob2.rd 30 [(i64 op)] (V.str nm)), (Ob2.bin Go.BinOp.neq 9 (V.str nm) (V.str []) (V.bool true)), (Ob2.bin Go.BinOp.geq 3 (i64 a) (i64 1) (V.bool false))]))) := by kernel_rfl
theorem co_4s (m : Nat) (sc sf : V) (slots op a k q : Int) (nm : List UInt8) (H : Heap) (r : Bool) :
    tellHeap Tryz.prog XE (m + 2) 66 [.agg [sc, sf], i64 slots, insA op a] H [tp 66 11 (i64 k), tv 66 13 false, tv 66 15 false, tv 66 21 false, tv 66 25 true, tp 66 34 (.str nm), tv 66 35 true, tv 66 40 true, tv 66 46 r] =
      (some ((V.bool r), (H, [(Ob2.rd 31 [(i64 op)] (i64 k)), (Ob2.bin Go.BinOp.eql 3 (i64 k) (i64 1) (V.bool false)), (Ob2.bin Go.BinOp.eql 3 (i64 k) (i64 2) (V.bool false)), (Ob2.bin Go.BinOp.eql 3 (i64 k) (i64 3) (V.bool false)), (Ob2.bin Go.BinOp.eql 3 (i64 k) (i64 4) (V.bool true)), (Ob2.rd 30 [(i64 op)] (V.str nm)), (Ob2.bin Go.BinOp.neq 9 (V.str nm) (V.str []) (V.bool true)), (Ob2.bin Go.BinOp.geq 3 (i64 a) (i64 1) (V.bool true)), (Ob2.bin Go.BinOp.leq 3 (i64 a) (i64 64) (V.bool r))]))) := by kernel_rfl
theorem co_5e (m : Nat) (sc sf : V) (slots op a k q : Int) (nm : List UInt8) (H : Heap) (r : Bool) (b n : Nat) (cp : Option Nat) :
    tellHeap Tryz.prog XE (m + 2) 66 [.agg [sc, .slice b 0 n cp], i64 slots, insA op a] H [tp 66 11 (i64 k), tv 66 13 false, tv 66 15 false, tv 66 21 false, tv 66 25 false, tv 66 27 true, tp 66 31 (i64 q), tp 66 34 (.str nm), tv 66 35 false] =
      (some ((V.bool false), (H, [(Ob2.rd 31 [(i64 op)] (i64 k)), (Ob2.bin Go.BinOp.eql 3 (i64 k) (i64 1) (V.bool false)), (Ob2.bin Go.BinOp.eql 3 (i64 k) (i64 2) (V.bool false)), (Ob2.bin Go.BinOp.eql 3 (i64 k) (i64 3) (V.bool false)), (Ob2.bin Go.BinOp.eql 3 (i64 k) (i64 4) (V.bool false)), (Ob2.bin Go.BinOp.eql 3 (i64 k) (i64 5) (V.bool true)), (Ob2.bin Go.BinOp.sub 3 (i64 n) (i64 1) (i64 q)), (Ob2.rd 30 [(i64 op)] (V.str nm)), (Ob2.bin Go.BinOp.neq 9 (V.str nm) (V.str []) (V.bool false))]))) := by kernel_rfl
theorem co_5n (m : Nat) (sc sf : V) (slots op a k q : Int) (nm : List UInt8) (H : Heap) (r : Bool) (b n : Nat) (cp : Option Nat) :
    tellHeap Tryz.prog XE (m + 2) 66 [.agg [sc, .slice b 0 n cp], i64 slots, insA op a] H [tp 66 11 (i64 k), tv 66 13 false, tv 66 15 false, tv 66 21 false, tv 66 25 false, tv 66 27 true, tp 66 31 (i64 q), tp 66 34 (.str nm), tv 66 35 true, tv 66 40 false] =
      (some ((V.bool false), (H, [(Ob2.rd 31 [(i64 op)] (i64 k)), (Ob2.bin Go.BinOp.eql 3 (i64 k) (i64 1) (V.bool false)), (Ob2.bin Go.BinOp.eql 3 (i64 k) (i64 2) (V.bool false)), (Ob2.bin Go.BinOp.eql 3 (i64 k) (i64 3) (V.bool false)), (Ob2.bin Go.BinOp.eql 3 (i64 k) (i64 4) (V.bool false)), (Ob2.bin Go.BinOp.eql 3 (i64 k) (i64 5) (V.bool true)), (Ob2.bin Go.BinOp.sub 3 (i64 n) (i64 1) (i64 q)), (Ob2.rd 30 [(i64 op)] (V.str nm)), (Ob2.bin Go.BinOp.neq 9 (V.str nm) (V.str []) (V.bool true)), (Ob2.bin Go.BinOp.geq 3 (i64 a) (i64 0) (V.bool false))]))) := by kernel_rfl
theorem co_5s (m : Nat) (sc sf : V) (slots op a k q : Int) (nm : List UInt8) (H : Heap) (r : Bool) (b n : Nat) (cp : Option Nat) :
    tellHeap Tryz.prog XE (m + 2) 66 [.agg [sc, .slice b 0 n cp], i64 slots, insA op a] H [tp 66 11 (i64 k), tv 66 13 false, tv 66 15 false, tv 66 21 false, tv 66 25 false, tv 66 27 true, tp 66 31 (i64 q), tp 66 34 (.str nm), tv 66 35 true, tv 66 40 true, tv 66 46 r] =
      (some ((V.bool r), (H, [(Ob2.rd 31 [(i64 op)] (i64 k)), (Ob2.bin Go.BinOp.eql 3 (i64 k) (i64 1) (V.bool false)), (Ob2.bin Go.BinOp.eql 3 (i64 k) (i64 2) (V.bool false)), (Ob2.bin Go.BinOp.eql 3 (i64 k) (i64 3) (V.bool false)), (Ob2.bin Go.BinOp.eql 3 (i64 k) (i64 4) (V.bool false)), (Ob2.bin Go.BinOp.eql 3 (i64 k) (i64 5) (V.bool true)), (Ob2.bin Go.BinOp.sub 3 (i64 n) (i64 1) (i64 q)), (Ob2.rd 30 [(i64 op)] (V.str nm)), (Ob2.bin Go.BinOp.neq 9 (V.str nm) (V.str []) (V.bool true)), (Ob2.bin Go.BinOp.geq 3 (i64 a) (i64 0) (V.bool true)), (Ob2.bin Go.BinOp.leq 3 (i64 a) (i64 q) (V.bool r))]))) := by kernel_rfl
theorem co_5ze (m : Nat) (sc sf : V) (slots op a k q : Int) (nm : List UInt8) (H : Heap) (r : Bool) :
    tellHeap Tryz.prog XE (m + 2) 66 [.agg [sc, .nilslice], i64 slots, insA op a] H [tp 66 11 (i64 k), tv 66 13 false, tv 66 15 false, tv 66 21 false, tv 66 25 false, tv 66 27 true, tp 66 31 (i64 q), tp 66 34 (.str nm), tv 66 35 false] =
      (some ((V.bool false), (H, [(Ob2.rd 31 [(i64 op)] (i64 k)), (Ob2.bin Go.BinOp.eql 3 (i64 k) (i64 1) (V.bool false)), (Ob2.bin Go.BinOp.eql 3 (i64 k) (i64 2) (V.bool false)), (Ob2.bin Go.BinOp.eql 3 (i64 k) (i64 3) (V.bool false)), (Ob2.bin Go.BinOp.eql 3 (i64 k) (i64 4) (V.bool false)), (Ob2.bin Go.BinOp.eql 3 (i64 k) (i64 5) (V.bool true)), (Ob2.bin Go.BinOp.sub 3 (i64 0) (i64 1) (i64 q)), (Ob2.rd 30 [(i64 op)] (V.str nm)), (Ob2.bin Go.BinOp.neq 9 (V.str nm) (V.str []) (V.bool false))]))) := by kernel_rfl
theorem co_5zn (m : Nat) (sc sf : V) (slots op a k q : Int) (nm : List UInt8) (H : Heap) (r : Bool) :
    tellHeap Tryz.prog XE (m + 2) 66 [.agg [sc, .nilslice], i64 slots, insA op a] H [tp 66 11 (i64 k), tv 66 13 false, tv 66 15 false, tv 66 21 false, tv 66 25 false, tv 66 27 true, tp 66 31 (i64 q), tp 66 34 (.str nm), tv 66 35 true, tv 66 40 false] =
      (some ((V.bool false), (H, [(Ob2.rd 31 [(i64 op)] (i64 k)), (Ob2.bin Go.BinOp.eql 3 (i64 k) (i64 1) (V.bool false)), (Ob2.bin Go.BinOp.eql 3 (i64 k) (i64 2) (V.bool false)), (Ob2.bin Go.BinOp.eql 3 (i64 k) (i64 3) (V.bool false)), (Ob2.bin Go.BinOp.eql 3 (i64 k) (i64 4) (V.bool false)), (Ob2.bin Go.BinOp.eql 3 (i64 k) (i64 5) (V.bool true)), (Ob2.bin Go.BinOp.sub 3 (i64 0) (i64 1) (i64 q)), (Ob2.rd 30 [(i64 op)] (V.str nm)), (Ob2.bin Go.BinOp.neq 9 (V.str nm) (V.str []) (V.bool true)), (Ob2.bin Go.BinOp.geq 3 (i64 a) (i64 0) (V.bool false))]))) := by kernel_rfl
theorem co_5zs (m : Nat) (sc sf : V) (slots op a k q : Int) (nm : List UInt8) (H : Heap) (r : Bool) :
    tellHeap Tryz.prog XE (m + 2) 66 [.agg [sc, .nilslice], i64 slots, insA op a] H [tp 66 11 (i64 k), tv 66 13 false, tv 66 15 false, tv 66 21 false, tv 66 25 false, tv 66 27 true, tp 66 31 (i64 q), tp 66 34 (.str nm), tv 66 35 true, tv 66 40 true, tv 66 46 r] =
      (some ((V.bool r), (H, [(Ob2.rd 31 [(i64 op)] (i64 k)), (Ob2.bin Go.BinOp.eql 3 (i64 k) (i64 1) (V.bool false)), (Ob2.bin Go.BinOp.eql 3 (i64 k) (i64 2) (V.bool false)), (Ob2.bin Go.BinOp.eql 3 (i64 k) (i64 3) (V.bool false)), (Ob2.bin Go.BinOp.eql 3 (i64 k) (i64 4) (V.bool false)), (Ob2.bin Go.BinOp.eql 3 (i64 k) (i64 5) (V.bool true)), (Ob2.bin Go.BinOp.sub 3 (i64 0) (i64 1) (i64 q)), (Ob2.rd 30 [(i64 op)] (V.str nm)), (Ob2.bin Go.BinOp.neq 9 (V.str nm) (V.str []) (V.bool true)), (Ob2.bin Go.BinOp.geq 3 (i64 a) (i64 0) (V.bool true)), (Ob2.bin Go.BinOp.leq 3 (i64 a) (i64 q) (V.bool r))]))) := by kernel_rfl
theorem co_0e (m : Nat) (sc sf : V) (slots op a k q : Int) (nm : List UInt8) (H : Heap) (r : Bool) :
    tellHeap Tryz.prog XE (m + 2) 66 [.agg [sc, sf], i64 slots, insA op a] H [tp 66 11 (i64 k), tv 66 13 false, tv 66 15 false, tv 66 21 false, tv 66 25 false, tv 66 27 false, tp 66 34 (.str nm), tv 66 35 false] =
      (some ((V.bool false), (H, [(Ob2.rd 31 [(i64 op)] (i64 k)), (Ob2.bin Go.BinOp.eql 3 (i64 k) (i64 1) (V.bool false)), (Ob2.bin Go.BinOp.eql 3 (i64 k) (i64 2) (V.bool false)), (Ob2.bin Go.BinOp.eql 3 (i64 k) (i64 3) (V.bool false)), (Ob2.bin Go.BinOp.eql 3 (i64 k) (i64 4) (V.bool false)), (Ob2.bin Go.BinOp.eql 3 (i64 k) (i64 5) (V.bool false)), (Ob2.rd 30 [(i64 op)] (V.str nm)), (Ob2.bin Go.BinOp.neq 9 (V.str nm) (V.str []) (V.bool false))]))) := by kernel_rfl
theorem co_0n (m : Nat) (sc sf : V) (slots op a k q : Int) (nm : List UInt8) (H : Heap) (r : Bool) :
    tellHeap Tryz.prog XE (m + 2) 66 [.agg [sc, sf], i64 slots, insA op a] H [tp 66 11 (i64 k), tv 66 13 false, tv 66 15 false, tv 66 21 false, tv 66 25 false, tv 66 27 false, tp 66 34 (.str nm), tv 66 35 true, tv 66 40 false] =
      (some ((V.bool false), (H, [(Ob2.rd 31 [(i64 op)] (i64 k)), (Ob2.bin Go.BinOp.eql 3 (i64 k) (i64 1) (V.bool false)), (Ob2.bin Go.BinOp.eql 3 (i64 k) (i64 2) (V.bool false)), (Ob2.bin Go.BinOp.eql 3 (i64 k) (i64 3) (V.bool false)), (Ob2.bin Go.BinOp.eql 3 (i64 k) (i64 4) (V.bool false)), (Ob2.bin Go.BinOp.eql 3 (i64 k) (i64 5) (V.bool false)), (Ob2.rd 30 [(i64 op)] (V.str nm)), (Ob2.bin Go.BinOp.neq 9 (V.str nm) (V.str []) (V.bool true)), (Ob2.bin Go.BinOp.geq 3 (i64 a) (i64 0) (V.bool false))]))) := by kernel_rfl
theorem co_0s (m : Nat) (sc sf : V) (slots op a k q : Int) (nm : List UInt8) (H : Heap) (r : Bool) :
    tellHeap Tryz.prog XE (m + 2) 66 [.agg [sc, sf], i64 slots, insA op a] H [tp 66 11 (i64 k), tv 66 13 false, tv 66 15 false, tv 66 21 false, tv 66 25 false, tv 66 27 false, tp 66 34 (.str nm), tv 66 35 true, tv 66 40 true, tv 66 46 r] =
      (some ((V.bool r), (H, [(Ob2.rd 31 [(i64 op)] (i64 k)), (Ob2.bin Go.BinOp.eql 3 (i64 k) (i64 1) (V.bool false)), (Ob2.bin Go.BinOp.eql 3 (i64 k) (i64 2) (V.bool false)), (Ob2.bin Go.BinOp.eql 3 (i64 k) (i64 3) (V.bool false)), (Ob2.bin Go.BinOp.eql 3 (i64 k) (i64 4) (V.bool false)), (Ob2.bin Go.BinOp.eql 3 (i64 k) (i64 5) (V.bool false)), (Ob2.rd 30 [(i64 op)] (V.str nm)), (Ob2.bin Go.BinOp.neq 9 (V.str nm) (V.str []) (V.bool true)), (Ob2.bin Go.BinOp.geq 3 (i64 a) (i64 0) (V.bool true)), (Ob2.bin Go.BinOp.leq 3 (i64 a) (i64 0) (V.bool r))]))) := by kernel_rfl

theorem okTakeR {X : Ext} {f : FuncId} (hX : X f = some (fun args h => ((takesN f).2 args).map (·, h))) (op : Int) : (Ob2.rd f [i64 op] (i64 (takesA op))).ok Tryz.prog X := ok_frd hX rfl (notup1 (fun l h => by cases h))
theorem okNameR {X : Ext} {f : FuncId} (hX : X f = some (fun args h => ((nameN f).2 args).map (·, h))) (op : Int) : (Ob2.rd f [i64 op] (.str (nameA op))).ok Tryz.prog X := ok_frd hX rfl (notup1 (fun l h => by cases h))
theorem nameA_in {n : Int} (h1 : 1 ≤ n) (h2 : n ≤ 53) : nameA n ≠ [] := by
  have key : (List.range 53).all (fun k => !((namesL.getD k []).isEmpty)) = true := by decide +kernel
  obtain ⟨k, rfl⟩ : ∃ k : Nat, n = ((k + 1 : Nat) : Int) := ⟨(n - 1).toNat, by omega⟩
  have := List.all_eq_true.1 key k (List.mem_range.2 (by omega))
  show namesL.getD k [] ≠ []
  intro h
  rw [h] at this
  cases this

theorem instr_run (m : Nat) (sc sf : V) (nc nf : Nat) (hc : LenIs sc nc) (hf : LenIs sf nf) (slots op a : Int) (H : Heap) : callN Tryz.prog XE (m + 2) 74 [.agg [sc, sf], i64 slots, insA op a] H = some (.bool (instrR nc nf slots op a), H) := by
  have tk := okTakeR (X := XE) (f := 34) rfl op
  unfold instrR
  by_cases h1 : op < 1
  · rw [if_pos (.inl h1)]
    exact run_heap (in_lo m sc sf slots op a 0 0 [] H true) (obs2_cons (okIlt (by simp [h1])) obs2_nil)
  have o1 : (obI .lss op 1 false).ok Tryz.prog XE := okIlt (by simp; omega)
  by_cases h2 : op > 53
  · rw [if_pos (.inr h2)]
    exact run_heap (in_hi m sc sf slots op a 0 0 [] H true) (obs2_cons (o1) (obs2_cons (okIgt (by simp; omega)) obs2_nil))
  have o2 : (obI .gtr op 53 false).ok Tryz.prog XE := okIgt (by simp; omega)
  rw [if_neg (by omega)]
  generalize takesA op = k at tk ⊢
  unfold takeRange
  by_cases k1 : k = 1
  · rw [if_pos k1]
    exact run_heap (in_1 m sc sf slots op a k 0 [] H true) (obs2_cons (o1) (obs2_cons (o2) (obs2_cons (tk) (obs2_cons (okIeq (by simp [k1])) obs2_nil))))
  have p1 : (obI .eql k 1 false).ok Tryz.prog XE := okIeq (by simp [k1])
  rw [if_neg k1]
  by_cases k2 : k = 2
  · rw [if_pos k2]
    have p2 : (obI .eql k 2 true).ok Tryz.prog XE := okIeq (by simp [k2])
    by_cases ha : 0 ≤ a
    · simp only [ha, decide_true, Bool.true_and]
      rcases hc with ⟨rfl, rfl⟩ | ⟨b, cp, rfl⟩
      · exact run_heap (in_2z m .nilslice sf slots op a k 0 [] H _) (obs2_cons (o1) (obs2_cons (o2) (obs2_cons (tk) (obs2_cons (p1) (obs2_cons (p2) (obs2_cons (okIge (by simp [ha])) (obs2_cons (okIlt (by simp)) obs2_nil)))))))
      · exact run_heap (in_2s m .nilslice sf slots op a k 0 [] H _ b nc cp) (obs2_cons (o1) (obs2_cons (o2) (obs2_cons (tk) (obs2_cons (p1) (obs2_cons (p2) (obs2_cons (okIge (by simp [ha])) (obs2_cons (okIlt (by simp)) obs2_nil)))))))
    · have e : (decide (0 ≤ a) && decide (a < (nc : Int))) = false := by simp [ha]
      rw [e]
      exact run_heap (in_2n m sc sf slots op a k 0 [] H true) (obs2_cons (o1) (obs2_cons (o2) (obs2_cons (tk) (obs2_cons (p1) (obs2_cons (p2) (obs2_cons (okIge (by simp; omega)) obs2_nil))))))
  have p2 : (obI .eql k 2 false).ok Tryz.prog XE := okIeq (by simp [k2])
  rw [if_neg k2]
  by_cases k3 : k = 3
  · rw [if_pos k3]
    have p3 : (obI .eql k 3 true).ok Tryz.prog XE := okIeq (by simp [k3])
    by_cases ha : 0 ≤ a
    · simp only [ha, decide_true, Bool.true_and]
      exact run_heap (in_3s m sc sf slots op a k 0 [] H _) (obs2_cons (o1) (obs2_cons (o2) (obs2_cons (tk) (obs2_cons (p1) (obs2_cons (p2) (obs2_cons (p3) (obs2_cons (okIge (by simp [ha])) (obs2_cons (okIlt (by simp)) obs2_nil))))))))
    · have e : (decide (0 ≤ a) && decide (a < slots)) = false := by simp [ha]
      rw [e]
      exact run_heap (in_3n m sc sf slots op a k 0 [] H true) (obs2_cons (o1) (obs2_cons (o2) (obs2_cons (tk) (obs2_cons (p1) (obs2_cons (p2) (obs2_cons (p3) (obs2_cons (okIge (by simp; omega)) obs2_nil)))))))
  have p3 : (obI .eql k 3 false).ok Tryz.prog XE := okIeq (by simp [k3])
  rw [if_neg k3]
  by_cases k4 : k = 4
  · rw [if_pos k4]
    have p4 : (obI .eql k 4 true).ok Tryz.prog XE := okIeq (by simp [k4])
    by_cases ha : 1 ≤ a
    · simp only [ha, decide_true, Bool.true_and]
      exact run_heap (in_4s m sc sf slots op a k 0 [] H _) (obs2_cons (o1) (obs2_cons (o2) (obs2_cons (tk) (obs2_cons (p1) (obs2_cons (p2) (obs2_cons (p3) (obs2_cons (p4) (obs2_cons (okIge (by simp [ha])) (obs2_cons (okIle (by simp)) obs2_nil)))))))))
    · have e : (decide (1 ≤ a) && decide (a ≤ 64)) = false := by simp [ha]
      rw [e]
      exact run_heap (in_4n m sc sf slots op a k 0 [] H true) (obs2_cons (o1) (obs2_cons (o2) (obs2_cons (tk) (obs2_cons (p1) (obs2_cons (p2) (obs2_cons (p3) (obs2_cons (p4) (obs2_cons (okIge (by simp; omega)) obs2_nil))))))))
  have p4 : (obI .eql k 4 false).ok Tryz.prog XE := okIeq (by simp [k4])
  rw [if_neg k4]
  by_cases k5 : k = 5
  · rw [if_pos k5]
    have p5 : (obI .eql k 5 true).ok Tryz.prog XE := okIeq (by simp [k5])
    by_cases ha : 0 ≤ a
    · simp only [ha, decide_true, Bool.true_and]
      rcases hf with ⟨rfl, rfl⟩ | ⟨b, cp, rfl⟩
      · exact run_heap (in_5z m sc .nilslice slots op a k 0 [] H _) (obs2_cons (o1) (obs2_cons (o2) (obs2_cons (tk) (obs2_cons (p1) (obs2_cons (p2) (obs2_cons (p3) (obs2_cons (p4) (obs2_cons (p5) (obs2_cons (okIge (by simp [ha])) (obs2_cons (okIlt (by simp)) obs2_nil))))))))))
      · exact run_heap (in_5s m sc .nilslice slots op a k 0 [] H _ b nf cp) (obs2_cons (o1) (obs2_cons (o2) (obs2_cons (tk) (obs2_cons (p1) (obs2_cons (p2) (obs2_cons (p3) (obs2_cons (p4) (obs2_cons (p5) (obs2_cons (okIge (by simp [ha])) (obs2_cons (okIlt (by simp)) obs2_nil))))))))))
    · have e : (decide (0 ≤ a) && decide (a < (nf : Int))) = false := by simp [ha]
      rw [e]
      exact run_heap (in_5n m sc sf slots op a k 0 [] H true) (obs2_cons (o1) (obs2_cons (o2) (obs2_cons (tk) (obs2_cons (p1) (obs2_cons (p2) (obs2_cons (p3) (obs2_cons (p4) (obs2_cons (p5) (obs2_cons (okIge (by simp; omega)) obs2_nil)))))))))
  have p5 : (obI .eql k 5 false).ok Tryz.prog XE := okIeq (by simp [k5])
  rw [if_neg k5]
  exact run_heap (in_0 m sc sf slots op a k 0 [] H _) (obs2_cons (o1) (obs2_cons (o2) (obs2_cons (tk) (obs2_cons (p1) (obs2_cons (p2) (obs2_cons (p3) (obs2_cons (p4) (obs2_cons (p5) (obs2_cons (okIeq (by simp [BEq.beq])) obs2_nil)))))))))

/-- The three ends of the program's own answer. -/
theorem co_end {v : V} {H : Heap} {least most a : Int} {nm : List UInt8} {F : Bool → Prop} {r : Bool} (he : nm = [] → F false) (hn : nm ≠ [] → ¬ least ≤ a → F false) (hs : nm ≠ [] → least ≤ a → F (decide (a ≤ most)))
    (hr : r = (!nm.isEmpty && (decide (least ≤ a) && decide (a ≤ most)))) : F r := by
  subst hr
  by_cases h : nm = []
  · subst h; exact he rfl
  · have e : nm.isEmpty = false := by cases nm with | nil => exact absurd rfl h | cons _ _ => rfl
    rw [e]
    by_cases ha : least ≤ a
    · simp only [ha, decide_true, Bool.true_and, Bool.not_false]; exact hs h ha
    · simp only [ha, decide_false, Bool.false_and, Bool.not_false, Bool.and_false]; exact hn h ha

theorem right_same (nc nf : Nat) (slots op a : Int) : instrR nc nf slots op a = if takesA op = 1 then true else (!(nameA op).isEmpty && (decide ((if takesA op = 4 then (1 : Int) else 0) ≤ a) &&
    decide (a ≤ (if takesA op = 2 then (nc : Int) - 1 else if takesA op = 3 then slots - 1 else if takesA op = 4 then 64 else if takesA op = 5 then (nf : Int) - 1 else 0)))) := by
  unfold instrR
  by_cases ho : op < 1 ∨ op > 53
  · rw [if_pos ho, takesA_out op ho, nameA_out op ho]; simp
  · rw [if_neg ho]
    have hn := nameA_in (n := op) (by omega) (by omega)
    have e : (nameA op).isEmpty = false := by
      cases h : nameA op with
      | nil => exact absurd h hn
      | cons _ _ => rfl
    rw [e]
    generalize takesA op = k
    unfold takeRange
    by_cases k1 : k = 1
    · simp [k1]
    by_cases k2 : k = 2
    · subst k2; rw [Bool.eq_iff_iff]; simp; omega
    by_cases k3 : k = 3
    · subst k3; rw [Bool.eq_iff_iff]; simp; omega
    by_cases k4 : k = 4
    · subst k4; simp
    by_cases k5 : k = 5
    · subst k5; rw [Bool.eq_iff_iff]; simp; omega
    · rw [Bool.eq_iff_iff]; simp [k1, k2, k3, k4, k5]; omega

theorem right_run (m : Nat) (sc sf : V) (nc nf : Nat) (hc : LenIs sc nc) (hf : LenIs sf nf) (hnc : nc ≤ 1048576) (hnf : nf ≤ 1048576) (slots op a : Int) (hsl : In64 (slots - 1)) (H : Heap) : callN Tryz.prog XE (m + 2) 66 [.agg [sc, sf], i64 slots, insA op a] H = some (.bool (instrR nc nf slots op a), H) := by
  have tk := okTakeR (X := XE) (f := 31) rfl op
  have tn := okNameR (X := XE) (f := 30) rfl op
  rw [right_same]
  generalize takesA op = k at tk ⊢
  generalize nameA op = nm at tn ⊢
  have ne : nm = [] → (obS .neq nm [] false).ok Tryz.prog XE := fun h => okSn (by simp [h])
  have nt : nm ≠ [] → (obS .neq nm [] true).ok Tryz.prog XE := fun h => okSn (by simp [h])
  by_cases k1 : k = 1
  · rw [if_pos k1]
    exact run_heap (co_1 m sc sf slots op a k 0 [] H true) (obs2_cons (tk) (obs2_cons (okIeq (by simp [k1])) obs2_nil))
  have p1 : (obI .eql k 1 false).ok Tryz.prog XE := okIeq (by simp [k1])
  rw [if_neg k1]
  by_cases k2 : k = 2
  · have p2 : (obI .eql k 2 true).ok Tryz.prog XE := okIeq (by simp [k2])
    have sb : (Ob2.bin .sub 3 (i64 nc) (i64 1) (i64 ((nc : Int) - 1))).ok Tryz.prog XE := okSubI rfl (by simp only [In64]; omega)
    rw [if_neg (show ¬ k = 4 by omega), if_pos k2]
    refine co_end (v := sc) (H := H) (least := 0) (most := (nc : Int) - 1) (a := a) (nm := nm) (F := fun r => callN Tryz.prog XE (m + 2) 66 [.agg [sc, sf], i64 slots, insA op a] H = some (.bool r, H)) (fun h => ?_) (fun h ha => ?_) (fun h ha => ?_) rfl
    all_goals (rcases hc with ⟨rfl, rfl⟩ | ⟨b, cp, rfl⟩)
    · exact run_heap (co_2ze m .nilslice sf slots op a k _ nm H true) (obs2_cons (tk) (obs2_cons (p1) (obs2_cons (p2) (obs2_cons (sb) (obs2_cons (tn) (obs2_cons (ne h) obs2_nil))))))
    · exact run_heap (co_2e m .nilslice sf slots op a k _ nm H true b nc cp) (obs2_cons (tk) (obs2_cons (p1) (obs2_cons (p2) (obs2_cons (sb) (obs2_cons (tn) (obs2_cons (ne h) obs2_nil))))))
    · exact run_heap (co_2zn m .nilslice sf slots op a k _ nm H true) (obs2_cons (tk) (obs2_cons (p1) (obs2_cons (p2) (obs2_cons (sb) (obs2_cons (tn) (obs2_cons (nt h) (obs2_cons (okIge (by simp; omega)) obs2_nil)))))))
    · exact run_heap (co_2n m .nilslice sf slots op a k _ nm H true b nc cp) (obs2_cons (tk) (obs2_cons (p1) (obs2_cons (p2) (obs2_cons (sb) (obs2_cons (tn) (obs2_cons (nt h) (obs2_cons (okIge (by simp; omega)) obs2_nil)))))))
    · exact run_heap (co_2zs m .nilslice sf slots op a k _ nm H _) (obs2_cons (tk) (obs2_cons (p1) (obs2_cons (p2) (obs2_cons (sb) (obs2_cons (tn) (obs2_cons (nt h) (obs2_cons (okIge (by simp; omega)) (obs2_cons (okIle rfl) obs2_nil))))))))
    · exact run_heap (co_2s m .nilslice sf slots op a k _ nm H _ b nc cp) (obs2_cons (tk) (obs2_cons (p1) (obs2_cons (p2) (obs2_cons (sb) (obs2_cons (tn) (obs2_cons (nt h) (obs2_cons (okIge (by simp; omega)) (obs2_cons (okIle rfl) obs2_nil))))))))
  have p2 : (obI .eql k 2 false).ok Tryz.prog XE := okIeq (by simp [k2])
  rw [if_neg k2]
  by_cases k3 : k = 3
  · have p3 : (obI .eql k 3 true).ok Tryz.prog XE := okIeq (by simp [k3])
    have sb : (Ob2.bin .sub 3 (i64 slots) (i64 1) (i64 (slots - 1))).ok Tryz.prog XE := okSubI rfl hsl
    rw [if_neg (show ¬ k = 4 by omega), if_pos k3]
    refine co_end (v := sc) (H := H) (least := 0) (most := slots - 1) (a := a) (nm := nm) (F := fun r => callN Tryz.prog XE (m + 2) 66 [.agg [sc, sf], i64 slots, insA op a] H = some (.bool r, H)) (fun h => ?_) (fun h ha => ?_) (fun h ha => ?_) rfl
    · exact run_heap (co_3e m sc sf slots op a k _ nm H true) (obs2_cons (tk) (obs2_cons (p1) (obs2_cons (p2) (obs2_cons (p3) (obs2_cons (sb) (obs2_cons (tn) (obs2_cons (ne h) obs2_nil)))))))
    · exact run_heap (co_3n m sc sf slots op a k _ nm H true) (obs2_cons (tk) (obs2_cons (p1) (obs2_cons (p2) (obs2_cons (p3) (obs2_cons (sb) (obs2_cons (tn) (obs2_cons (nt h) (obs2_cons (okIge (by simp; omega)) obs2_nil))))))))
    · exact run_heap (co_3s m sc sf slots op a k _ nm H _) (obs2_cons (tk) (obs2_cons (p1) (obs2_cons (p2) (obs2_cons (p3) (obs2_cons (sb) (obs2_cons (tn) (obs2_cons (nt h) (obs2_cons (okIge (by simp; omega)) (obs2_cons (okIle rfl) obs2_nil)))))))))
  have p3 : (obI .eql k 3 false).ok Tryz.prog XE := okIeq (by simp [k3])
  rw [if_neg k3]
  by_cases k4 : k = 4
  · have p4 : (obI .eql k 4 true).ok Tryz.prog XE := okIeq (by simp [k4])
    rw [if_pos k4, if_pos k4]
    refine co_end (v := sc) (H := H) (least := 1) (most := 64) (a := a) (nm := nm) (F := fun r => callN Tryz.prog XE (m + 2) 66 [.agg [sc, sf], i64 slots, insA op a] H = some (.bool r, H)) (fun h => ?_) (fun h ha => ?_) (fun h ha => ?_) rfl
    · exact run_heap (co_4e m sc sf slots op a k 0 nm H true) (obs2_cons (tk) (obs2_cons (p1) (obs2_cons (p2) (obs2_cons (p3) (obs2_cons (p4) (obs2_cons (tn) (obs2_cons (ne h) obs2_nil)))))))
    · exact run_heap (co_4n m sc sf slots op a k 0 nm H true) (obs2_cons (tk) (obs2_cons (p1) (obs2_cons (p2) (obs2_cons (p3) (obs2_cons (p4) (obs2_cons (tn) (obs2_cons (nt h) (obs2_cons (okIge (by simp; omega)) obs2_nil))))))))
    · exact run_heap (co_4s m sc sf slots op a k 0 nm H _) (obs2_cons (tk) (obs2_cons (p1) (obs2_cons (p2) (obs2_cons (p3) (obs2_cons (p4) (obs2_cons (tn) (obs2_cons (nt h) (obs2_cons (okIge (by simp; omega)) (obs2_cons (okIle rfl) obs2_nil)))))))))
  have p4 : (obI .eql k 4 false).ok Tryz.prog XE := okIeq (by simp [k4])
  rw [if_neg k4, if_neg k4]
  by_cases k5 : k = 5
  · have p5 : (obI .eql k 5 true).ok Tryz.prog XE := okIeq (by simp [k5])
    have sb : (Ob2.bin .sub 3 (i64 nf) (i64 1) (i64 ((nf : Int) - 1))).ok Tryz.prog XE := okSubI rfl (by simp only [In64]; omega)
    rw [if_pos k5]
    refine co_end (v := sc) (H := H) (least := 0) (most := (nf : Int) - 1) (a := a) (nm := nm) (F := fun r => callN Tryz.prog XE (m + 2) 66 [.agg [sc, sf], i64 slots, insA op a] H = some (.bool r, H)) (fun h => ?_) (fun h ha => ?_) (fun h ha => ?_) rfl
    all_goals (rcases hf with ⟨rfl, rfl⟩ | ⟨b, cp, rfl⟩)
    · exact run_heap (co_5ze m sc .nilslice slots op a k _ nm H true) (obs2_cons (tk) (obs2_cons (p1) (obs2_cons (p2) (obs2_cons (p3) (obs2_cons (p4) (obs2_cons (p5) (obs2_cons (sb) (obs2_cons (tn) (obs2_cons (ne h) obs2_nil)))))))))
    · exact run_heap (co_5e m sc .nilslice slots op a k _ nm H true b nf cp) (obs2_cons (tk) (obs2_cons (p1) (obs2_cons (p2) (obs2_cons (p3) (obs2_cons (p4) (obs2_cons (p5) (obs2_cons (sb) (obs2_cons (tn) (obs2_cons (ne h) obs2_nil)))))))))
    · exact run_heap (co_5zn m sc .nilslice slots op a k _ nm H true) (obs2_cons (tk) (obs2_cons (p1) (obs2_cons (p2) (obs2_cons (p3) (obs2_cons (p4) (obs2_cons (p5) (obs2_cons (sb) (obs2_cons (tn) (obs2_cons (nt h) (obs2_cons (okIge (by simp; omega)) obs2_nil))))))))))
    · exact run_heap (co_5n m sc .nilslice slots op a k _ nm H true b nf cp) (obs2_cons (tk) (obs2_cons (p1) (obs2_cons (p2) (obs2_cons (p3) (obs2_cons (p4) (obs2_cons (p5) (obs2_cons (sb) (obs2_cons (tn) (obs2_cons (nt h) (obs2_cons (okIge (by simp; omega)) obs2_nil))))))))))
    · exact run_heap (co_5zs m sc .nilslice slots op a k _ nm H _) (obs2_cons (tk) (obs2_cons (p1) (obs2_cons (p2) (obs2_cons (p3) (obs2_cons (p4) (obs2_cons (p5) (obs2_cons (sb) (obs2_cons (tn) (obs2_cons (nt h) (obs2_cons (okIge (by simp; omega)) (obs2_cons (okIle rfl) obs2_nil)))))))))))
    · exact run_heap (co_5s m sc .nilslice slots op a k _ nm H _ b nf cp) (obs2_cons (tk) (obs2_cons (p1) (obs2_cons (p2) (obs2_cons (p3) (obs2_cons (p4) (obs2_cons (p5) (obs2_cons (sb) (obs2_cons (tn) (obs2_cons (nt h) (obs2_cons (okIge (by simp; omega)) (obs2_cons (okIle rfl) obs2_nil)))))))))))
  have p5 : (obI .eql k 5 false).ok Tryz.prog XE := okIeq (by simp [k5])
  rw [if_neg k5]
  refine co_end (v := sc) (H := H) (least := 0) (most := 0) (a := a) (nm := nm) (F := fun r => callN Tryz.prog XE (m + 2) 66 [.agg [sc, sf], i64 slots, insA op a] H = some (.bool r, H)) (fun h => ?_) (fun h ha => ?_) (fun h ha => ?_) rfl
  · exact run_heap (co_0e m sc sf slots op a k 0 nm H true) (obs2_cons (tk) (obs2_cons (p1) (obs2_cons (p2) (obs2_cons (p3) (obs2_cons (p4) (obs2_cons (p5) (obs2_cons (tn) (obs2_cons (ne h) obs2_nil))))))))
  · exact run_heap (co_0n m sc sf slots op a k 0 nm H true) (obs2_cons (tk) (obs2_cons (p1) (obs2_cons (p2) (obs2_cons (p3) (obs2_cons (p4) (obs2_cons (p5) (obs2_cons (tn) (obs2_cons (nt h) (obs2_cons (okIge (by simp; omega)) obs2_nil)))))))))
  · exact run_heap (co_0s m sc sf slots op a k 0 nm H _) (obs2_cons (tk) (obs2_cons (p1) (obs2_cons (p2) (obs2_cons (p3) (obs2_cons (p4) (obs2_cons (p5) (obs2_cons (tn) (obs2_cons (nt h) (obs2_cons (okIge (by simp; omega)) (obs2_cons (okIle rfl) obs2_nil))))))))))

end Go.AM
