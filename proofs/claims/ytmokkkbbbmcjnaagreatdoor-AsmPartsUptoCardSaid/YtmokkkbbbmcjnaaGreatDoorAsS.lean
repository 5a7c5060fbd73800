/-
  Lines, and a text cut at its first blank: by heart.
-/
import Derived.Test.YtmokkkbbbmcjnaaGreatDoorAsQ
set_option linter.unusedVariables false
set_option linter.unusedSimpArgs false
namespace Go.AM
open Go.Proofs Go.RowKit

def In64 (a : Int) : Prop := -9223372036854775808 ≤ a ∧ a ≤ 9223372036854775807
instance (a : Int) : Decidable (In64 a) := by unfold In64; infer_instance

def lineA (op a : Int) : List UInt8 := if nameA op ≠ [] ∧ takesA op ≠ 0 then nameA op ++ [32] ++ itoaF a else if a ≠ 0 then [] else nameA op

theorem digF_len : ∀ k u, (digF k u).length ≤ k
  | 0, u => by simp [digF]
  | k + 1, u => by
    unfold digF
    split
    · simp
    · have := digF_len k (u / 10)
      simp only [List.length_append, List.length_cons, List.length_nil]
      omega
theorem itoaF_len (n : Int) : (itoaF n).length ≤ 21 := by
  unfold itoaF
  split
  · have := digF_len 20 ‹Nat›; omega
  · have := digF_len 20 (‹Nat› + 1); simp only [List.length_cons]; omega
theorem nameA_len (n : Int) : (nameA n).length ≤ 16 := by
  unfold nameA
  split
  · rename_i k
    rw [List.getD_eq_getElem?_getD]
    cases h : namesL[k]? with
    | none => simp
    | some x =>
      have key : ∀ x ∈ namesL, x.length ≤ 16 := by decide
      exact key x (List.mem_of_getElem? h)
  · simp

theorem okItoa {X : Ext} (hX : X 32 = some itoaG) {n : Int} (h : In64 n) : (Ob2.rd 32 [i64 n] (.str (itoaF n))).ok Tryz.prog X := by
  refine ⟨_, hX, fun args h' hd => ?_⟩
  have e := digs_flat h' args _ hd (by intro d hd l; simp at hd; subst hd; intro h; cases h)
  subst e
  show (if -9223372036854775808 ≤ n ∧ n ≤ 9223372036854775807 then some (V.str (itoaF n), h') else none) = _
  have h : -9223372036854775808 ≤ n ∧ n ≤ 9223372036854775807 := h
  rw [if_pos h]
theorem okDigX {n : Int} (h : In64 n) : (Ob2.rd 35 [i64 n] (.str (itoaF n))).ok Tryz.prog XW := by
  refine ⟨_, rfl, fun args h' hd => ?_⟩
  have e := digs_flat h' args _ hd (by intro d hd l; simp at hd; subst hd; intro h; cases h)
  subst e
  show ((if -9223372036854775808 ≤ n ∧ n ≤ 9223372036854775807 then some (V.str (itoaF n)) else none).map (·, h')) = _
  have h : -9223372036854775808 ≤ n ∧ n ≤ 9223372036854775807 := h
  rw [if_pos h]; rfl

def lineF (f : FuncId) : FlatF := (f, fun args => match args with | [.agg [.int .i64 op, .int .i64 a]] => if In64 a then some (.str (lineA op a)) else none | _ => none)

theorem line_run (f : FuncId) (hf : f = 10 ∨ f = 11) (op a : Int) (ha : In64 a) : ∃ h', callN Tryz.prog XW 60 f [insV op a] h0 = some (.str (lineA op a), h') := by
  have l1 := nameA_len op
  have l2 := itoaF_len a
  have c1 : (Ob2.bin .add 9 (.str (nameA op)) (.str [32]) (.str (nameA op ++ [32]))).ok Tryz.prog XW := okCat (by simp; omega)
  have c2 : (Ob2.bin .add 9 (.str (nameA op ++ [32])) (.str (itoaF a)) (.str (nameA op ++ [32] ++ itoaF a))).ok Tryz.prog XW := okCat (by simp; omega)
  unfold lineA
  rcases hf with rfl | rfl
  · by_cases hn : nameA op = []
    · rw [if_neg (by simp [hn])]
      by_cases h0 : a = 0
      · rw [if_neg (by simp [h0])]
        exact run_of_from (l10_5 op a) (obs2_cons (okSn (by simp [hn])) (obs2_cons (okIne (by simp [h0])) obs2_nil))
      · rw [if_pos h0]
        exact run_of_from (l10_4 op a) (obs2_cons (okSn (by simp [hn])) (obs2_cons (okIne (by simp [h0])) obs2_nil))
    · have o1 : (obS .neq (nameA op) [] true).ok Tryz.prog XW := okSn (by simp [hn])
      by_cases hk : takesA op = 0
      · rw [if_neg (by simp [hk])]
        have o2 : (obI .neq (takesA op) 0 false).ok Tryz.prog XW := okIne (by simp [hk])
        by_cases h0 : a = 0
        · rw [if_neg (by simp [h0])]
          exact run_of_from (l10_3 op a) (obs2_cons o1 (obs2_cons o2 (obs2_cons (okIne (by simp [h0])) obs2_nil)))
        · rw [if_pos h0]
          exact run_of_from (l10_2 op a) (obs2_cons o1 (obs2_cons o2 (obs2_cons (okIne (by simp [h0])) obs2_nil)))
      · rw [if_pos ⟨hn, hk⟩]
        exact run_of_from (l10_1 op a _ _ _ _ rfl rfl) (obs2_cons o1 (obs2_cons (okIne (by simp [hk])) (obs2_cons c1 (obs2_cons (okItoa rfl ha) (obs2_cons c2 obs2_nil)))))
  · by_cases hn : nameA op = []
    · rw [if_neg (by simp [hn])]
      have e : (if a ≠ 0 then [] else nameA op) = [] := by split <;> simp [hn]
      rw [e]
      exact run_of_from (l11_0 op a) (obs2_cons (okSe (by simp [hn])) obs2_nil)
    · have o1 : (obS .eql (nameA op) [] false).ok Tryz.prog XW := okSe (by simp [hn])
      by_cases hk : takesA op = 0
      · rw [if_neg (by simp [hk])]
        have o2 : (obI .neq (takesA op) 0 false).ok Tryz.prog XW := okIne (by simp [hk])
        by_cases h0 : a = 0
        · rw [if_neg (by simp [h0])]
          exact run_of_from (l11_3 op a) (obs2_cons o1 (obs2_cons o2 (obs2_cons (okIne (by simp [h0])) obs2_nil)))
        · rw [if_pos h0]
          exact run_of_from (l11_2 op a) (obs2_cons o1 (obs2_cons o2 (obs2_cons (okIne (by simp [h0])) obs2_nil)))
      · rw [if_pos ⟨hn, hk⟩]
        exact run_of_from (l11_1 op a _ _) (obs2_cons o1 (obs2_cons (okIne (by simp [hk])) (obs2_cons c1 (obs2_cons (okDigX ha) (obs2_cons c2 obs2_nil)))))

theorem line_knows (f : FuncId) (hf : f = 10 ∨ f = 11) : Knows Tryz.prog XW (lineF f) := by
  intro args v hv
  unfold lineF at hv
  simp only at hv
  split at hv
  case h_2 => cases hv
  rename_i op a
  split at hv
  case isFalse => cases hv
  rename_i ha
  cases hv
  exact ⟨rfl, rfl, 60, line_run f hf op a ha⟩

/-! ### Cut at a blank -/

def cutB (c : UInt8) : List UInt8 → Option (List UInt8 × List UInt8)
  | [] => none
  | x :: l => if x == c then some ([], l) else (cutB c l).map fun (p, q) => (x :: p, q)

theorem cutB_none (c : UInt8) : ∀ l, cutB c l = none → Lib.indexByte l c = -1
  | [], _ => rfl
  | x :: l, h => by
    unfold cutB at h
    unfold Lib.indexByte
    split at h
    · cases h
    · rename_i hx
      simp only [Option.map_eq_none_iff] at h
      rw [if_neg hx, cutB_none c l h]; rfl
theorem cutB_some (c : UInt8) : ∀ l p q, cutB c l = some (p, q) → Lib.indexByte l c = (p.length : Nat) ∧ l = p ++ c :: q ∧ c ∉ p
  | [], p, q, h => by cases h
  | x :: l, p, q, h => by
    unfold cutB at h
    unfold Lib.indexByte
    split at h
    · rename_i hx
      cases h
      have e : x = c := by simpa using hx
      rw [if_pos hx]
      exact ⟨rfl, by simp [e], by simp⟩
    · rename_i hx
      simp only [Option.map_eq_some_iff, Prod.exists, Prod.mk.injEq] at h
      obtain ⟨p', q', h', rfl, rfl⟩ := h
      obtain ⟨e1, e2, e3⟩ := cutB_some c l p' q' h'
      rw [if_neg hx, e1]
      refine ⟨?_, by rw [e2]; rfl, ?_⟩
      · rw [if_neg (by simp)]
        simp
      · have : c ≠ x := fun e => hx (by simp [e])
        simp [this, e3]

def cutV (c : UInt8) (s : List UInt8) : V := match cutB c s with
  | none => .tup [.str s, .str [], .bool false]
  | some (p, q) => .tup [.str p, .str q, .bool true]

theorem cut_0 (s : List UInt8) (c : UInt8) : tellFrom Tryz.prog XL 60 24 [.str s, .str [c]] h0 [tv 75 22 false, tv 50 12 false] =
  some (.tup [.str s, .str [], .bool false], [obS .eql [c] s false, obI .geq (Lib.indexByte s ((c.toNat : Int).toNat.toUInt8)) 0 false]) := by kernel_rfl
theorem cut_1 (s p q : List UInt8) (c : UInt8) : tellFrom Tryz.prog XL 60 24 [.str s, .str [c]] h0 [tv 75 22 false, tv 50 12 true, tp 50 15 (.str p), tp 50 21 (.str q)] =
  some (.tup [.str p, .str q, .bool true], [obS .eql [c] s false, obI .geq (Lib.indexByte s ((c.toNat : Int).toNat.toUInt8)) 0 true,
    .slc 9 (.str s) none (some (i64 (Lib.indexByte s ((c.toNat : Int).toNat.toUInt8)))) none (.str p), .slc 9 (.str s) (some (i64 (wr .i64 (Lib.indexByte s ((c.toNat : Int).toNat.toUInt8) + 1)))) none none (.str q)]) := by kernel_rfl
theorem cut_2 (s p q : List UInt8) (c : UInt8) : tellFrom Tryz.prog XL 60 24 [.str s, .str [c]] h0 [tv 75 22 true, tp 50 15 (.str p), tp 50 21 (.str q)] =
  some (.tup [.str p, .str q, .bool true], [obS .eql [c] s true, .slc 9 (.str s) none (some (i64 0)) none (.str p), .slc 9 (.str s) (some (i64 (wr .i64 (0 + 1)))) none none (.str q)]) := by kernel_rfl

theorem okSlTo {X : Ext} (l : List UInt8) (y : Nat) (r : List UInt8) (hy : y ≤ l.length) (hr : l.take y = r) : (Ob2.slc 9 (.str l) none (some (i64 y)) none (.str r)).ok Tryz.prog X := by
  intro h
  have hu : Tryz.prog.underlying 9 = some .string := Tryz.underlying9
  unfold sliceV
  rw [hu]
  simp only [bounds, bound]
  have e1 : (0 : Int) ≤ (y : Int) ∧ (y : Int) ≤ (l.length : Int) := by omega
  rw [if_pos e1]
  simp [hr]
theorem okSlFrom {X : Ext} (l : List UInt8) (x : Nat) (r : List UInt8) (hx : x ≤ l.length) (hr : l.drop x = r) : (Ob2.slc 9 (.str l) (some (i64 x)) none none (.str r)).ok Tryz.prog X := by
  intro h
  have hu : Tryz.prog.underlying 9 = some .string := Tryz.underlying9
  unfold sliceV
  rw [hu]
  simp only [bounds, bound]
  have e1 : (0 : Int) ≤ (x : Int) ∧ (x : Int) ≤ (l.length : Int) := by omega
  simp [e1, hr]

theorem byte_back (c : UInt8) : (c.toNat : Int).toNat.toUInt8 = c := by simp

def cutF : FlatF := (24, fun args => match args with | [.str s, .str [c]] => if s.length ≤ 4611686018427387904 then some (cutV c s) else none | _ => none)

theorem cut_run (s : List UInt8) (c : UInt8) (hs : s.length ≤ 4611686018427387904) : ∃ h', callN Tryz.prog XL 60 24 [.str s, .str [c]] h0 = some (cutV c s, h') := by
  unfold cutV
  by_cases he : s = [c]
  · subst he
    have e : cutB c [c] = some ([], []) := by simp [cutB]
    rw [e]
    exact run_of_from (cut_2 [c] [] [] c) (obs2_cons (okSe (by simp)) (obs2_cons (okSlTo [c] 0 [] (by simp) rfl) (obs2_cons (okSlFrom [c] 1 [] (by simp) rfl) obs2_nil)))
  · have o1 : (obS .eql [c] s false).ok Tryz.prog XL := okSe (by simp [Ne.symm he])
    cases hc : cutB c s with
    | none =>
      have := cutB_none c s hc
      exact run_of_from (cut_0 s c) (obs2_cons o1 (obs2_cons (okIge (by rw [byte_back, this]; rfl)) obs2_nil))
    | some pq =>
      obtain ⟨p, q⟩ := pq
      obtain ⟨e1, e2, _⟩ := cutB_some c s p q hc
      have hl : s.length = p.length + (q.length + 1) := by rw [e2]; simp
      refine run_of_from (cut_1 s p q c) (obs2_cons o1 (obs2_cons (okIge (by rw [byte_back, e1]; simp)) (obs2_cons ?_ (obs2_cons ?_ obs2_nil))))
      · rw [byte_back, e1]
        exact okSlTo s p.length p (by omega) (by rw [e2]; simp)
      · rw [byte_back, e1]
        have : wr .i64 ((p.length : Int) + 1) = ((p.length + 1 : Nat) : Int) := by
          unfold wr loK hiK
          rw [if_pos ⟨by simp only; omega, by simp only; omega⟩]; rfl
        rw [this]
        refine okSlFrom s (p.length + 1) q (by omega) ?_
        rw [e2, List.drop_append]
        simp

theorem cutV_flat (c : UInt8) (s : List UInt8) : flat (cutV c s) = true := by
  unfold cutV
  split <;> rfl
theorem cut_knows : Knows Tryz.prog XL cutF := by
  intro args v hv
  unfold cutF at hv
  simp only at hv
  split at hv
  case h_2 => cases hv
  rename_i s c
  split at hv
  case isFalse => cases hv
  rename_i hs
  cases hv
  exact ⟨rfl, cutV_flat c s, 60, cut_run s c hs⟩

def rdL : List FlatF := [lineF 10, lineF 11, cutF]
def XR : Ext := orExt (flatExt rdL) XW
theorem XR_ok : ExtOk Tryz.prog XR := orExt_ok (flatExt_ok mixed (by
  intro x hx
  simp only [rdL, List.mem_cons, List.not_mem_nil, or_false] at hx
  rcases hx with rfl | rfl | rfl
  · exact ⟨XW, XW_ok, XW_mono, line_knows 10 (.inl rfl)⟩
  · exact ⟨XW, XW_ok, XW_mono, line_knows 11 (.inr rfl)⟩
  · exact ⟨XL, XL_ok, XL_mono, cut_knows⟩)) XW_ok
theorem XR_mono : ExtMono XR := orExt_mono (flatExt_mono _) XW_mono

/-! ### Read, run -/

def rNo : V := .tup [insV 0 0, .bool false]
def rYes (n a : Int) : V := .tup [insV n a, .bool true]
abbrev cO (s p q : List UInt8) (k : Bool) : Ob2 := .rd 24 [.str s, .str [32]] (.tup [.str p, .str q, .bool k])
abbrev fO (p : List UInt8) (n : Int) (k : Bool) : Ob2 := .rd 25 [.str p] (.tup [i64 n, .bool k])
abbrev lO (n a : Int) (d : List UInt8) : Ob2 := .rd 10 [insV n a] (.str d)
abbrev aO (q : List UInt8) (v : Int) : Ob2 := .rd 26 [.str q] (.tup [i64 v, .niliface])
abbrev aE (q : List UInt8) (v : Int) : Ob2 := .rdd 26 [.str q] h0 (.tup [i64 v, errV h0]) (h0.alloc .dead)
abbrev tC (p q : List UInt8) (k : Bool) : FuncId × Tmp × Tell := tp 8 14 (.tup [.str p, .str q, .bool k])
abbrev tF (n : Int) (k : Bool) : FuncId × Tmp × Tell := tp 8 20 (.tup [i64 n, .bool k])
abbrev tA (v : Int) : FuncId × Tmp × Tell := tp 8 28 (.tup [i64 v, .niliface])
abbrev tE (v : Int) : FuncId × Tmp × Tell := (8, 28, .cal (.tup [i64 v, errV h0]) (h0.alloc .dead))

theorem r8_a (s p q : List UInt8) (n : Int) : tellFrom Tryz.prog XR 60 8 [.str s] h0 [tC p q false, tF n false] = some (rNo, [cO s p q false, fO p n false]) := by kernel_rfl
theorem r8_b (s p q d : List UInt8) (n : Int) : tellFrom Tryz.prog XR 60 8 [.str s] h0 [tC p q false, tF n true, tp 8 42 (.str d), tv 8 44 true] = some (rNo, [cO s p q false, fO p n true, lO n 0 d, obS .neq d s true]) := by kernel_rfl
theorem r8_c (s p q d : List UInt8) (n : Int) : tellFrom Tryz.prog XR 60 8 [.str s] h0 [tC p q false, tF n true, tp 8 42 (.str d), tv 8 44 false] = some (rYes n 0, [cO s p q false, fO p n true, lO n 0 d, obS .neq d s false]) := by kernel_rfl
theorem r8_d (s p q : List UInt8) (n v : Int) : tellFrom Tryz.prog XR 60 8 [.str s] h0 [tC p q true, tF n false, tA v] = some (rNo, [cO s p q true, fO p n false, aO q v]) := by kernel_rfl
theorem r8_e (s p q : List UInt8) (n v : Int) : tellFrom Tryz.prog XR 60 8 [.str s] h0 [tC p q true, tF n false, tE v] = some (rNo, [cO s p q true, fO p n false, aE q v]) := by kernel_rfl
theorem r8_f (s p q : List UInt8) (n v : Int) : tellFrom Tryz.prog XR 60 8 [.str s] h0 [tC p q true, tF n true, tE v] = some (rNo, [cO s p q true, fO p n true, aE q v]) := by kernel_rfl
theorem r8_g (s p q d : List UInt8) (n v : Int) : tellFrom Tryz.prog XR 60 8 [.str s] h0 [tC p q true, tF n true, tA v, tp 8 42 (.str d), tv 8 44 true] = some (rNo, [cO s p q true, fO p n true, aO q v, lO n v d, obS .neq d s true]) := by kernel_rfl
theorem r8_h (s p q d : List UInt8) (n v : Int) : tellFrom Tryz.prog XR 60 8 [.str s] h0 [tC p q true, tF n true, tA v, tp 8 42 (.str d), tv 8 44 false] = some (rYes n v, [cO s p q true, fO p n true, aO q v, lO n v d, obS .neq d s false]) := by kernel_rfl

/-! ### The document's Read, run -/

abbrev wH (k : Nat) (row : List V) : Heap := h0.alloc (.cells false 9 row)
abbrev tW (k : Nat) (row : List V) : FuncId × Tmp × Tell := (9, 11, .cal (.slice 0 0 k none) (wH k row))
abbrev wO (s : List UInt8) (k : Nat) (row : List V) : Ob2 := .rdd 27 [.str s] h0 (.slice 0 0 k none) (wH k row)
abbrev iO (k i : Nat) : Ob2 := .iadr 37 0 0 k none (i64 (i : Nat)) (.ptr 0 i)
abbrev fR (p : List UInt8) (n : Int) (k : Bool) : Ob2 := .rd 28 [.str p] (.tup [i64 n, .bool k])
abbrev lR (n a : Int) (d : List UInt8) : Ob2 := .rd 11 [insV n a] (.str d)
abbrev dR (q : List UInt8) (v : Int) (k : Bool) : Ob2 := .rd 29 [.str q] (.tup [i64 v, .bool k])
abbrev t0 (k : Nat) (row : List V) (p : List UInt8) (n : Int) (b : Bool) : Orc2 := [tW k row, tp 9 14 (.ptr 0 0), tp 9 15 (.str p), tp 9 16 (.tup [i64 n, .bool b])]
abbrev o0 (s : List UInt8) (k : Nat) (row : List V) (p : List UInt8) (n : Int) (b : Bool) : List Ob2 := [wO s k row, iO k 0, .ld 9 row 0 (.str p), fR p n b]

theorem r9_a (s p : List UInt8) (k : Nat) (row : List V) (n : Int) : tellFrom Tryz.prog XR 60 9 [.str s] h0 (t0 k row p n false) = some (rNo, o0 s k row p n false) := by kernel_rfl
theorem r9_b (s p : List UInt8) (k : Nat) (row : List V) (n : Int) : tellFrom Tryz.prog XR 60 9 [.str s] h0 (t0 k row p n true ++ [tv 9 24 true]) = some (rNo, o0 s k row p n true ++ [obI .gtr (k : Nat) 2 true]) := by kernel_rfl
theorem r9_c (s p d : List UInt8) (k : Nat) (row : List V) (n : Int) : tellFrom Tryz.prog XR 60 9 [.str s] h0 (t0 k row p n true ++ [tv 9 24 false, tv 9 31 false, tp 9 45 (.str d), tv 9 47 true]) = some (rNo, o0 s k row p n true ++ [obI .gtr (k : Nat) 2 false, obI .eql (k : Nat) 2 false, lR n 0 d, obS .neq d s true]) := by kernel_rfl
theorem r9_d (s p d : List UInt8) (k : Nat) (row : List V) (n : Int) : tellFrom Tryz.prog XR 60 9 [.str s] h0 (t0 k row p n true ++ [tv 9 24 false, tv 9 31 false, tp 9 45 (.str d), tv 9 47 false]) = some (rYes n 0, o0 s k row p n true ++ [obI .gtr (k : Nat) 2 false, obI .eql (k : Nat) 2 false, lR n 0 d, obS .neq d s false]) := by kernel_rfl
theorem r9_e (s p q : List UInt8) (k : Nat) (row : List V) (n v : Int) : tellFrom Tryz.prog XR 60 9 [.str s] h0 (t0 k row p n true ++ [tv 9 24 false, tv 9 31 true, tp 9 34 (.ptr 0 1), tp 9 35 (.str q), tp 9 36 (.tup [i64 v, .bool false])]) = some (rNo, o0 s k row p n true ++ [obI .gtr (k : Nat) 2 false, obI .eql (k : Nat) 2 true, iO k 1, .ld 9 row 1 (.str q), dR q v false]) := by kernel_rfl
theorem r9_f (s p q d : List UInt8) (k : Nat) (row : List V) (n v : Int) : tellFrom Tryz.prog XR 60 9 [.str s] h0 (t0 k row p n true ++ [tv 9 24 false, tv 9 31 true, tp 9 34 (.ptr 0 1), tp 9 35 (.str q), tp 9 36 (.tup [i64 v, .bool true]), tp 9 45 (.str d), tv 9 47 true]) = some (rNo, o0 s k row p n true ++ [obI .gtr (k : Nat) 2 false, obI .eql (k : Nat) 2 true, iO k 1, .ld 9 row 1 (.str q), dR q v true, lR n v d, obS .neq d s true]) := by kernel_rfl
theorem r9_g (s p q d : List UInt8) (k : Nat) (row : List V) (n v : Int) : tellFrom Tryz.prog XR 60 9 [.str s] h0 (t0 k row p n true ++ [tv 9 24 false, tv 9 31 true, tp 9 34 (.ptr 0 1), tp 9 35 (.str q), tp 9 36 (.tup [i64 v, .bool true]), tp 9 45 (.str d), tv 9 47 false]) = some (rYes n v, o0 s k row p n true ++ [obI .gtr (k : Nat) 2 false, obI .eql (k : Nat) 2 true, iO k 1, .ld 9 row 1 (.str q), dR q v true, lR n v d, obS .neq d s false]) := by kernel_rfl

end Go.AM

/-
  Read and the document's Read: what they answer.
-/
set_option linter.unusedVariables false
set_option linter.unusedSimpArgs false
namespace Go.AM
open Go.Proofs Go.RowKit

def rOut : Option (Int × Int) → V
  | none => rNo
  | some (n, a) => rYes n a
theorem rOut_flat : ∀ o, flat (rOut o) = true
  | none => rfl
  | some (n, a) => rfl

def atoiO (q : List UInt8) : Option Int := match Lib.atoiAll q with | .ok v => some v | _ => none
def readP (s : List UInt8) : Option (Int × Int) := match cutB 32 s with
  | none => if findB namesL s = true ∧ lineA (findN namesL s 1 : Nat) 0 = s then some ((findN namesL s 1 : Nat), 0) else none
  | some (p, q) => match atoiO q with
    | none => none
    | some v => if findB namesL p = true ∧ lineA (findN namesL p 1 : Nat) v = s then some ((findN namesL p 1 : Nat), v) else none
def readR (s : List UInt8) : Option (Int × Int) := match wordsG s [] with
  | [] => none
  | p :: r => if findB namesL p = true then (match r with
      | [] => if lineA (findN namesL p 1 : Nat) 0 = s then some ((findN namesL p 1 : Nat), 0) else none
      | [q] => if (decimalA q).2 = true ∧ lineA (findN namesL p 1 : Nat) (decimalA q).1 = s then some ((findN namesL p 1 : Nat), (decimalA q).1) else none
      | _ => none) else none

theorem ok_frd {X : Ext} {f : FuncId} {r : List V → Option V} {dargs : List V} {v : V} (hX : X f = some (fun args h => (r args).map (·, h))) (hr : r dargs = some v) (hn : ∀ d ∈ dargs, ∀ l, d ≠ .tup l) : (Ob2.rd f dargs v).ok Tryz.prog X := by
  refine ⟨_, hX, fun args h hd => ?_⟩
  have e := digs_flat h args _ hd hn
  subst e
  simp only [hr, Option.map_some]
theorem notup1 {a : V} (h : ∀ l, a ≠ .tup l) : ∀ d ∈ [a], ∀ l, d ≠ .tup l := by
  intro d hd
  simp at hd
  subst hd
  exact h

theorem okCutR (s p q : List UInt8) (k : Bool) (hs : s.length ≤ 4611686018427387904) (h : cutV 32 s = .tup [.str p, .str q, .bool k]) : (cO s p q k).ok Tryz.prog XR := by
  refine ok_frd (r := cutF.2) rfl ?_ (by intro d hd l; simp at hd; rcases hd with rfl | rfl <;> intro h <;> cases h)
  show (if s.length ≤ 4611686018427387904 then some (cutV 32 s) else none) = _
  rw [if_pos hs, h]
theorem okFindP (p : List UInt8) : (fO p (findN namesL p 1 : Nat) (findB namesL p)).ok Tryz.prog XR := ok_frd (r := (findF 25).2) rfl rfl (notup1 (fun l h => by cases h))
theorem okFindR (p : List UInt8) : (fR p (findN namesL p 1 : Nat) (findB namesL p)).ok Tryz.prog XR := ok_frd (r := (findF 28).2) rfl rfl (notup1 (fun l h => by cases h))
theorem okLineP (n a : Int) (h : In64 a) : (lO n a (lineA n a)).ok Tryz.prog XR := by
  refine ok_frd (r := (lineF 10).2) rfl ?_ (notup1 (fun l h => by cases h))
  show (if In64 a then some (V.str (lineA n a)) else none) = _
  rw [if_pos h]
theorem okLineR (n a : Int) (h : In64 a) : (lR n a (lineA n a)).ok Tryz.prog XR := by
  refine ok_frd (r := (lineF 11).2) rfl ?_ (notup1 (fun l h => by cases h))
  show (if In64 a then some (V.str (lineA n a)) else none) = _
  rw [if_pos h]
theorem okDecR (q : List UInt8) (h : q.length < 9223372036854775807) : (dR q (decimalA q).1 (decimalA q).2).ok Tryz.prog XR := by
  refine ok_frd (r := decimalF.2) rfl ?_ (notup1 (fun l h => by cases h))
  show (if q.length < 9223372036854775807 then some (V.tup [i64 (decimalA q).1, .bool (decimalA q).2]) else none) = _
  rw [if_pos h]
theorem okAtoi (q : List UInt8) (v : Int) (hq : q.length ≤ 281474976710656) (h : Lib.atoiAll q = .ok v) : (aO q v).ok Tryz.prog XR := by
  refine ⟨atoiG, rfl, fun args h' hd => ?_⟩
  have e := digs_flat h' args _ hd (notup1 (fun l h => by cases h))
  subst e
  show (if q.length ≤ 281474976710656 then _ else none) = _
  rw [if_pos hq, h]
theorem okAtoiE (q : List UInt8) (hq : q.length ≤ 281474976710656) (h : ∀ v, Lib.atoiAll q ≠ .ok v) : ∃ v, (aE q v).ok Tryz.prog XR := by
  rcases hk : Lib.atoiAll q with v | _ | _
  · exact absurd hk (h v)
  · refine ⟨0, atoiG, rfl, fun args hd => ?_⟩
    have e := digs_flat h0 args _ hd (notup1 (fun l h => by cases h))
    subst e
    show (if q.length ≤ 281474976710656 then _ else none) = _
    rw [if_pos hq, hk]
  · refine ⟨Lib.atoiSat q, atoiG, rfl, fun args hd => ?_⟩
    have e := digs_flat h0 args _ hd (notup1 (fun l h => by cases h))
    subst e
    show (if q.length ≤ 281474976710656 then _ else none) = _
    rw [if_pos hq, hk]
theorem okWords (s : List UInt8) (hs : s.length ≤ 2097152) : (wO s (wordsG s []).length ((wordsG s []).map V.str)).ok Tryz.prog XR := by
  refine ⟨wordsE, rfl, fun args hd => ?_⟩
  have e := digs_flat h0 args _ hd (notup1 (fun l h => by cases h))
  subst e
  show (if s.length ≤ 2097152 then _ else none) = _
  rw [if_pos hs]
theorem okI (k i : Nat) (h : i < k) : (iO k i).ok Tryz.prog XR := by
  intro ts x
  have hu : Tryz.prog.underlying 37 = some (.slice 9) := Tryz.underlying37
  have hs : szOf Tryz.prog 9 = some 1 := by kernel_rfl
  unfold indexAddrV
  simp only [hu, hs]
  rw [if_pos ⟨by omega, by omega⟩]
  simp
theorem agg9 : isAggT Tryz.prog 9 = some false := by kernel_rfl
theorem okL {row : List V} {i : Nat} {p : List UInt8} (h : row[i]? = some (.str p)) : (Ob2.ld 9 row i (.str p)).ok Tryz.prog XR := by
  show rowGet Tryz.prog 9 row i = some _
  unfold rowGet
  rw [agg9]; exact h

theorem atoi_in {q : List UInt8} {v : Int} (h : Lib.atoiAll q = .ok v) : In64 v := by
  unfold Lib.atoiAll at h
  split at h
  · cases h
  · simp only at h
    split at h
    · cases h
    · cases h
    · rename_i u hu
      split at h
      · cases h
      · split at h
        · cases h
        · cases h
          unfold In64
          split <;> omega

theorem neq_of {a b : List UInt8} (h : a ≠ b) {X : Ext} : (obS .neq a b true).ok Tryz.prog X := okSn (by simp [h])
theorem neq_no {a b : List UInt8} (h : a = b) {X : Ext} : (obS .neq a b false).ok Tryz.prog X := okSn (by simp [h])

theorem readP_run (s : List UInt8) (hs : s.length ≤ 2097152) : ∃ h', callN Tryz.prog XR 60 8 [.str s] h0 = some (rOut (readP s), h') := by
  have z64 : In64 0 := by unfold In64; omega
  unfold readP
  cases hc : cutB 32 s with
  | none =>
    have oc := okCutR s s [] false (by omega) (by unfold cutV; rw [hc])
    have of := okFindP s
    cases hf : findB namesL s with
    | false =>
      rw [hf] at of
      simp only [Bool.false_eq_true, false_and, if_false]
      exact run_of_from (r8_a s s [] _) (obs2_cons oc (obs2_cons of obs2_nil))
    | true =>
      rw [hf] at of
      by_cases hl : lineA (findN namesL s 1 : Nat) 0 = s
      · rw [if_pos ⟨rfl, hl⟩]
        exact run_of_from (r8_c s s [] _ _) (obs2_cons oc (obs2_cons of (obs2_cons (okLineP _ _ z64) (obs2_cons (neq_no hl) obs2_nil))))
      · rw [if_neg (fun h => hl h.2)]
        exact run_of_from (r8_b s s [] _ _) (obs2_cons oc (obs2_cons of (obs2_cons (okLineP _ _ z64) (obs2_cons (neq_of hl) obs2_nil))))
  | some pq =>
    obtain ⟨p, q⟩ := pq
    simp only
    obtain ⟨_, e2, _⟩ := cutB_some 32 s p q hc
    have hlen : s.length = p.length + (q.length + 1) := by rw [e2]; simp
    have oc := okCutR s p q true (by omega) (by unfold cutV; rw [hc])
    have of := okFindP p
    unfold atoiO
    by_cases ha : ∃ v, Lib.atoiAll q = .ok v
    · obtain ⟨v, hv⟩ := ha
      have oa := okAtoi q v (by omega) hv
      rw [hv]
      simp only
      cases hf : findB namesL p with
      | false =>
        rw [hf] at of
        simp only [Bool.false_eq_true, false_and, if_false]
        exact run_of_from (r8_d s p q _ _) (obs2_cons oc (obs2_cons of (obs2_cons oa obs2_nil)))
      | true =>
        rw [hf] at of
        by_cases hl : lineA (findN namesL p 1 : Nat) v = s
        · rw [if_pos ⟨rfl, hl⟩]
          exact run_of_from (r8_h s p q _ _ _) (obs2_cons oc (obs2_cons of (obs2_cons oa (obs2_cons (okLineP _ _ (atoi_in hv)) (obs2_cons (neq_no hl) obs2_nil)))))
        · rw [if_neg (fun h => hl h.2)]
          exact run_of_from (r8_g s p q _ _ _) (obs2_cons oc (obs2_cons of (obs2_cons oa (obs2_cons (okLineP _ _ (atoi_in hv)) (obs2_cons (neq_of hl) obs2_nil)))))
    · obtain ⟨v, oa⟩ := okAtoiE q (by omega) (fun v h => ha ⟨v, h⟩)
      have e : (match Lib.atoiAll q with | .ok v => some v | _ => (none : Option Int)) = none := by
        split
        · rename_i v hv; exact absurd ⟨v, hv⟩ ha
        · rfl
      rw [e]
      simp only
      cases hf : findB namesL p with
      | false =>
        rw [hf] at of
        exact run_of_from (r8_e s p q _ _) (obs2_cons oc (obs2_cons of (obs2_cons oa obs2_nil)))
      | true =>
        rw [hf] at of
        exact run_of_from (r8_f s p q _ _) (obs2_cons oc (obs2_cons of (obs2_cons oa obs2_nil)))

theorem wordsG_len : ∀ (l cur : List UInt8), ∀ w ∈ wordsG l cur, w.length ≤ cur.length + l.length
  | [], cur, w, h => by simp [wordsG] at h; subst h; simp
  | c :: l, cur, w, h => by
    unfold wordsG at h
    split at h
    · rcases List.mem_cons.1 h with rfl | h
      · simp
      · have := wordsG_len l [] w h
        simp at this ⊢
        omega
    · have := wordsG_len l (cur ++ [c]) w h
      simp at this ⊢
      omega

set_option maxRecDepth 8000 in
theorem readR_run (s : List UInt8) (hs : s.length ≤ 2097152) : ∃ h', callN Tryz.prog XR 60 9 [.str s] h0 = some (rOut (readR s), h') := by
  have z64 : In64 0 := by unfold In64; omega
  have ow := okWords s hs
  unfold readR
  cases hw : wordsG s [] with
  | nil =>
    exfalso
    have : ∀ (l cur : List UInt8), wordsG l cur ≠ [] := by
      intro l
      induction l with
      | nil => intro cur h; simp [wordsG] at h
      | cons c l ih => intro cur h; unfold wordsG at h; split at h
                       · cases h
                       · exact ih _ h
    exact this s [] hw
  | cons p r =>
    rw [hw] at ow
    have of := okFindR p
    have ol : (Ob2.ld 9 ((p :: r).map V.str) 0 (.str p)).ok Tryz.prog XR := okL rfl
    have oi := okI (p :: r).length 0 (by simp)
    simp only
    have base : ∀ b, findB namesL p = b → Obs2 Tryz.prog XR (o0 s (p :: r).length ((p :: r).map V.str) p (findN namesL p 1 : Nat) b) := by
      intro b hb
      rw [hb] at of
      exact obs2_cons ow (obs2_cons oi (obs2_cons ol (obs2_cons of obs2_nil)))
    have app : ∀ {l m : List Ob2}, Obs2 Tryz.prog XR l → Obs2 Tryz.prog XR m → Obs2 Tryz.prog XR (l ++ m) := fun hl hm x hx => (List.mem_append.1 hx).elim (hl x) (hm x)
    cases hf : findB namesL p with
    | false =>
      simp only [Bool.false_eq_true, if_false]
      exact run_of_from (r9_a s p _ _ _) (base false hf)
    | true =>
      rw [if_pos rfl]
      have ob := base true hf
      match r, ob with
      | [], ob =>
        simp only
        have m1 : (obI .gtr (([p] : List (List UInt8)).length : Nat) 2 false).ok Tryz.prog XR := okIgt (by simp)
        have m2 : (obI .eql (([p] : List (List UInt8)).length : Nat) 2 false).ok Tryz.prog XR := okIeq (by simp)
        by_cases hl : lineA (findN namesL p 1 : Nat) 0 = s
        · rw [if_pos hl]
          exact run_of_from (r9_d s p _ _ _ _) (app ob (obs2_cons m1 (obs2_cons m2 (obs2_cons (okLineR _ _ z64) (obs2_cons (neq_no hl) obs2_nil)))))
        · rw [if_neg hl]
          exact run_of_from (r9_c s p _ _ _ _) (app ob (obs2_cons m1 (obs2_cons m2 (obs2_cons (okLineR _ _ z64) (obs2_cons (neq_of hl) obs2_nil)))))
      | [q], ob =>
        simp only
        have m1 : (obI .gtr (([p, q] : List (List UInt8)).length : Nat) 2 false).ok Tryz.prog XR := okIgt (by simp)
        have m2 : (obI .eql (([p, q] : List (List UInt8)).length : Nat) 2 true).ok Tryz.prog XR := okIeq (by simp)
        have m3 := okI ([p, q] : List (List UInt8)).length 1 (by simp)
        have m4 : (Ob2.ld 9 (([p, q] : List (List UInt8)).map V.str) 1 (.str q)).ok Tryz.prog XR := okL rfl
        have hq : q.length ≤ s.length := by
          have := wordsG_len s [] q (by rw [hw]; simp)
          simpa using this
        have od := okDecR q (by omega)
        have hin : In64 (decimalA q).1 := by
          unfold decimalA
          split
          · unfold In64; simp
          · split
            · split
              · unfold In64; simp
              · split <;> exact wri64_in _
            · split
              · unfold In64; simp
              · exact wri64_in _
        cases hk : (decimalA q).2 with
        | false =>
          rw [hk] at od
          simp only [Bool.false_eq_true, false_and, if_false]
          exact run_of_from (r9_e s p q _ _ _ _) (app ob (obs2_cons m1 (obs2_cons m2 (obs2_cons m3 (obs2_cons m4 (obs2_cons od obs2_nil))))))
        | true =>
          rw [hk] at od
          by_cases hl : lineA (findN namesL p 1 : Nat) (decimalA q).1 = s
          · rw [if_pos ⟨rfl, hl⟩]
            exact run_of_from (r9_g s p q _ _ _ _ _) (app ob (obs2_cons m1 (obs2_cons m2 (obs2_cons m3 (obs2_cons m4 (obs2_cons od (obs2_cons (okLineR _ _ hin) (obs2_cons (neq_no hl) obs2_nil))))))))
          · rw [if_neg (fun h => hl h.2)]
            exact run_of_from (r9_f s p q _ _ _ _ _) (app ob (obs2_cons m1 (obs2_cons m2 (obs2_cons m3 (obs2_cons m4 (obs2_cons od (obs2_cons (okLineR _ _ hin) (obs2_cons (neq_of hl) obs2_nil))))))))
      | q1 :: q2 :: r, ob =>
        simp only
        exact run_of_from (r9_b s p _ _ _) (app ob (obs2_cons (okIgt (by simp; omega)) obs2_nil))

end Go.AM
