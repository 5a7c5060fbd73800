/-
  The document's Decimal: by heart.
-/
import Derived.Test.YtmokkkbbbmcjnaaGreatDoorAsD
import Derived.RowKit
import Derived.IntWalk
set_option linter.unusedVariables false
set_option linter.unusedSimpArgs false
namespace Go.AM
open Go.Proofs

/-- The document's Digits is at hand. -/
def XD : Ext := orExt (flatExt [digitsF]) XL
theorem XD_ok : ExtOk Tryz.prog XD := orExt_ok (flatExt_ok mixed (by
  intro x hx
  rw [List.mem_singleton] at hx
  subst hx
  exact ⟨XL, XL_ok, XL_mono, digits_knows⟩)) XL_ok
theorem XD_mono : ExtMono XD := orExt_mono (flatExt_mono _) XL_mono

noncomputable abbrev cBody : Code := Code.go (bodyOf Tryz.prog 29) [1, 1, 1, 1, 0, 1, 0, 0]
abbrev cKs : List Nat := [0, 4, 5, 6]
abbrev cVs (s : List UInt8) (u z i : Int) : List V := [.str s, u64 u, i64 z, i64 i]
abbrev ob8 (op : BinOp) (a b : Int) (x : Bool) : Ob2 := .bin op 5 (.int .u8 a) (.int .u8 b) (.bool x)
abbrev ix (s : List UInt8) (i c : Int) : Ob2 := .idx 9 (.str s) (i64 i) (.int .u8 c)
abbrev cAsk (c : Int) : Orc2 := [tp 29 24 (.int .u8 c), tv 29 25 false, tp 29 29 (.int .u8 c), tv 29 30 false, tv 29 34 false, tv 29 38 false]

theorem dec_round (m : Nat) (s : List UInt8) (u z i c j : Int) (t : List V) :
    tellCode Tryz.prog XD m 29 [] m cBody ⟨normL 66 (cKs.zip (cVs s u z i)) t, h0⟩ ([tv 29 19 true] ++ cAsk c ++ [tp 29 44 (.int .u8 c), tp 29 21 (i64 j)]) cKs =
      some (.normal, 66, cVs s (wr .u64 (wr .u64 (10 * u) + wr .u64 (wr .u8 (c - 48)))) z j, h0,
        [obI .lss i s.length true, ix s i c, ob8 .lss c 48 false, ix s i c, ob8 .gtr c 57 false, obI .gtr i 19 false, obU .gtr u 1844674407370955161 false, ix s i c, .bin .add 3 (i64 i) (i64 1) (i64 j)]) := by kernel_rfl
theorem dec_end (m : Nat) (s : List UInt8) (u z i : Int) (t : List V) :
    tellCode Tryz.prog XD m 29 [] m cBody ⟨normL 66 (cKs.zip (cVs s u z i)) t, h0⟩ [tv 29 19 false] cKs = some (.exit 0, 66, cVs s u z i, h0, [obI .lss i s.length false]) := by kernel_rfl
abbrev rVs : List V := [i64 0, .bool false]
theorem dec_bad1 (m : Nat) (s : List UInt8) (u z i c : Int) (t : List V) :
    tellCode Tryz.prog XD m 29 [] m cBody ⟨normL 66 (cKs.zip (cVs s u z i)) t, h0⟩ [tv 29 19 true, tp 29 24 (.int .u8 c), tv 29 25 true] [2, 3] = some (.ret, 66, rVs, h0, [obI .lss i s.length true, ix s i c, ob8 .lss c 48 true]) := by kernel_rfl
theorem dec_bad2 (m : Nat) (s : List UInt8) (u z i c : Int) (t : List V) :
    tellCode Tryz.prog XD m 29 [] m cBody ⟨normL 66 (cKs.zip (cVs s u z i)) t, h0⟩ [tv 29 19 true, tp 29 24 (.int .u8 c), tv 29 25 false, tp 29 29 (.int .u8 c), tv 29 30 true] [2, 3] = some (.ret, 66, rVs, h0, [obI .lss i s.length true, ix s i c, ob8 .lss c 48 false, ix s i c, ob8 .gtr c 57 true]) := by kernel_rfl
theorem dec_bad3 (m : Nat) (s : List UInt8) (u z i c : Int) (t : List V) :
    tellCode Tryz.prog XD m 29 [] m cBody ⟨normL 66 (cKs.zip (cVs s u z i)) t, h0⟩ [tv 29 19 true, tp 29 24 (.int .u8 c), tv 29 25 false, tp 29 29 (.int .u8 c), tv 29 30 false, tv 29 34 true] [2, 3] = some (.ret, 66, rVs, h0, [obI .lss i s.length true, ix s i c, ob8 .lss c 48 false, ix s i c, ob8 .gtr c 57 false, obI .gtr i 19 true]) := by kernel_rfl
theorem dec_bad4 (m : Nat) (s : List UInt8) (u z i c : Int) (t : List V) :
    tellCode Tryz.prog XD m 29 [] m cBody ⟨normL 66 (cKs.zip (cVs s u z i)) t, h0⟩ [tv 29 19 true, tp 29 24 (.int .u8 c), tv 29 25 false, tp 29 29 (.int .u8 c), tv 29 30 false, tv 29 34 false, tv 29 38 true] [2, 3] = some (.ret, 66, rVs, h0, [obI .lss i s.length true, ix s i c, ob8 .lss c 48 false, ix s i c, ob8 .gtr c 57 false, obI .gtr i 19 false, obU .gtr u 1844674407370955161 true]) := by kernel_rfl


abbrev cLp (s : List UInt8) (u z i : Int) (J : List V → List V) : FuncId × Tmp × Tell := (29, 0, .loop 66 cKs (.exit 0) (cKs.zip (cVs s u z i)) J h0)
abbrev cLr (J : List V → List V) : FuncId × Tmp × Tell := (29, 0, .loop 66 cKs .ret ([2, 3].zip rVs) J h0)
noncomputable abbrev cOp (m : Nat) (s : List UInt8) (u z i z0 : Int) (J : List V → List V) : Ob2 := .loop m [] cBody 66 cKs (cVs s 0 z0 z0) h0 (.exit 0) (cKs.zip (cVs s u z i)) J h0
noncomputable abbrev cOr (m : Nat) (s : List UInt8) (z0 : Int) (J : List V → List V) : Ob2 := .loop m [] cBody 66 cKs (cVs s 0 z0 z0) h0 .ret ([2, 3].zip rVs) J h0

theorem dec_nil (m : Nat) (J : List V → List V) : tellFrom Tryz.prog XD (m + 2) 29 [.str []] h0 [tv 29 9 false, cLp [] 0 0 0 J, tv 29 59 false] =
  some (.tup [i64 (wr .i64 0), .bool false], [obS .neq [] [] false, cOp (m + 1) [] 0 0 0 0 J, obI .gtr 0 0 false]) := by kernel_rfl
theorem dec_pr (m : Nat) (s : List UInt8) (c : Int) (J : List V → List V) : tellFrom Tryz.prog XD (m + 2) 29 [.str s] h0 [tv 29 9 true, tp 29 12 (.int .u8 c), tv 29 13 false, cLr J] =
  some (.tup rVs, [obS .neq s [] true, ix s 0 c, ob8 .eql c 45 false, cOr (m + 1) s 0 J]) := by kernel_rfl
theorem dec_p (m : Nat) (s d : List UInt8) (c u i : Int) (k : Bool) (J : List V → List V) : tellFrom Tryz.prog XD (m + 2) 29 [.str s] h0 [tv 29 9 true, tp 29 12 (.int .u8 c), tv 29 13 false, cLp s u 0 i J, tv 29 59 true, tp 29 62 (.str d), tv 29 64 k] =
  some (.tup [i64 (wr .i64 u), .bool k], [obS .neq s [] true, ix s 0 c, ob8 .eql c 45 false, cOp (m + 1) s u 0 i 0 J, obI .gtr s.length 0 true, .rd 35 [i64 (wr .i64 u)] (.str d), obS .eql d s k]) := by kernel_rfl
theorem dec_nr (m : Nat) (s : List UInt8) (c : Int) (J : List V → List V) : tellFrom Tryz.prog XD (m + 2) 29 [.str s] h0 [tv 29 9 true, tp 29 12 (.int .u8 c), tv 29 13 true, cLr J] =
  some (.tup rVs, [obS .neq s [] true, ix s 0 c, ob8 .eql c 45 true, cOr (m + 1) s 1 J]) := by kernel_rfl
theorem dec_n (m : Nat) (s d : List UInt8) (c u i : Int) (k : Bool) (J : List V → List V) : tellFrom Tryz.prog XD (m + 2) 29 [.str s] h0 [tv 29 9 true, tp 29 12 (.int .u8 c), tv 29 13 true, cLp s u 1 i J, tv 29 59 true, tp 29 62 (.str d), tv 29 64 k] =
  some (.tup [i64 (wr .i64 (wr .u64 (0 - u))), .bool k], [obS .neq s [] true, ix s 0 c, ob8 .eql c 45 true, cOp (m + 1) s u 1 i 1 J, obI .gtr s.length 1 true, .rd 35 [i64 (wr .i64 (wr .u64 (0 - u)))] (.str d), obS .eql d s k]) := by kernel_rfl
theorem dec_n0 (m : Nat) (s : List UInt8) (c u i : Int) (J : List V → List V) : tellFrom Tryz.prog XD (m + 2) 29 [.str s] h0 [tv 29 9 true, tp 29 12 (.int .u8 c), tv 29 13 true, cLp s u 1 i J, tv 29 59 false] =
  some (.tup [i64 (wr .i64 (wr .u64 (0 - u))), .bool false], [obS .neq s [] true, ix s 0 c, ob8 .eql c 45 true, cOp (m + 1) s u 1 i 1 J, obI .gtr s.length 1 false]) := by kernel_rfl

/-! ### The rounds -/

def decL : List UInt8 → Nat → Nat → Option Nat
  | [], _, u => some u
  | c :: l, i, u => if c.toNat < 48 ∨ c.toNat > 57 ∨ i > 19 ∨ u > 1844674407370955161 then none else decL l (i + 1) ((10 * u + (c.toNat - 48)) % 18446744073709551616)

theorem ok8lt {a b : Int} {x : Bool} {X : Ext} (h : decide (a < b) = x) : (ob8 .lss a b x).ok Tryz.prog X := by
  show some (V.bool (decide (a < b))) = _
  rw [h]
theorem ok8gt {a b : Int} {x : Bool} {X : Ext} (h : decide (a > b) = x) : (ob8 .gtr a b x).ok Tryz.prog X := by
  show some (V.bool (decide (a > b))) = _
  rw [h]
theorem ok8eq {a b : Int} {x : Bool} {X : Ext} (h : (a == b) = x) : (ob8 .eql a b x).ok Tryz.prog X := by
  show some (V.bool (a == b)) = _
  rw [h]
theorem okIgt {a b : Int} {x : Bool} {X : Ext} (h : decide (a > b) = x) : (obI .gtr a b x).ok Tryz.prog X := by
  show some (V.bool (decide (a > b))) = _
  rw [h]
theorem okIeq {a b : Int} {x : Bool} {X : Ext} (h : (a == b) = x) : (obI .eql a b x).ok Tryz.prog X := by
  show some (V.bool (a == b)) = _
  rw [h]
theorem okIne {a b : Int} {x : Bool} {X : Ext} (h : (a != b) = x) : (obI .neq a b x).ok Tryz.prog X := by
  show some (V.bool (a != b)) = _
  rw [h]
theorem okIle {a b : Int} {x : Bool} {X : Ext} (h : decide (a ≤ b) = x) : (obI .leq a b x).ok Tryz.prog X := by
  show some (V.bool (decide (a ≤ b))) = _
  rw [h]
theorem okIge {a b : Int} {x : Bool} {X : Ext} (h : decide (a ≥ b) = x) : (obI .geq a b x).ok Tryz.prog X := by
  show some (V.bool (decide (a ≥ b))) = _
  rw [h]
theorem okSe {a b : List UInt8} {x : Bool} {X : Ext} (h : (a == b) = x) : (obS .eql a b x).ok Tryz.prog X := by
  show some (V.bool (a == b)) = _
  rw [h]
theorem okSn {a b : List UInt8} {x : Bool} {X : Ext} (h : (!(a == b)) = x) : (obS .neq a b x).ok Tryz.prog X := by
  show some (V.bool (!(a == b))) = _
  rw [h]
theorem okIx {X : Ext} {a : List UInt8} {x : Nat} {c : UInt8} (h : a[x]? = some c) : (ix a (x : Nat) (c.toNat : Nat)).ok Tryz.prog X := by
  have hu : Tryz.prog.underlying 9 = some .string := Tryz.underlying9
  show indexV Tryz.prog 9 (.str a) (i64 (x : Nat)) = _
  unfold indexV
  simp [hu, h]
theorem okInc {X : Ext} (i : Nat) (h : i < 9223372036854775807) : (Ob2.bin .add 3 (i64 (i : Nat)) (i64 1) (i64 ((i + 1 : Nat) : Int))).ok Tryz.prog X := by
  show some (V.int .i64 (wr .i64 ((i : Int) + 1))) = _
  have : wr .i64 ((i : Int) + 1) = ((i + 1 : Nat) : Int) := by
    unfold wr loK hiK
    rw [if_pos ⟨by simp only; omega, by simp only; omega⟩]
    simp
  rw [this]

theorem dec_rounds (m : Nat) (s : List UInt8) (z : Int) (hs : s.length < 9223372036854775807) : ∀ (l : List UInt8) (i u : Nat) (t : List V) (fuel : Nat), s.drop i = l → i + l.length = s.length → u < 18446744073709551616 → l.length < fuel → t.length = 66 → proj cKs t = cVs s u z i →
    match decL l i u with
    | some u' => ∃ t', rounds (exec Tryz.prog (callN Tryz.prog XD m) [] m cBody) fuel ⟨t, h0⟩ = some (.exit 0, ⟨t', h0⟩) ∧ t'.length = 66 ∧ proj cKs t' = cVs s (u' : Nat) z s.length
    | none => ∃ t', rounds (exec Tryz.prog (callN Tryz.prog XD m) [] m cBody) fuel ⟨t, h0⟩ = some (.ret, ⟨t', h0⟩) ∧ t'.length = 66 ∧ proj [2, 3] t' = rVs := by
  intro l
  induction l with
  | nil =>
    intro i u t fuel hd hi hu hf ht hp
    obtain ⟨f, rfl⟩ : ∃ f, fuel = f + 1 := ⟨fuel - 1, by omega⟩
    simp at hi
    subst hi
    have hr := dec_end m s u z s.length t
    rw [norm_zip ht hp] at hr
    obtain ⟨t', e1, e2, e3⟩ := code_of_tell hr (obs2_cons (okIlt (by simp)) obs2_nil)
    exact ⟨t', by simp only [rounds, e1], e2, e3⟩
  | cons c l ih =>
    intro i u t fuel hd hi hu hf ht hp
    obtain ⟨f, rfl⟩ : ∃ f, fuel = f + 1 := ⟨fuel - 1, by omega⟩
    simp only [List.length_cons] at hi hf
    have hc : s[i]? = some c := by
      have : (s.drop i)[0]? = some c := by rw [hd]; rfl
      rw [List.getElem?_drop] at this
      simpa using this
    have hd' : s.drop (i + 1) = l := by
      have : (s.drop i).tail = l := by rw [hd]; rfl
      simpa using this
    have o1 : (obI .lss (i : Nat) s.length true).ok Tryz.prog XD := okIlt (by simp; omega)
    have o2 := okIx (X := XD) hc
    simp only [decL]
    by_cases h1 : c.toNat < 48
    · rw [if_pos (.inl h1)]
      have hr := dec_bad1 m s u z i c.toNat t
      rw [norm_zip ht hp] at hr
      obtain ⟨t', e1, e2, e3⟩ := code_of_tell hr (obs2_cons o1 (obs2_cons o2 (obs2_cons (ok8lt (by simp; omega)) obs2_nil)))
      exact ⟨t', by simp only [rounds, e1], e2, e3⟩
    have o3 : (ob8 .lss (c.toNat : Nat) 48 false).ok Tryz.prog XD := ok8lt (by simp; omega)
    by_cases h2 : c.toNat > 57
    · rw [if_pos (.inr (.inl h2))]
      have hr := dec_bad2 m s u z i c.toNat t
      rw [norm_zip ht hp] at hr
      obtain ⟨t', e1, e2, e3⟩ := code_of_tell hr (obs2_cons o1 (obs2_cons o2 (obs2_cons o3 (obs2_cons o2 (obs2_cons (ok8gt (by simp; omega)) obs2_nil)))))
      exact ⟨t', by simp only [rounds, e1], e2, e3⟩
    have o4 : (ob8 .gtr (c.toNat : Nat) 57 false).ok Tryz.prog XD := ok8gt (by simp; omega)
    by_cases h3 : i > 19
    · rw [if_pos (.inr (.inr (.inl h3)))]
      have hr := dec_bad3 m s u z i c.toNat t
      rw [norm_zip ht hp] at hr
      obtain ⟨t', e1, e2, e3⟩ := code_of_tell hr (obs2_cons o1 (obs2_cons o2 (obs2_cons o3 (obs2_cons o2 (obs2_cons o4 (obs2_cons (okIgt (by simp; omega)) obs2_nil))))))
      exact ⟨t', by simp only [rounds, e1], e2, e3⟩
    have o5 : (obI .gtr (i : Nat) 19 false).ok Tryz.prog XD := okIgt (by simp; omega)
    by_cases h4 : u > 1844674407370955161
    · rw [if_pos (.inr (.inr (.inr h4)))]
      have hr := dec_bad4 m s u z i c.toNat t
      rw [norm_zip ht hp] at hr
      obtain ⟨t', e1, e2, e3⟩ := code_of_tell hr (obs2_cons o1 (obs2_cons o2 (obs2_cons o3 (obs2_cons o2 (obs2_cons o4 (obs2_cons o5 (obs2_cons (okUgt (by simp; omega)) obs2_nil)))))))
      exact ⟨t', by simp only [rounds, e1], e2, e3⟩
    rw [if_neg (by omega)]
    have hr := dec_round m s u z i c.toNat ((i + 1 : Nat) : Int) t
    rw [norm_zip ht hp] at hr
    obtain ⟨t', e1, e2, e3⟩ := code_of_tell hr (obs2_cons o1 (obs2_cons o2 (obs2_cons o3 (obs2_cons o2 (obs2_cons o4 (obs2_cons o5 (obs2_cons (okUgt (by simp; omega)) (obs2_cons o2 (obs2_cons (okInc i (by omega)) obs2_nil)))))))))
    have hw : wr .u64 (wr .u64 (10 * (u : Int)) + wr .u64 (wr .u8 ((c.toNat : Int) - 48))) = (((10 * u + (c.toNat - 48)) % 18446744073709551616 : Nat) : Int) := by
      have e8 : wr .u8 ((c.toNat : Int) - 48) = ((c.toNat - 48 : Nat) : Int) := by
        unfold wr loK hiK
        rw [if_pos ⟨by simp only; omega, by simp only; omega⟩]
        omega
      rw [e8, wru64 (n := 10 * (u : Int)) (by omega) (by omega), wru64 (n := ((c.toNat - 48 : Nat) : Int)) (by omega) (by omega)]
      rw [wr_eq]
      simp [IntKind.wrap, IntKind.bits, IntKind.signed]
    rw [hw] at e3
    have := ih (i + 1) ((10 * u + (c.toNat - 48)) % 18446744073709551616) t' f hd' (by omega) (Nat.mod_lt _ (by omega)) (by omega) e2 e3
    simp only [rounds, e1]
    exact this

def decimalA (s : List UInt8) : Int × Bool := match s with
  | [] => (0, false)
  | c :: l => if c.toNat = 45 then (match decL l 1 0 with
      | none => (0, false)
      | some u => if l.length = 0 then (wr .i64 (wr .u64 (0 - (u : Int))), false) else (wr .i64 (wr .u64 (0 - (u : Int))), itoaF (wr .i64 (wr .u64 (0 - (u : Int)))) == s))
    else (match decL s 0 0 with
      | none => (0, false)
      | some u => (wr .i64 (u : Int), itoaF (wr .i64 (u : Int)) == s))

def decimalF : FlatF := (29, fun args => match args with | [.str s] => if s.length < 9223372036854775807 then some (.tup [i64 (decimalA s).1, .bool (decimalA s).2]) else none | _ => none)

theorem wri64_in (n : Int) : -9223372036854775808 ≤ wr .i64 n ∧ wr .i64 n ≤ 9223372036854775807 := by
  rw [wr_eq, IntWalk.i64_left]
  unfold RowKit.wrap64
  omega

theorem digs_flat : ∀ (h : Heap) (args dargs : List V), digs h args = some dargs → (∀ d ∈ dargs, ∀ l, d ≠ .tup l) → args = dargs
  | h, [], dargs, hd, _ => by simp only [digs, Option.some.injEq] at hd; exact hd
  | h, a :: args, dargs, hd, hn => by
    simp only [digs] at hd
    split at hd
    · rename_i v l hv hl
      cases hd
      have e := digs_flat h args l hl (fun d hd => hn d (by simp [hd]))
      subst e
      have hnv := hn v (by simp)
      unfold dig at hv
      split at hv
      · split at hv
        · cases hv; exact absurd rfl (hnv _)
        · cases hv
      · cases hv
      · split at hv
        · cases hv; rfl
        · cases hv
    · cases hd

theorem okDig {n : Int} (h : -9223372036854775808 ≤ n ∧ n ≤ 9223372036854775807) : (Ob2.rd 35 [i64 n] (.str (itoaF n))).ok Tryz.prog XD := by
  refine ⟨_, rfl, fun args h' hd => ?_⟩
  have e := digs_flat h' args _ hd (by intro d hd l; simp at hd; subst hd; intro h; cases h)
  subst e
  show ((if -9223372036854775808 ≤ n ∧ n ≤ 9223372036854775807 then some (V.str (itoaF n)) else none).map (·, h')) = _
  rw [if_pos h]; rfl

theorem decimal_knows : Knows Tryz.prog XD decimalF := by
  intro args v hv
  unfold decimalF at hv
  simp only at hv
  split at hv
  case h_2 => cases hv
  rename_i s
  split at hv
  case isFalse => cases hv
  rename_i hs
  cases hv
  refine ⟨rfl, rfl, s.length + 2, ?_⟩
  show ∃ h', callN Tryz.prog XD (s.length + 2) 29 [.str s] h0 = some (.tup [i64 (decimalA s).1, .bool (decimalA s).2], h')
  cases s with
  | nil =>
    refine run_of_from (dec_nil 0 _) (obs2_cons (okSn rfl) (obs2_cons (ok_loop ?_) (obs2_cons (okIgt (by simp)) obs2_nil)))
    intro t ht hp
    exact dec_rounds 1 [] 0 (by simp) [] 0 0 t 1 rfl rfl (by omega) (by simp) ht hp
  | cons c l =>
    have o1 : (obS .neq (c :: l) [] true).ok Tryz.prog XD := okSn rfl
    have o2 : (ix (c :: l) 0 c.toNat).ok Tryz.prog XD := okIx (x := 0) rfl
    have hlen : (c :: l).length = l.length + 1 := rfl
    rw [hlen] at hs ⊢
    by_cases hc : c.toNat = 45
    · have o3 : (ob8 .eql (c.toNat : Nat) 45 true).ok Tryz.prog XD := ok8eq (by simp [hc])
      have key := fun t ht hp => dec_rounds (l.length + 1 + 1) (c :: l) 1 hs l 1 0 t (l.length + 1 + 1) rfl (by simp; omega) (by omega) (by omega) ht hp
      simp only [decimalA, if_pos hc]
      cases hd : decL l 1 0 with
      | none =>
        refine run_of_from (dec_nr (l.length + 1) (c :: l) c.toNat _) (obs2_cons o1 (obs2_cons o2 (obs2_cons o3 (obs2_cons (ok_loop ?_) obs2_nil))))
        intro t ht hp
        have := key t ht hp
        rw [hd] at this
        exact this
      | some u =>
        have lp : ∀ t : List V, t.length = 66 → proj cKs t = cVs (c :: l) 0 1 1 → ∃ t', rounds (exec Tryz.prog (callN Tryz.prog XD (l.length + 1 + 1)) [] (l.length + 1 + 1) cBody) (l.length + 1 + 1) ⟨t, h0⟩ = some (.exit 0, ⟨t', h0⟩) ∧ t'.length = 66 ∧ proj cKs t' = cVs (c :: l) (u : Nat) 1 ((c :: l).length : Nat) := by
          intro t ht hp
          have := key t ht hp
          rw [hd] at this
          exact this
        by_cases hl : l.length = 0
        · simp only [if_pos hl]
          exact run_of_from (dec_n0 (l.length + 1) (c :: l) c.toNat u ((c :: l).length : Nat) _) (obs2_cons o1 (obs2_cons o2 (obs2_cons o3 (obs2_cons (ok_loop lp) (obs2_cons (okIgt (by simp; omega)) obs2_nil)))))
        · simp only [if_neg hl]
          exact run_of_from (dec_n (l.length + 1) (c :: l) _ c.toNat u ((c :: l).length : Nat) _ _) (obs2_cons o1 (obs2_cons o2 (obs2_cons o3 (obs2_cons (ok_loop lp) (obs2_cons (okIgt (by simp; omega)) (obs2_cons (okDig (wri64_in _)) (obs2_cons (okSe rfl) obs2_nil)))))))
    · have o3 : (ob8 .eql (c.toNat : Nat) 45 false).ok Tryz.prog XD := ok8eq (by simp; omega)
      have key := fun t ht hp => dec_rounds (l.length + 1 + 1) (c :: l) 0 hs (c :: l) 0 0 t (l.length + 1 + 1) rfl (by simp) (by omega) (by simp) ht hp
      simp only [decimalA, if_neg hc]
      cases hd : decL (c :: l) 0 0 with
      | none =>
        refine run_of_from (dec_pr (l.length + 1) (c :: l) c.toNat _) (obs2_cons o1 (obs2_cons o2 (obs2_cons o3 (obs2_cons (ok_loop ?_) obs2_nil))))
        intro t ht hp
        have := key t ht hp
        rw [hd] at this
        exact this
      | some u =>
        refine run_of_from (dec_p (l.length + 1) (c :: l) _ c.toNat u ((c :: l).length : Nat) _ _) (obs2_cons o1 (obs2_cons o2 (obs2_cons o3 (obs2_cons (ok_loop ?_) (obs2_cons (okIgt (by simp <;> omega)) (obs2_cons (okDig (wri64_in _)) (obs2_cons (okSe rfl) obs2_nil)))))))
        intro t ht hp
        have := key t ht hp
        rw [hd] at this
        exact this

end Go.AM
