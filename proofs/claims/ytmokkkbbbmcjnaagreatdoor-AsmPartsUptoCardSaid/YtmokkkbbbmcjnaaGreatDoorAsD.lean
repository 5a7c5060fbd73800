/-
  The document's Digits: by heart.
-/
import Derived.Test.YtmokkkbbbmcjnaaGreatDoorAsT2
set_option linter.unusedVariables false
set_option linter.unusedSimpArgs false
namespace Go.AM
open Go.Proofs

abbrev tv (f : FuncId) (d : Tmp) (b : Bool) : FuncId × Tmp × Tell := (f, d, .val (.bool b))
abbrev tp (f : FuncId) (d : Tmp) (v : V) : FuncId × Tmp × Tell := (f, d, .val v)
abbrev obI (op : BinOp) (a b : Int) (x : Bool) : Ob2 := .bin op 3 (.int .i64 a) (.int .i64 b) (.bool x)
abbrev obU (op : BinOp) (a b : Int) (x : Bool) : Ob2 := .bin op 88 (.int .u64 a) (.int .u64 b) (.bool x)
abbrev obS (op : BinOp) (a b : List UInt8) (x : Bool) : Ob2 := .bin op 9 (.str a) (.str b) (.bool x)
abbrev u64 (n : Int) : V := .int .u64 n

noncomputable abbrev dBody : Code := Code.go (bodyOf Tryz.prog 35) [1, 1, 1, 1, 0, 0, 0]
abbrev dKs : List Nat := [0, 3, 4]
def dByte (n : Int) : Int := wr .u8 (wr .u64 (48 + n.tmod 10))
def dCell (n : Int) : Obj := .cells false 5 [.int .u8 (dByte n)]

theorem dig_round (m : Nat) (H : Heap) (z n : Int) (s : List UInt8) (c : List UInt8) (t : List V) :
    tellCode Tryz.prog XL m 35 [] m dBody ⟨normL 35 (dKs.zip [i64 z, u64 n, .str s]) t, H⟩ [tv 35 12 true, tp 35 18 (.str c), tp 35 20 (.str (c ++ s))] dKs =
      some (.normal, 35, [i64 z, u64 (wr .u64 (n.tdiv 10)), .str (c ++ s)], H.alloc (dCell n),
        [obU .gtr n 9 true, .cnv 73 9 (H.alloc (dCell n)) (.slice H.next 0 1 (some 1)) (.str c), .bin .add 9 (.str c) (.str s) (.str (c ++ s))]) := by kernel_rfl

theorem dig_end (m : Nat) (H : Heap) (z n : Int) (s : List UInt8) (t : List V) :
    tellCode Tryz.prog XL m 35 [] m dBody ⟨normL 35 (dKs.zip [i64 z, u64 n, .str s]) t, H⟩ [tv 35 12 false] dKs = some (.exit 0, 35, [i64 z, u64 n, .str s], H, [obU .gtr n 9 false]) := by kernel_rfl

def lByte (n : Int) : Int := wr .u8 (wr .u64 (48 + n))
def lCell (n : Int) : Obj := .cells false 5 [.int .u8 (lByte n)]

theorem dig_pos (m : Nat) (n u : Int) (s c : List UInt8) (J : List V → List V) (H : Heap) :
    tellFrom Tryz.prog XL (m + 1) 35 [i64 n] h0 [tv 35 8 false, (35, 0, .loop 35 dKs (.exit 0) (dKs.zip [i64 n, u64 u, .str s]) J H), tp 35 27 (.str c), tp 35 29 (.str (c ++ s)), tv 35 31 false] =
      some (.str (c ++ s), [obI .lss n 0 false, .loop m [] dBody 35 dKs [i64 n, u64 (wr .u64 n), .str []] h0 (.exit 0) (dKs.zip [i64 n, u64 u, .str s]) J H,
        .cnv 73 9 (H.alloc (lCell u)) (.slice H.next 0 1 (some 1)) (.str c), .bin .add 9 (.str c) (.str s) (.str (c ++ s)), obI .lss n 0 false]) := by kernel_rfl

theorem dig_neg (m : Nat) (n u : Int) (s c : List UInt8) (J : List V → List V) (H : Heap) :
    tellFrom Tryz.prog XL (m + 1) 35 [i64 n] h0 [tv 35 8 true, (35, 0, .loop 35 dKs (.exit 0) (dKs.zip [i64 n, u64 u, .str s]) J H), tp 35 27 (.str c), tp 35 29 (.str (c ++ s)), tv 35 31 true, tp 35 33 (.str (45 :: (c ++ s)))] =
      some (.str (45 :: (c ++ s)), [obI .lss n 0 true, .loop m [] dBody 35 dKs [i64 n, u64 (wr .u64 (0 - wr .u64 n)), .str []] h0 (.exit 0) (dKs.zip [i64 n, u64 u, .str s]) J H,
        .cnv 73 9 (H.alloc (lCell u)) (.slice H.next 0 1 (some 1)) (.str c), .bin .add 9 (.str c) (.str s) (.str (c ++ s)), obI .lss n 0 true, .bin .add 9 (.str [45]) (.str (c ++ s)) (.str (45 :: (c ++ s)))]) := by kernel_rfl

/-! ### The rounds -/

def dH : Nat → Nat → Heap → Heap
  | 0, _, H => H
  | k + 1, n, H => if n < 10 then H else dH k (n / 10) (H.alloc (dCell n))
def dTop : Nat → Nat → Nat
  | 0, n => n
  | k + 1, n => if n < 10 then n else dTop k (n / 10)
def dAcc : Nat → Nat → List UInt8 → List UInt8
  | 0, _, s => s
  | k + 1, n, s => if n < 10 then s else dAcc k (n / 10) (UInt8.ofNat (48 + n % 10) :: s)

theorem okCmpU {op : BinOp} {a b : Int} {x : Bool} {X : Ext} (h : cmpOp op a b = some (.bool x)) (ho : op = .gtr ∨ op = .lss ∨ op = .leq ∨ op = .geq) : (Ob2.bin op 88 (.int .u64 a) (.int .u64 b) (.bool x)).ok Tryz.prog X := by
  rcases ho with rfl | rfl | rfl | rfl <;> exact h
theorem okUgt {a b : Int} {x : Bool} {X : Ext} (h : decide (a > b) = x) : (obU .gtr a b x).ok Tryz.prog X := by
  show some (V.bool (decide (a > b))) = _
  rw [h]
theorem okIlt {a b : Int} {x : Bool} {X : Ext} (h : decide (a < b) = x) : (obI .lss a b x).ok Tryz.prog X := by
  show some (V.bool (decide (a < b))) = _
  rw [h]
theorem okCat {a b : List UInt8} {X : Ext} (h : a.length + b.length ≤ 140737488351232) : (Ob2.bin .add 9 (.str a) (.str b) (.str (a ++ b))).ok Tryz.prog X := by
  show (if a.length + b.length ≤ room then some (V.str (a ++ b)) else none) = _
  rw [if_pos (by unfold room; exact h)]

theorem okCnv1 {X : Ext} (H : Heap) (x : Int) : (Ob2.cnv 73 9 (H.alloc (.cells false 5 [.int .u8 x])) (.slice H.next 0 1 (some 1)) (.str [UInt8.ofNat x.toNat])).ok Tryz.prog X := by
  have h1 : Tryz.prog.underlying 73 = some (.slice 5) := Tryz.underlying73
  have h2 : Tryz.prog.underlying 9 = some .string := Tryz.underlying9
  have h3 : Tryz.prog.underlying 5 = some (.int .u8) := Tryz.underlying5
  have hr : (H.alloc (.cells false 5 [V.int .u8 x])).row H.next = some [V.int .u8 x] := by
    unfold Heap.row
    rw [Heap.get_alloc_same]
  show convV Tryz.prog 73 9 (H.alloc (.cells false 5 [.int .u8 x])) (.slice H.next 0 1 (some 1)) = _
  unfold convV
  simp only [h1, h2, h3, hr]
  rfl

theorem wru64 {n : Int} (h0 : 0 ≤ n) (h1 : n < 18446744073709551616) : wr .u64 n = n := by
  unfold wr loK hiK
  rw [if_pos ⟨h0, by simp only; omega⟩]
theorem dByte_eq (n : Nat) : dByte n = ((48 + n % 10 : Nat) : Int) := by
  unfold dByte
  have e : (n : Int).tmod 10 = ((n % 10 : Nat) : Int) := by
    rw [Int.tmod_eq_emod_of_nonneg (by omega)]; rfl
  rw [e, wru64 (by omega) (by omega)]
  unfold wr loK hiK
  rw [if_pos ⟨by simp only; omega, by simp only; omega⟩]
  omega
theorem lByte_eq (n : Nat) (h : n < 10) : lByte n = ((48 + n : Nat) : Int) := by
  unfold lByte
  rw [wru64 (by omega) (by omega)]
  unfold wr loK hiK
  rw [if_pos ⟨by simp only; omega, by simp only; omega⟩]
  omega

theorem dig_rounds (m : Nat) (z : Int) : ∀ (k n : Nat) (s : List UInt8) (H : Heap) (t : List V) (fuel : Nat), n < 10 ^ (k + 1) → n < 18446744073709551616 → s.length + k < 1000 → k < fuel → t.length = 35 → proj dKs t = [i64 z, u64 n, .str s] →
    ∃ t', rounds (exec Tryz.prog (callN Tryz.prog XL m) [] m dBody) fuel ⟨t, H⟩ = some (.exit 0, ⟨t', dH k n H⟩) ∧ t'.length = 35 ∧ proj dKs t' = [i64 z, u64 (dTop k n : Nat), .str (dAcc k n s)] := by
  intro k
  induction k with
  | zero =>
    intro n s H t fuel hn _ hs hf ht hp
    obtain ⟨f, rfl⟩ : ∃ f, fuel = f + 1 := ⟨fuel - 1, by omega⟩
    have hr := dig_end m H z n s t
    rw [norm_zip ht hp] at hr
    obtain ⟨t', e1, e2, e3⟩ := code_of_tell hr (obs2_cons (okUgt (by simp; omega)) obs2_nil)
    exact ⟨t', by simp only [rounds, e1, dH], e2, e3⟩
  | succ k ih =>
    intro n s H t fuel hn hn2 hs hf ht hp
    obtain ⟨f, rfl⟩ : ∃ f, fuel = f + 1 := ⟨fuel - 1, by omega⟩
    by_cases h : n < 10
    · have hr := dig_end m H z n s t
      rw [norm_zip ht hp] at hr
      obtain ⟨t', e1, e2, e3⟩ := code_of_tell hr (obs2_cons (okUgt (by simp; omega)) obs2_nil)
      exact ⟨t', by simp only [rounds, e1, dH, if_pos h], e2, by simp only [dTop, dAcc, if_pos h]; exact e3⟩
    · have hr := dig_round m H z n s [UInt8.ofNat (dByte n).toNat] t
      rw [norm_zip ht hp] at hr
      obtain ⟨t', e1, e2, e3⟩ := code_of_tell hr (obs2_cons (okUgt (by simp; omega)) (obs2_cons (okCnv1 H (dByte n)) (obs2_cons (okCat (by simp; omega)) obs2_nil)))
      have hq : wr .u64 ((n : Int).tdiv 10) = ((n / 10 : Nat) : Int) := by
        have e : (n : Int).tdiv 10 = ((n / 10 : Nat) : Int) := by
          rw [Int.tdiv_eq_ediv_of_nonneg (by omega)]; rfl
        rw [e, wru64 (by omega) (by omega)]
      have hc : UInt8.ofNat (dByte n).toNat = UInt8.ofNat (48 + n % 10) := by rw [dByte_eq]; rfl
      rw [hq, hc] at e3
      have h3 : n / 10 < 10 ^ (k + 1) := by
        rw [Nat.div_lt_iff_lt_mul (by omega)]
        rw [Nat.pow_succ] at hn
        exact hn
      obtain ⟨t2, g1, g2, g3⟩ := ih (n / 10) (UInt8.ofNat (48 + n % 10) :: s) (H.alloc (dCell n)) t' f h3 (by omega) (by simp; omega) (by omega) e2 e3
      refine ⟨t2, ?_, g2, ?_⟩
      · simp only [rounds, e1, dH, if_neg h]; exact g1
      · simp only [dTop, dAcc, if_neg h]; exact g3

theorem dTop_lt : ∀ (k n : Nat), n < 10 ^ (k + 1) → dTop k n < 10
  | 0, n, h => by simpa [dTop] using h
  | k + 1, n, h => by
    unfold dTop
    split
    · assumption
    · refine dTop_lt k _ ?_
      rw [Nat.div_lt_iff_lt_mul (by omega)]
      rw [Nat.pow_succ] at h
      exact h
theorem dAcc_len : ∀ (k n : Nat) (s : List UInt8), (dAcc k n s).length ≤ s.length + k
  | 0, n, s => by simp [dAcc]
  | k + 1, n, s => by
    unfold dAcc
    split
    · omega
    · refine Nat.le_trans (dAcc_len k _ _) ?_
      rw [List.length_cons]
      omega
theorem dAcc_eq : ∀ (k n : Nat) (s : List UInt8), n < 10 ^ (k + 1) → UInt8.ofNat (48 + dTop k n) :: dAcc k n s = digF (k + 1) n ++ s
  | 0, n, s, h => by
    simp only [dTop, dAcc, digF]
    rw [if_pos (by simpa [Nat.blt_eq] using h)]; rfl
  | k + 1, n, s, h => by
    simp only [dTop, dAcc]
    unfold digF
    by_cases hn : n < 10
    · rw [if_pos hn, if_pos hn, if_pos (by simpa [Nat.blt_eq] using hn)]; rfl
    · have h3 : n / 10 < 10 ^ (k + 1) := by
        rw [Nat.div_lt_iff_lt_mul (by omega)]
        rw [Nat.pow_succ] at h
        exact h
      rw [if_neg hn, if_neg hn, if_neg (by simpa [Nat.blt_eq] using hn), dAcc_eq k _ _ h3]
      simp

def digitsF : FlatF := (35, fun args => match args with | [.int .i64 n] => if -9223372036854775808 ≤ n ∧ n ≤ 9223372036854775807 then some (.str (itoaF n)) else none | _ => none)

theorem digits_knows : Knows Tryz.prog XL digitsF := by
  intro args v hv
  unfold digitsF at hv
  simp only at hv
  split at hv
  case h_2 => cases hv
  rename_i n
  split at hv
  case isFalse => cases hv
  rename_i hn
  cases hv
  refine ⟨rfl, rfl, 31, ?_⟩
  show ∃ h', callN Tryz.prog XL (30 + 1) 35 [i64 n] h0 = some (.str (itoaF n), h')
  have loop : ∀ u : Nat, u < 10 ^ 20 → u < 18446744073709551616 → ∀ t : List V, t.length = 35 → proj dKs t = [i64 n, u64 u, .str []] → ∃ t', rounds (exec Tryz.prog (callN Tryz.prog XL 30) [] 30 dBody) 30 ⟨t, h0⟩ = some (.exit 0, ⟨t', dH 19 u h0⟩) ∧ t'.length = 35 ∧ proj dKs t' = [i64 n, u64 (dTop 19 u : Nat), .str (dAcc 19 u [])] :=
    fun u h1 h2 t ht hp => dig_rounds 30 n 19 u [] h0 t 30 h1 h2 (by simp) (by omega) ht hp
  have tail : ∀ u : Nat, u < 10 ^ 20 → (Ob2.cnv 73 9 ((dH 19 u h0).alloc (lCell (dTop 19 u : Nat))) (.slice (dH 19 u h0).next 0 1 (some 1)) (.str [UInt8.ofNat (48 + dTop 19 u)])).ok Tryz.prog XL := fun u hu => by
    have := okCnv1 (X := XL) (dH 19 u h0) (lByte (dTop 19 u : Nat))
    rw [show UInt8.ofNat (lByte (dTop 19 u : Nat)).toNat = UInt8.ofNat (48 + dTop 19 u) by rw [lByte_eq _ (dTop_lt 19 u hu)]; rfl] at this
    exact this
  have hlen : ∀ u, (dAcc 19 u []).length ≤ 19 := fun u => by simpa using dAcc_len 19 u []
  cases n with
  | ofNat u =>
    have hu : u < 10 ^ 20 := by
      have := hn.2
      simp at this
      omega
    have hu2 : u < 18446744073709551616 := by
      have := hn.2
      simp at this
      omega
    have e := dAcc_eq 19 u [] hu
    rw [List.append_nil] at e
    show ∃ h', callN Tryz.prog XL (30 + 1) 35 [i64 (u : Int)] h0 = some (.str (digF 20 u), h')
    rw [← e]
    refine run_of_from (dig_pos 30 u (dTop 19 u : Nat) (dAcc 19 u []) [UInt8.ofNat (48 + dTop 19 u)] _ (dH 19 u h0)) (obs2_cons (okIlt (by simp)) (obs2_cons (ok_loop ?_) (obs2_cons (tail u hu) (obs2_cons (okCat (by have := hlen u; simp; omega)) (obs2_cons (okIlt (by simp)) obs2_nil)))))
    rw [wru64 (by omega) (by omega)]
    exact loop u hu hu2
  | negSucc k =>
    have hk : k + 1 ≤ 9223372036854775808 := by
      have := hn.1
      omega
    have hu : k + 1 < 10 ^ 20 := by omega
    have e := dAcc_eq 19 (k + 1) [] hu
    rw [List.append_nil] at e
    show ∃ h', callN Tryz.prog XL (30 + 1) 35 [i64 (.negSucc k)] h0 = some (.str (45 :: digF 20 (k + 1)), h')
    rw [← e]
    have hneg : decide (Int.negSucc k < 0) = true := by simp [Int.negSucc_lt_zero]
    refine run_of_from (dig_neg 30 (.negSucc k) (dTop 19 (k + 1) : Nat) (dAcc 19 (k + 1) []) [UInt8.ofNat (48 + dTop 19 (k + 1))] _ (dH 19 (k + 1) h0)) (obs2_cons (okIlt hneg) (obs2_cons (ok_loop ?_) (obs2_cons (tail _ hu) (obs2_cons (okCat (by have := hlen (k + 1); simp; omega)) (obs2_cons (okIlt hneg) (obs2_cons (okCat (a := [45]) (by have := hlen (k + 1); simp; omega)) obs2_nil))))))
    have hw : wr .u64 (0 - wr .u64 (Int.negSucc k)) = ((k + 1 : Nat) : Int) := by
      have h1 : wr .u64 (Int.negSucc k) = 18446744073709551616 - ((k + 1 : Nat) : Int) := by
        rw [wr_eq]; simp [IntKind.wrap, IntKind.bits, IntKind.signed]
        omega
      rw [h1, wr_eq]
      simp [IntKind.wrap, IntKind.bits, IntKind.signed]
      omega
    rw [hw]
    exact loop (k + 1) hu (by omega)

end Go.AM
