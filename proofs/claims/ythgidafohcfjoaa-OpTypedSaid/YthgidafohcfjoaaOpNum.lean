/-
  Arithmetic of 64 bits: what the laws of numbers and of bits ask.
-/
import Derived.Test.YthgidafohcfjoaaOpN
import Derived.RowKit
import Derived.IntWalk
set_option linter.unusedVariables false
set_option linter.unusedSimpArgs false
namespace Go.AM
open Go.Proofs

theorem w64_eq (n : Int) : w64 n = (n + 9223372036854775808) % 18446744073709551616 - 9223372036854775808 := by
  unfold w64
  rw [wr_eq, IntWalk.i64_left]; unfold RowKit.wrap64; rfl

theorem w64_is (n : Int) : ∃ k : Int, w64 n = n + 18446744073709551616 * k ∧ -9223372036854775808 ≤ w64 n ∧ w64 n ≤ 9223372036854775807 := by
  refine ⟨-((n + 9223372036854775808) / 18446744073709551616), ?_, ?_, ?_⟩ <;> rw [w64_eq] <;> omega

def In64 (a : Int) : Prop := -9223372036854775808 ≤ a ∧ a ≤ 9223372036854775807

theorem in64_of_wf {a : Int} (h : (Lit.int .i64 a).wf = true) : In64 a := by
  simp [Lit.wf, IntKind.min, IntKind.max, IntKind.signed, IntKind.bits] at h
  exact ⟨h.1, by omega⟩

theorem w64_in {a : Int} (h : In64 a) : w64 a = a := by
  unfold In64 at h; rw [w64_eq]; omega

theorem w64_same {x a : Int} (k : Int) (h : x = a + 18446744073709551616 * k) (ha : In64 a) : w64 x = a := by
  unfold In64 at ha; rw [w64_eq]; omega

theorem sub_back (a b : Int) (ha : In64 a) : w64 (w64 (a + b) + w64 (0 - b)) = a := by
  unfold In64 at ha
  simp only [w64_eq]; omega

theorem div_back (a b : Int) (ha : In64 a) : w64 (w64 (w64 (a.tdiv b) * b) + a.tmod b) = a := by
  obtain ⟨k1, h1, _⟩ := w64_is (a.tdiv b)
  obtain ⟨k2, h2, _⟩ := w64_is (w64 (a.tdiv b) * b)
  refine w64_same (k1 * b + k2) ?_ ha
  rw [h2, h1]
  have := Int.mul_tdiv_add_tmod a b
  have e1 : (a.tdiv b + 18446744073709551616 * k1) * b = b * a.tdiv b + 18446744073709551616 * (k1 * b) := by
    rw [Int.add_mul, Int.mul_comm (a.tdiv b) b, Int.mul_assoc]
  rw [e1, Int.mul_add]
  omega

theorem ofInt_nat (a : Int) : ((BitVec.ofInt 64 a).toNat : Int) = a % 18446744073709551616 := by
  rw [BitVec.toNat_ofInt]
  have : (0 : Int) ≤ a % ((2 ^ 64 : Nat) : Int) := Int.emod_nonneg _ (by decide)
  rw [Int.toNat_of_nonneg this]
  rfl

theorem inv_eq (a : Int) (ha : In64 a) : w64 (w64 (0 - a) + w64 (0 - 1)) = xorW (-1) a := by
  have e : (BitVec.ofInt 64 (-1) ^^^ BitVec.ofInt 64 a) = ~~~ (BitVec.ofInt 64 a) := by
    have : BitVec.ofInt 64 (-1) = BitVec.allOnes 64 := by decide
    rw [this, BitVec.allOnes_xor]
  unfold xorW
  rw [e, BitVec.toNat_not]
  have h1 := ofInt_nat a
  have h2 : (BitVec.ofInt 64 a).toNat < 2 ^ 64 := BitVec.isLt _
  have h3 : ((2 ^ 64 - 1 - (BitVec.ofInt 64 a).toNat : Nat) : Int) = 18446744073709551615 - a % 18446744073709551616 := by omega
  rw [h3]
  unfold In64 at ha
  simp only [w64_eq]
  omega

theorem okNeF {a b : Int} (h : a = b) : Ob.ok Try.prog ⟨.neq, 3, i64 a, i64 b, .bool false⟩ := okNe a b false (by simp [h])
theorem okEqT {a b : Int} (h : a = b) : Ob.ok Try.prog ⟨.eql, 3, i64 a, i64 b, .bool true⟩ := okEq a b true (by simp [h])
theorem okEqF {a b : Int} (h : a ≠ b) : Ob.ok Try.prog ⟨.eql, 3, i64 a, i64 b, .bool false⟩ := okEq a b false (by simp [h])
theorem okQuo {a b : Int} (h : b ≠ 0) : Ob.ok Try.prog ⟨.quo, 3, i64 a, i64 b, i64 (w64 (a.tdiv b))⟩ := by
  show intOp .quo .i64 a b = _
  simp [intOp, h, w64]
theorem okRem {a b : Int} (h : b ≠ 0) : Ob.ok Try.prog ⟨.rem, 3, i64 a, i64 b, i64 (a.tmod b)⟩ := by
  show intOp .rem .i64 a b = _
  simp [intOp, h]

theorem num_run (a b : Int) (ha : In64 a) : ∃ h', callN Try.prog X2 60 4 [i64 a, i64 b] h0 = some (.bool true, h') := by
  by_cases hb : b = 0
  · subst hb
    exact run_of_told (num_zero a) (obs_cons (okNeF (sub_back a 0 ha)) (obs_cons (okNeF (by rw [Int.mul_comm])) obs_nil))
  · exact run_of_told (num_told a b _ _) (obs_cons (okNeF (sub_back a b ha)) (obs_cons (okNeF (by rw [Int.mul_comm])) (obs_cons (okEqF hb) (obs_cons (okQuo hb) (obs_cons (okEqF hb) (obs_cons (okQuo hb) (obs_cons (okRem hb)
      (obs_cons (okEqF hb) (obs_cons (okNeF (div_back a b ha)) (obs_cons (okEqT (inv_eq a ha)) obs_nil))))))))))

/-! ### Bits -/

theorem nat_two (n : Nat) : 2 * (n / 2) + n % 2 = n := Nat.div_add_mod n 2
theorem and_two (a b : Nat) : (a &&& b) = 2 * (a / 2 &&& b / 2) + (a % 2 &&& b % 2) := by
  have h1 : (a &&& b) % 2 = (a % 2) &&& (b % 2) := by have := Nat.and_mod_two_pow (a := a) (b := b) (n := 1); simpa using this
  have h2 : (a &&& b) / 2 = (a / 2) &&& (b / 2) := Nat.and_div_two
  rw [← h1, ← h2, nat_two]
theorem or_two (a b : Nat) : (a ||| b) = 2 * (a / 2 ||| b / 2) + (a % 2 ||| b % 2) := by
  have h1 : (a ||| b) % 2 = (a % 2) ||| (b % 2) := by have := Nat.or_mod_two_pow (a := a) (b := b) (n := 1); simpa using this
  have h2 : (a ||| b) / 2 = (a / 2) ||| (b / 2) := Nat.or_div_two
  rw [← h1, ← h2, nat_two]
theorem xor_two (a b : Nat) : (a ^^^ b) = 2 * (a / 2 ^^^ b / 2) + (a % 2 ^^^ b % 2) := by
  have h1 : (a ^^^ b) % 2 = (a % 2) ^^^ (b % 2) := by have := Nat.xor_mod_two_pow (a := a) (b := b) (n := 1); simpa using this
  have h2 : (a ^^^ b) / 2 = (a / 2) ^^^ (b / 2) := Nat.xor_div_two
  rw [← h1, ← h2, nat_two]

theorem bits_nat (a : Nat) : ∀ b : Nat, (a &&& b) + (a ||| b) = a + b ∧ (a &&& b) + (a ^^^ b) = (a ||| b) := by
  induction a using Nat.strongRecOn with
  | _ a ih =>
    intro b
    rcases Nat.eq_zero_or_pos a with rfl | hpos
    · simp
    · obtain ⟨h1, h2⟩ := ih (a / 2) (by omega) (b / 2)
      have hA : a % 2 = 0 ∨ a % 2 = 1 := by omega
      have hB : b % 2 = 0 ∨ b % 2 = 1 := by omega
      rw [and_two a b, or_two a b, xor_two a b]
      rcases hA with hA | hA <;> rcases hB with hB | hB <;> rw [hA, hB] <;> simp <;> omega

theorem w64_cong {u v : Int} (k : Int) (h : u = v + 18446744073709551616 * k) : w64 u = w64 v := by
  rw [w64_eq, w64_eq]; omega

theorem bits_add (a b : Int) : w64 (andW a b + orW a b) = w64 (a + b) := by
  obtain ⟨k1, h1, _⟩ := w64_is ((BitVec.ofInt 64 a &&& BitVec.ofInt 64 b).toNat : Int)
  obtain ⟨k2, h2, _⟩ := w64_is ((BitVec.ofInt 64 a ||| BitVec.ofInt 64 b).toNat : Int)
  have ha := ofInt_nat a
  have hb := ofInt_nat b
  have h := (bits_nat (BitVec.ofInt 64 a).toNat (BitVec.ofInt 64 b).toNat).1
  unfold andW orW
  rw [h1, h2, BitVec.toNat_and, BitVec.toNat_or]
  refine w64_cong (k1 + k2 - a / 18446744073709551616 - b / 18446744073709551616) ?_
  omega

theorem bits_sub (a b : Int) : w64 (orW a b + w64 (0 - andW a b)) = xorW a b := by
  obtain ⟨k1, h1, _⟩ := w64_is ((BitVec.ofInt 64 a &&& BitVec.ofInt 64 b).toNat : Int)
  obtain ⟨k2, h2, _⟩ := w64_is ((BitVec.ofInt 64 a ||| BitVec.ofInt 64 b).toNat : Int)
  have h := (bits_nat (BitVec.ofInt 64 a).toNat (BitVec.ofInt 64 b).toNat).2
  unfold andW orW xorW
  obtain ⟨k3, h3, _⟩ := w64_is (0 - w64 ((BitVec.ofInt 64 a &&& BitVec.ofInt 64 b).toNat : Int))
  rw [h3, h1, h2, BitVec.toNat_and, BitVec.toNat_or, BitVec.toNat_xor]
  refine w64_cong (k2 - k1 + k3) ?_
  omega

theorem and63 (c : Int) : andW c 63 = c % 64 := by
  unfold andW
  have e : (BitVec.ofInt 64 63).toNat = 2 ^ 6 - 1 := by decide
  rw [BitVec.toNat_and, e, Nat.and_two_pow_sub_one_eq_mod]
  have := ofInt_nat c
  have h : (((BitVec.ofInt 64 c).toNat % 2 ^ 6 : Nat) : Int) = c % 64 := by omega
  rw [h, w64_eq]
  omega

def shlW (a y : Int) : Int := w64 (a * ((2 ^ (min y.toNat 64) : Nat) : Int))
def shrW (a y : Int) : Int := a.fdiv ((2 ^ (min y.toNat 64) : Nat) : Int)
theorem okShl {a y y' : Int} (h : 0 ≤ y) (e : y = y') : Ob.ok Try.prog ⟨.shl, 3, i64 a, i64 y, i64 (shlW a y')⟩ := by
  subst e
  show shiftOp .shl .i64 a y = _
  simp only [shiftOp, if_neg (Int.not_lt.2 h)]
  rfl
theorem okShr {a y y' : Int} (h : 0 ≤ y) (e : y = y') : Ob.ok Try.prog ⟨.shr, 3, i64 a, i64 y, i64 (shrW a y')⟩ := by
  subst e
  show shiftOp .shr .i64 a y = _
  simp only [shiftOp, if_neg (Int.not_lt.2 h)]
  rfl

theorem bits_run (a b k : Int) : ∃ h', callN Try.prog X2 60 7 [i64 a, i64 b, i64 k] h0 = some (.bool true, h') := by
  have p : 0 ≤ andW (kk k) 63 := by rw [and63]; omega
  have e1 : andW (w64 (kk k - 64)) 63 = andW (kk k) 63 := by rw [and63, and63, w64_eq]; omega
  have e2 : andW (w64 (kk k + 64)) 63 = andW (kk k) 63 := by rw [and63, and63, w64_eq]; omega
  exact run_of_told (bits_told a b k _ _) (obs_cons (okNeF (bits_add a b)) (obs_cons (okNeF (bits_sub a b)) (obs_cons (okShl p rfl) (obs_cons (okShl (e1 ▸ p) e1) (obs_cons (okShr p rfl) (obs_cons (okShr (e2 ▸ p) e2)
    (obs_cons (okEqT rfl) (obs_cons (okEqT rfl) obs_nil))))))))

end Go.AM
