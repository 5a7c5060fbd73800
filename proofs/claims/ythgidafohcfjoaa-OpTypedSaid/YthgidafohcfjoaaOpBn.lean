/-
  Bytes: what the runs ask.
-/
import Derived.Test.YthgidafohcfjoaaOpB
import Derived.Test.YthgidafohcfjoaaOpNum
set_option linter.unusedVariables false
set_option linter.unusedSimpArgs false
namespace Go.AM
open Go.Proofs

theorem pk_val (n : Int) (i : Nat) : ((pk n i).toNat : Int) = ((n % 18446744073709551616) / ((2 ^ (min (56 - 8 * i) 64) : Nat) : Int)) % 256 := by
  unfold pk
  have hu : wr .u64 n = n % 18446744073709551616 := by rw [wr_eq]; simp [IntKind.wrap, IntKind.bits, IntKind.signed]
  rw [hu]
  generalize n % 18446744073709551616 = u
  have hd : ((2 ^ (min (56 - 8 * i) 64) : Nat) : Int) ≥ 0 := Int.natCast_nonneg _
  rw [Int.fdiv_eq_ediv_of_nonneg _ hd]
  generalize u / ((2 ^ (min (56 - 8 * i) 64) : Nat) : Int) = q
  have h8 : wr .u8 q = q % 256 := by rw [wr_eq]; simp [IntKind.wrap, IntKind.bits, IntKind.signed]
  rw [h8, UInt8.toNat_ofNat']
  omega

theorem or_low (A c : Nat) (h : c < 256) : (A * 256 ||| c) = A * 256 + c := by
  have := Nat.two_pow_add_eq_or_of_lt (i := 8) (b := c) h A
  rw [Nat.mul_comm A 256]
  exact this.symm

theorem up_is (acc : Int) (c : UInt8) : ∃ k : Int, up acc c = acc * 256 + c.toNat + 18446744073709551616 * k ∧ In64 (up acc c) := by
  unfold up orW
  have hc : c.toNat < 256 := UInt8.toNat_lt c
  have hcw : w64 (c.toNat : Int) = c.toNat := w64_in (by unfold In64; omega)
  rw [hcw]
  have hp : acc * ((2 ^ 8 : Nat) : Int) = acc * 256 := rfl
  rw [hp]
  obtain ⟨k1, h1, _⟩ := w64_is (acc * 256)
  generalize w64 (acc * 256) = y at *
  have e2 := ofInt_nat (c.toNat : Int)
  have e1 := ofInt_nat y
  generalize hN : (BitVec.ofInt 64 y).toNat = N at *
  have e2' : (BitVec.ofInt 64 (c.toNat : Int)).toNat = c.toNat := by omega
  obtain ⟨A, hA⟩ : ∃ A : Nat, N = A * 256 := ⟨N / 256, by omega⟩
  have e3 : (BitVec.ofInt 64 y ||| BitVec.ofInt 64 (c.toNat : Int)).toNat = A * 256 + c.toNat := by
    rw [BitVec.toNat_or, hN, e2', hA, or_low A _ hc]
  rw [e3]
  obtain ⟨k0, h0, hin⟩ := w64_is ((A * 256 + c.toNat : Nat) : Int)
  refine ⟨k0 + k1 - y / 18446744073709551616, ?_, hin⟩
  rw [h0]
  omega

set_option maxRecDepth 10000 in
theorem ups_eq (n : Int) (hn : In64 n) : ups n = n := by
  unfold ups
  obtain ⟨k0, h0, _⟩ := up_is 0 (pk n 0)
  obtain ⟨k1, h1, _⟩ := up_is (up 0 (pk n 0)) (pk n 1)
  obtain ⟨k2, h2, _⟩ := up_is (up (up 0 (pk n 0)) (pk n 1)) (pk n 2)
  obtain ⟨k3, h3, _⟩ := up_is (up (up (up 0 (pk n 0)) (pk n 1)) (pk n 2)) (pk n 3)
  obtain ⟨k4, h4, _⟩ := up_is (up (up (up (up 0 (pk n 0)) (pk n 1)) (pk n 2)) (pk n 3)) (pk n 4)
  obtain ⟨k5, h5, _⟩ := up_is (up (up (up (up (up 0 (pk n 0)) (pk n 1)) (pk n 2)) (pk n 3)) (pk n 4)) (pk n 5)
  obtain ⟨k6, h6, _⟩ := up_is (up (up (up (up (up (up 0 (pk n 0)) (pk n 1)) (pk n 2)) (pk n 3)) (pk n 4)) (pk n 5)) (pk n 6)
  obtain ⟨k7, h7, h8⟩ := up_is (up (up (up (up (up (up (up 0 (pk n 0)) (pk n 1)) (pk n 2)) (pk n 3)) (pk n 4)) (pk n 5)) (pk n 6)) (pk n 7)
  have p0 := pk_val n 0
  have p1 := pk_val n 1
  have p2 := pk_val n 2
  have p3 := pk_val n 3
  have p4 := pk_val n 4
  have p5 := pk_val n 5
  have p6 := pk_val n 6
  have p7 := pk_val n 7
  simp only [show min (56 - 8 * 0) 64 = 56 from rfl, show min (56 - 8 * 1) 64 = 48 from rfl, show min (56 - 8 * 2) 64 = 40 from rfl, show min (56 - 8 * 3) 64 = 32 from rfl, show min (56 - 8 * 4) 64 = 24 from rfl, show min (56 - 8 * 5) 64 = 16 from rfl, show min (56 - 8 * 6) 64 = 8 from rfl, show min (56 - 8 * 7) 64 = 0 from rfl] at p0 p1 p2 p3 p4 p5 p6 p7
  generalize up (up (up (up (up (up (up (up 0 (pk n 0)) (pk n 1)) (pk n 2)) (pk n 3)) (pk n 4)) (pk n 5)) (pk n 6)) (pk n 7) = u7 at *
  generalize up (up (up (up (up (up (up 0 (pk n 0)) (pk n 1)) (pk n 2)) (pk n 3)) (pk n 4)) (pk n 5)) (pk n 6) = u6 at *
  generalize up (up (up (up (up (up 0 (pk n 0)) (pk n 1)) (pk n 2)) (pk n 3)) (pk n 4)) (pk n 5) = u5 at *
  generalize up (up (up (up (up 0 (pk n 0)) (pk n 1)) (pk n 2)) (pk n 3)) (pk n 4) = u4 at *
  generalize up (up (up (up 0 (pk n 0)) (pk n 1)) (pk n 2)) (pk n 3) = u3 at *
  generalize up (up (up 0 (pk n 0)) (pk n 1)) (pk n 2) = u2 at *
  generalize up (up 0 (pk n 0)) (pk n 1) = u1 at *
  generalize up 0 (pk n 0) = u0 at *
  generalize ((pk n 0).toNat : Int) = b0 at *
  generalize ((pk n 1).toNat : Int) = b1 at *
  generalize ((pk n 2).toNat : Int) = b2 at *
  generalize ((pk n 3).toNat : Int) = b3 at *
  generalize ((pk n 4).toNat : Int) = b4 at *
  generalize ((pk n 5).toNat : Int) = b5 at *
  generalize ((pk n 6).toNat : Int) = b6 at *
  generalize ((pk n 7).toNat : Int) = b7 at *
  unfold In64 at hn h8
  have hu : 0 ≤ n % 18446744073709551616 ∧ n % 18446744073709551616 < 18446744073709551616 := by omega
  have hv : ∃ k, n = n % 18446744073709551616 + 18446744073709551616 * k := ⟨n / 18446744073709551616, by omega⟩
  generalize n % 18446744073709551616 = u at *
  obtain ⟨kk, hv⟩ := hv
  simp only [show ((2 ^ 56 : Nat) : Int) = 72057594037927936 from rfl, show ((2 ^ 48 : Nat) : Int) = 281474976710656 from rfl, show ((2 ^ 40 : Nat) : Int) = 1099511627776 from rfl, show ((2 ^ 32 : Nat) : Int) = 4294967296 from rfl, show ((2 ^ 24 : Nat) : Int) = 16777216 from rfl, show ((2 ^ 16 : Nat) : Int) = 65536 from rfl, show ((2 ^ 8 : Nat) : Int) = 256 from rfl, show ((2 ^ 0 : Nat) : Int) = 1 from rfl] at p0 p1 p2 p3 p4 p5 p6 p7
  have s : u = ((((((b0 * 256 + b1) * 256 + b2) * 256 + b3) * 256 + b4) * 256 + b5) * 256 + b6) * 256 + b7 := by omega
  omega

theorem okS {op : BinOp} {a b : List UInt8} {x : Bool} {X : Ext} (h : strOp op a b = some (.bool x)) (hs : op ≠ .shl) (hr : op ≠ .shr) : (Ob2.bin op 9 (.str a) (.str b) (.bool x)).ok Try.prog X := h

end Go.AM
