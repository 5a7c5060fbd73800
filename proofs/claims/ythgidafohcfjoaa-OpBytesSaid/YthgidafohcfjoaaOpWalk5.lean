/-
  OpBytes: the call.
-/
import Derived.Test.YthgidafohcfjoaaOpB2
import Derived.Test.YthgidafohcfjoaaOpBn
import Derived.Test.YthgidafohcfjoaaOpFrame
set_option linter.unusedVariables false
set_option linter.unusedSimpArgs false
namespace Go.AM
open Go.Proofs Go.RowKit

theorem obs2_app {X : Ext} {l m : List Ob2} (hl : Obs2 Try.prog X l) (hm : Obs2 Try.prog X m) : Obs2 Try.prog X (l ++ m) := fun x hx => by
  rcases List.mem_append.1 hx with h | h
  · exact hl x h
  · exact hm x h

theorem obT {X : Ext} (a : List UInt8) (y : Bool) (h : decide ((a.length : Int) ≤ 256) = y) : Obs2 Try.prog X (oT a y) :=
  obs2_cons (ok36 _ _ _ _ _ _ _ (by simp)) (obs2_cons (okLe _ _ _ h) obs2_nil)
theorem obN {X : Ext} (n : Int) : Obs2 Try.prog X (oN n) := obs2_cons (ok36 _ _ _ _ _ _ _ (by simp)) obs2_nil
theorem obP {X : Ext} (n : Int) (hn : In64 n) : Obs2 Try.prog X (oP n) :=
  obs2_app (obN n) (obs2_cons (ok36 _ _ _ _ _ _ _ (by simp)) (obs2_cons (okNe _ _ _ (by rw [ups_eq n hn]; simp)) obs2_nil))
theorem okGt' (a b : Int) (x : Bool) (h : decide (a > b) = x) : Ob.ok Try.prog ⟨.gtr, 3, .int .i64 a, .int .i64 b, .bool x⟩ := by
  show some (V.bool (decide (a > b))) = _
  rw [h]
theorem obG {X : Ext} {a b : Int} {x : Bool} (h : decide (a > b) = x) : (ob .gtr a b x).ok Try.prog X := okGt' a b x h
theorem obL {X : Ext} {a b : Int} {x : Bool} (h : decide (a ≤ b) = x) : (ob .leq a b x).ok Try.prog X := okLe a b x h
theorem obLt {X : Ext} {a b : Int} {x : Bool} (h : decide (a < b) = x) : (ob .lss a b x).ok Try.prog X := okLt a b x h
theorem obSl {X : Ext} {a b : List UInt8} {x : Bool} (h : Op.bytesLess a b = x) : (Ob2.bin .lss 9 (.str a) (.str b) (.bool x)).ok Try.prog X := by
  show some (V.bool (Op.bytesLess a b)) = _
  rw [h]
theorem obSe {X : Ext} {a b : List UInt8} {x : Bool} (h : (a == b) = x) : (Ob2.bin .eql 9 (.str a) (.str b) (.bool x)).ok Try.prog X := by
  show some (V.bool (a == b)) = _
  rw [h]
theorem obSn {X : Ext} {a : List UInt8} : (Ob2.bin .neq 9 (.str a) (.str a) (.bool false)).ok Try.prog X := by
  show some (V.bool (!(a == a))) = _
  simp

theorem obO {X : Ext} (a b : List UInt8) (x y z : Bool) (ha : a.length ≤ 256) (hb : b.length ≤ 256) (hx : Op.bytesLess a b = x) (hy : Op.bytesLess b a = y) (hz : (a == b) = z) : Obs2 Try.prog X (oO a b x y z) := by
  have ta : Obs2 Try.prog X (oT a true) := obT a true (by simp; omega)
  have tb : Obs2 Try.prog X (oT b true) := obT b true (by simp; omega)
  exact obs2_app (obs2_app (obs2_app (obs2_app (obs2_app (obs2_app (obs2_app (obs2_app ta tb) (obs2_cons (obSl hx) obs2_nil)) tb) ta) (obs2_cons (obSl hy) obs2_nil)) ta) tb) (obs2_cons (obSe hz) obs2_nil)

/-- Of two texts just one of less, greater, same. -/
theorem less_tri : ∀ (a b : List UInt8), (Op.bytesLess a b = true ∧ Op.bytesLess b a = false ∧ (a == b) = false) ∨ (Op.bytesLess a b = false ∧ Op.bytesLess b a = true ∧ (a == b) = false) ∨ (Op.bytesLess a b = false ∧ Op.bytesLess b a = false ∧ (a == b) = true)
  | [], [] => .inr (.inr ⟨rfl, rfl, rfl⟩)
  | [], _ :: _ => .inl ⟨rfl, rfl, rfl⟩
  | _ :: _, [] => .inr (.inl ⟨rfl, rfl, rfl⟩)
  | a :: x, b :: y => by
    simp only [Op.bytesLess, List.cons_beq_cons]
    have ih := less_tri x y
    have hlt : ∀ p q : UInt8, p < q ↔ p.toNat < q.toNat := fun p q => Iff.rfl
    rcases Nat.lt_trichotomy a.toNat b.toNat with h | h | h
    · have h1 : a < b := h
      have h2 : ¬ b < a := fun h' => by have : b.toNat < a.toNat := h'; omega
      have h3 : a ≠ b := fun e => by subst e; omega
      left; simp [h1, h2, h3, Ne.symm h3]
    · have h3 : a = b := UInt8.toNat_inj.1 h
      subst h3
      have h1 : ¬ a < a := fun h' => by have : a.toNat < a.toNat := h'; omega
      simpa [h1] using ih
    · have h1 : b < a := h
      have h2 : ¬ a < b := fun h' => by have : a.toNat < b.toNat := h'; omega
      have h3 : a ≠ b := fun e => by subst e; omega
      right; left; simp [h1, h2, h3, Ne.symm h3]

theorem obCut {X : Ext} (l : List UInt8) (x y : Nat) (r : List UInt8) (hxy : x ≤ y) (hy : y ≤ l.length) (hr : (l.take y).drop x = r) : (Ob2.slc 9 (.str l) (some (i64 x)) (some (i64 y)) none (.str r)).ok Try.prog X := by
  intro h
  have hu : Try.prog.underlying 9 = some .string := Try.underlying9
  unfold sliceV
  rw [hu]
  simp only [bounds, bound]
  have e1 : (0 : Int) ≤ (y : Int) ∧ (y : Int) ≤ (l.length : Int) := by omega
  have e2 : (0 : Int) ≤ (x : Int) ∧ (x : Int) ≤ (y : Int) := by omega
  rw [if_pos e1]
  simp only [Int.toNat_natCast]
  rw [if_pos e2]
  simp only [hr]

theorem obC {X : Ext} (a b : List UInt8) (h : a.length + b.length ≤ 256) : Obs2 Try.prog X (oC a b) := by
  have ta : Obs2 Try.prog X (oT a true) := obT a true (by simp; omega)
  have tb : Obs2 Try.prog X (oT b true) := obT b true (by simp; omega)
  have tc : Obs2 Try.prog X (oT (a ++ b) true) := obT (a ++ b) true (by simp; omega)
  have hw1 : w64 ((a.length : Int) + b.length) = a.length + b.length := w64_in (by unfold In64; omega)
  have hw2 : w64 (256 - (a.length : Int)) = 256 - a.length := w64_in (by unfold In64; omega)
  have hl : (a ++ b).length = a.length + b.length := List.length_append
  have hadd : (Ob2.bin .add 9 (.str a) (.str b) (.str (a ++ b))).ok Try.prog X := by
    show (if a.length + b.length ≤ room then some (V.str (a ++ b)) else none) = _
    rw [if_pos (by unfold room; omega)]
  refine obs2_app (obs2_app (obs2_app (obs2_app (obs2_app (obs2_app (obs2_app (obs2_app (obs2_app (obs2_app (obs2_app ta tb) ?_) tc) (obN 0)) (obN _)) ?_) tc) (obN _)) (obN _)) ?_) ?_
  · exact obs2_cons (obG (by rw [hw1]; simp; omega)) (obs2_cons hadd (obs2_cons (obL (by simp; omega)) (obs2_cons (obL (by rw [hw2]; simp; omega)) obs2_nil)))
  · exact obs2_cons (obG (by simp)) (obs2_cons (obG (by simp; omega)) (obs2_cons (obCut (a ++ b) 0 a.length a (Nat.zero_le _) (by omega) (by simp)) obs2_nil))
  · exact obs2_cons (obLt (by simp)) (obs2_cons (obG (by simp; omega)) (obs2_cons (obG (by simp)) (obs2_cons (obCut (a ++ b) a.length (a ++ b).length b (by omega) (Nat.le_refl _) (by rw [List.take_length, List.drop_left]) ) obs2_nil)))
  · exact obs2_cons obSn (obs2_cons obSn obs2_nil)

theorem run2 {n : Nat} {f : FuncId} {args : List V} {O : Orc2} {v : V} {obs : List Ob2} {X : Ext} (h : tellRun Try.prog X n f args O = some (v, obs)) (hobs : Obs2 Try.prog X obs) : ∃ h', callN Try.prog X n f args h0 = some (v, h') := run_of_tell h hobs

theorem bytes_run (a b : List UInt8) (n : Int) (hn : In64 n) (ha : a.length ≤ 140737488351232) (hb : b.length ≤ 140737488351232) : ∃ h', callN Try.prog X5 80 5 [.str a, .str b, i64 n] h0 = some (.bool true, h') := by
  have hw1 : w64 ((a.length : Int) + b.length) = a.length + b.length := w64_in (by unfold In64; omega)
  have hw2 : w64 (256 - (a.length : Int)) = 256 - a.length := w64_in (by unfold In64; omega)
  by_cases h1 : a.length ≤ 256
  · have ta : Obs2 Try.prog X5 (oT a true) := obT a true (by simp; omega)
    by_cases h2 : b.length ≤ 256
    · have tb : Obs2 Try.prog X5 (oT b true) := obT b true (by simp; omega)
      have end1 : Obs2 Try.prog X5 [ob .gtr a.length 256 false, ob .gtr b.length 256 false] := obs2_cons (obG (by simp; omega)) (obs2_cons (obG (by simp; omega)) obs2_nil)
      by_cases h3 : a.length + b.length ≤ 256
      · rcases less_tri a b with ⟨x, y, z⟩ | ⟨x, y, z⟩ | ⟨x, y, z⟩
        · exact run2 (bytes40 a b n) (obs2_app (obs2_app (obs2_app (obC a b h3) (obP n hn)) end1) (obO a b _ _ _ h1 h2 x y z))
        · exact run2 (bytes41 a b n) (obs2_app (obs2_app (obs2_app (obC a b h3) (obP n hn)) end1) (obO a b _ _ _ h1 h2 x y z))
        · exact run2 (bytes42 a b n) (obs2_app (obs2_app (obs2_app (obC a b h3) (obP n hn)) end1) (obO a b _ _ _ h1 h2 x y z))
      · have mid : Obs2 Try.prog X5 [ob .gtr (w64 (a.length + b.length)) 256 true, ob .leq a.length 256 true, ob .leq b.length (w64 (256 - a.length)) false] :=
          obs2_cons (obG (by rw [hw1]; simp; omega)) (obs2_cons (obL (by simp; omega)) (obs2_cons (obL (by rw [hw2]; simp; omega)) obs2_nil))
        rcases less_tri a b with ⟨x, y, z⟩ | ⟨x, y, z⟩ | ⟨x, y, z⟩
        · exact run2 (bytes30 a b n) (obs2_app (obs2_app (obs2_app (obs2_app (obs2_app ta tb) mid) (obP n hn)) end1) (obO a b _ _ _ h1 h2 x y z))
        · exact run2 (bytes31 a b n) (obs2_app (obs2_app (obs2_app (obs2_app (obs2_app ta tb) mid) (obP n hn)) end1) (obO a b _ _ _ h1 h2 x y z))
        · exact run2 (bytes32 a b n) (obs2_app (obs2_app (obs2_app (obs2_app (obs2_app ta tb) mid) (obP n hn)) end1) (obO a b _ _ _ h1 h2 x y z))
    · exact run2 (bytes2 a b n) (obs2_app (obs2_app (obs2_app (obs2_app ta (obT b false (by simp; omega))) (obs2_cons (obL (by simp; omega)) (obs2_cons (obL (by rw [hw2]; simp; omega)) obs2_nil))) (obP n hn)) (obs2_cons (obG (by simp; omega)) (obs2_cons (obG (by simp; omega)) obs2_nil)))
  · exact run2 (bytes1 a b n) (obs2_app (obs2_app (obs2_app (obT a false (by simp; omega)) (obs2_cons (obL (by simp; omega)) obs2_nil)) (obP n hn)) (obs2_cons (obG (by simp; omega)) obs2_nil))

theorem OpBytes_walk (a0 a1 : ByteArray) (a2 : Int) (w0 : a0.size ≤ 140737488351232) (w1 : a1.size ≤ 140737488351232) (w2 : (Lit.int .i64 a2).wf = true) (w : World) :
    Calls Try.prog 5 #[.string a0, .string a1, .int .i64 a2] w fun e w' => e = .returned (.bool true) ∧ Below w.heap.size w w' :=
  law_plain X5_ok X5_mono (bytes_run a0.data.toList a1.data.toList a2 (in64_of_wf w2) (by simpa using w0) (by simpa using w1)) rfl [.string a0, .string a1, .int .i64 a2] (by simp [VRs, VR]) w

end Go.AM
