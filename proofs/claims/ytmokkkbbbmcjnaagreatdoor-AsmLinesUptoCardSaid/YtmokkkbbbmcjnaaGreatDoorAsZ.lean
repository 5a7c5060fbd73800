/-
  The law of lines: the call, and the card.
-/
import Derived.Test.YtmokkkbbbmcjnaaGreatDoorAsY
set_option linter.unusedVariables false
set_option linter.unusedSimpArgs false
namespace Go.AM
open Go.Proofs Go.RowKit

theorem eq23 (n a n' a' : Int) : eqV Tryz.prog 10000 23 (insV n a) (insV n' a') = (match some (n == n') with | some true => (match some (a == a') with | some true => some true | r => r) | r => r) := by kernel_rfl
theorem ok23 (n a : Int) : (e23 n a).ok Tryz.prog XF := by
  show (eqV Tryz.prog 10000 23 (insV n a) (insV n a)).map V.bool = _
  rw [eq23]; simp

theorem okL10 {op a : Int} (h : In64 a) : (Ob2.rd 10 [insV op a] (.str (lineA op a))).ok Tryz.prog XF := by
  refine ok_frd (r := (lineF 10).2) rfl ?_ (notup1 (fun l h => by cases h))
  show (if In64 a then some (V.str (lineA op a)) else none) = _
  rw [if_pos h]
theorem okL11 {op a : Int} (h : In64 a) : (Ob2.rd 11 [insV op a] (.str (lineA op a))).ok Tryz.prog XF := by
  refine ok_frd (r := (lineF 11).2) rfl ?_ (notup1 (fun l h => by cases h))
  show (if In64 a then some (V.str (lineA op a)) else none) = _
  rw [if_pos h]
theorem okR8 {s : List UInt8} {v : V} (hs : s.length ≤ 2097152) (h : rOut (readP s) = v) : (Ob2.rd 8 [.str s] v).ok Tryz.prog XF := by
  refine ok_frd (r := (readF 8 readP).2) rfl ?_ (notup1 (fun l h => by cases h))
  show (if s.length ≤ 2097152 then some (rOut (readP s)) else none) = _
  rw [if_pos hs, h]
theorem okR9 {s : List UInt8} {v : V} (hs : s.length ≤ 2097152) (h : rOut (readR s) = v) : (Ob2.rd 9 [.str s] v).ok Tryz.prog XF := by
  refine ok_frd (r := (readF 9 readR).2) rfl ?_ (notup1 (fun l h => by cases h))
  show (if s.length ≤ 2097152 then some (rOut (readR s)) else none) = _
  rw [if_pos hs, h]

theorem lines_run (op a : Int) (s : List UInt8) (ha : In64 a) (hs : s.length ≤ 2097152) : ∃ h', callN Tryz.prog XF 60 3 [insV op a, .str s] h0 = some (.bool true, h') := by
  cases hr : readP s with
  | none =>
    have h9 : readR s = none := by rw [← read_same, hr]
    exact run_of_from (l3_no op a s _) (obs2_cons (okR8 hs (by rw [hr]; rfl)) (obs2_cons (okR9 hs (by rw [h9]; rfl)) (obs2_cons (okL10 ha) (obs2_cons (okL11 ha) (obs2_cons (okSe (by simp)) (obs2_cons (ok23 0 0) obs2_nil))))))
  | some nb =>
    obtain ⟨n, b⟩ := nb
    have h9 : readR s = some (n, b) := by rw [← read_same, hr]
    exact run_of_from (l3_yes op a n b s _) (obs2_cons (okR8 hs (by rw [hr]; rfl)) (obs2_cons (okR9 hs (by rw [h9]; rfl)) (obs2_cons (okL10 ha) (obs2_cons (okL11 ha) (obs2_cons (okSe (by simp)) (obs2_cons (ok23 n b) obs2_nil))))))

/-- From a run that tells true to the call, where no argument holds an address. -/
theorem law_plain {X : Ext} (hX : ExtOk Tryz.prog X) (hXm : ExtMono X) {n : Nat} {f : FuncId} {args : List V} (hr : ∃ h', callN Tryz.prog X n f args h0 = some (.bool true, h')) (hf : flats args = true) (args' : List Value) (hv : VRs noEmb args args') (w : World)
    (G : Glob.ok Tryz.prog (fun c => w.heap.size ≤ c) w) :
    Calls Tryz.prog f ⟨args'⟩ w fun e w' => e = .returned (.bool true) ∧ Below w.heap.size w w' := by
  obtain ⟨h', hr⟩ := hr
  refine Calls.mono (flat_call (callN_ok mixed X hX hXm n) hr hf rfl noEmb w args' hv G) ?_
  rintro e w' ⟨x, rfl, hx, hs⟩
  simp only [VR] at hx
  exact ⟨by rw [hx], hs.os, hs.tape, hs.output, hs.size, fun k hk => hs.heap k (Nat.not_le.2 hk)⟩

end Go.AM
