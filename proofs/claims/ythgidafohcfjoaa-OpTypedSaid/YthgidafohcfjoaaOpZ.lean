/-
  What an operation answers is of its types: from the runs to their outcome.
-/
import Derived.Test.YthgidafohcfjoaaOpY1
import Derived.Test.YthgidafohcfjoaaOpX
set_option linter.unusedVariables false
set_option linter.unusedSimpArgs false
namespace Go.AM
open Go.Proofs

theorem typ_out {n : Nat} {l : List Va} {k : Nat} {O : Orc2} {m1 : List Ob2} {x : Va} (hl : l ≠ []) (hs : l.length * 32 ≤ 140737488351232) (hf : fitsB l (inTs n) = true) (hd : inOf (dT n) = some (inTs n)) (h3 : (inTs n).length ≤ 3)
    (hx : fitsB [x] (outTs n) = true) (hO : inOf (dO n) = some (outTs n)) (hO3 : (outTs n).length ≤ 3)
    (h : tellFrom Try.prog X7 80 8 [i64 n, sA l k] (hA l) O = some (V.bool true, [ownO l k, .rd 21 [dX l, dT n] (.bool true)] ++ m1 ++ [.rd 21 [dR x, dO n] (.bool true), .rd 21 [dA l k, dT n] (.bool true)]))
    (h1 : Obs2 Try.prog X7 m1) : ∃ h', callN Try.prog X7 80 8 [i64 n, sA l k] (hA l) = some (.bool true, h') := by
  refine run_of_from h (obs2_app (obs2_app ?_ h1) ?_)
  · exact obs2_cons (okOwn l k hl hs) (obs2_cons (okFits21 (vaOf_dV _ _ _) hd h3 hf) obs2_nil)
  · exact obs2_cons (okFits21 (vaOf_dR x) hO hO3 hx) (obs2_cons (okFits21 (vaOf_dV _ _ _) hd h3 hf) obs2_nil)
theorem typ_err {n : Nat} {l : List Va} {k : Nat} {O : Orc2} {m1 : List Ob2} (hl : l ≠ []) (hs : l.length * 32 ≤ 140737488351232) (hf : fitsB l (inTs n) = true) (hd : inOf (dT n) = some (inTs n)) (h3 : (inTs n).length ≤ 3)
    (h : tellFrom Try.prog X7 80 8 [i64 n, sA l k] (hA l) O = some (V.bool true, [ownO l k, .rd 21 [dX l, dT n] (.bool true)] ++ m1 ++ []))
    (h1 : Obs2 Try.prog X7 m1) : ∃ h', callN Try.prog X7 80 8 [i64 n, sA l k] (hA l) = some (.bool true, h') :=
  run_of_from h (obs2_app (obs2_app (obs2_cons (okOwn l k hl hs) (obs2_cons (okFits21 (vaOf_dV _ _ _) hd h3 hf) obs2_nil)) h1) obs2_nil)
theorem typ2 {r : List UInt8} (h : r.length ≤ 256) : fitsB [va2 r] [2] = true := by
  simp [fitsB, Va.right, rightB]
  omega

end Go.AM
