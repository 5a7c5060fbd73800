/-
  Head, run under promises: each way.
-/
import Derived.Test.YtmokkkbbbmcjnaaGreatDoorAsH8
set_option linter.unusedVariables false
set_option linter.unusedSimpArgs false
namespace Go.AM
open Go.Proofs Go.RowKit



def lenO : Option (List V) → Nat
  | none => 0
  | some r => r.length
abbrev hAgg (l1 l2 l3 : Option (List V)) (o4 : Cps) : V := .agg [svQ l1 o4.1 0, svQ l2 o4.2.1 1, svQ l3 o4.2.2.1 2]

abbrev sO (b : Id) : V := .slice b 0 1 (some 1)
abbrev tLp (d : Tmp) (o A B s : V) (n i : Int) (J : List V → List V) (H : Heap) : FuncId × Tmp × Tell := (16, d, .loop 50 hKs (.exit 2) (hKs.zip (hVs o A B s n i)) J H)
abbrev tRt (d : Tmp) (J : List V → List V) (H : Heap) : FuncId × Tmp × Tell := (16, d, .loop 50 hKs .ret ([2].zip [.str []]) J H)
noncomputable abbrev oLp (m : Nat) (o A B s : V) (n : Int) (H : Heap) (o' : V) (i : Int) (J : List V → List V) (H' : Heap) : Ob2 := .loop m [1] hBody 50 hKs (hVs o A B s n 0) H (.exit 2) (hKs.zip (hVs o' A B s n i)) J H'
noncomputable abbrev oRt (m : Nat) (o A B s : V) (n : Int) (H : Heap) (J : List V → List V) (H' : Heap) : Ob2 := .loop m [1] hBody 50 hKs (hVs o A B s n 0) H .ret ([2].zip [.str []]) J H'
abbrev tApO (k : Nat) (row : List V) : FuncId × Tmp × Tell := (16, 27, .blk k 9 row)
abbrev tApD (b k : Nat) (row : List V) : FuncId × Tmp × Tell := (16, 27, .dblk b k 9 row)
abbrev oApO (H : Heap) (p : List UInt8) (b k : Nat) (row : List V) : Ob2 := .app 37 37 (H.alloc (pcell p)) (sO b) (.slice H.next 0 1 (some 1)) k 9 row
abbrev oApD (H : Heap) (p : List UInt8) (b n k : Nat) (row : List V) : Ob2 := .apd 37 37 (H.alloc (pcell p)) (sN b n) (.slice H.next 0 1 (some 1)) b k 9 row
abbrev hApO (H : Heap) (p : List UInt8) (row : List V) : Heap := (H.alloc (pcell p)).alloc (.cells false 9 row)
abbrev hApD (H : Heap) (p : List UInt8) (b : Nat) (row : List V) : Heap := ((H.alloc (pcell p)).set b .dead).alloc (.cells false 9 row)
abbrev nx (H : Heap) (p : List UInt8) : Nat := (H.alloc (pcell p)).next
abbrev H1 (H : Heap) : Heap := H.alloc (pcell sFunc)

set_option maxHeartbeats 4000000 in
theorem h16_f0 (m : Nat) (l1 l2 l3 : Option (List V)) (o4 : Cps) (H : Heap) (J0 : List V → List V) (G0 : Heap) :
    tellFrom Tryz.prog XH (m + 6) 16 [hArg l1 l2 l3 o4] H [tRt 5000 J0 G0] =
      some (.str [], [oRt (m + 5) (sO H.next) (hAgg l1 l2 l3 o4) (i64 0) (svQ l1 o4.1 0) (lenO l1 : Nat) (H1 H) J0 G0]) := by
  cases l1 <;> cases l2 <;> cases l3 <;> rcases o4 with ⟨c1, c2, c3, _ | ⟨k, cp⟩⟩ <;> kernel_rfl
set_option maxHeartbeats 4000000 in
theorem h16_O1 (m : Nat) (l1 l2 l3 : Option (List V)) (o4 : Cps) (H : Heap) (J0 : List V → List V) (G0 : Heap) (b0 : Nat) (i0 : Int) (q0 : Nat) (row0 : List V) (J1 : List V → List V) (G1 : Heap) :
    tellFrom Tryz.prog XH (m + 6) 16 [hArg l1 l2 l3 o4] H [tLp 5000 (sO b0) (hAgg l1 l2 l3 o4) (i64 0) (svQ l1 o4.1 0) (lenO l1 : Nat) i0 J0 G0, tApO q0 row0, tRt 0 J1 G1] =
      some (.str [], [oLp (m + 5) (sO H.next) (hAgg l1 l2 l3 o4) (i64 0) (svQ l1 o4.1 0) (lenO l1 : Nat) (H1 H) (sO b0) i0 J0 G0, oApO G0 sAr b0 q0 row0, oRt (m + 5) (sN (nx G0 sAr) q0) (hAgg l1 l2 l3 o4) (i64 1) (svQ l2 o4.2.1 1) (lenO l2 : Nat) (hApO G0 sAr row0) J1 G1]) := by
  cases l1 <;> cases l2 <;> cases l3 <;> rcases o4 with ⟨c1, c2, c3, _ | ⟨k, cp⟩⟩ <;> kernel_rfl
set_option maxHeartbeats 4000000 in
theorem h16_O2 (m : Nat) (l1 l2 l3 : Option (List V)) (o4 : Cps) (H : Heap) (J0 : List V → List V) (G0 : Heap) (b0 : Nat) (i0 : Int) (q0 : Nat) (row0 : List V) (J1 : List V → List V) (G1 : Heap) (b1 k1 : Nat) (i1 : Int) (q1 : Nat) (row1 : List V) (J2 : List V → List V) (G2 : Heap) :
    tellFrom Tryz.prog XH (m + 6) 16 [hArg l1 l2 l3 o4] H [tLp 5000 (sO b0) (hAgg l1 l2 l3 o4) (i64 0) (svQ l1 o4.1 0) (lenO l1 : Nat) i0 J0 G0, tApO q0 row0, tLp 0 (sN b1 k1) (hAgg l1 l2 l3 o4) (i64 1) (svQ l2 o4.2.1 1) (lenO l2 : Nat) i1 J1 G1, tApD b1 q1 row1, tRt 0 J2 G2] =
      some (.str [], [oLp (m + 5) (sO H.next) (hAgg l1 l2 l3 o4) (i64 0) (svQ l1 o4.1 0) (lenO l1 : Nat) (H1 H) (sO b0) i0 J0 G0, oApO G0 sAr b0 q0 row0, oLp (m + 5) (sN (nx G0 sAr) q0) (hAgg l1 l2 l3 o4) (i64 1) (svQ l2 o4.2.1 1) (lenO l2 : Nat) (hApO G0 sAr row0) (sN b1 k1) i1 J1 G1, oApD G1 sSe b1 k1 q1 row1, oRt (m + 5) (sN (nx G1 sSe) q1) (hAgg l1 l2 l3 o4) (i64 2) (svQ l3 o4.2.2.1 2) (lenO l3 : Nat) (hApD G1 sSe b1 row1) J2 G2]) := by
  cases l1 <;> cases l2 <;> cases l3 <;> rcases o4 with ⟨c1, c2, c3, _ | ⟨k, cp⟩⟩ <;> kernel_rfl
set_option maxHeartbeats 4000000 in
theorem h16_O (m : Nat) (l1 l2 l3 : Option (List V)) (o4 : Cps) (H : Heap) (J0 : List V → List V) (G0 : Heap) (b0 : Nat) (i0 : Int) (q0 : Nat) (row0 : List V) (J1 : List V → List V) (G1 : Heap) (b1 k1 : Nat) (i1 : Int) (q1 : Nat) (row1 : List V) (J2 : List V → List V) (G2 : Heap) (b2 k2 : Nat) (i2 : Int) (out : List UInt8) (G : Heap) :
    tellFrom Tryz.prog XH (m + 6) 16 [hArg l1 l2 l3 o4] H [tLp 5000 (sO b0) (hAgg l1 l2 l3 o4) (i64 0) (svQ l1 o4.1 0) (lenO l1 : Nat) i0 J0 G0, tApO q0 row0, tLp 0 (sN b1 k1) (hAgg l1 l2 l3 o4) (i64 1) (svQ l2 o4.2.1 1) (lenO l2 : Nat) i1 J1 G1, tApD b1 q1 row1, tLp 0 (sN b2 k2) (hAgg l1 l2 l3 o4) (i64 2) (svQ l3 o4.2.2.1 2) (lenO l3 : Nat) i2 J2 G2, (39, 4, .cax (.str out) G)] =
      some (.str out, [oLp (m + 5) (sO H.next) (hAgg l1 l2 l3 o4) (i64 0) (svQ l1 o4.1 0) (lenO l1 : Nat) (H1 H) (sO b0) i0 J0 G0, oApO G0 sAr b0 q0 row0, oLp (m + 5) (sN (nx G0 sAr) q0) (hAgg l1 l2 l3 o4) (i64 1) (svQ l2 o4.2.1 1) (lenO l2 : Nat) (hApO G0 sAr row0) (sN b1 k1) i1 J1 G1, oApD G1 sSe b1 k1 q1 row1, oLp (m + 5) (sN (nx G1 sSe) q1) (hAgg l1 l2 l3 o4) (i64 2) (svQ l3 o4.2.2.1 2) (lenO l3 : Nat) (hApD G1 sSe b1 row1) (sN b2 k2) i2 J2 G2, .cax 57 [sN b2 k2, .str [32]] G2 (.str out) G]) := by
  cases l1 <;> cases l2 <;> cases l3 <;> rcases o4 with ⟨c1, c2, c3, _ | ⟨k, cp⟩⟩ <;> kernel_rfl
set_option maxHeartbeats 4000000 in
theorem h16_D1 (m : Nat) (l1 l2 l3 : Option (List V)) (o4 : Cps) (H : Heap) (J0 : List V → List V) (G0 : Heap) (b0 k0 : Nat) (i0 : Int) (q0 : Nat) (row0 : List V) (J1 : List V → List V) (G1 : Heap) :
    tellFrom Tryz.prog XH (m + 6) 16 [hArg l1 l2 l3 o4] H [tLp 5000 (sN b0 k0) (hAgg l1 l2 l3 o4) (i64 0) (svQ l1 o4.1 0) (lenO l1 : Nat) i0 J0 G0, tApD b0 q0 row0, tRt 0 J1 G1] =
      some (.str [], [oLp (m + 5) (sO H.next) (hAgg l1 l2 l3 o4) (i64 0) (svQ l1 o4.1 0) (lenO l1 : Nat) (H1 H) (sN b0 k0) i0 J0 G0, oApD G0 sAr b0 k0 q0 row0, oRt (m + 5) (sN (nx G0 sAr) q0) (hAgg l1 l2 l3 o4) (i64 1) (svQ l2 o4.2.1 1) (lenO l2 : Nat) (hApD G0 sAr b0 row0) J1 G1]) := by
  cases l1 <;> cases l2 <;> cases l3 <;> rcases o4 with ⟨c1, c2, c3, _ | ⟨k, cp⟩⟩ <;> kernel_rfl
set_option maxHeartbeats 4000000 in
theorem h16_D2 (m : Nat) (l1 l2 l3 : Option (List V)) (o4 : Cps) (H : Heap) (J0 : List V → List V) (G0 : Heap) (b0 k0 : Nat) (i0 : Int) (q0 : Nat) (row0 : List V) (J1 : List V → List V) (G1 : Heap) (b1 k1 : Nat) (i1 : Int) (q1 : Nat) (row1 : List V) (J2 : List V → List V) (G2 : Heap) :
    tellFrom Tryz.prog XH (m + 6) 16 [hArg l1 l2 l3 o4] H [tLp 5000 (sN b0 k0) (hAgg l1 l2 l3 o4) (i64 0) (svQ l1 o4.1 0) (lenO l1 : Nat) i0 J0 G0, tApD b0 q0 row0, tLp 0 (sN b1 k1) (hAgg l1 l2 l3 o4) (i64 1) (svQ l2 o4.2.1 1) (lenO l2 : Nat) i1 J1 G1, tApD b1 q1 row1, tRt 0 J2 G2] =
      some (.str [], [oLp (m + 5) (sO H.next) (hAgg l1 l2 l3 o4) (i64 0) (svQ l1 o4.1 0) (lenO l1 : Nat) (H1 H) (sN b0 k0) i0 J0 G0, oApD G0 sAr b0 k0 q0 row0, oLp (m + 5) (sN (nx G0 sAr) q0) (hAgg l1 l2 l3 o4) (i64 1) (svQ l2 o4.2.1 1) (lenO l2 : Nat) (hApD G0 sAr b0 row0) (sN b1 k1) i1 J1 G1, oApD G1 sSe b1 k1 q1 row1, oRt (m + 5) (sN (nx G1 sSe) q1) (hAgg l1 l2 l3 o4) (i64 2) (svQ l3 o4.2.2.1 2) (lenO l3 : Nat) (hApD G1 sSe b1 row1) J2 G2]) := by
  cases l1 <;> cases l2 <;> cases l3 <;> rcases o4 with ⟨c1, c2, c3, _ | ⟨k, cp⟩⟩ <;> kernel_rfl
set_option maxHeartbeats 4000000 in
theorem h16_D (m : Nat) (l1 l2 l3 : Option (List V)) (o4 : Cps) (H : Heap) (J0 : List V → List V) (G0 : Heap) (b0 k0 : Nat) (i0 : Int) (q0 : Nat) (row0 : List V) (J1 : List V → List V) (G1 : Heap) (b1 k1 : Nat) (i1 : Int) (q1 : Nat) (row1 : List V) (J2 : List V → List V) (G2 : Heap) (b2 k2 : Nat) (i2 : Int) (out : List UInt8) (G : Heap) :
    tellFrom Tryz.prog XH (m + 6) 16 [hArg l1 l2 l3 o4] H [tLp 5000 (sN b0 k0) (hAgg l1 l2 l3 o4) (i64 0) (svQ l1 o4.1 0) (lenO l1 : Nat) i0 J0 G0, tApD b0 q0 row0, tLp 0 (sN b1 k1) (hAgg l1 l2 l3 o4) (i64 1) (svQ l2 o4.2.1 1) (lenO l2 : Nat) i1 J1 G1, tApD b1 q1 row1, tLp 0 (sN b2 k2) (hAgg l1 l2 l3 o4) (i64 2) (svQ l3 o4.2.2.1 2) (lenO l3 : Nat) i2 J2 G2, (39, 4, .cax (.str out) G)] =
      some (.str out, [oLp (m + 5) (sO H.next) (hAgg l1 l2 l3 o4) (i64 0) (svQ l1 o4.1 0) (lenO l1 : Nat) (H1 H) (sN b0 k0) i0 J0 G0, oApD G0 sAr b0 k0 q0 row0, oLp (m + 5) (sN (nx G0 sAr) q0) (hAgg l1 l2 l3 o4) (i64 1) (svQ l2 o4.2.1 1) (lenO l2 : Nat) (hApD G0 sAr b0 row0) (sN b1 k1) i1 J1 G1, oApD G1 sSe b1 k1 q1 row1, oLp (m + 5) (sN (nx G1 sSe) q1) (hAgg l1 l2 l3 o4) (i64 2) (svQ l3 o4.2.2.1 2) (lenO l3 : Nat) (hApD G1 sSe b1 row1) (sN b2 k2) i2 J2 G2, .cax 57 [sN b2 k2, .str [32]] G2 (.str out) G]) := by
  cases l1 <;> cases l2 <;> cases l3 <;> rcases o4 with ⟨c1, c2, c3, _ | ⟨k, cp⟩⟩ <;> kernel_rfl

end Go.AM
