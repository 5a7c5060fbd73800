/-
  The document's Head, and Head: by what they answer.
-/
import Derived.Test.YtmokkkbbbmcjnaaGreatDoorAsH3
set_option linter.unusedVariables false
set_option linter.unusedSimpArgs false
namespace Go.AM
open Go.Proofs Go.RowKit

def intsOf : List V → Option (List Int)
  | [] => some []
  | .int .i64 k :: l => (intsOf l).map (k :: ·)
  | _ => none
theorem intsOf_map : ∀ L : List Int, intsOf (L.map i64) = some L
  | [] => rfl
  | k :: L => by simp only [List.map_cons, intsOf, intsOf_map L, Option.map_some]
theorem intsOf_eq : ∀ (r : List V) (L : List Int), intsOf r = some L → r = L.map i64
  | [], L, h => by simp only [intsOf, Option.some.injEq] at h; subst h; rfl
  | v :: r, L, h => by
    unfold intsOf at h
    split at h
    · rename_i h1; cases h1
    · rename_i k l h1
      cases h1
      simp only [Option.map_eq_some_iff] at h
      obtain ⟨L', h', rfl⟩ := h
      rw [intsOf_eq _ L' h']; rfl
    · cases h
theorem ints_flat : ∀ L : List Int, flats (L.map i64) = true
  | [] => rfl
  | k :: L => by simp only [List.map_cons, flats, flat, ints_flat L]; rfl

def rowF : List V → Option V := fun dargs => match dargs with
  | [.nilslice] => some (rowR (some []))
  | [.tup [.tup row, .int .i64 0, .int .i64 n, c, .int .i64 3]] => match intsOf row with
    | some l => if n = l.length ∧ l.length ≤ 1048576 then some (rowR (rowA l)) else none
    | none => none
  | _ => none
theorem rowR_flat (o : Option (List UInt8)) : flat (rowR o) = true := by cases o <;> rfl
theorem row_knows : ReadKnows Tryz.prog XG 40 rowF := by
  intro dargs v hv
  unfold rowF at hv
  split at hv
  · cases hv
    exact ⟨rfl, rfl, 2, _, row_run none 1 none 0 _ (fun L h => by cases h) (by simp [ints]) (by simp [ints])⟩
  · rename_i row n c
    split at hv
    · rename_i l hl
      split at hv
      · rename_i hn
        cases hv
        obtain ⟨rfl, hl2⟩ := hn
        have := intsOf_eq _ _ hl
        subst this
        refine ⟨rowR_flat _, by simp [rowsFlat, ints_flat], l.length + 2, allocs h0 [.cells true 3 (l.map i64)], ?_⟩
        have := row_run (capOf c) (l.length + 1) (some l) 0 (allocs h0 [.cells true 3 (l.map i64)]) (fun L h => by
          cases h
          exact ⟨true, 3, by rw [allocs_get]; simp⟩) (by simpa [ints] using hl2) (by simp [ints])
        simpa [und, svQ, vrow, ints] using this
      · cases hv
    · cases hv
  · cases hv

def XH : Ext := orExt (knownExt [⟨40, rowF⟩]) XG
theorem XH_ok : ExtOk Tryz.prog XH := orExt_ok (knownExt_ok mixed (by
  intro x hx
  rw [List.mem_singleton] at hx
  subst hx
  exact ⟨XG, XG_ok, XG_mono, row_knows⟩)) XG_ok
theorem XH_mono : ExtMono XH := orExt_mono (knownExt_mono _) XG_mono

theorem okRow {o : Option (List Int)} {cp : Option Nat} {b : Id} {H : Heap} (hg : ∀ L, o = some L → ∃ ro, H.get b = some (.cells ro 3 (L.map i64))) (hL : (ints o).length ≤ 1048576) : (Ob2.cax 40 [svQ (vrow o) cp b] H (rowR (rowA (ints o))) H).ok Tryz.prog XH := by
  refine ⟨readExt rowF, rfl, ?_⟩
  cases o with
  | none => rfl
  | some L =>
    obtain ⟨ro, hg⟩ := hg L rfl
    have e : digs H [svQ (vrow (some L)) cp b] = some [.tup [.tup (L.map i64), .int .i64 0, .int .i64 L.length, capV cp, .int .i64 3]] := by
      simp [digs, dig, svQ, vrow, hg]
    unfold readExt
    rw [e]
    simp only [rowF, intsOf_map]
    rw [if_pos (by simpa [ints] using hL)]; rfl

/-! ### The document's Head -/

abbrev Cps := Option Nat × Option Nat × Option Nat × Option (Nat × Option Nat)
abbrev hArg (l1 l2 l3 : Option (List V)) (o4 : Cps) : V := .agg [svQ l1 o4.1 0, svQ l2 o4.2.1 1, svQ l3 o4.2.2.1 2, sv4 o4.2.2.2 3]
abbrev oRow (l : Option (List V)) (cp : Option Nat) (b : Id) (H : Heap) (r : List UInt8) (k : Bool) : Ob2 := .cax 40 [svQ l cp b] H (.tup [.str r, .bool k]) H
abbrev cat (a b c : List UInt8) : Ob2 := .bin .add 9 (.str a) (.str b) (.str c)
abbrev tc (d : Tmp) (r : List UInt8) (k : Bool) (H : Heap) : FuncId × Tmp × Tell := (17, d, .cax (.tup [.str r, .bool k]) H)
def sFunc : List UInt8 := [102, 117, 110, 99]
def sArrow : List UInt8 := [32, 45, 62]
def sSemi : List UInt8 := [32, 59]

set_option maxHeartbeats 2000000 in
theorem h17_yes (m : Nat) (l1 l2 l3 : Option (List V)) (o4 : Cps) (H : Heap) (r1 r2 r3 a b c d e : List UInt8) :
    tellFrom Tryz.prog XH (m + 3) 17 [hArg l1 l2 l3 o4] H [tc 12 r1 true H, tc 18 r2 true H, tc 24 r3 true H, tp 17 38 (.str a), tp 17 39 (.str b), tp 17 41 (.str c), tp 17 42 (.str d), tp 17 44 (.str e)] =
      some (.str e, [oRow l1 o4.1 0 H r1 true, oRow l2 o4.2.1 1 H r2 true, oRow l3 o4.2.2.1 2 H r3 true, cat sFunc r1 a, cat a sArrow b, cat b r2 c, cat c sSemi d, cat d r3 e]) := by
  cases l1 <;> cases l2 <;> cases l3 <;> rcases o4 with ⟨c1, c2, c3, _ | ⟨k, cp⟩⟩ <;> kernel_rfl
set_option maxHeartbeats 2000000 in
theorem h17_no (m : Nat) (l1 l2 l3 : Option (List V)) (o4 : Cps) (H : Heap) (r1 r2 r3 : List UInt8) (k1 k2 k3 : Bool) (hk : (k1 && k2 && k3) = false) :
    tellFrom Tryz.prog XH (m + 3) 17 [hArg l1 l2 l3 o4] H [tc 12 r1 k1 H, tc 18 r2 k2 H, tc 24 r3 k3 H] =
      some (.str [], [oRow l1 o4.1 0 H r1 k1, oRow l2 o4.2.1 1 H r2 k2, oRow l3 o4.2.2.1 2 H r3 k3]) := by
  revert hk
  cases k1 <;> cases k2 <;> cases k3 <;> intro hk <;> first
    | (cases hk; done)
    | (cases l1 <;> cases l2 <;> cases l3 <;> rcases o4 with ⟨c1, c2, c3, _ | ⟨k, cp⟩⟩ <;> kernel_rfl)

def headR (a b c : List Int) : List UInt8 := match rowA a, rowA b, rowA c with
  | some x, some y, some z => sFunc ++ x ++ sArrow ++ y ++ sSemi ++ z
  | _, _, _ => []

theorem head17 (m : Nat) (o1 o2 o3 : Option (List Int)) (o4 : Cps) (H : Heap) (hg1 : ∀ L, o1 = some L → ∃ ro, H.get 0 = some (.cells ro 3 (L.map i64))) (hg2 : ∀ L, o2 = some L → ∃ ro, H.get 1 = some (.cells ro 3 (L.map i64))) (hg3 : ∀ L, o3 = some L → ∃ ro, H.get 2 = some (.cells ro 3 (L.map i64)))
    (h1 : (ints o1).length ≤ 1048576) (h2 : (ints o2).length ≤ 1048576) (h3 : (ints o3).length ≤ 1048576) :
    ∃ H', callN Tryz.prog XH (m + 3) 17 [hArg (vrow o1) (vrow o2) (vrow o3) o4] H = some (.str (headR (ints o1) (ints o2) (ints o3)), H') := by
  have p1 := okRow (cp := o4.1) hg1 h1
  have p2 := okRow (cp := o4.2.1) hg2 h2
  have p3 := okRow (cp := o4.2.2.1) hg3 h3
  unfold headR
  cases e1 : rowA (ints o1) with
  | none =>
    rw [e1] at p1
    cases e2 : rowA (ints o2) with
    | none =>
      rw [e2] at p2
      cases e3 : rowA (ints o3) with
      | none => rw [e3] at p3; exact run_of_from (h17_no m _ _ _ o4 H _ _ _ false false false rfl) (obs2_cons p1 (obs2_cons p2 (obs2_cons p3 obs2_nil)))
      | some z => rw [e3] at p3; exact run_of_from (h17_no m _ _ _ o4 H _ _ _ false false true rfl) (obs2_cons p1 (obs2_cons p2 (obs2_cons p3 obs2_nil)))
    | some y =>
      rw [e2] at p2
      cases e3 : rowA (ints o3) with
      | none => rw [e3] at p3; exact run_of_from (h17_no m _ _ _ o4 H _ _ _ false true false rfl) (obs2_cons p1 (obs2_cons p2 (obs2_cons p3 obs2_nil)))
      | some z => rw [e3] at p3; exact run_of_from (h17_no m _ _ _ o4 H _ _ _ false true true rfl) (obs2_cons p1 (obs2_cons p2 (obs2_cons p3 obs2_nil)))
  | some x =>
    rw [e1] at p1
    cases e2 : rowA (ints o2) with
    | none =>
      rw [e2] at p2
      cases e3 : rowA (ints o3) with
      | none => rw [e3] at p3; exact run_of_from (h17_no m _ _ _ o4 H _ _ _ true false false rfl) (obs2_cons p1 (obs2_cons p2 (obs2_cons p3 obs2_nil)))
      | some z => rw [e3] at p3; exact run_of_from (h17_no m _ _ _ o4 H _ _ _ true false true rfl) (obs2_cons p1 (obs2_cons p2 (obs2_cons p3 obs2_nil)))
    | some y =>
      rw [e2] at p2
      cases e3 : rowA (ints o3) with
      | none => rw [e3] at p3; exact run_of_from (h17_no m _ _ _ o4 H _ _ _ true true false rfl) (obs2_cons p1 (obs2_cons p2 (obs2_cons p3 obs2_nil)))
      | some z =>
        rw [e3] at p3
        have b1 := rowA_len _ _ e1
        have b2 := rowA_len _ _ e2
        have b3 := rowA_len _ _ e3
        exact run_of_from (h17_yes m _ _ _ o4 H x y z (sFunc ++ x) (sFunc ++ x ++ sArrow) (sFunc ++ x ++ sArrow ++ y) (sFunc ++ x ++ sArrow ++ y ++ sSemi) _) (obs2_cons p1 (obs2_cons p2 (obs2_cons p3 (obs2_cons (okCat (by simp [sFunc]; omega)) (obs2_cons (okCat (by simp [sFunc, sArrow]; omega)) (obs2_cons (okCat (by simp [sFunc, sArrow]; omega)) (obs2_cons (okCat (by simp [sFunc, sArrow, sSemi]; omega)) (obs2_cons (okCat (by simp [sFunc, sArrow, sSemi]; omega)) obs2_nil))))))))

end Go.AM
