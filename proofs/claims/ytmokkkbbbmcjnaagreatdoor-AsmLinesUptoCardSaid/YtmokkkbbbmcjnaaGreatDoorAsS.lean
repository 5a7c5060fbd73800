/-
  Read and the document's Read: what they answer.
-/
import Derived.Test.YtmokkkbbbmcjnaaGreatDoorAsR
set_option linter.unusedVariables false
set_option linter.unusedSimpArgs false
namespace Go.AM
open Go.Proofs Go.RowKit

def rOut : Option (Int × Int) → V
  | none => rNo
  | some (n, a) => rYes n a
theorem rOut_flat : ∀ o, flat (rOut o) = true
  | none => rfl
  | some (n, a) => rfl

def atoiO (q : List UInt8) : Option Int := match Lib.atoiAll q with | .ok v => some v | _ => none
def readP (s : List UInt8) : Option (Int × Int) := match cutB 32 s with
  | none => if findB namesL s = true ∧ lineA (findN namesL s 1 : Nat) 0 = s then some ((findN namesL s 1 : Nat), 0) else none
  | some (p, q) => match atoiO q with
    | none => none
    | some v => if findB namesL p = true ∧ lineA (findN namesL p 1 : Nat) v = s then some ((findN namesL p 1 : Nat), v) else none
def readR (s : List UInt8) : Option (Int × Int) := match wordsG s [] with
  | [] => none
  | p :: r => if findB namesL p = true then (match r with
      | [] => if lineA (findN namesL p 1 : Nat) 0 = s then some ((findN namesL p 1 : Nat), 0) else none
      | [q] => if (decimalA q).2 = true ∧ lineA (findN namesL p 1 : Nat) (decimalA q).1 = s then some ((findN namesL p 1 : Nat), (decimalA q).1) else none
      | _ => none) else none

theorem ok_frd {X : Ext} {f : FuncId} {r : List V → Option V} {dargs : List V} {v : V} (hX : X f = some (fun args h => (r args).map (·, h))) (hr : r dargs = some v) (hn : ∀ d ∈ dargs, ∀ l, d ≠ .tup l) : (Ob2.rd f dargs v).ok Tryz.prog X := by
  refine ⟨_, hX, fun args h hd => ?_⟩
  have e := digs_flat h args _ hd hn
  subst e
  simp only [hr, Option.map_some]
theorem notup1 {a : V} (h : ∀ l, a ≠ .tup l) : ∀ d ∈ [a], ∀ l, d ≠ .tup l := by
  intro d hd
  simp at hd
  subst hd
  exact h

theorem okCutR (s p q : List UInt8) (k : Bool) (hs : s.length ≤ 4611686018427387904) (h : cutV 32 s = .tup [.str p, .str q, .bool k]) : (cO s p q k).ok Tryz.prog XR := by
  refine ok_frd (r := cutF.2) rfl ?_ (by intro d hd l; simp at hd; rcases hd with rfl | rfl <;> intro h <;> cases h)
  show (if s.length ≤ 4611686018427387904 then some (cutV 32 s) else none) = _
  rw [if_pos hs, h]
theorem okFindP (p : List UInt8) : (fO p (findN namesL p 1 : Nat) (findB namesL p)).ok Tryz.prog XR := ok_frd (r := (findF 25).2) rfl rfl (notup1 (fun l h => by cases h))
theorem okFindR (p : List UInt8) : (fR p (findN namesL p 1 : Nat) (findB namesL p)).ok Tryz.prog XR := ok_frd (r := (findF 28).2) rfl rfl (notup1 (fun l h => by cases h))
theorem okLineP (n a : Int) (h : In64 a) : (lO n a (lineA n a)).ok Tryz.prog XR := by
  refine ok_frd (r := (lineF 10).2) rfl ?_ (notup1 (fun l h => by cases h))
  show (if In64 a then some (V.str (lineA n a)) else none) = _
  rw [if_pos h]
theorem okLineR (n a : Int) (h : In64 a) : (lR n a (lineA n a)).ok Tryz.prog XR := by
  refine ok_frd (r := (lineF 11).2) rfl ?_ (notup1 (fun l h => by cases h))
  show (if In64 a then some (V.str (lineA n a)) else none) = _
  rw [if_pos h]
theorem okDecR (q : List UInt8) (h : q.length < 9223372036854775807) : (dR q (decimalA q).1 (decimalA q).2).ok Tryz.prog XR := by
  refine ok_frd (r := decimalF.2) rfl ?_ (notup1 (fun l h => by cases h))
  show (if q.length < 9223372036854775807 then some (V.tup [i64 (decimalA q).1, .bool (decimalA q).2]) else none) = _
  rw [if_pos h]
theorem okAtoi (q : List UInt8) (v : Int) (hq : q.length ≤ 281474976710656) (h : Lib.atoiAll q = .ok v) : (aO q v).ok Tryz.prog XR := by
  refine ⟨atoiG, rfl, fun args h' hd => ?_⟩
  have e := digs_flat h' args _ hd (notup1 (fun l h => by cases h))
  subst e
  show (if q.length ≤ 281474976710656 then _ else none) = _
  rw [if_pos hq, h]
theorem okAtoiE (q : List UInt8) (hq : q.length ≤ 281474976710656) (h : ∀ v, Lib.atoiAll q ≠ .ok v) : ∃ v, (aE q v).ok Tryz.prog XR := by
  rcases hk : Lib.atoiAll q with v | _ | _
  · exact absurd hk (h v)
  · refine ⟨0, atoiG, rfl, fun args hd => ?_⟩
    have e := digs_flat h0 args _ hd (notup1 (fun l h => by cases h))
    subst e
    show (if q.length ≤ 281474976710656 then _ else none) = _
    rw [if_pos hq, hk]
  · refine ⟨Lib.atoiSat q, atoiG, rfl, fun args hd => ?_⟩
    have e := digs_flat h0 args _ hd (notup1 (fun l h => by cases h))
    subst e
    show (if q.length ≤ 281474976710656 then _ else none) = _
    rw [if_pos hq, hk]
theorem okWords (s : List UInt8) (hs : s.length ≤ 2097152) : (wO s (wordsG s []).length ((wordsG s []).map V.str)).ok Tryz.prog XR := by
  refine ⟨wordsE, rfl, fun args hd => ?_⟩
  have e := digs_flat h0 args _ hd (notup1 (fun l h => by cases h))
  subst e
  show (if s.length ≤ 2097152 then _ else none) = _
  rw [if_pos hs]
theorem okI (k i : Nat) (h : i < k) : (iO k i).ok Tryz.prog XR := by
  intro ts x
  have hu : Tryz.prog.underlying 37 = some (.slice 9) := Tryz.underlying37
  have hs : szOf Tryz.prog 9 = some 1 := by kernel_rfl
  unfold indexAddrV
  simp only [hu, hs]
  rw [if_pos ⟨by omega, by omega⟩]
  simp
theorem agg9 : isAggT Tryz.prog 9 = some false := by kernel_rfl
theorem okL {row : List V} {i : Nat} {p : List UInt8} (h : row[i]? = some (.str p)) : (Ob2.ld 9 row i (.str p)).ok Tryz.prog XR := by
  show rowGet Tryz.prog 9 row i = some _
  unfold rowGet
  rw [agg9]; exact h

theorem atoi_in {q : List UInt8} {v : Int} (h : Lib.atoiAll q = .ok v) : In64 v := by
  unfold Lib.atoiAll at h
  split at h
  · cases h
  · simp only at h
    split at h
    · cases h
    · cases h
    · rename_i u hu
      split at h
      · cases h
      · split at h
        · cases h
        · cases h
          unfold In64
          split <;> omega

theorem neq_of {a b : List UInt8} (h : a ≠ b) {X : Ext} : (obS .neq a b true).ok Tryz.prog X := okSn (by simp [h])
theorem neq_no {a b : List UInt8} (h : a = b) {X : Ext} : (obS .neq a b false).ok Tryz.prog X := okSn (by simp [h])

theorem readP_run (s : List UInt8) (hs : s.length ≤ 2097152) : ∃ h', callN Tryz.prog XR 60 8 [.str s] h0 = some (rOut (readP s), h') := by
  have z64 : In64 0 := by unfold In64; omega
  unfold readP
  cases hc : cutB 32 s with
  | none =>
    have oc := okCutR s s [] false (by omega) (by unfold cutV; rw [hc])
    have of := okFindP s
    cases hf : findB namesL s with
    | false =>
      rw [hf] at of
      simp only [Bool.false_eq_true, false_and, if_false]
      exact run_of_from (r8_a s s [] _) (obs2_cons oc (obs2_cons of obs2_nil))
    | true =>
      rw [hf] at of
      by_cases hl : lineA (findN namesL s 1 : Nat) 0 = s
      · rw [if_pos ⟨rfl, hl⟩]
        exact run_of_from (r8_c s s [] _ _) (obs2_cons oc (obs2_cons of (obs2_cons (okLineP _ _ z64) (obs2_cons (neq_no hl) obs2_nil))))
      · rw [if_neg (fun h => hl h.2)]
        exact run_of_from (r8_b s s [] _ _) (obs2_cons oc (obs2_cons of (obs2_cons (okLineP _ _ z64) (obs2_cons (neq_of hl) obs2_nil))))
  | some pq =>
    obtain ⟨p, q⟩ := pq
    simp only
    obtain ⟨_, e2, _⟩ := cutB_some 32 s p q hc
    have hlen : s.length = p.length + (q.length + 1) := by rw [e2]; simp
    have oc := okCutR s p q true (by omega) (by unfold cutV; rw [hc])
    have of := okFindP p
    unfold atoiO
    by_cases ha : ∃ v, Lib.atoiAll q = .ok v
    · obtain ⟨v, hv⟩ := ha
      have oa := okAtoi q v (by omega) hv
      rw [hv]
      simp only
      cases hf : findB namesL p with
      | false =>
        rw [hf] at of
        simp only [Bool.false_eq_true, false_and, if_false]
        exact run_of_from (r8_d s p q _ _) (obs2_cons oc (obs2_cons of (obs2_cons oa obs2_nil)))
      | true =>
        rw [hf] at of
        by_cases hl : lineA (findN namesL p 1 : Nat) v = s
        · rw [if_pos ⟨rfl, hl⟩]
          exact run_of_from (r8_h s p q _ _ _) (obs2_cons oc (obs2_cons of (obs2_cons oa (obs2_cons (okLineP _ _ (atoi_in hv)) (obs2_cons (neq_no hl) obs2_nil)))))
        · rw [if_neg (fun h => hl h.2)]
          exact run_of_from (r8_g s p q _ _ _) (obs2_cons oc (obs2_cons of (obs2_cons oa (obs2_cons (okLineP _ _ (atoi_in hv)) (obs2_cons (neq_of hl) obs2_nil)))))
    · obtain ⟨v, oa⟩ := okAtoiE q (by omega) (fun v h => ha ⟨v, h⟩)
      have e : (match Lib.atoiAll q with | .ok v => some v | _ => (none : Option Int)) = none := by
        split
        · rename_i v hv; exact absurd ⟨v, hv⟩ ha
        · rfl
      rw [e]
      simp only
      cases hf : findB namesL p with
      | false =>
        rw [hf] at of
        exact run_of_from (r8_e s p q _ _) (obs2_cons oc (obs2_cons of (obs2_cons oa obs2_nil)))
      | true =>
        rw [hf] at of
        exact run_of_from (r8_f s p q _ _) (obs2_cons oc (obs2_cons of (obs2_cons oa obs2_nil)))

theorem wordsG_len : ∀ (l cur : List UInt8), ∀ w ∈ wordsG l cur, w.length ≤ cur.length + l.length
  | [], cur, w, h => by simp [wordsG] at h; subst h; simp
  | c :: l, cur, w, h => by
    unfold wordsG at h
    split at h
    · rcases List.mem_cons.1 h with rfl | h
      · simp
      · have := wordsG_len l [] w h
        simp at this ⊢
        omega
    · have := wordsG_len l (cur ++ [c]) w h
      simp at this ⊢
      omega

set_option maxRecDepth 8000 in
theorem readR_run (s : List UInt8) (hs : s.length ≤ 2097152) : ∃ h', callN Tryz.prog XR 60 9 [.str s] h0 = some (rOut (readR s), h') := by
  have z64 : In64 0 := by unfold In64; omega
  have ow := okWords s hs
  unfold readR
  cases hw : wordsG s [] with
  | nil =>
    exfalso
    have : ∀ (l cur : List UInt8), wordsG l cur ≠ [] := by
      intro l
      induction l with
      | nil => intro cur h; simp [wordsG] at h
      | cons c l ih => intro cur h; unfold wordsG at h; split at h
                       · cases h
                       · exact ih _ h
    exact this s [] hw
  | cons p r =>
    rw [hw] at ow
    have of := okFindR p
    have ol : (Ob2.ld 9 ((p :: r).map V.str) 0 (.str p)).ok Tryz.prog XR := okL rfl
    have oi := okI (p :: r).length 0 (by simp)
    simp only
    have base : ∀ b, findB namesL p = b → Obs2 Tryz.prog XR (o0 s (p :: r).length ((p :: r).map V.str) p (findN namesL p 1 : Nat) b) := by
      intro b hb
      rw [hb] at of
      exact obs2_cons ow (obs2_cons oi (obs2_cons ol (obs2_cons of obs2_nil)))
    have app : ∀ {l m : List Ob2}, Obs2 Tryz.prog XR l → Obs2 Tryz.prog XR m → Obs2 Tryz.prog XR (l ++ m) := fun hl hm x hx => (List.mem_append.1 hx).elim (hl x) (hm x)
    cases hf : findB namesL p with
    | false =>
      simp only [Bool.false_eq_true, if_false]
      exact run_of_from (r9_a s p _ _ _) (base false hf)
    | true =>
      rw [if_pos rfl]
      have ob := base true hf
      match r, ob with
      | [], ob =>
        simp only
        have m1 : (obI .gtr (([p] : List (List UInt8)).length : Nat) 2 false).ok Tryz.prog XR := okIgt (by simp)
        have m2 : (obI .eql (([p] : List (List UInt8)).length : Nat) 2 false).ok Tryz.prog XR := okIeq (by simp)
        by_cases hl : lineA (findN namesL p 1 : Nat) 0 = s
        · rw [if_pos hl]
          exact run_of_from (r9_d s p _ _ _ _) (app ob (obs2_cons m1 (obs2_cons m2 (obs2_cons (okLineR _ _ z64) (obs2_cons (neq_no hl) obs2_nil)))))
        · rw [if_neg hl]
          exact run_of_from (r9_c s p _ _ _ _) (app ob (obs2_cons m1 (obs2_cons m2 (obs2_cons (okLineR _ _ z64) (obs2_cons (neq_of hl) obs2_nil)))))
      | [q], ob =>
        simp only
        have m1 : (obI .gtr (([p, q] : List (List UInt8)).length : Nat) 2 false).ok Tryz.prog XR := okIgt (by simp)
        have m2 : (obI .eql (([p, q] : List (List UInt8)).length : Nat) 2 true).ok Tryz.prog XR := okIeq (by simp)
        have m3 := okI ([p, q] : List (List UInt8)).length 1 (by simp)
        have m4 : (Ob2.ld 9 (([p, q] : List (List UInt8)).map V.str) 1 (.str q)).ok Tryz.prog XR := okL rfl
        have hq : q.length ≤ s.length := by
          have := wordsG_len s [] q (by rw [hw]; simp)
          simpa using this
        have od := okDecR q (by omega)
        have hin : In64 (decimalA q).1 := by
          unfold decimalA
          split
          · unfold In64; simp
          · split
            · split
              · unfold In64; simp
              · split <;> exact wri64_in _
            · split
              · unfold In64; simp
              · exact wri64_in _
        cases hk : (decimalA q).2 with
        | false =>
          rw [hk] at od
          simp only [Bool.false_eq_true, false_and, if_false]
          exact run_of_from (r9_e s p q _ _ _ _) (app ob (obs2_cons m1 (obs2_cons m2 (obs2_cons m3 (obs2_cons m4 (obs2_cons od obs2_nil))))))
        | true =>
          rw [hk] at od
          by_cases hl : lineA (findN namesL p 1 : Nat) (decimalA q).1 = s
          · rw [if_pos ⟨rfl, hl⟩]
            exact run_of_from (r9_g s p q _ _ _ _ _) (app ob (obs2_cons m1 (obs2_cons m2 (obs2_cons m3 (obs2_cons m4 (obs2_cons od (obs2_cons (okLineR _ _ hin) (obs2_cons (neq_no hl) obs2_nil))))))))
          · rw [if_neg (fun h => hl h.2)]
            exact run_of_from (r9_f s p q _ _ _ _ _) (app ob (obs2_cons m1 (obs2_cons m2 (obs2_cons m3 (obs2_cons m4 (obs2_cons od (obs2_cons (okLineR _ _ hin) (obs2_cons (neq_of hl) obs2_nil))))))))
      | q1 :: q2 :: r, ob =>
        simp only
        exact run_of_from (r9_b s p _ _ _) (app ob (obs2_cons (okIgt (by simp; omega)) obs2_nil))

end Go.AM
