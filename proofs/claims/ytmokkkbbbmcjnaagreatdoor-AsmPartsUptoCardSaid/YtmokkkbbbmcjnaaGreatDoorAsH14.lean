/-
  Two equal lists of numbers are told to be equal (ints2); the readers of heads as answers.
-/
import Derived.Test.YtmokkkbbbmcjnaaGreatDoorAsH11
import Derived.Test.YtmokkkbbbmcjnaaGreatDoorAsH6
set_option linter.unusedVariables false
set_option linter.unusedSimpArgs false
namespace Go.AM
open Go.Proofs Go.RowKit

noncomputable abbrev eBody : Code := Code.go (bodyOf Tryz.prog 38) [1, 1, 0, 1, 0, 0]
abbrev eKs : List Nat := [0, 1, 5]
abbrev eVs (a b : V) (i : Int) : List V := [a, b, i64 i]
theorem e_round (m b1 b2 n p : Nat) (i j k : Int) (H : Heap) (t : List V) :
    tellCode Tryz.prog XS m 38 [] m eBody ⟨normL 26 (eKs.zip (eVs (sN b1 n) (sN b2 n) i)) t, H⟩ [tv 38 14 true, tp 38 19 (.ptr b1 p), (38, 20, .ldx (i64 k)), tp 38 23 (.ptr b2 p), (38, 24, .ldx (i64 k)), tv 38 25 false, tp 38 16 (i64 j)] eKs =
      some (.normal, 26, eVs (sN b1 n) (sN b2 n) j, LOk 9 H, [obI .lss i n true, iaX b1 n none i p, ldX 19 (up (LOk 3 H)) b1 p k, iaX b2 n none i p, ldX 23 (up (LOk 7 H)) b2 p k, obI .neq k k false, addO i j]) := by kernel_rfl
theorem e_exit (m b1 b2 n : Nat) (i : Int) (H : Heap) (t : List V) :
    tellCode Tryz.prog XS m 38 [] m eBody ⟨normL 26 (eKs.zip (eVs (sN b1 n) (sN b2 n) i)) t, H⟩ [tv 38 14 false] [] = some (.exit 0, 26, [], H, [obI .lss i n false]) := by kernel_rfl
theorem e_nil (m : Nat) (H : Heap) : tellFrom Tryz.prog XS (m + 3) 38 [.nilslice, .nilslice] H [] = some (.bool true, []) := by kernel_rfl
theorem e_run (m b1 b2 n : Nat) (H : Heap) (J : List V → List V) (G : Heap) : tellFrom Tryz.prog XS (m + 2) 38 [sN b1 n, sN b2 n] H [tv 38 10 false, (38, 0, .loop 26 eKs (.exit 0) ([].zip []) J G)] =
    some (.bool true, [obI .neq (n : Nat) (n : Nat) false, .loop (m + 1) [] eBody 26 eKs (eVs (sN b1 n) (sN b2 n) 0) H (.exit 0) ([].zip []) J G]) := by kernel_rfl

theorem e_rounds (m b1 b2 : Nat) (L : List Int) (ro1 ro2 : Bool) (t1 t2 : TypeId) (hL : L.length ≤ 1048576) : ∀ (l : List Int) (i : Nat) (H : Heap), L.drop i = l → i + l.length = L.length → H.get b1 = some (.cells ro1 t1 (L.map i64)) → H.get b2 = some (.cells ro2 t2 (L.map i64)) →
    ∃ H', ∀ (t : List V) (fuel : Nat), l.length < fuel → t.length = 26 → proj eKs t = eVs (sN b1 L.length) (sN b2 L.length) i →
      ∃ t', rounds (exec Tryz.prog (callN Tryz.prog XS m) [] m eBody) fuel ⟨t, H⟩ = some (.exit 0, ⟨t', H'⟩) ∧ t'.length = 26 ∧ proj [] t' = [] := by
  intro l
  induction l with
  | nil =>
    intro i H hd hi h1 h2
    simp at hi
    subst hi
    refine ⟨H, fun t fuel hf ht hp => ?_⟩
    obtain ⟨f, rfl⟩ : ∃ f, fuel = f + 1 := ⟨fuel - 1, by omega⟩
    have hr := e_exit m b1 b2 L.length (L.length : Nat) H t
    rw [norm_zip ht hp] at hr
    obtain ⟨t', e1, e2, e3⟩ := code_of_tell hr (obs2_cons (okIlt (by simp)) obs2_nil)
    exact ⟨t', by simp only [rounds, e1], e2, e3⟩
  | cons k l ih =>
    intro i H hd hi h1 h2
    have hk : L[i]? = some k := by
      have := congrArg List.head? hd
      simpa using this
    have hd' : L.drop (i + 1) = l := by
      have : (L.drop i).tail = l := by rw [hd]; rfl
      simpa using this
    rw [List.length_cons] at hi
    obtain ⟨H', g⟩ := ih (i + 1) (LOk 9 H) hd' (by omega) (by rw [LOk_get]; exact h1) (by rw [LOk_get]; exact h2)
    refine ⟨H', fun t fuel hf ht hp => ?_⟩
    obtain ⟨f, rfl⟩ : ∃ f, fuel = f + 1 := ⟨fuel - 1, by omega⟩
    have o1 : (obI .lss (i : Nat) L.length true).ok Tryz.prog XS := okIlt (by simp; omega)
    have o3 : (ldX 19 (up (LOk 3 H)) b1 i k).ok Tryz.prog XS := okLdx agg3 (show (up (LOk 3 H)).get b1 = _ from (LOk_get 3 H b1).trans h1) (by simp [hk])
    have o5 : (ldX 23 (up (LOk 7 H)) b2 i k).ok Tryz.prog XS := okLdx agg3 (show (up (LOk 7 H)).get b2 = _ from (LOk_get 7 H b2).trans h2) (by simp [hk])
    have hr := e_round m b1 b2 L.length i (i : Nat) ((i + 1 : Nat) : Int) k H t
    rw [norm_zip ht hp] at hr
    obtain ⟨t', e1, e2, e3⟩ := code_of_tell hr (obs2_cons o1 (obs2_cons (okIa b1 L.length i none (by omega)) (obs2_cons o3 (obs2_cons (okIa b2 L.length i none (by omega)) (obs2_cons o5 (obs2_cons (okIne (by simp)) (obs2_cons (okInc' i (by omega)) obs2_nil)))))))
    obtain ⟨t2, q1, q2, q3⟩ := g t' f (by simp at hf; omega) e2 e3
    exact ⟨t2, by simp only [rounds, e1]; exact q1, q2, q3⟩

def sameF : List V → Option V := fun dargs => match dargs with
  | [.nilslice, .nilslice] => some (.bool true)
  | [.tup [.tup r1, .int .i64 0, .int .i64 n1, .nilptr, .int .i64 3], .tup [.tup r2, .int .i64 0, .int .i64 n2, .nilptr, .int .i64 3]] => match intsOf r1, intsOf r2 with
    | some l1, some l2 => if l1 = l2 ∧ n1 = l1.length ∧ n2 = l1.length ∧ l1.length ≤ 1048576 then some (.bool true) else none
    | _, _ => none
  | _ => none
theorem same_knows : ReadKnows Tryz.prog XS 38 sameF := by
  intro dargs v hv
  unfold sameF at hv
  split at hv
  · cases hv
    exact ⟨rfl, rfl, 3, run_of_from (e_nil 0 _) obs2_nil⟩
  · rename_i r1 n1 r2 n2
    split at hv
    · rename_i l1 l2 hl1 hl2
      split at hv
      · rename_i hn
        cases hv
        obtain ⟨rfl, rfl, rfl, hl⟩ := hn
        have h1 := intsOf_eq _ _ hl1
        have h2 := intsOf_eq _ _ hl2
        subst h1
        subst h2
        refine ⟨rfl, by simp [rowsFlat, ints_flat], l1.length + 2, ?_⟩
        have e : und [.tup [.tup (l1.map i64), .int .i64 0, .int .i64 l1.length, .nilptr, .int .i64 3], .tup [.tup (l1.map i64), .int .i64 0, .int .i64 l1.length, .nilptr, .int .i64 3]] 0 = ([sN 0 l1.length, sN 1 l1.length], [.cells true 3 (l1.map i64), .cells true 3 (l1.map i64)]) := by
          simp [und, capOf]
        rw [e]
        obtain ⟨G, g⟩ := e_rounds (l1.length + 1) 0 1 l1 true true 3 3 hl l1 0 (allocs h0 [.cells true 3 (l1.map i64), .cells true 3 (l1.map i64)]) rfl (by simp) (by rw [allocs_get]; simp) (by rw [allocs_get]; simp)
        exact run_of_from (e_run l1.length 0 1 l1.length _ _ G) (obs2_cons (okIne (by simp)) (obs2_cons (ok_loop (fun t ht hp => g t _ (by omega) ht hp)) obs2_nil))
      · cases hv
    · cases hv
  · cases hv

/-! ### The readers as answers -/

def headE (out : List (List UInt8) → Out3) : GFun := fun args h => match args with
  | [.str s] => if s.length ≤ 2097152 then some (recV (lv (out (wordsG s [])).2.1) (lv (out (wordsG s [])).2.2.1) (lv (out (wordsG s [])).2.2.2) h.next (h.next + 1) (h.next + 2) (out (wordsG s [])).1,
      allocs h [obO (lv (out (wordsG s [])).2.1), obO (lv (out (wordsG s [])).2.2.1), obO (lv (out (wordsG s [])).2.2.2)]) else none
  | _ => none

theorem Mono.allocs : ∀ (l : List Obj) (h : Heap), Mono h (allocs h l)
  | [], h => Mono.refl h
  | o :: l, h => (Mono.alloc h o).trans (Mono.allocs l _)

theorem head_entry (f : FuncId) (out : List (List UInt8) → Out3) (hk : ∀ s : List UInt8, s.length ≤ 2097152 → Runs3 f s (out (wordsG s []))) : EntryOk Tryz.prog f (headE out) where
  call := by
    intro args h v h' hg W lim E w args' hlim H hr
    unfold headE at hg
    split at hg
    case h_2 => cases hg
    rename_i s
    split at hg
    case isFalse => cases hg
    rename_i hs
    cases hg
    rw [allocs_next] at hlim
    obtain ⟨n, H', b1, b2, b3, hrun, hrow, hnd⟩ := hk s hs
    exact fresh3 mixed XS_ok XS_mono hrun rfl hrow hnd (by simpa using hlim) H hr
  mono := by
    intro args h v h' hg
    unfold headE at hg
    split at hg
    · split at hg
      · cases hg; exact Mono.allocs _ _
      · cases hg
    · cases hg

end Go.AM

/-
  Head: what it answers.
-/
set_option linter.unusedVariables false
set_option linter.unusedSimpArgs false
namespace Go.AM
open Go.Proofs Go.RowKit

theorem h_loop (cp : Option Nat) (m bl N0 : Nat) (A B : V) (o : Option (List Int)) (H : Heap) (ov : V) (acc : List (List UInt8)) (own : Bool) (hb : ∀ L, o = some L → bl < N0 ∧ ∃ ro ty, H.get bl = some (.cells ro ty (L.map i64))) (hL : (ints o).length ≤ 1048576) (hm : (ints o).length < m + 1) (hacc : acc.length ≤ 4194304) (ho : OutS N0 H ov acc own) :
    match headW (ints o) with
    | some ws => ∃ o' H' own', OutS N0 H' o' (acc ++ ws) own' ∧ (own' = true → ws = [] ∧ own = true) ∧ KeepB N0 H H' ∧ ∀ t : List V, t.length = 50 → proj hKs t = hVs ov A B (svQ (vrow o) cp bl) (lenO (vrow o)) 0 →
        ∃ t', rounds (exec Tryz.prog (callN Tryz.prog XH (m + 1)) [1] (m + 1) hBody) (m + 1) ⟨t, H⟩ = some (.exit 2, ⟨t', H'⟩) ∧ t'.length = 50 ∧ proj hKs t' = hVs o' A B (svQ (vrow o) cp bl) (lenO (vrow o)) ((ints o).length : Nat)
    | none => ∃ H', ∀ t : List V, t.length = 50 → proj hKs t = hVs ov A B (svQ (vrow o) cp bl) (lenO (vrow o)) 0 →
        ∃ t', rounds (exec Tryz.prog (callN Tryz.prog XH (m + 1)) [1] (m + 1) hBody) (m + 1) ⟨t, H⟩ = some (.ret, ⟨t', H'⟩) ∧ t'.length = 50 ∧ proj [2] t' = [.str []] := by
  cases o with
  | none =>
    refine ⟨ov, H, own, by simpa [ints] using ho, (fun h => ⟨rfl, h⟩), KeepB.refl _ _, fun t ht hp => ?_⟩
    have hr := h_exit (m + 1) ov A B .nilslice 0 0 H t
    have hp : proj hKs t = hVs ov A B .nilslice 0 0 := hp
    rw [norm_zip ht hp] at hr
    obtain ⟨t', e1, e2, e3⟩ := code_of_tell hr (obs2_cons (okIlt (by simp)) obs2_nil)
    exact ⟨t', by simp only [rounds, e1], e2, e3⟩
  | some L =>
    obtain ⟨hbl, ro, ty, hg⟩ := hb L rfl
    have key := h_rounds cp m bl N0 A B L ro ty hbl hL L 0 ov acc own H rfl (by simp) (by omega) hg ho
    have es : svQ (vrow (some L)) cp bl = .slice bl 0 L.length cp := by simp [svQ, vrow]
    have el : (lenO (vrow (some L)) : Nat) = L.length := by simp [lenO, vrow]
    have ei : ints (some L) = L := rfl
    rw [ei] at hm ⊢
    rw [es, el]
    cases hw : headW L with
    | some ws =>
      rw [hw] at key
      obtain ⟨o', H', own', q1, q2, _, q4, g⟩ := key
      exact ⟨o', H', own', q1, q2, q4, fun t ht hp => g t (m + 1) hm ht hp⟩
    | none =>
      rw [hw] at key
      obtain ⟨H', g⟩ := key
      exact ⟨H', fun t ht hp => g t (m + 1) hm ht hp⟩

theorem strsOf_map : ∀ l : List (List UInt8), strsOf (l.map V.str) = some l
  | [] => rfl
  | x :: l => by simp only [List.map_cons, strsOf, strsOf_map l]; rfl

theorem okJoin {N0 : Nat} {H : Heap} {o : V} {xs : List (List UInt8)} (h : OutS N0 H o xs false) (h0 : 0 < xs.length) (h1 : xs.length ≤ 140737488355328) (h2 : (Lib.join xs [32]).length ≤ 140737488355328) :
    ∃ b, o = sN b xs.length ∧ (Ob2.cax 57 [sN b xs.length, .str [32]] H (.str (Lib.join xs [32])) H).ok Tryz.prog XH := by
  obtain ⟨b, ho, _, hb, hN, hg⟩ := h.ex
  refine ⟨b, ho, joinG, rfl, ?_⟩
  simp only [joinG, hg]
  rw [show ((xs.map V.str).drop 0).take xs.length = xs.map V.str by simp [List.take_of_length_le], strsOf_map]
  simp only
  rw [if_pos (by first | exact ⟨rfl, h0, h1, h2⟩ | exact ⟨trivial, h0, h1, h2⟩)]

def headP (a b c : List Int) : List UInt8 := match headW a, headW b, headW c with
  | some x, some y, some z => Lib.join ([sFunc] ++ x ++ [sAr] ++ y ++ [sSe] ++ z) [32]
  | _, _, _ => []

theorem headW_len : ∀ (l : List Int) (w : List (List UInt8)), headW l = some w → w.length = l.length ∧ ∀ x ∈ w, x.length ≤ 5
  | [], w, h => by simp only [headW, Option.some.injEq] at h; subst h; simp
  | k :: l, w, h => by
    simp only [headW] at h
    split at h
    · cases h
    · simp only [Option.map_eq_some_iff] at h
      obtain ⟨w', h', rfl⟩ := h
      obtain ⟨e1, e2⟩ := headW_len l w' h'
      refine ⟨by simp [e1], fun x hx => ?_⟩
      rcases List.mem_cons.1 hx with rfl | hx
      · exact kindW_len k
      · exact e2 x hx
theorem tail_len : ∀ (l : List (List UInt8)), (∀ x ∈ l, x.length ≤ 5) → (Lib.joinTail [32] l).length ≤ 6 * l.length
  | [], _ => by simp [Lib.joinTail]
  | x :: l, h => by
    have h1 := h x (by simp)
    have h2 := tail_len l (fun z hz => h z (List.mem_cons_of_mem _ hz))
    simp only [Lib.joinTail, List.map_cons, List.flatten_cons, List.length_append, List.length_cons, List.length_nil] at h2 ⊢
    omega
theorem join_len (l : List (List UInt8)) (h : ∀ x ∈ l, x.length ≤ 5) : (Lib.join l [32]).length ≤ 6 * l.length := by
  cases l with
  | nil => simp [Lib.join_nil]
  | cons x l =>
    have h1 := h x (by simp)
    have h2 := tail_len l (fun z hz => h z (List.mem_cons_of_mem _ hz))
    rw [Lib.join_cons]
    simp only [List.length_append, List.length_cons]
    omega

set_option maxHeartbeats 1000000 in
theorem head16 (m : Nat) (o1 o2 o3 : Option (List Int)) (o4 : Cps) (H : Heap) (hg1 : ∀ L, o1 = some L → ∃ ro, H.get 0 = some (.cells ro 3 (L.map i64))) (hg2 : ∀ L, o2 = some L → ∃ ro, H.get 1 = some (.cells ro 3 (L.map i64))) (hg3 : ∀ L, o3 = some L → ∃ ro, H.get 2 = some (.cells ro 3 (L.map i64)))
    (h1 : (ints o1).length ≤ 1048576) (h2 : (ints o2).length ≤ 1048576) (h3 : (ints o3).length ≤ 1048576) (m1 : (ints o1).length < m + 5) (m2 : (ints o2).length < m + 5) (m3 : (ints o3).length < m + 5) :
    ∃ H', callN Tryz.prog XH (m + 6) 16 [hArg (vrow o1) (vrow o2) (vrow o3) o4] H = some (.str (headP (ints o1) (ints o2) (ints o3)), H') := by
  have keep0 : KeepB H.next H (H1 H) := KeepB.alloc _ (Nat.le_refl _)
  have lt : ∀ (b : Id) ro (L : List Int), H.get b = some (.cells ro 3 (L.map i64)) → b < H.next := fun b ro L h => Heap.get_lt h
  have start : OutS H.next (H1 H) (sO H.next) [sFunc] true := ⟨⟨H.next, rfl, fun _ => rfl, by simp, Nat.le_refl _, Heap.get_alloc_same _ _⟩, by simp⟩
  have mk : ∀ (b : Id) (o : Option (List Int)) (G : Heap), (∀ L, o = some L → ∃ ro, H.get b = some (.cells ro 3 (L.map i64))) → KeepB H.next H G → ∀ L, o = some L → b < H.next ∧ ∃ ro ty, G.get b = some (.cells ro ty (L.map i64)) := by
    intro b o G hg hk L hL
    obtain ⟨ro, hg⟩ := hg L hL
    have hb := lt b ro L hg
    exact ⟨hb, ro, 3, by rw [hk b hb]; exact hg⟩
  have k1 := h_loop o4.1 (m + 4) 0 H.next (hAgg (vrow o1) (vrow o2) (vrow o3) o4) (i64 0) o1 (H1 H) _ _ _ (mk 0 o1 _ hg1 keep0) h1 m1 (by simp) start
  unfold headP
  cases e1 : headW (ints o1) with
  | none =>
    rw [e1] at k1
    obtain ⟨G0, g0⟩ := k1
    exact run_of_from (h16_f0 m _ _ _ o4 H _ G0) (obs2_cons (ok_loop g0) obs2_nil)
  | some x =>
    rw [e1] at k1
    obtain ⟨v1, G0, own1, q1, q2, q3, g0⟩ := k1
    obtain ⟨lx, bx⟩ := headW_len _ _ e1
    have p0 := keep0.trans q3
    cases own1 with
    | true =>
      obtain ⟨b0, q, rfl, eq, ap, out2, kp⟩ := push_own (X := XH) sAr q1
      have p1 := p0.trans kp
      have k2 := h_loop o4.2.1 (m + 4) 1 H.next (hAgg (vrow o1) (vrow o2) (vrow o3) o4) (i64 1) o2 _ _ _ _ (mk 1 o2 _ hg2 p1) h2 m2 (by simp; omega) out2
      cases e2 : headW (ints o2) with
      | none =>
        rw [e2] at k2
        obtain ⟨G1, g1⟩ := k2
        exact run_of_from (h16_O1 m _ _ _ o4 H _ G0 b0 _ 2 _ _ G1) (obs2_cons (ok_loop g0) (obs2_cons ap (obs2_cons (ok_loop g1) obs2_nil)))
      | some y =>
        rw [e2] at k2
        obtain ⟨v2, G1, own2, r1, r2, r3, g1⟩ := k2
        obtain ⟨ly, by'⟩ := headW_len _ _ e2
        cases own2 with
        | true => cases (r2 rfl).2
        | false =>
          obtain ⟨b1, rfl, ap2, out3, kp2⟩ := push_row (X := XH) sSe r1 (by simp; omega)
          have p2 := (p1.trans r3).trans kp2
          have k3 := h_loop o4.2.2.1 (m + 4) 2 H.next (hAgg (vrow o1) (vrow o2) (vrow o3) o4) (i64 2) o3 _ _ _ _ (mk 2 o3 _ hg3 p2) h3 m3 (by simp; omega) out3
          cases e3 : headW (ints o3) with
          | none =>
            rw [e3] at k3
            obtain ⟨G2, g2⟩ := k3
            exact run_of_from (h16_O2 m _ _ _ o4 H _ G0 b0 _ 2 _ _ G1 b1 _ _ _ _ _ G2) (obs2_cons (ok_loop g0) (obs2_cons ap (obs2_cons (ok_loop g1) (obs2_cons ap2 (obs2_cons (ok_loop g2) obs2_nil)))))
          | some z =>
            rw [e3] at k3
            obtain ⟨v3, G2, own3, s1, s2, s3, g2⟩ := k3
            obtain ⟨lz, bz⟩ := headW_len _ _ e3
            cases own3 with
            | true => cases (s2 rfl).2
            | false =>
              obtain ⟨b2, rfl, oj⟩ := okJoin s1 (by simp) (by simp; omega) (by
                refine Nat.le_trans (join_len _ ?_) (by simp; omega)
                intro u hu
                simp only [List.mem_append, List.mem_singleton] at hu
                rcases hu with ((((rfl | hu) | rfl) | hu) | rfl) | hu
                · decide
                · exact bx u hu
                · decide
                · exact by' u hu
                · decide
                · exact bz u hu)
              exact run_of_from (h16_O m _ _ _ o4 H _ G0 b0 _ 2 _ _ G1 b1 _ _ _ _ _ G2 b2 _ _ _ G2) (obs2_cons (ok_loop g0) (obs2_cons ap (obs2_cons (ok_loop g1) (obs2_cons ap2 (obs2_cons (ok_loop g2) (obs2_cons oj obs2_nil))))))
    | false =>
      obtain ⟨b0, rfl, ap, out2, kp⟩ := push_row (X := XH) sAr q1 (by simp; omega)
      have p1 := p0.trans kp
      have k2 := h_loop o4.2.1 (m + 4) 1 H.next (hAgg (vrow o1) (vrow o2) (vrow o3) o4) (i64 1) o2 _ _ _ _ (mk 1 o2 _ hg2 p1) h2 m2 (by simp; omega) out2
      cases e2 : headW (ints o2) with
      | none =>
        rw [e2] at k2
        obtain ⟨G1, g1⟩ := k2
        exact run_of_from (h16_D1 m _ _ _ o4 H _ G0 b0 _ _ _ _ _ G1) (obs2_cons (ok_loop g0) (obs2_cons ap (obs2_cons (ok_loop g1) obs2_nil)))
      | some y =>
        rw [e2] at k2
        obtain ⟨v2, G1, own2, r1, r2, r3, g1⟩ := k2
        obtain ⟨ly, by'⟩ := headW_len _ _ e2
        cases own2 with
        | true => cases (r2 rfl).2
        | false =>
          obtain ⟨b1, rfl, ap2, out3, kp2⟩ := push_row (X := XH) sSe r1 (by simp; omega)
          have p2 := (p1.trans r3).trans kp2
          have k3 := h_loop o4.2.2.1 (m + 4) 2 H.next (hAgg (vrow o1) (vrow o2) (vrow o3) o4) (i64 2) o3 _ _ _ _ (mk 2 o3 _ hg3 p2) h3 m3 (by simp; omega) out3
          cases e3 : headW (ints o3) with
          | none =>
            rw [e3] at k3
            obtain ⟨G2, g2⟩ := k3
            exact run_of_from (h16_D2 m _ _ _ o4 H _ G0 b0 _ _ _ _ _ G1 b1 _ _ _ _ _ G2) (obs2_cons (ok_loop g0) (obs2_cons ap (obs2_cons (ok_loop g1) (obs2_cons ap2 (obs2_cons (ok_loop g2) obs2_nil)))))
          | some z =>
            rw [e3] at k3
            obtain ⟨v3, G2, own3, s1, s2, s3, g2⟩ := k3
            obtain ⟨lz, bz⟩ := headW_len _ _ e3
            cases own3 with
            | true => cases (s2 rfl).2
            | false =>
              obtain ⟨b2, rfl, oj⟩ := okJoin s1 (by simp) (by simp; omega) (by
                refine Nat.le_trans (join_len _ ?_) (by simp; omega)
                intro u hu
                simp only [List.mem_append, List.mem_singleton] at hu
                rcases hu with ((((rfl | hu) | rfl) | hu) | rfl) | hu
                · decide
                · exact bx u hu
                · decide
                · exact by' u hu
                · decide
                · exact bz u hu)
              exact run_of_from (h16_D m _ _ _ o4 H _ G0 b0 _ _ _ _ _ G1 b1 _ _ _ _ _ G2 b2 _ _ _ G2) (obs2_cons (ok_loop g0) (obs2_cons ap (obs2_cons (ok_loop g1) (obs2_cons ap2 (obs2_cons (ok_loop g2) (obs2_cons oj obs2_nil))))))

end Go.AM

/-
  Heads as answers of any memory; and that the program's are the document's.
-/
set_option linter.unusedVariables false
set_option linter.unusedSimpArgs false
namespace Go.AM
open Go.Proofs Go.RowKit

def digI (h : Heap) : V → Option (Option (List Int))
  | .nilslice => some none
  | .slice b 0 n _ => match h.get b with
    | some (.cells _ 3 row) => match intsOf row with
      | some l => if n = l.length ∧ l.length ≤ 1048576 then some (some l) else none
      | none => none
    | _ => none
  | _ => none
def okD : V → Option (Option (Nat × Option Nat))
  | .nilslice => some none
  | .slice _ 0 k c => some (some (k, c))
  | _ => none

theorem digI_sv {h : Heap} {a : V} {o : Option (List Int)} (hd : digI h a = some o) : ∃ b cp, a = svQ (vrow o) cp b ∧ (∀ L, o = some L → ∃ ro, h.get b = some (.cells ro 3 (L.map i64))) ∧ (ints o).length ≤ 1048576 := by
  unfold digI at hd
  split at hd
  · cases hd
    exact ⟨0, none, rfl, (fun L h => by cases h), by simp [ints]⟩
  · rename_i b n cp
    split at hd
    · rename_i ro row hg
      split at hd
      · rename_i l hl
        split at hd
        · rename_i hn
          cases hd
          obtain ⟨rfl, hn⟩ := hn
          have := intsOf_eq _ _ hl
          subst this
          exact ⟨b, cp, by simp [svQ, vrow], (fun L h => by cases h; exact ⟨ro, hg⟩), by simpa [ints] using hn⟩
        · cases hd
      · cases hd
    · cases hd
  · cases hd
theorem okD_sv {d : V} {o : Option (Nat × Option Nat)} (hd : okD d = some o) : ∃ b, d = sv4 o b := by
  unfold okD at hd
  split at hd
  · cases hd; exact ⟨0, rfl⟩
  · rename_i b k c
    cases hd; exact ⟨b, rfl⟩
  · cases hd

def hdG (r : List Int → List Int → List Int → List UInt8) : GFun := fun args h => match args with
  | [.agg [a, b, c, d]] => match digI h a, digI h b, digI h c, okD d with
    | some o1, some o2, some o3, some _ => some (.str (r (ints o1) (ints o2) (ints o3)), h)
    | _, _, _, _ => none
  | _ => none

theorem vrow_flat {o : Option (List Int)} {r : List V} (h : vrow o = some r) : flats r = true := by
  cases o with
  | none => cases h
  | some L => cases h; exact ints_flat L
theorem vrow_get {o : Option (List Int)} {h : Heap} {b : Id} (hg : ∀ L, o = some L → ∃ ro, h.get b = some (.cells ro 3 (L.map i64))) : ∀ r, vrow o = some r → ∃ ro, h.get b = some (.cells ro 3 r) := by
  intro r hr
  cases o with
  | none => cases hr
  | some L => cases hr; exact hg L rfl

abbrev rdH (o1 o2 o3 : Option (List V)) : Heap := allocs h0 [roO o1, roO o2, roO o3, .dead]
theorem rd_get0 {o1 o2 o3 : Option (List Int)} : ∀ L, o1 = some L → ∃ ro, (rdH (vrow o1) (vrow o2) (vrow o3)).get 0 = some (.cells ro 3 (L.map i64)) := by
  rintro L rfl
  exact ⟨true, by rw [allocs_get]; rfl⟩
theorem rd_get1 {o1 o2 o3 : Option (List Int)} : ∀ L, o2 = some L → ∃ ro, (rdH (vrow o1) (vrow o2) (vrow o3)).get 1 = some (.cells ro 3 (L.map i64)) := by
  rintro L rfl
  exact ⟨true, by rw [allocs_get]; rfl⟩
theorem rd_get2 {o1 o2 o3 : Option (List Int)} : ∀ L, o3 = some L → ∃ ro, (rdH (vrow o1) (vrow o2) (vrow o3)).get 2 = some (.cells ro 3 (L.map i64)) := by
  rintro L rfl
  exact ⟨true, by rw [allocs_get]; rfl⟩

theorem hd_entry (f : FuncId) (r : List Int → List Int → List Int → List UInt8) (hk : ∀ (o1 o2 o3 : Option (List Int)) (o4 : Cps), (ints o1).length ≤ 1048576 → (ints o2).length ≤ 1048576 → (ints o3).length ≤ 1048576 →
    ∃ n H', callN Tryz.prog XH n f [hArg (vrow o1) (vrow o2) (vrow o3) o4] (rdH (vrow o1) (vrow o2) (vrow o3)) = some (.str (r (ints o1) (ints o2) (ints o3)), H')) : EntryOk Tryz.prog f (hdG r) where
  call := by
    intro args h v h' hg W lim E w args' hlim H hr
    unfold hdG at hg
    split at hg
    case h_2 => cases hg
    rename_i a b c d
    split at hg
    case h_2 => cases hg
    rename_i o1 o2 o3 o4 e1 e2 e3 e4
    cases hg
    obtain ⟨b1, c1, rfl, g1, n1⟩ := digI_sv e1
    obtain ⟨b2, c2, rfl, g2, n2⟩ := digI_sv e2
    obtain ⟨b3, c3, rfl, g3, n3⟩ := digI_sv e3
    obtain ⟨b4, rfl⟩ := okD_sv e4
    obtain ⟨n, H', hrun⟩ := hk o1 o2 o3 (c1, c2, c3, o4) n1 n2 n3
    exact read3 mixed XH_ok XH_mono (fun r hr => vrow_flat hr) (fun r hr => vrow_flat hr) (fun r hr => vrow_flat hr) rfl o4 hrun H (vrow_get g1) (vrow_get g2) (vrow_get g3) hr
  mono := by
    intro args h v h' hg
    unfold hdG at hg
    split at hg
    · split at hg
      · cases hg; exact Mono.refl _
      · cases hg
    · cases hg

theorem entry16 : EntryOk Tryz.prog 16 (hdG headP) := hd_entry 16 headP fun o1 o2 o3 o4 h1 h2 h3 => ⟨1048576 + 6, head16 1048576 o1 o2 o3 o4 _ rd_get0 rd_get1 rd_get2 h1 h2 h3 (by omega) (by omega) (by omega)⟩
theorem entry17 : EntryOk Tryz.prog 17 (hdG headR) := hd_entry 17 headR fun o1 o2 o3 o4 h1 h2 h3 => ⟨3, head17 0 o1 o2 o3 o4 _ rd_get0 rd_get1 rd_get2 h1 h2 h3⟩
theorem entry13 : EntryOk Tryz.prog 13 (headE out13) := head_entry 13 out13 head13
theorem entry14 : EntryOk Tryz.prog 14 (headE out14) := head_entry 14 out14 head14

def hL : List (FuncId × GFun) := [(13, headE out13), (14, headE out14), (16, hdG headP), (17, hdG headR)]
theorem hL_all : ∀ x ∈ hL, EntryOk Tryz.prog x.1 x.2 := by
  intro x hx
  simp only [hL, List.mem_cons, List.not_mem_nil, or_false] at hx
  rcases hx with rfl | rfl | rfl | rfl
  · exact entry13
  · exact entry14
  · exact entry16
  · exact entry17
def XE : Ext := orExt (libExt hL) (orExt (knownExt [⟨38, sameF⟩]) XS)
theorem XE_ok : ExtOk Tryz.prog XE := orExt_ok (libExt_ok hL_all) (orExt_ok (knownExt_ok mixed (by
  intro x hx
  rw [List.mem_singleton] at hx
  subst hx
  exact ⟨XS, XS_ok, XS_mono, same_knows⟩)) XS_ok)
theorem XE_mono : ExtMono XE := orExt_mono (libExt_mono hL_all) (orExt_mono (knownExt_mono _) XS_mono)

/-! ### The laws -/

theorem out_ok (ws : List (List UInt8)) : (out13 ws).1 = (out14 ws).1 := by
  unfold out13 out14
  cases ws with
  | nil => rfl
  | cons x r =>
    simp only
    by_cases hl : 67 < r.length + 1
    · rw [if_pos hl, if_pos (.inr hl)]
    · rw [if_neg hl]
      by_cases hx : x = sFunc
      · rw [if_neg (by simp [hx]; omega)]
        cases rdW r 0 (fun _ => []) with
        | none => rfl
        | some cl => simp [hx]
      · rw [if_pos (.inl hx)]
        cases rdW r 0 (fun _ => []) with
        | none => rfl
        | some cl => simp [hx]
theorem out_same (ws : List (List UInt8)) (h : (out13 ws).1 = true) : out13 ws = out14 ws := by
  unfold out13 out14 at *
  cases ws with
  | nil => rfl
  | cons x r =>
    simp only at *
    by_cases hl : 67 < r.length + 1
    · rw [if_pos hl] at h; cases h
    · rw [if_neg hl] at h ⊢
      cases hr : rdW r 0 (fun _ => []) with
      | none => rw [hr] at h; cases h
      | some cl =>
        rw [hr] at h
        simp only [decide_eq_true_eq] at h
        rw [if_neg (by simp [h.1]; omega)]
        simp [h.1]

theorem row_head : ∀ l : List Int, rowA l = (headW l).map (Lib.joinTail [32])
  | [] => rfl
  | k :: l => by
    have e : kindW k = [] ↔ (k < 1 ∨ k > 3) := by
      unfold kindW
      constructor
      · intro h
        by_cases h1 : k = 1
        · simp [h1, kI] at h
        · by_cases h2 : k = 2
          · simp [h2, kB] at h
          · by_cases h3 : k = 3
            · simp [h3, kO] at h
            · omega
      · intro h
        rw [if_neg (by omega), if_neg (by omega), if_neg (by omega)]
    simp only [rowA, headW]
    by_cases hk : kindW k = []
    · rw [if_pos hk, if_pos (e.1 hk)]; rfl
    · rw [if_neg hk, if_neg (fun h => hk (e.2 h)), row_head l]
      cases headW l with
      | none => rfl
      | some w => simp [Lib.joinTail]

theorem head_same (a b c : List Int) : headP a b c = headR a b c := by
  unfold headP headR
  rw [row_head a, row_head b, row_head c]
  cases headW a with
  | none => rfl
  | some x =>
    cases headW b with
    | none => rfl
    | some y =>
      cases headW c with
      | none => rfl
      | some z =>
        simp only [Option.map_some]
        rw [show [sFunc] ++ x ++ [sAr] ++ y ++ [sSe] ++ z = sFunc :: (x ++ [sAr] ++ y ++ [sSe] ++ z) by simp, Lib.join_cons]
        simp [Lib.joinTail, sArrow, sSemi, sAr, sSe]

end Go.AM
