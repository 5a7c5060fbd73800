/-
  The document's Head: run.
-/
import Derived.Test.YtmokkkbbbmcjnaaGreatDoorAsH2
import Derived.Test.YtmokkkbbbmcjnaaGreatDoorAsX
set_option linter.unusedVariables false
set_option linter.unusedSimpArgs false
namespace Go.AM
open Go.Proofs Go.RowKit

def kI : List UInt8 := [105, 110, 116]
def kB : List UInt8 := [98, 121, 116, 101, 115]
def kO : List UInt8 := [98, 111, 111, 108]
def kindW (k : Int) : List UInt8 := if k = 1 then kI else if k = 2 then kB else if k = 3 then kO else []
def kindF : FlatF := (58, fun args => match args with | [.int .i64 k] => some (.str (kindW k)) | _ => none)

theorem k58 (k : Int) (a b c : Bool) : tellFrom Tryz.prog XF 60 58 [i64 k] h0 ([tv 58 5 a] ++ if a then [] else [tv 58 7 b] ++ if b then [] else [tv 58 9 c]) =
  some (.str (if a then kI else if b then kB else if c then kO else []), [obI .eql k 1 a] ++ if a then [] else [obI .eql k 2 b] ++ if b then [] else [obI .eql k 3 c]) := by
  cases a <;> cases b <;> cases c <;> kernel_rfl

theorem kind_run (k : Int) : ∃ h', callN Tryz.prog XF 60 58 [i64 k] h0 = some (.str (kindW k), h') := by
  have o1 : (obI .eql k 1 (k == 1)).ok Tryz.prog XF := okIeq rfl
  have o2 : (obI .eql k 2 (k == 2)).ok Tryz.prog XF := okIeq rfl
  have o3 : (obI .eql k 3 (k == 3)).ok Tryz.prog XF := okIeq rfl
  have := run_of_from (k58 k (k == 1) (k == 2) (k == 3)) (by
    cases h1 : (k == 1) <;> cases h2 : (k == 2) <;> cases h3 : (k == 3) <;> rw [h1] at o1 <;> rw [h2] at o2 <;> rw [h3] at o3 <;> first
      | exact obs2_cons o1 obs2_nil
      | exact obs2_cons o1 (obs2_cons o2 obs2_nil)
      | exact obs2_cons o1 (obs2_cons o2 (obs2_cons o3 obs2_nil)))
  simpa [kindW] using this

theorem kind_knows : Knows Tryz.prog XF kindF := by
  intro args v hv
  unfold kindF at hv
  simp only at hv
  split at hv
  case h_2 => cases hv
  rename_i k
  cases hv
  exact ⟨rfl, rfl, 60, kind_run k⟩

def XG : Ext := orExt (flatExt [kindF]) XF
theorem XG_ok : ExtOk Tryz.prog XG := orExt_ok (flatExt_ok mixed (by
  intro x hx
  rw [List.mem_singleton] at hx
  subst hx
  exact ⟨XF, XF_ok, XF_mono, kind_knows⟩)) XF_ok
theorem XG_mono : ExtMono XG := orExt_mono (flatExt_mono _) XF_mono

/-! ### Promises -/

theorem okIa {X : Ext} (b n i : Nat) (c : Option Nat) (h : i < n) : (Ob2.iadr 29 b 0 n c (i64 (i : Nat)) (.ptr b i)).ok Tryz.prog X := by
  intro ts x
  have hu : Tryz.prog.underlying 29 = some (.slice 3) := Tryz.underlying29
  have hs : szOf Tryz.prog 3 = some 1 := by kernel_rfl
  unfold indexAddrV
  simp only [hu, hs]
  rw [if_pos (by omega)]
  simp
theorem okIb {X : Ext} (b n i : Nat) (c : Option Nat) (h : i < n) : (Ob2.iadr 37 b 0 n c (i64 (i : Nat)) (.ptr b i)).ok Tryz.prog X := by
  intro ts x
  have hu : Tryz.prog.underlying 37 = some (.slice 9) := Tryz.underlying37
  have hs : szOf Tryz.prog 9 = some 1 := by kernel_rfl
  unfold indexAddrV
  simp only [hu, hs]
  rw [if_pos (by omega)]
  simp
theorem agg3 : isAggT Tryz.prog 3 = some false := by kernel_rfl
theorem agg29 : isAggT Tryz.prog 29 = some false := by kernel_rfl
theorem okLdx {X : Ext} {ty : TypeId} (ha : isAggT Tryz.prog ty = some false) {H : Heap} {x : Operand} {b i : Nat} {ro : Bool} {ty' : TypeId} {row : List V} {v : V} (hg : H.get b = some (.cells ro ty' row)) (hi : row[i]? = some v) : (Ob2.ldx ty H x (.ptr b i) v).ok Tryz.prog X := by
  intro t
  unfold loadV rowAt
  simp only [Heap.row, hg, Option.map_some, ha]
  exact hi
theorem okCatS {a b c : List UInt8} {X : Ext} (h : a.length + b.length ≤ 140737488351232) (hc : a ++ b = c) : (Ob2.bin .add 9 (.str a) (.str b) (.str c)).ok Tryz.prog X := by
  subst hc
  exact okCat h

/-! ### row -/

noncomputable abbrev oBody : Code := Code.go (bodyOf Tryz.prog 40) [1, 1, 0, 1, 0, 0]
abbrev oKs : List Nat := [0, 4, 5]
abbrev oVs (a : V) (s : List UInt8) (i : Int) : List V := [a, .str s, i64 i]
abbrev ldX (x : Nat) (H : Heap) (b i : Nat) (k : Int) : Ob2 := .ldx 3 H (.tmp x) (.ptr b i) (i64 k)
abbrev iaX (b n : Nat) (cp : Option Nat) (i : Int) (p : Nat) : Ob2 := .iadr 29 b 0 n cp (i64 i) (.ptr b p)

theorem o_round (cp : Option Nat) (m b n p : Nat) (s s1 s2 : List UInt8) (i j k : Int) (H : Heap) (t : List V) :
    tellCode Tryz.prog XG (m + 1) 40 [] (m + 1) oBody ⟨normL 27 (oKs.zip (oVs (.slice b 0 n cp) s i)) t, H⟩ [tv 40 9 true, tp 40 14 (.ptr b p), (40, 15, .ldx (i64 k)), tv 40 17 false, tp 40 19 (.str s1), tp 40 22 (.ptr b p), (40, 23, .ldx (i64 k)), tp 40 25 (.str s2), tp 40 11 (i64 j)] oKs =
      some (.normal, 27, oVs (.slice b 0 n cp) s2 j, H, [obI .lss i n true, iaX b n cp i p, ldX 14 H b p k, obS .eql (kindW k) [] false, .bin .add 9 (.str s) (.str [32]) (.str s1), iaX b n cp i p, ldX 22 H b p k, .bin .add 9 (.str s1) (.str (kindW k)) (.str s2), addO i j]) := by kernel_rfl
theorem o_bad (cp : Option Nat) (m b n p : Nat) (s : List UInt8) (i k : Int) (H : Heap) (t : List V) :
    tellCode Tryz.prog XG (m + 1) 40 [] (m + 1) oBody ⟨normL 27 (oKs.zip (oVs (.slice b 0 n cp) s i)) t, H⟩ [tv 40 9 true, tp 40 14 (.ptr b p), (40, 15, .ldx (i64 k)), tv 40 17 true] [2, 3] =
      some (.ret, 27, [.str [], .bool false], H, [obI .lss i n true, iaX b n cp i p, ldX 14 H b p k, obS .eql (kindW k) [] true]) := by kernel_rfl
theorem o_exit (cp : Option Nat) (m b n : Nat) (s : List UInt8) (i : Int) (H : Heap) (t : List V) :
    tellCode Tryz.prog XG m 40 [] m oBody ⟨normL 27 (oKs.zip (oVs (.slice b 0 n cp) s i)) t, H⟩ [tv 40 9 false] oKs = some (.exit 0, 27, oVs (.slice b 0 n cp) s i, H, [obI .lss i n false]) := by kernel_rfl
theorem o_nil (m : Nat) (s : List UInt8) (i : Int) (H : Heap) (t : List V) :
    tellCode Tryz.prog XG m 40 [] m oBody ⟨normL 27 (oKs.zip (oVs .nilslice s i)) t, H⟩ [tv 40 9 false] oKs = some (.exit 0, 27, oVs .nilslice s i, H, [obI .lss i 0 false]) := by kernel_rfl

def rowA : List Int → Option (List UInt8)
  | [] => some []
  | k :: l => if kindW k = [] then none else (rowA l).map fun r => 32 :: kindW k ++ r
def rowR : Option (List UInt8) → V
  | some r => .tup [.str r, .bool true]
  | none => .tup [.str [], .bool false]

theorem kindW_len (k : Int) : (kindW k).length ≤ 5 := by
  unfold kindW
  split
  · decide
  · split
    · decide
    · split <;> decide
theorem rowA_len : ∀ (l : List Int) (r : List UInt8), rowA l = some r → r.length ≤ 6 * l.length
  | [], r, h => by simp only [rowA, Option.some.injEq] at h; subst h; simp
  | k :: l, r, h => by
    simp only [rowA] at h
    split at h
    · cases h
    · simp only [Option.map_eq_some_iff] at h
      obtain ⟨r', h', rfl⟩ := h
      have := rowA_len l r' h'
      have := kindW_len k
      simp only [List.cons_append, List.length_cons, List.length_append]
      omega

theorem o_rounds (cp : Option Nat) (m b : Nat) (L : List Int) (ro : Bool) (ty : TypeId) (H : Heap) (hg : H.get b = some (.cells ro ty (L.map i64))) (hL : L.length ≤ 1048576) : ∀ (l : List Int) (i : Nat) (s : List UInt8) (t : List V) (fuel : Nat), L.drop i = l → i + l.length = L.length → s.length ≤ 6 * i → l.length < fuel → t.length = 27 → proj oKs t = oVs (.slice b 0 L.length cp) s i →
    match rowA l with
    | some r => ∃ t', rounds (exec Tryz.prog (callN Tryz.prog XG (m + 1)) [] (m + 1) oBody) fuel ⟨t, H⟩ = some (.exit 0, ⟨t', H⟩) ∧ t'.length = 27 ∧ proj oKs t' = oVs (.slice b 0 L.length cp) (s ++ r) L.length
    | none => ∃ t', rounds (exec Tryz.prog (callN Tryz.prog XG (m + 1)) [] (m + 1) oBody) fuel ⟨t, H⟩ = some (.ret, ⟨t', H⟩) ∧ t'.length = 27 ∧ proj [2, 3] t' = [.str [], .bool false] := by
  intro l
  induction l with
  | nil =>
    intro i s t fuel hd hi hs hf ht hp
    obtain ⟨f, rfl⟩ : ∃ f, fuel = f + 1 := ⟨fuel - 1, by omega⟩
    simp at hi
    subst hi
    have hr := o_exit cp (m + 1) b L.length s (L.length : Nat) H t
    rw [norm_zip ht hp] at hr
    obtain ⟨t', e1, e2, e3⟩ := code_of_tell hr (obs2_cons (okIlt (by simp)) obs2_nil)
    exact ⟨t', by simp only [rounds, e1], e2, by rw [List.append_nil]; exact e3⟩
  | cons k l ih =>
    intro i s t fuel hd hi hs hf ht hp
    obtain ⟨f, rfl⟩ : ∃ f, fuel = f + 1 := ⟨fuel - 1, by omega⟩
    have hk : L[i]? = some k := by
      have := congrArg List.head? hd
      simpa using this
    have hd' : L.drop (i + 1) = l := by
      have : (L.drop i).tail = l := by rw [hd]; rfl
      simpa using this
    rw [List.length_cons] at hi
    have o1 : (obI .lss (i : Nat) L.length true).ok Tryz.prog XG := okIlt (by simp; omega)
    have o2 := okIa (X := XG) b L.length i cp (by omega)
    have o3 : ∀ x, (ldX x H b i k).ok Tryz.prog XG := fun x => okLdx agg3 hg (by simp [hk])
    simp only [rowA]
    by_cases hw : kindW k = []
    · rw [if_pos hw]
      have hr := o_bad cp m b L.length i s (i : Nat) k H t
      rw [norm_zip ht hp] at hr
      obtain ⟨t', e1, e2, e3⟩ := code_of_tell hr (obs2_cons o1 (obs2_cons o2 (obs2_cons (o3 14) (obs2_cons (okSe (by simp [hw])) obs2_nil))))
      exact ⟨t', by simp only [rounds, e1], e2, e3⟩
    · rw [if_neg hw]
      have hl := kindW_len k
      have hr := o_round cp m b L.length i s (s ++ [32]) (s ++ [32] ++ kindW k) (i : Nat) ((i + 1 : Nat) : Int) k H t
      rw [norm_zip ht hp] at hr
      obtain ⟨t', e1, e2, e3⟩ := code_of_tell hr (obs2_cons o1 (obs2_cons o2 (obs2_cons (o3 14) (obs2_cons (okSe (by simp [hw])) (obs2_cons (okCat (by simp; omega)) (obs2_cons o2 (obs2_cons (o3 22) (obs2_cons (okCat (by simp; omega)) (obs2_cons (okInc i (by omega)) obs2_nil)))))))))
      have := ih (i + 1) (s ++ [32] ++ kindW k) t' f hd' (by omega) (by simp; omega) (by simp at hf; omega) e2 e3
      cases hrl : rowA l with
      | none =>
        rw [hrl] at this
        obtain ⟨t2, g1, g2, g3⟩ := this
        exact ⟨t2, by simp only [rounds, e1]; exact g1, g2, g3⟩
      | some r =>
        rw [hrl] at this
        obtain ⟨t2, g1, g2, g3⟩ := this
        exact ⟨t2, by simp only [rounds, e1]; exact g1, g2, by rw [g3]; simp⟩

theorem row_yes (cp : Option Nat) (m : Nat) (l : Option (List V)) (b : Id) (H : Heap) (r : List UInt8) (i : Int) (J : List V → List V) :
    tellHeap Tryz.prog XG (m + 1) 40 [svQ l cp b] H [(40, 0, .loop 27 oKs (.exit 0) (oKs.zip (oVs (svQ l cp b) r i)) J H)] = some (.tup [.str r, .bool true], H, [.loop m [] oBody 27 oKs (oVs (svQ l cp b) [] 0) H (.exit 0) (oKs.zip (oVs (svQ l cp b) r i)) J H]) := by
  cases l <;> kernel_rfl
theorem row_no (cp : Option Nat) (m : Nat) (l : Option (List V)) (b : Id) (H : Heap) (J : List V → List V) :
    tellHeap Tryz.prog XG (m + 1) 40 [svQ l cp b] H [(40, 0, .loop 27 oKs .ret ([2, 3].zip [.str [], .bool false]) J H)] = some (.tup [.str [], .bool false], H, [.loop m [] oBody 27 oKs (oVs (svQ l cp b) [] 0) H .ret ([2, 3].zip [.str [], .bool false]) J H]) := by
  cases l <;> kernel_rfl

def ints (o : Option (List Int)) : List Int := o.getD []
def vrow (o : Option (List Int)) : Option (List V) := o.map (·.map i64)

theorem row_run (cp : Option Nat) (m : Nat) (o : Option (List Int)) (b : Id) (H : Heap) (hg : ∀ L, o = some L → ∃ ro ty, H.get b = some (.cells ro ty (L.map i64))) (hL : (ints o).length ≤ 1048576) (hm : (ints o).length < m) : callN Tryz.prog XG (m + 1) 40 [svQ (vrow o) cp b] H = some (rowR (rowA (ints o)), H) := by
  cases o with
  | none =>
    refine run_heap (row_yes cp m none b H [] 0 _) (obs2_cons (ok_loop ?_) obs2_nil)
    intro t ht hp
    obtain ⟨f, rfl⟩ : ∃ f, m = f + 1 := ⟨m - 1, by omega⟩
    have hr := o_nil (f + 1) [] 0 H t
    have hp : proj oKs t = oVs .nilslice [] 0 := hp
    rw [norm_zip ht hp] at hr
    obtain ⟨t', e1, e2, e3⟩ := code_of_tell hr (obs2_cons (okIlt (by simp)) obs2_nil)
    exact ⟨t', by simp only [rounds, e1], e2, e3⟩
  | some L =>
    obtain ⟨ro, ty, hg⟩ := hg L rfl
    obtain ⟨m, rfl⟩ : ∃ k, m = k + 1 := ⟨m - 1, by omega⟩
    have key := fun t ht hp => o_rounds cp m b L ro ty H hg hL L 0 [] t (m + 1) rfl (by simp) (by simp) hm ht hp
    have el : (vrow (some L)) = some (L.map i64) := rfl
    have es : svQ (some (L.map i64)) cp b = .slice b 0 L.length cp := by simp [svQ]
    simp only [ints, Option.getD_some]
    cases hr : rowA L with
    | none =>
      refine run_heap (row_no cp (m + 1) (vrow (some L)) b H _) (obs2_cons (ok_loop ?_) obs2_nil)
      intro t ht hp
      rw [el, es] at hp
      have := key t ht hp
      rw [hr] at this
      exact this
    | some r =>
      refine run_heap (row_yes cp (m + 1) (vrow (some L)) b H r (L.length : Nat) _) (obs2_cons (ok_loop ?_) obs2_nil)
      intro t ht hp
      rw [el, es] at hp ⊢
      have := key t ht hp
      rw [hr] at this
      exact this

end Go.AM

/-
  The document's Head, and Head: by what they answer.
-/
set_option linter.unusedVariables false
set_option linter.unusedSimpArgs false
namespace Go.AM
open Go.Proofs Go.RowKit

def intsOf : List V → Option (List Int)
  | [] => some []
  | .int .i64 k :: l => (intsOf l).map (k :: ·)
  | _ => none
theorem intsOf_map : ∀ L : List Int, intsOf (L.map i64) = some L
  | [] => rfl
  | k :: L => by simp only [List.map_cons, intsOf, intsOf_map L, Option.map_some]
theorem intsOf_eq : ∀ (r : List V) (L : List Int), intsOf r = some L → r = L.map i64
  | [], L, h => by simp only [intsOf, Option.some.injEq] at h; subst h; rfl
  | v :: r, L, h => by
    unfold intsOf at h
    split at h
    · rename_i h1; cases h1
    · rename_i k l h1
      cases h1
      simp only [Option.map_eq_some_iff] at h
      obtain ⟨L', h', rfl⟩ := h
      rw [intsOf_eq _ L' h']; rfl
    · cases h
theorem ints_flat : ∀ L : List Int, flats (L.map i64) = true
  | [] => rfl
  | k :: L => by simp only [List.map_cons, flats, flat, ints_flat L]; rfl

def rowF : List V → Option V := fun dargs => match dargs with
  | [.nilslice] => some (rowR (some []))
  | [.tup [.tup row, .int .i64 0, .int .i64 n, c, .int .i64 3]] => match intsOf row with
    | some l => if n = l.length ∧ l.length ≤ 1048576 then some (rowR (rowA l)) else none
    | none => none
  | _ => none
theorem rowR_flat (o : Option (List UInt8)) : flat (rowR o) = true := by cases o <;> rfl
theorem row_knows : ReadKnows Tryz.prog XG 40 rowF := by
  intro dargs v hv
  unfold rowF at hv
  split at hv
  · cases hv
    exact ⟨rfl, rfl, 2, _, row_run none 1 none 0 _ (fun L h => by cases h) (by simp [ints]) (by simp [ints])⟩
  · rename_i row n c
    split at hv
    · rename_i l hl
      split at hv
      · rename_i hn
        cases hv
        obtain ⟨rfl, hl2⟩ := hn
        have := intsOf_eq _ _ hl
        subst this
        refine ⟨rowR_flat _, by simp [rowsFlat, ints_flat], l.length + 2, allocs h0 [.cells true 3 (l.map i64)], ?_⟩
        have := row_run (capOf c) (l.length + 1) (some l) 0 (allocs h0 [.cells true 3 (l.map i64)]) (fun L h => by
          cases h
          exact ⟨true, 3, by rw [allocs_get]; simp⟩) (by simpa [ints] using hl2) (by simp [ints])
        simpa [und, svQ, vrow, ints] using this
      · cases hv
    · cases hv
  · cases hv

def XH : Ext := orExt (knownExt [⟨40, rowF⟩]) XG
theorem XH_ok : ExtOk Tryz.prog XH := orExt_ok (knownExt_ok mixed (by
  intro x hx
  rw [List.mem_singleton] at hx
  subst hx
  exact ⟨XG, XG_ok, XG_mono, row_knows⟩)) XG_ok
theorem XH_mono : ExtMono XH := orExt_mono (knownExt_mono _) XG_mono

theorem okRow {o : Option (List Int)} {cp : Option Nat} {b : Id} {H : Heap} (hg : ∀ L, o = some L → ∃ ro, H.get b = some (.cells ro 3 (L.map i64))) (hL : (ints o).length ≤ 1048576) : (Ob2.cax 40 [svQ (vrow o) cp b] H (rowR (rowA (ints o))) H).ok Tryz.prog XH := by
  refine ⟨readExt rowF, rfl, ?_⟩
  cases o with
  | none => rfl
  | some L =>
    obtain ⟨ro, hg⟩ := hg L rfl
    have e : digs H [svQ (vrow (some L)) cp b] = some [.tup [.tup (L.map i64), .int .i64 0, .int .i64 L.length, capV cp, .int .i64 3]] := by
      simp [digs, dig, svQ, vrow, hg]
    unfold readExt
    rw [e]
    simp only [rowF, intsOf_map]
    rw [if_pos (by simpa [ints] using hL)]; rfl

/-! ### The document's Head -/

abbrev Cps := Option Nat × Option Nat × Option Nat × Option (Nat × Option Nat)
abbrev hArg (l1 l2 l3 : Option (List V)) (o4 : Cps) : V := .agg [svQ l1 o4.1 0, svQ l2 o4.2.1 1, svQ l3 o4.2.2.1 2, sv4 o4.2.2.2 3]
abbrev oRow (l : Option (List V)) (cp : Option Nat) (b : Id) (H : Heap) (r : List UInt8) (k : Bool) : Ob2 := .cax 40 [svQ l cp b] H (.tup [.str r, .bool k]) H
abbrev cat (a b c : List UInt8) : Ob2 := .bin .add 9 (.str a) (.str b) (.str c)
abbrev tc (d : Tmp) (r : List UInt8) (k : Bool) (H : Heap) : FuncId × Tmp × Tell := (17, d, .cax (.tup [.str r, .bool k]) H)
def sFunc : List UInt8 := [102, 117, 110, 99]
def sArrow : List UInt8 := [32, 45, 62]
def sSemi : List UInt8 := [32, 59]

set_option maxHeartbeats 2000000 in
theorem h17_yes (m : Nat) (l1 l2 l3 : Option (List V)) (o4 : Cps) (H : Heap) (r1 r2 r3 a b c d e : List UInt8) :
    tellFrom Tryz.prog XH (m + 3) 17 [hArg l1 l2 l3 o4] H [tc 12 r1 true H, tc 18 r2 true H, tc 24 r3 true H, tp 17 38 (.str a), tp 17 39 (.str b), tp 17 41 (.str c), tp 17 42 (.str d), tp 17 44 (.str e)] =
      some (.str e, [oRow l1 o4.1 0 H r1 true, oRow l2 o4.2.1 1 H r2 true, oRow l3 o4.2.2.1 2 H r3 true, cat sFunc r1 a, cat a sArrow b, cat b r2 c, cat c sSemi d, cat d r3 e]) := by
  cases l1 <;> cases l2 <;> cases l3 <;> rcases o4 with ⟨c1, c2, c3, _ | ⟨k, cp⟩⟩ <;> kernel_rfl
set_option maxHeartbeats 2000000 in
theorem h17_no (m : Nat) (l1 l2 l3 : Option (List V)) (o4 : Cps) (H : Heap) (r1 r2 r3 : List UInt8) (k1 k2 k3 : Bool) (hk : (k1 && k2 && k3) = false) :
    tellFrom Tryz.prog XH (m + 3) 17 [hArg l1 l2 l3 o4] H [tc 12 r1 k1 H, tc 18 r2 k2 H, tc 24 r3 k3 H] =
      some (.str [], [oRow l1 o4.1 0 H r1 k1, oRow l2 o4.2.1 1 H r2 k2, oRow l3 o4.2.2.1 2 H r3 k3]) := by
  revert hk
  cases k1 <;> cases k2 <;> cases k3 <;> intro hk <;> first
    | (cases hk; done)
    | (cases l1 <;> cases l2 <;> cases l3 <;> rcases o4 with ⟨c1, c2, c3, _ | ⟨k, cp⟩⟩ <;> kernel_rfl)

def headR (a b c : List Int) : List UInt8 := match rowA a, rowA b, rowA c with
  | some x, some y, some z => sFunc ++ x ++ sArrow ++ y ++ sSemi ++ z
  | _, _, _ => []

theorem head17 (m : Nat) (o1 o2 o3 : Option (List Int)) (o4 : Cps) (H : Heap) (hg1 : ∀ L, o1 = some L → ∃ ro, H.get 0 = some (.cells ro 3 (L.map i64))) (hg2 : ∀ L, o2 = some L → ∃ ro, H.get 1 = some (.cells ro 3 (L.map i64))) (hg3 : ∀ L, o3 = some L → ∃ ro, H.get 2 = some (.cells ro 3 (L.map i64)))
    (h1 : (ints o1).length ≤ 1048576) (h2 : (ints o2).length ≤ 1048576) (h3 : (ints o3).length ≤ 1048576) :
    ∃ H', callN Tryz.prog XH (m + 3) 17 [hArg (vrow o1) (vrow o2) (vrow o3) o4] H = some (.str (headR (ints o1) (ints o2) (ints o3)), H') := by
  have p1 := okRow (cp := o4.1) hg1 h1
  have p2 := okRow (cp := o4.2.1) hg2 h2
  have p3 := okRow (cp := o4.2.2.1) hg3 h3
  unfold headR
  cases e1 : rowA (ints o1) with
  | none =>
    rw [e1] at p1
    cases e2 : rowA (ints o2) with
    | none =>
      rw [e2] at p2
      cases e3 : rowA (ints o3) with
      | none => rw [e3] at p3; exact run_of_from (h17_no m _ _ _ o4 H _ _ _ false false false rfl) (obs2_cons p1 (obs2_cons p2 (obs2_cons p3 obs2_nil)))
      | some z => rw [e3] at p3; exact run_of_from (h17_no m _ _ _ o4 H _ _ _ false false true rfl) (obs2_cons p1 (obs2_cons p2 (obs2_cons p3 obs2_nil)))
    | some y =>
      rw [e2] at p2
      cases e3 : rowA (ints o3) with
      | none => rw [e3] at p3; exact run_of_from (h17_no m _ _ _ o4 H _ _ _ false true false rfl) (obs2_cons p1 (obs2_cons p2 (obs2_cons p3 obs2_nil)))
      | some z => rw [e3] at p3; exact run_of_from (h17_no m _ _ _ o4 H _ _ _ false true true rfl) (obs2_cons p1 (obs2_cons p2 (obs2_cons p3 obs2_nil)))
  | some x =>
    rw [e1] at p1
    cases e2 : rowA (ints o2) with
    | none =>
      rw [e2] at p2
      cases e3 : rowA (ints o3) with
      | none => rw [e3] at p3; exact run_of_from (h17_no m _ _ _ o4 H _ _ _ true false false rfl) (obs2_cons p1 (obs2_cons p2 (obs2_cons p3 obs2_nil)))
      | some z => rw [e3] at p3; exact run_of_from (h17_no m _ _ _ o4 H _ _ _ true false true rfl) (obs2_cons p1 (obs2_cons p2 (obs2_cons p3 obs2_nil)))
    | some y =>
      rw [e2] at p2
      cases e3 : rowA (ints o3) with
      | none => rw [e3] at p3; exact run_of_from (h17_no m _ _ _ o4 H _ _ _ true true false rfl) (obs2_cons p1 (obs2_cons p2 (obs2_cons p3 obs2_nil)))
      | some z =>
        rw [e3] at p3
        have b1 := rowA_len _ _ e1
        have b2 := rowA_len _ _ e2
        have b3 := rowA_len _ _ e3
        exact run_of_from (h17_yes m _ _ _ o4 H x y z (sFunc ++ x) (sFunc ++ x ++ sArrow) (sFunc ++ x ++ sArrow ++ y) (sFunc ++ x ++ sArrow ++ y ++ sSemi) _) (obs2_cons p1 (obs2_cons p2 (obs2_cons p3 (obs2_cons (okCat (by simp [sFunc]; omega)) (obs2_cons (okCat (by simp [sFunc, sArrow]; omega)) (obs2_cons (okCat (by simp [sFunc, sArrow]; omega)) (obs2_cons (okCat (by simp [sFunc, sArrow, sSemi]; omega)) (obs2_cons (okCat (by simp [sFunc, sArrow, sSemi]; omega)) obs2_nil))))))))

end Go.AM
