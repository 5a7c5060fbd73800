/-
  The document's Head: run.
-/
import Derived.Test.YtmokkkbbbmcjnaaGreatDoorAsH2
import Derived.Test.YtmokkkbbbmcjnaaGreatDoorAsX
set_option linter.unusedVariables false
set_option linter.unusedSimpArgs false
namespace Go.AM
open Go.Proofs Go.RowKit

def kI : List UInt8 := [105, 110, 116]
def kB : List UInt8 := [98, 121, 116, 101, 115]
def kO : List UInt8 := [98, 111, 111, 108]
def kindW (k : Int) : List UInt8 := if k = 1 then kI else if k = 2 then kB else if k = 3 then kO else []
def kindF : FlatF := (58, fun args => match args with | [.int .i64 k] => some (.str (kindW k)) | _ => none)

theorem k58 (k : Int) (a b c : Bool) : tellFrom Tryz.prog XF 60 58 [i64 k] h0 ([tv 58 5 a] ++ if a then [] else [tv 58 7 b] ++ if b then [] else [tv 58 9 c]) =
  some (.str (if a then kI else if b then kB else if c then kO else []), [obI .eql k 1 a] ++ if a then [] else [obI .eql k 2 b] ++ if b then [] else [obI .eql k 3 c]) := by
  cases a <;> cases b <;> cases c <;> kernel_rfl

theorem kind_run (k : Int) : ∃ h', callN Tryz.prog XF 60 58 [i64 k] h0 = some (.str (kindW k), h') := by
  have o1 : (obI .eql k 1 (k == 1)).ok Tryz.prog XF := okIeq rfl
  have o2 : (obI .eql k 2 (k == 2)).ok Tryz.prog XF := okIeq rfl
  have o3 : (obI .eql k 3 (k == 3)).ok Tryz.prog XF := okIeq rfl
  have := run_of_from (k58 k (k == 1) (k == 2) (k == 3)) (by
    cases h1 : (k == 1) <;> cases h2 : (k == 2) <;> cases h3 : (k == 3) <;> rw [h1] at o1 <;> rw [h2] at o2 <;> rw [h3] at o3 <;> first
      | exact obs2_cons o1 obs2_nil
      | exact obs2_cons o1 (obs2_cons o2 obs2_nil)
      | exact obs2_cons o1 (obs2_cons o2 (obs2_cons o3 obs2_nil)))
  simpa [kindW] using this

theorem kind_knows : Knows Tryz.prog XF kindF := by
  intro args v hv
  unfold kindF at hv
  simp only at hv
  split at hv
  case h_2 => cases hv
  rename_i k
  cases hv
  exact ⟨rfl, rfl, 60, kind_run k⟩

def XG : Ext := orExt (flatExt [kindF]) XF
theorem XG_ok : ExtOk Tryz.prog XG := orExt_ok (flatExt_ok mixed (by
  intro x hx
  rw [List.mem_singleton] at hx
  subst hx
  exact ⟨XF, XF_ok, XF_mono, kind_knows⟩)) XF_ok
theorem XG_mono : ExtMono XG := orExt_mono (flatExt_mono _) XF_mono

/-! ### Promises -/

theorem okIa {X : Ext} (b n i : Nat) (c : Option Nat) (h : i < n) : (Ob2.iadr 29 b 0 n c (i64 (i : Nat)) (.ptr b i)).ok Tryz.prog X := by
  intro ts x
  have hu : Tryz.prog.underlying 29 = some (.slice 3) := Tryz.underlying29
  have hs : szOf Tryz.prog 3 = some 1 := by kernel_rfl
  unfold indexAddrV
  simp only [hu, hs]
  rw [if_pos (by omega)]
  simp
theorem okIb {X : Ext} (b n i : Nat) (c : Option Nat) (h : i < n) : (Ob2.iadr 37 b 0 n c (i64 (i : Nat)) (.ptr b i)).ok Tryz.prog X := by
  intro ts x
  have hu : Tryz.prog.underlying 37 = some (.slice 9) := Tryz.underlying37
  have hs : szOf Tryz.prog 9 = some 1 := by kernel_rfl
  unfold indexAddrV
  simp only [hu, hs]
  rw [if_pos (by omega)]
  simp
theorem agg3 : isAggT Tryz.prog 3 = some false := by kernel_rfl
theorem agg29 : isAggT Tryz.prog 29 = some false := by kernel_rfl
theorem okLdx {X : Ext} {ty : TypeId} (ha : isAggT Tryz.prog ty = some false) {H : Heap} {x : Operand} {b i : Nat} {ro : Bool} {ty' : TypeId} {row : List V} {v : V} (hg : H.get b = some (.cells ro ty' row)) (hi : row[i]? = some v) : (Ob2.ldx ty H x (.ptr b i) v).ok Tryz.prog X := by
  intro t
  unfold loadV rowAt
  simp only [Heap.row, hg, Option.map_some, ha]
  exact hi
theorem okCatS {a b c : List UInt8} {X : Ext} (h : a.length + b.length ≤ 140737488351232) (hc : a ++ b = c) : (Ob2.bin .add 9 (.str a) (.str b) (.str c)).ok Tryz.prog X := by
  subst hc
  exact okCat h

/-! ### row -/

noncomputable abbrev oBody : Code := Code.go (bodyOf Tryz.prog 40) [1, 1, 0, 1, 0, 0]
abbrev oKs : List Nat := [0, 4, 5]
abbrev oVs (a : V) (s : List UInt8) (i : Int) : List V := [a, .str s, i64 i]
abbrev ldX (x : Nat) (H : Heap) (b i : Nat) (k : Int) : Ob2 := .ldx 3 H (.tmp x) (.ptr b i) (i64 k)
abbrev iaX (b n : Nat) (cp : Option Nat) (i : Int) (p : Nat) : Ob2 := .iadr 29 b 0 n cp (i64 i) (.ptr b p)

theorem o_round (cp : Option Nat) (m b n p : Nat) (s s1 s2 : List UInt8) (i j k : Int) (H : Heap) (t : List V) :
    tellCode Tryz.prog XG (m + 1) 40 [] (m + 1) oBody ⟨normL 27 (oKs.zip (oVs (.slice b 0 n cp) s i)) t, H⟩ [tv 40 9 true, tp 40 14 (.ptr b p), (40, 15, .ldx (i64 k)), tv 40 17 false, tp 40 19 (.str s1), tp 40 22 (.ptr b p), (40, 23, .ldx (i64 k)), tp 40 25 (.str s2), tp 40 11 (i64 j)] oKs =
      some (.normal, 27, oVs (.slice b 0 n cp) s2 j, H, [obI .lss i n true, iaX b n cp i p, ldX 14 H b p k, obS .eql (kindW k) [] false, .bin .add 9 (.str s) (.str [32]) (.str s1), iaX b n cp i p, ldX 22 H b p k, .bin .add 9 (.str s1) (.str (kindW k)) (.str s2), addO i j]) := by kernel_rfl
theorem o_bad (cp : Option Nat) (m b n p : Nat) (s : List UInt8) (i k : Int) (H : Heap) (t : List V) :
    tellCode Tryz.prog XG (m + 1) 40 [] (m + 1) oBody ⟨normL 27 (oKs.zip (oVs (.slice b 0 n cp) s i)) t, H⟩ [tv 40 9 true, tp 40 14 (.ptr b p), (40, 15, .ldx (i64 k)), tv 40 17 true] [2, 3] =
      some (.ret, 27, [.str [], .bool false], H, [obI .lss i n true, iaX b n cp i p, ldX 14 H b p k, obS .eql (kindW k) [] true]) := by kernel_rfl
theorem o_exit (cp : Option Nat) (m b n : Nat) (s : List UInt8) (i : Int) (H : Heap) (t : List V) :
    tellCode Tryz.prog XG m 40 [] m oBody ⟨normL 27 (oKs.zip (oVs (.slice b 0 n cp) s i)) t, H⟩ [tv 40 9 false] oKs = some (.exit 0, 27, oVs (.slice b 0 n cp) s i, H, [obI .lss i n false]) := by kernel_rfl
theorem o_nil (m : Nat) (s : List UInt8) (i : Int) (H : Heap) (t : List V) :
    tellCode Tryz.prog XG m 40 [] m oBody ⟨normL 27 (oKs.zip (oVs .nilslice s i)) t, H⟩ [tv 40 9 false] oKs = some (.exit 0, 27, oVs .nilslice s i, H, [obI .lss i 0 false]) := by kernel_rfl

def rowA : List Int → Option (List UInt8)
  | [] => some []
  | k :: l => if kindW k = [] then none else (rowA l).map fun r => 32 :: kindW k ++ r
def rowR : Option (List UInt8) → V
  | some r => .tup [.str r, .bool true]
  | none => .tup [.str [], .bool false]

theorem kindW_len (k : Int) : (kindW k).length ≤ 5 := by
  unfold kindW
  split
  · decide
  · split
    · decide
    · split <;> decide
theorem rowA_len : ∀ (l : List Int) (r : List UInt8), rowA l = some r → r.length ≤ 6 * l.length
  | [], r, h => by simp only [rowA, Option.some.injEq] at h; subst h; simp
  | k :: l, r, h => by
    simp only [rowA] at h
    split at h
    · cases h
    · simp only [Option.map_eq_some_iff] at h
      obtain ⟨r', h', rfl⟩ := h
      have := rowA_len l r' h'
      have := kindW_len k
      simp only [List.cons_append, List.length_cons, List.length_append]
      omega

theorem o_rounds (cp : Option Nat) (m b : Nat) (L : List Int) (ro : Bool) (ty : TypeId) (H : Heap) (hg : H.get b = some (.cells ro ty (L.map i64))) (hL : L.length ≤ 1048576) : ∀ (l : List Int) (i : Nat) (s : List UInt8) (t : List V) (fuel : Nat), L.drop i = l → i + l.length = L.length → s.length ≤ 6 * i → l.length < fuel → t.length = 27 → proj oKs t = oVs (.slice b 0 L.length cp) s i →
    match rowA l with
    | some r => ∃ t', rounds (exec Tryz.prog (callN Tryz.prog XG (m + 1)) [] (m + 1) oBody) fuel ⟨t, H⟩ = some (.exit 0, ⟨t', H⟩) ∧ t'.length = 27 ∧ proj oKs t' = oVs (.slice b 0 L.length cp) (s ++ r) L.length
    | none => ∃ t', rounds (exec Tryz.prog (callN Tryz.prog XG (m + 1)) [] (m + 1) oBody) fuel ⟨t, H⟩ = some (.ret, ⟨t', H⟩) ∧ t'.length = 27 ∧ proj [2, 3] t' = [.str [], .bool false] := by
  intro l
  induction l with
  | nil =>
    intro i s t fuel hd hi hs hf ht hp
    obtain ⟨f, rfl⟩ : ∃ f, fuel = f + 1 := ⟨fuel - 1, by omega⟩
    simp at hi
    subst hi
    have hr := o_exit cp (m + 1) b L.length s (L.length : Nat) H t
    rw [norm_zip ht hp] at hr
    obtain ⟨t', e1, e2, e3⟩ := code_of_tell hr (obs2_cons (okIlt (by simp)) obs2_nil)
    exact ⟨t', by simp only [rounds, e1], e2, by rw [List.append_nil]; exact e3⟩
  | cons k l ih =>
    intro i s t fuel hd hi hs hf ht hp
    obtain ⟨f, rfl⟩ : ∃ f, fuel = f + 1 := ⟨fuel - 1, by omega⟩
    have hk : L[i]? = some k := by
      have := congrArg List.head? hd
      simpa using this
    have hd' : L.drop (i + 1) = l := by
      have : (L.drop i).tail = l := by rw [hd]; rfl
      simpa using this
    rw [List.length_cons] at hi
    have o1 : (obI .lss (i : Nat) L.length true).ok Tryz.prog XG := okIlt (by simp; omega)
    have o2 := okIa (X := XG) b L.length i cp (by omega)
    have o3 : ∀ x, (ldX x H b i k).ok Tryz.prog XG := fun x => okLdx agg3 hg (by simp [hk])
    simp only [rowA]
    by_cases hw : kindW k = []
    · rw [if_pos hw]
      have hr := o_bad cp m b L.length i s (i : Nat) k H t
      rw [norm_zip ht hp] at hr
      obtain ⟨t', e1, e2, e3⟩ := code_of_tell hr (obs2_cons o1 (obs2_cons o2 (obs2_cons (o3 14) (obs2_cons (okSe (by simp [hw])) obs2_nil))))
      exact ⟨t', by simp only [rounds, e1], e2, e3⟩
    · rw [if_neg hw]
      have hl := kindW_len k
      have hr := o_round cp m b L.length i s (s ++ [32]) (s ++ [32] ++ kindW k) (i : Nat) ((i + 1 : Nat) : Int) k H t
      rw [norm_zip ht hp] at hr
      obtain ⟨t', e1, e2, e3⟩ := code_of_tell hr (obs2_cons o1 (obs2_cons o2 (obs2_cons (o3 14) (obs2_cons (okSe (by simp [hw])) (obs2_cons (okCat (by simp; omega)) (obs2_cons o2 (obs2_cons (o3 22) (obs2_cons (okCat (by simp; omega)) (obs2_cons (okInc i (by omega)) obs2_nil)))))))))
      have := ih (i + 1) (s ++ [32] ++ kindW k) t' f hd' (by omega) (by simp; omega) (by simp at hf; omega) e2 e3
      cases hrl : rowA l with
      | none =>
        rw [hrl] at this
        obtain ⟨t2, g1, g2, g3⟩ := this
        exact ⟨t2, by simp only [rounds, e1]; exact g1, g2, g3⟩
      | some r =>
        rw [hrl] at this
        obtain ⟨t2, g1, g2, g3⟩ := this
        exact ⟨t2, by simp only [rounds, e1]; exact g1, g2, by rw [g3]; simp⟩

theorem row_yes (cp : Option Nat) (m : Nat) (l : Option (List V)) (b : Id) (H : Heap) (r : List UInt8) (i : Int) (J : List V → List V) :
    tellHeap Tryz.prog XG (m + 1) 40 [svQ l cp b] H [(40, 0, .loop 27 oKs (.exit 0) (oKs.zip (oVs (svQ l cp b) r i)) J H)] = some (.tup [.str r, .bool true], H, [.loop m [] oBody 27 oKs (oVs (svQ l cp b) [] 0) H (.exit 0) (oKs.zip (oVs (svQ l cp b) r i)) J H]) := by
  cases l <;> kernel_rfl
theorem row_no (cp : Option Nat) (m : Nat) (l : Option (List V)) (b : Id) (H : Heap) (J : List V → List V) :
    tellHeap Tryz.prog XG (m + 1) 40 [svQ l cp b] H [(40, 0, .loop 27 oKs .ret ([2, 3].zip [.str [], .bool false]) J H)] = some (.tup [.str [], .bool false], H, [.loop m [] oBody 27 oKs (oVs (svQ l cp b) [] 0) H .ret ([2, 3].zip [.str [], .bool false]) J H]) := by
  cases l <;> kernel_rfl

def ints (o : Option (List Int)) : List Int := o.getD []
def vrow (o : Option (List Int)) : Option (List V) := o.map (·.map i64)

theorem row_run (cp : Option Nat) (m : Nat) (o : Option (List Int)) (b : Id) (H : Heap) (hg : ∀ L, o = some L → ∃ ro ty, H.get b = some (.cells ro ty (L.map i64))) (hL : (ints o).length ≤ 1048576) (hm : (ints o).length < m) : callN Tryz.prog XG (m + 1) 40 [svQ (vrow o) cp b] H = some (rowR (rowA (ints o)), H) := by
  cases o with
  | none =>
    refine run_heap (row_yes cp m none b H [] 0 _) (obs2_cons (ok_loop ?_) obs2_nil)
    intro t ht hp
    obtain ⟨f, rfl⟩ : ∃ f, m = f + 1 := ⟨m - 1, by omega⟩
    have hr := o_nil (f + 1) [] 0 H t
    have hp : proj oKs t = oVs .nilslice [] 0 := hp
    rw [norm_zip ht hp] at hr
    obtain ⟨t', e1, e2, e3⟩ := code_of_tell hr (obs2_cons (okIlt (by simp)) obs2_nil)
    exact ⟨t', by simp only [rounds, e1], e2, e3⟩
  | some L =>
    obtain ⟨ro, ty, hg⟩ := hg L rfl
    obtain ⟨m, rfl⟩ : ∃ k, m = k + 1 := ⟨m - 1, by omega⟩
    have key := fun t ht hp => o_rounds cp m b L ro ty H hg hL L 0 [] t (m + 1) rfl (by simp) (by simp) hm ht hp
    have el : (vrow (some L)) = some (L.map i64) := rfl
    have es : svQ (some (L.map i64)) cp b = .slice b 0 L.length cp := by simp [svQ]
    simp only [ints, Option.getD_some]
    cases hr : rowA L with
    | none =>
      refine run_heap (row_no cp (m + 1) (vrow (some L)) b H _) (obs2_cons (ok_loop ?_) obs2_nil)
      intro t ht hp
      rw [el, es] at hp
      have := key t ht hp
      rw [hr] at this
      exact this
    | some r =>
      refine run_heap (row_yes cp (m + 1) (vrow (some L)) b H r (L.length : Nat) _) (obs2_cons (ok_loop ?_) obs2_nil)
      intro t ht hp
      rw [el, es] at hp ⊢
      have := key t ht hp
      rw [hr] at this
      exact this

end Go.AM
