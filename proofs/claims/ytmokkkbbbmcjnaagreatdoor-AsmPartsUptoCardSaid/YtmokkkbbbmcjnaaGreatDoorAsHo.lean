/-
  The law of heads: the run.
-/
import Derived.Test.YtmokkkbbbmcjnaaGreatDoorAsH14
import Derived.Deep.Slices
import Derived.Lib.SmallJoins
import Derived.OpenShut
import Derived.Test.YtmokkkbbbmcjnaaGreatDoorRows
set_option linter.unusedVariables false
set_option linter.unusedSimpArgs false
namespace Go.AM
open Go.Proofs Go.RowKit

abbrev tcx (d : Tmp) (v : V) (H : Heap) : FuncId × Tmp × Tell := (4, d, .cax v H)
abbrev outH (H : Heap) (p1 p2 p3 : Option (List V)) : Heap := allocs H [obO p1, obO p2, obO p3]
abbrev recA (p1 p2 p3 : Option (List V)) (b : Nat) : List V := [svO p1 b, svO p2 (b + 1), svO p3 (b + 2), .nilslice]
def hA (l1 l2 l3 p1 p2 p3 q1 q2 q3 : Option (List V)) : Heap := outH (outH (rdH l1 l2 l3) p1 p2 p3) q1 q2 q3
def hB (l1 l2 l3 p1 p2 p3 : Option (List V)) : Heap := ((hA l1 l2 l3 p1 p2 p3 p1 p2 p3).alloc (.cells false 32 (recA p1 p2 p3 4))).alloc (.cells false 32 (recA p1 p2 p3 7))
abbrev t38 (d : Tmp) (H : Heap) : FuncId × Tmp × Tell := (15, d, .cax (.bool true) H)
abbrev o38 (p : Option (List V)) (a b : Nat) (H : Heap) : Ob2 := .cax 38 [svO p a, svO p b] H (.bool true) H
abbrev oHd (f : FuncId) (l1 l2 l3 : Option (List V)) (o4 : Cps) (d : List UInt8) (H : Heap) : Ob2 := .cax f [hArg l1 l2 l3 o4] H (.str d) H

theorem hA_4 (l1 l2 l3 p1 p2 p3 q1 q2 q3 : Option (List V)) : (hA l1 l2 l3 p1 p2 p3 q1 q2 q3).get 4 = some (obO p1) := by kernel_rfl
theorem hA_5 (l1 l2 l3 p1 p2 p3 q1 q2 q3 : Option (List V)) : (hA l1 l2 l3 p1 p2 p3 q1 q2 q3).get 5 = some (obO p2) := by kernel_rfl
theorem hA_6 (l1 l2 l3 p1 p2 p3 q1 q2 q3 : Option (List V)) : (hA l1 l2 l3 p1 p2 p3 q1 q2 q3).get 6 = some (obO p3) := by kernel_rfl
theorem hA_7 (l1 l2 l3 p1 p2 p3 q1 q2 q3 : Option (List V)) : (hA l1 l2 l3 p1 p2 p3 q1 q2 q3).get 7 = some (obO q1) := by kernel_rfl
theorem hA_8 (l1 l2 l3 p1 p2 p3 q1 q2 q3 : Option (List V)) : (hA l1 l2 l3 p1 p2 p3 q1 q2 q3).get 8 = some (obO q2) := by kernel_rfl
theorem hA_9 (l1 l2 l3 p1 p2 p3 q1 q2 q3 : Option (List V)) : (hA l1 l2 l3 p1 p2 p3 q1 q2 q3).get 9 = some (obO q3) := by kernel_rfl
theorem h4_no (l1 l2 l3 p1 p2 p3 q1 q2 q3 : Option (List V)) (o4 : Cps) (s d : List UInt8) : tellFrom Tryz.prog XE 60 4 [hArg l1 l2 l3 o4, .str s] (rdH l1 l2 l3)
    [tcx 11 (recV p1 p2 p3 4 5 6 false) (outH (rdH l1 l2 l3) p1 p2 p3), tcx 16 (recV q1 q2 q3 7 8 9 false) (hA l1 l2 l3 p1 p2 p3 q1 q2 q3),
     tcx 36 (.str d) (up (LOk 1 (hA l1 l2 l3 p1 p2 p3 q1 q2 q3))), tcx 38 (.str d) (up (LOk 3 (hA l1 l2 l3 p1 p2 p3 q1 q2 q3))), tv 4 39 true] =
  some (.bool true, [.cax 13 [.str s] (rdH l1 l2 l3) (recV p1 p2 p3 4 5 6 false) (outH (rdH l1 l2 l3) p1 p2 p3), .cax 14 [.str s] (outH (rdH l1 l2 l3) p1 p2 p3) (recV q1 q2 q3 7 8 9 false) (hA l1 l2 l3 p1 p2 p3 q1 q2 q3),
    oHd 16 l1 l2 l3 o4 d (up (LOk 1 (hA l1 l2 l3 p1 p2 p3 q1 q2 q3))), oHd 17 l1 l2 l3 o4 d (up (LOk 3 (hA l1 l2 l3 p1 p2 p3 q1 q2 q3))), obS .eql d d true]) := by kernel_rfl

theorem h4_yes (l1 l2 l3 p1 p2 p3 : Option (List V)) (o4 : Cps) (s d : List UInt8) : tellFrom Tryz.prog XE 60 4 [hArg l1 l2 l3 o4, .str s] (rdH l1 l2 l3)
    [tcx 11 (recV p1 p2 p3 4 5 6 true) (outH (rdH l1 l2 l3) p1 p2 p3), tcx 16 (recV p1 p2 p3 7 8 9 true) (hA l1 l2 l3 p1 p2 p3 p1 p2 p3),
     t38 65 (hB l1 l2 l3 p1 p2 p3), t38 72 (hB l1 l2 l3 p1 p2 p3), t38 80 (hB l1 l2 l3 p1 p2 p3),
     tcx 36 (.str d) (up (LOk 1 (hB l1 l2 l3 p1 p2 p3))), tcx 38 (.str d) (up (LOk 3 (hB l1 l2 l3 p1 p2 p3))), tv 4 39 true] =
  some (.bool true, [.cax 13 [.str s] (rdH l1 l2 l3) (recV p1 p2 p3 4 5 6 true) (outH (rdH l1 l2 l3) p1 p2 p3), .cax 14 [.str s] (outH (rdH l1 l2 l3) p1 p2 p3) (recV p1 p2 p3 7 8 9 true) (hA l1 l2 l3 p1 p2 p3 p1 p2 p3),
    o38 p1 4 7 (hB l1 l2 l3 p1 p2 p3), o38 p2 5 8 (hB l1 l2 l3 p1 p2 p3), o38 p3 6 9 (hB l1 l2 l3 p1 p2 p3),
    oHd 16 l1 l2 l3 o4 d (up (LOk 1 (hB l1 l2 l3 p1 p2 p3))), oHd 17 l1 l2 l3 o4 d (up (LOk 3 (hB l1 l2 l3 p1 p2 p3))), obS .eql d d true]) := by
  cases p1 <;> cases p2 <;> cases p3 <;> kernel_rfl

/-! ### Promises -/

theorem okHd {f : FuncId} {r : List Int → List Int → List Int → List UInt8} (hX : XE f = some (hdG r)) {o1 o2 o3 : Option (List Int)} {o4 : Cps} {H : Heap} (hg : ∀ b, b < 4 → H.get b = (rdH (vrow o1) (vrow o2) (vrow o3)).get b)
    (h1 : (ints o1).length ≤ 1048576) (h2 : (ints o2).length ≤ 1048576) (h3 : (ints o3).length ≤ 1048576) : (oHd f (vrow o1) (vrow o2) (vrow o3) o4 (r (ints o1) (ints o2) (ints o3)) H).ok Tryz.prog XE := by
  refine ⟨_, hX, ?_⟩
  have key : ∀ (o : Option (List Int)) (cp : Option Nat) (b : Id), (∀ L, o = some L → ∃ ro, H.get b = some (.cells ro 3 (L.map i64))) → (ints o).length ≤ 1048576 → digI H (svQ (vrow o) cp b) = some o := by
    intro o cp b hg hl
    cases o with
    | none => rfl
    | some L =>
      obtain ⟨ro, hg⟩ := hg L rfl
      have : ints (some L) = L := rfl
      rw [this] at hl
      simp [digI, svQ, vrow, hg, intsOf_map, hl]
  have d1 := key o1 o4.1 0 (fun L hL => by rw [hg 0 (by decide)]; exact rd_get0 L hL) h1
  have d2 := key o2 o4.2.1 1 (fun L hL => by rw [hg 1 (by decide)]; exact rd_get1 L hL) h2
  have d3 := key o3 o4.2.2.1 2 (fun L hL => by rw [hg 2 (by decide)]; exact rd_get2 L hL) h3
  have d4 : ∃ o, okD (sv4 o4.2.2.2 3) = some o := by rcases o4 with ⟨c1, c2, c3, _ | ⟨k, cp⟩⟩ <;> exact ⟨_, rfl⟩
  obtain ⟨o, d4⟩ := d4
  simp only [hdG, d1, d2, d3, d4]

theorem okRd {f : FuncId} {out : List (List UInt8) → Out3} (hX : XE f = some (headE out)) {s : List UInt8} (hs : s.length ≤ 2097152) {H : Heap} {n : Nat} (hn : H.next = n) {ok : Bool} {p1 p2 p3 : List Int} (ho : out (wordsG s []) = (ok, p1, p2, p3)) :
    (Ob2.cax f [.str s] H (recV (lv p1) (lv p2) (lv p3) n (n + 1) (n + 2) ok) (outH H (lv p1) (lv p2) (lv p3))).ok Tryz.prog XE := by
  subst hn
  refine ⟨_, hX, ?_⟩
  show (if s.length ≤ 2097152 then _ else none) = _
  rw [if_pos hs, ho]

theorem ok38 {l : List Int} {a b : Nat} {H : Heap} (ha : l ≠ [] → H.get a = some (.cells false 3 (l.map i64))) (hb : l ≠ [] → H.get b = some (.cells false 3 (l.map i64))) (hl : l.length ≤ 1048576) : (o38 (lv l) a b H).ok Tryz.prog XE := by
  refine ⟨readExt sameF, rfl, ?_⟩
  unfold lv
  by_cases h : l = []
  · rw [if_pos h]; rfl
  · rw [if_neg h]
    have e : digs H [svO (some (l.map i64)) a, svO (some (l.map i64)) b] = some [.tup [.tup (l.map i64), .int .i64 0, .int .i64 l.length, .nilptr, .int .i64 3], .tup [.tup (l.map i64), .int .i64 0, .int .i64 l.length, .nilptr, .int .i64 3]] := by
      simp [digs, dig, svO, ha h, hb h, capV]
    unfold readExt
    rw [e]
    simp [sameF, intsOf_map, hl]

/-! ### The run -/

theorem rdW_len : ∀ (l : List (List UInt8)) (c n : Nat) (ls : Nat → List Int) (c' : Nat) (ls' : Nat → List Int), (∀ j, (ls j).length ≤ n) → rdW l c ls = some (c', ls') → ∀ j, (ls' j).length ≤ n + l.length
  | [], c, n, ls, c', ls', h, e => by
    simp only [rdW, Option.some.injEq, Prod.mk.injEq] at e
    obtain ⟨_, rfl⟩ := e
    exact h
  | x :: l, c, n, ls, c', ls', h, e => by
    simp only [rdW] at e
    intro j
    rw [List.length_cons]
    split at e
    · have := rdW_len l _ n ls c' ls' h e j
      omega
    · split at e
      · cases e
      · have := rdW_len l _ (n + 1) _ c' ls' (len_addC h) e j
        omega
theorem out13_len (s : List UInt8) (hs : s.length ≤ 1048576) : (out13 (wordsG s [])).2.1.length ≤ 1048576 ∧ (out13 (wordsG s [])).2.2.1.length ≤ 1048576 ∧ (out13 (wordsG s [])).2.2.2.length ≤ 1048576 := by
  have hc := wordsG_count s []
  unfold out13
  cases hw : wordsG s [] with
  | nil => simp
  | cons x r =>
    rw [hw] at hc
    simp only [List.length_cons] at hc
    simp only
    split
    · simp
    · cases hr : rdW r 0 (fun _ => []) with
      | none => simp
      | some cl =>
        obtain ⟨c, ls⟩ := cl
        have := rdW_len r 0 0 _ c ls (fun j => by simp) hr
        have h0 := this 0
        have h1 := this 1
        have h2 := this 2
        simp only
        omega

theorem get_lvO {l : List Int} {h : l ≠ []} : obO (lv l) = .cells false 3 (l.map i64) := by simp [lv, h, obO]

theorem heads_run (o1 o2 o3 : Option (List Int)) (o4 : Cps) (s : List UInt8) (h1 : (ints o1).length ≤ 1048576) (h2 : (ints o2).length ≤ 1048576) (h3 : (ints o3).length ≤ 1048576) (hs : s.length ≤ 1048576) :
    ∃ h', callN Tryz.prog XE 60 4 [hArg (vrow o1) (vrow o2) (vrow o3) o4, .str s] (rdH (vrow o1) (vrow o2) (vrow o3)) = some (.bool true, h') := by
  have hs' : s.length ≤ 2097152 := by omega
  have e17 : headR (ints o1) (ints o2) (ints o3) = headP (ints o1) (ints o2) (ints o3) := (head_same _ _ _).symm
  obtain ⟨n1, n2, n3⟩ := out13_len s hs
  cases ho : out13 (wordsG s []) with
  | mk ok ps =>
    obtain ⟨p1, p2, p3⟩ := ps
    rw [ho] at n1 n2 n3
    simp only at n1 n2 n3
    have q13 := okRd (f := 13) rfl hs' (H := rdH (vrow o1) (vrow o2) (vrow o3)) (n := 4) rfl ho
    have nx : (outH (rdH (vrow o1) (vrow o2) (vrow o3)) (lv p1) (lv p2) (lv p3)).next = 7 := rfl
    cases ok with
    | false =>
      cases ho2 : out14 (wordsG s []) with
      | mk ok2 qs =>
        obtain ⟨q1, q2, q3⟩ := qs
        have e := out_ok (wordsG s [])
        rw [ho, ho2] at e
        simp only at e
        subst e
        have q14 := okRd (f := 14) rfl hs' (H := outH (rdH (vrow o1) (vrow o2) (vrow o3)) (lv p1) (lv p2) (lv p3)) (n := 7) nx ho2
        have hgA : ∀ b, b < 4 → (hA (vrow o1) (vrow o2) (vrow o3) (lv p1) (lv p2) (lv p3) (lv q1) (lv q2) (lv q3)).get b = (rdH (vrow o1) (vrow o2) (vrow o3)).get b := by
          intro b hb
          have c1 : b < (outH (rdH (vrow o1) (vrow o2) (vrow o3)) (lv p1) (lv p2) (lv p3)).next := by rw [nx]; exact Nat.lt_trans hb (by decide)
          have c2 : b < (rdH (vrow o1) (vrow o2) (vrow o3)).next := hb
          unfold hA
          rw [allocs_get, if_pos c1, allocs_get, if_pos c2]
        have h16 := okHd (f := 16) rfl (o4 := o4) (H := up (LOk 1 (hA (vrow o1) (vrow o2) (vrow o3) (lv p1) (lv p2) (lv p3) (lv q1) (lv q2) (lv q3)))) (fun b hb => (LOk_get 1 _ b).trans (hgA b hb)) h1 h2 h3
        have h17 := okHd (f := 17) rfl (o4 := o4) (H := up (LOk 3 (hA (vrow o1) (vrow o2) (vrow o3) (lv p1) (lv p2) (lv p3) (lv q1) (lv q2) (lv q3)))) (fun b hb => (LOk_get 3 _ b).trans (hgA b hb)) h1 h2 h3
        rw [e17] at h17
        exact run_of_from (h4_no _ _ _ _ _ _ _ _ _ o4 s _) (obs2_cons q13 (obs2_cons q14 (obs2_cons h16 (obs2_cons h17 (obs2_cons (okSe (by simp)) obs2_nil)))))
    | true =>
      have ho2 : out14 (wordsG s []) = (true, p1, p2, p3) := by rw [← out_same _ (by rw [ho]), ho]
      have q14 := okRd (f := 14) rfl hs' (H := outH (rdH (vrow o1) (vrow o2) (vrow o3)) (lv p1) (lv p2) (lv p3)) (n := 7) nx ho2
      have hgA : ∀ b : Nat, b < 10 → (hB (vrow o1) (vrow o2) (vrow o3) (lv p1) (lv p2) (lv p3)).get b = (hA (vrow o1) (vrow o2) (vrow o3) (lv p1) (lv p2) (lv p3) (lv p1) (lv p2) (lv p3)).get b := by
        intro b hb
        have c1 : b ≠ (hA (vrow o1) (vrow o2) (vrow o3) (lv p1) (lv p2) (lv p3) (lv p1) (lv p2) (lv p3)).next := Nat.ne_of_lt hb
        have c2 : b ≠ ((hA (vrow o1) (vrow o2) (vrow o3) (lv p1) (lv p2) (lv p3) (lv p1) (lv p2) (lv p3)).alloc (.cells false 32 (recA (lv p1) (lv p2) (lv p3) 4))).next := Nat.ne_of_lt (Nat.lt_succ_of_lt hb)
        unfold hB
        rw [Heap.get_alloc_ne _ _ _ c2, Heap.get_alloc_ne _ _ _ c1]
      have hgB : ∀ b, b < 4 → (hB (vrow o1) (vrow o2) (vrow o3) (lv p1) (lv p2) (lv p3)).get b = (rdH (vrow o1) (vrow o2) (vrow o3)).get b := by
        intro b hb
        rw [hgA b (Nat.lt_trans hb (by decide))]
        have c1 : b < (outH (rdH (vrow o1) (vrow o2) (vrow o3)) (lv p1) (lv p2) (lv p3)).next := by rw [nx]; exact Nat.lt_trans hb (by decide)
        have c2 : b < (rdH (vrow o1) (vrow o2) (vrow o3)).next := hb
        unfold hA
        rw [allocs_get, if_pos c1, allocs_get, if_pos c2]
      have s1 := ok38 (l := p1) (a := 4) (b := 7) (H := hB (vrow o1) (vrow o2) (vrow o3) (lv p1) (lv p2) (lv p3)) (fun h => by rw [hgA 4 (by omega), hA_4]; simp [lv, h, obO]) (fun h => by rw [hgA 7 (by omega), hA_7]; simp [lv, h, obO]) n1
      have s2 := ok38 (l := p2) (a := 5) (b := 8) (H := hB (vrow o1) (vrow o2) (vrow o3) (lv p1) (lv p2) (lv p3)) (fun h => by rw [hgA 5 (by omega), hA_5]; simp [lv, h, obO]) (fun h => by rw [hgA 8 (by omega), hA_8]; simp [lv, h, obO]) n2
      have s3 := ok38 (l := p3) (a := 6) (b := 9) (H := hB (vrow o1) (vrow o2) (vrow o3) (lv p1) (lv p2) (lv p3)) (fun h => by rw [hgA 6 (by omega), hA_6]; simp [lv, h, obO]) (fun h => by rw [hgA 9 (by omega), hA_9]; simp [lv, h, obO]) n3
      have h16 := okHd (f := 16) rfl (o4 := o4) (H := up (LOk 1 (hB (vrow o1) (vrow o2) (vrow o3) (lv p1) (lv p2) (lv p3)))) (fun b hb => (LOk_get 1 _ b).trans (hgB b hb)) h1 h2 h3
      have h17 := okHd (f := 17) rfl (o4 := o4) (H := up (LOk 3 (hB (vrow o1) (vrow o2) (vrow o3) (lv p1) (lv p2) (lv p3)))) (fun b hb => (LOk_get 3 _ b).trans (hgB b hb)) h1 h2 h3
      rw [e17] at h17
      exact run_of_from (h4_yes _ _ _ _ _ _ o4 s _) (obs2_cons q13 (obs2_cons q14 (obs2_cons s1 (obs2_cons s2 (obs2_cons s3 (obs2_cons h16 (obs2_cons h17 (obs2_cons (okSe (by simp)) obs2_nil))))))))

end Go.AM

/-
  An argument api.Func: its rows of numbers, read out of the statement's hypothesis.
-/
set_option linter.unusedVariables false
set_option linter.unusedSimpArgs false
set_option maxRecDepth 100000
namespace Go.AM
open Go.Proofs Go.Proofs.YtmokkkbbbmcjnaaGreatDoor Go.RowKit Go.ChangeShapes Go.WideShapes Go.Deep

section
variable {H : Type} {enc : TypeId × Value → H} {W : World} {b0 : Nat}

theorem bulk_one (d : DataW H) : 1 ≤ Rows.uptoBulk d := by
  cases d with
  | lit l => cases l <;> simp [Rows.uptoBulk]
  | nil => simp [Rows.uptoBulk]
  | ptr d => simp [Rows.uptoBulk]
  | slice elems spare => simp [Rows.uptoBulk]
  | agg parts => simp [Rows.uptoBulk]
  | iface t d => simp [Rows.uptoBulk]
  | map entries => simp [Rows.uptoBulk]
  | held h => simp [Rows.uptoBulk]
theorem bulk_length : ∀ l : List (DataW H), l.length ≤ Rows.uptoBulkAll l
  | [] => by simp [Rows.uptoBulkAll]
  | d :: l => by
    have := bulk_length l
    have := bulk_one d
    simp only [List.length_cons, Rows.uptoBulkAll]
    omega

theorem slice_arr {t e : TypeId} {a : Addr} {len cap : Nat} (ht : Tryz.prog.underlying t = some (.slice e)) (hval : Cell.okWide Tryz.prog W .any b0 t (.slice (some a) len cap)) :
    a.spot = none ∧ a.block < W.heap.size ∧ ∃ arr ty fz, W.heap[a.block]? = some (.cells arr ty fz) := by
  have hok : W.has Tryz.prog .any b0 a e cap := by
    simp only [Cell.okWide, ht, Cell.ok] at hval
    exact hval.2.2
  obtain ⟨_, hspot, row, cells, hshape, _⟩ := hok
  obtain ⟨arr, ty, fz, hheap⟩ : ∃ arr ty fz, W.heap[a.block]? = some (.cells arr ty fz) := by
    unfold World.shape? at hshape
    split at hshape
    · rename_i c e f hc; exact ⟨c, e, f, hc⟩
    · cases hshape
  refine ⟨hspot, ?_, arr, ty, fz, hheap⟩
  rcases Nat.lt_or_ge a.block W.heap.size with h | h
  · exact h
  · rw [Array.getElem?_eq_none h] at hheap; cases hheap

theorem ints_rel (E : Emb) (arr : List Value) : ∀ (l : List Int) (o : Nat), (∀ (i : Nat) n, l[i]? = some n → arr[o + i]? = some (.int .i64 n)) →
    VRs E (l.map i64) ((arr.drop o).take l.length) ∧ (∀ y ∈ (arr.drop o).take l.length, isCell y = true) ∧ (0 < l.length → o + l.length ≤ arr.length)
  | [], o, h => by simp [VRs]
  | x :: l, o, h => by
    have h0 := h 0 x rfl
    have ih := ints_rel E arr l (o + 1) (fun i n hn => by
      have := h (i + 1) n (by simpa using hn)
      rw [show o + (i + 1) = o + 1 + i by omega] at this
      exact this)
    have hlt : o < arr.length := by
      rcases Nat.lt_or_ge o arr.length with h' | h'
      · exact h'
      · rw [show o + 0 = o from rfl, List.getElem?_eq_none h'] at h0; cases h0
    have e : arr.drop o = .int .i64 x :: arr.drop (o + 1) := by
      rw [List.drop_eq_getElem_cons hlt]
      rw [show o + 0 = o from rfl, List.getElem?_eq_getElem hlt] at h0
      rw [Option.some.inj h0]
    rw [e]
    simp only [List.length_cons, List.take_succ_cons, List.map_cons, VRs]
    refine ⟨⟨_, _, rfl, by simp [VR], ih.1⟩, ?_, ?_⟩
    · intro y hy
      simp only [List.mem_cons] at hy
      rcases hy with rfl | hy
      · rfl
      · exact ih.2.1 y hy
    · intro _
      rcases Nat.eq_zero_or_pos l.length with hz | hp
      · rw [hz]; omega
      · have := ih.2.2 hp; omega

/-- A slice of numbers: nil, or a row. -/
theorem open_ints {v : Value} {fuel : Nat} {y : DataW H × List MemPlace} (hval : Cell.okWide Tryz.prog W .any b0 29 v) (h : DataW.trod enc Tryz.prog W 0 (fun _ => true) true fuel 29 [v] = some y) :
    ∃ (o : Option (List Int)) (cp : Option Nat) (pl : Pl), (ints o).length ≤ Rows.uptoBulk y.1 ∧ (∀ (E : Emb) (b : Id), (o ≠ none → E.dom b ∧ E.pl b = pl) → VR E (svQ (vrow o) cp b) v) ∧
      (∀ L, o = some L → pl.c < W.heap.size ∧ pl.esz = 1 ∧ ∀ E, RowIn E true (L.map i64) pl.c pl.o pl.csz W.heap) := by
  have c3 : Tryz.prog.cellsOf 3 = 1 := by kernel_rfl
  rcases open_slice1 Tryz.underlying29 c3 h with ⟨h0, _⟩ | ⟨a, len, cap, m, n, Vv, D, Pp, h0, hb, hl, hm, hmm, hy, hx⟩
  · have h0 : v = .slice none 0 0 := by simpa using h0
    subst h0
    exact ⟨none, none, ⟨0, 0, 0, 1⟩, Nat.le_trans (Nat.zero_le _) (bulk_one _), (fun E b _ => by simp [vrow, svQ, VR]), fun L hL => by cases hL⟩
  · have h0 : v = .slice (some a) len cap := by simpa using h0
    subst h0
    obtain ⟨hspot, hlt, arr, ty, fz, hheap⟩ := slice_arr Tryz.underlying29 hval
    have hmc : m = cap := by rw [hmm]; simp
    have each0 : ∀ i, i < cap → ∃ k : Int, arr[a.off + i]? = some (.int .i64 k) := by
      intro i hi
      obtain ⟨e1, e2⟩ := hx i (by omega)
      obtain ⟨k, ek, _, _⟩ := DataW.trod_int Tryz.underlying3 e2
      have ek : Vv i = .int .i64 k := by simpa using ek
      rw [ek] at e1
      have hadd : a.add i = ⟨a.block, a.off + i, none⟩ := by
        cases a
        simp only at hspot
        subst hspot
        unfold Addr.add
        split <;> simp_all
      rw [hadd] at e1
      simp only [World.cell?, hheap] at e1
      exact ⟨k, by simpa using e1⟩
    have hoff : 0 < cap → a.off ≤ arr.size := fun hc => by
      obtain ⟨k, g0⟩ := each0 0 hc
      rcases Nat.lt_or_ge (a.off + 0) arr.size with h' | h'
      · omega
      · rw [Array.getElem?_eq_none h'] at g0; cases g0
    obtain ⟨L, hL, hL2⟩ : ∃ L : List Int, L.length = len ∧ ∀ (i : Nat) k, L[i]? = some k → arr[a.off + i]? = some (.int .i64 k) := by
      have each := fun i (hi : i < len) => each0 i (by omega)
      clear each0 hx hy hval h hl hm hmm hmc hoff h0
      induction len with
      | zero => exact ⟨[], rfl, fun i y hy => by simp at hy⟩
      | succ k ih =>
        obtain ⟨l, e1, e2⟩ := ih (fun i hi => each i (by omega))
        obtain ⟨y, hy⟩ := each k (by omega)
        refine ⟨l ++ [y], by simp [e1], fun i z hz => ?_⟩
        rcases Nat.lt_or_ge i l.length with h | h
        · rw [List.getElem?_append_left h] at hz; exact e2 i z hz
        · rw [List.getElem?_append_right h] at hz
          have : i - l.length = 0 := by
            rcases Nat.eq_zero_or_pos (i - l.length) with h' | h'
            · exact h'
            · rw [List.getElem?_eq_none (by simp; omega)] at hz; cases hz
          rw [this] at hz
          simp at hz
          subst hz
          have : i = k := by omega
          subst this
          exact hy
    subst hL
    refine ⟨some L, some cap, ⟨a.block, if cap = 0 then 0 else a.off, arr.size, 1⟩, ?_, ?_, ?_⟩
    · rw [hy]
      show L.length ≤ _
      simp only [Rows.uptoBulk]
      have := bulk_length ((List.range L.length).map D)
      rw [List.length_map, List.length_range] at this
      omega
    · intro E b hd
      obtain ⟨d1, d2⟩ := hd (by simp)
      have es : svQ (vrow (some L)) (some cap) b = .slice b 0 L.length (some cap) := by simp [svQ, vrow]
      rw [es]
      simp only [VR]
      refine ⟨d1, hl, a, rfl, ?_⟩
      rw [d2]
      by_cases hc : cap = 0
      · exact .inr hc
      · left
        show a = ⟨a.block, (if cap = 0 then 0 else a.off) + 0, none⟩
        rw [if_neg hc]
        cases a
        simp only at hspot
        subst hspot
        rfl
    · intro L' hL'
      cases hL'
      refine ⟨hlt, rfl, fun E => ?_⟩
      show RowIn E true (L.map i64) a.block (if cap = 0 then 0 else a.off) arr.size W.heap
      by_cases hc : cap = 0
      · have hl : L = [] := List.length_eq_zero_iff.1 (by omega)
        subst hl
        exact ⟨arr, ty, fz, hheap, rfl, by rw [if_pos hc]; simp, by simp [VRs], by simp, fun h => by cases h⟩
      · rw [if_neg hc]
        obtain ⟨k1, k2, k3⟩ := ints_rel E arr.toList L a.off (fun i y hy => by simpa using hL2 i y hy)
        by_cases hl : L = []
        · subst hl
          exact ⟨arr, ty, fz, hheap, rfl, by simpa using hoff (by omega), by simp [VRs], by simp, fun h => by cases h⟩
        · have hpos : 0 < L.length := List.length_pos_iff.2 hl
          refine ⟨arr, ty, fz, hheap, rfl, ?_, by rw [List.length_map]; exact k1, by rw [List.length_map]; exact k2, fun h => by cases h⟩
          have := k3 hpos
          rw [List.length_map]
          simpa using this

/-- A slice that is not looked at. -/
theorem open_code {v : Value} {fuel : Nat} {y : DataW H × List MemPlace} (hval : Cell.okWide Tryz.prog W .any b0 30 v) (h : DataW.trod enc Tryz.prog W 0 (fun _ => true) true fuel 30 [v] = some y) :
    ∃ (o : Option (Nat × Option Nat)) (pl : Pl), (∀ (E : Emb) (b : Id), (o ≠ none → E.dom b ∧ E.pl b = pl) → VR E (sv4 o b) v) ∧ (o ≠ none → pl.c < W.heap.size) := by
  rcases open_slice Tryz.underlying30 h with ⟨h0, _⟩ | ⟨a, len, cap, m, n, D, Pp, h0, hb, hl, hm, hmm, hy, hx⟩
  · have h0 : v = .slice none 0 0 := by simpa using h0
    subst h0
    exact ⟨none, ⟨0, 0, 0, 1⟩, (fun E b _ => by simp [sv4, VR]), fun hL => absurd rfl hL⟩
  · have h0 : v = .slice (some a) len cap := by simpa using h0
    subst h0
    obtain ⟨hspot, hlt, arr, ty, fz, hheap⟩ := slice_arr Tryz.underlying30 hval
    refine ⟨some (len, some cap), ⟨a.block, a.off, arr.size, 1⟩, ?_, fun _ => hlt⟩
    intro E b hd
    obtain ⟨d1, d2⟩ := hd (by simp)
    simp only [sv4, VR]
    refine ⟨d1, hl, a, rfl, .inl ?_⟩
    rw [d2]
    show a = ⟨a.block, a.off + 0, none⟩
    cases a
    simp only at hspot
    subst hspot
    rfl

/-- A cell of an aggregate of one-cell fields. -/
theorem cell_wide {t : TypeId} {fs : Array Field} {ts : List TypeId} {cs : Array Value} (hs : Tryz.prog.underlying t = some (.struct fs)) (hts : Tryz.prog.cellTypes Tryz.prog.depth t = some ts) (hval : Value.okWide Tryz.prog W .any b0 t (.agg cs)) {i : Nat} {u : TypeId} {v : Value} (hi : i < ts.length) (hu : ts[i]? = some u) (hv : cs[i]? = some v) : Cell.okWide Tryz.prog W .any b0 u v := by
  simp only [Value.okWide, hs] at hval
  obtain ⟨cs', hc, _, ts', h1, _, h2⟩ := hval
  cases hc
  rw [hts] at h1
  cases h1
  obtain ⟨u', e1, e2⟩ := h2 i v hv
  rw [Nat.mod_eq_of_lt hi, hu] at e1
  cases e1
  exact e2
end

end Go.AM
