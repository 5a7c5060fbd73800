/-
  slices.IndexFunc, at the two functions that the program's Right hands it; slices.Concat of three rows.
-/
import Derived.Test.YtmokkkbbbmcjnaaGreatDoorAsNe
set_option linter.unusedSectionVars false
set_option linter.unusedVariables false
set_option linter.unusedSimpArgs false
namespace Go.AM
open Go.Proofs Go.RowKit

noncomputable abbrev ixB (f : FuncId) : Code := Code.go (bodyOf Tryz.prog f) [1, 0, 1, 0, 0]
abbrev ixK : List Nat := [0, 1, 7, 8]
abbrev fnV (f : FuncId) : V := .func (.func f) [] []
abbrev ixVs (f : FuncId) (a : V) (n i : Int) : List V := [a, fnV f, i64 n, i64 i]

theorem ixs_go (m b n pp : Nat) (cp : Option Nat) (i j : Int) (x : List UInt8) (H : Heap) (t : List V) :
    tellCode Tryz.prog Y2 (m + 3) 88 [] (m + 3) (ixB 88) ⟨normL 19 (ixK.zip (ixVs 61 (.slice b 0 n cp) n i)) t, H⟩ [tv 88 9 true, tp 88 14 (.ptr b pp), (88, 15, .ldx (.str x)), tv 61 5 false, tp 88 18 (i64 j)] ixK =
      (some (E.normal, (19, ([(V.slice b 0 n cp), (V.func (Go.Fn.func 61) [] []), (i64 n), (i64 j)], (H, [(Ob2.bin Go.BinOp.lss 3 (i64 i) (i64 n) (V.bool true)), (Ob2.iadr 37 b 0 n cp (i64 i) (V.ptr b pp)), (Ob2.ldx 9 H (Go.Operand.tmp 14) (V.ptr b pp) (V.str x)), (Ob2.bin Go.BinOp.gtr 3 (i64 (x.length)) (i64 256) (V.bool false)), (Ob2.bin Go.BinOp.add 3 (i64 i) (i64 1) (i64 j))]))))) := by kernel_rfl
theorem ixs_bad (m b n pp : Nat) (cp : Option Nat) (i : Int) (x : List UInt8) (H : Heap) (t : List V) :
    tellCode Tryz.prog Y2 (m + 3) 88 [] (m + 3) (ixB 88) ⟨normL 19 (ixK.zip (ixVs 61 (.slice b 0 n cp) n i)) t, H⟩ [tv 88 9 true, tp 88 14 (.ptr b pp), (88, 15, .ldx (.str x)), tv 61 5 true] [4] =
      (some (E.ret, (19, ([(i64 i)], (H, [(Ob2.bin Go.BinOp.lss 3 (i64 i) (i64 n) (V.bool true)), (Ob2.iadr 37 b 0 n cp (i64 i) (V.ptr b pp)), (Ob2.ldx 9 H (Go.Operand.tmp 14) (V.ptr b pp) (V.str x)), (Ob2.bin Go.BinOp.gtr 3 (i64 (x.length)) (i64 256) (V.bool true))]))))) := by kernel_rfl
theorem ixs_out {a : V} {n_a : Nat} (h_a : LenIs a n_a) (m : Nat) (n i : Int) (H : Heap) (t : List V) :
    tellCode Tryz.prog Y2 (m + 3) 88 [] (m + 3) (ixB 88) ⟨normL 19 (ixK.zip (ixVs 61 a n i)) t, H⟩ [tv 88 9 false] ixK =
      (some ((E.exit 0), (19, ([a, (V.func (Go.Fn.func 61) [] []), (i64 n), (i64 i)], (H, [(Ob2.bin Go.BinOp.lss 3 (i64 i) (i64 n) (V.bool false))]))))) := by rcases h_a with ⟨rfl, rfl⟩ | ⟨b_a, c_a, rfl⟩ <;> kernel_rfl
theorem ixs_yes {a : V} {n_a : Nat} (h_a : LenIs a n_a) (m : Nat) (n i : Int) (H : Heap) (J : List V → List V) :
    tellHeap Tryz.prog Y2 (m + 4) 88 [a, fnV 61] H [(88, 0, .loop 19 ixK (.exit 0) (ixK.zip (ixVs 61 a n i)) J H)] =
      (some ((i64 (Int.negSucc 0)), (H, [(Ob2.loop (((m+1)+1)+1) [] (ixB 88) 19 [0, 1, 7, 8] [a, (V.func (Go.Fn.func 61) [] []), (i64 n_a), (i64 0)] H (E.exit 0) [(0, a), (1, (V.func (Go.Fn.func 61) [] [])), (7, (i64 n)), (8, (i64 i))] J H)]))) := by rcases h_a with ⟨rfl, rfl⟩ | ⟨b_a, c_a, rfl⟩ <;> kernel_rfl
theorem ixs_no {a : V} {n_a : Nat} (h_a : LenIs a n_a) (m : Nat) (i : Int) (H : Heap) (J : List V → List V) :
    tellHeap Tryz.prog Y2 (m + 4) 88 [a, fnV 61] H [(88, 0, .loop 19 ixK .ret ([4].zip [i64 i]) J H)] =
      (some ((i64 i), (H, [(Ob2.loop (((m+1)+1)+1) [] (ixB 88) 19 [0, 1, 7, 8] [a, (V.func (Go.Fn.func 61) [] []), (i64 n_a), (i64 0)] H E.ret [(4, (i64 i))] J H)]))) := by rcases h_a with ⟨rfl, rfl⟩ | ⟨b_a, c_a, rfl⟩ <;> kernel_rfl
theorem ixn_go (m b n pp : Nat) (cp : Option Nat) (i j k : Int) (H : Heap) (t : List V) :
    tellCode Tryz.prog Y2 (m + 3) 89 [] (m + 3) (ixB 89) ⟨normL 19 (ixK.zip (ixVs 65 (.slice b 0 n cp) n i)) t, H⟩ [tv 89 9 true, tp 89 14 (.ptr b pp), (89, 15, .ldx (i64 k)), tv 65 4 false, tv 65 7 false, tp 89 18 (i64 j)] ixK =
      (some (E.normal, (19, ([(V.slice b 0 n cp), (V.func (Go.Fn.func 65) [] []), (i64 n), (i64 j)], (H, [(Ob2.bin Go.BinOp.lss 3 (i64 i) (i64 n) (V.bool true)), (Ob2.iadr 29 b 0 n cp (i64 i) (V.ptr b pp)), (Ob2.ldx 3 H (Go.Operand.tmp 14) (V.ptr b pp) (i64 k)), (Ob2.bin Go.BinOp.lss 3 (i64 k) (i64 1) (V.bool false)), (Ob2.bin Go.BinOp.gtr 3 (i64 k) (i64 3) (V.bool false)), (Ob2.bin Go.BinOp.add 3 (i64 i) (i64 1) (i64 j))]))))) := by kernel_rfl
theorem ixn_b1 (m b n pp : Nat) (cp : Option Nat) (i k : Int) (H : Heap) (t : List V) :
    tellCode Tryz.prog Y2 (m + 3) 89 [] (m + 3) (ixB 89) ⟨normL 19 (ixK.zip (ixVs 65 (.slice b 0 n cp) n i)) t, H⟩ [tv 89 9 true, tp 89 14 (.ptr b pp), (89, 15, .ldx (i64 k)), tv 65 4 true] [4] =
      (some (E.ret, (19, ([(i64 i)], (H, [(Ob2.bin Go.BinOp.lss 3 (i64 i) (i64 n) (V.bool true)), (Ob2.iadr 29 b 0 n cp (i64 i) (V.ptr b pp)), (Ob2.ldx 3 H (Go.Operand.tmp 14) (V.ptr b pp) (i64 k)), (Ob2.bin Go.BinOp.lss 3 (i64 k) (i64 1) (V.bool true))]))))) := by kernel_rfl
theorem ixn_b2 (m b n pp : Nat) (cp : Option Nat) (i k : Int) (H : Heap) (t : List V) :
    tellCode Tryz.prog Y2 (m + 3) 89 [] (m + 3) (ixB 89) ⟨normL 19 (ixK.zip (ixVs 65 (.slice b 0 n cp) n i)) t, H⟩ [tv 89 9 true, tp 89 14 (.ptr b pp), (89, 15, .ldx (i64 k)), tv 65 4 false, tv 65 7 true] [4] =
      (some (E.ret, (19, ([(i64 i)], (H, [(Ob2.bin Go.BinOp.lss 3 (i64 i) (i64 n) (V.bool true)), (Ob2.iadr 29 b 0 n cp (i64 i) (V.ptr b pp)), (Ob2.ldx 3 H (Go.Operand.tmp 14) (V.ptr b pp) (i64 k)), (Ob2.bin Go.BinOp.lss 3 (i64 k) (i64 1) (V.bool false)), (Ob2.bin Go.BinOp.gtr 3 (i64 k) (i64 3) (V.bool true))]))))) := by kernel_rfl
theorem ixn_out {a : V} {n_a : Nat} (h_a : LenIs a n_a) (m : Nat) (n i : Int) (H : Heap) (t : List V) :
    tellCode Tryz.prog Y2 (m + 3) 89 [] (m + 3) (ixB 89) ⟨normL 19 (ixK.zip (ixVs 65 a n i)) t, H⟩ [tv 89 9 false] ixK =
      (some ((E.exit 0), (19, ([a, (V.func (Go.Fn.func 65) [] []), (i64 n), (i64 i)], (H, [(Ob2.bin Go.BinOp.lss 3 (i64 i) (i64 n) (V.bool false))]))))) := by rcases h_a with ⟨rfl, rfl⟩ | ⟨b_a, c_a, rfl⟩ <;> kernel_rfl
theorem ixn_yes {a : V} {n_a : Nat} (h_a : LenIs a n_a) (m : Nat) (n i : Int) (H : Heap) (J : List V → List V) :
    tellHeap Tryz.prog Y2 (m + 4) 89 [a, fnV 65] H [(89, 0, .loop 19 ixK (.exit 0) (ixK.zip (ixVs 65 a n i)) J H)] =
      (some ((i64 (Int.negSucc 0)), (H, [(Ob2.loop (((m+1)+1)+1) [] (ixB 89) 19 [0, 1, 7, 8] [a, (V.func (Go.Fn.func 65) [] []), (i64 n_a), (i64 0)] H (E.exit 0) [(0, a), (1, (V.func (Go.Fn.func 65) [] [])), (7, (i64 n)), (8, (i64 i))] J H)]))) := by rcases h_a with ⟨rfl, rfl⟩ | ⟨b_a, c_a, rfl⟩ <;> kernel_rfl
theorem ixn_no {a : V} {n_a : Nat} (h_a : LenIs a n_a) (m : Nat) (i : Int) (H : Heap) (J : List V → List V) :
    tellHeap Tryz.prog Y2 (m + 4) 89 [a, fnV 65] H [(89, 0, .loop 19 ixK .ret ([4].zip [i64 i]) J H)] =
      (some ((i64 i), (H, [(Ob2.loop (((m+1)+1)+1) [] (ixB 89) 19 [0, 1, 7, 8] [a, (V.func (Go.Fn.func 65) [] []), (i64 n_a), (i64 0)] H E.ret [(4, (i64 i))] J H)]))) := by rcases h_a with ⟨rfl, rfl⟩ | ⟨b_a, c_a, rfl⟩ <;> kernel_rfl
theorem cc_pos {p : V} {n_p : Nat} (h_p : LenIs p n_p) {r : V} {n_r : Nat} (h_r : LenIs r n_r) {l : V} {n_l : Nat} (h_l : LenIs l n_l) (m bs k b k1 k2 k3 : Nat) (s1 s2 s3 : Int) (zs : List V) (H H1 H2 H3 : Heap) :
    tellHeap Tryz.prog Y2 (m + 8) 64 [.slice bs 0 3 (some 3)] H [(64, 14, .ldx p), tp 64 18 (i64 s1), tv 64 20 false, (64, 14, .ldx r), tp 64 18 (i64 s2), tv 64 20 false, (64, 14, .ldx l), tp 64 18 (i64 s3), tv 64 20 false, tv 90 6 false, tp 90 14 (i64 s3), tv 90 16 true, (90, 22, .blk k 3 zs), (90, 25, .slx (.slice b 0 0 none)), (64, 30, .ldx p), (64, 33, .apx none (.slice b 0 k1 none) H1), (64, 30, .ldx r), (64, 33, .apx none (.slice b 0 k2 none) H2), (64, 30, .ldx l), (64, 33, .apx none (.slice b 0 k3 none) H3)] =
      (some ((V.slice b 0 k3 none), (H3, [(Ob2.ldx 29 H (Go.Operand.tmp 13) (V.ptr bs 0) p), (Ob2.bin Go.BinOp.add 3 (i64 0) (i64 n_p) (i64 s1)), (Ob2.bin Go.BinOp.lss 3 (i64 s1) (i64 0) (V.bool false)), (Ob2.ldx 29 H (Go.Operand.tmp 13) (V.ptr bs 1) r), (Ob2.bin Go.BinOp.add 3 (i64 s1) (i64 n_r) (i64 s2)), (Ob2.bin Go.BinOp.lss 3 (i64 s2) (i64 0) (V.bool false)), (Ob2.ldx 29 H (Go.Operand.tmp 13) (V.ptr bs 2) l), (Ob2.bin Go.BinOp.add 3 (i64 s2) (i64 n_l) (i64 s3)), (Ob2.bin Go.BinOp.lss 3 (i64 s3) (i64 0) (V.bool false)), (Ob2.bin Go.BinOp.lss 3 (i64 s3) (i64 0) (V.bool false)), (Ob2.bin Go.BinOp.sub 3 (i64 s3) (i64 0) (i64 s3)), (Ob2.bin Go.BinOp.gtr 3 (i64 s3) (i64 0) (V.bool true)), (Ob2.app 29 3 H V.nilslice (i64 s3) k 3 zs), (Ob2.slx 29 (H.alloc (.cells false 3 zs)) (V.slice (H).next 0 k none) none (some (i64 0)) none (V.slice b 0 0 none)), (Ob2.ldx 29 (H.alloc (.cells false 3 zs)) (Go.Operand.tmp 29) (V.ptr bs 0) p), (Ob2.apx none 29 29 (H.alloc (.cells false 3 zs)) (V.slice b 0 0 none) p (V.slice b 0 k1 none) H1), (Ob2.ldx 29 H1 (Go.Operand.tmp 29) (V.ptr bs 1) r), (Ob2.apx none 29 29 H1 (V.slice b 0 k1 none) r (V.slice b 0 k2 none) H2), (Ob2.ldx 29 H2 (Go.Operand.tmp 29) (V.ptr bs 2) l), (Ob2.apx none 29 29 H2 (V.slice b 0 k2 none) l (V.slice b 0 k3 none) H3)]))) := by rcases h_p with ⟨rfl, rfl⟩ | ⟨b_p, c_p, rfl⟩ <;> rcases h_r with ⟨rfl, rfl⟩ | ⟨b_r, c_r, rfl⟩ <;> rcases h_l with ⟨rfl, rfl⟩ | ⟨b_l, c_l, rfl⟩ <;> kernel_rfl
theorem cc_zero {p : V} {n_p : Nat} (h_p : LenIs p n_p) {r : V} {n_r : Nat} (h_r : LenIs r n_r) {l : V} {n_l : Nat} (h_l : LenIs l n_l) (m bs : Nat) (s1 s2 s3 : Int) (H : Heap) :
    tellHeap Tryz.prog Y2 (m + 8) 64 [.slice bs 0 3 (some 3)] H [(64, 14, .ldx p), tp 64 18 (i64 s1), tv 64 20 false, (64, 14, .ldx r), tp 64 18 (i64 s2), tv 64 20 false, (64, 14, .ldx l), tp 64 18 (i64 s3), tv 64 20 false, tv 90 6 false, tp 90 14 (i64 s3), tv 90 16 false, (64, 30, .ldx p), (64, 33, .apx none .nilslice H), (64, 30, .ldx r), (64, 33, .apx none .nilslice H), (64, 30, .ldx l), (64, 33, .apx none .nilslice H)] =
      (some (V.nilslice, (H, [(Ob2.ldx 29 H (Go.Operand.tmp 13) (V.ptr bs 0) p), (Ob2.bin Go.BinOp.add 3 (i64 0) (i64 n_p) (i64 s1)), (Ob2.bin Go.BinOp.lss 3 (i64 s1) (i64 0) (V.bool false)), (Ob2.ldx 29 H (Go.Operand.tmp 13) (V.ptr bs 1) r), (Ob2.bin Go.BinOp.add 3 (i64 s1) (i64 n_r) (i64 s2)), (Ob2.bin Go.BinOp.lss 3 (i64 s2) (i64 0) (V.bool false)), (Ob2.ldx 29 H (Go.Operand.tmp 13) (V.ptr bs 2) l), (Ob2.bin Go.BinOp.add 3 (i64 s2) (i64 n_l) (i64 s3)), (Ob2.bin Go.BinOp.lss 3 (i64 s3) (i64 0) (V.bool false)), (Ob2.bin Go.BinOp.lss 3 (i64 s3) (i64 0) (V.bool false)), (Ob2.bin Go.BinOp.sub 3 (i64 s3) (i64 0) (i64 s3)), (Ob2.bin Go.BinOp.gtr 3 (i64 s3) (i64 0) (V.bool false)), (Ob2.ldx 29 H (Go.Operand.tmp 29) (V.ptr bs 0) p), (Ob2.apx none 29 29 H V.nilslice p V.nilslice H), (Ob2.ldx 29 H (Go.Operand.tmp 29) (V.ptr bs 1) r), (Ob2.apx none 29 29 H V.nilslice r V.nilslice H), (Ob2.ldx 29 H (Go.Operand.tmp 29) (V.ptr bs 2) l), (Ob2.apx none 29 29 H V.nilslice l V.nilslice H)]))) := by rcases h_p with ⟨rfl, rfl⟩ | ⟨b_p, c_p, rfl⟩ <;> rcases h_r with ⟨rfl, rfl⟩ | ⟨b_r, c_r, rfl⟩ <;> rcases h_l with ⟨rfl, rfl⟩ | ⟨b_l, c_l, rfl⟩ <;> kernel_rfl
theorem ixs_run {H : Heap} {v : V} {cs : List (List UInt8)} (ha : StrsAt H v cs) (hl : cs.length ≤ 1048576) : ∃ k : Int, callN Tryz.prog Y2 NF 88 [v, fnV 61] H = some (i64 k, H) ∧ cs.all (fun c => decide (c.length ≤ 256)) = decide (k < 0) := by
  have la := ha.len
  have L := scan_list (ex := exec Tryz.prog (callN Tryz.prog Y2 2097151) [] 2097151 (ixB 88)) (N := 19) (ks := ixK) (L := cs) (f := fun c => decide (c.length ≤ 256)) (vs := fun i => ixVs 61 v cs.length i) (I := fun h => h = H) (H := H) rfl (e := .exit 0) (kr := [4]) (vr := fun i => [i64 i])
    (fun i x h hx hok hh => by
      subst hh
      have hi := lt_of_get hx
      rcases ha with ⟨_, h0⟩ | ⟨b, cp, ro, rfl, hg⟩
      · rw [h0] at hx; simp at hx
      simp only [decide_eq_true_eq] at hok
      exact ⟨h, rfl, goes_tell (fun t => ixs_go 2097148 b cs.length i cp i ((i + 1 : Nat) : Int) x h t) (obs2_cons (okIlt (by simp; omega)) (obs2_cons (okIb b cs.length i cp hi) (obs2_cons (okLdx agg9 hg (by simp [hx])) (obs2_cons (okIgt (by simp; omega)) (obs2_cons (okInc i (by omega)) obs2_nil)))))⟩)
    (fun i x h hx hok hh => by
      subst hh
      have hi := lt_of_get hx
      rcases ha with ⟨_, h0⟩ | ⟨b, cp, ro, rfl, hg⟩
      · rw [h0] at hx; simp at hx
      simp only [decide_eq_false_iff_not] at hok
      exact ⟨h, rfl, goes_tell (fun t => ixs_bad 2097148 b cs.length i cp i x h t) (obs2_cons (okIlt (by simp; omega)) (obs2_cons (okIb b cs.length i cp hi) (obs2_cons (okLdx agg9 hg (by simp [hx])) (obs2_cons (okIgt (by simp; omega)) obs2_nil))))⟩)
    (fun h hh => ⟨h, hh, goes_tell (fun t => ixs_out la 2097148 cs.length cs.length h t) (obs2_cons (okIlt (by simp)) obs2_nil)⟩) (by decide) (fuel := 2097151) (by omega)
  cases c : cs.all (fun c => decide (c.length ≤ 256)) with
  | true =>
    obtain ⟨h', e, g⟩ := L.1 c
    subst e
    exact ⟨-1, run_heap (ixs_yes la 2097148 cs.length cs.length h' _) (obs2_cons (ok_goes g rfl) obs2_nil), by decide⟩
  | false =>
    obtain ⟨i, _, h', e, g⟩ := L.2 c
    subst e
    exact ⟨i, run_heap (ixs_no la 2097148 i h' _) (obs2_cons (ok_goes g rfl) obs2_nil), by simp⟩

theorem ixn_run {H : Heap} {v : V} {l : List Int} (ha : IntsAt H v l) (hl : l.length ≤ 4194304 / 2) (hl2 : l.length < 2097151) : ∃ k : Int, callN Tryz.prog Y2 NF 89 [v, fnV 65] H = some (i64 k, H) ∧ l.all typeR = decide (k < 0) := by
  have la := ha.len
  have L := scan_list (ex := exec Tryz.prog (callN Tryz.prog Y2 2097151) [] 2097151 (ixB 89)) (N := 19) (ks := ixK) (L := l) (f := typeR) (vs := fun i => ixVs 65 v l.length i) (I := fun h => h = H) (H := H) rfl (e := .exit 0) (kr := [4]) (vr := fun i => [i64 i])
    (fun i x h hx hok hh => by
      subst hh
      have hi := lt_of_get hx
      rcases ha with ⟨_, h0⟩ | ⟨b, cp, ro, rfl, hg⟩
      · rw [h0] at hx; simp at hx
      simp only [typeR, Bool.and_eq_true, decide_eq_true_eq] at hok
      exact ⟨h, rfl, goes_tell (fun t => ixn_go 2097148 b l.length i cp i ((i + 1 : Nat) : Int) x h t) (obs2_cons (okIlt (by simp; omega)) (obs2_cons (okIa b l.length i cp hi) (obs2_cons (okLdx agg3 hg (by simp [hx])) (obs2_cons (okIlt (by simp; omega)) (obs2_cons (okIgt (by simp; omega)) (obs2_cons (okInc i (by omega)) obs2_nil))))))⟩)
    (fun i x h hx hok hh => by
      subst hh
      have hi := lt_of_get hx
      rcases ha with ⟨_, h0⟩ | ⟨b, cp, ro, rfl, hg⟩
      · rw [h0] at hx; simp at hx
      simp only [typeR, Bool.and_eq_false_iff, decide_eq_false_iff_not] at hok
      by_cases h1 : x < 1
      · exact ⟨h, rfl, goes_tell (fun t => ixn_b1 2097148 b l.length i cp i x h t) (obs2_cons (okIlt (by simp; omega)) (obs2_cons (okIa b l.length i cp hi) (obs2_cons (okLdx agg3 hg (by simp [hx])) (obs2_cons (okIlt (by simp; omega)) obs2_nil))))⟩
      · exact ⟨h, rfl, goes_tell (fun t => ixn_b2 2097148 b l.length i cp i x h t) (obs2_cons (okIlt (by simp; omega)) (obs2_cons (okIa b l.length i cp hi) (obs2_cons (okLdx agg3 hg (by simp [hx])) (obs2_cons (okIlt (by simp; omega)) (obs2_cons (okIgt (by simp; omega)) obs2_nil)))))⟩)
    (fun h hh => ⟨h, hh, goes_tell (fun t => ixn_out la 2097148 l.length l.length h t) (obs2_cons (okIlt (by simp)) obs2_nil)⟩) (by decide) (fuel := 2097151) (by omega)
  cases c : l.all typeR with
  | true =>
    obtain ⟨h', e, g⟩ := L.1 c
    subst e
    exact ⟨-1, run_heap (ixn_yes la 2097148 l.length l.length h' _) (obs2_cons (ok_goes g rfl) obs2_nil), by decide⟩
  | false =>
    obtain ⟨i, _, h', e, g⟩ := L.2 c
    subst e
    exact ⟨i, run_heap (ixn_no la 2097148 i h' _) (obs2_cons (ok_goes g rfl) obs2_nil), by simp⟩

/-! ### Rows put behind each other, in place -/

def catH (H : Heap) (b : Id) (pre l : List Int) (rest : List V) : Heap := if l = [] then H else H.set b (.cells false 3 (pre.map i64 ++ l.map i64 ++ rest.drop l.length))

theorem ints_cells {H : Heap} {y : V} {l : List Int} (h : IntsAt H y l) : cellsOfV 1 H y = some (l.length, l.map i64) := by
  rcases h with ⟨rfl, rfl⟩ | ⟨b, cp, ro, rfl, hg⟩
  · rfl
  · simp only [cellsOfV, Heap.row, hg, loadRow]
    rw [if_pos (by simp)]
    simp [List.take_of_length_le]

theorem append_in {H : Heap} {b : Id} {pre l : List Int} {rest : List V} (hg : H.get b = some (.cells false 3 (pre.map i64 ++ rest))) {y : V} (hy : IntsAt H y l) (hlen : l.length ≤ rest.length) (hbig : pre.length + rest.length ≤ 8388608) :
    appendV Tryz.prog 29 29 H (.slice b 0 pre.length none) y = some (.slice b 0 (pre ++ l).length none, catH H b pre l rest) := by
  have hu : Tryz.prog.underlying 29 = some (.slice 3) := Tryz.underlying29
  obtain ⟨i, h1, h2, h3, h4⟩ := i3
  have hc := ints_cells hy
  have e : appendV Tryz.prog 29 29 H (.slice b 0 pre.length none) y = appendS Tryz.prog 29 29 H (.slice b 0 pre.length none) y := by
    unfold appendV
    rw [if_pos lt29]
    rcases hy with ⟨rfl, _⟩ | ⟨_, _, _, rfl, _⟩ <;> rfl
  rw [e]
  unfold appendS
  simp only [hu, h1, h2, h3, h4, hc, hg, sz3]
  rw [if_neg (by simp [srcOk]), if_pos ⟨by unfold room; omega, by unfold room; omega⟩]
  unfold catH
  by_cases hl : l = []
  · subst hl
    simp
  · have hpos : 0 < l.length := List.length_pos_iff.2 hl
    rw [if_neg (by omega), if_neg (by simp), if_pos (by simp; omega), if_neg hl]
    simp only [Heap.write, hg, storeRow]
    rw [if_pos (by simp; omega)]
    have e2 : List.drop (pre.length + l.length) (pre.map i64) = [] := List.drop_eq_nil_of_le (by simp)
    simp [List.take_append, List.drop_append, e2]

theorem append_nil {H : Heap} {y : V} (hy : IntsAt H y []) : appendV Tryz.prog 29 29 H .nilslice y = some (.nilslice, H) := by
  have hu : Tryz.prog.underlying 29 = some (.slice 3) := Tryz.underlying29
  obtain ⟨i, h1, h2, h3, h4⟩ := i3
  have hc := ints_cells hy
  have e : appendV Tryz.prog 29 29 H .nilslice y = appendS Tryz.prog 29 29 H .nilslice y := by
    unfold appendV
    rw [if_pos lt29]
    rcases hy with ⟨rfl, _⟩ | ⟨_, _, _, rfl, _⟩ <;> rfl
  rw [e]
  unfold appendS
  simp only [hu, h1, h2, h3, h4, hc]
  rw [if_neg (by simp [srcOk])]
  simp

/-- What was there is as it was. -/
structure Keeps (H H' : Heap) : Prop where
  next : H.next ≤ H'.next
  get : ∀ b, b < H.next → H'.get b = H.get b
theorem Keeps.refl (H : Heap) : Keeps H H := ⟨Nat.le_refl _, fun _ _ => rfl⟩
theorem Keeps.trans {A B C : Heap} (h : Keeps A B) (h' : Keeps B C) : Keeps A C := ⟨Nat.le_trans h.next h'.next, fun b hb => (h'.get b (Nat.lt_of_lt_of_le hb h.next)).trans (h.get b hb)⟩
theorem Keeps.keep {H H' : Heap} (h : Keeps H H') : ∀ b x, H.get b = some x → H'.get b = some x := fun b x hx => (h.get b (Heap.get_lt hx)).trans hx
theorem Keeps.alloc (H : Heap) (o : Obj) : Keeps H (H.alloc o) := ⟨by simp, fun b hb => Heap.get_alloc_ne _ _ _ (Nat.ne_of_lt hb)⟩
theorem SameH.keeps {H H' : Heap} (h : SameH H H') : Keeps H H' := ⟨by rw [h.next]; exact Nat.le_refl _, fun b _ => h.get b⟩
theorem Keeps.catH {H0 H : Heap} (h : Keeps H0 H) {b : Id} (hb : H0.next ≤ b) (pre l : List Int) (rest : List V) : Keeps H0 (catH H b pre l rest) := by
  unfold Go.AM.catH
  split
  · exact h
  · exact ⟨h.next, fun c hc => (Heap.get_set_ne _ _ _ _ (Nat.ne_of_lt (Nat.lt_of_lt_of_le hc hb))).trans (h.get c hc)⟩
theorem catH_get {H : Heap} {b : Id} {pre l : List Int} {rest : List V} (hg : H.get b = some (.cells false 3 (pre.map i64 ++ rest))) : (catH H b pre l rest).get b = some (.cells false 3 ((pre ++ l).map i64 ++ rest.drop l.length)) := by
  unfold catH
  split
  · rename_i h; subst h; simpa using hg
  · rw [Heap.get_set_same _ _ _ (Heap.get_lt hg)]; simp

theorem i3z : (match Tryz.prog.info? 3, zeroOf Tryz.prog 3 with | some i, some z => (i.size, i.bytes, z.cells, z.isTup) | _, _ => (0, 0, [], true)) = (1, 8, [i64 0], false) := by kernel_rfl
theorem append_zeros {H : Heap} {n : Nat} (h0 : 0 < n) (hn : n ≤ 8388608) : appendV Tryz.prog 29 3 H .nilslice (i64 n) = some (.slice H.next 0 n none, H.alloc (.cells false 3 (rep n [i64 0]))) := by
  have hu : Tryz.prog.underlying 29 = some (.slice 3) := Tryz.underlying29
  have hu3 : Tryz.prog.underlying 3 = some (.int .i64) := Tryz.underlying3
  have key := i3z
  unfold appendV
  rw [if_pos lt29]
  show appendZ Tryz.prog 29 3 H .nilslice (n : Int) = _
  unfold appendZ
  simp only [hu, hu3]
  cases hi : Tryz.prog.info? 3 with
  | none => rw [hi] at key; simp at key
  | some i =>
    cases hz : zeroOf Tryz.prog 3 with
    | none => rw [hi, hz] at key; simp at key
    | some z =>
      rw [hi, hz] at key
      simp only [Prod.mk.injEq] at key
      obtain ⟨k1, k2, k3, k4⟩ := key
      simp only [k1, k2, k3, k4]
      rw [if_pos ⟨by omega, by unfold room; simp; omega, by unfold room; omega, by omega, by simp, by simp⟩]
      simp
theorem slice_none {H : Heap} {b : Id} {row : List V} (hg : H.get b = some (.cells false 3 row)) (n : Nat) (hn : n = row.length) : sliceV Tryz.prog 29 H (.slice b 0 n none) none (some (i64 0)) none = some (.slice b 0 0 none) := by
  have hu : Tryz.prog.underlying 29 = some (.slice 3) := Tryz.underlying29
  unfold sliceV
  simp only [hu, sz3, hg]
  simp [bounds, bound]

/-- slices.Concat of three. -/
theorem concat_run {H : Heap} {bs : Id} {ro : Bool} {vp vr vl : V} {p r l : List Int} (hb : H.get bs = some (.cells ro 29 [vp, vr, vl])) (ap : IntsAt H vp p) (ar : IntsAt H vr r) (al : IntsAt H vl l) (hp : p.length ≤ 1048576) (hr : r.length ≤ 1048576) (hl : l.length ≤ 1048576) :
    ∃ v H', callN Tryz.prog Y2 NF 64 [.slice bs 0 3 (some 3)] H = some (v, H') ∧ Keeps H H' ∧ IntsAt H' v (p ++ r ++ l) := by
  have lp := ap.len
  have lr := ar.len
  have ll := al.len
  have agg29 : isAggT Tryz.prog 29 = some false := by kernel_rfl
  have ld : ∀ (h : Heap), Keeps H h → ∀ x i v, [vp, vr, vl][i]? = some v → (Ob2.ldx 29 h x (.ptr bs i) v).ok Tryz.prog Y2 := fun h hk x i v hv => okLdx agg29 (hk.keep _ _ hb) hv
  have s1 : (Ob2.bin .add 3 (i64 0) (i64 p.length) (i64 p.length)).ok Tryz.prog Y2 := okAddI (by simp) (by simp only [In64]; omega)
  have s2 : (Ob2.bin .add 3 (i64 p.length) (i64 r.length) (i64 ((p.length + r.length : Nat) : Int))).ok Tryz.prog Y2 := okAddI (by simp) (by simp only [In64]; omega)
  have s3 : (Ob2.bin .add 3 (i64 ((p.length + r.length : Nat) : Int)) (i64 l.length) (i64 ((p.length + r.length + l.length : Nat) : Int))).ok Tryz.prog Y2 := okAddI (by simp) (by simp only [In64]; omega)
  have n1 : ∀ n : Nat, (obI .lss (n : Int) 0 false).ok Tryz.prog Y2 := fun n => okIlt (by simp)
  have d3 : ∀ n : Nat, n ≤ 8388608 → (Ob2.bin .sub 3 (i64 (n : Int)) (i64 0) (i64 (n : Int))).ok Tryz.prog Y2 := fun n hn => okSubI (by simp) (by simp only [In64]; omega)
  have kr := Keeps.refl H
  by_cases h0 : 0 < p.length + r.length + l.length
  · -- a block of its own
    have zl : (rep (p.length + r.length + l.length) [i64 0]).length = p.length + r.length + l.length := by rw [rep_length]; simp
    have g0 : (H.alloc (.cells false 3 (rep (p.length + r.length + l.length) [i64 0]))).get H.next = some (.cells false 3 (([] : List Int).map i64 ++ rep (p.length + r.length + l.length) [i64 0])) := by simp
    have k0 : Keeps H (H.alloc (.cells false 3 (rep (p.length + r.length + l.length) [i64 0]))) := Keeps.alloc H _
    have a1 := append_in g0 (ap.mono k0.keep) (by omega) (by (try simp [zl]) <;> omega)
    have g1 := catH_get (l := p) g0
    have k1 := k0.catH (Nat.le_refl _) [] p (rep (p.length + r.length + l.length) [i64 0])
    have a2 := append_in g1 (ar.mono k1.keep) (by (try simp [zl]) <;> omega) (by (try simp [zl]) <;> omega)
    have g2 := catH_get (l := r) g1
    have k2 := k1.catH (Nat.le_refl _) ([] ++ p) r ((rep (p.length + r.length + l.length) [i64 0]).drop p.length)
    have a3 := append_in g2 (al.mono k2.keep) (by (try simp [zl]) <;> omega) (by (try simp [zl]) <;> omega)
    have g3 := catH_get (l := l) g2
    have k3 := k2.catH (Nat.le_refl _) ([] ++ p ++ r) l (((rep (p.length + r.length + l.length) [i64 0]).drop p.length).drop r.length)
    refine ⟨_, _, run_heap (cc_pos lp lr ll 2097144 bs (p.length + r.length + l.length) H.next _ _ _ _ _ _ _ H _ _ _) (obs2_cons (ld H kr _ 0 _ rfl) (obs2_cons (s1) (obs2_cons (n1 _) (obs2_cons (ld H kr _ 1 _ rfl) (obs2_cons (s2) (obs2_cons (n1 _) (obs2_cons (ld H kr _ 2 _ rfl) (obs2_cons (s3) (obs2_cons (n1 _) (obs2_cons (n1 _) (obs2_cons (d3 _ (by omega)) (obs2_cons (okIgt (by simp; omega)) (obs2_cons (append_zeros h0 (by omega)) (obs2_cons (slice_none (Heap.get_alloc_same _ _) _ zl.symm) (obs2_cons (ld _ k0 _ 0 _ rfl) (obs2_cons (⟨a1, trivial⟩) (obs2_cons (ld _ k1 _ 1 _ rfl) (obs2_cons (⟨a2, trivial⟩) (obs2_cons (ld _ k2 _ 2 _ rfl) (obs2_cons (⟨a3, trivial⟩) obs2_nil)))))))))))))))))))), k3, ?_⟩
    refine .inr ⟨H.next, none, false, by simp, ?_⟩
    rw [g3]
    have : (((rep (p.length + r.length + l.length) [i64 0]).drop p.length).drop r.length).drop l.length = [] := List.drop_eq_nil_of_le (by (try simp [zl]) <;> omega)
    rw [this]
    simp
  · have ep : p = [] := List.length_eq_zero_iff.1 (by omega)
    have er : r = [] := List.length_eq_zero_iff.1 (by omega)
    have el : l = [] := List.length_eq_zero_iff.1 (by omega)
    subst ep er el
    exact ⟨_, _, run_heap (cc_zero lp lr ll 2097144 bs _ _ _ H) (obs2_cons (ld H kr _ 0 _ rfl) (obs2_cons (s1) (obs2_cons (n1 _) (obs2_cons (ld H kr _ 1 _ rfl) (obs2_cons (s2) (obs2_cons (n1 _) (obs2_cons (ld H kr _ 2 _ rfl) (obs2_cons (s3) (obs2_cons (n1 _) (obs2_cons (n1 _) (obs2_cons (d3 _ (by omega)) (obs2_cons (okIgt (by simp)) (obs2_cons (ld H kr _ 0 _ rfl) (obs2_cons (⟨append_nil ap, trivial⟩) (obs2_cons (ld H kr _ 1 _ rfl) (obs2_cons (⟨append_nil ar, trivial⟩) (obs2_cons (ld H kr _ 2 _ rfl) (obs2_cons (⟨append_nil al, trivial⟩) obs2_nil)))))))))))))))))), kr, .inl ⟨rfl, rfl⟩⟩

end Go.AM

/-
  The program's answer of a script: may it be? It is the document's.
-/
set_option linter.unusedSectionVars false
set_option linter.unusedVariables false
set_option linter.unusedSimpArgs false
namespace Go.AM
open Go.Proofs Go.RowKit

noncomputable def Y3 : Ext := runExt Tryz.prog Y2 NF [23, 88, 89, 64]
theorem Y3_ok : ExtOk Tryz.prog Y3 := runExt_ok mixed Y2_ok Y2_mono NF _
theorem Y3_mono : ExtMono Y3 := runExt_mono Y2_mono NF _

noncomputable abbrev rcB1 : Code := Code.go (bodyOf Tryz.prog 42) [1, 1, 1, 0, 1, 0, 0]
noncomputable abbrev rcB2 : Code := Code.go (bodyOf Tryz.prog 42) [1, 1, 1, 0, 1, 0, 0, 1, 1, 0, 0, 1, 1, 1, 1, 1, 0, 0]
abbrev rcK1 : List Nat := [1, 2, 32, 33, 34]
abbrev rcV1 (sc sf : V) (n i : Int) : List V := [.box [sc, sf], .bool false, sf, i64 n, i64 i]
abbrev rcK2 : List Nat := [1, 2, 6, 32, 33, 34, 75, 76, 77]
abbrev rcV2 (sc sf : V) (q n i : Int) (c : V) (nc k : Int) : List V := [.box [sc, sf], .bool false, i64 q, sf, i64 n, i64 i, c, i64 nc, i64 k]
abbrev catC (p r l : V) (H : Heap) : Heap := H.alloc (.cells false 29 [p, r, l])

theorem rc_c {sc : V} {n_sc : Nat} (h_sc : LenIs sc n_sc) {sf : V} {n_sf : Nat} (h_sf : LenIs sf n_sf) (m : Nat) (H : Heap) :
    tellHeap Tryz.prog Y3 (m + 4) 42 [.agg [sc, sf]] H [tv 42 12 true] =
      (some ((V.bool false), (H, [(Ob2.bin Go.BinOp.gtr 3 (i64 n_sc) (i64 32) (V.bool true))]))) := by rcases h_sc with ⟨rfl, rfl⟩ | ⟨b_sc, c_sc, rfl⟩ <;> rcases h_sf with ⟨rfl, rfl⟩ | ⟨b_sf, c_sf, rfl⟩ <;> kernel_rfl
theorem rc_s {sc : V} {n_sc : Nat} (h_sc : LenIs sc n_sc) {sf : V} {n_sf : Nat} (h_sf : LenIs sf n_sf) (m : Nat) (k : Int) (H : Heap) :
    tellHeap Tryz.prog Y3 (m + 4) 42 [.agg [sc, sf]] H [tv 42 12 false, (62, 7, .cax (i64 k) H), tv 62 8 true] =
      (some ((V.bool false), (H, [(Ob2.bin Go.BinOp.gtr 3 (i64 n_sc) (i64 32) (V.bool false)), (Ob2.cax 88 [sc, (V.func (Go.Fn.func 61) [] [])] H (i64 k) H), (Ob2.bin Go.BinOp.geq 3 (i64 k) (i64 0) (V.bool true))]))) := by rcases h_sc with ⟨rfl, rfl⟩ | ⟨b_sc, c_sc, rfl⟩ <;> rcases h_sf with ⟨rfl, rfl⟩ | ⟨b_sf, c_sf, rfl⟩ <;> kernel_rfl
theorem rc_f {sc : V} {n_sc : Nat} (h_sc : LenIs sc n_sc) {sf : V} {n_sf : Nat} (h_sf : LenIs sf n_sf) (m : Nat) (k : Int) (H : Heap) :
    tellHeap Tryz.prog Y3 (m + 4) 42 [.agg [sc, sf]] H [tv 42 12 false, (62, 7, .cax (i64 k) H), tv 62 8 false, tv 42 23 true] =
      (some ((V.bool false), (H, [(Ob2.bin Go.BinOp.gtr 3 (i64 n_sc) (i64 32) (V.bool false)), (Ob2.cax 88 [sc, (V.func (Go.Fn.func 61) [] [])] H (i64 k) H), (Ob2.bin Go.BinOp.geq 3 (i64 k) (i64 0) (V.bool false)), (Ob2.bin Go.BinOp.lss 3 (i64 n_sf) (i64 1) (V.bool true))]))) := by rcases h_sc with ⟨rfl, rfl⟩ | ⟨b_sc, c_sc, rfl⟩ <;> rcases h_sf with ⟨rfl, rfl⟩ | ⟨b_sf, c_sf, rfl⟩ <;> kernel_rfl
theorem rc_g {sc : V} {n_sc : Nat} (h_sc : LenIs sc n_sc) {sf : V} {n_sf : Nat} (h_sf : LenIs sf n_sf) (m : Nat) (k : Int) (H : Heap) :
    tellHeap Tryz.prog Y3 (m + 4) 42 [.agg [sc, sf]] H [tv 42 12 false, (62, 7, .cax (i64 k) H), tv 62 8 false, tv 42 23 false, tv 42 29 true] =
      (some ((V.bool false), (H, [(Ob2.bin Go.BinOp.gtr 3 (i64 n_sc) (i64 32) (V.bool false)), (Ob2.cax 88 [sc, (V.func (Go.Fn.func 61) [] [])] H (i64 k) H), (Ob2.bin Go.BinOp.geq 3 (i64 k) (i64 0) (V.bool false)), (Ob2.bin Go.BinOp.lss 3 (i64 n_sf) (i64 1) (V.bool false)), (Ob2.bin Go.BinOp.gtr 3 (i64 n_sf) (i64 16) (V.bool true))]))) := by rcases h_sc with ⟨rfl, rfl⟩ | ⟨b_sc, c_sc, rfl⟩ <;> rcases h_sf with ⟨rfl, rfl⟩ | ⟨b_sf, c_sf, rfl⟩ <;> kernel_rfl
theorem rc_no {sc : V} {n_sc : Nat} (h_sc : LenIs sc n_sc) {sf : V} {n_sf : Nat} (h_sf : LenIs sf n_sf) (m : Nat) (k : Int) (H G : Heap) (J : List V → List V) :
    tellHeap Tryz.prog Y3 (m + 4) 42 [.agg [sc, sf]] H [tv 42 12 false, (62, 7, .cax (i64 k) H), tv 62 8 false, tv 42 23 false, tv 42 29 false, (42, 0, .loop 88 rcK1 .ret ([2].zip [.bool false]) J G)] =
      (some ((V.bool false), (G, [(Ob2.bin Go.BinOp.gtr 3 (i64 n_sc) (i64 32) (V.bool false)), (Ob2.cax 88 [sc, (V.func (Go.Fn.func 61) [] [])] H (i64 k) H), (Ob2.bin Go.BinOp.geq 3 (i64 k) (i64 0) (V.bool false)), (Ob2.bin Go.BinOp.lss 3 (i64 n_sf) (i64 1) (V.bool false)), (Ob2.bin Go.BinOp.gtr 3 (i64 n_sf) (i64 16) (V.bool false)), (Ob2.loop (((m+1)+1)+1) [1, 5, 8] rcB1 88 [1, 2, 32, 33, 34] [(V.box [sc, sf]), (V.bool false), sf, (i64 n_sf), (i64 0)] H E.ret [(2, (V.bool false))] J G)]))) := by rcases h_sc with ⟨rfl, rfl⟩ | ⟨b_sc, c_sc, rfl⟩ <;> rcases h_sf with ⟨rfl, rfl⟩ | ⟨b_sf, c_sf, rfl⟩ <;> kernel_rfl
theorem rc_yes {sc : V} {n_sc : Nat} (h_sc : LenIs sc n_sc) {sf : V} {n_sf : Nat} (h_sf : LenIs sf n_sf) (m : Nat) (k n i : Int) (H G : Heap) (J : List V → List V) :
    tellHeap Tryz.prog Y3 (m + 4) 42 [.agg [sc, sf]] H [tv 42 12 false, (62, 7, .cax (i64 k) H), tv 62 8 false, tv 42 23 false, tv 42 29 false, (42, 0, .loop 88 rcK1 (.exit 0) (rcK1.zip (rcV1 sc sf n i)) J G)] =
      (some ((V.bool true), (G, [(Ob2.bin Go.BinOp.gtr 3 (i64 n_sc) (i64 32) (V.bool false)), (Ob2.cax 88 [sc, (V.func (Go.Fn.func 61) [] [])] H (i64 k) H), (Ob2.bin Go.BinOp.geq 3 (i64 k) (i64 0) (V.bool false)), (Ob2.bin Go.BinOp.lss 3 (i64 n_sf) (i64 1) (V.bool false)), (Ob2.bin Go.BinOp.gtr 3 (i64 n_sf) (i64 16) (V.bool false)), (Ob2.loop (((m+1)+1)+1) [1, 5, 8] rcB1 88 [1, 2, 32, 33, 34] [(V.box [sc, sf]), (V.bool false), sf, (i64 n_sf), (i64 0)] H (E.exit 0) [(1, (V.box [sc, sf])), (2, (V.bool false)), (32, sf), (33, (i64 n)), (34, (i64 i))] J G)]))) := by rcases h_sc with ⟨rfl, rfl⟩ | ⟨b_sc, c_sc, rfl⟩ <;> rcases h_sf with ⟨rfl, rfl⟩ | ⟨b_sf, c_sf, rfl⟩ <;> kernel_rfl
theorem rc_out {sf : V} {n_sf : Nat} (h_sf : LenIs sf n_sf) (m : Nat) (sc : V) (n i : Int) (H : Heap) (t : List V) :
    tellCode Tryz.prog Y3 (m + 3) 42 [1, 5, 8] (m + 3) rcB1 ⟨normL 88 (rcK1.zip (rcV1 sc sf n i)) t, H⟩ [tv 42 35 false] rcK1 =
      (some ((E.exit 0), (88, ([(V.box [sc, sf]), (V.bool false), sf, (i64 n), (i64 i)], (H, [(Ob2.bin Go.BinOp.lss 3 (i64 i) (i64 n) (V.bool false))]))))) := by rcases h_sf with ⟨rfl, rfl⟩ | ⟨b_sf, c_sf, rfl⟩ <;> kernel_rfl
theorem rc_b1 {p : V} {n_p : Nat} (h_p : LenIs p n_p) {r : V} {n_r : Nat} (h_r : LenIs r n_r) {l : V} {n_l : Nat} (h_l : LenIs l n_l) {c : V} {n_c : Nat} (h_c : LenIs c n_c) (m b n pp : Nat) (cp : Option Nat) (sc : V) (i q : Int) (H : Heap) (t : List V) :
    tellCode Tryz.prog Y3 (m + 3) 42 [1, 5, 8] (m + 3) rcB1 ⟨normL 88 (rcK1.zip (rcV1 sc (.slice b 0 n cp) n i)) t, H⟩ [tv 42 35 true, tp 42 36 (.ptr b pp), (42, 37, .ldx (.agg [p, r, l, c])), tp 42 44 (i64 q), tv 42 48 true] [2] =
      (some (E.ret, (88, ([(V.bool false)], (H, [(Ob2.bin Go.BinOp.lss 3 (i64 i) (i64 n) (V.bool true)), (Ob2.iadr 36 b 0 n cp (i64 i) (V.ptr b pp)), (Ob2.ldx 32 H (Go.Operand.tmp 36) (V.ptr b pp) (V.agg [p, r, l, c])), (Ob2.bin Go.BinOp.add 3 (i64 n_p) (i64 n_l) (i64 q)), (Ob2.bin Go.BinOp.gtr 3 (i64 n_p) (i64 8) (V.bool true))]))))) := by rcases h_p with ⟨rfl, rfl⟩ | ⟨b_p, c_p, rfl⟩ <;> rcases h_r with ⟨rfl, rfl⟩ | ⟨b_r, c_r, rfl⟩ <;> rcases h_l with ⟨rfl, rfl⟩ | ⟨b_l, c_l, rfl⟩ <;> rcases h_c with ⟨rfl, rfl⟩ | ⟨b_c, c_c, rfl⟩ <;> kernel_rfl
theorem rc_b2 {p : V} {n_p : Nat} (h_p : LenIs p n_p) {r : V} {n_r : Nat} (h_r : LenIs r n_r) {l : V} {n_l : Nat} (h_l : LenIs l n_l) {c : V} {n_c : Nat} (h_c : LenIs c n_c) (m b n pp : Nat) (cp : Option Nat) (sc : V) (i q : Int) (H : Heap) (t : List V) :
    tellCode Tryz.prog Y3 (m + 3) 42 [1, 5, 8] (m + 3) rcB1 ⟨normL 88 (rcK1.zip (rcV1 sc (.slice b 0 n cp) n i)) t, H⟩ [tv 42 35 true, tp 42 36 (.ptr b pp), (42, 37, .ldx (.agg [p, r, l, c])), tp 42 44 (i64 q), tv 42 48 false, tv 42 53 true] [2] =
      (some (E.ret, (88, ([(V.bool false)], (H, [(Ob2.bin Go.BinOp.lss 3 (i64 i) (i64 n) (V.bool true)), (Ob2.iadr 36 b 0 n cp (i64 i) (V.ptr b pp)), (Ob2.ldx 32 H (Go.Operand.tmp 36) (V.ptr b pp) (V.agg [p, r, l, c])), (Ob2.bin Go.BinOp.add 3 (i64 n_p) (i64 n_l) (i64 q)), (Ob2.bin Go.BinOp.gtr 3 (i64 n_p) (i64 8) (V.bool false)), (Ob2.bin Go.BinOp.gtr 3 (i64 n_r) (i64 8) (V.bool true))]))))) := by rcases h_p with ⟨rfl, rfl⟩ | ⟨b_p, c_p, rfl⟩ <;> rcases h_r with ⟨rfl, rfl⟩ | ⟨b_r, c_r, rfl⟩ <;> rcases h_l with ⟨rfl, rfl⟩ | ⟨b_l, c_l, rfl⟩ <;> rcases h_c with ⟨rfl, rfl⟩ | ⟨b_c, c_c, rfl⟩ <;> kernel_rfl
theorem rc_b3 {p : V} {n_p : Nat} (h_p : LenIs p n_p) {r : V} {n_r : Nat} (h_r : LenIs r n_r) {l : V} {n_l : Nat} (h_l : LenIs l n_l) {c : V} {n_c : Nat} (h_c : LenIs c n_c) (m b n pp : Nat) (cp : Option Nat) (sc : V) (i q : Int) (H : Heap) (t : List V) :
    tellCode Tryz.prog Y3 (m + 3) 42 [1, 5, 8] (m + 3) rcB1 ⟨normL 88 (rcK1.zip (rcV1 sc (.slice b 0 n cp) n i)) t, H⟩ [tv 42 35 true, tp 42 36 (.ptr b pp), (42, 37, .ldx (.agg [p, r, l, c])), tp 42 44 (i64 q), tv 42 48 false, tv 42 53 false, tv 42 57 true] [2] =
      (some (E.ret, (88, ([(V.bool false)], (H, [(Ob2.bin Go.BinOp.lss 3 (i64 i) (i64 n) (V.bool true)), (Ob2.iadr 36 b 0 n cp (i64 i) (V.ptr b pp)), (Ob2.ldx 32 H (Go.Operand.tmp 36) (V.ptr b pp) (V.agg [p, r, l, c])), (Ob2.bin Go.BinOp.add 3 (i64 n_p) (i64 n_l) (i64 q)), (Ob2.bin Go.BinOp.gtr 3 (i64 n_p) (i64 8) (V.bool false)), (Ob2.bin Go.BinOp.gtr 3 (i64 n_r) (i64 8) (V.bool false)), (Ob2.bin Go.BinOp.gtr 3 (i64 q) (i64 16) (V.bool true))]))))) := by rcases h_p with ⟨rfl, rfl⟩ | ⟨b_p, c_p, rfl⟩ <;> rcases h_r with ⟨rfl, rfl⟩ | ⟨b_r, c_r, rfl⟩ <;> rcases h_l with ⟨rfl, rfl⟩ | ⟨b_l, c_l, rfl⟩ <;> rcases h_c with ⟨rfl, rfl⟩ | ⟨b_c, c_c, rfl⟩ <;> kernel_rfl
theorem rc_b4 {p : V} {n_p : Nat} (h_p : LenIs p n_p) {r : V} {n_r : Nat} (h_r : LenIs r n_r) {l : V} {n_l : Nat} (h_l : LenIs l n_l) {c : V} {n_c : Nat} (h_c : LenIs c n_c) (m b n pp : Nat) (cp : Option Nat) (sc : V) (i q : Int) (H : Heap) (t : List V) :
    tellCode Tryz.prog Y3 (m + 3) 42 [1, 5, 8] (m + 3) rcB1 ⟨normL 88 (rcK1.zip (rcV1 sc (.slice b 0 n cp) n i)) t, H⟩ [tv 42 35 true, tp 42 36 (.ptr b pp), (42, 37, .ldx (.agg [p, r, l, c])), tp 42 44 (i64 q), tv 42 48 false, tv 42 53 false, tv 42 57 false, tv 42 63 true] [2] =
      (some (E.ret, (88, ([(V.bool false)], (H, [(Ob2.bin Go.BinOp.lss 3 (i64 i) (i64 n) (V.bool true)), (Ob2.iadr 36 b 0 n cp (i64 i) (V.ptr b pp)), (Ob2.ldx 32 H (Go.Operand.tmp 36) (V.ptr b pp) (V.agg [p, r, l, c])), (Ob2.bin Go.BinOp.add 3 (i64 n_p) (i64 n_l) (i64 q)), (Ob2.bin Go.BinOp.gtr 3 (i64 n_p) (i64 8) (V.bool false)), (Ob2.bin Go.BinOp.gtr 3 (i64 n_r) (i64 8) (V.bool false)), (Ob2.bin Go.BinOp.gtr 3 (i64 q) (i64 16) (V.bool false)), (Ob2.bin Go.BinOp.gtr 3 (i64 n_c) (i64 256) (V.bool true))]))))) := by rcases h_p with ⟨rfl, rfl⟩ | ⟨b_p, c_p, rfl⟩ <;> rcases h_r with ⟨rfl, rfl⟩ | ⟨b_r, c_r, rfl⟩ <;> rcases h_l with ⟨rfl, rfl⟩ | ⟨b_l, c_l, rfl⟩ <;> rcases h_c with ⟨rfl, rfl⟩ | ⟨b_c, c_c, rfl⟩ <;> kernel_rfl
theorem rc_b5 {p : V} {n_p : Nat} (h_p : LenIs p n_p) {r : V} {n_r : Nat} (h_r : LenIs r n_r) {l : V} {n_l : Nat} (h_l : LenIs l n_l) {c : V} {n_c : Nat} (h_c : LenIs c n_c) {v : V} {n_v : Nat} (h_v : LenIs v n_v) (m b n pp : Nat) (cp : Option Nat) (sc : V) (i q k : Int) (H G : Heap) (t : List V) :
    tellCode Tryz.prog Y3 (m + 3) 42 [1, 5, 8] (m + 3) rcB1 ⟨normL 88 (rcK1.zip (rcV1 sc (.slice b 0 n cp) n i)) t, H⟩ [tv 42 35 true, tp 42 36 (.ptr b pp), (42, 37, .ldx (.agg [p, r, l, c])), tp 42 44 (i64 q), tv 42 48 false, tv 42 53 false, tv 42 57 false, tv 42 63 false, (42, 72, .cax v G), (63, 7, .cax (i64 k) G), tv 63 8 true] [2] =
      (some (E.ret, (88, ([(V.bool false)], (G, [(Ob2.bin Go.BinOp.lss 3 (i64 i) (i64 n) (V.bool true)), (Ob2.iadr 36 b 0 n cp (i64 i) (V.ptr b pp)), (Ob2.ldx 32 H (Go.Operand.tmp 36) (V.ptr b pp) (V.agg [p, r, l, c])), (Ob2.bin Go.BinOp.add 3 (i64 n_p) (i64 n_l) (i64 q)), (Ob2.bin Go.BinOp.gtr 3 (i64 n_p) (i64 8) (V.bool false)), (Ob2.bin Go.BinOp.gtr 3 (i64 n_r) (i64 8) (V.bool false)), (Ob2.bin Go.BinOp.gtr 3 (i64 q) (i64 16) (V.bool false)), (Ob2.bin Go.BinOp.gtr 3 (i64 n_c) (i64 256) (V.bool false)), (Ob2.cax 64 [(V.slice (H).next 0 3 (some 3))] (catC p r l H) v G), (Ob2.cax 89 [v, (V.func (Go.Fn.func 65) [] [])] G (i64 k) G), (Ob2.bin Go.BinOp.geq 3 (i64 k) (i64 0) (V.bool true))]))))) := by rcases h_p with ⟨rfl, rfl⟩ | ⟨b_p, c_p, rfl⟩ <;> rcases h_r with ⟨rfl, rfl⟩ | ⟨b_r, c_r, rfl⟩ <;> rcases h_l with ⟨rfl, rfl⟩ | ⟨b_l, c_l, rfl⟩ <;> rcases h_c with ⟨rfl, rfl⟩ | ⟨b_c, c_c, rfl⟩ <;> rcases h_v with ⟨rfl, rfl⟩ | ⟨b_v, c_v, rfl⟩ <;> kernel_rfl
theorem rc_b6 {p : V} {n_p : Nat} (h_p : LenIs p n_p) {r : V} {n_r : Nat} (h_r : LenIs r n_r) {l : V} {n_l : Nat} (h_l : LenIs l n_l) {c : V} {n_c : Nat} (h_c : LenIs c n_c) {v : V} {n_v : Nat} (h_v : LenIs v n_v) (m b n pp : Nat) (cp : Option Nat) (sc : V) (i q k : Int) (H G G2 : Heap) (J : List V → List V) (t : List V) :
    tellCode Tryz.prog Y3 (m + 3) 42 [1, 5, 8] (m + 3) rcB1 ⟨normL 88 (rcK1.zip (rcV1 sc (.slice b 0 n cp) n i)) t, H⟩ [tv 42 35 true, tp 42 36 (.ptr b pp), (42, 37, .ldx (.agg [p, r, l, c])), tp 42 44 (i64 q), tv 42 48 false, tv 42 53 false, tv 42 57 false, tv 42 63 false, (42, 72, .cax v G), (63, 7, .cax (i64 k) G), tv 63 8 false, (42, 0, .loop 88 rcK2 .ret ([2].zip [.bool false]) J G2)] [2] =
      (some (E.ret, (88, ([(V.bool false)], (G2, [(Ob2.bin Go.BinOp.lss 3 (i64 i) (i64 n) (V.bool true)), (Ob2.iadr 36 b 0 n cp (i64 i) (V.ptr b pp)), (Ob2.ldx 32 H (Go.Operand.tmp 36) (V.ptr b pp) (V.agg [p, r, l, c])), (Ob2.bin Go.BinOp.add 3 (i64 n_p) (i64 n_l) (i64 q)), (Ob2.bin Go.BinOp.gtr 3 (i64 n_p) (i64 8) (V.bool false)), (Ob2.bin Go.BinOp.gtr 3 (i64 n_r) (i64 8) (V.bool false)), (Ob2.bin Go.BinOp.gtr 3 (i64 q) (i64 16) (V.bool false)), (Ob2.bin Go.BinOp.gtr 3 (i64 n_c) (i64 256) (V.bool false)), (Ob2.cax 64 [(V.slice (H).next 0 3 (some 3))] (catC p r l H) v G), (Ob2.cax 89 [v, (V.func (Go.Fn.func 65) [] [])] G (i64 k) G), (Ob2.bin Go.BinOp.geq 3 (i64 k) (i64 0) (V.bool false)), (Ob2.loop (((m+1)+1)+1) [1, 5, 8] rcB2 88 [1, 2, 6, 32, 33, 34, 75, 76, 77] [(V.box [sc, (V.slice b 0 n cp)]), (V.bool false), (i64 q), (V.slice b 0 n cp), (i64 n), (i64 i), c, (i64 n_c), (i64 0)] G E.ret [(2, (V.bool false))] J G2)]))))) := by rcases h_p with ⟨rfl, rfl⟩ | ⟨b_p, c_p, rfl⟩ <;> rcases h_r with ⟨rfl, rfl⟩ | ⟨b_r, c_r, rfl⟩ <;> rcases h_l with ⟨rfl, rfl⟩ | ⟨b_l, c_l, rfl⟩ <;> rcases h_c with ⟨rfl, rfl⟩ | ⟨b_c, c_c, rfl⟩ <;> rcases h_v with ⟨rfl, rfl⟩ | ⟨b_v, c_v, rfl⟩ <;> kernel_rfl
theorem rc_go {p : V} {n_p : Nat} (h_p : LenIs p n_p) {r : V} {n_r : Nat} (h_r : LenIs r n_r) {l : V} {n_l : Nat} (h_l : LenIs l n_l) {c : V} {n_c : Nat} (h_c : LenIs c n_c) {v : V} {n_v : Nat} (h_v : LenIs v n_v) (m b n pp : Nat) (cp : Option Nat) (sc : V) (i j q k nc kk : Int) (H G G2 : Heap) (J : List V → List V) (t : List V) :
    tellCode Tryz.prog Y3 (m + 3) 42 [1, 5, 8] (m + 3) rcB1 ⟨normL 88 (rcK1.zip (rcV1 sc (.slice b 0 n cp) n i)) t, H⟩ [tv 42 35 true, tp 42 36 (.ptr b pp), (42, 37, .ldx (.agg [p, r, l, c])), tp 42 44 (i64 q), tv 42 48 false, tv 42 53 false, tv 42 57 false, tv 42 63 false, (42, 72, .cax v G), (63, 7, .cax (i64 k) G), tv 63 8 false, (42, 0, .loop 88 rcK2 (.exit 2) (rcK2.zip (rcV2 sc (.slice b 0 n cp) q n i c nc kk)) J G2), tp 42 87 (i64 j)] rcK1 =
      (some (E.normal, (88, ([(V.box [sc, (V.slice b 0 n cp)]), (V.bool false), (V.slice b 0 n cp), (i64 n), (i64 j)], (G2, [(Ob2.bin Go.BinOp.lss 3 (i64 i) (i64 n) (V.bool true)), (Ob2.iadr 36 b 0 n cp (i64 i) (V.ptr b pp)), (Ob2.ldx 32 H (Go.Operand.tmp 36) (V.ptr b pp) (V.agg [p, r, l, c])), (Ob2.bin Go.BinOp.add 3 (i64 n_p) (i64 n_l) (i64 q)), (Ob2.bin Go.BinOp.gtr 3 (i64 n_p) (i64 8) (V.bool false)), (Ob2.bin Go.BinOp.gtr 3 (i64 n_r) (i64 8) (V.bool false)), (Ob2.bin Go.BinOp.gtr 3 (i64 q) (i64 16) (V.bool false)), (Ob2.bin Go.BinOp.gtr 3 (i64 n_c) (i64 256) (V.bool false)), (Ob2.cax 64 [(V.slice (H).next 0 3 (some 3))] (catC p r l H) v G), (Ob2.cax 89 [v, (V.func (Go.Fn.func 65) [] [])] G (i64 k) G), (Ob2.bin Go.BinOp.geq 3 (i64 k) (i64 0) (V.bool false)), (Ob2.loop (((m+1)+1)+1) [1, 5, 8] rcB2 88 [1, 2, 6, 32, 33, 34, 75, 76, 77] [(V.box [sc, (V.slice b 0 n cp)]), (V.bool false), (i64 q), (V.slice b 0 n cp), (i64 n), (i64 i), c, (i64 n_c), (i64 0)] G (E.exit 2) [(1, (V.box [sc, (V.slice b 0 n cp)])), (2, (V.bool false)), (6, (i64 q)), (32, (V.slice b 0 n cp)), (33, (i64 n)), (34, (i64 i)), (75, c), (76, (i64 nc)), (77, (i64 kk))] J G2), (Ob2.bin Go.BinOp.add 3 (i64 i) (i64 1) (i64 j))]))))) := by rcases h_p with ⟨rfl, rfl⟩ | ⟨b_p, c_p, rfl⟩ <;> rcases h_r with ⟨rfl, rfl⟩ | ⟨b_r, c_r, rfl⟩ <;> rcases h_l with ⟨rfl, rfl⟩ | ⟨b_l, c_l, rfl⟩ <;> rcases h_c with ⟨rfl, rfl⟩ | ⟨b_c, c_c, rfl⟩ <;> rcases h_v with ⟨rfl, rfl⟩ | ⟨b_v, c_v, rfl⟩ <;> kernel_rfl
theorem rd_go {sf : V} {n_sf : Nat} (h_sf : LenIs sf n_sf) (m b n pp : Nat) (cp : Option Nat) (sc : V) (q nf i k j op a : Int) (H : Heap) (t : List V) :
    tellCode Tryz.prog Y3 (m + 3) 42 [1, 5, 8] (m + 3) rcB2 ⟨normL 88 (rcK2.zip (rcV2 sc sf q nf i (.slice b 0 n cp) n k)) t, H⟩ [tv 42 78 true, tp 42 79 (.ptr b pp), (42, 80, .ldx (insA op a)), (42, 84, .cax (.bool true) H), tp 42 86 (i64 j)] rcK2 =
      (some (E.normal, (88, ([(V.box [sc, sf]), (V.bool false), (i64 q), sf, (i64 nf), (i64 i), (V.slice b 0 n cp), (i64 n), (i64 j)], (H, [(Ob2.bin Go.BinOp.lss 3 (i64 k) (i64 n) (V.bool true)), (Ob2.iadr 30 b 0 n cp (i64 k) (V.ptr b pp)), (Ob2.ldx 23 H (Go.Operand.tmp 79) (V.ptr b pp) (V.agg [(i64 op), (i64 a)])), (Ob2.cax 66 [(V.agg [sc, sf]), (i64 q), (V.agg [(i64 op), (i64 a)])] H (V.bool true) H), (Ob2.bin Go.BinOp.add 3 (i64 k) (i64 1) (i64 j))]))))) := by rcases h_sf with ⟨rfl, rfl⟩ | ⟨b_sf, c_sf, rfl⟩ <;> kernel_rfl
theorem rd_bad {sf : V} {n_sf : Nat} (h_sf : LenIs sf n_sf) (m b n pp : Nat) (cp : Option Nat) (sc : V) (q nf i k op a : Int) (H : Heap) (t : List V) :
    tellCode Tryz.prog Y3 (m + 3) 42 [1, 5, 8] (m + 3) rcB2 ⟨normL 88 (rcK2.zip (rcV2 sc sf q nf i (.slice b 0 n cp) n k)) t, H⟩ [tv 42 78 true, tp 42 79 (.ptr b pp), (42, 80, .ldx (insA op a)), (42, 84, .cax (.bool false) H)] [2] =
      (some (E.ret, (88, ([(V.bool false)], (H, [(Ob2.bin Go.BinOp.lss 3 (i64 k) (i64 n) (V.bool true)), (Ob2.iadr 30 b 0 n cp (i64 k) (V.ptr b pp)), (Ob2.ldx 23 H (Go.Operand.tmp 79) (V.ptr b pp) (V.agg [(i64 op), (i64 a)])), (Ob2.cax 66 [(V.agg [sc, sf]), (i64 q), (V.agg [(i64 op), (i64 a)])] H (V.bool false) H)]))))) := by rcases h_sf with ⟨rfl, rfl⟩ | ⟨b_sf, c_sf, rfl⟩ <;> kernel_rfl
theorem rd_out {sf : V} {n_sf : Nat} (h_sf : LenIs sf n_sf) {c : V} {n_c : Nat} (h_c : LenIs c n_c) (m : Nat) (sc : V) (q nf i n k : Int) (H : Heap) (t : List V) :
    tellCode Tryz.prog Y3 (m + 3) 42 [1, 5, 8] (m + 3) rcB2 ⟨normL 88 (rcK2.zip (rcV2 sc sf q nf i c n k)) t, H⟩ [tv 42 78 false] rcK2 =
      (some ((E.exit 2), (88, ([(V.box [sc, sf]), (V.bool false), (i64 q), sf, (i64 nf), (i64 i), c, (i64 n), (i64 k)], (H, [(Ob2.bin Go.BinOp.lss 3 (i64 k) (i64 n) (V.bool false))]))))) := by rcases h_sf with ⟨rfl, rfl⟩ | ⟨b_sf, c_sf, rfl⟩ <;> rcases h_c with ⟨rfl, rfl⟩ | ⟨b_c, c_c, rfl⟩ <;> kernel_rfl
theorem rightF_eq (nc nf : Nat) (f : Fn) : rightF nc nf f = (decide (f.p.length ≤ 8) && (decide (f.r.length ≤ 8) && (decide (f.p.length + f.l.length ≤ 16) && (decide (f.c.length ≤ 256) && ((f.p ++ f.r ++ f.l).all typeR && f.c.all fun x => instrR nc nf ((f.p.length : Int) + f.l.length) x.1 x.2))))) := by
  rw [Bool.eq_iff_iff]
  unfold rightF typesR
  simp only [Bool.and_eq_true, decide_eq_true_eq, List.all_append]
  constructor
  · rintro ⟨⟨a1, a2⟩, ⟨b1, b2⟩, ⟨c1, c2⟩, d, e, g⟩
    exact ⟨by omega, by omega, by omega, e, ⟨⟨a1, b1⟩, c1⟩, g⟩
  · rintro ⟨a, b, c, d, ⟨⟨e1, e2⟩, e3⟩, g⟩
    exact ⟨⟨e1, by omega⟩, ⟨e2, by omega⟩, ⟨e3, by omega⟩, by omega, d, g⟩

theorem ok66 {f : FuncId} (hf : f = 66) {args : List V} {h : Heap} {v : V} {h' : Heap} (hr : callN Tryz.prog XE NF f args h = some (v, h')) : (Ob2.cax f args h v h').ok Tryz.prog Y3 := by
  subst hf
  exact okOld (P := Tryz.prog) (X := Y2) (n := NF) (fs := [23, 88, 89, 64]) rfl (okOld (P := Tryz.prog) (X := Y1) (n := NF) (fs := [49]) rfl (okRun (P := Tryz.prog) (X := XE) (n := NF) (fs := [73, 74, 66]) rfl hr))
theorem ok3 {f : FuncId} (hf : memN f [23, 88, 89, 64] = true) {args : List V} {h : Heap} {v : V} {h' : Heap} (hr : callN Tryz.prog Y2 NF f args h = some (v, h')) : (Ob2.cax f args h v h').ok Tryz.prog Y3 := okRun (P := Tryz.prog) (X := Y2) (n := NF) (fs := [23, 88, 89, 64]) hf hr

noncomputable abbrev rcEx (b : Code) : St → Option (E × St) := exec Tryz.prog (callN Tryz.prog Y3 2097151) [1, 5, 8] 2097151 b

set_option maxHeartbeats 4000000 in
theorem rc_round {H : Heap} {sc : V} {nc : Nat} (lc : LenIs sc nc) (hnc : nc ≤ 1048576) {b : Id} {cp : Option Nat} {ro : Bool} {row : List V} {fs : List Fn} (hn : fs.length ≤ 1048576) (hg : H.get b = some (.cells ro 32 row)) (hlen : row.length = fs.length * 4) {i : Nat} {f : Fn} (hf : fs[i]? = some f) (hat : FnAt H ((row.drop (i * 4)).take 4) f) (hs : f.small) {h : Heap} (hk : Keeps H h) :
    ∃ G, Keeps H G ∧ (rightF nc fs.length f = true → Goes (rcEx rcB1) 88 rcK1 (rcV1 sc (.slice b 0 fs.length cp) fs.length i) h .normal rcK1 (rcV1 sc (.slice b 0 fs.length cp) fs.length (i + 1 : Nat)) G) ∧
      (rightF nc fs.length f = false → Goes (rcEx rcB1) 88 rcK1 (rcV1 sc (.slice b 0 fs.length cp) fs.length i) h .ret [2] [.bool false] G) := by
  have hi := lt_of_get hf
  obtain ⟨vp, vr, vl, vc, hrow, ap, ar, al, ac⟩ := hat.ex
  have lp := ap.len
  have lr := ar.len
  have ll := al.len
  have lcc := ac.len
  have bp := hs.p
  have br := hs.r
  have bl := hs.l
  have bc := hs.c
  have o1 : (obI .lss (i : Nat) fs.length true).ok Tryz.prog Y3 := okIlt (by simp; omega)
  have o2 := okIaF (X := Y3) b fs.length i cp hi
  have o3 : (Ob2.ldx 32 h (.tmp 36) (.ptr b (i * 4)) (.agg [vp, vr, vl, vc])).ok Tryz.prog Y3 := by
    rw [← hrow]
    exact okLdF (hk.keep _ _ hg) hlen hi
  have o4 : (Ob2.bin .add 3 (i64 f.p.length) (i64 f.l.length) (i64 ((f.p.length : Int) + f.l.length))).ok Tryz.prog Y3 := okAddI rfl (by simp only [In64]; omega)
  rw [rightF_eq]
  by_cases h1 : f.p.length ≤ 8
  case neg =>
    rw [decide_eq_false h1]
    exact ⟨h, hk, fun h => by simp at h, fun _ => goes_tell (fun t => rc_b1 lp lr ll lcc 2097148 b fs.length (i * 4) cp sc i _ h t) (obs2_cons (o1) (obs2_cons (o2) (obs2_cons (o3) (obs2_cons (o4) (obs2_cons (okIgt (by simp; omega)) obs2_nil)))))⟩
  have o5 : (obI .gtr f.p.length 8 false).ok Tryz.prog Y3 := okIgt (by simp; omega)
  by_cases h2 : f.r.length ≤ 8
  case neg =>
    rw [decide_eq_false h2]
    exact ⟨h, hk, fun h => by simp at h, fun _ => goes_tell (fun t => rc_b2 lp lr ll lcc 2097148 b fs.length (i * 4) cp sc i _ h t) (obs2_cons (o1) (obs2_cons (o2) (obs2_cons (o3) (obs2_cons (o4) (obs2_cons (o5) (obs2_cons (okIgt (by simp; omega)) obs2_nil))))))⟩
  have o6 : (obI .gtr f.r.length 8 false).ok Tryz.prog Y3 := okIgt (by simp; omega)
  by_cases h3 : f.p.length + f.l.length ≤ 16
  case neg =>
    rw [decide_eq_false h3]
    exact ⟨h, hk, fun h => by simp at h, fun _ => goes_tell (fun t => rc_b3 lp lr ll lcc 2097148 b fs.length (i * 4) cp sc i _ h t) (obs2_cons (o1) (obs2_cons (o2) (obs2_cons (o3) (obs2_cons (o4) (obs2_cons (o5) (obs2_cons (o6) (obs2_cons (okIgt (by simp; omega)) obs2_nil)))))))⟩
  have o7 : (obI .gtr ((f.p.length : Int) + f.l.length) 16 false).ok Tryz.prog Y3 := okIgt (by simp; omega)
  by_cases h4 : f.c.length ≤ 256
  case neg =>
    rw [decide_eq_false h4]
    exact ⟨h, hk, fun h => by simp at h, fun _ => goes_tell (fun t => rc_b4 lp lr ll lcc 2097148 b fs.length (i * 4) cp sc i _ h t) (obs2_cons (o1) (obs2_cons (o2) (obs2_cons (o3) (obs2_cons (o4) (obs2_cons (o5) (obs2_cons (o6) (obs2_cons (o7) (obs2_cons (okIgt (by simp; omega)) obs2_nil))))))))⟩
  have o8 : (obI .gtr f.c.length 256 false).ok Tryz.prog Y3 := okIgt (by simp; omega)
  rw [decide_eq_true h1, decide_eq_true h2, decide_eq_true h3, decide_eq_true h4]
  simp only [Bool.true_and]
  have kc : Keeps H (catC vp vr vl h) := hk.trans (Keeps.alloc h _)
  obtain ⟨v, G, hrun, kG, av⟩ := concat_run (H := catC vp vr vl h) (bs := h.next) (ro := false) (by simp) (ap.mono kc.keep) (ar.mono kc.keep) (al.mono kc.keep) bp br bl
  have kH := kc.trans kG
  have o9 := ok3 (f := 64) rfl hrun
  obtain ⟨k, hix, ek⟩ := ixn_run av (by simp; omega) (by simp; omega)
  have o10 := ok3 (f := 89) rfl hix
  rw [ek]
  by_cases hk0 : k < 0
  case neg =>
    rw [decide_eq_false hk0]
    exact ⟨G, kH, fun h => by simp at h, fun _ => goes_tell (fun t => rc_b5 lp lr ll lcc av.len 2097148 b fs.length (i * 4) cp sc i _ k h G t) (obs2_cons (o1) (obs2_cons (o2) (obs2_cons (o3) (obs2_cons (o4) (obs2_cons (o5) (obs2_cons (o6) (obs2_cons (o7) (obs2_cons (o8) (obs2_cons (o9) (obs2_cons (o10) (obs2_cons (okIge (by simp; omega)) obs2_nil)))))))))))⟩
  rw [decide_eq_true hk0]
  simp only [Bool.true_and]
  have o11 : (obI .geq k 0 false).ok Tryz.prog Y3 := okIge (by simp; omega)
  have lf : LenIs (.slice b 0 fs.length cp) fs.length := .inr ⟨b, cp, rfl⟩
  have L := scan_list (ex := rcEx rcB2) (N := 88) (ks := rcK2) (L := f.c) (f := fun x => instrR nc fs.length ((f.p.length : Int) + f.l.length) x.1 x.2) (vs := fun k => rcV2 sc (.slice b 0 fs.length cp) ((f.p.length : Int) + f.l.length) fs.length i vc f.c.length k) (I := fun h => h = G) (H := G) rfl (e := .exit 2) (kr := [2]) (vr := fun _ => [.bool false])
    (fun k x h2 hx hok hh => by
      subst hh
      have hi := lt_of_get hx
      rcases ac with ⟨_, h0⟩ | ⟨bb, cc, ro, rfl, hg⟩
      · rw [h0] at hx; simp at hx
      exact ⟨h2, rfl, goes_tell (fun t => rd_go lf 2097148 bb f.c.length (k * 2) cc sc _ fs.length i k ((k + 1 : Nat) : Int) x.1 x.2 h2 t) (obs2_cons (okIlt (by simp; omega)) (obs2_cons (okIaC bb f.c.length k cc hi) (obs2_cons (okLdC (kH.keep _ _ hg) hx) (obs2_cons (ok66 rfl (by rw [← hok]; exact right_run 2097150 sc _ nc fs.length lc lf hnc hn _ x.1 x.2 (by simp only [In64]; omega) h2)) (obs2_cons (okInc k (by omega)) obs2_nil)))))⟩)
    (fun k x h2 hx hok hh => by
      subst hh
      have hi := lt_of_get hx
      rcases ac with ⟨_, h0⟩ | ⟨bb, cc, ro, rfl, hg⟩
      · rw [h0] at hx; simp at hx
      exact ⟨h2, rfl, goes_tell (fun t => rd_bad lf 2097148 bb f.c.length (k * 2) cc sc _ fs.length i k x.1 x.2 h2 t) (obs2_cons (okIlt (by simp; omega)) (obs2_cons (okIaC bb f.c.length k cc hi) (obs2_cons (okLdC (kH.keep _ _ hg) hx) (obs2_cons (ok66 rfl (by rw [← hok]; exact right_run 2097150 sc _ nc fs.length lc lf hnc hn _ x.1 x.2 (by simp only [In64]; omega) h2)) obs2_nil))))⟩)
    (fun h2 hh => ⟨h2, hh, goes_tell (fun t => rd_out lf lcc 2097148 sc _ fs.length i f.c.length f.c.length h2 t) (obs2_cons (okIlt (by simp)) obs2_nil)⟩) (by decide) (fuel := 2097151) (by omega)
  cases hc : (f.c.all fun x => instrR nc fs.length ((f.p.length : Int) + f.l.length) x.1 x.2) with
  | true =>
    obtain ⟨h2, e, g⟩ := L.1 hc
    subst e
    exact ⟨h2, kH, fun _ => goes_tell (fun t => rc_go lp lr ll lcc av.len 2097148 b fs.length (i * 4) cp sc i ((i + 1 : Nat) : Int) _ k f.c.length f.c.length h h2 h2 _ t) (obs2_cons (o1) (obs2_cons (o2) (obs2_cons (o3) (obs2_cons (o4) (obs2_cons (o5) (obs2_cons (o6) (obs2_cons (o7) (obs2_cons (o8) (obs2_cons (o9) (obs2_cons (o10) (obs2_cons (o11) (obs2_cons (ok_goes g rfl) (obs2_cons (okInc i (by omega)) obs2_nil))))))))))))), fun h => by cases h⟩
  | false =>
    obtain ⟨_, _, h2, e, g⟩ := L.2 hc
    subst e
    exact ⟨h2, kH, fun hh => absurd hh (by decide), fun _ => goes_tell (fun t => rc_b6 lp lr ll lcc av.len 2097148 b fs.length (i * 4) cp sc i _ k h h2 h2 _ t) (obs2_cons (o1) (obs2_cons (o2) (obs2_cons (o3) (obs2_cons (o4) (obs2_cons (o5) (obs2_cons (o6) (obs2_cons (o7) (obs2_cons (o8) (obs2_cons (o9) (obs2_cons (o10) (obs2_cons (o11) (obs2_cons (ok_goes g rfl) obs2_nil))))))))))))⟩

set_option maxHeartbeats 2000000 in
/-- The program's answer is the document's. -/
theorem rightP_run {H : Heap} {v : List V} {s : Sc} (hv : ScAt H v s) (hs : s.small) : ∃ H', callN Tryz.prog Y3 NF 42 [.agg v] H = some (.bool (rightS s), H') ∧ Keeps H H' := by
  obtain ⟨sc, sf, rfl, ac, af⟩ := hv.ex
  have lc := ac.len
  have lf := af.len
  have bc := hs.cs
  have bf := hs.fs
  unfold rightS
  by_cases h1 : s.cs.length ≤ 32
  case neg =>
    rw [decide_eq_false h1]
    exact ⟨H, run_heap (rc_c lc lf 2097148 H) (obs2_cons (okIgt (by simp; omega)) obs2_nil), Keeps.refl H⟩
  have p1 : (obI .gtr s.cs.length 32 false).ok Tryz.prog Y3 := okIgt (by simp; omega)
  obtain ⟨k, hix, ek⟩ := ixs_run ac bc
  have p2 := ok3 (f := 88) rfl hix
  rw [ek]
  by_cases hk0 : k < 0
  case neg =>
    rw [decide_eq_false hk0]
    simp only [Bool.false_and, Bool.and_false]
    exact ⟨H, run_heap (rc_s lc lf 2097148 k H) (obs2_cons (p1) (obs2_cons (p2) (obs2_cons (okIge (by simp; omega)) obs2_nil))), Keeps.refl H⟩
  have p3 : (obI .geq k 0 false).ok Tryz.prog Y3 := okIge (by simp; omega)
  rw [decide_eq_true h1, decide_eq_true hk0]
  simp only [Bool.true_and]
  by_cases h2 : 1 ≤ s.fs.length
  case neg =>
    rw [decide_eq_false h2]
    exact ⟨H, run_heap (rc_f lc lf 2097148 k H) (obs2_cons (p1) (obs2_cons (p2) (obs2_cons (p3) (obs2_cons (okIlt (by simp; omega)) obs2_nil)))), Keeps.refl H⟩
  have p4 : (obI .lss s.fs.length 1 false).ok Tryz.prog Y3 := okIlt (by simp; omega)
  by_cases h3 : s.fs.length ≤ 16
  case neg =>
    rw [decide_eq_false h3]
    simp only [Bool.false_and, Bool.and_false]
    exact ⟨H, run_heap (rc_g lc lf 2097148 k H) (obs2_cons (p1) (obs2_cons (p2) (obs2_cons (p3) (obs2_cons (p4) (obs2_cons (okIgt (by simp; omega)) obs2_nil))))), Keeps.refl H⟩
  have p5 : (obI .gtr s.fs.length 16 false).ok Tryz.prog Y3 := okIgt (by simp; omega)
  rw [decide_eq_true h2, decide_eq_true h3]
  simp only [Bool.true_and]
  have L := scan_list (ex := rcEx rcB1) (N := 88) (ks := rcK1) (L := s.fs) (f := fun f => rightF s.cs.length s.fs.length f) (vs := fun i => rcV1 sc sf s.fs.length i) (I := fun h => Keeps H h) (H := H) (Keeps.refl H) (e := .exit 0) (kr := [2]) (vr := fun _ => [.bool false])
    (fun i x h hx hok hh => by
      rcases af with ⟨_, h0⟩ | ⟨b, cp, ro, row, rfl, hg, hlen, hat⟩
      · rw [h0] at hx; simp at hx
      obtain ⟨G, g1, g2, _⟩ := rc_round (cp := cp) lc bc bf hg hlen hx (hat i x hx) (hs.fn x (List.mem_of_getElem? hx)) hh
      exact ⟨G, g1, g2 hok⟩)
    (fun i x h hx hok hh => by
      rcases af with ⟨_, h0⟩ | ⟨b, cp, ro, row, rfl, hg, hlen, hat⟩
      · rw [h0] at hx; simp at hx
      obtain ⟨G, g1, _, g2⟩ := rc_round (cp := cp) lc bc bf hg hlen hx (hat i x hx) (hs.fn x (List.mem_of_getElem? hx)) hh
      exact ⟨G, g1, g2 hok⟩)
    (fun h hh => ⟨h, hh, goes_tell (fun t => rc_out lf 2097148 sc s.fs.length s.fs.length h t) (obs2_cons (okIlt (by simp)) obs2_nil)⟩) (by decide) (fuel := 2097151) (by omega)
  cases c2 : s.fs.all (fun f => rightF s.cs.length s.fs.length f) with
  | false =>
    obtain ⟨_, _, h2, q, g2⟩ := L.2 c2
    exact ⟨_, run_heap (rc_no lc lf 2097148 k H h2 _) (obs2_cons (p1) (obs2_cons (p2) (obs2_cons (p3) (obs2_cons (p4) (obs2_cons (p5) (obs2_cons (ok_goes g2 rfl) obs2_nil)))))), q⟩
  | true =>
    obtain ⟨h2, q, g2⟩ := L.1 c2
    exact ⟨_, run_heap (rc_yes lc lf 2097148 k s.fs.length s.fs.length H h2 _) (obs2_cons (p1) (obs2_cons (p2) (obs2_cons (p3) (obs2_cons (p4) (obs2_cons (p5) (obs2_cons (ok_goes g2 rfl) obs2_nil)))))), q⟩

end Go.AM
