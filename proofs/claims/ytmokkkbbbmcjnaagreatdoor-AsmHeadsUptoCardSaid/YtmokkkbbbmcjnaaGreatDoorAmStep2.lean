/-
  Each operation of the machine is the model's.
-/
import Derived.Test.YtmokkkbbbmcjnaaGreatDoorAmStep
set_option linter.unusedSectionVars false
set_option linter.unusedSimpArgs false
set_option linter.unusedVariables false
namespace Go.AM

variable {P : Program} [Glob P]
section
variable {W : Nat → Prop} {lim : Nat} {E : Emb} {lam : Tmp → Nat} {s : St} {a : Act} {w : World}

/-- An operation that yields a value, memory and all. -/
theorem wp_comes (S : StR P W lim E lam s a w) (o : Oper) (m : Sem Value) (hexec : execOp a.eval o = (do pure (Next.value (← m)) : Sem Next)) (v : V) (h' : Heap) (hm : Comes' P W lim E s.h w v h' (m.run P w))
    (K : Act → World → Prop) (Q : Exit → Act → World → Prop) (hk : ∀ a' w', Done P W lim E s.h w ⟨putV s.t o.dst v, h'⟩ a' w' → K a' w') : o.wp P a w K Q := by
  obtain ⟨z, w', E', hr, hvr, he⟩ := hm
  refine wp_value (x := z) (w' := w') ?_ (hk _ _ (done_eff S o.dst v h' z w' E' hvr he))
  rw [hexec]
  exact execOp_v (o := o) hr

/-- An operation that yields a value and leaves memory alone. -/
theorem wp_pure (S : StR P W lim E lam s a w) (o : Oper) (m : Sem Value) (hexec : execOp a.eval o = (do pure (Next.value (← m)) : Sem Next)) (v : V) (z : Value) (hm : m.run P w = .ok z w) (hv : TV E lam s.t v z)
    (K : Act → World → Prop) (Q : Exit → Act → World → Prop) (hk : ∀ a' w', Done P W lim E s.h w ⟨putV s.t o.dst v, s.h⟩ a' w' → K a' w') : o.wp P a w K Q := by
  refine wp_value (x := z) (w' := w) ?_ (hk _ _ (done_value S o.dst v z hv))
  rw [hexec]
  exact execOp_v (o := o) hm

theorem bltn_ok (S : StR P W lim E lam s a w) (o : Oper) (b : Builtin) (c : Call) (hop : o.op = .call c) (hcal : c.callee = .builtin b) (args : List V) (hargs : evVs s.t c.args.toList = some args) (v : V) (t' : List V) (h' : Heap)
    (hb : bltn P b c.argTypes s.t s.h args = some (v, t', h')) (hlim : h'.next ≤ lim) (K : Act → World → Prop) (Q : Exit → Act → World → Prop) (hk : ∀ a' w', Done P W lim E s.h w ⟨putV t' o.dst v, h'⟩ a' w' → K a' w') : o.wp P a w K Q := by
  have hvr := evVs_ok S.sr _ _ hargs
  have hmap : c.args.map a.eval = (c.args.toList.map a.eval).toArray := by apply Array.ext'; simp
  have hexec : execOp a.eval o = builtin b c.argTypes o.type (c.args.map fun | .const _ => true | _ => false) (c.args.map a.eval) := by
    simp only [execOp, hop, resolve, hcal]
    rfl
  generalize hcs : (c.args.map fun | .const _ => true | _ => false) = cs at hexec
  unfold bltn at hb
  split at hb
  · rename_i x
    simp only [VRs] at hvr
    obtain ⟨x', _, e1, hx, e2⟩ := hvr
    subst e2
    split at hb
    · rename_i t0 ht0
      simp only [Option.map_eq_some_iff, Prod.mk.injEq] at hb
      obtain ⟨n, hn, rfl, rfl, rfl⟩ := hb
      have hlen := len_ok S.hr t0 o.type x n hn x' hx
      refine wp_pure S o (Builtin.len_ c.argTypes o.type (c.args.map a.eval)) (by rw [hexec]; rfl) _ (.int .i64 n) ?_ (by simp only [TV, VR]) K Q hk
      rw [hmap, e1]
      have : c.argTypes[0]? = some t0 := ht0
      have e3 : (Builtin.len_ c.argTypes o.type #[x']).run P w = (Builtin.len_ #[t0] o.type #[x']).run P w := by simp [Builtin.len_, this]
      rw [e3]; exact hlen
    · cases hb
  · rename_i x y
    simp only [VRs] at hvr
    obtain ⟨x', _, e1, hx, y', _, rfl, hy, rfl⟩ := hvr
    split at hb
    · rename_i t0 t1 ht0 ht1
      simp only [Option.map_eq_some_iff, Prod.mk.injEq, Prod.exists] at hb
      obtain ⟨v2, h2, hap, rfl, rfl, rfl⟩ := hb
      have := append_ok S.hr t0 t1 o.type x y v2 h2 hap hlim x' y' hx hy
      refine wp_comes S o (Builtin.append_ c.argTypes o.type (c.args.map a.eval)) (by rw [hexec]; rfl) _ _ ?_ K Q hk
      rw [hmap, e1]
      have e3 : (Builtin.append_ c.argTypes o.type #[x', y']).run P w = (Builtin.append_ #[t0, t1] o.type #[x', y']).run P w := by simp [Builtin.append_, ht0, ht1]
      rw [e3]; exact this
    · cases hb
  · rename_i x y
    simp only [VRs] at hvr
    obtain ⟨x', _, e1, hx, y', _, rfl, hy, rfl⟩ := hvr
    split at hb
    · rename_i t0 ht0
      simp only [Option.map_eq_some_iff, Prod.mk.injEq, Prod.exists] at hb
      obtain ⟨n, h2, hap, rfl, rfl, rfl⟩ := hb
      have := copy_ok S.hr t0 t0 o.type x y n h2 hap x' y' hx hy
      refine wp_comes S o (Builtin.copy_ c.argTypes o.type (c.args.map a.eval)) (by rw [hexec]; rfl) _ _ ?_ K Q hk
      rw [hmap, e1]
      have e3 : (Builtin.copy_ c.argTypes o.type #[x', y']).run P w = (Builtin.copy_ #[t0, t0] o.type #[x', y']).run P w := by simp [Builtin.copy_, ht0]
      rw [e3]; exact this
    · cases hb
  · rename_i x l
    simp only [VRs] at hvr
    obtain ⟨x', xs, e1, hx, hl⟩ := hvr
    simp only [Option.map_eq_some_iff, Prod.mk.injEq] at hb
    obtain ⟨v2, hf, rfl, rfl, rfl⟩ := hb
    obtain ⟨z, hz, hr⟩ := foldMax_ok (P := P) (w := w) true l x v2 hf xs x' hx hl
    refine wp_pure S o (Builtin.max_ c.argTypes o.type (c.args.map a.eval)) (by rw [hexec]; rfl) _ z ?_ (TV.of_VR hr) K Q hk
    rw [hmap, e1]
    simpa [Builtin.max_] using hz
  · rename_i x l
    simp only [VRs] at hvr
    obtain ⟨x', xs, e1, hx, hl⟩ := hvr
    simp only [Option.map_eq_some_iff, Prod.mk.injEq] at hb
    obtain ⟨v2, hf, rfl, rfl, rfl⟩ := hb
    obtain ⟨z, hz, hr⟩ := foldMax_ok (P := P) (w := w) false l x v2 hf xs x' hx hl
    refine wp_pure S o (Builtin.min_ c.argTypes o.type (c.args.map a.eval)) (by rw [hexec]; rfl) _ z ?_ (TV.of_VR hr) K Q hk
    rw [hmap, e1]
    simpa [Builtin.min_] using hz
  · rename_i x
    simp only [VRs] at hvr
    obtain ⟨x', _, e1, hx, e2⟩ := hvr
    subst e2
    split at hb
    · rename_i t0 e ht0 hu0
      have hu : P.underlying t0 = some (.slice e) := by rw [ht0] at hu0; exact hu0
      split at hb
      · rename_i b off len k
        cases hb
        simp only [VR] at hx
        obtain ⟨_, _, ad, rfl, _⟩ := hx
        refine wp_pure S o (Builtin.cap_ c.argTypes o.type (c.args.map a.eval)) (by rw [hexec]; rfl) _ (.int .i64 k) ?_ (by simp only [TV, VR]) K Q hk
        rw [hmap, e1]
        simp [Builtin.cap_, ht0, run_underlying hu, goInt]
      · cases hb
        simp only [VR] at hx
        subst hx
        refine wp_pure S o (Builtin.cap_ c.argTypes o.type (c.args.map a.eval)) (by rw [hexec]; rfl) _ (.int .i64 0) ?_ (by simp only [TV, VR]) K Q hk
        rw [hmap, e1]
        simp [Builtin.cap_, ht0, run_underlying hu, goInt]
      · cases hb
    · cases hb
  · cases hb

theorem step_ok {call : CallF} (hc : CallOk P call) (S : StR P W lim E lam s a w) (L : List Tmp) (o : Oper) (v : V) (t' : List V) (h' : Heap) (hst : step P call L o s.t s.h = some (v, t', h')) (hlim : h'.next ≤ lim)
    (K : Act → World → Prop) (Q : Exit → Act → World → Prop) (hk : ∀ a' w', Done P W lim E s.h w ⟨putV t' o.dst v, h'⟩ a' w' → K a' w') : o.wp P a w K Q := by
  unfold step at hst
  split at hst
  · -- move
    rename_i x hop
    simp only [Option.map_eq_some_iff, Prod.mk.injEq] at hst
    obtain ⟨u, hu, rfl, rfl, rfl⟩ := hst
    refine wp_value (x := a.eval x) (w' := w) (by simp only [execOp, hop]; rfl) (hk _ _ (done_value S o.dst _ _ (TV.of_VR (evV_ok S.sr x u hu))))
  · -- assign
    rename_i x hop
    simp only [Option.map_eq_some_iff, Prod.mk.injEq] at hst
    obtain ⟨u, hu, rfl, rfl, rfl⟩ := hst
    refine wp_value (x := a.eval x) (w' := w) (by simp only [execOp, hop]; rfl) (hk _ _ (done_value S o.dst _ _ (TV.of_VR (evV_ok S.sr x u hu))))
  · -- pick
    rename_i c x y hop
    split at hst
    · rename_i b hb
      simp only [Option.map_eq_some_iff, Prod.mk.injEq] at hst
      obtain ⟨u, hu, rfl, rfl, rfl⟩ := hst
      have hcv := evV_ok S.sr c _ hb
      simp only [VR] at hcv
      have hv := evV_ok S.sr _ u hu
      refine wp_value (x := a.eval (if b then x else y)) (w' := w) ?_ (hk _ _ (done_value S o.dst _ _ (TV.of_VR hv)))
      simp only [execOp, hop, hcv, asBool, Sem.run_bind, Sem.run_pure, Result.andThen_ok]
      cases b <;> rfl
    · cases hst
  · -- alloc
    rename_i ty hop
    split at hst
    · rename_i u hz
      split at hst
      · cases hst
      · rename_i hnt
        simp only [Option.some.injEq] at hst
        obtain ⟨z, hz', hrz⟩ := run_zero' (P := P) w hz
        refine wp_value (x := .pointer (some ⟨w.heap.size, 0, none⟩)) (w' := w.alloc (.cells z.cells ty)) ?_ (hk _ _ (done_new S L o.dst ty u z (ofVal_ok E z u hz') (by simpa using hnt) v t' h' hst hlim))
        simp only [execOp, hop, Instr.alloc, Sem.run_bind, hrz, Result.andThen_ok, newVar_run, Sem.run_pure]
    · cases hst
  · -- box
    rename_i ty x hop
    split at hst
    · rename_i u hu
      split at hst
      · cases hst
      · rename_i hnt
        simp only [Option.some.injEq] at hst
        refine wp_value (x := .pointer (some ⟨w.heap.size, 0, none⟩)) (w' := w.alloc (.cells (a.eval x).cells ty)) ?_ (hk _ _ (done_new S L o.dst ty u (a.eval x) (evV_ok S.sr x u hu) (by simpa using hnt) v t' h' hst hlim))
        simp only [execOp, hop, Instr.box, Sem.run_bind, newVar_run, Result.andThen_ok, Sem.run_pure]
    · cases hst
  · -- build
    rename_i ty parts hop
    split at hst
    · rename_i ps hps
      simp only [Option.map_eq_some_iff, Prod.mk.injEq] at hst
      obtain ⟨u, hu, rfl, rfl, rfl⟩ := hst
      obtain ⟨z, hz, hr⟩ := build_ok (P := P) w ty ps u hu _ (evParts_ok S.sr _ ps hps)
      refine wp_pure S o (Instr.build ty (parts.map fun (i, x) => (i, a.eval x))) (by simp only [execOp, hop]) _ z ?_ (TV.of_VR hr) K Q hk
      rw [← hz]
      congr 2
      apply Array.ext'
      simp
    · cases hst
  · -- buildSlice
    rename_i ty n parts hop
    split at hst
    · rename_i ps hps
      simp only [Option.map_eq_some_iff, Prod.mk.injEq, Prod.exists] at hst
      obtain ⟨u, h2, hu, rfl, rfl, rfl⟩ := hst
      have := buildSlice_ok S.hr ty n ps u h2 hu hlim _ (evParts_ok S.sr _ ps hps)
      refine wp_comes S o (Instr.buildSlice ty n (parts.map fun (i, x) => (i, a.eval x))) (by simp only [execOp, hop]) _ _ ?_ K Q hk
      have e : (parts.map fun (i, x) => (i, a.eval x)) = ⟨parts.toList.map fun (i, x) => (i, a.eval x)⟩ := by apply Array.ext'; simp
      rw [e]; exact this
    · cases hst
  · -- load
    rename_i ty x hop
    split at hst
    · rename_i u hu
      simp only [Option.map_eq_some_iff, Prod.mk.injEq] at hst
      obtain ⟨u2, hl, rfl, rfl, rfl⟩ := hst
      obtain ⟨z, hz, hr⟩ := load_ok S ty x u hu u2 hl
      exact wp_pure S o (Instr.loadAt ty (a.eval x)) (by simp only [execOp, hop]) _ z hz (TV.of_VR hr) K Q hk
    · cases hst
  · -- store
    rename_i ty x y hop
    split at hst
    · rename_i u u2 hu hu2
      simp only [Option.map_eq_some_iff, Prod.mk.injEq, Prod.exists] at hst
      obtain ⟨t2, h2, hs, rfl, rfl, rfl⟩ := hst
      obtain ⟨w', hrun, S', hsame, hnext⟩ := store_ok S ty x u hu u2 _ (evV_ok S.sr y u2 hu2) t2 h2 hs
      refine wp_skip' (w' := w') ?_ (hk _ _ ⟨E, lam, ⟨S'.hr, S'.sr.put o.dst (.tup []) undef (by simp [TV, VR, VRs, undef]), by rw [put_defers]; exact S.dfr⟩, ⟨Emb.le_refl E, fun _ h => .inl h, hsame, hnext⟩⟩)
      simp only [execOp, hop, Sem.run_bind, hrun, Result.andThen_ok, Sem.run_pure]
    · cases hst
  · -- nilCheck
    rename_i x hop
    split at hst
    · rename_i b off hu
      cases hst
      have hv := evV_ok S.sr x _ hu
      have hv2 := hv
      simp only [VR] at hv2
      refine wp_value (x := a.eval x) (w' := w) ?_ (hk _ _ (done_value S o.dst _ _ (TV.of_VR hv)))
      simp only [execOp, hop, hv2.2]
      rfl
    · rename_i g f c hu
      cases hst
      have hv := evV_ok S.sr x _ hu
      have hv2 := hv
      simp only [VR] at hv2
      obtain ⟨f', c', e, _⟩ := hv2
      refine wp_value (x := a.eval x) (w' := w) ?_ (hk _ _ (done_value S o.dst _ _ (TV.of_VR hv)))
      simp only [execOp, hop, e]
      rfl
    · cases hst
  · -- binOp
    rename_i op ty x y ty2 hop
    split at hst
    · rename_i u u2 hu hu2
      split at hst
      · rename_i hmay
        simp only [Option.map_eq_some_iff, Prod.mk.injEq] at hst
        obtain ⟨r, hr, rfl, rfl, rfl⟩ := hst
        have h1 := evV_ok S.sr x u hu
        have h2 := evV_ok S.sr y u2 hu2
        obtain ⟨z, hz, hvr⟩ := binV_ok (P := P) w op ty u u2 r hr _ _ h1 h2
        have hg := eqMay_ok (P := P) w op ty x y u u2 _ _ h1 h2 hmay
        refine wp_pure S o (do eqGuard op ty x y (a.eval x) (a.eval y); binOp op ty (a.eval x) (a.eval y)) (by simp only [execOp, hop]) _ z ?_ (TV.of_VR hvr) K Q hk
        simp only [Sem.run_bind, hg, Result.andThen_ok, hz]
      · cases hst
    · cases hst
  · -- unOp
    rename_i op ty x hop
    split at hst
    · rename_i u hu
      simp only [Option.map_eq_some_iff, Prod.mk.injEq] at hst
      obtain ⟨r, hr, rfl, rfl, rfl⟩ := hst
      obtain ⟨z, hz, hvr⟩ := unV_ok (P := P) w op u r hr _ (evV_ok S.sr x u hu)
      exact wp_pure S o (Op.unary op (a.eval x)) (by simp only [execOp, hop]) _ z hz (TV.of_VR hvr) K Q hk
    · cases hst
  · -- convert
    rename_i src dst x hop
    split at hst
    · rename_i u hu
      simp only [Option.map_eq_some_iff, Prod.mk.injEq, Prod.exists] at hst
      obtain ⟨r, h2, hr, rfl, rfl, rfl⟩ := hst
      exact wp_comes S o (convert src dst (a.eval x)) (by simp only [execOp, hop]) _ _ (conv_ok S.hr src dst u r h2 hr hlim _ (evV_ok S.sr x u hu)) K Q hk
    · cases hst
  · -- makeInterface
    rename_i ty x hop
    split at hst
    · rename_i u d hu hd
      have hvr := evV_ok S.sr x u hu
      cases d <;> simp only at hst <;> (first
        | (cases hst; done)
        | (cases hst
           refine wp_pure S o (Instr.makeInterface ty (a.eval x)) (by simp only [execOp, hop]) _ (.iface ty (a.eval x)) ?_ (by simp only [TV, VR]; exact ⟨_, rfl, hvr⟩) K Q hk
           simp only [Instr.makeInterface, Sem.run_bind, run_underlying hd, Result.andThen_ok]
           rfl))
    · cases hst
  · -- makeFunc
    rename_i g first captured hop
    split at hst
    · rename_i u u2 hu hu2
      cases hst
      have h1 := evVs_ok S.sr _ _ hu
      have h2 := evVs_ok S.sr _ _ hu2
      refine wp_pure S o (Instr.makeFunc (.func g) (first.map a.eval) (captured.map a.eval)) (by simp only [execOp, hop]) _ (.func (.func g) (first.map a.eval) (captured.map a.eval)) rfl ?_ K Q hk
      simp only [TV, VR]
      exact ⟨(first.map a.eval).toList, (captured.map a.eval).toList, rfl, by rw [Array.toList_map]; exact h1, by rw [Array.toList_map]; exact h2⟩
    · cases hst
  · -- makeSlice
    rename_i ty l c hop
    split at hst
    · rename_i u u2 hu hu2
      simp only [Option.map_eq_some_iff, Prod.mk.injEq, Prod.exists] at hst
      obtain ⟨r, h2, hr, rfl, rfl, rfl⟩ := hst
      exact wp_comes S o (Instr.makeSlice ty (a.eval l) (a.eval c)) (by simp only [execOp, hop]) _ _ (makeSlice_ok S.hr ty u u2 r h2 hr hlim _ _ (evV_ok S.sr l u hu) (evV_ok S.sr c u2 hu2)) K Q hk
    · cases hst
  · -- slice
    rename_i ty x lo hi mx hop
    split at hst
    · rename_i u lo2 hi2 mx2 hu hl hh hm
      simp only [Option.map_eq_some_iff, Prod.mk.injEq] at hst
      obtain ⟨r, hr, rfl, rfl, rfl⟩ := hst
      obtain ⟨z, hz, hvr⟩ := slice_ok S.hr ty u lo2 hi2 mx2 r hr _ _ _ _ (evV_ok S.sr x u hu) (evO_ok S.sr lo lo2 hl) (evO_ok S.sr hi hi2 hh) (evO_ok S.sr mx mx2 hm)
      exact wp_pure S o (Instr.sliceAt ty (a.eval x) (lo.map a.eval) (hi.map a.eval) (mx.map a.eval)) (by simp only [execOp, hop]) _ z hz (TV.of_VR hvr) K Q hk
    · cases hst
  · -- fieldAddr
    rename_i sty x f hop
    split at hst
    · rename_i u n hu hn
      simp only [Option.map_eq_some_iff, Prod.mk.injEq] at hst
      obtain ⟨r, hr, rfl, rfl, rfl⟩ := hst
      obtain ⟨ad, he, htv⟩ := addr_ok S x u hu n r hr
      refine wp_pure S o (Instr.fieldAt sty (a.eval x) f) (by simp only [execOp, hop]) _ _ ?_ htv K Q hk
      rw [he]; exact fieldAt_ok w sty f n hn ad
    · cases hst
  · -- field
    rename_i sty x f hop
    split at hst
    · rename_i cs fields hu hd
      split at hst
      · rename_i fl hf
        simp only [Option.map_eq_some_iff, Prod.mk.injEq] at hst
        obtain ⟨r, hr, rfl, rfl, rfl⟩ := hst
        have hv := evV_ok S.sr x _ hu
        simp only [VR] at hv
        obtain ⟨l', he, hvr, hcc⟩ := hv
        obtain ⟨z, hz, hr2⟩ := part_ok (P := P) w fl.type cs fl.offset r hr l' hvr hcc
        refine wp_pure S o (Instr.field sty (a.eval x) f) (by simp only [execOp, hop]) _ z ?_ (TV.of_VR hr2) K Q hk
        rw [he]
        simp only [Instr.field, Sem.run_bind, run_underlying hd, Result.andThen_ok, hf, asAgg, Sem.run_pure, hz]
      · cases hst
    · cases hst
  · -- indexAddr
    rename_i ty x i hop
    split at hst
    · rename_i u ui hu hui
      simp only [Option.map_eq_some_iff, Prod.mk.injEq] at hst
      obtain ⟨r, hr, rfl, rfl, rfl⟩ := hst
      have hiv := evV_ok S.sr i ui hui
      unfold indexAddrV at hr
      split at hr
      · rename_i k i2
        simp only [VR] at hiv
        split at hr
        · rename_i n e hd
          split at hr
          · rename_i sz hs
            split at hr
            · rename_i hb
              obtain ⟨ad, he, htv⟩ := addr_ok S x u hu _ r hr
              refine wp_pure S o (Instr.indexAt ty (a.eval x) (a.eval i)) (by simp only [execOp, hop]) _ _ ?_ htv K Q hk
              rw [he, hiv]; exact indexAt_array_ok w ty e sz n hd hs ad k i2 hb
            · cases hr
          · cases hr
        · rename_i e hd
          split at hr
          · rename_i sz b off len cap hs
            split at hr
            · rename_i hb
              cases hr
              have hxv := evV_ok S.sr x _ (show evV s.t x = some (.slice b off len cap) by simp [evV, hu, V.isVal])
              have key : ∀ (ad : Addr) (k2 : Nat), a.eval x = .slice (some ad) len k2 → (ad = (E.pl b).addr off ∨ k2 = 0) → len ≤ k2 → E.dom b → o.wp P a w K Q := by
                rintro ad k2 he had hlk hdm
                have had' : ad = (E.pl b).addr off := by
                  rcases had with h1 | h1
                  · exact h1
                  · omega
                subst had'
                refine wp_pure S o (Instr.indexAt ty (a.eval x) (a.eval i)) (by simp only [execOp, hop]) _ (.pointer (some ((E.pl b).addr (off + i2.toNat * sz)))) ?_ (by simp only [TV, VR]; exact ⟨hdm, trivial⟩) K Q hk
                rw [he, hiv, indexAt_slice_ok w ty e sz hd hs _ len k2 k i2 hb, Pl.addr_add]
              cases cap <;> simp only [VR] at hxv <;> obtain ⟨hdm, hlk, ad, he, had⟩ := hxv <;> exact key ad _ he had hlk hdm
            · cases hr
          · cases hr
        · cases hr
      · cases hr
    · cases hst
  · -- index
    rename_i ty x i hop
    split at hst
    · rename_i u ui hu hui
      simp only [Option.map_eq_some_iff, Prod.mk.injEq] at hst
      obtain ⟨r, hr, rfl, rfl, rfl⟩ := hst
      obtain ⟨z, hz, hvr⟩ := index_ok (P := P) w ty u ui r hr _ _ (evV_ok S.sr x u hu) (evV_ok S.sr i ui hui)
      exact wp_pure S o (Instr.index ty (a.eval x) (a.eval i)) (by simp only [execOp, hop]) _ z hz (TV.of_VR hvr) K Q hk
    · cases hst
  · -- extract
    rename_i x i hop
    split at hst
    · rename_i vs hu
      simp only [Option.map_eq_some_iff, Prod.mk.injEq] at hst
      obtain ⟨r, hr, rfl, rfl, rfl⟩ := hst
      have hv := evV_ok S.sr x _ hu
      simp only [VR] at hv
      obtain ⟨l', he, hvr⟩ := hv
      obtain ⟨z, hz, hr2⟩ := hvr.get i r hr
      refine wp_pure S o (Instr.extract (a.eval x) i) (by simp only [execOp, hop]) _ z ?_ (TV.of_VR hr2) K Q hk
      rw [he]
      have : (⟨l'⟩ : Array Value)[i]? = some z := by simpa using hz
      simp only [Instr.extract, this]
      rfl
    · cases hst
  · -- call
    rename_i c hop
    split at hst
    · rename_i b hcal
      split at hst
      · rename_i args hargs
        exact bltn_ok S o b c hop hcal args hargs v t' h' hst hlim K Q hk
      · cases hst
    · rename_i f hcal
      split at hst
      · rename_i fv args hf hargs
        unfold callV at hst
        split at hst
        · rename_i g first captured
          split at hst
          · rename_i hpl
            simp only [Option.map_eq_some_iff, Prod.mk.injEq, Prod.exists] at hst
            obtain ⟨r, h2, hr, rfl, rfl, rfl⟩ := hst
            have hfv := evV_ok S.sr f _ hf
            simp only [VR] at hfv
            obtain ⟨f', c', he, hf', hc'⟩ := hfv
            have hav := evVs_ok S.sr _ _ hargs
            refine call_ok hc S o g _ (f' ++ c.args.toList.map a.eval ++ c') ((hf'.append hav).append hc') r h2 hr hlim ?_ K Q hk
            have e : execOp a.eval o = (do let d ← resolve a.eval c o.type; invoke d.target d.args) := by simp only [execOp, hop]
            rw [e]
            simp only [resolve, hcal, he, Deferred.ofValue, Sem.run_bind, Sem.run_pure, Result.andThen_ok, invoke]
            have e2 : ((⟨f'⟩ : Array Value) ++ Array.map a.eval c.args ++ (⟨c'⟩ : Array Value)) = ⟨f' ++ c.args.toList.map a.eval ++ c'⟩ := by apply Array.ext'; simp
            rw [e2]
            exact plainFn_ok hpl w _
          · cases hst
        · cases hst
      · cases hst
    · cases hst
  · cases hst

theorem wanted_ok (S : SR W E lam s.t w a.tmps) (ops : Array Oper) (o : Oper) (b : Bool) (h : wantedV ops s.t o = some b) : Region.wanted o (yielded ops a.tmps) = b := by
  unfold wantedV at h
  unfold Region.wanted yielded
  split at h
  · rename_i hg; rw [hg]; simpa using h
  · rename_i j want hg
    rw [hg]
    simp only
    split at h
    · rename_i oj hj
      split at h
      · rename_i d hd
        simp only [hj, Option.bind_some, hd]
        cases htd : s.t[d]? with
        | none =>
          rw [htd] at h
          have e : a.tmps[d]? = none := by
            apply Array.getElem?_eq_none
            rw [S.len]
            exact List.getElem?_eq_none_iff.1 htd
          simp only [Option.some.injEq] at h
          rw [e, ← h]; rfl
        | some u =>
          rw [htd] at h
          obtain ⟨x, hx, hr⟩ := S.val d u htd
          rw [hx]
          cases u <;> simp only at h <;> (first | (cases h; done) | skip)
          case bool c =>
            simp only [TR, VR] at hr
            subst hr
            simp only [Option.some.injEq] at h
            rw [← h]
            cases c <;> cases want <;> rfl
          case box l =>
            simp only [TR] at hr
            subst hr
            simp only [Option.some.injEq] at h
            rw [← h]; rfl
          all_goals
            have hh := VR.head hr
            simp only [V.head] at hh
            simp only [Option.some.injEq] at h
            rw [← h]
            cases x <;> first | rfl | (simp [headOf] at hh)
      · simp only [Option.some.injEq] at h
        rename_i hd
        simp only [hj, Option.bind_some, hd, Option.bind_none]
        rw [← h]; rfl
    · rename_i hj
      simp only [Option.some.injEq] at h
      simp only [hj, Option.bind_none]
      rw [← h]; rfl

theorem done_skip (S : StR P W lim E lam s a w) (d : Option Tmp) : Done P W lim E s.h w ⟨putV s.t d (.tup []), s.h⟩ (a.put d undef) w :=
  done_value S d (.tup []) undef (by simp [TV, VR, VRs, undef])

end
end Go.AM
