/-
  The effect of an operation on memory.
-/
import Derived.Test.YtmokkkbbbmcjnaaGreatDoorAmOps5
set_option linter.unusedSectionVars false
set_option linter.unusedSimpArgs false
set_option linter.unusedVariables false
namespace Go.AM

variable {P : Program} [Glob P]

structure Eff (P : Program) [Glob P] (W : Nat → Prop) (lim : Nat) (E : Emb) (h : Heap) (w : World) (E' : Emb) (h' : Heap) (w' : World) : Prop where
  hr : HR P W lim E' h' w'
  le : E.le E'
  new : ∀ b, E'.dom b → E.dom b ∨ (h.next ≤ b ∧ b < h'.next)
  touch : ∀ c, c < w.heap.size → (∀ b, E.dom b → isRw (h.get b) = true → (E.pl b).c ≠ c) → w'.heap[c]? = w.heap[c]?
  place : ∀ b, E'.dom b → E.dom b ∨ w.heap.size ≤ (E'.pl b).c ∨ ∃ b0, E.dom b0 ∧ isRw (h.get b0) = true ∧ (E'.pl b).c = (E.pl b0).c
  os : w'.os = w.os
  tape : w'.tape = w.tape
  output : w'.output = w.output
  size : w.heap.size ≤ w'.heap.size
  next : h.next ≤ h'.next

section
variable {W : Nat → Prop} {lim : Nat} {E E' : Emb} {h h' : Heap} {w w' : World}

theorem Eff.refl (H : HR P W lim E h w) : Eff P W lim E h w E h w :=
  ⟨H, Emb.le_refl E, fun _ h => .inl h, fun _ _ _ => rfl, fun _ h => .inl h, rfl, rfl, rfl, Nat.le_refl _, Nat.le_refl _⟩

theorem Eff.drew (H : HR P W lim E h w) : Eff P W lim E h w E h w.drew :=
  ⟨H.heap rfl, Emb.le_refl E, fun _ h => .inl h, fun _ _ _ => rfl, fun _ h => .inl h, rfl, rfl, rfl, Nat.le_refl _, Nat.le_refl _⟩

/-- Behind a draw. -/
theorem Eff.after_drew (H : Eff P W lim E h w.drew E' h' w') : Eff P W lim E h w E' h' w' :=
  ⟨H.hr, H.le, H.new, H.touch, H.place, H.os, H.tape, H.output, H.size, H.next⟩

theorem Eff.same (H0 : HR P W lim E h w) (H : Eff P W lim E h w E' h' w') : Same W w w' :=
  ⟨H.os, H.tape, H.output, H.size, fun c hc => H.touch c (by
    rcases Nat.lt_or_ge c w.heap.size with h | h
    · exact h
    · exact absurd (H0.top c h) hc) (fun b hb hr e => hc (e ▸ H0.own b hb hr))⟩

theorem Eff.sr {lam : Tmp → Nat} {t : List V} {tm : Array Value} (H : Eff P W lim E h w E' h' w') (S : SR W E lam t w tm) : SR W E' lam t w' tm :=
  S.world H.le (fun d l hd => H.touch _ (S.box d l hd).2.2 (fun b hb _ e => S.apart d l b hd hb e.symm)) H.size (fun d l b hd hb => by
    rcases H.place b hb with h1 | h1 | ⟨b0, h1, _, h3⟩
    · rw [(H.le b h1).2]; exact S.apart d l b hd h1
    · have := (S.box d l hd).2.2; omega
    · rw [h3]; exact S.apart d l b0 hd h1)

theorem Eff.alloc (H : HR P W lim E h w) (hlim : h.next < lim) (ty : TypeId) (l : List V) (esz : Nat) (arr : Array Value) (ty' : TypeId) (fz : Nat × Nat)
    (hl : l.length ≤ arr.size) (hv : VRs E l (arr.toList.take l.length)) (hc : ∀ y ∈ arr.toList.take l.length, isCell y = true) (hf : NoFreeze arr.size fz) (hes : esz = (szOf P ty).getD 0) (hty : ty' = ty) (htt : ty = Glob.bty P → arr.size = l.length) :
    Eff P W lim E h w (E.ext h.next ⟨w.heap.size, 0, arr.size, esz⟩) (h.alloc (.cells false ty l)) (w.alloc (.cells arr ty' fz)) :=
  ⟨H.alloc hlim ty l esz arr ty' fz hl hv hc hf hes hty htt, Emb.le_ext _ _ _ (H.new hlim), fun b hb => hb.imp id (fun e => by rw [e]; exact ⟨Nat.le_refl _, Nat.lt_succ_self _⟩), fun c hc _ => alloc_heap_lt w _ c hc, fun b hb => by
    rcases hb with hb | rfl
    · exact .inl hb
    · right; left; rw [Emb.ext_pl]; exact Nat.le_refl _, rfl, rfl, rfl, by simp, by simp⟩

theorem Eff.write (H : HR P W lim E h w) (b : Id) (ty : TypeId) (l l' : List V) (hb : E.dom b) (hg : h.get b = some (.cells false ty l)) (arr : Array Value)
    (hrow : RowIn E false l' (E.pl b).c (E.pl b).o (E.pl b).csz (setRowAt w (E.pl b).c arr).heap) (hll : l'.length = l.length) :
    Eff P W lim E h w E (h.set b (.cells false ty l')) (setRowAt w (E.pl b).c arr) :=
  ⟨H.write b ty l l' hb hg hrow (fun k hk => setRowAt_other w _ k arr hk) (setRowAt_size w _ arr) (by
      obtain ⟨cur, ty1, fz, g1, g2, _⟩ := (H.row b false ty l hb hg).ex
      obtain ⟨cur2, ty2, fz2, k1, k2, _⟩ := hrow.ex
      have e := setRowAt_heap w (E.pl b).c arr cur ty1 fz g1
      rw [e] at k1
      cases k1
      unfold World.shape?
      rw [e, g1]
      simp only [← k2, ← g2]) hll, Emb.le_refl E, fun _ h => .inl h,
    fun c _ hn => setRowAt_other w _ c arr (fun e => hn b hb (by rw [hg]; rfl) e.symm), fun _ h => .inl h, rfl, rfl, rfl, by rw [setRowAt_size]; exact Nat.le_refl _, Nat.le_refl _⟩

theorem Eff.move (H : HR P W lim E h w) (hlim : h.next < lim) (b : Id) (ty ty' : TypeId) (l l' : List V) (p : Pl) (hb : E.dom b) (hg : h.get b = some (.cells false ty l)) (hp : p.c = (E.pl b).c) (hes : p.esz = (szOf P ty').getD 0) (hnb : ty' ≠ Glob.bty P) (hty : ty' = ty) (hpo : p.o = (E.pl b).o) (hpc : p.csz = (E.pl b).csz) (arr : Array Value)
    (hrow : RowIn (E.ext h.next p) false l' p.c p.o p.csz (setRowAt w (E.pl b).c arr).heap) :
    Eff P W lim E h w (E.ext h.next p) ((h.set b .dead).alloc (.cells false ty' l')) (setRowAt w (E.pl b).c arr) :=
  ⟨H.move hlim b ty ty' l l' p hb hg hp hes hrow (fun k hk => setRowAt_other w _ k arr hk) (setRowAt_size w _ arr) hnb hty hpo hpc (by
      obtain ⟨cur, ty1, fz, g1, g2, _⟩ := (H.row b false ty l hb hg).ex
      obtain ⟨cur2, ty2, fz2, k1, k2, _⟩ := hrow.ex
      have e := setRowAt_heap w (E.pl b).c arr cur ty1 fz g1
      rw [hp, e] at k1
      cases k1
      unfold World.shape?
      rw [e, g1]
      simp only [← k2, ← g2, hpc]), Emb.le_ext _ _ _ (H.new hlim), fun b hb => hb.imp id (fun e => by rw [e]; exact ⟨Nat.le_refl _, Nat.lt_succ_self _⟩),
    fun c _ hn => setRowAt_other w _ c arr (fun e => hn b hb (by rw [hg]; rfl) e.symm), fun x hx => by
      rcases hx with hx | rfl
      · exact .inl hx
      · right; right; rw [Emb.ext_pl]; exact ⟨b, hb, by rw [hg]; rfl, hp⟩, rfl, rfl, rfl, by rw [setRowAt_size]; exact Nat.le_refl _, by simp⟩

theorem Eff.die_alloc (H : HR P W lim E h w) (hlim : h.next < lim) (b : Id) (hbn : b < h.next) (ty : TypeId) (l : List V) (esz : Nat) (arr : Array Value) (ty' : TypeId) (fz : Nat × Nat)
    (hl : l.length ≤ arr.size) (hv : VRs E l (arr.toList.take l.length)) (hc : ∀ y ∈ arr.toList.take l.length, isCell y = true) (hf : NoFreeze arr.size fz) (hes : esz = (szOf P ty).getD 0) (hty : ty' = ty) (htt : ty = Glob.bty P → arr.size = l.length) :
    Eff P W lim E h w (E.ext h.next ⟨w.heap.size, 0, arr.size, esz⟩) ((h.set b .dead).alloc (.cells false ty l)) (w.alloc (.cells arr ty' fz)) :=
  let K := Eff.alloc (H.die b hbn) hlim ty l esz arr ty' fz hl hv hc hf hes hty htt
  ⟨K.hr, K.le, K.new, fun c hc _ => alloc_heap_lt w _ c hc, fun b hb => by
    rcases hb with hb | rfl
    · exact .inl hb
    · right; left; show w.heap.size ≤ ((E.ext h.next _).pl h.next).c; rw [Emb.ext_pl]; exact Nat.le_refl _, rfl, rfl, rfl, K.size, K.next⟩

end

/-- What an operation on memory comes to. -/
def Comes' (P : Program) [Glob P] (W : Nat → Prop) (lim : Nat) (E : Emb) (h : Heap) (w : World) (v : V) (h' : Heap) (r : Result Value) : Prop :=
  ∃ z w' E', r = .ok z w' ∧ VR E' v z ∧ Eff P W lim E h w E' h' w'

/-! ### append -/

theorem zok_ok {i : TypeInfo} (h : zok i = true) : ∃ z, i.zero = some z ∧ z.cells.size = i.size := by
  unfold zok at h
  split at h
  · rename_i z hz; exact ⟨z, hz, by simpa using h⟩
  · cases h

theorem VRs.take_append {E : Emb} {l : List V} {xs rest : List Value} (h : VRs E l xs) : VRs E l ((xs ++ rest).take l.length) := by
  rw [← h.length, List.take_left]; exact h

theorem new_row {W : Nat → Prop} {lim : Nat} {E : Emb} {h : Heap} {w : World} (H : HR P W lim E h w) (hlim : h.next < lim) (b? : Option Id) (hbn : ∀ b, b? = some b → b < h.next) (e : TypeId) (i : TypeInfo) (z : Value) (hi : P.info? e = some i) (hz : z.cells.size = i.size) (hs : 0 < i.size) (hne : e ≠ Glob.bty P)
    (need sCap : Nat) (l : List V) (xs : List Value) (hv : VRs E l xs) (hc : ∀ y ∈ xs, isCell y = true) (hl : xs.length = need * i.size) (h' : Heap)
    (hh : h' = match b? with | some b => (h.set b .dead).alloc (.cells false e l) | none => h.alloc (.cells false e l)) :
    Comes' P W lim E h w (.slice h.next 0 need none) h' (.ok (.slice (some ⟨w.heap.size, 0, none⟩) need (grownCap w need sCap e))
      (w.drew.alloc (.cells (xs.toArray ++ Builtin.zeroCells z.cells (grownCap w need sCap e - need)) e))) := by
  have hge := grownCap_ge w need sCap e
  have hsz : (xs.toArray ++ Builtin.zeroCells z.cells (grownCap w need sCap e - need)).size = grownCap w need sCap e * i.size := by
    simp only [Array.size_append, List.size_toArray, size_zeroCells, hz, hl, ← Nat.add_mul]
    congr 1; omega
  have hlen := hv.length
  have htl : (xs.toArray ++ Builtin.zeroCells z.cells (grownCap w need sCap e - need)).toList.take l.length = xs := by
    simp only [Array.toList_append, ← hlen]
    exact List.take_left
  have hes : i.size = (szOf P e).getD 0 := by simp [szOf, hi]
  have h1 : l.length ≤ (xs.toArray ++ Builtin.zeroCells z.cells (grownCap w need sCap e - need)).size := by
    rw [hsz, ← hlen, hl]; exact Nat.mul_le_mul_right _ hge
  have hcap : (⟨w.heap.size, 0, (xs.toArray ++ Builtin.zeroCells z.cells (grownCap w need sCap e - need)).size, i.size⟩ : Pl).cap 0 = grownCap w need sCap e := by
    simp only [Pl.cap, hsz, Nat.add_zero, Nat.sub_zero]
    exact Nat.mul_div_cancel _ hs
  refine ⟨_, _, E.ext h.next ⟨w.heap.size, 0, (xs.toArray ++ Builtin.zeroCells z.cells (grownCap w need sCap e - need)).size, i.size⟩, rfl, ?_, ?_⟩
  · simp only [VR, Emb.ext_pl, hcap]
    exact ⟨Emb.ext_dom _ _ _, hge, _, rfl, .inl rfl⟩
  · have HD : HR P W lim E h w.drew := H.heap rfl
    cases b? with
    | none =>
      subst hh
      exact (Eff.alloc HD hlim e l i.size _ e (0, 0) h1 (by rw [htl]; exact hv) (by rw [htl]; exact hc) (fun i hi => by simp) hes rfl (fun h => absurd h hne)).after_drew
    | some b =>
      subst hh
      exact (Eff.die_alloc HD hlim b (hbn b rfl) e l i.size _ e (0, 0) h1 (by rw [htl]; exact hv) (by rw [htl]; exact hc) (fun i hi => by simp) hes rfl (fun h => absurd h hne)).after_drew

theorem appendS_ok {W : Nat → Prop} {lim : Nat} {E : Emb} {h : Heap} {w : World} (H : HR P W lim E h w) (t0 t1 ty : TypeId) (htz : t0 < P.types.size) (x y : V) (v : V) (h' : Heap) (hv : appendS P t0 t1 h x y = some (v, h')) (hlim : h'.next ≤ lim) (x' y' : Value) (hx : VR E x x') (hy : VR E y y') :
    Comes' P W lim E h w v h' ((Builtin.append_ #[t0, t1] ty #[x', y']).run P w) := by
  unfold appendS at hv
  split at hv
  case h_2 => cases hv
  rename_i e hu0
  split at hv
  case h_2 => cases hv
  rename_i i u1 hi hu1
  simp only at hv
  split at hv
  · cases hv
  rename_i hcond
  have hs0 : 0 < i.size := by
    rcases Nat.eq_zero_or_pos i.size with hz | hz
    · exact absurd (.inl hz) hcond
    · exact hz
  have hzok : zok i = true := by
    cases hz : zok i with
    | true => rfl
    | false => exact absurd (.inr (.inl hz)) hcond
  have hu1' : u1 = .string ∨ ∃ e', u1 = .slice e' := by
    cases hsrc : srcOk u1 with
    | false => exact absurd (.inr (.inr hsrc)) hcond
    | true => cases u1 <;> simp [srcOk] at hsrc <;> simp
  obtain ⟨z, hz1, hz2⟩ := zok_ok hzok
  have hszE : szOf P e = some i.size := by simp [szOf, hi]
  split at hv
  case h_1 => cases hv
  rename_i m new hcells
  obtain ⟨hlen, hnl, nxs, hnv, hnc, hfirst⟩ := cellsOf_ok H i.size y m new hcells y' hy
  have hnxl := hnv.length
  have hf : (Builtin.firstCells i.size m y').run P w = .ok nxs.toArray w := by
    have := hfirst w rfl m (Nat.le_refl _)
    rwa [List.take_of_length_le (by omega)] at this
  have hfd : (Builtin.firstCells i.size m y').run P w.drew = .ok nxs.toArray w.drew := by
    have := hfirst w.drew rfl m (Nat.le_refl _)
    rwa [List.take_of_length_le (by omega)] at this
  split at hv
  · -- behind nil
    simp only [VR] at hx
    subst hx
    split at hv
    · rename_i hm
      cases hv
      subst hm
      have hnx : nxs = [] := List.eq_nil_of_length_eq_zero (by omega)
      subst hnx
      exact ⟨_, _, E, run_append_in w w t0 t1 ty e u1 i hu0 hu1 hu1' hi none 0 0 0 y' [] hlen hf (by omega) rfl, by simp [VR], Eff.refl H⟩
    · rename_i hm
      split at hv
      · rename_i hroom
        cases hv
        obtain ⟨hr1, hr2⟩ := hroom
        simp only [room] at hr1 hr2
        rw [run_append_out w t0 t1 ty e u1 i z hu0 hu1 hu1' hi hz1 none 0 0 m y' [] nxs hlen hfd (by simp [Builtin.firstCells]) (by omega) (by omega) (growslice_fits (by omega) (by simpa using Nat.le_trans hr1 (by omega)))]
        have := new_row H hlim none (fun _ h => by cases h) e i z hi hz2 hs0 (fun h => Glob.noslice t0 htz (h ▸ hu0)) (0 + m) 0 new nxs hnv hnc (by rw [Nat.zero_add]; omega) _ rfl
        simpa using this
      · cases hv
  · rename_i b off len cap
    split at hv
    case h_2 => cases hv
    rename_i ro ty0 row hg
    split at hv
    case isFalse => cases hv
    rename_i hroom
    obtain ⟨hr1, hr2⟩ := hroom
    simp only [room] at hr1 hr2
    -- the old elements
    have hold : ∀ (k : Nat) (x' : Value) (old : List V), VR E (.slice b off len cap) x' → loadRow row off (len * i.size) = some old → ∃ oxs, VRs E old oxs ∧ (∀ z ∈ oxs, isCell z = true) ∧ oxs.length = len * i.size ∧ (Builtin.firstCells i.size len x').run P w.drew = .ok oxs.toArray w.drew := by
      intro k x' old hx hl
      have hc : cellsOfV i.size h (.slice b off len cap) = some (len, old) := by simp [cellsOfV, Heap.row, hg, hl]
      obtain ⟨_, hol, oxs, hov, hoc, hof⟩ := cellsOf_ok H i.size _ len old hc x' hx
      have hoxl := hov.length
      refine ⟨oxs, hov, hoc, by omega, ?_⟩
      have := hof w.drew rfl len (Nat.le_refl _)
      rwa [List.take_of_length_le (by omega)] at this
    -- writing new cells in the block itself
    have hin : ∀ (K : Nat) (a : Addr) (h1 : Heap), (a = (E.pl b).addr off ∨ K = 0) → E.dom b → len + m ≤ K → m ≠ 0 → h.write b (off + len * i.size) new = some h1 →
        ∃ w', (Builtin.append_ #[t0, t1] ty #[.slice (some a) len K, y']).run P w = .ok (.slice (some a) (len + m) K) w' ∧ a = (E.pl b).addr off ∧ Eff P W lim E h w E h1 w' := by
      intro K a h1 ha hd hk hm hw
      have ha' : a = (E.pl b).addr off := by
        rcases ha with ha | ha
        · exact ha
        · omega
      subst ha'
      unfold Heap.write at hw
      rw [hg] at hw
      cases ro with
      | true => cases hw
      | false =>
        simp only [Option.map_eq_some_iff] at hw
        obtain ⟨l', hl', rfl⟩ := hw
        obtain ⟨arr, hst, _, hrow⟩ := (H.row b false ty0 row hd hg).store P (off + len * i.size) new nxs hl' hnv hnc
        refine ⟨_, run_append_in w _ t0 t1 ty e u1 i hu0 hu1 hu1' hi _ len K m y' nxs hlen hf hk ?_, rfl, Eff.write H b ty0 row l' hd hg arr hrow (storeRow_len hl')⟩
        simp only
        rw [Pl.addr_add]
        exact hst
    split at hv
    · -- the capacity is known
      rename_i k
      simp only [VR] at hx
      have hx0 : VR E (.slice b off len (some k)) x' := by simp only [VR]; exact hx
      obtain ⟨hd, hlk, a, rfl, ha⟩ := hx
      split at hv
      · rename_i hk
        split at hv
        · rename_i hm
          cases hv
          subst hm
          have hnx : nxs = [] := List.eq_nil_of_length_eq_zero (by omega)
          subst hnx
          refine ⟨_, _, E, run_append_in w w t0 t1 ty e u1 i hu0 hu1 hu1' hi (some a) len k 0 y' [] hlen hf (by omega) rfl, ?_, Eff.refl H⟩
          simp only [VR]
          exact ⟨hd, hlk, a, by simp, ha⟩
        · rename_i hm
          split at hv
          · rename_i h1 hw
            cases hv
            obtain ⟨w', hrun, ha', heff⟩ := hin k a _ ha hd hk hm hw
            refine ⟨_, w', E, hrun, ?_, heff⟩
            simp only [VR]
            exact ⟨hd, hk, a, rfl, ha⟩
          · cases hv
      · rename_i hk
        split at hv
        · rename_i old hold'
          cases hv
          obtain ⟨oxs, hov, hoc, hol, hof⟩ := hold k _ old hx0 hold'
          rw [run_append_out w t0 t1 ty e u1 i z hu0 hu1 hu1' hi hz1 (some a) len k m y' oxs nxs hlen hfd hof (by omega) (by omega) (growslice_fits (by omega) (Nat.le_trans hr1 (by omega)))]
          have := new_row H hlim none (fun _ h => by cases h) e i z hi hz2 hs0 (fun h => Glob.noslice t0 htz (h ▸ hu0)) (len + m) k (old ++ new) (oxs ++ nxs) (hov.append hnv) (by
            intro y hy; simp only [List.mem_append] at hy; rcases hy with hy | hy
            · exact hoc y hy
            · exact hnc y hy) (by rw [List.length_append, hol, hnxl, hnl, Nat.add_mul]) _ rfl
          simpa using this
        · cases hv
    · -- it goes as far as the block
      have hx0 := hx
      simp only [VR] at hx
      obtain ⟨hd, hlk, a, rfl, ha⟩ := hx
      split at hv
      · rename_i hm
        cases hv
        subst hm
        have hnx : nxs = [] := List.eq_nil_of_length_eq_zero (by omega)
        subst hnx
        refine ⟨_, _, E, run_append_in w w t0 t1 ty e u1 i hu0 hu1 hu1' hi (some a) len _ 0 y' [] hlen hf (by omega) rfl, ?_, Eff.refl H⟩
        simp only [VR]
        exact ⟨hd, hlk, a, by simp, ha⟩
      · rename_i hm
        split at hv
        · cases hv
        rename_i hts
        have hts' : szOf P ty0 = some i.size := by simpa using hts
        have hrin := H.row b ro ty0 row hd hg
        have hez : (E.pl b).esz = i.size := by rw [H.esz b ro ty0 row hd hg, hts']; rfl
        split at hv
        · rename_i hfit
          split at hv
          · rename_i h1 hw
            cases hv
            have hk : len + m ≤ (E.pl b).cap off := cap_ge hrin off _ (by omega) (by rw [hez]; exact hfit)
            obtain ⟨w', hrun, ha', heff⟩ := hin _ a _ ha hd hk hm hw
            refine ⟨_, w', E, hrun, ?_, heff⟩
            simp only [VR]
            exact ⟨hd, hk, a, rfl, ha⟩
          · cases hv
        · rename_i hfit
          split at hv
          · rename_i hfront
            obtain ⟨hfront, hro, hoff0, hte⟩ := hfront
            cases hv
            subst hro
            obtain ⟨arr, ty1, fz, g1, g2, g3, g4, g5, g6⟩ := hrin.ex
            by_cases hk : len + m ≤ (E.pl b).cap off
            · -- in the block itself, behind what we know of it
              have ha' : a = (E.pl b).addr off := by
                rcases ha with ha | ha
                · exact ha
                · omega
              subst ha'
              have hcsz : (E.pl b).o + off + (len + m) * i.size ≤ arr.size := by
                unfold Pl.cap at hk
                rw [hez, g2, Nat.le_div_iff_mul_le hs0] at hk
                have h0 : 0 < (len + m) * i.size := Nat.mul_pos (by omega) hs0
                omega
              have hmul : (len + m) * i.size = len * i.size + m * i.size := Nat.add_mul _ _ _
              have hst := run_storeCells_nf P (E.pl b).c ((E.pl b).o + (off + len * i.size)) ty1 fz nxs 0 arr w g1 (g6 rfl) (by omega) hnc
              refine ⟨_, _, E.ext h.next ⟨(E.pl b).c, (E.pl b).o + off, (E.pl b).csz, (E.pl b).esz⟩, run_append_in w _ t0 t1 ty e u1 i hu0 hu1 hu1' hi _ len _ m y' nxs hlen hf hk (by simp only; rw [Pl.addr_add]; exact hst), ?_, ?_⟩
              · simp only [VR, Emb.ext_pl]
                have hcap : (⟨(E.pl b).c, (E.pl b).o + off, (E.pl b).csz, (E.pl b).esz⟩ : Pl).cap 0 = (E.pl b).cap off := by simp [Pl.cap]
                rw [hcap]
                exact ⟨Emb.ext_dom _ _ _, hk, _, rfl, .inl (by simp [Pl.addr])⟩
              · refine Eff.move H hlim b ty0 e row (row.drop off ++ new) ⟨(E.pl b).c, (E.pl b).o + off, (E.pl b).csz, (E.pl b).esz⟩ hd hg rfl (by simp only; rw [hez, hszE]; rfl) (fun h => Glob.noslice t0 htz (h ▸ hu0)) hte (by simp only [hoff0, Nat.add_zero]) rfl _ ?_
                have hle := Emb.le_ext E h.next ⟨(E.pl b).c, (E.pl b).o + off, (E.pl b).csz, (E.pl b).esz⟩ (H.new hlim)
                have hsz2 : ((arr.toList.take ((E.pl b).o + (off + len * i.size) + 0) ++ nxs ++ arr.toList.drop ((E.pl b).o + (off + len * i.size) + 0 + nxs.length)).toArray).size = arr.size := by
                  simp only [List.size_toArray, List.length_append, List.length_take, List.length_drop, Array.length_toList]; omega
                have hl' : (row.drop off ++ new).length = (len + m) * i.size := by rw [List.length_append, List.length_drop]; omega
                have e1 : (((arr.toList.take ((E.pl b).o + (off + len * i.size) + 0) ++ nxs ++ arr.toList.drop ((E.pl b).o + (off + len * i.size) + 0 + nxs.length)).toArray).toList.drop ((E.pl b).o + off)).take (row.drop off ++ new).length =
                    (((arr.toList.drop (E.pl b).o).take row.length).drop off) ++ nxs := by
                  rw [hl']
                  apply List.ext_getElem?
                  intro j
                  simp only [List.getElem?_take, List.getElem?_drop, List.getElem?_append, List.length_take, List.length_append, List.length_drop, Array.length_toList, Nat.add_zero]
                  have m1 : min ((E.pl b).o + (off + len * i.size)) arr.size = (E.pl b).o + (off + len * i.size) := by omega
                  have m2 : min row.length (arr.size - (E.pl b).o) - off = len * i.size := by omega
                  simp only [m1, m2]
                  by_cases hj : j < (len + m) * i.size
                  · simp only [hj, if_true]
                    by_cases hj1 : j < len * i.size
                    · simp only [hj1, if_true, show (E.pl b).o + off + j < (E.pl b).o + (off + len * i.size) + nxs.length from by omega, show (E.pl b).o + off + j < (E.pl b).o + (off + len * i.size) from by omega, show off + j < row.length from by omega]
                      congr 1; omega
                    · simp only [hj1, if_false, show (E.pl b).o + off + j < (E.pl b).o + (off + len * i.size) + nxs.length from by omega, if_true, show ¬ (E.pl b).o + off + j < (E.pl b).o + (off + len * i.size) from by omega]
                      congr 1; omega
                  · simp only [hj, if_false]
                    rw [if_neg (by omega)]
                    exact (List.getElem?_eq_none (by omega)).symm
                refine ⟨_, ty1, fz, setRowAt_heap w _ _ arr ty1 fz g1, by rw [hsz2]; exact g2, by rw [hsz2, hl']; exact hcsz, ?_, ?_, fun _ => by rw [hsz2]; exact g6 rfl⟩
                · rw [e1]; exact VRs.mono hle _ _ ((g4.drop off).append hnv)
                · rw [e1]
                  intro y hy
                  simp only [List.mem_append] at hy
                  rcases hy with hy | hy
                  · exact g5 y (List.mem_of_mem_drop hy)
                  · exact hnc y hy
            · -- in a new one
              have hlr : loadRow row off (len * i.size) = some (row.drop off) := by
                unfold loadRow
                rw [if_pos (by omega), List.take_of_length_le (by rw [List.length_drop]; omega)]
              obtain ⟨oxs, hov, hoc, hol, hof⟩ := hold 0 _ _ hx0 hlr
              rw [run_append_out w t0 t1 ty e u1 i z hu0 hu1 hu1' hi hz1 (some a) len _ m y' oxs nxs hlen hfd hof (by omega) (by omega) (growslice_fits (by omega) (Nat.le_trans hr1 (by omega)))]
              have := new_row H hlim (some b) (fun _ h => by cases h; exact Heap.get_lt hg) e i z hi hz2 hs0 (fun h => Glob.noslice t0 htz (h ▸ hu0)) (len + m) ((E.pl b).cap off) (row.drop off ++ new) (oxs ++ nxs) (hov.append hnv) (by
                intro y hy; simp only [List.mem_append] at hy; rcases hy with hy | hy
                · exact hoc y hy
                · exact hnc y hy) (by rw [List.length_append, hol, hnxl, hnl, Nat.add_mul]) _ rfl
              simpa using this
          · cases hv
  · cases hv

end Go.AM
