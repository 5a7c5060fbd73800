/-
  Functions that read what lies behind their slices, and tell a value without addresses: what they tell of a small memory with just these rows, they tell of any.
-/
import Derived.Test.YtmokkkbbbmcjnaaGreatDoorAmTell
set_option linter.unusedSectionVars false
set_option linter.unusedSimpArgs false
set_option linter.unusedVariables false
namespace Go.AM

variable {P : Program} [Glob P]

def capOf : V → Option Nat
  | .int _ k => some k.toNat
  | _ => none

/-- The digest's arguments, over blocks number k, k + 1, ..; and these blocks. -/
def und : List V → Nat → List V × List Obj
  | [], _ => ([], [])
  | v :: l, k => match v with
    | .tup [.tup row, .int _ off, .int _ len, c, .int _ ty] => (.slice k off.toNat len.toNat (capOf c) :: (und l (k + 1)).1, .cells true ty.toNat row :: (und l (k + 1)).2)
    | v => (v :: (und l k).1, (und l k).2)

def allocs (h : Heap) : List Obj → Heap
  | [] => h
  | o :: l => allocs (h.alloc o) l

theorem allocs_next : ∀ (l : List Obj) (h : Heap), (allocs h l).next = h.next + l.length
  | [], h => rfl
  | o :: l, h => by simp only [allocs, allocs_next l, Heap.next_alloc, List.length_cons]; omega

theorem allocs_get : ∀ (l : List Obj) (h : Heap) (b : Nat), (allocs h l).get b = if b < h.next then h.get b else l[b - h.next]?
  | [], h, b => by
    simp only [allocs, List.getElem?_nil]
    split
    · rfl
    · rename_i hb; exact Heap.get_ge (Nat.not_lt.1 hb)
  | o :: l, h, b => by
    have hn : (h.alloc o).next = h.next + 1 := rfl
    show (allocs (h.alloc o) l).get b = _
    rw [allocs_get l (h.alloc o) b]
    by_cases h1 : b < h.next
    · have h2 : b < (h.alloc o).next := by omega
      have h3 : b ≠ h.next := by omega
      rw [if_pos h2, if_pos h1, Heap.get_alloc_ne _ _ _ h3]
    · rw [if_neg h1]
      by_cases h2 : b = h.next
      · have h3 : b < (h.alloc o).next := by omega
        rw [if_pos h3]
        subst h2
        rw [Heap.get_alloc_same]
        simp
      · have h3 : ¬ b < (h.alloc o).next := by omega
        rw [if_neg h3, hn, show b - h.next = (b - (h.next + 1)) + 1 by omega]
        simp

/-- What lies behind holds no address. -/
def rowsFlat : List V → Bool
  | [] => true
  | .tup (.tup row :: _) :: l => flats row && rowsFlat l
  | _ :: l => rowsFlat l

/-- The slices' blocks. -/
def idsOf : List V → List Id
  | [] => []
  | .slice b _ _ _ :: l => b :: idsOf l
  | _ :: l => idsOf l

theorem und_flat {v : V} {l : List V} {k : Nat} (hv : flat v = true) (ht : v.isTup = false) : und (v :: l) k = (v :: (und l k).1, (und l k).2) := by
  cases v <;> first | rfl | cases hv | cases ht

theorem dig_cases {h : Heap} {v d : V} (hd : dig h v = some d) : (∃ b off len cap ro ty row, v = .slice b off len cap ∧ h.get b = some (.cells ro ty row) ∧ d = .tup [.tup row, .int .i64 off, .int .i64 len, capV cap, .int .i64 ty]) ∨
    ((∀ b off len cap, v ≠ .slice b off len cap) ∧ flat v = true ∧ v.isTup = false ∧ d = v) := by
  unfold dig at hd
  split at hd
  · rename_i b off len cap
    split at hd
    · rename_i ro ty row hg
      cases hd
      exact .inl ⟨b, off, len, cap, ro, ty, row, rfl, hg, rfl⟩
    · cases hd
  · cases hd
  · rename_i hns hnt
    split at hd
    · rename_i hf
      cases hd
      refine .inr ⟨fun b off len cap e => hns b off len cap e, hf, ?_, rfl⟩
      cases v <;> first | rfl | exact absurd rfl (hnt _)
    · cases hd

theorem und_ok {E : Emb} {h : Heap} : ∀ (args dargs : List V) (args' : List Value) (k : Nat), digs h args = some dargs → rowsFlat dargs = true → VRs E args args' →
    (∀ E' : Emb, (∀ (j : Nat) (b : Id), (idsOf args)[j]? = some b → E'.dom (k + j) ∧ E'.pl (k + j) = E.pl b) → VRs E' (und dargs k).1 args') ∧
    (und dargs k).2.length = (idsOf args).length ∧
    ∀ (j : Nat) (o : Obj), (und dargs k).2[j]? = some o → ∃ b ro ty row, (idsOf args)[j]? = some b ∧ E.dom b ∧ h.get b = some (.cells ro ty row) ∧ o = .cells true ty row ∧ flats row = true
  | [], dargs, args', k, hd, hfl, hv => by
    simp only [digs, Option.some.injEq] at hd
    subst hd
    refine ⟨fun E' _ => by simpa only [und, VRs] using hv, rfl, fun j o ho => by simp [und] at ho⟩
  | v :: l, dargs, args', k, hd, hfl, hv => by
    simp only [digs] at hd
    split at hd
    · rename_i d ds hdv hdl
      cases hd
      simp only [VRs] at hv
      obtain ⟨y, ys, rfl, hvy, hvl⟩ := hv
      rcases dig_cases hdv with ⟨b, off, len, cap, ro, ty, row, rfl, hg, rfl⟩ | ⟨hns, hf, ht, rfl⟩
      · simp only [rowsFlat, Bool.and_eq_true] at hfl
        have hf := hfl.1
        obtain ⟨h1, h2, h3⟩ := und_ok l ds ys (k + 1) hdl hfl.2 hvl
        have hdom : E.dom b := by cases cap <;> (simp only [VR] at hvy; exact hvy.1)
        have he : und (.tup [.tup row, .int .i64 off, .int .i64 len, capV cap, .int .i64 ty] :: ds) k = (.slice k off len cap :: (und ds (k + 1)).1, .cells true ty row :: (und ds (k + 1)).2) := by
          cases cap <;> simp [und, capV, capOf]
        rw [he]
        refine ⟨fun E' hE => ?_, by simp [idsOf, h2], fun j o ho => ?_⟩
        · simp only [VRs]
          have h0 := hE 0 b (by simp [idsOf])
          refine ⟨y, ys, rfl, ?_, h1 E' (fun j b' hj => ?_)⟩
          · cases cap with
            | none =>
              simp only [VR] at hvy ⊢
              simp only [Nat.add_zero] at h0
              rw [h0.2]
              exact ⟨h0.1, hvy.2⟩
            | some kk =>
              simp only [VR] at hvy ⊢
              simp only [Nat.add_zero] at h0
              rw [h0.2]
              exact ⟨h0.1, hvy.2⟩
          · have := hE (j + 1) b' (by simpa [idsOf] using hj)
            rwa [show k + (j + 1) = k + 1 + j by omega] at this
        · cases j with
          | zero =>
            simp at ho
            subst ho
            exact ⟨b, ro, ty, row, by simp [idsOf], hdom, hg, rfl, hf⟩
          | succ j =>
            simp at ho
            obtain ⟨b', ro', ty', row', e1, e2⟩ := h3 j o ho
            exact ⟨b', ro', ty', row', by simpa [idsOf] using e1, e2⟩
      · have hfl2 : rowsFlat ds = true := by cases d <;> first | exact hfl | cases ht
        obtain ⟨h1, h2, h3⟩ := und_ok l ds ys k hdl hfl2 hvl
        have hi : idsOf (d :: l) = idsOf l := by
          cases d <;> first | rfl | exact absurd rfl (hns _ _ _ _)
        rw [und_flat hf ht, hi]
        refine ⟨fun E' hE => ?_, h2, h3⟩
        simp only [VRs]
        exact ⟨y, ys, rfl, VR.flat d y hf hvy, h1 E' hE⟩
    · cases hd

/-- A function that we know by heart, of digests. -/
def ReadKnows (P : Program) (X : Ext) (f : FuncId) (r : List V → Option V) : Prop := ∀ dargs v, r dargs = some v → flat v = true ∧ rowsFlat dargs = true ∧ ∃ n h', callN P X n f (und dargs 0).1 (allocs h0 (und dargs 0).2) = some (v, h')

def readExt (r : List V → Option V) : List V → Heap → Option (V × Heap) := fun args h => match digs h args with
  | some dargs => (r dargs).map (·, h)
  | none => none

theorem callOk_read {call : CallF} (hc : CallOk P call) (f : FuncId) (args dargs : List V) (v : V) (h h' : Heap) (hd : digs h args = some dargs) (hrun : call f (und dargs 0).1 (allocs h0 (und dargs 0).2) = some (v, h')) (hv : flat v = true) (hfl : rowsFlat dargs = true) (W : Nat → Prop) (lim : Nat) (E : Emb) (w : World) (args' : List Value)
    (H : HR P W lim E h w) (hr : VRs E args args') : Calls P f ⟨args'⟩ w fun e w' => ∃ x E', e = .returned x ∧ HR P W lim E' h w' ∧ VR E' v x ∧ Fwd W E h w E' h w' := by
  obtain ⟨k1, k2, k3⟩ := und_ok args dargs args' 0 hd hfl hr
  let E0 : Emb := ⟨fun b => b < (und dargs 0).2.length, fun b => E.pl ((idsOf args).getD b 0)⟩
  have hn : (allocs h0 (und dargs 0).2).next = (und dargs 0).2.length := by rw [allocs_next]; simp
  have hg : ∀ b, (allocs h0 (und dargs 0).2).get b = (und dargs 0).2[b]? := fun b => by rw [allocs_get]; simp
  have at0 : ∀ b, E0.dom b → ∃ b' ro ty row, (und dargs 0).2[b]? = some (.cells true ty row) ∧ E0.pl b = E.pl b' ∧ E.dom b' ∧ h.get b' = some (.cells ro ty row) ∧ flats row = true := by
    intro b hb
    obtain ⟨o, ho⟩ : ∃ o, (und dargs 0).2[b]? = some o := ⟨(und dargs 0).2[b]'hb, List.getElem?_eq_getElem hb⟩
    obtain ⟨b', ro, ty, row, e1, e2, e3, rfl, e4⟩ := k3 b o ho
    refine ⟨b', ro, ty, row, ho, ?_, e2, e3, e4⟩
    show E.pl ((idsOf args).getD b 0) = _
    rw [List.getD_eq_getElem?_getD, e1]; rfl
  have HR0 : HR P (fun c => w.heap.size ≤ c) h'.next E0 (allocs h0 (und dargs 0).2) w := by
    refine ⟨fun b hb => .inl (by rw [hn]; exact hb), fun b hb => ?_, fun b ro ty l hb hgb => ?_, fun b hb hrw => ?_, fun b ro ty l hb hgb => ?_, fun b b' hb hb' hne hrw => ?_, fun _ h => h, Glob.sub H.glob (fun c hc => .inr hc), fun b ty l hb hgb => ?_⟩
    · obtain ⟨b', ro, ty, row, e1, e2, e3, e4, e5⟩ := at0 b hb
      rw [e2]; exact H.size b' e3
    · obtain ⟨b', ro', ty', row, e1, e2, e3, e4, e5⟩ := at0 b hb
      rw [hg, e1] at hgb
      cases hgb
      rw [e2]
      have hrow := H.row b' ro' _ _ e3 e4
      obtain ⟨arr, ty2, fz, q1, q2, q3, q4, q5, q6⟩ := hrow.ex
      exact ⟨arr, ty2, fz, q1, q2, q3, VRs.flat _ _ e5 q4, q5, fun h => by cases h⟩
    · obtain ⟨b', ro', ty', row, e1, e2, e3, e4, e5⟩ := at0 b hb
      rw [hg, e1] at hrw
      cases hrw
    · obtain ⟨b', ro', ty', row, e1, e2, e3, e4, e5⟩ := at0 b hb
      rw [hg, e1] at hgb
      cases hgb
      rw [e2]; exact H.esz b' ro' _ _ e3 e4
    · obtain ⟨b2, ro', ty', row, e1, e2, e3, e4, e5⟩ := at0 b hb
      rw [hg, e1] at hrw
      cases hrw
    · obtain ⟨b2, ro', ty', row, e1, e2, e3, e4, e5⟩ := at0 b hb
      rw [hg, e1] at hgb
      cases hgb
  have hargs : VRs E0 (und dargs 0).1 args' := k1 E0 (fun j b hj => by
    refine ⟨?_, ?_⟩
    · show 0 + j < _
      rw [k2, Nat.zero_add]
      rcases Nat.lt_or_ge j (idsOf args).length with h | h
      · exact h
      · rw [List.getElem?_eq_none h] at hj; cases hj
    · show E.pl ((idsOf args).getD (0 + j) 0) = _
      rw [Nat.zero_add, List.getD_eq_getElem?_getD, hj]; rfl)
  refine Calls.mono (hc f _ _ v h' hrun (fun c => w.heap.size ≤ c) h'.next E0 w args' (Nat.le_refl _) HR0 hargs) ?_
  rintro e w' ⟨x, E', rfl, _, hx, fw⟩
  have hs := fw.same
  refine ⟨x, E, rfl, ⟨H.lt, fun b hb => Nat.lt_of_lt_of_le (H.size b hb) hs.size, fun b ro ty l hb hg => (H.row b ro ty l hb hg).of_eq (hs.heap _ (fun h1 => absurd (H.size b hb) (Nat.not_lt.2 h1))), H.own, H.esz, H.inj, fun c hc => H.top c (Nat.le_trans hs.size hc), Glob.same H.glob hs.size (fun c hc => hs.heap c (fun h1 => hc (H.top c h1))), fun b ty l hb hg => by rw [shape_of (hs.heap _ (fun h1 => absurd (H.size b hb) (Nat.not_lt.2 h1)))]; exact H.bld b ty l hb hg⟩, VR.flat _ _ hv hx, Emb.le_refl E, fun b hb => .inl hb, hs.weaken H.top, Nat.le_refl _⟩

/-! ### All that we know by heart: by values, and by digests -/

structure Known where
  f : FuncId
  r : List V → Option V

def findK (f : FuncId) : List Known → Option (List V → Option V)
  | [] => none
  | k :: l => if Nat.beq k.f f then some k.r else findK f l

def knownExt (l : List Known) : Ext := fun f => (findK f l).map readExt

theorem findK_mem {f : FuncId} {r : List V → Option V} : ∀ {l : List Known}, findK f l = some r → ⟨f, r⟩ ∈ l
  | [], h => by cases h
  | k :: l, h => by
    simp only [findK] at h
    split at h
    · rename_i hk
      cases h
      rw [← Nat.eq_of_beq_eq_true hk]; exact List.mem_cons_self
    · exact List.mem_cons_of_mem _ (findK_mem h)

theorem knownExt_mono (l : List Known) : ExtMono (knownExt l) := by
  intro f g hg args h v h' hr
  simp only [knownExt, Option.map_eq_some_iff] at hg
  obtain ⟨k, _, rfl⟩ := hg
  unfold readExt at hr
  split at hr
  · simp only [Option.map_eq_some_iff, Prod.mk.injEq] at hr
    obtain ⟨_, _, _, rfl⟩ := hr
    exact Mono.refl _
  · cases hr

theorem knownExt_ok (hm : P.follows .mixedOrders = true) {l : List Known} (hl : ∀ x ∈ l, ∃ X, ExtOk P X ∧ ExtMono X ∧ ReadKnows P X x.f x.r) : ExtOk P (knownExt l) := by
  intro f g hg
  simp only [knownExt, Option.map_eq_some_iff] at hg
  obtain ⟨k, hk, rfl⟩ := hg
  obtain ⟨X, hX, hXm, hkn⟩ := hl _ (findK_mem hk)
  intro f' args h v h' hr W lim E w args' hlim H hvr
  simp only at hr
  split at hr
  · rename_i hf
    subst hf
    unfold readExt at hr
    split at hr
    · rename_i dargs hd
      simp only [Option.map_eq_some_iff, Prod.mk.injEq] at hr
      obtain ⟨v', hv', rfl, rfl⟩ := hr
      obtain ⟨h2, hfl, n, h3, h4⟩ := hkn dargs v' hv'
      exact callOk_read (callN_ok hm X hX hXm n) f' args dargs v' h h3 hd h4 h2 hfl W lim E w args' H hvr
    · cases hr
  · cases hr

/- A promise on a known function. -/
theorem ok_rd {l : List Known} {f : FuncId} {dargs : List V} {v : V} {r : List V → Option V} (hf : findK f l = some r) (hr : r dargs = some v) : (Ob2.rd f dargs v).ok P (knownExt l) := by
  refine ⟨readExt r, by simp [knownExt, hf], fun args h hd => ?_⟩
  unfold readExt
  rw [hd]
  simp only [hr, Option.map_some]

end Go.AM

/-
  Loops, by a law of their round.
-/
set_option linter.unusedSimpArgs false
set_option linter.unusedVariables false
namespace Go.AM

variable {P : Program}

theorem rounds_up {body : St → Option (E × St)} (Inv : Nat → St → Prop) (k : Nat) (hstep : ∀ i s, i < k → Inv i s → ∃ s', body s = some (.normal, s') ∧ Inv (i + 1) s') :
    ∀ (d i : Nat) (s : St) (n : Nat), i + d = k → Inv i s → ∃ s', Inv k s' ∧ rounds body (n + d) s = rounds body n s'
  | 0, i, s, n, hk, hi => ⟨s, by rw [show i + 0 = i from rfl] at hk; rw [← hk]; exact hi, rfl⟩
  | d + 1, i, s, n, hk, hi => by
    obtain ⟨s1, h1, h2⟩ := hstep i s (by omega) hi
    obtain ⟨s', h3, h4⟩ := rounds_up Inv k hstep d (i + 1) s1 n (by omega) h2
    refine ⟨s', h3, ?_⟩
    rw [← h4]
    show rounds body (n + d + 1) s = _
    simp only [rounds, h1]

/-- So many rounds, and out. -/
theorem rounds_out {body : St → Option (E × St)} (Inv : Nat → St → Prop) (k : Nat) (hstep : ∀ i s, i < k → Inv i s → ∃ s', body s = some (.normal, s') ∧ Inv (i + 1) s')
    {e : E} {Out : St → Prop} (he : e ≠ .normal) (hlast : ∀ s, Inv k s → ∃ s', body s = some (e, s') ∧ Out s') (s : St) (h0 : Inv 0 s) (n : Nat) (hn : k < n) : ∃ s', rounds body n s = some (e, s') ∧ Out s' := by
  obtain ⟨s1, h1, h2⟩ := rounds_up Inv k hstep k 0 s (n - k) (by omega) h0
  rw [show n - k + k = n by omega] at h2
  obtain ⟨s2, h3, h4⟩ := hlast s1 h1
  refine ⟨s2, ?_, h4⟩
  rw [h2]
  obtain ⟨m, hm⟩ : ∃ m, n - k = m + 1 := ⟨n - k - 1, by omega⟩
  rw [hm]
  simp only [rounds, h3]
  cases e with
  | normal => exact absurd rfl he
  | exit _ => rfl
  | ret => rfl

theorem lookupN_mem {k : Nat} {v : V} : ∀ {l : List (Nat × V)}, lookupN k l = some v → (k, v) ∈ l
  | [], h => by cases h
  | (j, u) :: l, h => by
    simp only [lookupN] at h
    split at h
    · rename_i hj
      cases h
      rw [Nat.eq_of_beq_eq_true hj]; exact List.mem_cons_self
    · exact List.mem_cons_of_mem _ (lookupN_mem h)

/-- What is known stands there already. -/
theorem normL_eq {N : Nat} {kn : List (Nat × V)} {t : List V} (hl : t.length = N) (hk : ∀ k v, (k, v) ∈ kn → t.getD k (.tup []) = v) : normL N kn t = t := by
  apply List.ext_getElem?
  intro i
  unfold normL
  rw [List.getElem?_map]
  rcases Nat.lt_or_ge i N with h | h
  · rw [List.getElem?_range h]
    simp only [Option.map_some]
    rw [List.getElem?_eq_getElem (by omega)]
    have e : t[i]'(by omega) = t.getD i (.tup []) := by rw [List.getD_eq_getElem?_getD, List.getElem?_eq_getElem (by omega)]; rfl
    cases hlk : lookupN i kn with
    | none => simp only; rw [e]
    | some v => simp only; rw [e, hk i v (lookupN_mem hlk)]
  · rw [List.getElem?_eq_none (by simpa using h), List.getElem?_eq_none (by omega)]
    rfl

theorem proj_known {ks : List Nat} {vs : List V} {t : List V} (h : proj ks t = vs) : ∀ k v, (k, v) ∈ ks.zip vs → t.getD k (.tup []) = v := by
  subst h
  intro k v hm
  unfold proj at hm
  rw [List.zip_map_right, List.mem_map] at hm
  obtain ⟨⟨a, b⟩, hab, he⟩ := hm
  cases he
  have := List.of_mem_zip hab
  have hz : (a, b) ∈ ks.zip ks := hab
  have : a = b := by
    clear this
    revert hz
    generalize ks = l
    intro hz
    induction l with
    | nil => simp at hz
    | cons x l ih =>
      rw [List.zip_cons_cons, List.mem_cons] at hz
      rcases hz with hz | hz
      · cases hz; rfl
      · exact ih hz
  subst this
  rfl

theorem norm_zip {N : Nat} {ks : List Nat} {vs : List V} {t : List V} (hl : t.length = N) (h : proj ks t = vs) : normL N (ks.zip vs) t = t := normL_eq hl (proj_known h)

/-- A piece of code, run under promises: how it ends, and what is known then. -/
def tellCode (P : Program) (X : Ext) (m : Nat) (f : FuncId) (L : List Tmp) (n : Nat) (c : Code) (s : St) (O : Orc2) (ks : List Nat) : Option (E × Nat × List V × Heap × List Ob2) :=
  (execT P (Nat.ble 1 m) (callT P X m) f L n c s O).map fun r => (r.1, r.2.1.t.length, proj ks r.2.1.t, r.2.1.h, r.2.2.2)

theorem code_of_tell {X : Ext} {m : Nat} {f : FuncId} {L : List Tmp} {c : Code} {s : St} {O : Orc2} {ks : List Nat} {e : E} {N : Nat} {vs : List V} {h' : Heap} {obs : List Ob2} (ht : tellCode P X m f L m c s O ks = some (e, N, vs, h', obs)) (hobs : Obs2 P X obs) :
    ∃ t', exec P (callN P X m) L m c s = some (e, ⟨t', h'⟩) ∧ t'.length = N ∧ proj ks t' = vs := by
  simp only [tellCode, Option.map_eq_some_iff, Prod.mk.injEq, Prod.exists] at ht
  obtain ⟨e1, s1, O1, obs1, hc, rfl, rfl, rfl, rfl, rfl⟩ := ht
  exact ⟨s1.t, execT_ok (callT_ok X m) (live_ok m) rfl _ _ _ _ _ _ _ hc hobs, rfl, rfl⟩

/-- The loop's promise, from a run. -/
theorem ok_loop {X : Ext} {n : Nat} {L : List Tmp} {c : Code} {N : Nat} {ks : List Nat} {vs : List V} {h : Heap} {e : E} {ks' : List Nat} {vs' : List V} {h' : Heap}
    (hr : ∀ t : List V, t.length = N → proj ks t = vs → ∃ t', rounds (exec P (callN P X n) L n c) n ⟨t, h⟩ = some (e, ⟨t', h'⟩) ∧ t'.length = N ∧ proj ks' t' = vs') :
    (Ob2.loop n L c N ks vs h e (ks'.zip vs') (fun t => match rounds (exec P (callN P X n) L n c) n ⟨t, h⟩ with | some (_, s) => s.t | none => []) h').ok P X := by
  intro t ht hp
  obtain ⟨t', h1, h2, h3⟩ := hr t ht hp
  simp only [h1]
  rw [norm_zip h2 h3]

def Code.go : Code → List Nat → Code
  | c, [] => c
  | .seq a b, k :: p => match k with | 0 => Code.go a p | _ => Code.go b p
  | .cond _ a b, k :: p => match k with | 0 => Code.go a p | _ => Code.go b p
  | .block _ c, _ :: p => Code.go c p
  | .loop c, _ :: p => Code.go c p
  | .scope c, _ :: p => Code.go c p
  | _, _ => .skip

def bodyOf (P : Program) (f : FuncId) : Code := match P.funcs[f]? with
  | some fn => match fn.body with
    | some c => c
    | none => .skip
  | none => .skip

end Go.AM
