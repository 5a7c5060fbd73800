/-
  What each change of memory does to the relation.
-/
import Derived.Test.YtmokkkbbbmcjnaaGreatDoorAmWorld
set_option linter.unusedSectionVars false
set_option linter.unusedSimpArgs false
set_option linter.unusedVariables false
namespace Go.AM

variable {P : Program} [Glob P]

def Emb.ext (E : Emb) (b : Id) (p : Pl) : Emb := { dom := fun x => E.dom x ∨ x = b, pl := fun x => if x = b then p else E.pl x }

theorem Emb.le_ext (E : Emb) (b : Id) (p : Pl) (h : ¬ E.dom b) : E.le (E.ext b p) := fun x hx =>
  ⟨.inl hx, by simp only [Emb.ext]; rw [if_neg]; rintro rfl; exact h hx⟩
theorem Emb.ext_dom (E : Emb) (b : Id) (p : Pl) : (E.ext b p).dom b := .inr rfl
theorem Emb.ext_pl (E : Emb) (b : Id) (p : Pl) : (E.ext b p).pl b = p := by simp [Emb.ext]
theorem Emb.ext_pl_ne (E : Emb) (b x : Id) (p : Pl) (h : x ≠ b) : (E.ext b p).pl x = E.pl x := by simp [Emb.ext, h]

theorem HR.new {W : Nat → Prop} {lim : Nat} {E : Emb} {h : Heap} {w : World} (H : HR P W lim E h w) (hl : h.next < lim) : ¬ E.dom h.next := fun hd =>
  (H.lt _ hd).elim (Nat.lt_irrefl _) (fun h => Nat.lt_irrefl _ (Nat.lt_of_lt_of_le hl h))

theorem alloc_heap_lt (w : World) (o : Go.Obj) (c : Nat) (h : c < w.heap.size) : (w.alloc o).heap[c]? = w.heap[c]? := by
  show (w.heap.push o)[c]? = _
  rw [Array.getElem?_push, if_neg (by omega)]
theorem alloc_heap_new (w : World) (o : Go.Obj) : (w.alloc o).heap[w.heap.size]? = some o := by
  show (w.heap.push o)[w.heap.size]? = _
  simp

theorem Same.alloc {W : Nat → Prop} (w : World) (o : Go.Obj) (top : ∀ c, w.heap.size ≤ c → W c) : Same W w (w.alloc o) :=
  ⟨rfl, rfl, rfl, by simp, fun c hc => by
    rcases Nat.lt_or_ge c w.heap.size with h | h
    · exact alloc_heap_lt w o c h
    · exact absurd (top c h) hc⟩

/-- The model alone makes a block. -/
theorem HR.grow {W : Nat → Prop} {lim : Nat} {E : Emb} {h : Heap} {w : World} (H : HR P W lim E h w) (o : Go.Obj) : HR P W lim E h (w.alloc o) :=
  ⟨H.lt, fun b hb => by have := H.size b hb; simp; omega, fun b ro ty l hb hg => (H.row b ro ty l hb hg).of_eq (alloc_heap_lt w o _ (H.size b hb)), H.own, H.esz, H.inj, fun c hc => H.top c (by simp at hc; omega), Glob.same H.glob (by simp) (fun c hc => alloc_heap_lt w o c (Nat.lt_of_not_le (fun h => hc (H.top c h)))), fun b ty l hb hg => by rw [shape_of (alloc_heap_lt w o _ (H.size b hb))]; exact H.bld b ty l hb hg⟩

/-- A new row. -/
theorem HR.alloc {W : Nat → Prop} {lim : Nat} {E : Emb} {h : Heap} {w : World} (H : HR P W lim E h w) (hlim : h.next < lim) (ty : TypeId) (l : List V) (esz : Nat) (arr : Array Value) (ty' : TypeId) (fz : Nat × Nat)
    (hl : l.length ≤ arr.size) (hv : VRs E l (arr.toList.take l.length)) (hc : ∀ y ∈ arr.toList.take l.length, isCell y = true) (hf : NoFreeze arr.size fz) (hes : esz = (szOf P ty).getD 0) (hty : ty' = ty) (htt : ty = Glob.bty P → arr.size = l.length) :
    HR P W lim (E.ext h.next ⟨w.heap.size, 0, arr.size, esz⟩) (h.alloc (.cells false ty l)) (w.alloc (.cells arr ty' fz)) := by
  have hn := H.new hlim
  have hle := Emb.le_ext E h.next ⟨w.heap.size, 0, arr.size, esz⟩ hn
  refine ⟨?_, ?_, ?_, ?_, ?_, ?_, ?_, Glob.same H.glob (by simp) (fun c hc => alloc_heap_lt w _ c (Nat.lt_of_not_le (fun h => hc (H.top c h)))), ?_⟩
  · rintro b (hb | rfl)
    · exact (H.lt b hb).imp Nat.lt_succ_of_lt id
    · exact .inl (Nat.lt_succ_self _)
  · rintro b (hb | rfl)
    · have hne : b ≠ h.next := fun e => hn (e ▸ hb)
      rw [Emb.ext_pl_ne _ _ _ _ hne]; have := H.size b hb; simp; omega
    · rw [Emb.ext_pl]; simp
  · rintro b ro ty1 l1 (hb | rfl) hg
    · have hne : b ≠ h.next := fun e => hn (e ▸ hb)
      rw [Emb.ext_pl_ne _ _ _ _ hne]
      rw [Heap.get_alloc_ne _ _ _ hne] at hg
      exact ((H.row b ro ty1 l1 hb hg).mono hle).of_eq (alloc_heap_lt w _ _ (H.size b hb))
    · rw [Heap.get_alloc_same] at hg
      cases hg
      rw [Emb.ext_pl]
      exact ⟨arr, ty', fz, alloc_heap_new w _, rfl, by simpa using hl, by simpa using VRs.mono hle _ _ hv, by simpa using hc, fun _ => hf⟩
  · rintro b (hb | rfl) hr
    · have hne : b ≠ h.next := fun e => hn (e ▸ hb)
      rw [Emb.ext_pl_ne _ _ _ _ hne]
      rw [Heap.get_alloc_ne _ _ _ hne] at hr
      exact H.own b hb hr
    · rw [Emb.ext_pl]; exact H.top _ (Nat.le_refl _)
  · rintro b ro ty1 l1 (hb | rfl) hg
    · have hne : b ≠ h.next := fun e => hn (e ▸ hb)
      rw [Emb.ext_pl_ne _ _ _ _ hne]
      rw [Heap.get_alloc_ne _ _ _ hne] at hg
      exact H.esz b ro ty1 l1 hb hg
    · rw [Heap.get_alloc_same] at hg
      cases hg
      rw [Emb.ext_pl]; exact hes
  · rintro b b' (hb | rfl) (hb' | rfl) hne hr hv'
    · have h1 : b ≠ h.next := fun e => hn (e ▸ hb)
      have h2 : b' ≠ h.next := fun e => hn (e ▸ hb')
      rw [Emb.ext_pl_ne _ _ _ _ h1, Emb.ext_pl_ne _ _ _ _ h2]
      rw [Heap.get_alloc_ne _ _ _ h1] at hr
      rw [Heap.get_alloc_ne _ _ _ h2] at hv'
      exact H.inj b b' hb hb' hne hr hv'
    · have h1 : b ≠ h.next := fun e => hn (e ▸ hb)
      rw [Emb.ext_pl_ne _ _ _ _ h1, Emb.ext_pl]
      have := H.size b hb
      simp; omega
    · have h2 : b' ≠ h.next := fun e => hn (e ▸ hb')
      rw [Emb.ext_pl_ne _ _ _ _ h2, Emb.ext_pl]
      have := H.size b' hb'
      simp; omega
    · exact absurd rfl hne
  · intro c hc; exact H.top c (by simp at hc; omega)
  · rintro b ty1 l1 (hb | rfl) hg
    · have hne : b ≠ h.next := fun e => hn (e ▸ hb)
      rw [Heap.get_alloc_ne _ _ _ hne] at hg
      rw [Emb.ext_pl_ne _ _ _ _ hne, shape_of (alloc_heap_lt w _ _ (H.size b hb))]
      exact H.bld b ty1 l1 hb hg
    · rw [Heap.get_alloc_same] at hg
      cases hg
      rw [Emb.ext_pl]
      refine ⟨rfl, ?_, htt⟩
      show (w.alloc (.cells arr ty' fz)).shape? w.heap.size = _
      unfold World.shape?
      rw [alloc_heap_new, hty]

theorem storeRow_len {l l' vs : List V} {off : Nat} (h : storeRow l off vs = some l') : l'.length = l.length := by
  unfold storeRow at h
  split at h
  · simp only [Option.some.injEq] at h
    rw [← h]; simp only [List.length_append, List.length_take, List.length_drop]; omega
  · cases h

/-- A row that may be written is written; the model's block has the new row. -/
theorem HR.write {W : Nat → Prop} {lim : Nat} {E : Emb} {h : Heap} {w w' : World} (H : HR P W lim E h w) (b : Id) (ty : TypeId) (l l' : List V) (hb : E.dom b) (hg : h.get b = some (.cells false ty l))
    (hrow : RowIn E false l' (E.pl b).c (E.pl b).o (E.pl b).csz w'.heap) (hoth : ∀ k, k ≠ (E.pl b).c → w'.heap[k]? = w.heap[k]?) (hsz : w'.heap.size = w.heap.size) (hshp : w'.shape? (E.pl b).c = w.shape? (E.pl b).c) (hll : l'.length = l.length) :
    HR P W lim E (h.set b (.cells false ty l')) w' := by
  have hrw : isRw (h.get b) = true := by rw [hg]; rfl
  refine ⟨H.lt, fun x hx => by rw [hsz]; exact H.size x hx, ?_, ?_, ?_, ?_, fun c hc => H.top c (by omega), Glob.same H.glob (by omega) (fun c hc => hoth c (fun e => hc (e ▸ H.own b hb hrw))), ?_⟩
  · intro x ro ty1 l1 hx hgx
    by_cases e : x = b
    · subst e; rw [Heap.get_set_same _ _ _ (Heap.get_lt hg)] at hgx; cases hgx; exact hrow
    · rw [Heap.get_set_ne _ _ _ _ e] at hgx
      exact (H.row x ro ty1 l1 hx hgx).of_eq (hoth _ (fun e2 => H.inj b x hb hx (Ne.symm e) hrw (by rw [hgx]; rfl) e2.symm))
  · intro x hx hr
    by_cases e : x = b
    · subst e; exact H.own x hx hrw
    · rw [Heap.get_set_ne _ _ _ _ e] at hr; exact H.own x hx hr
  · intro x ro ty1 l1 hx hgx
    by_cases e : x = b
    · subst e; rw [Heap.get_set_same _ _ _ (Heap.get_lt hg)] at hgx; cases hgx; exact H.esz x _ _ _ hx hg
    · rw [Heap.get_set_ne _ _ _ _ e] at hgx; exact H.esz x _ _ _ hx hgx
  · intro x y hx hy hne hr hl
    have hr' : isRw (h.get x) = true := by
      by_cases e : x = b
      · subst e; exact hrw
      · rwa [Heap.get_set_ne _ _ _ _ e] at hr
    have hl' : isLive (h.get y) = true := by
      by_cases e : y = b
      · subst e; exact isLive_of_isRw hrw
      · rwa [Heap.get_set_ne _ _ _ _ e] at hl
    exact H.inj x y hx hy hne hr' hl'
  · intro x ty1 l1 hx hgx
    by_cases e : x = b
    · subst e
      rw [Heap.get_set_same _ _ _ (Heap.get_lt hg)] at hgx
      cases hgx
      rw [hshp, hll]; exact H.bld x _ l hx hg
    · rw [Heap.get_set_ne _ _ _ _ e] at hgx
      have hc : (E.pl x).c ≠ (E.pl b).c := fun e2 => H.inj b x hb hx (Ne.symm e) hrw (by rw [hgx]; rfl) e2.symm
      rw [shape_of (hoth _ hc)]; exact H.bld x ty1 l1 hx hgx

/-- A block of the model's that is none of ours is written. -/
theorem HR.other {W : Nat → Prop} {lim : Nat} {E : Emb} {h : Heap} {w w' : World} (H : HR P W lim E h w) (k : Nat) (hk : ∀ b, E.dom b → k ≠ (E.pl b).c) (hkW : W k) (hoth : ∀ c, c ≠ k → w'.heap[c]? = w.heap[c]?) (hsz : w'.heap.size = w.heap.size) :
    HR P W lim E h w' :=
  ⟨H.lt, fun x hx => by rw [hsz]; exact H.size x hx, fun x ro ty1 l1 hx hgx => (H.row x ro ty1 l1 hx hgx).of_eq (hoth _ (fun e => hk x hx e.symm)), H.own, H.esz, H.inj, fun c hc => H.top c (by omega), Glob.same H.glob (by omega) (fun c hc => hoth c (fun e => hc (e ▸ hkW))), fun b ty l hb hg => by rw [shape_of (hoth _ (fun e => hk b hb e.symm))]; exact H.bld b ty l hb hg⟩

/-- A block dies. -/
theorem HR.die {W : Nat → Prop} {lim : Nat} {E : Emb} {h : Heap} {w : World} (H : HR P W lim E h w) (b : Id) (hbn : b < h.next) : HR P W lim E (h.set b .dead) w := by
  refine ⟨H.lt, H.size, ?_, ?_, ?_, ?_, H.top, H.glob, ?_⟩
  · intro x ro ty1 l1 hx hgx
    by_cases e : x = b
    · subst e; rw [Heap.get_set_same _ _ _ hbn] at hgx; cases hgx
    · rw [Heap.get_set_ne _ _ _ _ e] at hgx; exact H.row x ro ty1 l1 hx hgx
  · intro x hx hr
    by_cases e : x = b
    · subst e; rw [Heap.get_set_same _ _ _ hbn] at hr; cases hr
    · rw [Heap.get_set_ne _ _ _ _ e] at hr; exact H.own x hx hr
  · intro x ro ty1 l1 hx hgx
    by_cases e : x = b
    · subst e; rw [Heap.get_set_same _ _ _ hbn] at hgx; cases hgx
    · rw [Heap.get_set_ne _ _ _ _ e] at hgx; exact H.esz x _ _ _ hx hgx
  · intro x y hx hy hne hr hl
    by_cases e : x = b
    · subst e; rw [Heap.get_set_same _ _ _ hbn] at hr; cases hr
    by_cases e' : y = b
    · subst e'; rw [Heap.get_set_same _ _ _ hbn] at hl; cases hl
    rw [Heap.get_set_ne _ _ _ _ e] at hr
    rw [Heap.get_set_ne _ _ _ _ e'] at hl
    exact H.inj x y hx hy hne hr hl
  · intro x ty1 l1 hx hgx
    by_cases e : x = b
    · subst e; rw [Heap.get_set_same _ _ _ hbn] at hgx; cases hgx
    · rw [Heap.get_set_ne _ _ _ _ e] at hgx; exact H.bld x ty1 l1 hx hgx

/-- A row that died goes on under a new number, in the same block of the model's. -/
theorem HR.move {W : Nat → Prop} {lim : Nat} {E : Emb} {h : Heap} {w w' : World} (H : HR P W lim E h w) (hlim : h.next < lim) (b : Id) (ty ty' : TypeId) (l l' : List V) (p : Pl) (hb : E.dom b) (hg : h.get b = some (.cells false ty l)) (hp : p.c = (E.pl b).c) (hes : p.esz = (szOf P ty').getD 0)
    (hrow : RowIn (E.ext h.next p) false l' p.c p.o p.csz w'.heap) (hoth : ∀ k, k ≠ (E.pl b).c → w'.heap[k]? = w.heap[k]?) (hsz : w'.heap.size = w.heap.size) (hnb : ty' ≠ Glob.bty P) (hty : ty' = ty) (hpo : p.o = (E.pl b).o) (hpc : p.csz = (E.pl b).csz) (hshp : w'.shape? (E.pl b).c = w.shape? (E.pl b).c) :
    HR P W lim (E.ext h.next p) ((h.set b .dead).alloc (.cells false ty' l')) w' := by
  have hn := H.new hlim
  have hbn : b ≠ h.next := fun e => hn (e ▸ hb)
  have hle := Emb.le_ext E h.next p hn
  have hrw : isRw (h.get b) = true := by rw [hg]; rfl
  have hge : ∀ x, x ≠ h.next → x ≠ b → ((h.set b .dead).alloc (.cells false ty' l')).get x = h.get x := fun x h1 h2 => by
    rw [Heap.get_alloc_ne _ _ _ (by simpa using h1), Heap.get_set_ne _ _ _ _ h2]
  have hgb : ((h.set b .dead).alloc (.cells false ty' l')).get b = some .dead := by
    rw [Heap.get_alloc_ne _ _ _ (by simpa using hbn), Heap.get_set_same _ _ _ (Heap.get_lt hg)]
  have hgn : ((h.set b .dead).alloc (.cells false ty' l')).get h.next = some (.cells false ty' l') := Heap.get_alloc_same (h.set b .dead) _
  refine ⟨?_, ?_, ?_, ?_, ?_, ?_, fun c hc => H.top c (by omega), Glob.same H.glob (by omega) (fun c hc => hoth c (fun e => hc (e ▸ H.own b hb hrw))), ?_⟩
  · rintro x (hx | rfl)
    · exact (H.lt x hx).imp Nat.lt_succ_of_lt id
    · exact .inl (Nat.lt_succ_self _)
  · rintro x (hx | rfl)
    · have hne : x ≠ h.next := fun e => hn (e ▸ hx)
      rw [Emb.ext_pl_ne _ _ _ _ hne, hsz]; exact H.size x hx
    · rw [Emb.ext_pl, hsz, hp]; exact H.size b hb
  · rintro x ro ty1 l1 (hx | rfl) hgx
    · have hne : x ≠ h.next := fun e => hn (e ▸ hx)
      by_cases e : x = b
      · subst e; rw [hgb] at hgx; cases hgx
      · rw [hge x hne e] at hgx
        rw [Emb.ext_pl_ne _ _ _ _ hne]
        exact ((H.row x ro ty1 l1 hx hgx).mono hle).of_eq (hoth _ (fun e2 => H.inj b x hb hx (Ne.symm e) hrw (by rw [hgx]; rfl) e2.symm))
    · rw [hgn] at hgx; cases hgx; rw [Emb.ext_pl]; exact hrow
  · rintro x (hx | rfl) hr
    · have hne : x ≠ h.next := fun e => hn (e ▸ hx)
      rw [Emb.ext_pl_ne _ _ _ _ hne]
      by_cases e : x = b
      · subst e; exact H.own x hx hrw
      · rw [hge x hne e] at hr; exact H.own x hx hr
    · rw [Emb.ext_pl, hp]; exact H.own b hb hrw
  · rintro x ro ty1 l1 (hx | rfl) hgx
    · have hne : x ≠ h.next := fun e => hn (e ▸ hx)
      by_cases e : x = b
      · subst e; rw [hgb] at hgx; cases hgx
      · rw [hge x hne e] at hgx
        rw [Emb.ext_pl_ne _ _ _ _ hne]
        exact H.esz x ro ty1 l1 hx hgx
    · rw [hgn] at hgx; cases hgx; rw [Emb.ext_pl]; exact hes
  · rintro x y (hx | rfl) (hy | rfl) hne hr hl
    · have h1 : x ≠ h.next := fun e => hn (e ▸ hx)
      have h2 : y ≠ h.next := fun e => hn (e ▸ hy)
      rw [Emb.ext_pl_ne _ _ _ _ h1, Emb.ext_pl_ne _ _ _ _ h2]
      by_cases e : x = b
      · subst e; rw [hgb] at hr; cases hr
      by_cases e' : y = b
      · subst e'; rw [hgb] at hl; cases hl
      rw [hge x h1 e] at hr
      rw [hge y h2 e'] at hl
      exact H.inj x y hx hy hne hr hl
    · have h1 : x ≠ h.next := fun e => hn (e ▸ hx)
      rw [Emb.ext_pl_ne _ _ _ _ h1, Emb.ext_pl, hp]
      by_cases e : x = b
      · subst e; rw [hgb] at hr; cases hr
      rw [hge x h1 e] at hr
      exact H.inj x b hx hb e hr (isLive_of_isRw hrw)
    · have h2 : y ≠ h.next := fun e => hn (e ▸ hy)
      rw [Emb.ext_pl_ne _ _ _ _ h2, Emb.ext_pl, hp]
      by_cases e' : y = b
      · subst e'; rw [hgb] at hl; cases hl
      rw [hge y h2 e'] at hl
      exact H.inj b y hb hy (Ne.symm e') hrw hl
    · exact absurd rfl hne
  · rintro x ty1 l1 (hx | rfl) hgx
    · have h1 : x ≠ h.next := fun e => hn (e ▸ hx)
      by_cases e : x = b
      · subst e; rw [hgb] at hgx; cases hgx
      rw [hge x h1 e] at hgx
      have hc : (E.pl x).c ≠ (E.pl b).c := fun e2 => H.inj b x hb hx (Ne.symm e) hrw (by rw [hgx]; rfl) e2.symm
      rw [Emb.ext_pl_ne _ _ _ _ h1, shape_of (hoth _ hc)]; exact H.bld x ty1 l1 hx hgx
    · rw [hgn] at hgx; cases hgx
      have k := H.bld b ty l hb hg
      rw [Emb.ext_pl]
      exact ⟨by rw [hpo]; exact k.1, by rw [hp, hshp, hpc, hty]; exact k.2.1, fun e => absurd e hnb⟩

/-! ### Temporaries -/

theorem TR.of_VR {E : Emb} {lam : Tmp → Nat} {t : List V} {i : Nat} {v : V} {x : Value} (h : VR E v x) : TR E lam t i v x := by
  cases v <;> first | exact h | (simp only [VR] at h)

/-- What may be put into a temporary. -/
def TV (E : Emb) (lam : Tmp → Nat) (t : List V) (v : V) (x : Value) : Prop :=
  match v with
  | .box _ => False
  | .lref d off => (∃ l, t[d]? = some (.box l)) → x = .pointer (some ⟨lam d, off, none⟩)
  | .junk => True
  | v => VR E v x

theorem TV.of_VR {E : Emb} {lam : Tmp → Nat} {t : List V} {v : V} {x : Value} (h : VR E v x) : TV E lam t v x := by
  cases v <;> first | exact h | (simp only [VR] at h)

theorem TR.mono {E E' : Emb} {lam : Tmp → Nat} {t : List V} {i : Nat} {v : V} {x : Value} (h : TR E lam t i v x) (he : E.le E') : TR E' lam t i v x := by
  cases v <;> first | exact h | exact VR.mono he _ _ h

theorem put_size (tm : Array Value) (d : Option Tmp) (x : Value) (df : List Deferred) : (Act.put ⟨tm, df⟩ d x).tmps.size = tm.size := by
  cases d <;> simp [Act.put]
theorem putV_length (t : List V) (d : Option Tmp) (v : V) : (putV t d v).length = t.length := by cases d <;> simp [putV]

theorem SR.put {W : Nat → Prop} {E : Emb} {lam : Tmp → Nat} {t : List V} {w : World} {a : Act} (H : SR W E lam t w a.tmps) (d : Option Tmp) (v : V) (x : Value) (hv : TV E lam t v x) :
    SR W E lam (putV t d v) w (a.put d x).tmps := by
  cases d with
  | none => exact H
  | some d =>
    simp only [putV, Act.put]
    have hbox : ∀ k l, (t.set d v)[k]? = some (.box l) → k ≠ d ∧ t[k]? = some (.box l) := by
      intro k l hk
      rw [List.getElem?_set] at hk
      split at hk
      · rename_i e
        split at hk
        · simp only [Option.some.injEq] at hk
          subst hk
          simp only [TV] at hv
        · cases hk
      · rename_i e; exact ⟨fun e2 => e e2.symm, hk⟩
    refine ⟨by simp [H.len], ?_, ?_, ?_, ?_⟩
    · intro i u hu
      rw [List.getElem?_set] at hu
      split at hu
      · rename_i e
        subst e
        split at hu
        · rename_i hlt
          simp only [Option.some.injEq] at hu
          subst hu
          refine ⟨x, by simp [Array.getElem?_setIfInBounds, H.len, hlt], ?_⟩
          cases v <;> first | exact hv | skip
          case box => simp only [TV] at hv
          case lref d' off =>
            rintro ⟨l, hl⟩
            exact hv ⟨l, (hbox d' l hl).2⟩
        · cases hu
      · rename_i e
        obtain ⟨y, hy, hr⟩ := H.val i u hu
        refine ⟨y, by rw [Array.getElem?_setIfInBounds_ne e]; exact hy, ?_⟩
        cases u <;> first | exact hr | skip
        case lref d' off =>
          rintro ⟨l, hl⟩
          exact hr ⟨l, (hbox d' l hl).2⟩
    · intro k l hk; exact H.box k l (hbox k l hk).2
    · intro k k' l l' hk hk' hne; exact H.dist k k' l l' (hbox k l hk).2 (hbox k' l' hk').2 hne
    · intro k l b hk hb; exact H.apart k l b (hbox k l hk).2 hb

/-- Memory has turned, but not under the private variables. -/
theorem SR.world {W : Nat → Prop} {E E' : Emb} {lam : Tmp → Nat} {t : List V} {w w' : World} {tm : Array Value} (H : SR W E lam t w tm) (he : E.le E')
    (hs : ∀ d l, t[d]? = some (.box l) → w'.heap[lam d]? = w.heap[lam d]?) (hsz : w.heap.size ≤ w'.heap.size)
    (hap : ∀ d l b, t[d]? = some (.box l) → E'.dom b → lam d ≠ (E'.pl b).c) : SR W E' lam t w' tm :=
  ⟨H.len, fun i v hv => by obtain ⟨x, hx, hr⟩ := H.val i v hv; exact ⟨x, hx, hr.mono he⟩,
    fun d l hd => ⟨((H.box d l hd).1.mono he).of_eq (hs d l hd), (H.box d l hd).2.1, Nat.lt_of_lt_of_le (H.box d l hd).2.2 hsz⟩, H.dist, hap⟩

/-- A new private variable. -/
theorem SR.newBox {W : Nat → Prop} {E : Emb} {lam : Tmp → Nat} {t : List V} {w : World} {a : Act} (H : SR W E lam t w a.tmps) (HH : ∀ b, E.dom b → (E.pl b).c < w.heap.size) (top : ∀ c, w.heap.size ≤ c → W c)
    (d : Tmp) (cells : List V) (arr : Array Value) (ty : TypeId) (hv : VRs E cells arr.toList) (hc : ∀ y ∈ arr.toList, isCell y = true) :
    SR W E (fun k => if k = d then w.heap.size else lam k) ((t.map (scrub d)).set d (.box cells)) (w.alloc (.cells arr ty (0, 0))) (a.put (some d) (.pointer (some ⟨w.heap.size, 0, none⟩))).tmps := by
  have hbox : ∀ k l, ((t.map (scrub d)).set d (.box cells))[k]? = some (.box l) → (k = d ∧ l = cells) ∨ (k ≠ d ∧ t[k]? = some (.box l)) := by
    intro k l hk
    rw [List.getElem?_set] at hk
    split at hk
    · rename_i e
      split at hk
      · simp only [Option.some.injEq, V.box.injEq] at hk; exact .inl ⟨e.symm, hk.symm⟩
      · cases hk
    · rename_i e
      refine .inr ⟨fun e2 => e e2.symm, ?_⟩
      rw [List.getElem?_map] at hk
      cases htk : t[k]? with
      | none => rw [htk] at hk; cases hk
      | some u =>
        rw [htk] at hk
        cases u <;> simp only [Option.map_some, scrub, Option.some.injEq] at hk <;> first | (exact congrArg some hk) | (cases hk) | skip
        split at hk <;> cases hk
  have hlen : cells.length = arr.size := by have := hv.length; simpa using this.symm
  refine ⟨by simp [Act.put, H.len], ?_, ?_, ?_, ?_⟩
  · intro i u hu
    simp only [Act.put]
    rw [List.getElem?_set] at hu
    split at hu
    · rename_i e
      subst e
      split at hu
      · rename_i hlt
        simp only [Option.some.injEq] at hu
        subst hu
        exact ⟨.pointer (some ⟨w.heap.size, 0, none⟩), by simp at hlt; simp [Array.getElem?_setIfInBounds, H.len, hlt], by simp [TR]⟩
      · cases hu
    · rename_i e
      rw [List.getElem?_map] at hu
      cases hti : t[i]? with
      | none => rw [hti] at hu; cases hu
      | some u0 =>
        rw [hti] at hu
        simp only [Option.map_some, Option.some.injEq] at hu
        obtain ⟨y, hy, hr⟩ := H.val i u0 hti
        refine ⟨y, by rw [Array.getElem?_setIfInBounds_ne e]; exact hy, ?_⟩
        subst hu
        cases u0 <;> simp only [scrub] <;> first | exact hr | skip
        · simp only [TR]
          rw [if_neg (fun e2 => e e2.symm)]
          exact hr
        · rename_i d' off
          split
          · trivial
          · rename_i hne
            simp only [TR]
            rw [if_neg hne]
            rintro ⟨l, hl⟩
            rcases hbox d' l hl with ⟨e1, _⟩ | ⟨_, h2⟩
            · exact absurd e1 hne
            · exact hr ⟨l, h2⟩
  · intro k l hk
    rcases hbox k l hk with ⟨rfl, rfl⟩ | ⟨hne, hk'⟩
    · simp only [if_true]
      exact ⟨⟨arr, ty, (0, 0), alloc_heap_new w _, hlen, by omega, by rw [List.drop_zero, List.take_of_length_le (by simp [hlen])]; exact hv, by rw [List.drop_zero, List.take_of_length_le (by simp [hlen])]; exact hc, fun _ i hi => by simp⟩, top _ (Nat.le_refl _), by simp⟩
    · simp only [if_neg hne]
      obtain ⟨h1, h2, h3⟩ := H.box k l hk'
      exact ⟨h1.of_eq (alloc_heap_lt w _ _ h3), h2, by simp; omega⟩
  · intro k k' l l' hk hk' hne
    rcases hbox k l hk with ⟨e1, _⟩ | ⟨e1, h1⟩ <;> rcases hbox k' l' hk' with ⟨e2, _⟩ | ⟨e2, h2⟩
    · exact absurd (e1.trans e2.symm) hne
    · rw [if_pos e1, if_neg e2]; have := (H.box k' l' h2).2.2; omega
    · rw [if_neg e1, if_pos e2]; have := (H.box k l h1).2.2; omega
    · rw [if_neg e1, if_neg e2]; exact H.dist k k' l l' h1 h2 hne
  · intro k l b hk hb
    rcases hbox k l hk with ⟨e1, _⟩ | ⟨e1, h1⟩
    · rw [if_pos e1]; have := HH b hb; omega
    · rw [if_neg e1]; exact H.apart k l b h1 hb

/-- A private variable is written. -/
theorem SR.storeBox {W : Nat → Prop} {E : Emb} {lam : Tmp → Nat} {t : List V} {w w' : World} {tm : Array Value} (H : SR W E lam t w tm) (d : Tmp) (l l' : List V) (hd : t[d]? = some (.box l))
    (hrow : RowIn E false l' (lam d) 0 l'.length w'.heap) (hoth : ∀ k, k ≠ lam d → w'.heap[k]? = w.heap[k]?) (hsz : w'.heap.size = w.heap.size) : SR W E lam (t.set d (.box l')) w' tm := by
  have hlt : d < t.length := by
    rcases Nat.lt_or_ge d t.length with h | h
    · exact h
    · rw [List.getElem?_eq_none h] at hd; cases hd
  have hbox : ∀ (k : Tmp) (u : List V), (t.set d (V.box l'))[k]? = some (V.box u) → (k = d ∧ u = l') ∨ (k ≠ d ∧ t[k]? = some (V.box u)) := by
    intro k u hk
    rw [List.getElem?_set] at hk
    split at hk
    · rename_i e
      simp only [hlt, if_true, Option.some.injEq, V.box.injEq] at hk; exact .inl ⟨e.symm, hk.symm⟩
    · rename_i e; exact .inr ⟨fun e2 => e e2.symm, hk⟩
  have hex : ∀ (k : Tmp), (∃ u, (t.set d (V.box l'))[k]? = some (V.box u)) → ∃ u, t[k]? = some (V.box u) := by
    rintro k ⟨u, hu⟩
    rcases hbox k u hu with ⟨rfl, _⟩ | ⟨_, h⟩
    · exact ⟨l, hd⟩
    · exact ⟨u, h⟩
  refine ⟨by simp [H.len], ?_, ?_, ?_, ?_⟩
  · intro i v hv
    rw [List.getElem?_set] at hv
    split at hv
    · rename_i e
      subst e
      simp only [hlt, if_true, Option.some.injEq] at hv
      subst hv
      obtain ⟨x, hx, hr⟩ := H.val d _ hd
      exact ⟨x, hx, hr⟩
    · obtain ⟨x, hx, hr⟩ := H.val i v hv
      refine ⟨x, hx, ?_⟩
      cases v <;> first | exact hr | skip
      intro he
      exact hr (hex _ he)
  · intro k u hk
    rcases hbox k u hk with ⟨rfl, rfl⟩ | ⟨hne, hk'⟩
    · exact ⟨hrow, (H.box k l hd).2.1, by rw [hsz]; exact (H.box k l hd).2.2⟩
    · obtain ⟨h1, h2, h3⟩ := H.box k u hk'
      exact ⟨h1.of_eq (hoth _ (H.dist k d u l hk' hd hne)), h2, by rw [hsz]; exact h3⟩
  · intro k k' u u' hk hk' hne
    rcases hbox k u hk with ⟨e1, _⟩ | ⟨e1, h1⟩ <;> rcases hbox k' u' hk' with ⟨e2, _⟩ | ⟨e2, h2⟩
    · exact absurd (e1.trans e2.symm) hne
    · subst e1; exact H.dist k k' l u' hd h2 hne
    · subst e2; exact H.dist k k' u l h1 hd hne
    · exact H.dist k k' u u' h1 h2 hne
  · intro k u b hk hb
    rcases hbox k u hk with ⟨e1, _⟩ | ⟨e1, h1⟩
    · subst e1; exact H.apart k l b hd hb
    · exact H.apart k u b h1 hb

end Go.AM
