/-
  New blocks of a run from empty memory, taken into any memory; functions that read what lies behind the slices of a record.
-/
import Derived.Test.YtmokkkbbbmcjnaaGreatDoorAsQ
import Derived.Test.YtmokkkbbbmcjnaaGreatDoorAsV
set_option linter.unusedSectionVars false
set_option linter.unusedVariables false
set_option linter.unusedSimpArgs false
namespace Go.AM
open Go.Proofs Go.RowKit

section
variable {P : Program} [Glob P]

theorem HR.adoptDead {W : Nat → Prop} {lim : Nat} {E : Emb} {h : Heap} {w : World} (H : HR P W lim E h w) (hlim : h.next < lim) : HR P W lim E (h.alloc .dead) w := by
  have hn := H.new hlim
  have hge : ∀ c, E.dom c → (h.alloc .dead).get c = h.get c := fun c hc => Heap.get_alloc_ne _ _ _ (fun e => hn (e ▸ hc))
  refine ⟨fun b hb => (H.lt b hb).imp Nat.lt_succ_of_lt id, H.size, fun b ro ty l hb hg => H.row b ro ty l hb (by rw [← hge b hb]; exact hg), fun b hb hr => H.own b hb (by rw [← hge b hb]; exact hr),
    fun b ro ty l hb hg => H.esz b ro ty l hb (by rw [← hge b hb]; exact hg), fun b b' hb hb' hne hr hl => H.inj b b' hb hb' hne (by rw [← hge b hb]; exact hr) (by rw [← hge b' hb']; exact hl), H.top, H.glob, fun b ty l hb hg => H.bld b ty l hb (by rw [← hge b hb]; exact hg)⟩

theorem HR.adopt {W : Nat → Prop} {lim : Nat} {E : Emb} {h : Heap} {w : World} (H : HR P W lim E h w) (hlim : h.next < lim) (p : Pl) (ty : TypeId) (row : List V)
    (hc : ∀ c, E.dom c → (E.pl c).c ≠ p.c) (hW : W p.c) (hsz : p.c < w.heap.size) {E0 : Emb} (hrow : RowIn E0 false row p.c p.o p.csz w.heap) (hfl : flats row = true) (hesz : p.esz = (szOf P ty).getD 0)
    (hbld : p.o = 0 ∧ w.shape? p.c = some (ty, p.csz) ∧ (ty = Glob.bty P → p.csz = row.length)) : HR P W lim (E.ext h.next p) (h.alloc (.cells false ty row)) w := by
  have hn := H.new hlim
  have hle := Emb.le_ext E h.next p hn
  have hge : ∀ c, E.dom c → (h.alloc (.cells false ty row)).get c = h.get c := fun c hc => Heap.get_alloc_ne _ _ _ (fun e => hn (e ▸ hc))
  have hpl : ∀ c, E.dom c → (E.ext h.next p).pl c = E.pl c := fun c hc => Emb.ext_pl_ne _ _ _ _ (fun e => hn (e ▸ hc))
  have hnew : (h.alloc (.cells false ty row)).get h.next = some (.cells false ty row) := Heap.get_alloc_same _ _
  refine ⟨?_, ?_, ?_, ?_, ?_, ?_, H.top, H.glob, ?_⟩
  · rintro c (hc' | rfl)
    · exact (H.lt c hc').imp Nat.lt_succ_of_lt id
    · exact .inl (Nat.lt_succ_self _)
  · rintro c (hc' | rfl)
    · rw [hpl c hc']; exact H.size c hc'
    · rw [Emb.ext_pl]; exact hsz
  · rintro c ro ty1 l (hc' | rfl) hgc
    · rw [hge c hc'] at hgc
      rw [hpl c hc']; exact (H.row c ro ty1 l hc' hgc).mono hle
    · rw [hnew] at hgc
      cases hgc
      rw [Emb.ext_pl]
      obtain ⟨arr, ty2, fz, q1, q2, q3, q4, q5, q6⟩ := hrow.ex
      exact ⟨arr, ty2, fz, q1, q2, q3, VRs.flat _ _ hfl q4, q5, q6⟩
  · rintro c (hc' | rfl) hrw
    · rw [hge c hc'] at hrw
      rw [hpl c hc']; exact H.own c hc' hrw
    · rw [Emb.ext_pl]; exact hW
  · rintro c ro ty1 l (hc' | rfl) hgc
    · rw [hge c hc'] at hgc
      rw [hpl c hc']; exact H.esz c ro ty1 l hc' hgc
    · rw [hnew] at hgc
      cases hgc
      rw [Emb.ext_pl]; exact hesz
  · rintro c c' (hc1 | rfl) (hc2 | rfl) hne hrw hl
    · rw [hge c hc1] at hrw
      rw [hge c' hc2] at hl
      rw [hpl c hc1, hpl c' hc2]; exact H.inj c c' hc1 hc2 hne hrw hl
    · rw [hpl c hc1, Emb.ext_pl]
      exact hc c hc1
    · rw [hpl c' hc2, Emb.ext_pl]
      exact fun e => hc c' hc2 e.symm
    · exact absurd rfl hne
  · rintro c ty1 l (hc' | rfl) hgc
    · rw [hge c hc'] at hgc
      rw [hpl c hc']; exact H.bld c ty1 l hc' hgc
    · rw [hnew] at hgc
      cases hgc
      rw [Emb.ext_pl]; exact hbld

/-- A new row, or none. -/
abbrev NewB := Option (TypeId × List V) × Id
def NewB.obj : NewB → Obj
  | (some (ty, row), _) => .cells false ty row
  | (none, _) => .dead
def newIds : List NewB → List Id
  | [] => []
  | (some _, b) :: l => b :: newIds l
  | (none, _) :: l => newIds l

theorem adopts {W W0 : Nat → Prop} {lim lim1 : Nat} {E1 : Emb} {H1 : Heap} {w' : World} {top : Nat} (HR1 : HR P W0 lim1 E1 H1 w') (hW : ∀ c, top ≤ c → W c) :
    ∀ (L : List NewB) (E : Emb) (h : Heap) (done : List Id), HR P W lim E h w' → h.next + L.length ≤ lim → (∀ c, E.dom c → (E.pl c).c < top ∨ ∃ b ∈ done, (E.pl c).c = (E1.pl b).c) →
      (∀ x ∈ L, ∀ ty row, x.1 = some (ty, row) → E1.dom x.2 ∧ H1.get x.2 = some (.cells false ty row) ∧ flats row = true ∧ top ≤ (E1.pl x.2).c) → (∀ b ∈ done, E1.dom b ∧ isLive (H1.get b) = true) → (newIds L).Nodup → (∀ b ∈ newIds L, b ∉ done) →
      ∃ E', HR P W lim E' (allocs h (L.map NewB.obj)) w' ∧ E.le E' ∧ (∀ (i : Nat) ty row b, L[i]? = some (some (ty, row), b) → E'.dom (h.next + i) ∧ E'.pl (h.next + i) = E1.pl b) ∧
        (∀ c : Nat, E'.dom c → E.dom c ∨ (h.next ≤ c ∧ c < h.next + L.length ∧ W (E'.pl c).c)) := by
  intro L
  induction L with
  | nil =>
    intro E h done H hlim hd hL hdone hnd hni
    exact ⟨E, H, Emb.le_refl E, fun i ty row b hi => by simp at hi, fun c hc => .inl hc⟩
  | cons x L ih =>
    intro E h done H hlim hd hL hdone hnd hni
    rw [List.length_cons] at hlim
    obtain ⟨o, b⟩ := x
    cases o with
    | none =>
      obtain ⟨E', g1, g2, g3, g4⟩ := ih E (h.alloc .dead) done (H.adoptDead (by omega)) (by simp; omega) hd (fun x hx => hL x (List.mem_cons_of_mem _ hx)) hdone hnd hni
      refine ⟨E', g1, g2, ?_, ?_⟩
      · intro i ty row b' hi
        cases i with
        | zero => simp at hi
        | succ i =>
          have := g3 i ty row b' (by simpa using hi)
          rw [Heap.next_alloc] at this
          rwa [show h.next + (i + 1) = h.next + 1 + i by omega]
      · intro c hc
        rcases g4 c hc with h1 | ⟨h1, h2, h3⟩
        · exact .inl h1
        · rw [Heap.next_alloc] at h1 h2
          exact .inr ⟨by omega, by rw [List.length_cons]; omega, h3⟩
    | some tr =>
      obtain ⟨ty, row⟩ := tr
      obtain ⟨hdom, hg, hfl, htop⟩ := hL _ List.mem_cons_self ty row rfl
      simp only at hdom hg htop
      have hlive : isLive (H1.get b) = true := by rw [hg]; rfl
      have hrw : isRw (H1.get b) = true := by rw [hg]; rfl
      have hn := H.new (by omega)
      have nd := hnd
      simp only [newIds, List.nodup_cons] at nd
      have Ha := H.adopt (by omega) (E1.pl b) ty row (by
        intro c hc
        rcases hd c hc with h1 | ⟨b', hb', h1⟩
        · omega
        · rw [h1]
          have hne : b ≠ b' := fun e => hni b (by simp [newIds]) (e ▸ hb')
          exact fun e => HR1.inj b b' hdom (hdone b' hb').1 hne hrw (hdone b' hb').2 e.symm) (hW _ htop) (HR1.size b hdom) (HR1.row b false ty row hdom hg) hfl (HR1.esz b false ty row hdom hg) (HR1.bld b ty row hdom hg)
      have hpl : ∀ c, E.dom c → (E.ext h.next (E1.pl b)).pl c = E.pl c := fun c hc => Emb.ext_pl_ne _ _ _ _ (fun e => hn (e ▸ hc))
      obtain ⟨E', g1, g2, g3, g4⟩ := ih (E.ext h.next (E1.pl b)) (h.alloc (.cells false ty row)) (b :: done) Ha (by simp; omega) (by
        rintro c (hc | rfl)
        · rw [hpl c hc]
          rcases hd c hc with h1 | ⟨b', hb', h1⟩
          · exact .inl h1
          · exact .inr ⟨b', List.mem_cons_of_mem _ hb', h1⟩
        · rw [Emb.ext_pl]; exact .inr ⟨b, List.mem_cons_self, rfl⟩) (fun x hx => hL x (List.mem_cons_of_mem _ hx)) (by
        intro b' hb'
        rcases List.mem_cons.1 hb' with rfl | hb'
        · exact ⟨hdom, hlive⟩
        · exact hdone b' hb') nd.2 (by
        intro b' hb' hm
        rcases List.mem_cons.1 hm with rfl | hm
        · exact nd.1 hb'
        · exact hni b' (by simp [newIds, hb']) hm)
      refine ⟨E', g1, Emb.le_trans (Emb.le_ext E h.next _ hn) g2, ?_, ?_⟩
      · intro i ty1 row1 b' hi
        cases i with
        | zero =>
          simp only [List.getElem?_cons_zero, Option.some.injEq, Prod.mk.injEq] at hi
          obtain ⟨⟨rfl, rfl⟩, rfl⟩ := hi
          have := g2 h.next (Emb.ext_dom _ _ _)
          rw [Emb.ext_pl] at this
          exact this
        | succ i =>
          have := g3 i ty1 row1 b' (by simpa using hi)
          rw [Heap.next_alloc] at this
          rwa [show h.next + (i + 1) = h.next + 1 + i by omega]
      · intro c hc
        rcases g4 c hc with (h1 | rfl) | ⟨h1, h2, h3⟩
        · exact .inl h1
        · refine .inr ⟨Nat.le_refl _, by rw [List.length_cons]; omega, ?_⟩
          rw [(g2 h.next (Emb.ext_dom _ _ _)).2, Emb.ext_pl]
          exact hW _ htop
        · rw [Heap.next_alloc] at h1 h2
          exact .inr ⟨by omega, by rw [List.length_cons]; omega, h3⟩

end
end Go.AM

/-
  A function's record as an answer: up to three new rows; and a record's rows read.
-/
set_option linter.unusedSectionVars false
set_option linter.unusedVariables false
set_option linter.unusedSimpArgs false
namespace Go.AM
open Go.Proofs Go.RowKit

def svO : Option (List V) → Id → V
  | none, _ => .nilslice
  | some row, b => .slice b 0 row.length none
def nb (o : Option (List V)) (b : Id) : NewB := (o.map fun r => (3, r), b)
def obO : Option (List V) → Obj
  | none => .dead
  | some row => .cells false 3 row
def recV (o1 o2 o3 : Option (List V)) (b1 b2 b3 : Id) (ok : Bool) : V := .tup [.agg [svO o1 b1, svO o2 b2, svO o3 b3, .nilslice], .bool ok]

def roO : Option (List V) → Obj
  | none => .dead
  | some row => .cells true 3 row
/-- A slice of an argument: of any capacity. -/
def svQ : Option (List V) → Option Nat → Id → V
  | none, _, _ => .nilslice
  | some row, cp, b => .slice b 0 row.length cp
def sv4 : Option (Nat × Option Nat) → Id → V
  | none, _ => .nilslice
  | some k, b => .slice b 0 k.1 k.2

theorem svO_dom {E : Emb} {o : Option (List V)} {b : Id} {x : Value} (h : VR E (svO o b) x) {row : List V} (ho : o = some row) : E.dom b := by
  subst ho
  simp only [svO, VR] at h
  exact h.1
theorem svO_move {E E' : Emb} {o : Option (List V)} {b b' : Id} {x : Value} (h : VR E (svO o b) x) (hd : ∀ row, o = some row → E'.dom b' ∧ E'.pl b' = E.pl b) : VR E' (svO o b') x := by
  cases o with
  | none => simpa only [svO, VR] using h
  | some row =>
    obtain ⟨h1, h2⟩ := hd row rfl
    simp only [svO, VR] at h ⊢
    rw [h2]
    exact ⟨h1, h.2⟩

theorem svQ_dom {E : Emb} {o : Option (List V)} {c : Option Nat} {b : Id} {x : Value} (h : VR E (svQ o c b) x) {row : List V} (ho : o = some row) : E.dom b := by
  subst ho
  cases c <;> (simp only [svQ, VR] at h; exact h.1)
theorem svQ_move {E E' : Emb} {o : Option (List V)} {c : Option Nat} {b b' : Id} {x : Value} (h : VR E (svQ o c b) x) (hd : ∀ row, o = some row → E'.dom b' ∧ E'.pl b' = E.pl b) : VR E' (svQ o c b') x := by
  cases o with
  | none => simpa only [svQ, VR] using h
  | some row =>
    obtain ⟨h1, h2⟩ := hd row rfl
    cases c <;> (simp only [svQ, VR] at h ⊢; rw [h2]; exact ⟨h1, h.2⟩)

section
variable {P : Program} [Glob P]

theorem fresh3 (hm : P.follows .mixedOrders = true) {X : Ext} (hX : ExtOk P X) (hXm : ExtMono X) {n : Nat} {f : FuncId} {args : List V} {o1 o2 o3 : Option (List V)} {b1 b2 b3 : Id} {ok : Bool} {H' : Heap}
    (hrun : callN P X n f args h0 = some (recV o1 o2 o3 b1 b2 b3 ok, H')) (hfl : flats args = true)
    (hg : ∀ x ∈ [nb o1 b1, nb o2 b2, nb o3 b3], ∀ ty row, x.1 = some (ty, row) → H'.get x.2 = some (.cells false ty row) ∧ flats row = true) (hnd : (newIds [nb o1 b1, nb o2 b2, nb o3 b3]).Nodup)
    {W : Nat → Prop} {lim : Nat} {E : Emb} {h : Heap} {w : World} {args' : List Value} (hlim : h.next + 3 ≤ lim) (H : HR P W lim E h w) (hr : VRs E args args') :
    Calls P f ⟨args'⟩ w fun e w' => ∃ x E', e = .returned x ∧ HR P W lim E' (allocs h [obO o1, obO o2, obO o3]) w' ∧ VR E' (recV o1 o2 o3 h.next (h.next + 1) (h.next + 2) ok) x ∧ Fwd W E h w E' (allocs h [obO o1, obO o2, obO o3]) w' := by
  have G : Glob.ok P (fun c => w.heap.size ≤ c) w := Glob.sub H.glob (fun c hc => .inr hc)
  refine Calls.mono (callN_ok hm X hX hXm n f args h0 _ H' hrun (fun c => w.heap.size ≤ c) H'.next noEmb w args' (Nat.le_refl _) (HR.none w _ G) (VRs.flat _ _ hfl hr)) ?_
  rintro e w' ⟨x, E1, rfl, HR1, hx, fw⟩
  have hs := fw.same
  have H2 := H.after hs
  simp only [recV, VR, VRs] at hx
  obtain ⟨_, rfl, _, _, rfl, ⟨_, rfl, ⟨x1, _, rfl, v1, x2, _, rfl, v2, x3, _, rfl, v3, x4, _, rfl, rfl, rfl⟩, hcell⟩, x5, _, rfl, rfl, rfl⟩ := hx
  have hpc : ∀ b, E1.dom b → w.heap.size ≤ (E1.pl b).c := fun b hd => by
    rcases fw.new b hd with h | ⟨_, _, h⟩
    · exact h.elim
    · exact h
  have eobj : [nb o1 b1, nb o2 b2, nb o3 b3].map NewB.obj = [obO o1, obO o2, obO o3] := by cases o1 <;> cases o2 <;> cases o3 <;> rfl
  obtain ⟨E', g1, g2, g3, g4⟩ := adopts HR1 H.top [nb o1 b1, nb o2 b2, nb o3 b3] E h [] H2 hlim (fun c hc => .inl (H.size c hc)) (by
    intro x hx ty row hxo
    obtain ⟨e1, e2⟩ := hg x hx ty row hxo
    have hd : E1.dom x.2 := by
      simp only [List.mem_cons, List.not_mem_nil, or_false] at hx
      rcases hx with rfl | rfl | rfl
      · cases o1 with
        | none => cases hxo
        | some r => exact svO_dom v1 rfl
      · cases o2 with
        | none => cases hxo
        | some r => exact svO_dom v2 rfl
      · cases o3 with
        | none => cases hxo
        | some r => exact svO_dom v3 rfl
    exact ⟨hd, e1, e2, hpc _ hd⟩) (fun b hb => by cases hb) hnd (fun b hb => by simp)
  rw [eobj] at g1
  have gn : (allocs h [obO o1, obO o2, obO o3]).next = h.next + 3 := allocs_next _ _
  refine ⟨_, E', rfl, g1, ?_, g2, fun b hb => ?_, hs.weaken H.top, by rw [gn]; omega⟩
  · simp only [recV, VR, VRs]
    refine ⟨_, rfl, _, _, rfl, ⟨_, rfl, ⟨x1, _, rfl, svO_move v1 ?_, x2, _, rfl, svO_move v2 ?_, x3, _, rfl, svO_move v3 ?_, _, _, rfl, rfl, rfl⟩, hcell⟩, _, _, rfl, rfl, rfl⟩
    · intro row h1
      subst h1
      exact g3 0 3 row b1 rfl
    · intro row h1
      subst h1
      exact g3 1 3 row b2 rfl
    · intro row h1
      subst h1
      exact g3 2 3 row b3 rfl
  · rcases g4 b hb with h1 | ⟨h1, h2, h3⟩
    · exact .inl h1
    · exact .inr ⟨h1, by rw [gn]; exact h2, h3⟩

/-- A record's rows read: three of numbers; the fourth is not looked at. -/
theorem read3 (hm : P.follows .mixedOrders = true) {X : Ext} (hX : ExtOk P X) (hXm : ExtMono X) {n : Nat} {f : FuncId} {l1 l2 l3 : Option (List V)} {v : V} {H' : Heap} {c1 c2 c3 : Option Nat}
    (hf1 : ∀ r, l1 = some r → flats r = true) (hf2 : ∀ r, l2 = some r → flats r = true) (hf3 : ∀ r, l3 = some r → flats r = true) (hv : flat v = true)
    (o4 : Option (Nat × Option Nat))
    (hrun : callN P X n f [.agg [svQ l1 c1 0, svQ l2 c2 1, svQ l3 c3 2, sv4 o4 3]] (allocs h0 [roO l1, roO l2, roO l3, .dead]) = some (v, H'))
    {W : Nat → Prop} {lim : Nat} {E : Emb} {h : Heap} {w : World} {args' : List Value} {b1 b2 b3 b4 : Id} (H : HR P W lim E h w)
    (hg1 : ∀ r, l1 = some r → ∃ ro, h.get b1 = some (.cells ro 3 r)) (hg2 : ∀ r, l2 = some r → ∃ ro, h.get b2 = some (.cells ro 3 r)) (hg3 : ∀ r, l3 = some r → ∃ ro, h.get b3 = some (.cells ro 3 r))
    (hr : VRs E [.agg [svQ l1 c1 b1, svQ l2 c2 b2, svQ l3 c3 b3, sv4 o4 b4]] args') :
    Calls P f ⟨args'⟩ w fun e w' => ∃ x E', e = .returned x ∧ HR P W lim E' h w' ∧ VR E' v x ∧ Fwd W E h w E' h w' := by
  simp only [VR, VRs] at hr
  obtain ⟨_, _, rfl, ⟨_, rfl, ⟨x1, _, rfl, v1, x2, _, rfl, v2, x3, _, rfl, v3, x4, _, rfl, v4, rfl⟩, hcell⟩, rfl⟩ := hr
  let bs : Nat → Id := fun k => match k with | 0 => b1 | 1 => b2 | 2 => b3 | _ => b4
  let E0 : Emb := ⟨fun b => (b = 0 ∧ l1 ≠ none) ∨ (b = 1 ∧ l2 ≠ none) ∨ (b = 2 ∧ l3 ≠ none) ∨ (b = 3 ∧ o4 ≠ none), fun b => E.pl (bs b)⟩
  let hh : Heap := allocs h0 [roO l1, roO l2, roO l3, .dead]
  have d1 : l1 ≠ none → E.dom b1 := fun hn => by
    cases l1 with
    | none => exact absurd rfl hn
    | some r => exact svQ_dom v1 rfl
  have d2 : l2 ≠ none → E.dom b2 := fun hn => by
    cases l2 with
    | none => exact absurd rfl hn
    | some r => exact svQ_dom v2 rfl
  have d3 : l3 ≠ none → E.dom b3 := fun hn => by
    cases l3 with
    | none => exact absurd rfl hn
    | some r => exact svQ_dom v3 rfl
  have d4 : o4 ≠ none → E.dom b4 := fun hn => by
    cases o4 with
    | none => exact absurd rfl hn
    | some k =>
      obtain ⟨k, c⟩ := k
      cases c <;> (simp only [sv4, VR] at v4; exact v4.1)
  have dall : ∀ b, E0.dom b → E.dom (bs b) := by
    rintro b (⟨rfl, h1⟩ | ⟨rfl, h1⟩ | ⟨rfl, h1⟩ | ⟨rfl, h1⟩)
    · exact d1 h1
    · exact d2 h1
    · exact d3 h1
    · exact d4 h1
  have rows : ∀ b ro ty l, E0.dom b → hh.get b = some (.cells ro ty l) → ro = true ∧ ty = 3 ∧ flats l = true ∧ ∃ ro', h.get (bs b) = some (.cells ro' 3 l) := by
    rintro b ro ty l hb hg
    have hget : ∀ k, hh.get k = _ := fun k => allocs_get _ _ _
    rw [hget] at hg
    simp only [Nat.not_lt_zero, if_false, Nat.sub_zero, show h0.next = 0 from rfl] at hg
    rcases hb with ⟨rfl, h1⟩ | ⟨rfl, h1⟩ | ⟨rfl, h1⟩ | ⟨rfl, h1⟩
    · cases l1 with
      | none => exact absurd rfl h1
      | some r => simp [roO] at hg; obtain ⟨rfl, rfl, rfl⟩ := hg; exact ⟨rfl, rfl, hf1 _ rfl, hg1 _ rfl⟩
    · cases l2 with
      | none => exact absurd rfl h1
      | some r => simp [roO] at hg; obtain ⟨rfl, rfl, rfl⟩ := hg; exact ⟨rfl, rfl, hf2 _ rfl, hg2 _ rfl⟩
    · cases l3 with
      | none => exact absurd rfl h1
      | some r => simp [roO] at hg; obtain ⟨rfl, rfl, rfl⟩ := hg; exact ⟨rfl, rfl, hf3 _ rfl, hg3 _ rfl⟩
    · simp at hg
  have hnext : hh.next = 4 := allocs_next _ _
  have HR0 : HR P (fun c => w.heap.size ≤ c) H'.next E0 hh w := by
    refine ⟨fun b hb => .inl ?_, fun b hb => H.size _ (dall b hb), fun b ro ty l hb hgb => ?_, fun b hb hrw => ?_, fun b ro ty l hb hgb => ?_, fun b b' hb hb' hne hrw => ?_, fun _ h => h, Glob.sub H.glob (fun c hc => .inr hc), fun b ty l hb hgb => ?_⟩
    · rw [hnext]
      rcases hb with ⟨rfl, _⟩ | ⟨rfl, _⟩ | ⟨rfl, _⟩ | ⟨rfl, _⟩ <;> decide
    · obtain ⟨rfl, rfl, hf, ro', hg⟩ := rows b ro ty l hb hgb
      obtain ⟨arr, ty2, fz, q1, q2, q3, q4, q5, q6⟩ := (H.row _ ro' _ _ (dall b hb) hg).ex
      exact ⟨arr, ty2, fz, q1, q2, q3, VRs.flat _ _ hf q4, q5, fun h => by cases h⟩
    · cases hgb : hh.get b with
      | none => rw [hgb] at hrw; cases hrw
      | some o =>
        rw [hgb] at hrw
        cases o with
        | cells ro ty l =>
          obtain ⟨rfl, _⟩ := rows b ro ty l hb hgb
          cases hrw
        | map l =>
          exfalso
          have hget : ∀ k, hh.get k = _ := fun k => allocs_get _ _ _
          rw [hget] at hgb
          simp only [Nat.not_lt_zero, if_false, Nat.sub_zero, show h0.next = 0 from rfl] at hgb
          rcases hb with ⟨rfl, h1⟩ | ⟨rfl, h1⟩ | ⟨rfl, h1⟩ | ⟨rfl, h1⟩
          · cases l1 <;> simp [roO] at hgb
          · cases l2 <;> simp [roO] at hgb
          · cases l3 <;> simp [roO] at hgb
          · simp at hgb
        | dead => cases hrw
    · obtain ⟨rfl, rfl, hf, ro', hg⟩ := rows b ro ty l hb hgb
      exact H.esz _ ro' _ _ (dall b hb) hg
    · exfalso
      cases hgb : hh.get b with
      | none => rw [hgb] at hrw; cases hrw
      | some o =>
        rw [hgb] at hrw
        cases o with
        | cells ro ty l =>
          obtain ⟨rfl, _⟩ := rows b ro ty l hb hgb
          cases hrw
        | map l =>
          have hget : ∀ k, hh.get k = _ := fun k => allocs_get _ _ _
          rw [hget] at hgb
          simp only [Nat.not_lt_zero, if_false, Nat.sub_zero, show h0.next = 0 from rfl] at hgb
          rcases hb with ⟨rfl, h1⟩ | ⟨rfl, h1⟩ | ⟨rfl, h1⟩ | ⟨rfl, h1⟩
          · cases l1 <;> simp [roO] at hgb
          · cases l2 <;> simp [roO] at hgb
          · cases l3 <;> simp [roO] at hgb
          · simp at hgb
        | dead => cases hrw
    · obtain ⟨h1, _⟩ := rows b false ty l hb hgb
      cases h1
  have hargs : VRs E0 [.agg [svQ l1 c1 0, svQ l2 c2 1, svQ l3 c3 2, sv4 o4 3]] [.agg ⟨[x1, x2, x3, x4]⟩] := by
    simp only [VR, VRs]
    refine ⟨_, _, rfl, ⟨_, rfl, ⟨x1, _, rfl, svQ_move v1 ?_, x2, _, rfl, svQ_move v2 ?_, x3, _, rfl, svQ_move v3 ?_, x4, _, rfl, ?_, rfl⟩, hcell⟩, rfl⟩
    · intro row e; exact ⟨.inl ⟨rfl, by rw [e]; simp⟩, rfl⟩
    · intro row e; exact ⟨.inr (.inl ⟨rfl, by rw [e]; simp⟩), rfl⟩
    · intro row e; exact ⟨.inr (.inr (.inl ⟨rfl, by rw [e]; simp⟩)), rfl⟩
    · cases o4 with
      | none => simpa only [sv4, VR] using v4
      | some k =>
        obtain ⟨k, c⟩ := k
        cases c <;> (simp only [sv4, VR] at v4 ⊢; exact ⟨.inr (.inr (.inr ⟨rfl, by simp⟩)), v4.2⟩)
  refine Calls.mono (callN_ok hm X hX hXm n f _ _ v H' hrun (fun c => w.heap.size ≤ c) H'.next E0 w _ (Nat.le_refl _) HR0 hargs) ?_
  rintro e w' ⟨x, E', rfl, _, hx, fw⟩
  exact ⟨x, E, rfl, H.after fw.same, VR.flat _ _ hv hx, Fwd.after H fw.same⟩

end
end Go.AM
