/-
  Functions whose arguments and results hold no address: what they tell from empty memory, they tell from any.
-/
import Derived.Test.YtmokkkbbbmcjnaaGreatDoorAmOrc
set_option linter.unusedSectionVars false
set_option linter.unusedSimpArgs false
set_option linter.unusedVariables false
namespace Go.AM

mutual
def flat : V → Bool
  | .bool _ | .int _ _ | .str _ | .nilptr | .nilslice | .nilmap | .nilfunc | .niliface => true
  | .iface _ v => flat v
  | .agg l => flats l
  | .tup l => flats l
  | _ => false
def flats : List V → Bool
  | [] => true
  | v :: l => flat v && flats l
end

mutual
theorem VR.flat {E E' : Emb} : ∀ (v : V) (x : Value), AM.flat v = true → VR E v x → VR E' v x
  | .bool _, _, _, hv | .int _ _, _, _, hv | .str _, _, _, hv | .nilptr, _, _, hv | .nilslice, _, _, hv | .nilmap, _, _, hv | .nilfunc, _, _, hv | .niliface, _, _, hv => by
    simpa only [VR] using hv
  | .iface t v, x, hf, hv => by
    simp only [VR] at hv ⊢
    simp only [AM.flat] at hf
    obtain ⟨y, e, h1⟩ := hv
    exact ⟨y, e, VR.flat v y hf h1⟩
  | .agg l, x, hf, hv => by
    simp only [VR] at hv ⊢
    simp only [AM.flat] at hf
    obtain ⟨y, e, h1, h2⟩ := hv
    exact ⟨y, e, VRs.flat l y hf h1, h2⟩
  | .tup l, x, hf, hv => by
    simp only [VR] at hv ⊢
    simp only [AM.flat] at hf
    obtain ⟨y, e, h1⟩ := hv
    exact ⟨y, e, VRs.flat l y hf h1⟩
  | .ptr _ _, _, hf, _ | .slice _ _ _ _, _, hf, _ | .map _, _, hf, _ | .func _ _ _, _, hf, _ | .box _, _, hf, _ | .lref _ _, _, hf, _ | .junk, _, hf, _ => by simp [AM.flat] at hf
theorem VRs.flat {E E' : Emb} : ∀ (l : List V) (xs : List Value), AM.flats l = true → VRs E l xs → VRs E' l xs
  | [], xs, _, h => by simpa only [VRs] using h
  | v :: l, xs, hf, h => by
    simp only [VRs] at h ⊢
    simp only [AM.flats, Bool.and_eq_true] at hf
    obtain ⟨y, ys, e, h1, h2⟩ := h
    exact ⟨y, ys, e, VR.flat v y hf.1 h1, VRs.flat l ys hf.2 h2⟩
end

/-- Empty memory. -/
abbrev h0 : Heap := ⟨0, 0, .leaf⟩

def noEmb : Emb := ⟨fun _ => False, fun _ => ⟨0, 0, 0, 0⟩⟩

variable {P : Program} [Glob P]

theorem HR.none (w : World) (lim : Nat) (G : Glob.ok P (fun c => w.heap.size ≤ c) w) : HR P (fun c => w.heap.size ≤ c) lim noEmb h0 w :=
  ⟨fun _ h => h.elim, fun _ h => h.elim, fun _ _ _ _ h => h.elim, fun _ h => h.elim, fun _ _ _ _ h => h.elim, fun _ _ h => h.elim, fun _ h => h, G, fun _ _ _ h => h.elim⟩

theorem flat_call {call : CallF} (hc : CallOk P call) {f : FuncId} {args : List V} {v : V} {h' : Heap} (hrun : call f args h0 = some (v, h')) (hargs : flats args = true) (hv : flat v = true) (E : Emb) (w : World) (args' : List Value) (hr : VRs E args args') (G : Glob.ok P (fun c => w.heap.size ≤ c) w) :
    Calls P f ⟨args'⟩ w fun e w' => ∃ x, e = .returned x ∧ VR E v x ∧ Same (fun c => w.heap.size ≤ c) w w' := by
  refine Calls.mono (hc f args h0 v h' hrun (fun c => w.heap.size ≤ c) h'.next noEmb w args' (Nat.le_refl _) (HR.none w _ G) (VRs.flat _ _ hargs hr)) ?_
  rintro e w' ⟨x, E', rfl, _, hx, fw⟩
  exact ⟨x, rfl, VR.flat _ _ hv hx, fw.same⟩

theorem callOk_flat {call : CallF} (hc : CallOk P call) (f : FuncId) (args : List V) (v : V) (h' : Heap) (hrun : call f args h0 = some (v, h')) (hargs : flats args = true) (hv : flat v = true) (h : Heap) (W : Nat → Prop) (lim : Nat) (E : Emb) (w : World) (args' : List Value)
    (H : HR P W lim E h w) (hr : VRs E args args') : Calls P f ⟨args'⟩ w fun e w' => ∃ x E', e = .returned x ∧ HR P W lim E' h w' ∧ VR E' v x ∧ Fwd W E h w E' h w' := by
  refine Calls.mono (flat_call hc hrun hargs hv E w args' hr (Glob.sub H.glob (fun c hc => .inr hc))) ?_
  rintro e w' ⟨x, rfl, hx, hs⟩
  refine ⟨x, E, rfl, ⟨H.lt, fun b hb => Nat.lt_of_lt_of_le (H.size b hb) hs.size, fun b ro ty l hb hg => (H.row b ro ty l hb hg).of_eq (hs.heap _ (fun h1 => absurd (H.size b hb) (Nat.not_lt.2 h1))), H.own, H.esz, H.inj, fun c hc => H.top c (Nat.le_trans hs.size hc), Glob.same H.glob hs.size (fun c hc => hs.heap c (fun h1 => hc (H.top c h1))), fun b ty l hb hg => by rw [shape_of (hs.heap _ (fun h1 => absurd (H.size b hb) (Nat.not_lt.2 h1)))]; exact H.bld b ty l hb hg⟩, hx, Emb.le_refl E, fun b hb => .inl hb, hs.weaken H.top, Nat.le_refl _⟩

/-- A function that we know by heart. -/
abbrev FlatF := FuncId × (List V → Option V)

def find (f : FuncId) : List FlatF → Option (List V → Option V)
  | [] => none
  | (k, g) :: l => if Nat.beq k f then some g else find f l

def flatExt (l : List FlatF) : Ext := fun f => (find f l).map fun g args h => (g args).map (·, h)

/-- What we know by heart is what the function tells. -/
def Knows (P : Program) (X : Ext) (x : FlatF) : Prop := ∀ args v, x.2 args = some v → flats args = true ∧ flat v = true ∧ ∃ n h', callN P X n x.1 args h0 = some (v, h')

theorem flatExt_mono (l : List FlatF) : ExtMono (flatExt l) := by
  intro f g hg args h v h' hr
  simp only [flatExt, Option.map_eq_some_iff] at hg
  obtain ⟨k, _, rfl⟩ := hg
  simp only [Option.map_eq_some_iff, Prod.mk.injEq] at hr
  obtain ⟨_, _, _, rfl⟩ := hr
  exact Mono.refl _

theorem find_mem {f : FuncId} {g : List V → Option V} : ∀ {l : List FlatF}, find f l = some g → (f, g) ∈ l
  | [], h => by cases h
  | (k, g') :: l, h => by
    simp only [find] at h
    split at h
    · rename_i hk
      cases h
      rw [Nat.eq_of_beq_eq_true hk]; exact List.mem_cons_self
    · exact List.mem_cons_of_mem _ (find_mem h)

theorem flatExt_ok (hm : P.follows .mixedOrders = true) {l : List FlatF} (hl : ∀ x ∈ l, ∃ X, ExtOk P X ∧ ExtMono X ∧ Knows P X x) : ExtOk P (flatExt l) := by
  intro f g hg
  simp only [flatExt, Option.map_eq_some_iff] at hg
  obtain ⟨k, hk, rfl⟩ := hg
  obtain ⟨X, hX, hXm, hkn⟩ := hl _ (find_mem hk)
  intro f' args h v h' hr W lim E w args' hlim H hvr
  simp only at hr
  split at hr
  · rename_i hf
    subst hf
    simp only [Option.map_eq_some_iff, Prod.mk.injEq] at hr
    obtain ⟨v', hv', rfl, rfl⟩ := hr
    obtain ⟨h1, h2, n, h3, h4⟩ := hkn args v' hv'
    exact callOk_flat (callN_ok hm X hX hXm n) f' args v' h3 h4 h1 h2 h W lim E w args' H hvr
  · cases hr

theorem noExt_ok : ExtOk P (flatExt []) := by intro f g hg; cases hg

end Go.AM
