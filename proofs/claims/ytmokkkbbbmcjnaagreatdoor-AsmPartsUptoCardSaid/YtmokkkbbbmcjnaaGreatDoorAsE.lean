/-
  Functions that are answered by what is proved of them elsewhere.
-/
import Derived.Test.YtmokkkbbbmcjnaaGreatDoorAmLoop
import Derived.Below
set_option linter.unusedSectionVars false
set_option linter.unusedSimpArgs false
set_option linter.unusedVariables false
namespace Go.AM
open Go.RowKit

variable {P : Program} [Glob P]

abbrev GFun := List V → Heap → Option (V × Heap)

/-- An answer that is right, whoever asks. -/
structure EntryOk (P : Program) [Glob P] (f : FuncId) (g : GFun) : Prop where
  call : ∀ (args : List V) (h : Heap) (v : V) (h' : Heap), g args h = some (v, h') →
    ∀ (W : Nat → Prop) (lim : Nat) (E : Emb) (w : World) (args' : List Value), h'.next ≤ lim → HR P W lim E h w → VRs E args args' →
      Calls P f ⟨args'⟩ w fun e w' => ∃ x E', e = .returned x ∧ HR P W lim E' h' w' ∧ VR E' v x ∧ Fwd W E h w E' h' w'
  mono : ∀ (args : List V) (h : Heap) (v : V) (h' : Heap), g args h = some (v, h') → Mono h h'

def findG (f : FuncId) : List (FuncId × GFun) → Option GFun
  | [] => none
  | (k, g) :: l => if Nat.beq k f then some g else findG f l

def libExt (l : List (FuncId × GFun)) : Ext := fun f => findG f l

theorem findG_mem {f : FuncId} {g : GFun} : ∀ {l : List (FuncId × GFun)}, findG f l = some g → (f, g) ∈ l
  | [], h => by cases h
  | (k, g') :: l, h => by
    simp only [findG] at h
    split at h
    · rename_i hk
      cases h
      rw [Nat.eq_of_beq_eq_true hk]; exact List.mem_cons_self
    · exact List.mem_cons_of_mem _ (findG_mem h)

theorem libExt_ok {l : List (FuncId × GFun)} (hl : ∀ x ∈ l, EntryOk P x.1 x.2) : ExtOk P (libExt l) := by
  intro f g hg f' args h v h' hr
  simp only at hr
  split at hr
  · rename_i hf
    subst hf
    exact (hl _ (findG_mem hg)).call args h v h' hr
  · cases hr
theorem libExt_mono {l : List (FuncId × GFun)} (hl : ∀ x ∈ l, EntryOk P x.1 x.2) : ExtMono (libExt l) := by
  intro f g hg args h v h' hr
  exact (hl _ (findG_mem hg)).mono args h v h' hr

/-- One after the other. -/
def orExt (X Y : Ext) : Ext := fun f => match X f with
  | some g => some g
  | none => Y f

theorem orExt_ok {X Y : Ext} (hX : ExtOk P X) (hY : ExtOk P Y) : ExtOk P (orExt X Y) := by
  intro f g hg
  unfold orExt at hg
  split at hg
  · rename_i g' hg'
    cases hg
    exact hX f _ hg'
  · exact hY f g hg
theorem orExt_mono {X Y : Ext} (hX : ExtMono X) (hY : ExtMono Y) : ExtMono (orExt X Y) := by
  intro f g hg
  unfold orExt at hg
  split at hg
  · rename_i g' hg'
    cases hg
    exact hX f _ hg'
  · exact hY f g hg

theorem same_below {w w' : World} (h : Below w.heap.size w w') : Same (fun c => w.heap.size ≤ c) w w' :=
  ⟨h.os, h.tape, h.output, h.size, fun c hc => h.block c (Nat.not_le.1 hc)⟩

/-- Nothing of what was there has turned. -/
theorem HR.after {W : Nat → Prop} {lim : Nat} {E : Emb} {h : Heap} {w w' : World} (H : HR P W lim E h w) (hs : Same (fun c => w.heap.size ≤ c) w w') : HR P W lim E h w' :=
  ⟨H.lt, fun b hb => Nat.lt_of_lt_of_le (H.size b hb) hs.size, fun b ro ty l hb hg => (H.row b ro ty l hb hg).of_eq (hs.heap _ (fun h1 => absurd (H.size b hb) (Nat.not_lt.2 h1))), H.own, H.esz, H.inj, fun c hc => H.top c (Nat.le_trans hs.size hc),
    Glob.same H.glob hs.size (fun c hc => hs.heap c (fun h1 => hc (H.top c h1))), fun b ty l hb hg => by rw [shape_of (hs.heap _ (fun h1 => absurd (H.size b hb) (Nat.not_lt.2 h1)))]; exact H.bld b ty l hb hg⟩
theorem Fwd.after {W : Nat → Prop} {lim : Nat} {E : Emb} {h : Heap} {w w' : World} (H : HR P W lim E h w) (hs : Same (fun c => w.heap.size ≤ c) w w') : Fwd W E h w E h w' :=
  ⟨Emb.le_refl E, fun b hb => .inl hb, hs.weaken H.top, Nat.le_refl _⟩

/-- An answer without addresses, memory as it was. -/
theorem quiet {W : Nat → Prop} {lim : Nat} {E : Emb} {h : Heap} {w : World} {f : FuncId} {args' : Array Value} {v : V} (H : HR P W lim E h w)
    (hc : Calls P f args' w fun e w' => ∃ x, e = .returned x ∧ VR E v x ∧ Below w.heap.size w w') :
    Calls P f args' w fun e w' => ∃ x E', e = .returned x ∧ HR P W lim E' h w' ∧ VR E' v x ∧ Fwd W E h w E' h w' := by
  refine hc.mono ?_
  rintro e w' ⟨x, rfl, hx, hb⟩
  exact ⟨x, E, rfl, H.after (same_below hb), hx, Fwd.after H (same_below hb)⟩

/-- An answer with a new pointer behind which we know nothing. -/
theorem fresh {W : Nat → Prop} {lim : Nat} {E : Emb} {h : Heap} {w : World} {f : FuncId} {args' : Array Value} {v : V} (H : HR P W lim E h w) (hlim : h.next < lim)
    (hc : Calls P f args' w fun e w' => ∃ N x, e = .returned x ∧ VR (E.ext h.next ⟨N, 0, 0, 0⟩) v x ∧ w.heap.size ≤ N ∧ N < w'.heap.size ∧ Below w.heap.size w w') :
    Calls P f args' w fun e w' => ∃ x E', e = .returned x ∧ HR P W lim E' (h.alloc .dead) w' ∧ VR E' v x ∧ Fwd W E h w E' (h.alloc .dead) w' := by
  refine hc.mono ?_
  rintro e w' ⟨N, x, rfl, hx, hN, hN2, hb⟩
  have hs := same_below hb
  have H' := H.after hs
  have hn := H.new hlim
  have hle := Emb.le_ext E h.next ⟨N, 0, 0, 0⟩ hn
  have hge : ∀ b, E.dom b → (h.alloc .dead).get b = h.get b := fun b hb => Heap.get_alloc_ne _ _ _ (fun e => hn (e ▸ hb))
  have hpl : ∀ b, E.dom b → (E.ext h.next ⟨N, 0, 0, 0⟩).pl b = E.pl b := fun b hb => Emb.ext_pl_ne _ _ _ _ (fun e => hn (e ▸ hb))
  have hnew : (h.alloc .dead).get h.next = some .dead := Heap.get_alloc_same _ _
  refine ⟨x, E.ext h.next ⟨N, 0, 0, 0⟩, rfl, ⟨?_, ?_, ?_, ?_, ?_, ?_, H'.top, H'.glob, ?_⟩, hx, hle, ?_, hs.weaken H.top, by simp⟩
  · rintro b (hb | rfl)
    · exact (H.lt b hb).imp Nat.lt_succ_of_lt id
    · exact .inl (Nat.lt_succ_self _)
  · rintro b (hb | rfl)
    · rw [hpl b hb]; exact H'.size b hb
    · rw [Emb.ext_pl]; exact hN2
  · rintro b ro ty l (hb | rfl) hg
    · rw [hge b hb] at hg
      rw [hpl b hb]; exact (H'.row b ro ty l hb hg).mono hle
    · rw [hnew] at hg; cases hg
  · rintro b (hb | rfl) hr
    · rw [hge b hb] at hr
      rw [hpl b hb]; exact H'.own b hb hr
    · rw [hnew] at hr; cases hr
  · rintro b ro ty l (hb | rfl) hg
    · rw [hge b hb] at hg
      rw [hpl b hb]; exact H'.esz b ro ty l hb hg
    · rw [hnew] at hg; cases hg
  · rintro b b' (hb | rfl) (hb' | rfl) hne hr hl
    · rw [hge b hb] at hr
      rw [hge b' hb'] at hl
      rw [hpl b hb, hpl b' hb']; exact H'.inj b b' hb hb' hne hr hl
    · rw [hnew] at hl; cases hl
    · rw [hnew] at hr; cases hr
    · exact absurd rfl hne
  · rintro b ty l (hb | rfl) hg
    · rw [hge b hb] at hg
      rw [hpl b hb]; exact H'.bld b ty l hb hg
    · rw [hnew] at hg; cases hg
  · rintro b (hb | rfl)
    · exact .inl hb
    · refine .inr ⟨Nat.le_refl _, by simp, ?_⟩
      rw [Emb.ext_pl]; exact H.top _ hN

end Go.AM
