/-
  Literals, slice expressions, indexes, lengths.
-/
import Derived.Test.YtmokkkbbbmcjnaaGreatDoorAmOps2
set_option linter.unusedSectionVars false
set_option linter.unusedSimpArgs false
set_option linter.unusedVariables false
namespace Go.AM

variable {P : Program} [Glob P]

theorem foldl_set (vs : List Value) : ∀ (k j : Nat) (cs : Array Value), j + k + vs.length ≤ cs.size →
    ((vs.zipIdx k).foldl (fun cs (p : Value × Nat) => cs.setIfInBounds (j + p.2) p.1) cs).toList = cs.toList.take (j + k) ++ vs ++ cs.toList.drop (j + k + vs.length) := by
  induction vs with
  | nil => intro k j cs h; simp
  | cons v vs ih =>
    intro k j cs h
    simp only [List.zipIdx_cons, List.foldl_cons]
    rw [ih (k + 1) j _ (by simp at h ⊢; omega)]
    have e := list_seg_step cs.toList (j + k) v vs (by simp at h ⊢; omega)
    simpa [Array.toList_setIfInBounds, Nat.add_assoc, Nat.add_comm 1] using e

theorem fill_step (cs vs : Array Value) (off : Nat) (h : off + vs.size ≤ cs.size) :
    (vs.zipIdx.foldl (fun cs (p : Value × Nat) => cs.setIfInBounds (off + p.2) p.1) cs) = ⟨cs.toList.take off ++ vs.toList ++ cs.toList.drop (off + vs.size)⟩ := by
  apply Array.ext'
  rw [← Array.foldl_toList, Array.toList_zipIdx]
  have := foldl_set vs.toList 0 off cs (by simpa using h)
  simpa using this

theorem fill_ok {E : Emb} (place : Nat → Option (Nat × Nat)) : ∀ (ps : List (Nat × V)) (cs cs' : List V) (ps' : List (Nat × Value)) (xs : List Value),
    fillV place cs ps = some cs' → VRp E ps ps' → VRs E cs xs → (∀ y ∈ xs, isCell y = true) → ∃ xs', Instr.fill place ⟨xs⟩ ps' = some ⟨xs'⟩ ∧ VRs E cs' xs' ∧ (∀ y ∈ xs', isCell y = true)
  | [], cs, cs', ps', xs, h, hp, hx, hc => by
    simp only [VRp] at hp
    subst hp
    simp only [fillV, Option.some.injEq] at h
    subst h
    exact ⟨xs, rfl, hx, hc⟩
  | (i, v) :: ps, cs, cs', ps', xs, h, hp, hx, hc => by
    simp only [VRp] at hp
    obtain ⟨y, ys, rfl, hv, hp⟩ := hp
    simp only [fillV] at h
    cases hpl : place i with
    | none => rw [hpl] at h; cases h
    | some q =>
      obtain ⟨off, size⟩ := q
      rw [hpl] at h
      simp only at h
      split at h
      · rename_i hsz
        obtain ⟨hsz, htup⟩ := hsz
        split at h
        · rename_i cells hst
          have ht : ∀ l, v ≠ .tup l := by rintro l rfl; simp [V.isTup] at htup
          obtain ⟨hcr, hcc⟩ := hv.cells ht
          have hlen := hcr.length
          simp only [Array.length_toList] at hlen
          unfold storeRow at hst
          split at hst
          · rename_i hle
            simp only [Option.some.injEq] at hst
            have hxl := hx.length
            simp only [Instr.fill, hpl]
            rw [if_neg (by simp; omega), fill_step ⟨xs⟩ y.cells off (by simp; omega)]
            refine fill_ok place ps cells cs' ys _ h hp ?_ ?_
            · rw [← hst, hlen]
              exact ((hx.take off).append hcr).append (hx.drop _)
            · intro z hz
              simp only [List.mem_append] at hz
              rcases hz with (hz | hz) | hz
              · exact hc z (List.mem_of_mem_take hz)
              · exact hcc z hz
              · exact hc z (List.mem_of_mem_drop hz)
          · cases hst
        · cases h
      · cases h

theorem places_ok (w : World) : ∀ (fs : List Field) (l : List (Nat × Nat)), placesV P fs = some l →
    ((fs.mapM fun f => do pure (f.offset, ← sizeOf f.type) : Sem (List (Nat × Nat)))).run P w = .ok l w
  | [], l, h => by simp only [placesV, Option.some.injEq] at h; subst h; rfl
  | f :: fs, l, h => by
    simp only [placesV] at h
    cases h1 : szOf P f.type with
    | none => rw [h1] at h; cases h
    | some n =>
      cases h2 : placesV P fs with
      | none => rw [h1, h2] at h; cases h
      | some r =>
        rw [h1, h2] at h
        cases h
        simp only [List.mapM_cons, Sem.run_bind, run_sizeOf' w h1, Result.andThen_ok, Sem.run_pure, places_ok w fs r h2]

theorem build_ok {E : Emb} (w : World) (t : TypeId) (ps : List (Nat × V)) (v : V) (h : buildV P t ps = some v) (ps' : List (Nat × Value)) (hp : VRp E ps ps') :
    ∃ z, (Instr.build t ⟨ps'⟩).run P w = .ok z w ∧ VR E v z := by
  unfold buildV at h
  cases hz : zeroOf P t with
  | none => rw [hz] at h; cases h
  | some z =>
    rw [hz] at h
    simp only at h
    obtain ⟨z', hz', hrz⟩ := run_zero' (P := P) w hz
    have hzr := ofVal_ok E z' z hz'
    cases hu : P.underlying t with
    | none => rw [hu] at h; cases h
    | some d =>
      rw [hu] at h
      have hcells : (∀ l, z ≠ .tup l) → VRs E z.cells z'.cells.toList ∧ ∀ y ∈ z'.cells.toList, isCell y = true := fun hn => hzr.cells hn
      cases d with
      | struct fields =>
        simp only at h
        cases hpl : placesV P fields.toList with
        | none => rw [hpl] at h; cases h
        | some pl =>
          rw [hpl] at h
          simp only at h
          split at h
          · cases h
          · rename_i hnt
            simp only [Option.map_eq_some_iff] at h
            obtain ⟨cs, hf, rfl⟩ := h
            obtain ⟨hr, hc⟩ := hcells (by rintro l rfl; simp [V.isTup] at hnt)
            obtain ⟨xs', hxs, hvr, hcc⟩ := fill_ok (E := E) _ ps z.cells cs ps' z'.cells.toList hf hp hr hc
            refine ⟨.agg ⟨xs'⟩, ?_, by simp only [VR]; exact ⟨xs', rfl, hvr, hcc⟩⟩
            have hm : (fields.mapM fun f => do pure (f.offset, ← sizeOf f.type) : Sem (Array (Nat × Nat))).run P w = .ok pl.toArray w := by
              rw [Array.mapM_eq_mapM_toList]
              simp only [Sem.run_map, places_ok w _ _ hpl, Result.andThen_ok]
            have e : Instr.fill (fun i => pl[i]?) z'.cells ps' = some ⟨xs'⟩ := hxs
            have e2 : Instr.fill (fun x => pl.toArray[x]?) z'.cells ps' = some ⟨xs'⟩ := by
              rw [← e]; congr 1; funext i; simp
            simp only [Instr.build, Sem.run_bind, hrz, Result.andThen_ok, run_underlying hu, hm, e2, Sem.run_pure]
      | array n e =>
        simp only at h
        cases hs : szOf P e with
        | none => rw [hs] at h; cases h
        | some k =>
          rw [hs] at h
          simp only at h
          split at h
          · cases h
          · rename_i hnt
            simp only [Option.map_eq_some_iff] at h
            obtain ⟨cs, hf, rfl⟩ := h
            obtain ⟨hr, hc⟩ := hcells (by rintro l rfl; simp [V.isTup] at hnt)
            obtain ⟨xs', hxs, hvr, hcc⟩ := fill_ok (E := E) _ ps z.cells cs ps' z'.cells.toList hf hp hr hc
            refine ⟨.agg ⟨xs'⟩, ?_, by simp only [VR]; exact ⟨xs', rfl, hvr, hcc⟩⟩
            have e : Instr.fill (fun i => some (i * k, k)) z'.cells ps' = some ⟨xs'⟩ := hxs
            simp only [Instr.build, Sem.run_bind, hrz, Result.andThen_ok, run_underlying hu, run_sizeOf' w hs, e, Sem.run_pure]
      | _ => cases h

/-! ### Bounds -/

theorem bound_ok {E : Emb} (w : World) (x : Option V) (x' : Option Value) (hx : VRo E x x') (d top n : Nat) (h : bound x d top = some n) (code : BoundsCode) :
    (match x' with | some v => Instr.sliceBound v top code | none => pure d).run P w = .ok n w := by
  cases x with
  | none => simp only [VRo] at hx; subst hx; simp only [bound, Option.some.injEq] at h; subst h; rfl
  | some v =>
    simp only [VRo] at hx
    obtain ⟨y, rfl, hv⟩ := hx
    cases v <;> simp only [bound] at h <;> (first | (cases h; done) | skip)
    rename_i k i
    split at h
    · rename_i hb
      simp only [Option.some.injEq] at h
      subst h
      simp only [VR] at hv
      subst hv
      simp [Instr.sliceBound, asIntOf, hb]
    · cases h

theorem bounds_spec {len top : Nat} {lo hi mx : Option V} {a b m : Nat} (h : bounds len top lo hi mx = some (a, b, m)) :
    bound mx top top = some m ∧ bound hi len m = some b ∧ bound lo 0 b = some a ∧ (hi = none → mx = none) := by
  unfold bounds at h
  split at h
  · cases h
  · rename_i hn
    split at h
    · cases h
    · rename_i m' hm
      split at h
      · cases h
      · rename_i b' hb
        split at h
        · cases h
        · rename_i a' ha
          cases h
          refine ⟨hm, hb, ha, fun e => ?_⟩
          subst e
          cases mx with
          | none => rfl
          | some v => exact absurd rfl (hn v rfl)

theorem bound_le {x : Option V} {d top n : Nat} (h : bound x d top = some n) (hd : d ≤ top) : n ≤ top := by
  unfold bound at h
  split at h
  · simp only [Option.some.injEq] at h; omega
  · split at h
    · simp only [Option.some.injEq] at h; omega
    · cases h
  · cases h

theorem sliceBounds_ok {E : Emb} (w : World) (isSlice : Bool) (len top : Nat) (lo hi mx : Option V) (lo' hi' mx' : Option Value) (h1 : VRo E lo lo') (h2 : VRo E hi hi') (h3 : VRo E mx mx') (a b m : Nat)
    (hm : bound mx top top = some m) (hb : bound hi len m = some b) (ha : bound lo 0 b = some a) (hn : hi = none → mx = none) :
    (Instr.sliceBounds isSlice len top lo' hi' mx').run P w = .ok (a, b, m) w := by
  have em : ∀ code, (match mx' with | some v => Instr.sliceBound v top code | none => pure top).run P w = .ok m w := fun code => bound_ok w mx mx' h3 top top m hm code
  have eb : ∀ code, (match hi' with | some v => Instr.sliceBound v m code | none => pure len).run P w = .ok b w := fun code => bound_ok w hi hi' h2 len m b hb code
  have ea : ∀ code, (match lo' with | some v => Instr.sliceBound v b code | none => pure 0).run P w = .ok a w := fun code => bound_ok w lo lo' h1 0 b a ha code
  have hh : hi' = none → mx' = none := by
    intro e
    have : hi = none := by
      cases hi with
      | none => rfl
      | some v => obtain ⟨y, hy, _⟩ := h2; rw [e] at hy; cases hy
    have := hn this
    subst this
    exact h3
  unfold Instr.sliceBounds
  cases mx' with
  | none =>
    cases hi' with
    | none =>
      have e1 := em .index; have e2 := eb .index; have e3 := fun c => ea c
      simp only [Sem.run_bind, Sem.run_pure, Result.andThen_ok] at e1 e2 ⊢
      cases e1; cases e2
      cases lo' with
      | none => have := ea .index; simp only [Sem.run_pure] at this; cases this; rfl
      | some l => have := ea .sliceB; simp only at this; simp [this]
    | some hv =>
      have e1 := em .index
      simp only [Sem.run_pure] at e1
      cases e1
      cases lo' with
      | none =>
        have := ea .index; simp only [Sem.run_pure] at this; cases this
        have e2 := eb (if isSlice then .sliceAcap else .sliceAlen)
        simp only at e2
        simp [e2]
      | some l =>
        have e3 := ea .sliceB
        have e2 := eb (if isSlice then .sliceAcap else .sliceAlen)
        simp only at e2 e3
        simp [e2, e3]
  | some mv =>
    cases hi' with
    | none => cases hh rfl
    | some hv =>
      have e1 := em (if isSlice then .slice3Acap else .slice3Alen)
      have e2 := eb .slice3B
      simp only at e1 e2
      cases lo' with
      | none =>
        have := ea .index; simp only [Sem.run_pure] at this; cases this
        simp [e1, e2]
      | some l =>
        have e3 := ea .slice3C
        simp only at e3
        simp [e1, e2, e3]

end Go.AM
