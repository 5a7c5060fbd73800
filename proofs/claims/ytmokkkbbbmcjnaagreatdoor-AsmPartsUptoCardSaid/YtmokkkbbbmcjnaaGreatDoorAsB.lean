/-
  strings.Join, and strings.Builder's copyCheck and String, answered at once.
-/
import Derived.Test.YtmokkkbbbmcjnaaGreatDoorAsW
set_option linter.unusedSectionVars false
set_option linter.unusedSimpArgs false
set_option linter.unusedVariables false
namespace Go.AM
open Go.Proofs Go.RowKit Go.Sort

/-! ### Join -/

def strsOf : List V → Option (List (List UInt8))
  | [] => some []
  | .str l :: r => (strsOf r).map (l :: ·)
  | _ => none

theorem map_bytes : ∀ xs : List (List UInt8), (xs.map fun l => (⟨⟨l⟩⟩ : ByteArray)).map (·.data.toList) = xs
  | [] => rfl
  | x :: xs => by simp only [List.map_cons, map_bytes xs]

theorem strsOf_get : ∀ (r : List V) (xs : List (List UInt8)), strsOf r = some xs → xs.length = r.length ∧ ∀ (j : Nat) (x : List UInt8), xs[j]? = some x → r[j]? = some (.str x)
  | [], xs, h => by simp only [strsOf, Option.some.injEq] at h; subst h; exact ⟨rfl, fun j x hx => by simp at hx⟩
  | .str l :: r, xs, h => by
    simp only [strsOf, Option.map_eq_some_iff] at h
    obtain ⟨ys, hy, rfl⟩ := h
    obtain ⟨h1, h2⟩ := strsOf_get r ys hy
    refine ⟨by simp [h1], fun j x hx => ?_⟩
    cases j with
    | zero => simp at hx; subst hx; rfl
    | succ j => simp at hx ⊢; exact h2 j x hx

def joinG : GFun := fun args h => match args with
  | [.slice b off n _, .str sep] => match h.get b with
    | some (.cells _ _ row) => match strsOf ((row.drop off).take n) with
      | some xs => if xs.length = n ∧ 0 < n ∧ n ≤ 140737488355328 ∧ (Lib.join xs sep).length ≤ 140737488355328 then some (.str (Lib.join xs sep), h) else none
      | none => none
    | _ => none
  | [.nilslice, .str _] => some (.str [], h)
  | _ => none

theorem join_entry : EntryOk Tryz.prog 57 joinG where
  call := by
    intro args h v h' hg W lim E w args' hlim H hr
    unfold joinG at hg
    split at hg
    · rename_i b off n cap sep
      split at hg
      case h_2 => cases hg
      rename_i ro ty row hgb
      split at hg
      case h_2 => cases hg
      rename_i xs hxs
      split at hg
      case isFalse => cases hg
      rename_i hc
      obtain ⟨hc1, hc2, hc3, hc4⟩ := hc
      cases hg
      simp only [VRs] at hr
      obtain ⟨y, _, rfl, hy, z, _, rfl, hz, rfl⟩ := hr
      simp only [VR] at hz
      subst hz
      obtain ⟨hd, K, hK, rfl⟩ : E.dom b ∧ ∃ K, n ≤ K ∧ y = .slice (some ((E.pl b).addr off)) n K := by
        cases cap with
        | none =>
          simp only [VR] at hy
          obtain ⟨hd, hk, a, rfl, ha⟩ := hy
          refine ⟨hd, _, hk, ?_⟩
          rcases ha with rfl | ha
          · rfl
          · omega
        | some k =>
          simp only [VR] at hy
          obtain ⟨hd, hk, a, rfl, ha⟩ := hy
          refine ⟨hd, _, hk, ?_⟩
          rcases ha with rfl | ha
          · rfl
          · omega
      obtain ⟨g1, g2⟩ := strsOf_get _ _ hxs
      have hrow := H.row b ro ty row hd hgb
      have hmap : (xs.map fun l => (⟨⟨l⟩⟩ : ByteArray)).map (·.data.toList) = xs := map_bytes xs
      have hcells : ∀ (j : Nat) (x : ByteArray), (xs.map fun l => (⟨⟨l⟩⟩ : ByteArray))[j]? = some x → w.cell? ⟨(E.pl b).c, (E.pl b).o + off + j, none⟩ = some (.string x) := by
        intro j x hx
        rw [List.getElem?_map, Option.map_eq_some_iff] at hx
        obtain ⟨l, hl, rfl⟩ := hx
        have h1 := g2 j l hl
        rw [List.getElem?_take] at h1
        split at h1
        case isFalse => cases h1
        rw [List.getElem?_drop] at h1
        obtain ⟨x, hx, hv, _⟩ := hrow.cell (off + j) _ h1
        simp only [VR] at hv
        rw [Nat.add_assoc, hx, hv]
      have := Tryz.strings_Join (E.pl b).c ((E.pl b).o + off) K (xs.map fun l => (⟨⟨l⟩⟩ : ByteArray)) ⟨⟨sep⟩⟩ w hcells (H.size b hd) (by simp; omega) (by simp; omega) (by rw [hmap]; exact hc4)
      rw [List.length_map, hc1] at this
      refine quiet H (this.mono ?_)
      rintro e w' ⟨rfl, hb⟩
      exact ⟨_, rfl, by simp only [VR]; rw [hmap], hb⟩
    · cases hg
      simp only [VRs, VR] at hr
      obtain ⟨_, _, rfl, rfl, _, _, rfl, rfl, rfl⟩ := hr
      refine quiet H ((Tryz.strings_Join_none none 0 _ w).mono ?_)
      rintro e w' ⟨rfl, rfl⟩
      exact ⟨_, rfl, by simp only [VR], Below.refl _ _⟩
    · cases hg
  mono := by
    intro args h v h' hg
    unfold joinG at hg
    split at hg
    · split at hg
      · split at hg
        · split at hg
          · cases hg; exact Mono.refl _
          · cases hg
        · cases hg
      · cases hg
    · cases hg; exact Mono.refl _
    · cases hg

/-! ### copyCheck -/

def checkG : GFun := fun args h => match args with
  | [.ptr b 0] => match h.get b with
    | some (.cells false ty [x, y]) => if Nat.beq ty 75 then (match x with
        | .nilptr => some (.tup [], h.set b (.cells false 75 [.ptr b 0, y]))
        | .ptr b' 0 => if Nat.beq b' b then some (.tup [], h) else none
        | _ => none) else none
    | _ => none
  | _ => none

theorem check_entry : EntryOk Tryz.prog 69 checkG where
  call := by
    intro args h v h' hg W lim E w args' hlim H hr
    unfold checkG at hg
    split at hg
    case h_2 => cases hg
    rename_i b
    split at hg
    case h_2 => cases hg
    rename_i ty x y hgb
    split at hg
    case isFalse => cases hg
    rename_i hty
    have hty := Nat.eq_of_beq_eq_true hty
    subst hty
    simp only [VRs, VR] at hr
    obtain ⟨_, _, rfl, ⟨hd, rfl⟩, rfl⟩ := hr
    obtain ⟨ho, hsh, hcs⟩ := H.bld b 75 _ hd hgb
    have hcs2 : (E.pl b).csz = 2 := hcs rfl
    have hrow := H.row b false 75 _ hd hgb
    have hadr : (E.pl b).addr 0 = ⟨(E.pl b).c, 0, none⟩ := by simp [Pl.addr, ho]
    rw [hadr]
    obtain ⟨z, hz, hzv, _⟩ := hrow.cell 0 x rfl
    rw [ho, Nat.add_zero] at hz
    split at hg
    · cases hg
      simp only [VR] at hzv
      subst hzv
      have hfr : w.frozen? ⟨(E.pl b).c, 0, none⟩ = false := by
        obtain ⟨arr, ty1, fz, g1, g2, g3, g4, g5, g6⟩ := hrow.ex
        have := g6 rfl 0 (by rw [← g2, hcs2]; omega)
        simp only [World.frozen?, g1]
        simp only [Bool.and_eq_false_iff, decide_eq_false_iff_not]
        omega
      have hxv : VR E (.ptr b 0) (.pointer (some ⟨(E.pl b).c, 0, none⟩)) := by simp only [VR]; exact ⟨hd, by rw [hadr]⟩
      obtain ⟨arr, hst, _, hrow2⟩ := hrow.store Tryz.prog 0 [.ptr b 0] [.pointer (some ⟨(E.pl b).c, 0, none⟩)] (l' := [.ptr b 0, y]) rfl (VRs.cons hxv (VRs.nil E)) (by intro y hy; simp at hy; subst hy; rfl)
      have hset : (storeCells ⟨(E.pl b).c, (E.pl b).o + 0, none⟩ [.pointer (some ⟨(E.pl b).c, 0, none⟩)]).run Tryz.prog w = .ok () (w.setCell ⟨(E.pl b).c, 0, none⟩ (.pointer (some ⟨(E.pl b).c, 0, none⟩))) := by
        rw [ho]
        have hadd : (⟨(E.pl b).c, 0 + 0, none⟩ : Addr).add 0 = ⟨(E.pl b).c, 0, none⟩ := by simp [Addr.add]
        simp only [storeCells, Sem.run_bind, hadd]
        rw [run_store Tryz.prog w _ _ _ rfl, hz]
        simp [hfr]
      rw [hset] at hst
      have hw : w.setCell ⟨(E.pl b).c, 0, none⟩ (.pointer (some ⟨(E.pl b).c, 0, none⟩)) = setRowAt w (E.pl b).c arr := by injection hst
      refine (tz_fresh (E.pl b).c w hz (by rw [hsh, hcs2]) hfr).mono ?_
      rintro e w' ⟨rfl, rfl⟩
      rw [hw]
      have eff := Eff.write H b 75 _ _ hd hgb arr hrow2 rfl
      exact ⟨_, E, rfl, eff.hr, by simp only [VR]; exact ⟨[], rfl, rfl⟩, eff.fwd H⟩
    · rename_i b'
      split at hg
      case isFalse => cases hg
      rename_i hbb
      have hbb := Nat.eq_of_beq_eq_true hbb
      subst hbb
      cases hg
      simp only [VR] at hzv
      obtain ⟨_, rfl⟩ := hzv
      rw [hadr] at hz
      refine quiet H ((tz_used (E.pl b').c w hz).mono ?_)
      rintro e w' ⟨rfl, rfl⟩
      exact ⟨_, rfl, by simp only [VR]; exact ⟨[], rfl, rfl⟩, Below.refl _ _⟩
    · cases hg
  mono := by
    intro args h v h' hg
    unfold checkG at hg
    split at hg
    case h_2 => cases hg
    rename_i b
    split at hg
    case h_2 => cases hg
    rename_i ty x y hgb
    split at hg
    case isFalse => cases hg
    split at hg
    · cases hg; exact Mono.set _ _ _
    · split at hg
      · cases hg; exact Mono.refl _
      · cases hg
    · cases hg

/-! ### String -/

def bytesX : List V → Option (List UInt8)
  | [] => some []
  | .int .u8 n :: r => if 0 ≤ n ∧ n < 256 then (bytesX r).map (UInt8.ofNat n.toNat :: ·) else none
  | _ => none

theorem bytesX_get : ∀ (r : List V) (l : List UInt8), bytesX r = some l → l.length = r.length ∧ ∀ (j : Nat) (x : UInt8), l[j]? = some x → r[j]? = some (.int .u8 x.toNat)
  | [], xs, h => by simp only [bytesX, Option.some.injEq] at h; subst h; exact ⟨rfl, fun j x hx => by simp at hx⟩
  | .int .u8 n :: r, xs, h => by
    simp only [bytesX] at h
    split at h
    case isFalse => cases h
    rename_i hn
    simp only [Option.map_eq_some_iff] at h
    obtain ⟨ys, hy, rfl⟩ := h
    obtain ⟨h1, h2⟩ := bytesX_get r ys hy
    refine ⟨by simp [h1], fun j x hx => ?_⟩
    cases j with
    | zero =>
      simp only [List.getElem?_cons_zero, Option.some.injEq] at hx ⊢
      subst hx
      rw [UInt8.toNat_ofNat']
      congr 1
      omega
    | succ j => simp at hx ⊢; exact h2 j x hx

def stringG : GFun := fun args h => match args with
  | [.ptr b 0] => match h.get b with
    | some (.cells false ty [_, .slice b2 0 n none]) => if Nat.beq ty 75 then (match h.get b2 with
        | some (.cells false ty2 row2) => if Nat.beq ty2 5 then (match bytesX (row2.take n) with
            | some l => if l.length = n ∧ 0 < n ∧ n ≤ 140737488355328 then some (.str l, h.set b2 (.cells true 5 row2)) else none
            | none => none) else none
        | _ => none) else none
    | _ => none
  | _ => none

theorem freeze_other (w : World) (g n k : Nat) (h : k ≠ g) : (w.freeze ⟨g, 0, none⟩ n).heap[k]? = w.heap[k]? := by
  unfold World.freeze
  split
  · rfl
  · show (w.heap.modify _ _)[k]? = _
    rw [Array.getElem?_modify, if_neg (Ne.symm h)]
theorem freeze_self (w : World) (g n : Nat) (arr : Array Value) (ty : TypeId) (fz : Nat × Nat) (h : w.heap[g]? = some (.cells arr ty fz)) : ∃ fz', (w.freeze ⟨g, 0, none⟩ n).heap[g]? = some (.cells arr ty fz') := by
  unfold World.freeze
  split
  · exact ⟨fz, h⟩
  · obtain ⟨lo, hi⟩ := fz
    refine ⟨if lo == hi then (0, 0 + n) else (min lo 0, max hi (0 + n)), ?_⟩
    show (w.heap.modify _ _)[g]? = _
    rw [Array.getElem?_modify, if_pos rfl, h]
    rfl

/-- A row is read only from now on. -/
theorem HR.freeze {P : Program} [Glob P] {W : Nat → Prop} {lim : Nat} {E : Emb} {h : Heap} {w w' : World} (H : HR P W lim E h w) (b : Id) (ty : TypeId) (l : List V) (hb : E.dom b) (hg : h.get b = some (.cells false ty l))
    (hself : ∃ arr ty1 fz fz', w.heap[(E.pl b).c]? = some (.cells arr ty1 fz) ∧ w'.heap[(E.pl b).c]? = some (.cells arr ty1 fz')) (hoth : ∀ k, k ≠ (E.pl b).c → w'.heap[k]? = w.heap[k]?) (hsz : w'.heap.size = w.heap.size) :
    HR P W lim E (h.set b (.cells true ty l)) w' := by
  have hrw : isRw (h.get b) = true := by rw [hg]; rfl
  refine ⟨H.lt, fun x hx => by rw [hsz]; exact H.size x hx, ?_, ?_, ?_, ?_, fun c hc => H.top c (by omega), Glob.same H.glob (by omega) (fun c hc => hoth c (fun e => hc (e ▸ H.own b hb hrw))), ?_⟩
  · intro x ro ty1 l1 hx hgx
    by_cases e : x = b
    · subst e
      rw [Heap.get_set_same _ _ _ (Heap.get_lt hg)] at hgx
      cases hgx
      obtain ⟨arr, ty2, fz, g1, g2, g3, g4, g5, g6⟩ := (H.row x false _ _ hx hg).ex
      obtain ⟨arr', ty3, fz3, fz', k1, k2⟩ := hself
      rw [g1] at k1
      cases k1
      exact ⟨arr, ty2, fz', k2, g2, g3, g4, g5, fun h => by cases h⟩
    · rw [Heap.get_set_ne _ _ _ _ e] at hgx
      exact (H.row x ro ty1 l1 hx hgx).of_eq (hoth _ (fun e2 => H.inj b x hb hx (Ne.symm e) hrw (by rw [hgx]; rfl) e2.symm))
  · intro x hx hr
    by_cases e : x = b
    · subst e; exact H.own x hx hrw
    · rw [Heap.get_set_ne _ _ _ _ e] at hr; exact H.own x hx hr
  · intro x ro ty1 l1 hx hgx
    by_cases e : x = b
    · subst e; rw [Heap.get_set_same _ _ _ (Heap.get_lt hg)] at hgx; cases hgx; exact H.esz x _ _ _ hx hg
    · rw [Heap.get_set_ne _ _ _ _ e] at hgx; exact H.esz x _ _ _ hx hgx
  · intro x y hx hy hne hr hl
    have hr' : isRw (h.get x) = true := by
      by_cases e : x = b
      · subst e; exact hrw
      · rwa [Heap.get_set_ne _ _ _ _ e] at hr
    have hl' : isLive (h.get y) = true := by
      by_cases e : y = b
      · subst e; exact isLive_of_isRw hrw
      · rwa [Heap.get_set_ne _ _ _ _ e] at hl
    exact H.inj x y hx hy hne hr' hl'
  · intro x ty1 l1 hx hgx
    by_cases e : x = b
    · subst e
      rw [Heap.get_set_same _ _ _ (Heap.get_lt hg)] at hgx
      cases hgx
    · rw [Heap.get_set_ne _ _ _ _ e] at hgx
      have hc : (E.pl x).c ≠ (E.pl b).c := fun e2 => H.inj b x hb hx (Ne.symm e) hrw (by rw [hgx]; rfl) e2.symm
      rw [shape_of (hoth _ hc)]; exact H.bld x ty1 l1 hx hgx

theorem string_entry : EntryOk Tryz.prog 47 stringG where
  call := by
    intro args h v h' hg W lim E w args' hlim H hr
    unfold stringG at hg
    split at hg
    case h_2 => cases hg
    rename_i b
    split at hg
    case h_2 => cases hg
    rename_i ty p b2 n hgb
    split at hg
    case isFalse => cases hg
    rename_i hty
    have hty := Nat.eq_of_beq_eq_true hty
    subst hty
    split at hg
    case h_2 => cases hg
    rename_i ty2 row2 hgb2
    split at hg
    case isFalse => cases hg
    rename_i hty2
    have hty2 := Nat.eq_of_beq_eq_true hty2
    subst hty2
    split at hg
    case h_2 => cases hg
    rename_i l hl
    split at hg
    case isFalse => cases hg
    rename_i hc
    obtain ⟨hl1, hn0, hn1⟩ := hc
    cases hg
    simp only [VRs, VR] at hr
    obtain ⟨_, _, rfl, ⟨hd, rfl⟩, rfl⟩ := hr
    obtain ⟨ho, hsh, hcs⟩ := H.bld b 75 _ hd hgb
    have hrow := H.row b false 75 _ hd hgb
    have hadr : (E.pl b).addr 0 = ⟨(E.pl b).c, 0, none⟩ := by simp [Pl.addr, ho]
    rw [hadr]
    obtain ⟨z, hz, hzv, _⟩ := hrow.cell 1 _ rfl
    rw [ho, Nat.zero_add] at hz
    simp only [VR] at hzv
    obtain ⟨hd2, hk, a, rfl, ha⟩ := hzv
    obtain ⟨ho2, hsh2, _⟩ := H.bld b2 5 _ hd2 hgb2
    have ha' : a = ⟨(E.pl b2).c, 0, none⟩ := by
      rcases ha with rfl | ha
      · simp [Pl.addr, ho2]
      · omega
    subst ha'
    have hrow2 := H.row b2 false 5 _ hd2 hgb2
    obtain ⟨g1, g2⟩ := bytesX_get _ _ hl
    have hlr : n ≤ row2.length := by
      rw [hl1, List.length_take] at g1
      omega
    have hcell : ∀ j x, l[j]? = some x → w.cell? ((⟨(E.pl b2).c, 0, none⟩ : Addr).add j) = some (.int .u8 x.toNat) := by
      intro j x hx
      have h1 := g2 j x hx
      rw [List.getElem?_take] at h1
      split at h1
      case isFalse => cases h1
      obtain ⟨y, hy, hv, _⟩ := hrow2.cell j _ h1
      simp only [VR] at hv
      have hadd : (⟨(E.pl b2).c, 0, none⟩ : Addr).add j = ⟨(E.pl b2).c, j, none⟩ := by
        unfold Addr.add
        split <;> simp_all
      rw [hadd]
      rw [ho2, Nat.zero_add] at hy
      rw [hy, hv]
    have hcells : l.length ≤ (E.pl b2).csz := by
      obtain ⟨arr, ty1, fz, q1, q2, q3, _⟩ := hrow2.ex
      omega
    have hne : l ≠ [] := by
      intro e
      rw [e] at hl1
      simp at hl1
      omega
    rw [← hl1] at hz
    refine (tz_string (E.pl b).c (E.pl b2).c _ (.bool true) l (E.pl b2).csz w hz hne (by rw [hl1]; exact hk) hsh2 hcells (by omega) hcell).mono ?_
    rintro e w' ⟨rfl, rfl⟩
    have hszf : (w.drew.freeze ⟨(E.pl b2).c, 0, none⟩ l.length).heap.size = w.heap.size := by
      unfold World.freeze
      rw [if_neg (by omega)]
      show (w.heap.modify _ _).size = _
      simp
    have HF := HR.freeze (w' := w.drew.freeze ⟨(E.pl b2).c, 0, none⟩ l.length) H b2 5 row2 hd2 hgb2 (by
      obtain ⟨arr, ty1, fz, q1, _⟩ := hrow2.ex
      obtain ⟨fz', k2⟩ := freeze_self w.drew _ l.length arr ty1 fz q1
      exact ⟨arr, ty1, fz, fz', q1, k2⟩) (fun k hk => freeze_other w.drew _ l.length k hk) hszf
    refine ⟨_, E, rfl, HF, by simp only [VR], Emb.le_refl E, fun b hb => .inl hb, ⟨?_, ?_, ?_, by rw [hszf]; exact Nat.le_refl _, fun c hc => ?_⟩, Nat.le_refl _⟩
    · unfold World.freeze; split <;> rfl
    · unfold World.freeze; split <;> rfl
    · unfold World.freeze; split <;> rfl
    · refine freeze_other w.drew _ l.length c (fun e => hc ?_)
      rw [e]; exact H.own b2 hd2 (by rw [hgb2]; rfl)
  mono := by
    intro args h v h' hg
    unfold stringG at hg
    split at hg
    case h_2 => cases hg
    split at hg
    case h_2 => cases hg
    split at hg
    case isFalse => cases hg
    split at hg
    case h_2 => cases hg
    split at hg
    case isFalse => cases hg
    split at hg
    case h_2 => cases hg
    split at hg
    case isFalse => cases hg
    cases hg
    exact Mono.set _ _ _

end Go.AM
