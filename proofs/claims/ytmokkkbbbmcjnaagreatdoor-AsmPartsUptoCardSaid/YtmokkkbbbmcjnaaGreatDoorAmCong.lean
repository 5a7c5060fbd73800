/-
  An operation looks at its own operands alone.
-/
import Derived.Test.YtmokkkbbbmcjnaaGreatDoorAmMono
set_option linter.unusedSimpArgs false
set_option linter.unusedVariables false
namespace Go.AM

variable {P : Program}

/-- Alike at an operand: the same, or a private variable each. -/
def AgAt (t u : List V) (x : Operand) : Prop := ∀ i, x = .tmp i → t[i]? = u[i]? ∨ (∃ l l', t[i]? = some (V.box l) ∧ u[i]? = some (V.box l'))

def BoxAt (t : List V) (d : Tmp) : Prop := ∃ l, t[d]? = some (V.box l)

theorem ev_cong {t u : List V} {x : Operand} (h : AgAt t u x) : ev t x = ev u x ∨ ∃ i l l', x = .tmp i ∧ t[i]? = some (.box l) ∧ u[i]? = some (.box l') ∧ ev t x = some (.box l) ∧ ev u x = some (.box l') := by
  cases x with
  | tmp i =>
    rcases h i rfl with h1 | ⟨l, l', h1, h2⟩
    · left; simp only [ev, List.getD, h1]
    · right; exact ⟨i, l, l', rfl, h1, h2, by simp [ev, List.getD, h1], by simp [ev, List.getD, h2]⟩
  | const c => left; rfl
  | global g => left; rfl
  | func f => left; rfl

theorem evV_cong {t u : List V} {x : Operand} (h : AgAt t u x) : evV t x = evV u x := by
  unfold evV
  rcases ev_cong h with h1 | ⟨i, l, l', _, _, _, h1, h2⟩
  · rw [h1]
  · rw [h1, h2]; simp [V.isVal]

theorem evVs_cong {t u : List V} : ∀ {l : List Operand}, (∀ x ∈ l, AgAt t u x) → evVs t l = evVs u l
  | [], _ => rfl
  | x :: l, h => by
    simp only [evVs]
    rw [evV_cong (h x (by simp)), evVs_cong (fun y hy => h y (by simp [hy]))]

theorem evParts_cong {t u : List V} : ∀ {l : List (Nat × Operand)}, (∀ p ∈ l, AgAt t u p.2) → evParts t l = evParts u l
  | [], _ => rfl
  | (i, x) :: l, h => by
    simp only [evParts]
    rw [evV_cong (h (i, x) (by simp)), evParts_cong (fun y hy => h y (by simp [hy]))]

theorem evO_cong {t u : List V} {x : Option Operand} (h : ∀ y, x = some y → AgAt t u y) : evO t x = evO u x := by
  cases x with
  | none => rfl
  | some y => simp only [evO]; rw [evV_cong (h y rfl)]

def addrBox (t : List V) (x : Operand) (a : V) (n : Nat) : Option V :=
  match boxSlot x a with
  | some (d, off) => match t[d]? with
    | some (.box _) => some (.lref d (off + n))
    | _ => none
  | none => none
theorem addrAdd_eq (t : List V) (x : Operand) (a : V) (n : Nat) (hn : ∀ b off, a ≠ .ptr b off) : addrAdd t x a n = addrBox t x a n := by
  cases a <;> first | rfl | (exact absurd rfl (hn _ _))

theorem addrAdd_cong {t u : List V} {x : Operand} (h : AgAt t u x) (hb : ∀ d, BoxAt t d ↔ BoxAt u d) {a v : V} {n : Nat} (ha : ev t x = some a) (hv : addrAdd t x a n = some v) :
    ∃ a', ev u x = some a' ∧ addrAdd u x a' n = some v := by
  have key : ∀ a', ev u x = some a' → boxSlot x a' = boxSlot x a → (∀ b off, a ≠ .ptr b off) → (∀ b off, a' ≠ .ptr b off) → addrAdd u x a' n = some v := by
    intro a' _ hbs hnp hnp'
    rw [addrAdd_eq _ _ _ _ hnp] at hv
    rw [addrAdd_eq _ _ _ _ hnp']
    unfold addrBox at hv ⊢
    rw [hbs]
    split at hv
    · rename_i d off hbs2
      split at hv
      · rename_i l hl
        obtain ⟨l', hl'⟩ := (hb d).1 ⟨l, hl⟩
        rw [hl']
        exact hv
      · cases hv
    · cases hv
  rcases ev_cong h with h1 | ⟨i, l, l', rfl, h1, h2, h3, h4⟩
  · refine ⟨a, by rw [← h1]; exact ha, ?_⟩
    by_cases hp : ∃ b off, a = .ptr b off
    · obtain ⟨b, off, rfl⟩ := hp; exact hv
    · exact key a (by rw [← h1]; exact ha) rfl (fun b off e => hp ⟨b, off, e⟩) (fun b off e => hp ⟨b, off, e⟩)
  · rw [ha] at h3
    cases h3
    exact ⟨_, h4, key _ h4 rfl (fun _ _ e => by cases e) (fun _ _ e => by cases e)⟩

/-- Which private variable a load or a store is about. -/
def slotOf (o : Oper) (t : List V) : Option Tmp :=
  match o.op with
  | .load _ x | .store _ x _ => match ev t x with
    | some a => (boxSlot x a).map (·.1)
    | none => none
  | _ => none

def isStore (o : Oper) : Bool := match o.op with | .store _ _ _ => true | _ => false

theorem step_cong {call : CallF} {L : List Tmp} {o : Oper} {t u : List V} {h : Heap} {v : V} {t' : List V} {h' : Heap} (hst : step P call L o t h = some (v, t', h'))
    (hag : ∀ x ∈ o.op.operands.toList, AgAt t u x) (hb : ∀ d, BoxAt t d ↔ BoxAt u d) (hs : ∀ d, slotOf o t = some d → t[d]? = u[d]?) (hd : ∀ d, o.dst = some d → d ∉ L) :
    ∃ u', step P call L o u h = some (v, u', h') ∧ ((t' = t ∧ u' = u) ∨ ∃ d l', slotOf o t = some d ∧ isStore o = true ∧ BoxAt t d ∧ t' = t.set d (.box l') ∧ u' = u.set d (.box l') ∧ h' = h) := by
  have nv : ∀ ty cells, newVarV L o.dst ty cells t h = (v, t', h') → newVarV L o.dst ty cells u h = (v, u, h') ∧ t' = t := by
    intro ty cells hn
    unfold newVarV at hn ⊢
    cases hdst : o.dst with
    | none =>
      rw [hdst] at hn
      simp only [Prod.mk.injEq] at hn ⊢
      obtain ⟨rfl, rfl, rfl⟩ := hn
      simp
    | some d =>
      rw [hdst] at hn
      have hL : L.contains d = false := by
        have := hd d hdst
        cases hc : L.contains d with
        | false => rfl
        | true => exact absurd (by simpa using hc) this
      simp only [hL, Bool.false_eq_true, if_false, Prod.mk.injEq] at hn ⊢
      obtain ⟨rfl, rfl, rfl⟩ := hn
      simp
  unfold step at hst
  split at hst
  · rename_i x hop
    rw [evV_cong (hag x (by simp [hop, Op.operands]))] at hst
    simp only [Option.map_eq_some_iff, Prod.mk.injEq] at hst
    obtain ⟨z, hz, rfl, rfl, rfl⟩ := hst
    exact ⟨u, by unfold step; rw [hop]; simp [hz], .inl ⟨rfl, rfl⟩⟩
  · rename_i x hop
    rw [evV_cong (hag x (by simp [hop, Op.operands]))] at hst
    simp only [Option.map_eq_some_iff, Prod.mk.injEq] at hst
    obtain ⟨z, hz, rfl, rfl, rfl⟩ := hst
    exact ⟨u, by unfold step; rw [hop]; simp [hz], .inl ⟨rfl, rfl⟩⟩
  · rename_i c x y hop
    rw [evV_cong (hag c (by simp [hop, Op.operands]))] at hst
    split at hst
    · rename_i b hb2
      have : evV t (if b then x else y) = evV u (if b then x else y) := by
        cases b
        · exact evV_cong (hag y (by simp [hop, Op.operands]))
        · exact evV_cong (hag x (by simp [hop, Op.operands]))
      rw [this] at hst
      simp only [Option.map_eq_some_iff, Prod.mk.injEq] at hst
      obtain ⟨z, hz, rfl, rfl, rfl⟩ := hst
      exact ⟨u, by unfold step; rw [hop]; simp [hb2, hz], .inl ⟨rfl, rfl⟩⟩
    · cases hst
  · rename_i ty hop
    split at hst
    · rename_i z hz
      split at hst
      · cases hst
      · rename_i hnt
        simp only [Option.some.injEq] at hst
        obtain ⟨h1, h2⟩ := nv ty z.cells hst
        exact ⟨u, by unfold step; rw [hop]; simp [hz, hnt, h1], .inl ⟨h2, rfl⟩⟩
    · cases hst
  · rename_i ty x hop
    rw [evV_cong (hag x (by simp [hop, Op.operands]))] at hst
    split at hst
    · rename_i z hz
      split at hst
      · cases hst
      · rename_i hnt
        simp only [Option.some.injEq] at hst
        obtain ⟨h1, h2⟩ := nv ty z.cells hst
        exact ⟨u, by unfold step; rw [hop]; simp [hz, hnt, h1], .inl ⟨h2, rfl⟩⟩
    · cases hst
  · rename_i ty parts hop
    rw [evParts_cong (fun p hp => hag p.2 (by simp only [hop, Op.operands, List.mem_map]; exact ⟨p, by simpa using hp, rfl⟩))] at hst
    split at hst
    · rename_i ps hps
      simp only [Option.map_eq_some_iff, Prod.mk.injEq] at hst
      obtain ⟨z, hz, rfl, rfl, rfl⟩ := hst
      exact ⟨u, by unfold step; rw [hop]; simp [hps, hz], .inl ⟨rfl, rfl⟩⟩
    · cases hst
  · rename_i ty n parts hop
    rw [evParts_cong (fun p hp => hag p.2 (by simp only [hop, Op.operands, List.mem_map]; exact ⟨p, by simpa using hp, rfl⟩))] at hst
    split at hst
    · rename_i ps hps
      simp only [Option.map_eq_some_iff, Prod.mk.injEq, Prod.exists] at hst
      obtain ⟨z, h2, hz, rfl, rfl, rfl⟩ := hst
      exact ⟨u, by unfold step; rw [hop]; simp [hps, hz], .inl ⟨rfl, rfl⟩⟩
    · cases hst
  · rename_i ty x hop
    have hax := hag x (by simp [hop, Op.operands])
    split at hst
    · rename_i a ha
      simp only [Option.map_eq_some_iff, Prod.mk.injEq] at hst
      obtain ⟨z, hz, rfl, rfl, rfl⟩ := hst
      have hrow : ∀ a', ev u x = some a' → rowAt u h x a' = rowAt t h x a → step P call L o u h = some (z, u, h) := by
        intro a' ha' hr
        unfold step; rw [hop]
        simp only [ha', loadV, hr]
        unfold loadV at hz
        simp [hz]
      have hsl : ∀ d off, boxSlot x a = some (d, off) → t[d]? = u[d]? := fun d off hbs => hs d (by simp [slotOf, hop, ha, hbs])
      rcases ev_cong hax with h1 | ⟨i, l, l', rfl, h1, h2, h3, h4⟩
      · refine ⟨u, hrow a (by rw [← h1]; exact ha) ?_, .inl ⟨rfl, rfl⟩⟩
        unfold rowAt
        split
        · rfl
        · cases hbs : boxSlot x a with
          | none => rfl
          | some q =>
            obtain ⟨d, off⟩ := q
            simp only [hsl d off hbs]
      · rw [ha] at h3
        cases h3
        refine ⟨u, hrow _ h4 ?_, .inl ⟨rfl, rfl⟩⟩
        simp only [rowAt, boxSlot, hsl i 0 rfl]
    · cases hst
  · rename_i ty x y hop
    have hax := hag x (by simp [hop, Op.operands])
    rw [evV_cong (hag y (by simp [hop, Op.operands]))] at hst
    split at hst
    · rename_i a b ha hb2
      simp only [Option.map_eq_some_iff, Prod.mk.injEq, Prod.exists] at hst
      obtain ⟨t2, h2, hsv, rfl, rfl, rfl⟩ := hst
      have hsl : ∀ d off, boxSlot x a = some (d, off) → t[d]? = u[d]? := fun d off hbs => hs d (by simp [slotOf, hop, ha, hbs])
      have key : ∀ a', ev u x = some a' → (∀ b off, a ≠ .ptr b off) → (∀ b off, a' ≠ .ptr b off) → boxSlot x a' = boxSlot x a → ∃ u', step P call L o u h = some (.tup [], u', h2) ∧
          ((t2 = t ∧ u' = u) ∨ ∃ d l', slotOf o t = some d ∧ isStore o = true ∧ BoxAt t d ∧ t2 = t.set d (.box l') ∧ u' = u.set d (.box l') ∧ h2 = h) := by
        intro a' ha' hnp hnp' hbs
        unfold storeV at hsv
        split at hsv
        case isFalse => cases hsv
        rename_i hcond
        split at hsv
        · exact absurd rfl (hnp _ _)
        · split at hsv
          · rename_i d off hbs2
            split at hsv
            · rename_i l hl
              simp only [Option.map_eq_some_iff, Prod.mk.injEq] at hsv
              obtain ⟨l', hl', rfl, rfl⟩ := hsv
              have hul : u[d]? = some (.box l) := by rw [← hsl d off hbs2]; exact hl
              refine ⟨u.set d (.box l'), ?_, .inr ⟨d, l', by simp [slotOf, hop, ha, hbs2], by simp [isStore, hop], ⟨l, hl⟩, rfl, rfl, rfl⟩⟩
              unfold step; rw [hop]
              simp only [ha', hb2]
              unfold storeV
              rw [if_pos hcond]
              split
              · exact absurd rfl (hnp' _ _)
              · rw [hbs, hbs2]; simp [hul, hl']
            · cases hsv
          · cases hsv
      rcases ev_cong hax with h1 | ⟨i, l, l', rfl, h1, h2', h3, h4⟩
      · by_cases hp : ∃ b off, a = .ptr b off
        · obtain ⟨b1, off, rfl⟩ := hp
          unfold storeV at hsv
          split at hsv
          case isFalse => cases hsv
          rename_i hcond
          simp only [Option.map_eq_some_iff, Prod.mk.injEq] at hsv
          obtain ⟨h3, hw, rfl, rfl⟩ := hsv
          refine ⟨u, ?_, .inl ⟨rfl, rfl⟩⟩
          unfold step; rw [hop]
          simp only [← h1, ha, hb2]
          unfold storeV
          rw [if_pos hcond]
          simp [hw]
        · exact key a (by rw [← h1]; exact ha) (fun b off e => hp ⟨b, off, e⟩) (fun b off e => hp ⟨b, off, e⟩) rfl
      · rw [ha] at h3
        cases h3
        exact key _ h4 (fun _ _ e => by cases e) (fun _ _ e => by cases e) rfl
    · cases hst
  · rename_i x hop
    rw [evV_cong (hag x (by simp [hop, Op.operands]))] at hst
    split at hst
    · rename_i b off hu
      cases hst
      exact ⟨u, by unfold step; rw [hop]; simp [hu], .inl ⟨rfl, rfl⟩⟩
    · rename_i g f c hu
      cases hst
      exact ⟨u, by unfold step; rw [hop]; simp [hu], .inl ⟨rfl, rfl⟩⟩
    · cases hst
  · rename_i op ty x y ty2 hop
    rw [evV_cong (hag x (by simp [hop, Op.operands])), evV_cong (hag y (by simp [hop, Op.operands]))] at hst
    split at hst
    · rename_i a b ha hb2
      split at hst
      · rename_i hmay
        simp only [Option.map_eq_some_iff, Prod.mk.injEq] at hst
        obtain ⟨z, hz, rfl, rfl, rfl⟩ := hst
        exact ⟨u, by unfold step; rw [hop]; simp [ha, hb2, hmay, hz], .inl ⟨rfl, rfl⟩⟩
      · cases hst
    · cases hst
  · rename_i op ty x hop
    rw [evV_cong (hag x (by simp [hop, Op.operands]))] at hst
    split at hst
    · rename_i a ha
      simp only [Option.map_eq_some_iff, Prod.mk.injEq] at hst
      obtain ⟨z, hz, rfl, rfl, rfl⟩ := hst
      exact ⟨u, by unfold step; rw [hop]; simp [ha, hz], .inl ⟨rfl, rfl⟩⟩
    · cases hst
  · rename_i src dst x hop
    rw [evV_cong (hag x (by simp [hop, Op.operands]))] at hst
    split at hst
    · rename_i a ha
      simp only [Option.map_eq_some_iff, Prod.mk.injEq, Prod.exists] at hst
      obtain ⟨z, h2, hz, rfl, rfl, rfl⟩ := hst
      exact ⟨u, by unfold step; rw [hop]; simp [ha, hz], .inl ⟨rfl, rfl⟩⟩
    · cases hst
  · rename_i ty x hop
    rw [evV_cong (hag x (by simp [hop, Op.operands]))] at hst
    split at hst
    · rename_i a d ha hdd
      split at hst
      · cases hst
      · rename_i hne
        cases hst
        refine ⟨u, ?_, .inl ⟨rfl, rfl⟩⟩
        unfold step; rw [hop]
        simp only [ha, hdd]
    · cases hst
  · rename_i g first captured hop
    rw [evVs_cong (fun y hy => hag y (by simp only [hop, Op.operands, Array.toList_append, List.mem_append]; exact .inl hy)), evVs_cong (fun y hy => hag y (by simp only [hop, Op.operands, Array.toList_append, List.mem_append]; exact .inr hy))] at hst
    split at hst
    · rename_i a b ha hb2
      cases hst
      exact ⟨u, by unfold step; rw [hop]; simp [ha, hb2], .inl ⟨rfl, rfl⟩⟩
    · cases hst
  · rename_i ty x y hop
    rw [evV_cong (hag x (by simp [hop, Op.operands])), evV_cong (hag y (by simp [hop, Op.operands]))] at hst
    split at hst
    · rename_i a b ha hb2
      simp only [Option.map_eq_some_iff, Prod.mk.injEq, Prod.exists] at hst
      obtain ⟨z, h2, hz, rfl, rfl, rfl⟩ := hst
      exact ⟨u, by unfold step; rw [hop]; simp [ha, hb2, hz], .inl ⟨rfl, rfl⟩⟩
    · cases hst
  · rename_i ty x lo hi mx hop
    rw [evV_cong (hag x (by simp [hop, Op.operands])), evO_cong (x := lo) (fun y hy => hag y (by simp [hop, Op.operands, hy])), evO_cong (x := hi) (fun y hy => hag y (by simp [hop, Op.operands, hy])), evO_cong (x := mx) (fun y hy => hag y (by simp [hop, Op.operands, hy]))] at hst
    split at hst
    · rename_i a l1 l2 l3 ha h1 h2 h3
      simp only [Option.map_eq_some_iff, Prod.mk.injEq] at hst
      obtain ⟨z, hz, rfl, rfl, rfl⟩ := hst
      exact ⟨u, by unfold step; rw [hop]; simp [ha, h1, h2, h3, hz], .inl ⟨rfl, rfl⟩⟩
    · cases hst
  · rename_i sty x f hop
    have hax := hag x (by simp [hop, Op.operands])
    split at hst
    · rename_i a n ha hn
      simp only [Option.map_eq_some_iff, Prod.mk.injEq] at hst
      obtain ⟨z, hz, rfl, rfl, rfl⟩ := hst
      obtain ⟨a', ha', hz'⟩ := addrAdd_cong hax hb ha hz
      exact ⟨u, by unfold step; rw [hop]; simp [ha', hn, hz'], .inl ⟨rfl, rfl⟩⟩
    · cases hst
  · rename_i sty x f hop
    rw [evV_cong (hag x (by simp [hop, Op.operands]))] at hst
    split at hst
    · rename_i cs fields ha hu
      split at hst
      · rename_i fl hf
        simp only [Option.map_eq_some_iff, Prod.mk.injEq] at hst
        obtain ⟨z, hz, rfl, rfl, rfl⟩ := hst
        exact ⟨u, by unfold step; rw [hop]; simp [ha, hu, hf, hz], .inl ⟨rfl, rfl⟩⟩
      · cases hst
    · cases hst
  · rename_i ty x i hop
    have hax := hag x (by simp [hop, Op.operands])
    rw [evV_cong (hag i (by simp [hop, Op.operands]))] at hst
    split at hst
    · rename_i a iv ha hi
      simp only [Option.map_eq_some_iff, Prod.mk.injEq] at hst
      obtain ⟨z, hz, rfl, rfl, rfl⟩ := hst
      have : ∃ a', ev u x = some a' ∧ indexAddrV P u ty x a' iv = some z := by
        unfold indexAddrV at hz
        split at hz
        · rename_i k i2
          split at hz
          · rename_i n e hu
            split at hz
            · rename_i s2 hs2
              split at hz
              · rename_i hc
                obtain ⟨a', ha', hz'⟩ := addrAdd_cong hax hb ha hz
                exact ⟨a', ha', by unfold indexAddrV; simp [hu, hs2, hc, hz']⟩
              · cases hz
            · cases hz
          · rename_i e hu
            split at hz
            · rename_i s2 b off len cap hs2
              split at hz
              · rename_i hc
                rcases ev_cong hax with h1 | ⟨i, l, l', rfl, h1, h2, h3, h4⟩
                · exact ⟨_, by rw [← h1]; exact ha, by unfold indexAddrV; simp [hu, hs2, hc]; simpa using hz⟩
                · rw [ha] at h3; cases h3
              · cases hz
            · cases hz
          · cases hz
        · cases hz
      obtain ⟨a', ha', hz'⟩ := this
      exact ⟨u, by unfold step; rw [hop]; simp [ha', hi, hz'], .inl ⟨rfl, rfl⟩⟩
    · cases hst
  · rename_i ty x i hop
    rw [evV_cong (hag x (by simp [hop, Op.operands])), evV_cong (hag i (by simp [hop, Op.operands]))] at hst
    split at hst
    · rename_i a b ha hb2
      simp only [Option.map_eq_some_iff, Prod.mk.injEq] at hst
      obtain ⟨z, hz, rfl, rfl, rfl⟩ := hst
      exact ⟨u, by unfold step; rw [hop]; simp [ha, hb2, hz], .inl ⟨rfl, rfl⟩⟩
    · cases hst
  · rename_i x i hop
    rw [evV_cong (hag x (by simp [hop, Op.operands]))] at hst
    split at hst
    · rename_i vs ha
      simp only [Option.map_eq_some_iff, Prod.mk.injEq] at hst
      obtain ⟨z, hz, rfl, rfl, rfl⟩ := hst
      exact ⟨u, by unfold step; rw [hop]; simp [ha, hz], .inl ⟨rfl, rfl⟩⟩
    · cases hst
  · rename_i c hop
    have hargs : evVs t c.args.toList = evVs u c.args.toList := evVs_cong (fun y hy => hag y (by simp only [hop, Op.operands, Call.operands, Array.toList_append, List.mem_append]; exact .inr hy))
    split at hst
    · rename_i b hcal
      rw [hargs] at hst
      split at hst
      · rename_i args ha
        obtain ⟨hm, rfl⟩ := bltn_mono hst
        refine ⟨u, ?_, .inl ⟨rfl, rfl⟩⟩
        unfold step; rw [hop]
        simp only [hcal, ha]
        unfold bltn at hst ⊢
        split at hst
        · split at hst
          · rename_i t0 ht0
            simp only [Option.map_eq_some_iff, Prod.mk.injEq] at hst
            obtain ⟨n, hn, rfl, _, rfl⟩ := hst
            simp [ht0, hn]
          · cases hst
        · split at hst
          · rename_i t0 t1 ht0 ht1
            simp only [Option.map_eq_some_iff, Prod.mk.injEq, Prod.exists] at hst
            obtain ⟨z, h2, hz, rfl, _, rfl⟩ := hst
            simp [ht0, ht1, hz]
          · cases hst
        · split at hst
          · rename_i t0 ht0
            simp only [Option.map_eq_some_iff, Prod.mk.injEq, Prod.exists] at hst
            obtain ⟨z, h2, hz, rfl, _, rfl⟩ := hst
            simp [ht0, hz]
          · cases hst
        · simp only [Option.map_eq_some_iff, Prod.mk.injEq] at hst
          obtain ⟨z, hz, rfl, _, rfl⟩ := hst
          simp [hz]
        · simp only [Option.map_eq_some_iff, Prod.mk.injEq] at hst
          obtain ⟨z, hz, rfl, _, rfl⟩ := hst
          simp [hz]
        · split at hst
          · rename_i t0 e ht0 hu0
            split at hst
            · cases hst; simp only [ht0, hu0] at hu0 ⊢
            · cases hst; simp only [ht0, hu0] at hu0 ⊢
            · cases hst
          · cases hst
        · cases hst
      · cases hst
    · rename_i f hcal
      rw [hargs, evV_cong (hag f (by simp only [hop, Op.operands, Call.operands, hcal, Array.toList_append, List.mem_append]; exact .inl (by simp)))] at hst
      split at hst
      · rename_i fv args hf ha
        obtain ⟨hm, rfl⟩ : True ∧ t' = t := by
          refine ⟨trivial, ?_⟩
          unfold callV at hst
          split at hst
          · split at hst
            · simp only [Option.map_eq_some_iff, Prod.mk.injEq, Prod.exists] at hst
              obtain ⟨_, _, _, _, h, _⟩ := hst; exact h.symm
            · cases hst
          · cases hst
        refine ⟨u, ?_, .inl ⟨rfl, rfl⟩⟩
        unfold step; rw [hop]
        simp only [hcal, hf, ha]
        unfold callV at hst ⊢
        split at hst
        · split at hst
          · rename_i hpl
            simp only [Option.map_eq_some_iff, Prod.mk.injEq, Prod.exists] at hst
            obtain ⟨z, h2, hz, rfl, _, rfl⟩ := hst
            simp only [hpl, if_true, hz, Option.map_some]
          · cases hst
        · cases hst
      · cases hst
    · cases hst
  · cases hst

end Go.AM
