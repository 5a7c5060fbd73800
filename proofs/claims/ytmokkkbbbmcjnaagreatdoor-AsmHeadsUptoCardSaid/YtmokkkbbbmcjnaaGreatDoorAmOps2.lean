/-
  Equality, operators.
-/
import Derived.Test.YtmokkkbbbmcjnaaGreatDoorAmOps1
set_option linter.unusedSectionVars false
set_option linter.unusedSimpArgs false
set_option linter.unusedVariables false
namespace Go.AM

variable {P : Program} [Glob P]

theorem str_toList (l : List UInt8) : (ByteArray.mk (Array.mk l)).toList = l := by rw [ByteArray.toList_eq]

theorem eqFields_ok {E : Emb} (w : World) (d : Nat) (eq : TypeId → V → V → Option Bool)
    (ih : ∀ (t : TypeId) (x y : V) (r : Bool), eq t x y = some r → ∀ x' y', VR E x x' → VR E y y' → (Op.equalIn d t x' y').run P w = .ok r w) :
    ∀ (fs : List Field) (xs ys : List V) (r : Bool), eqFields P eq fs xs ys = some r → ∀ xs' ys', VRs E xs xs' → VRs E ys ys' → (∀ y ∈ xs', isCell y = true) → (∀ y ∈ ys', isCell y = true) →
      (Op.eqFields d ⟨xs'⟩ ⟨ys'⟩ fs).run P w = .ok r w
  | [], xs, ys, r, h, xs', ys', _, _, _, _ => by simp only [eqFields, Option.some.injEq] at h; subst h; simp [Op.eqFields]
  | f :: fs, xs, ys, r, h, xs', ys', hx, hy, hcx, hcy => by
    simp only [eqFields] at h
    split at h
    · rename_i hn
      rw [Op.eqFields, if_neg (by simpa using hn)]
      exact eqFields_ok w d eq ih fs xs ys r h xs' ys' hx hy hcx hcy
    · rename_i hn
      split at h
      · rename_i a b ha hb
        obtain ⟨a', ha', hva⟩ := part_ok w f.type xs f.offset a ha xs' hx hcx
        obtain ⟨b', hb', hvb⟩ := part_ok w f.type ys f.offset b hb ys' hy hcy
        rw [Op.eqFields, if_pos (by simpa using hn)]
        simp only [Sem.run_bind, ha', hb', Result.andThen_ok]
        split at h
        · rename_i he
          rw [ih _ _ _ _ he a' b' hva hvb]
          simp only [Result.andThen_ok, Bool.not_true, Bool.false_eq_true, if_false]
          exact eqFields_ok w d eq ih fs xs ys r h xs' ys' hx hy hcx hcy
        · rename_i hne
          cases r with
          | true => exact absurd h hne
          | false =>
            rw [ih _ _ _ _ h a' b' hva hvb]
            simp
      · cases h

theorem eqV_ok {E : Emb} (w : World) : ∀ (d : Nat) (t : TypeId) (x y : V) (r : Bool), eqV P d t x y = some r → ∀ x' y', VR E x x' → VR E y y' → (Op.equalIn d t x' y').run P w = .ok r w
  | 0, t, x, y, r, h, _, _, _, _ => by simp [eqV] at h
  | d + 1, t, x, y, r, h, x', y', hx, hy => by
    simp only [eqV] at h
    split at h
    case h_1 hu => simp only [VR] at hx hy; subst hx hy; cases h; simp [Op.equalIn, run_underlying hu]
    case h_2 hu =>
      simp only [VR] at hx hy; subst hx hy
      split at h
      · rename_i e; subst e; cases h; simp [Op.equalIn, run_underlying hu]
      · cases h
    case h_3 hu =>
      simp only [VR] at hx hy; subst hx hy; cases h
      rw [run_equalIn_string w d t _ _ hu, str_toList, str_toList]
    case h_4 hu => simp only [VR] at hx hy; subst hx hy; cases h; simp [Op.equalIn, run_underlying hu]
    case h_5 hu => simp only [VR] at hx hy; obtain ⟨_, rfl⟩ := hy; subst hx; cases h; simp [Op.equalIn, run_underlying hu]
    case h_6 hu => simp only [VR] at hx hy; obtain ⟨_, rfl⟩ := hx; subst hy; cases h; simp [Op.equalIn, run_underlying hu]
    case h_7 hu => simp only [VR] at hx hy; subst hx hy; cases h; simp [Op.equalIn, run_underlying hu]
    case h_8 hu => simp only [VR] at hx hy; obtain ⟨_, rfl, _⟩ := hy; subst hx; cases h; simp [Op.equalIn, run_underlying hu]
    case h_9 hu => simp only [VR] at hx hy; obtain ⟨_, rfl, _⟩ := hx; subst hy; cases h; simp [Op.equalIn, run_underlying hu]
    case h_10 hu => simp only [VR] at hx hy; subst hx hy; cases h; simp [Op.equalIn, run_underlying hu]
    case h_11 _ _ cap hu => 
      cases cap <;> simp only [VR] at hx hy <;> obtain ⟨_, _, a, rfl, _⟩ := hy <;> subst hx <;> cases h <;> simp [Op.equalIn, run_underlying hu]
    case h_12 _ _ cap hu =>
      cases cap <;> simp only [VR] at hx hy <;> obtain ⟨_, _, a, rfl, _⟩ := hx <;> subst hy <;> cases h <;> simp [Op.equalIn, run_underlying hu]
    case h_13 hu => simp only [VR] at hx hy; subst hx hy; cases h; simp [Op.equalIn, run_underlying hu]
    case h_14 hu => simp only [VR] at hx hy; obtain ⟨_, rfl⟩ := hy; subst hx; cases h; simp [Op.equalIn, run_underlying hu]
    case h_15 hu => simp only [VR] at hx hy; obtain ⟨_, rfl⟩ := hx; subst hy; cases h; simp [Op.equalIn, run_underlying hu]
    case h_16 hu => simp only [VR] at hx hy; subst hx hy; cases h; simp [Op.equalIn, run_underlying hu]
    case h_17 hu => simp only [VR] at hx hy; obtain ⟨_, _, rfl, _⟩ := hy; subst hx; cases h; simp [Op.equalIn, run_underlying hu]
    case h_18 hu => simp only [VR] at hx hy; obtain ⟨_, _, rfl, _⟩ := hx; subst hy; cases h; simp [Op.equalIn, run_underlying hu]
    case h_19 fs xs ys hu =>
      split at h
      · cases h
      · rename_i hp
        simp only [VR] at hx hy
        obtain ⟨xs', rfl, hx, hcx⟩ := hx
        obtain ⟨ys', rfl, hy, hcy⟩ := hy
        have hf : P.fieldsOf t = fs := by simp [Program.fieldsOf, hu]
        rw [run_equalIn_struct w d t _ _ (by rw [hf]; exact hu) (by simpa using hp), hf]
        exact eqFields_ok w d _ (fun t x y r h x' y' => eqV_ok w d t x y r h x' y') _ xs ys r h xs' ys' hx hy hcx hcy
    case h_20 => cases h

/-- What a value of ours is, told by the model's. -/
def headOf : Value → Nat
  | .bool _ => 0 | .int _ _ => 1 | .float _ _ => 2 | .complex _ _ _ => 3 | .string _ => 4 | .pointer none => 5 | .pointer (some _) => 6
  | .slice none _ _ => 7 | .slice (some _) _ _ => 8 | .map none => 9 | .map (some _) => 10 | .chan _ => 11 | .func _ _ _ => 12 | .nilFunc => 13
  | .iface _ _ => 14 | .nilIface => 15 | .agg _ => 16 | .tuple _ => 17
def V.head : V → Nat
  | .bool _ => 0 | .int _ _ => 1 | .str _ => 4 | .nilptr => 5 | .ptr _ _ => 6 | .nilslice => 7 | .slice _ _ _ _ => 8 | .nilmap => 9 | .map _ => 10
  | .func _ _ _ => 12 | .nilfunc => 13 | .iface _ _ => 14 | .niliface => 15 | .agg _ => 16 | .tup _ => 17 | .box _ => 18 | .lref _ _ => 19 | .junk => 20
theorem VR.head {E : Emb} {a : V} {x : Value} (h : VR E a x) : headOf x = a.head := by
  cases a
  case slice b off len cap => cases cap <;> simp only [VR] at h <;> obtain ⟨_, _, _, rfl, _⟩ := h <;> rfl
  case ptr => simp only [VR] at h; obtain ⟨_, rfl⟩ := h; rfl
  case map => simp only [VR] at h; obtain ⟨_, rfl⟩ := h; rfl
  case func => simp only [VR] at h; obtain ⟨_, _, rfl, _⟩ := h; rfl
  case iface => simp only [VR] at h; obtain ⟨_, rfl, _⟩ := h; rfl
  case agg => simp only [VR] at h; obtain ⟨_, rfl, _⟩ := h; rfl
  case tup => simp only [VR] at h; obtain ⟨_, rfl, _⟩ := h; rfl
  all_goals (simp only [VR] at h; first | done | (subst h; rfl))

theorem VR.niliface_inv {E : Emb} {a : V} (h : VR E a .nilIface) : a = .niliface := by
  have := h.head
  cases a <;> first | rfl | (simp [headOf, V.head] at this)
theorem VR.agg_inv {E : Emb} {a : V} {l : Array Value} (h : VR E a (.agg l)) : ∃ m, a = .agg m := by
  have := h.head
  cases a <;> first | exact ⟨_, rfl⟩ | (simp [headOf, V.head] at this)

theorem eqMay_ok {E : Emb} (w : World) (op : BinOp) (t : TypeId) (x y : Operand) (a b : V) (a' b' : Value) (ha : VR E a a') (hb : VR E b b') (h : eqMay P op t x y a b = true) :
    (eqGuard op t x y a' b').run P w = .ok () w := by
  cases op <;> (try (simp [eqGuard]; done))
  all_goals
    unfold eqGuard
    simp only [Bool.not_true, Bool.false_eq_true, if_false]
    split
    · have e1 := ha.niliface_inv
      have e2 := hb.niliface_inv
      subst e1 e2
      simp only [eqMay] at h
      cases x <;> cases y <;> simp at h <;> simp
    · obtain ⟨m, rfl⟩ := ha.agg_inv
      obtain ⟨m', rfl⟩ := hb.agg_inv
      have hg : P.eqGuardType P.depth t = false := by simpa [eqMay] using h
      simp [run_program, hg]
    · rfl

theorem bitsOp_ok {E : Emb} (w : World) (op : BinOp) (k : IntKind) (x y : Int) (v : V) (h : bitsOp op k x y = some v) : ∃ z, (Op.intBits op k x y).run P w = .ok z w ∧ VR E v z := by
  cases op <;> simp only [bitsOp] at h <;> first | (cases h; done) | (cases h; exact ⟨_, by simp only [Op.intBits]; rfl, by simp only [VR, wr_eq]⟩)

theorem cmpOp_ok {E : Emb} (w : World) (op : BinOp) (x y : Int) (v : V) (h : cmpOp op x y = some v) : ∃ z, (Op.intCmp op x y).run P w = .ok z w ∧ VR E v z := by
  cases op <;> simp only [cmpOp] at h <;> first | (cases h; done) | (cases h; exact ⟨_, by simp only [Op.intCmp]; rfl, by simp only [VR]⟩)

theorem shiftOp_ok {E : Emb} (w : World) (op : BinOp) (k yk : IntKind) (x y : Int) (v : V) (h : shiftOp op k x y = some v) : ∃ z, (Op.shift op k x yk y).run P w = .ok z w ∧ VR E v z := by
  unfold shiftOp at h
  split at h
  · cases h
  · rename_i hy
    have e : ∀ n : Nat, ((2 ^ n : Nat) : Int) = 2 ^ n := fun n => by simp
    cases op <;> simp only at h <;> first
      | (cases h; done)
      | (cases h; exact ⟨_, by simp only [Op.shift, if_neg hy]; rfl, by simp only [VR, wr_eq, e]⟩)

theorem intOp_ok {E : Emb} (w : World) (op : BinOp) (k : IntKind) (x y : Int) (v : V) (h : intOp op k x y = some v) (t : TypeId) :
    ∃ z, (binOp op t (.int k x) (.int k y)).run P w = .ok z w ∧ VR E v z := by
  cases op <;> simp only [intOp] at h
  case add => cases h; exact ⟨_, by simp only [binOp, ne_eq, not_true_eq_false, if_false, Op.intArith]; rfl, by simp only [VR, wr_eq]⟩
  case sub => cases h; exact ⟨_, by simp only [binOp, ne_eq, not_true_eq_false, if_false, Op.intArith]; rfl, by simp only [VR, wr_eq]⟩
  case mul => cases h; exact ⟨_, by simp only [binOp, ne_eq, not_true_eq_false, if_false, Op.intArith]; rfl, by simp only [VR, wr_eq]⟩
  case quo =>
    split at h
    · cases h
    · rename_i hy; cases h; exact ⟨_, by simp only [binOp, ne_eq, not_true_eq_false, if_false, Op.intDiv, hy]; rfl, by simp only [VR, wr_eq]⟩
  case rem =>
    split at h
    · cases h
    · rename_i hy; cases h; exact ⟨_, by simp only [binOp, ne_eq, not_true_eq_false, if_false, Op.intDiv, hy]; rfl, by simp only [VR, wr_eq]⟩
  case shl => cases h
  case shr => cases h
  case and => obtain ⟨z, hz, hr⟩ := bitsOp_ok (P := P) (E := E) w _ k x y v h; exact ⟨z, by simp only [binOp, ne_eq, not_true_eq_false, if_false]; exact hz, hr⟩
  case or => obtain ⟨z, hz, hr⟩ := bitsOp_ok (P := P) (E := E) w _ k x y v h; exact ⟨z, by simp only [binOp, ne_eq, not_true_eq_false, if_false]; exact hz, hr⟩
  case xor => obtain ⟨z, hz, hr⟩ := bitsOp_ok (P := P) (E := E) w _ k x y v h; exact ⟨z, by simp only [binOp, ne_eq, not_true_eq_false, if_false]; exact hz, hr⟩
  case andNot => obtain ⟨z, hz, hr⟩ := bitsOp_ok (P := P) (E := E) w _ k x y v h; exact ⟨z, by simp only [binOp, ne_eq, not_true_eq_false, if_false]; exact hz, hr⟩
  all_goals (obtain ⟨z, hz, hr⟩ := cmpOp_ok (P := P) (E := E) w _ x y v h; exact ⟨z, by simp only [binOp, ne_eq, not_true_eq_false, if_false]; exact hz, hr⟩)

theorem strOp_ok {E : Emb} (w : World) (op : BinOp) (x y : List UInt8) (v : V) (h : strOp op x y = some v) : ∃ z, (Op.stringOp op ⟨⟨x⟩⟩ ⟨⟨y⟩⟩).run P w = .ok z w ∧ VR E v z := by
  cases op <;> simp only [strOp] at h <;> (try (cases h; done))
  case add =>
    split at h
    · rename_i hl
      cases h
      refine ⟨.string (⟨⟨x⟩⟩ ++ ⟨⟨y⟩⟩), ?_, ?_⟩
      · simp only [Op.stringOp]
        rw [if_neg (by
          have e1 : ByteArray.size ⟨⟨x⟩⟩ = x.length := rfl
          have e2 : ByteArray.size ⟨⟨y⟩⟩ = y.length := rfl
          rw [e1, e2]
          simp only [room] at hl
          simp [IntKind.max, IntKind.signed, IntKind.bits]
          omega)]
        rfl
      · simp only [VR]
        first | (congr 1; done) | (congr 1; apply ByteArray.ext; first | rfl | simp)
    · cases h
  all_goals (cases h; exact ⟨_, by simp only [Op.stringOp, str_toList]; rfl, by simp only [VR]⟩)

/-- '==' and '!=' of values that are neither numbers nor texts go to the type's own equality. -/
theorem binOp_eql_run (w : World) (t : TypeId) (a' b' : Value) (r : Bool) (h : (Op.equalIn 10000 t a' b').run P w = .ok r w) (h1 : ¬ (headOf a' = 1 ∧ headOf b' = 1)) (h2 : ¬ (headOf a' = 4 ∧ headOf b' = 4))
    (h3 : headOf a' ≠ 2 ∧ headOf a' ≠ 3) :
    (binOp .eql t a' b').run P w = .ok (.bool r) w ∧ (binOp .neq t a' b').run P w = .ok (.bool (!r)) w := by
  cases a' <;> cases b' <;> (first
    | (simp [headOf] at h1; done)
    | (simp [headOf] at h2; done)
    | (simp [headOf] at h3; done)
    | (constructor <;> simp only [binOp] <;> simp [Op.equal, Op.maxDepth, h]))

theorem binV_ok {E : Emb} (w : World) (op : BinOp) (t : TypeId) (a b : V) (v : V) (h : binV P op t a b = some v) (a' b' : Value) (ha : VR E a a') (hb : VR E b b') :
    ∃ z, (binOp op t a' b').run P w = .ok z w ∧ VR E v z := by
  unfold binV at h
  split at h
  · rename_i k x k' y
    simp only [VR] at ha hb
    subst ha hb
    split at h
    · exact (shiftOp_ok (P := P) (E := E) w .shl k k' x y v h).imp fun z hz => ⟨by simp only [binOp]; exact hz.1, hz.2⟩
    · exact (shiftOp_ok (P := P) (E := E) w .shr k k' x y v h).imp fun z hz => ⟨by simp only [binOp]; exact hz.1, hz.2⟩
    · split at h
      · rename_i e; subst e; exact intOp_ok w op k x y v h t
      · cases h
  · simp only [VR] at ha hb
    subst ha hb
    obtain ⟨z, hz, hr⟩ := strOp_ok (P := P) (E := E) w op _ _ v h
    refine ⟨z, ?_, hr⟩
    cases op <;> simp only [binOp] <;> exact hz
  · rename_i hn1 hn2
    have g1 : ¬ (headOf a' = 1 ∧ headOf b' = 1) := by
      rw [ha.head, hb.head]
      rintro ⟨e1, e2⟩
      cases a <;> simp [V.head] at e1
      cases b <;> simp [V.head] at e2
      exact hn1 _ _ _ _ rfl rfl
    have g2 : ¬ (headOf a' = 4 ∧ headOf b' = 4) := by
      rw [ha.head, hb.head]
      rintro ⟨e1, e2⟩
      cases a <;> simp [V.head] at e1
      cases b <;> simp [V.head] at e2
      exact hn2 _ _ rfl rfl
    have g3 : headOf a' ≠ 2 ∧ headOf a' ≠ 3 := by rw [ha.head]; cases a <;> simp [V.head]
    split at h
    · simp only [Option.map_eq_some_iff] at h
      obtain ⟨r, hr, rfl⟩ := h
      exact ⟨_, (binOp_eql_run w t a' b' r (eqV_ok w _ t a b r hr a' b' ha hb) g1 g2 g3).1, by simp [VR]⟩
    · simp only [Option.map_eq_some_iff] at h
      obtain ⟨r, hr, rfl⟩ := h
      exact ⟨_, (binOp_eql_run w t a' b' r (eqV_ok w _ t a b r hr a' b' ha hb) g1 g2 g3).2, by simp [VR]⟩
    · cases h

theorem unV_ok {E : Emb} (w : World) (op : UnOp) (a : V) (v : V) (h : unV op a = some v) (a' : Value) (ha : VR E a a') : ∃ z, (Op.unary op a').run P w = .ok z w ∧ VR E v z := by
  unfold unV at h
  split at h
  · simp only [VR] at ha; subst ha; cases h
    exact ⟨_, by simp only [Op.unary, Op.intArith]; rfl, by simp only [VR, wr_eq]⟩
  · simp only [VR] at ha; subst ha
    obtain ⟨z, hz, hr⟩ := bitsOp_ok (P := P) (E := E) w _ _ _ _ v h
    exact ⟨z, by simp only [Op.unary]; exact hz, hr⟩
  · simp only [VR] at ha; subst ha; cases h
    exact ⟨_, by simp only [Op.unary]; rfl, by simp only [VR]⟩
  · cases h

end Go.AM
