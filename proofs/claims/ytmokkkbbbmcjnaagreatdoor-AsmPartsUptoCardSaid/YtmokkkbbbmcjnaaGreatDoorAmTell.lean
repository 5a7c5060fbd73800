/-
  A run under promises, of all kinds: at places that we name, an operation's value is told beforehand; what must then be shown is gathered.
-/
import Derived.Test.YtmokkkbbbmcjnaaGreatDoorAmFlat
set_option linter.unusedSimpArgs false
set_option linter.unusedVariables false
namespace Go.AM

/-- What is told: a value; or a new slice: how many elements, of what type, what cells. -/
inductive Tell where
  | val (v : V)
  | blk (n : Nat) (e : TypeId) (cells : List V)
  | dblk (b : Id) (n : Nat) (e : TypeId) (cells : List V)
  | cal (v : V) (h : Heap)
  | cax (v : V) (h : Heap)
  | caq (v : V) (h : Heap)
  | apx (q : Option Bool) (v : V) (h : Heap)
  | slx (v : V)
  | ldx (v : V)
  | stx (h : Heap)
  | iax (v : V)
  | loop (N : Nat) (ks : List Nat) (e : E) (kn : List (Nat × V)) (J : List V → List V) (h : Heap)

/-- What is known of temporaries; of the rest nothing. -/
def lookupN (k : Nat) : List (Nat × V) → Option V
  | [] => none
  | (j, v) :: l => if Nat.beq j k then some v else lookupN k l
def normL (N : Nat) (kn : List (Nat × V)) (t : List V) : List V := (List.range N).map fun k => match lookupN k kn with
  | some v => v
  | none => t.getD k (.tup [])
def proj (ks : List Nat) (t : List V) : List V := ks.map fun k => t.getD k (.tup [])

/-- Which function, which temporary, what: in the order in which the run meets them. -/
abbrev Orc2 := List (FuncId × Tmp × Tell)

/-- What is promised. -/
inductive Ob2 where
  | bin (op : BinOp) (ty : TypeId) (a b v : V)
  | slc (ty : TypeId) (a : V) (lo hi mx : Option V) (v : V)
  | idx (ty : TypeId) (a i v : V)
  | iadr (ty : TypeId) (b : Id) (off len : Nat) (cap : Option Nat) (i v : V)
  | ld (ty : TypeId) (l : List V) (off : Nat) (v : V)
  | rd (f : FuncId) (args : List V) (v : V)
  | rdd (f : FuncId) (args : List V) (h : Heap) (v : V) (h' : Heap)
  | cax (f : FuncId) (args : List V) (h : Heap) (v : V) (h' : Heap)
  | caq (f : FuncId) (args : List V) (h : Heap) (v : V) (h' : Heap)
  | apx (q : Option Bool) (t0 t1 : TypeId) (h : Heap) (x y v : V) (h' : Heap)
  | slx (ty : TypeId) (h : Heap) (a : V) (lo hi mx : Option V) (v : V)
  | ldx (ty : TypeId) (h : Heap) (x : Operand) (a v : V)
  | stx (ty : TypeId) (h : Heap) (x : Operand) (a v : V) (h' : Heap)
  | iax (ty : TypeId) (x : Operand) (a i v : V)
  | app (t0 t1 : TypeId) (h : Heap) (x y : V) (n : Nat) (e : TypeId) (cells : List V)
  | apd (t0 t1 : TypeId) (h : Heap) (x y : V) (b : Id) (n : Nat) (e : TypeId) (cells : List V)
  | cnv (src dst : TypeId) (h : Heap) (x v : V)
  | cnb (src dst : TypeId) (h : Heap) (x : V) (n : Nat) (e : TypeId) (cells : List V)
  | loop (n : Nat) (L : List Tmp) (c : Code) (N : Nat) (ks : List Nat) (vs : List V) (h : Heap) (e : E) (kn : List (Nat × V)) (J : List V → List V) (h' : Heap)

/-- A value, with what lies in memory behind it: a slice's row, and where in it, how long, how far, of what type. -/
def capV : Option Nat → V
  | none => .nilptr
  | some k => .int .i64 k
def dig (h : Heap) : V → Option V
  | .slice b off len cap => match h.get b with
    | some (.cells _ ty row) => some (.tup [.tup row, .int .i64 off, .int .i64 len, capV cap, .int .i64 ty])
    | _ => none
  | .tup _ => none
  | v => if flat v then some v else none
def digs (h : Heap) : List V → Option (List V)
  | [] => some []
  | v :: l => match dig h v, digs h l with
    | some v, some l => some (v :: l)
    | _, _ => none

abbrev CallT := FuncId → List V → Heap → Orc2 → Option (V × Heap × Orc2 × List Ob2)

section
variable (P : Program)

def rowGet (ty : TypeId) (l : List V) (off : Nat) : Option V :=
  match isAggT P ty with
  | some true => match szOf P ty with
    | some n => (loadRow l off n).map .agg
    | none => none
  | some false => l[off]?
  | none => none

theorem loadV_row (ty : TypeId) (t : List V) (h : Heap) (x : Operand) (a : V) (l : List V) (off : Nat) (hr : rowAt t h x a = some (l, off)) : loadV P ty t h x a = rowGet P ty l off := by
  unfold loadV
  rw [hr]
  rfl

def Ob2.ok (X : Ext) : Ob2 → Prop
  | .bin op ty a b v => binV P op ty a b = some v
  | .slc ty a lo hi mx v => ∀ h, sliceV P ty h a lo hi mx = some v
  | .idx ty a i v => indexV P ty a i = some v
  | .iadr ty b off len cap i v => ∀ ts x, indexAddrV P ts ty x (.slice b off len cap) i = some v
  | .ld ty l off v => rowGet P ty l off = some v
  | .rd f dargs v => ∃ g, X f = some g ∧ ∀ args h, digs h args = some dargs → g args h = some (v, h)
  | .rdd f dargs h v h' => ∃ g, X f = some g ∧ ∀ args, digs h args = some dargs → g args h = some (v, h')
  | .cax f args h v h' => ∃ g, X f = some g ∧ g args h = some (v, h')
  | .caq f args h v h' => (∃ g, X f = some g ∧ g args h = some (v, h')) ∧ h.next ≤ h'.lo
  | .apx q t0 t1 h x y v h' => appendV P t0 t1 h x y = some (v, h') ∧ (match q with | some true => h.next ≤ h'.lo | some false => h'.lo < h.next | none => True)
  | .slx ty h a lo hi mx v => sliceV P ty h a lo hi mx = some v
  | .ldx ty h x a v => ∀ t, loadV P ty t h x a = some v
  | .stx ty h x a v h' => ∀ t, storeV P ty t h x a v = some (t, h')
  | .iax ty x a i v => ∀ t, indexAddrV P t ty x a i = some v
  | .app t0 t1 h x y n e cells => appendV P t0 t1 h x y = some (.slice h.next 0 n none, h.alloc (.cells false e cells))
  | .apd t0 t1 h x y b n e cells => appendV P t0 t1 h x y = some (.slice h.next 0 n none, (h.set b .dead).alloc (.cells false e cells))
  | .cnv src dst h x v => convV P src dst h x = some (v, h)
  | .cnb src dst h x n e cells => convV P src dst h x = some (.slice h.next 0 n none, h.alloc (.cells false e cells))
  | .loop n L c N ks vs h e kn J h' => ∀ t : List V, t.length = N → proj ks t = vs → rounds (exec P (callN P X n) L n c) n ⟨t, h⟩ = some (e, ⟨normL N kn (J t), h'⟩)

def Obs2 (X : Ext) (l : List Ob2) : Prop := ∀ x ∈ l, x.ok P X

def tells (f : FuncId) (o : Oper) : Orc2 → Option (Tell × Orc2)
  | (g, d, v) :: O => match o.dst with
    | some d' => if Nat.beq g f && Nat.beq d d' then some (v, O) else none
    | none => match v with
      | .stx h => if Nat.beq g f then some (.stx h, O) else none
      | _ => none
  | [] => none

def stepT (live : Bool) (call : CallT) (f : FuncId) (L : List Tmp) (o : Oper) (t : List V) (h : Heap) (O : Orc2) : Option (R × Orc2 × List Ob2) :=
  match tells f o O with
  | some (.val v, O') => match o.op with
    | .binOp op ty x y _ => match evV t x, evV t y with
      | some a, some b => if eqMay P op ty x y a b then some ((v, t, h), O', [.bin op ty a b v]) else none
      | _, _ => none
    | .slice ty x lo hi mx => match evV t x, evO t lo, evO t hi, evO t mx with
      | some a, some lo, some hi, some mx => some ((v, t, h), O', [.slc ty a lo hi mx v])
      | _, _, _, _ => none
    | .index ty x i => match evV t x, evV t i with
      | some a, some i => some ((v, t, h), O', [.idx ty a i v])
      | _, _ => none
    | .indexAddr ty x i => match ev t x, evV t i with
      | some (.slice b off len cap), some i => some ((v, t, h), O', [.iadr ty b off len cap i v])
      | _, _ => none
    | .load ty x => match ev t x with
      | some a => match rowAt t h x a with
        | some (l, off) => some ((v, t, h), O', [.ld ty l off v])
        | none => none
      | none => none
    | .convert src dst x => match evV t x with
      | some a => some ((v, t, h), O', [.cnv src dst h a v])
      | none => none
    | .call c => match c.callee with
      | .value fv => match evV t fv, evVs t c.args.toList with
        | some (.func (.func g) first captured), some args => if plainFn P g && live then (match digs h (first ++ args ++ captured) with
            | some dargs => some ((v, t, h), O', [.rd g dargs v])
            | none => none) else none
        | _, _ => none
      | _ => none
    | _ => none
  | some (.blk n e cells, O') => match o.op with
    | .call c => match c.callee with
      | .builtin .append => match evVs t c.args.toList, c.argTypes[0]?, c.argTypes[1]? with
        | some [x, y], some t0, some t1 => some ((.slice h.next 0 n none, t, h.alloc (.cells false e cells)), O', [.app t0 t1 h x y n e cells])
        | _, _, _ => none
      | _ => none
    | .convert src dst x => match evV t x with
      | some a => some ((.slice h.next 0 n none, t, h.alloc (.cells false e cells)), O', [.cnb src dst h a n e cells])
      | none => none
    | _ => none
  | some (.dblk b n e cells, O') => match o.op with
    | .call c => match c.callee with
      | .builtin .append => match evVs t c.args.toList, c.argTypes[0]?, c.argTypes[1]? with
        | some [x, y], some t0, some t1 => some ((.slice h.next 0 n none, t, (h.set b .dead).alloc (.cells false e cells)), O', [.apd t0 t1 h x y b n e cells])
        | _, _, _ => none
      | _ => none
    | _ => none
  | some (.cal v h', O') => match o.op with
    | .call c => match c.callee with
      | .value fv => match evV t fv, evVs t c.args.toList with
        | some (.func (.func g) first captured), some args => if plainFn P g && live then (match digs h (first ++ args ++ captured) with
            | some dargs => some ((v, t, h'), O', [.rdd g dargs h v h'])
            | none => none) else none
        | _, _ => none
      | _ => none
    | _ => none
  | some (.cax v h', O') => match o.op with
    | .call c => match c.callee with
      | .value fv => match evV t fv, evVs t c.args.toList with
        | some (.func (.func g) first captured), some args => if plainFn P g && live then some ((v, t, h'), O', [.cax g (first ++ args ++ captured) h v h']) else none
        | _, _ => none
      | _ => none
    | _ => none
  | some (.caq v h', O') => match o.op with
    | .call c => match c.callee with
      | .value fv => match evV t fv, evVs t c.args.toList with
        | some (.func (.func g) first captured), some args => if plainFn P g && live then some ((v, t, h'), O', [.caq g (first ++ args ++ captured) h v h']) else none
        | _, _ => none
      | _ => none
    | _ => none
  | some (.apx q v h', O') => match o.op with
    | .call c => match c.callee with
      | .builtin .append => match evVs t c.args.toList, c.argTypes[0]?, c.argTypes[1]? with
        | some [x, y], some t0, some t1 => some ((v, t, h'), O', [.apx q t0 t1 h x y v h'])
        | _, _, _ => none
      | _ => none
    | _ => none
  | some (.slx v, O') => match o.op with
    | .slice ty x lo hi mx => match evV t x, evO t lo, evO t hi, evO t mx with
      | some a, some lo, some hi, some mx => some ((v, t, h), O', [.slx ty h a lo hi mx v])
      | _, _, _, _ => none
    | _ => none
  | some (.ldx v, O') => match o.op with
    | .load ty x => match ev t x with
      | some a => some ((v, t, h), O', [.ldx ty h x a v])
      | none => none
    | _ => none
  | some (.stx h', O') => match o.op with
    | .store ty x y => match ev t x, evV t y with
      | some a, some v => some ((.tup [], t, h'), O', [.stx ty h x a v h'])
      | _, _ => none
    | _ => none
  | some (.iax v, O') => match o.op with
    | .indexAddr ty x i => match ev t x, evV t i with
      | some a, some i => some ((v, t, h), O', [.iax ty x a i v])
      | _, _ => none
    | _ => none
  | some (.loop _ _ _ _ _ _, _) => none
  | none => match o.op with
    | .call c => match c.callee with
      | .value fv => match evV t fv, evVs t c.args.toList with
        | some (.func (.func g) first captured), some args => if plainFn P g then (match call g (first ++ args ++ captured) h O with
            | some (v, h, O, obs) => some ((v, t, h), O, obs)
            | none => none) else none
        | _, _ => none
      | _ => (step P (fun _ _ _ => none) L o t h).map (·, O, [])
    | _ => (step P (fun _ _ _ => none) L o t h).map (·, O, [])

def runT (live : Bool) (call : CallT) (f : FuncId) (L : List Tmp) (ops : Array Oper) : List Oper → St → Orc2 → Option (St × Orc2 × List Ob2)
  | [], s, O => some (s, O, [])
  | o :: l, s, O => match wantedV ops s.t o with
    | some true => match stepT P live call f L o s.t s.h O with
      | some ((v, t, h), O, obs) => if okBox L o.dst v then match runT live call f L ops l ⟨putV t o.dst v, h⟩ O with
          | some (s, O, obs') => some (s, O, obs ++ obs')
          | none => none
        else none
      | none => none
    | some false => runT live call f L ops l ⟨putV s.t o.dst (.tup []), s.h⟩ O
    | none => none

/-- An operation that leaves memory as it is. -/
def keepsH (o : Oper) (t : List V) : Bool := match o.op with
  | .move _ | .assign _ | .pick _ _ _ | .load _ _ | .binOp _ _ _ _ _ | .unOp _ _ _ | .nilCheck _ | .fieldAddr _ _ _ | .field _ _ _ | .indexAddr _ _ _ | .index _ _ _ | .extract _ _ | .build _ _ => true
  | .store _ x _ => match ev t x with
    | some (.box _) | some (.lref _ _) => true
    | _ => false
  | _ => false

theorem keeps_step {callP : CallF} {L : List Tmp} {o : Oper} {t : List V} {h : Heap} {v : V} {t' : List V} {h' : Heap} (hk : keepsH o t = true) (hs : step P callP L o t h = some (v, t', h')) : h' = h := by
  unfold keepsH at hk
  unfold step at hs
  split at hk
  case h_14 =>
    rename_i ty x y hop
    rw [hop] at hs
    simp only at hs
    split at hs
    · rename_i a v ha hv
      rw [ha] at hk
      simp only [Option.map_eq_some_iff, Prod.mk.injEq, Prod.exists] at hs
      obtain ⟨t1, h1, hst, _, _, rfl⟩ := hs
      unfold storeV at hst
      split at hst
      case isFalse => cases hst
      split at hst
      · simp at hk
      · split at hst
        case h_2 => cases hst
        split at hst
        case h_2 => cases hst
        simp only [Option.map_eq_some_iff, Prod.mk.injEq] at hst
        obtain ⟨_, _, _, rfl⟩ := hst
        rfl
    · cases hs
  case h_15 => cases hk
  all_goals (rename_i hop; rw [hop] at hs; simp only at hs; (repeat' split at hs) <;> simp only [Option.map_eq_some_iff, Prod.mk.injEq, Option.some.injEq, reduceCtorEq] at hs <;> first
    | (obtain ⟨_, _, rfl⟩ := hs; rfl)
    | (obtain ⟨_, _, _, _, rfl⟩ := hs; rfl))

/-- An operation of which we know that it turns nothing that was there. -/
def quietT (f : FuncId) (o : Oper) (O : Orc2) : Bool := match tells f o O with
  | some (.val _, _) => true
  | some (.blk _ _ _, _) => true
  | some (.caq _ _, _) => true
  | some (.apx (some true) _ _, _) => true
  | some (.slx _, _) => true
  | some _ => false
  | none => match o.op with
    | .alloc _ => true
    | .buildSlice _ _ _ => true
    | .call c => match c.callee with
      | .builtin .len => true
      | _ => false
    | _ => false

/-- An operation of which we know that it turns something that was there. -/
def loudT (f : FuncId) (o : Oper) (O : Orc2) : Bool := match tells f o O with
  | some (.apx (some false) _ _, _) => true
  | _ => false

theorem buildSlice_lo {t : TypeId} {n : Nat} {ps : List (Nat × V)} {h : Heap} {v : V} {h' : Heap} (hv : buildSliceV P t n ps h = some (v, h')) : h'.lo = h.lo := by
  unfold buildSliceV at hv
  split at hv
  case isFalse => cases hv
  unfold buildSliceU at hv
  split at hv
  case h_2 => cases hv
  split at hv
  case h_2 => cases hv
  split at hv
  case isFalse => cases hv
  split at hv
  case h_2 => cases hv
  cases hv
  rfl
theorem newVarV_lo {L : List Tmp} {d : Option Tmp} {ty : TypeId} {cells t : List V} {h : Heap} {r : V × List V × Heap} (hn : newVarV L d ty cells t h = r) : r.2.2.lo = h.lo := by
  subst hn
  unfold newVarV
  split
  · split <;> rfl
  · rfl

theorem bltn_len {ty : Array TypeId} {t : List V} {h : Heap} {args : List V} {r : R} (hr : bltn P .len ty t h args = some r) : r.2.2.lo = h.lo := by
  cases args with
  | nil => simp [bltn] at hr
  | cons x l => cases l with
    | cons y l => simp [bltn] at hr
    | nil =>
      simp only [bltn] at hr
      split at hr
      · simp only [Option.map_eq_some_iff] at hr
        obtain ⟨_, _, rfl⟩ := hr
        rfl
      · cases hr

theorem quiet_step {X : Ext} {live : Bool} {call : CallT} {f : FuncId} {L : List Tmp} {o : Oper} {t : List V} {h : Heap} {O O' : Orc2} {v : V} {t' : List V} {h' : Heap} {obs : List Ob2} (hq : quietT f o O = true) (hs : stepT P live call f L o t h O = some ((v, t', h'), O', obs)) (hobs : Obs2 P X obs) : h.lo ≤ h'.lo ∨ h.next ≤ h'.lo := by
  unfold quietT at hq
  unfold stepT at hs
  split at hq
  · rename_i v1 O1 htold
    rw [htold] at hs
    simp only at hs
    left
    (repeat' split at hs) <;> simp only [Option.some.injEq, Prod.mk.injEq, reduceCtorEq] at hs <;> (obtain ⟨⟨_, _, rfl⟩, _⟩ := hs; exact Nat.le_refl _)
  · rename_i n1 e1 c1 O1 htold
    rw [htold] at hs
    simp only at hs
    left
    (repeat' split at hs) <;> simp only [Option.some.injEq, Prod.mk.injEq, reduceCtorEq] at hs <;> (obtain ⟨⟨_, _, rfl⟩, _⟩ := hs; exact Nat.le_refl _)
  · rename_i v1 h1 O1 htold
    rw [htold] at hs
    simp only at hs
    right
    (repeat' split at hs) <;> simp only [Option.some.injEq, Prod.mk.injEq, reduceCtorEq] at hs
    obtain ⟨⟨rfl, _, rfl⟩, _, rfl⟩ := hs
    have := hobs _ List.mem_cons_self
    simp only [Ob2.ok] at this
    exact this.2
  · rename_i v1 h1 O1 htold
    rw [htold] at hs
    simp only at hs
    right
    (repeat' split at hs) <;> simp only [Option.some.injEq, Prod.mk.injEq, reduceCtorEq] at hs
    obtain ⟨⟨rfl, _, rfl⟩, _, rfl⟩ := hs
    have := hobs _ List.mem_cons_self
    simp only [Ob2.ok] at this
    exact this.2
  · rename_i v1 O1 htold
    rw [htold] at hs
    simp only at hs
    left
    (repeat' split at hs) <;> simp only [Option.some.injEq, Prod.mk.injEq, reduceCtorEq] at hs
    obtain ⟨⟨_, _, rfl⟩, _⟩ := hs
    exact Nat.le_refl _
  · cases hq
  · rename_i htold
    rw [htold] at hs
    simp only at hs
    left
    split at hq
    · rename_i ty hop
      rw [hop] at hs
      simp only [Option.map_eq_some_iff, Prod.mk.injEq] at hs
      obtain ⟨r, hr, e, _, _⟩ := hs
      unfold step at hr
      rw [hop] at hr
      simp only at hr
      split at hr
      · split at hr
        · cases hr
        · cases hr
          have := newVarV_lo e
          exact Nat.le_of_eq this.symm
      · cases hr
    · rename_i ty n ps hop
      rw [hop] at hs
      simp only [Option.map_eq_some_iff, Prod.mk.injEq] at hs
      obtain ⟨r, hr, e, _, _⟩ := hs
      unfold step at hr
      rw [hop] at hr
      simp only at hr
      split at hr
      · simp only [Option.map_eq_some_iff, Prod.exists] at hr
        obtain ⟨v2, h2, hb, e2⟩ := hr
        rw [e] at e2
        cases e2
        exact Nat.le_of_eq (buildSlice_lo P hb).symm
      · cases hr
    · rename_i c hop
      split at hq
      · rename_i hcal
        rw [hop] at hs
        simp only [hcal, Option.map_eq_some_iff, Prod.mk.injEq] at hs
        obtain ⟨r, hr, e, _, _⟩ := hs
        unfold step at hr
        rw [hop] at hr
        simp only [hcal] at hr
        split at hr
        · have e3 := bltn_len P hr
          rw [e] at e3
          exact Nat.le_of_eq e3.symm
        · cases hr
      · cases hq
    · cases hq

theorem loud_step {X : Ext} {live : Bool} {call : CallT} {f : FuncId} {L : List Tmp} {o : Oper} {t : List V} {h : Heap} {O O' : Orc2} {v : V} {t' : List V} {h' : Heap} {obs : List Ob2} (hq : loudT f o O = true) (hs : stepT P live call f L o t h O = some ((v, t', h'), O', obs)) (hobs : Obs2 P X obs) : h'.lo < h.next := by
  unfold loudT at hq
  unfold stepT at hs
  split at hq
  · rename_i v1 h1 O1 htold
    rw [htold] at hs
    simp only at hs
    (repeat' split at hs) <;> simp only [Option.some.injEq, Prod.mk.injEq, reduceCtorEq] at hs
    obtain ⟨⟨rfl, _, rfl⟩, _, rfl⟩ := hs
    have := hobs _ List.mem_cons_self
    simp only [Ob2.ok] at this
    exact this.2
  · cases hq

def runDrawT (live : Bool) (call : CallT) (f : FuncId) (L : List Tmp) (ops : Array Oper) : List Oper → List Nat → List Foot → St → Orc2 → Option (St × Orc2 × List Ob2)
  | o :: l, m :: ms, fs, s, O0 => match wantedV ops s.t o with
    | some true => match stepT P live call f L o s.t { s.h with lo := s.h.next } O0 with
      | some ((v, t, h), O, obs) =>
        if apartAll m (foot o s.t (keepsH o s.t || quietT f o O0 || !loudT f o O0 && Nat.ble s.h.next h.lo)) 0 fs && !v.isBox then match runDrawT live call f L ops l ms (fs ++ [foot o s.t (keepsH o s.t || quietT f o O0 || !loudT f o O0 && Nat.ble s.h.next h.lo)]) ⟨putV t o.dst v, { h with lo := min s.h.lo h.lo }⟩ O with
          | some (s, O, obs') => some (s, O, obs ++ obs')
          | none => none
        else none
      | none => none
    | some false => if apartAll m .quiet 0 fs then runDrawT live call f L ops l ms (fs ++ [.quiet]) ⟨putV s.t o.dst (.tup []), s.h⟩ O0 else none
    | none => none
  | [], _, _, s, O => some (s, O, [])
  | _, _, _, _, _ => none

def roundsT (body : St → Orc2 → Option (E × St × Orc2 × List Ob2)) : Nat → St → Orc2 → Option (E × St × Orc2 × List Ob2)
  | 0, _, _ => none
  | n + 1, s, O => match body s O with
    | some (.normal, s, O, obs) => match roundsT body n s O with
      | some (e, s, O, obs') => some (e, s, O, obs ++ obs')
      | none => none
    | r => r

def tellsL (f : FuncId) : Orc2 → Option (Nat × List Nat × E × List (Nat × V) × (List V → List V) × Heap × Orc2)
  | (g, 0, .loop N ks e kn J h) :: O => if Nat.beq g f then some (N, ks, e, kn, J, h, O) else none
  | _ => none

/-- A told loop that stands inside of this one. -/
def skipL (f : FuncId) : Orc2 → Orc2
  | (g, d, .loop N ks e kn J h) :: O => if Nat.beq g f && Nat.ble 5000 d then (g, if Nat.beq d 5000 then 0 else d - 1, .loop N ks e kn J h) :: O else (g, d, .loop N ks e kn J h) :: O
  | O => O

def execT (live : Bool) (call : CallT) (f : FuncId) (L : List Tmp) (n : Nat) : Code → St → Orc2 → Option (E × St × Orc2 × List Ob2)
  | .skip, s, O => some (.normal, s, O, [])
  | .region _ ops draw, s, O =>
    if draw then (if drawOk L ops then ((runDrawT P live call f L ops ops.toList (befs ops.toList []) [] s O).map fun (s, O, obs) => (.normal, s, O, obs)) else none)
    else (runT P live call f L ops ops.toList s O).map fun (s, O, obs) => (.normal, s, O, obs)
  | .seq a b, s, O => match execT live call f L n a s O with
    | some (.normal, s, O, obs) => match execT live call f L n b s O with
      | some (e, s, O, obs') => some (e, s, O, obs ++ obs')
      | none => none
    | r => r
  | .cond c a b, s, O => match evV s.t c with
    | some (.bool x) => if x then execT live call f L n a s O else execT live call f L n b s O
    | _ => none
  | .block id c, s, O => match execT live call f L n c s O with
    | some (.exit k, s, O, obs) => if k = id then some (.normal, s, O, obs) else some (.exit k, s, O, obs)
    | r => r
  | .loop c, s, O => match tellsL f O with
    | some (N, ks, e, kn, J, h', O') => if Nat.beq s.t.length N then some (e, ⟨normL N kn (J s.t), h'⟩, O', [.loop n L c N ks (proj ks s.t) s.h e kn J h']) else none
    | none => roundsT (execT live call f L n c) n s (skipL f O)
  | .exit id, s, O => some (.exit id, s, O, [])
  | .ret, s, O => some (.ret, s, O, [])
  | .scope c, s, O => execT live call f L n c s O
  | .label _, s, O => some (.normal, s, O, [])
  | _, _, _ => none

def callT (X : Ext) : Nat → CallT
  | 0 => fun _ _ _ _ => none
  | n + 1 => fun f args h O =>
    match X f with
    | some g => (g args h).map fun (v, h) => (v, h, O, [])
    | none => match P.funcs[f]? with
      | some fn => match fn.body with
        | some c => match execT P (Nat.ble 1 n) (callT X n) f (localsOf c) n c ⟨args ++ List.replicate (fn.ntmps - args.length) (.tup []), h⟩ O with
          | some (.exit _, _, _, _) => none
          | some (_, s, O, obs) => (resultsV P fn s).map (·, s.h, O, obs)
          | none => none
        | none => none
      | none => none

variable {P}

theorem Obs2.left {X : Ext} {a b : List Ob2} (h : Obs2 P X (a ++ b)) : Obs2 P X a := fun x hx => h x (List.mem_append_left _ hx)
theorem Obs2.right {X : Ext} {a b : List Ob2} (h : Obs2 P X (a ++ b)) : Obs2 P X b := fun x hx => h x (List.mem_append_right _ hx)

/-- The run under promises tells of the run. -/
def Tells (P : Program) (X : Ext) (callP : CallF) (call : CallT) : Prop := ∀ f args h O v h' O' obs, call f args h O = some (v, h', O', obs) → Obs2 P X obs → callP f args h = some (v, h')

variable {X : Ext} {live : Bool} {callP : CallF} {call : CallT} (hc : Tells P X callP call) (hl : live = true → ∀ f g, X f = some g → ∀ args h, callP f args h = g args h)
include hc hl

theorem stepT_ok {f : FuncId} {L : List Tmp} {o : Oper} {t : List V} {h : Heap} {O O' : Orc2} {r : R} {obs : List Ob2} (hs : stepT P live call f L o t h O = some (r, O', obs)) (hobs : Obs2 P X obs) : step P callP L o t h = some r := by
  unfold stepT at hs
  split at hs
  · rename_i v O1 htold
    split at hs
    · rename_i op ty x y fl hop
      split at hs
      · rename_i a b ha hb
        split at hs
        · rename_i hmay
          simp only [Option.some.injEq, Prod.mk.injEq] at hs
          obtain ⟨rfl, rfl, rfl⟩ := hs
          have := hobs _ List.mem_cons_self
          simp only [Ob2.ok] at this
          unfold step
          rw [hop]
          simp only [ha, hb, hmay, if_true, this, Option.map_some]
        · cases hs
      · cases hs
    · rename_i ty x lo hi mx hop
      split at hs
      · rename_i a lo' hi' mx' ha hlo hhi hmx
        simp only [Option.some.injEq, Prod.mk.injEq] at hs
        obtain ⟨rfl, rfl, rfl⟩ := hs
        have := hobs _ List.mem_cons_self
        simp only [Ob2.ok] at this
        unfold step
        rw [hop]
        simp only [ha, hlo, hhi, hmx, this, Option.map_some]
      · cases hs
    · rename_i ty x i hop
      split at hs
      · rename_i a i' ha hi
        simp only [Option.some.injEq, Prod.mk.injEq] at hs
        obtain ⟨rfl, rfl, rfl⟩ := hs
        have := hobs _ List.mem_cons_self
        simp only [Ob2.ok] at this
        unfold step
        rw [hop]
        simp only [ha, hi, this, Option.map_some]
      · cases hs
    · rename_i ty x i hop
      split at hs
      · rename_i b off len cap i' ha hi
        simp only [Option.some.injEq, Prod.mk.injEq] at hs
        obtain ⟨rfl, rfl, rfl⟩ := hs
        have := hobs _ List.mem_cons_self
        simp only [Ob2.ok] at this
        unfold step
        rw [hop]
        simp only [ha, hi, this, Option.map_some]
      · cases hs
    · rename_i ty x hop
      split at hs
      · rename_i a ha
        split at hs
        · rename_i l off hrow
          simp only [Option.some.injEq, Prod.mk.injEq] at hs
          obtain ⟨rfl, rfl, rfl⟩ := hs
          have := hobs _ List.mem_cons_self
          simp only [Ob2.ok] at this
          unfold step
          rw [hop]
          simp only [ha, loadV_row P ty t h x a l off hrow, this, Option.map_some]
        · cases hs
      · cases hs
    · rename_i src dst x hop
      split at hs
      · rename_i a ha
        simp only [Option.some.injEq, Prod.mk.injEq] at hs
        obtain ⟨rfl, rfl, rfl⟩ := hs
        have := hobs _ List.mem_cons_self
        simp only [Ob2.ok] at this
        unfold step
        rw [hop]
        simp only [ha, this, Option.map_some]
      · cases hs
    · rename_i c hop
      split at hs
      · rename_i fv hcal
        split at hs
        · rename_i g first captured args hf hargs
          split at hs
          · rename_i hpl
            split at hs
            · rename_i dargs hdig
              simp only [Option.some.injEq, Prod.mk.injEq] at hs
              obtain ⟨rfl, rfl, rfl⟩ := hs
              have := hobs _ List.mem_cons_self
              simp only [Ob2.ok] at this
              obtain ⟨g', hg', hgv⟩ := this
              simp only [Bool.and_eq_true] at hpl
              have := hl hpl.2 g g' hg' (first ++ args ++ captured) h
              unfold step
              rw [hop]
              simp only [hcal, hf, hargs, callV, hpl.1, if_true, this, hgv _ _ hdig, Option.map_some]
            · cases hs
          · cases hs
        · cases hs
      · cases hs
    · cases hs
  · rename_i n e cells O1 htold
    split at hs
    · rename_i c hop
      split at hs
      · rename_i hcal
        split at hs
        · rename_i x y t0 t1 hargs ht0 ht1
          simp only [Option.some.injEq, Prod.mk.injEq] at hs
          obtain ⟨rfl, rfl, rfl⟩ := hs
          have := hobs _ List.mem_cons_self
          simp only [Ob2.ok] at this
          unfold step
          rw [hop]
          simp only [hcal, hargs, bltn, ht0, ht1, this, Option.map_some]
        · cases hs
      · cases hs
    · rename_i src dst x hop
      split at hs
      · rename_i a ha
        simp only [Option.some.injEq, Prod.mk.injEq] at hs
        obtain ⟨rfl, rfl, rfl⟩ := hs
        have := hobs _ List.mem_cons_self
        simp only [Ob2.ok] at this
        unfold step
        rw [hop]
        simp only [ha, this, Option.map_some]
      · cases hs
    · cases hs
  · rename_i b n e cells O1 htold
    split at hs
    · rename_i c hop
      split at hs
      · rename_i hcal
        split at hs
        · rename_i x y t0 t1 hargs ht0 ht1
          simp only [Option.some.injEq, Prod.mk.injEq] at hs
          obtain ⟨rfl, rfl, rfl⟩ := hs
          have := hobs _ List.mem_cons_self
          simp only [Ob2.ok] at this
          unfold step
          rw [hop]
          simp only [hcal, hargs, bltn, ht0, ht1, this, Option.map_some]
        · cases hs
      · cases hs
    · cases hs
  · rename_i v1 h1 O1 htold
    split at hs
    · rename_i c hop
      split at hs
      · rename_i fv hcal
        split at hs
        · rename_i g first captured args hf hargs
          split at hs
          · rename_i hpl
            split at hs
            · rename_i dargs hdig
              simp only [Option.some.injEq, Prod.mk.injEq] at hs
              obtain ⟨rfl, rfl, rfl⟩ := hs
              have := hobs _ List.mem_cons_self
              simp only [Ob2.ok] at this
              obtain ⟨g', hg', hgv⟩ := this
              simp only [Bool.and_eq_true] at hpl
              have := hl hpl.2 g g' hg' (first ++ args ++ captured) h
              unfold step
              rw [hop]
              simp only [hcal, hf, hargs, callV, hpl.1, if_true, this, hgv _ hdig, Option.map_some]
            · cases hs
          · cases hs
        · cases hs
      · cases hs
    · cases hs
  · rename_i v1 h1 O1 htold
    split at hs
    · rename_i c hop
      split at hs
      · rename_i fv hcal
        split at hs
        · rename_i g first captured args hf hargs
          split at hs
          · rename_i hpl
            simp only [Option.some.injEq, Prod.mk.injEq] at hs
            obtain ⟨rfl, rfl, rfl⟩ := hs
            have := hobs _ List.mem_cons_self
            simp only [Ob2.ok] at this
            obtain ⟨g', hg', hgv⟩ := this
            simp only [Bool.and_eq_true] at hpl
            have := hl hpl.2 g g' hg' (first ++ args ++ captured) h
            unfold step
            rw [hop]
            simp only [hcal, hf, hargs, callV, hpl.1, if_true, this, hgv, Option.map_some]
          · cases hs
        · cases hs
      · cases hs
    · cases hs
  · rename_i v1 h1 O1 htold
    split at hs
    · rename_i c hop
      split at hs
      · rename_i fv hcal
        split at hs
        · rename_i g first captured args hf hargs
          split at hs
          · rename_i hpl
            simp only [Option.some.injEq, Prod.mk.injEq] at hs
            obtain ⟨rfl, rfl, rfl⟩ := hs
            have := hobs _ List.mem_cons_self
            simp only [Ob2.ok] at this
            obtain ⟨⟨g', hg', hgv⟩, _⟩ := this
            simp only [Bool.and_eq_true] at hpl
            have := hl hpl.2 g g' hg' (first ++ args ++ captured) h
            unfold step
            rw [hop]
            simp only [hcal, hf, hargs, callV, hpl.1, if_true, this, hgv, Option.map_some]
          · cases hs
        · cases hs
      · cases hs
    · cases hs
  · rename_i q1 v1 h1 O1 htold
    split at hs
    · rename_i c hop
      split at hs
      · rename_i hcal
        split at hs
        · rename_i x y t0 t1 hargs ht0 ht1
          simp only [Option.some.injEq, Prod.mk.injEq] at hs
          obtain ⟨rfl, rfl, rfl⟩ := hs
          have := hobs _ List.mem_cons_self
          simp only [Ob2.ok] at this
          unfold step
          rw [hop]
          simp only [hcal, hargs, bltn, ht0, ht1, this.1, Option.map_some]
        · cases hs
      · cases hs
    · cases hs
  · rename_i v1 O1 htold
    split at hs
    · rename_i ty x lo hi mx hop
      split at hs
      · rename_i a lo' hi' mx' ha hlo hhi hmx
        simp only [Option.some.injEq, Prod.mk.injEq] at hs
        obtain ⟨rfl, rfl, rfl⟩ := hs
        have := hobs _ List.mem_cons_self
        simp only [Ob2.ok] at this
        unfold step
        rw [hop]
        simp only [ha, hlo, hhi, hmx, this, Option.map_some]
      · cases hs
    · cases hs
  · rename_i v1 O1 htold
    split at hs
    · rename_i ty x hop
      split at hs
      · rename_i a ha
        simp only [Option.some.injEq, Prod.mk.injEq] at hs
        obtain ⟨rfl, rfl, rfl⟩ := hs
        have := hobs _ List.mem_cons_self
        simp only [Ob2.ok] at this
        unfold step
        rw [hop]
        simp only [ha, this, Option.map_some]
      · cases hs
    · cases hs
  · rename_i h1 O1 htold
    split at hs
    · rename_i ty x y hop
      split at hs
      · rename_i a v ha hv
        simp only [Option.some.injEq, Prod.mk.injEq] at hs
        obtain ⟨rfl, rfl, rfl⟩ := hs
        have := hobs _ List.mem_cons_self
        simp only [Ob2.ok] at this
        unfold step
        rw [hop]
        simp only [ha, hv, this, Option.map_some]
      · cases hs
    · cases hs
  · rename_i v1 O1 htold
    split at hs
    · rename_i ty x i hop
      split at hs
      · rename_i a i' ha hi
        simp only [Option.some.injEq, Prod.mk.injEq] at hs
        obtain ⟨rfl, rfl, rfl⟩ := hs
        have := hobs _ List.mem_cons_self
        simp only [Ob2.ok] at this
        unfold step
        rw [hop]
        simp only [ha, hi, this, Option.map_some]
      · cases hs
    · cases hs
  · cases hs
  · split at hs
    · rename_i c hop
      split at hs
      · rename_i fv hcal
        split at hs
        · rename_i g first captured args hf hargs
          split at hs
          · rename_i hpl
            split at hs
            · rename_i v h1 O1 obs1 hcall
              simp only [Option.some.injEq, Prod.mk.injEq] at hs
              obtain ⟨rfl, rfl, rfl⟩ := hs
              have := hc _ _ _ _ _ _ _ _ hcall hobs
              unfold step
              rw [hop]
              simp only [hcal, hf, hargs, callV, hpl, if_true, this, Option.map_some]
            · cases hs
          · cases hs
        · cases hs
      · rename_i hne
        simp only [Option.map_eq_some_iff, Prod.mk.injEq] at hs
        obtain ⟨r', hr, rfl, _, _⟩ := hs
        exact step_plain (fun c' fv he => by rw [hop] at he; cases he; exact hne fv) hr
    · rename_i hne
      simp only [Option.map_eq_some_iff, Prod.mk.injEq] at hs
      obtain ⟨r', hr, rfl, _, _⟩ := hs
      exact step_plain (fun c' fv he => absurd he (hne c')) hr

theorem runT_ok {f : FuncId} {L : List Tmp} {ops : Array Oper} : ∀ (l : List Oper) (s s' : St) (O O' : Orc2) (obs : List Ob2), runT P live call f L ops l s O = some (s', O', obs) → Obs2 P X obs → runOps P callP L ops l s = some s'
  | [], s, s', O, O', obs, h, _ => by simp only [runT, Option.some.injEq, Prod.mk.injEq] at h; rw [← h.1]; rfl
  | o :: l, s, s', O, O', obs, h, hobs => by
    simp only [runT] at h
    unfold runOps stepIf
    split at h
    · rename_i hw
      split at h
      · rename_i v t h1 O1 obs1 hst
        split at h
        · rename_i hbx
          split at h
          · rename_i s1 O2 obs2 hrun
            simp only [Option.some.injEq, Prod.mk.injEq] at h
            obtain ⟨rfl, rfl, rfl⟩ := h
            simp only [hw, stepT_ok hc hl hst hobs.left, hbx, if_true]
            exact runT_ok l _ _ _ _ _ hrun hobs.right
          · cases h
        · cases h
      · cases h
    · rename_i hw
      simp only [hw]
      exact runT_ok l _ _ _ _ _ h hobs
    · cases h

theorem runDrawT_ok {f : FuncId} {L : List Tmp} {ops : Array Oper} : ∀ (l : List Oper) (ms : List Nat) (fs : List Foot) (s s' : St) (O O' : Orc2) (obs : List Ob2), runDrawT P live call f L ops l ms fs s O = some (s', O', obs) → Obs2 P X obs → runDraw P callP L ops l ms fs s = some s'
  | [], _, _, s, s', O, O', obs, h, _ => by simp only [runDrawT, Option.some.injEq, Prod.mk.injEq] at h; rw [← h.1]; simp only [runDraw]
  | o :: l, [], _, s, s', O, O', obs, h, _ => by simp [runDrawT] at h
  | o :: l, m :: ms, fs, s, s', O, O', obs, h, hobs => by
    simp only [runDrawT] at h
    unfold runDraw
    split at h
    · rename_i hw
      split at h
      · rename_i v t h1 O1 obs1 hst
        split at h
        · rename_i hap
          split at h
          · rename_i s1 O2 obs2 hrun
            simp only [Option.some.injEq, Prod.mk.injEq] at h
            obtain ⟨rfl, rfl, rfl⟩ := h
            have hs := stepT_ok hc hl hst hobs.left
            have hq : (keepsH o s.t || quietT f o O || !loudT f o O && Nat.ble s.h.next h1.lo) = Nat.ble s.h.next h1.lo := by
              cases hk : keepsH o s.t with
              | false =>
                cases hk2 : quietT f o O with
                | false =>
                  cases hk3 : loudT f o O with
                  | false => simp
                  | true =>
                    have h3 := loud_step P hk3 hst hobs.left
                    have h3 : h1.lo < s.h.next := h3
                    have h4 : Nat.ble s.h.next h1.lo = false := by
                      cases hb : Nat.ble s.h.next h1.lo with
                      | false => rfl
                      | true => exact absurd (Nat.le_of_ble_eq_true hb) (by omega)
                    rw [h4]; rfl
                | true =>
                  rcases quiet_step P hk2 hst hobs.left with h3 | h3
                  · have h3 : s.h.next ≤ h1.lo := h3
                    simp [h3]
                  · have h3 : s.h.next ≤ h1.lo := h3
                    simp [h3]
              | true =>
                have := keeps_step P hk hs
                subst this
                simp
            rw [hq] at hap hrun
            simp only [hw, hs, hap, if_true]
            exact runDrawT_ok l _ _ _ _ _ _ _ hrun hobs.right
          · cases h
        · cases h
      · cases h
    · rename_i hw
      simp only [hw]
      split at h
      · rename_i hap
        simp only [hap, if_true]
        exact runDrawT_ok l _ _ _ _ _ _ _ h hobs
      · cases h
    · cases h

omit hc hl in
theorem roundsT_ok {body : St → Option (E × St)} {bodyO : St → Orc2 → Option (E × St × Orc2 × List Ob2)} (hb : ∀ s O e s' O' obs, bodyO s O = some (e, s', O', obs) → Obs2 P X obs → body s = some (e, s')) :
    ∀ (n : Nat) (s : St) (O : Orc2) (e : E) (s' : St) (O' : Orc2) (obs : List Ob2), roundsT bodyO n s O = some (e, s', O', obs) → Obs2 P X obs → rounds body n s = some (e, s')
  | 0, s, O, e, s', O', obs, h, _ => by simp [roundsT] at h
  | n + 1, s, O, e, s', O', obs, h, hobs => by
    simp only [roundsT] at h
    unfold rounds
    split at h
    · rename_i s1 O1 obs1 h1
      split at h
      · rename_i e2 s2 O2 obs2 h2
        simp only [Option.some.injEq, Prod.mk.injEq] at h
        obtain ⟨rfl, rfl, rfl, rfl⟩ := h
        rw [hb _ _ _ _ _ _ h1 hobs.left]
        exact roundsT_ok hb n _ _ _ _ _ _ h2 hobs.right
      · cases h
    · rename_i hne
      rw [hb _ _ _ _ _ _ h hobs]
      cases e with
      | normal => exact absurd h (hne _ _ _)
      | exit k => rfl
      | ret => rfl

theorem execT_ok {f : FuncId} {L : List Tmp} {n : Nat} (hcall : callP = callN P X n) : ∀ (c : Code) (s s' : St) (e : E) (O O' : Orc2) (obs : List Ob2), execT P live call f L n c s O = some (e, s', O', obs) → Obs2 P X obs → exec P callP L n c s = some (e, s')
  | .skip, s, s', e, O, O', obs, h, _ => by simp only [execT, Option.some.injEq, Prod.mk.injEq] at h; simp only [exec, Option.some.injEq, Prod.mk.injEq]; exact ⟨h.1, h.2.1⟩
  | .exit _, s, s', e, O, O', obs, h, _ => by simp only [execT, Option.some.injEq, Prod.mk.injEq] at h; simp only [exec, Option.some.injEq, Prod.mk.injEq]; exact ⟨h.1, h.2.1⟩
  | .ret, s, s', e, O, O', obs, h, _ => by simp only [execT, Option.some.injEq, Prod.mk.injEq] at h; simp only [exec, Option.some.injEq, Prod.mk.injEq]; exact ⟨h.1, h.2.1⟩
  | .region _ ops draw, s, s', e, O, O', obs, h, hobs => by
    simp only [execT] at h
    simp only [exec]
    split at h
    · rename_i hd
      rw [if_pos hd]
      split at h
      · rename_i hk
        rw [if_pos hk]
        simp only [Option.map_eq_some_iff, Prod.mk.injEq, Prod.exists] at h ⊢
        obtain ⟨s1, O1, obs1, h1, h2, h3, h4, h5⟩ := h
        exact ⟨s1, runDrawT_ok hc hl _ _ _ _ _ _ _ _ h1 (h5 ▸ hobs), h2, h3⟩
      · cases h
    · rename_i hd
      rw [if_neg hd]
      simp only [Option.map_eq_some_iff, Prod.mk.injEq, Prod.exists] at h ⊢
      obtain ⟨s1, O1, obs1, h1, h2, h3, h4, h5⟩ := h
      exact ⟨s1, runT_ok hc hl _ _ _ _ _ _ h1 (h5 ▸ hobs), h2, h3⟩
  | .seq a b, s, s', e, O, O', obs, h, hobs => by
    simp only [execT] at h
    simp only [exec]
    split at h
    · rename_i s1 O1 obs1 h1
      split at h
      · rename_i e2 s2 O2 obs2 h2
        simp only [Option.some.injEq, Prod.mk.injEq] at h
        obtain ⟨rfl, rfl, rfl, rfl⟩ := h
        rw [execT_ok hcall a _ _ _ _ _ _ h1 hobs.left]
        exact execT_ok hcall b _ _ _ _ _ _ h2 hobs.right
      · cases h
    · rename_i hne
      rw [execT_ok hcall a _ _ _ _ _ _ h hobs]
      cases e with
      | normal => exact absurd h (hne _ _ _)
      | exit k => rfl
      | ret => rfl
  | .cond c a b, s, s', e, O, O', obs, h, hobs => by
    simp only [execT] at h
    simp only [exec]
    split at h
    · rename_i x hx
      simp only [hx]
      split at h
      · rename_i hxt
        rw [if_pos hxt]
        exact execT_ok hcall a _ _ _ _ _ _ h hobs
      · rename_i hxt
        rw [if_neg hxt]
        exact execT_ok hcall b _ _ _ _ _ _ h hobs
    · cases h
  | .block id c, s, s', e, O, O', obs, h, hobs => by
    simp only [execT] at h
    simp only [exec]
    split at h
    · rename_i k s1 O1 obs1 h1
      split at h
      · rename_i hk
        simp only [Option.some.injEq, Prod.mk.injEq] at h
        obtain ⟨rfl, rfl, rfl, rfl⟩ := h
        rw [execT_ok hcall c _ _ _ _ _ _ h1 hobs]
        simp only [hk, if_true]
      · rename_i hk
        simp only [Option.some.injEq, Prod.mk.injEq] at h
        obtain ⟨rfl, rfl, rfl, rfl⟩ := h
        rw [execT_ok hcall c _ _ _ _ _ _ h1 hobs]
        simp only [hk, if_false]
    · rename_i hne
      rw [execT_ok hcall c _ _ _ _ _ _ h hobs]
      cases e with
      | normal => rfl
      | exit k => exact absurd h (hne _ _ _ _)
      | ret => rfl
  | .loop c, s, s', e, O, O', obs, h, hobs => by
    simp only [execT] at h
    simp only [exec]
    split at h
    · rename_i N ks e1 kn J h1 O1 htl
      split at h
      · rename_i hN
        simp only [Option.some.injEq, Prod.mk.injEq] at h
        obtain ⟨rfl, rfl, rfl, rfl⟩ := h
        have := hobs _ List.mem_cons_self
        simp only [Ob2.ok] at this
        have h2 := this s.t (Nat.eq_of_beq_eq_true hN) rfl
        rw [hcall]
        exact h2
      · cases h
    exact roundsT_ok (fun s O e s' O' obs h hobs => execT_ok hcall c s s' e O O' obs h hobs) n _ _ _ _ _ _ h hobs
  | .rangeFunc _ _ _ _, s, s', e, O, O', obs, h, hobs => by simp [execT] at h
  | .scope c, s, s', e, O, O', obs, h, hobs => by
    simp only [execT] at h
    simp only [exec]
    exact execT_ok hcall c s s' e O O' obs h hobs
  | .label _, s, s', e, O, O', obs, h, hobs => by
    simp only [execT, Option.some.injEq, Prod.mk.injEq] at h
    simp only [exec]
    obtain ⟨rfl, rfl, rfl, rfl⟩ := h
    rfl
  | .goto _, s, s', e, O, O', obs, h, hobs => by simp [execT] at h
  | .refuse _, s, s', e, O, O', obs, h, hobs => by simp [execT] at h

omit hc hl in
theorem live_ok (n : Nat) (h : Nat.ble 1 n = true) (f : FuncId) (g : List V → Heap → Option (V × Heap)) (hg : X f = some g) (args : List V) (h' : Heap) : callN P X n f args h' = g args h' := by
  cases n with
  | zero => cases h
  | succ n => simp only [callN, hg]

omit hc hl in
theorem callT_ok (X : Ext) : ∀ n, Tells P X (callN P X n) (callT P X n)
  | 0 => by intro f args h O v h' O' obs hc; cases hc
  | n + 1 => by
    intro f args h O v h' O' obs hc hobs
    simp only [callT] at hc
    simp only [callN]
    split at hc
    · rename_i g hg
      simp only [Option.map_eq_some_iff, Prod.mk.injEq, Prod.exists] at hc
      obtain ⟨v1, h1, hg1, rfl, rfl, _, _⟩ := hc
      simp only [hg]
      exact hg1
    · rename_i hX
      simp only [hX]
      split at hc
      · rename_i fn hfn
        split at hc
        · rename_i c hb
          split at hc
          · cases hc
          · rename_i e s O1 obs1 hne hex
            simp only [Option.map_eq_some_iff, Prod.mk.injEq] at hc
            obtain ⟨u, hu, rfl, rfl, rfl, rfl⟩ := hc
            have := execT_ok (callT_ok X n) (live_ok n) rfl _ _ _ _ _ _ _ hex hobs
            simp only [hfn, hb, this]
            cases e with
            | normal => simp [hu]
            | ret => simp [hu]
            | exit k => exact absurd rfl (hne k)
          · cases hc
        · cases hc
      · cases hc

/-- What we ask of a run: its value, and what is promised. -/
def tellRun (P : Program) (X : Ext) (n : Nat) (f : FuncId) (args : List V) (O : Orc2) : Option (V × List Ob2) :=
  (callT P X n f args ⟨0, 0, .leaf⟩ O).map fun r => (r.1, r.2.2.2)

omit hc hl in
theorem run_of_tell {X : Ext} {n : Nat} {f : FuncId} {args : List V} {O : Orc2} {v : V} {obs : List Ob2} (h : tellRun P X n f args O = some (v, obs)) (hobs : Obs2 P X obs) : ∃ h', callN P X n f args ⟨0, 0, .leaf⟩ = some (v, h') := by
  simp only [tellRun, Option.map_eq_some_iff, Prod.mk.injEq, Prod.exists] at h
  obtain ⟨v1, h1, O1, obs1, hc, rfl, rfl⟩ := h
  exact ⟨h1, callT_ok X n _ _ _ _ _ _ _ _ hc hobs⟩

/-- The same, from any memory. -/
def tellFrom (P : Program) (X : Ext) (n : Nat) (f : FuncId) (args : List V) (h : Heap) (O : Orc2) : Option (V × List Ob2) :=
  (callT P X n f args h O).map fun r => (r.1, r.2.2.2)

omit hc hl in
theorem run_of_from {X : Ext} {n : Nat} {f : FuncId} {args : List V} {h : Heap} {O : Orc2} {v : V} {obs : List Ob2} (ht : tellFrom P X n f args h O = some (v, obs)) (hobs : Obs2 P X obs) : ∃ h', callN P X n f args h = some (v, h') := by
  simp only [tellFrom, Option.map_eq_some_iff, Prod.mk.injEq, Prod.exists] at ht
  obtain ⟨v1, h1, O1, obs1, hc, rfl, rfl⟩ := ht
  exact ⟨h1, callT_ok X n _ _ _ _ _ _ _ _ hc hobs⟩

omit hc hl in
theorem obs2_nil : Obs2 P X [] := fun x hx => by cases hx
omit hc hl in
theorem obs2_cons {x : Ob2} {l : List Ob2} (h : x.ok P X) (hl : Obs2 P X l) : Obs2 P X (x :: l) := fun y hy => by
  rcases List.mem_cons.1 hy with rfl | hy
  · exact h
  · exact hl y hy

end
end Go.AM
