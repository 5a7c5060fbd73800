/-
  A machine of its own for the translated program: values and memory without order, capacity or address, run by a function ('callN'). What it tells is carried over to the model in AmSound.
-/
import GoSem.Dispatch
import Derived.Orders
set_option linter.unusedSimpArgs false
set_option linter.unusedVariables false
namespace Go.AM

abbrev Id := Nat

/-- Values. 'box' and 'lref' stand in temporaries alone: a variable that nobody else can reach, and a place inside one; 'junk': nothing is known. -/
inductive V where
  | bool (b : Bool)
  | int (k : IntKind) (n : Int)
  | str (l : List UInt8)
  | ptr (b : Id) (off : Nat)
  | nilptr
  | slice (b : Id) (off len : Nat) (cap : Option Nat)
  | nilslice
  | map (b : Id)
  | nilmap
  | func (fn : Fn) (first captured : List V)
  | nilfunc
  | iface (t : TypeId) (v : V)
  | niliface
  | agg (l : List V)
  | tup (l : List V)
  | box (l : List V)
  | lref (d : Tmp) (off : Nat)
  | junk
  deriving Inhabited

/-- What a block holds: a row of cells (may it be written? of what type?), a map, nothing any more. -/
inductive Obj where
  | cells (ro : Bool) (ty : TypeId) (l : List V)
  | map (l : List (V × V))
  | dead
  deriving Inhabited

/-- A tree with a number's digits as its ways. -/
inductive Tr where
  | leaf
  | node (l : Tr) (v : Option Obj) (r : Tr)
  deriving Inhabited

def Tr.get : Tr → Nat → Option Obj
  | .leaf, _ => none
  | .node l v r, n => match n with
    | 0 => v
    | m + 1 => match m % 2 with
      | 0 => l.get (m / 2)
      | _ => r.get (m / 2)

def Tr.setF : Nat → Tr → Nat → Obj → Tr
  | 0, t, _, _ => t
  | f + 1, .leaf, n, x => match n with
    | 0 => .node .leaf (some x) .leaf
    | m + 1 => match m % 2 with
      | 0 => .node (Tr.setF f .leaf (m / 2) x) none .leaf
      | _ => .node .leaf none (Tr.setF f .leaf (m / 2) x)
  | f + 1, .node l v r, n, x => match n with
    | 0 => .node l (some x) r
    | m + 1 => match m % 2 with
      | 0 => .node (Tr.setF f l (m / 2) x) v r
      | _ => .node l v (Tr.setF f r (m / 2) x)

def Tr.set (t : Tr) (n : Nat) (x : Obj) : Tr := Tr.setF (n + 1) t n x

/-- Memory: the next block's number; the lowest number that was written since somebody asked; the blocks. -/
structure Heap where
  next : Nat
  lo : Nat
  t : Tr
  deriving Inhabited

def Heap.get (h : Heap) (b : Id) : Option Obj := if b < h.next then h.t.get b else none
def Heap.alloc (h : Heap) (x : Obj) : Heap := { next := h.next + 1, lo := h.lo, t := h.t.set h.next x }
def Heap.set (h : Heap) (b : Id) (x : Obj) : Heap := { next := h.next, lo := min h.lo b, t := h.t.set b x }

structure St where
  t : List V
  h : Heap
  deriving Inhabited

inductive E where
  | normal
  | exit (id : Nat)
  | ret
  deriving DecidableEq, Inhabited

/-! ### Constants -/

def isCell : Value → Bool
  | .agg _ | .tuple _ => false
  | _ => true

mutual
def ofVal : Value → Option V
  | .bool b => some (.bool b)
  | .int k n => some (.int k n)
  | .string s => some (.str s.data.toList)
  | .pointer none => some .nilptr
  | .slice none 0 0 => some .nilslice
  | .map none => some .nilmap
  | .nilFunc => some .nilfunc
  | .nilIface => some .niliface
  | .func fn ⟨[]⟩ ⟨[]⟩ => some (.func fn [] [])
  | .iface t v => (ofVal v).map (.iface t)
  | .agg ⟨l⟩ => if l.all isCell then (ofVals l).map .agg else none
  | .tuple ⟨l⟩ => (ofVals l).map .tup
  | _ => none
def ofVals : List Value → Option (List V)
  | [] => some []
  | v :: l => match ofVal v, ofVals l with
    | some v, some l => some (v :: l)
    | _, _ => none
end

def V.isVal : V → Bool
  | .box _ | .lref _ _ | .junk => false
  | _ => true

def ev (t : List V) : Operand → Option V
  | .tmp i => some (t.getD i (.tup []))
  | .const v => ofVal v
  | .global _ => none
  | .func f => some (.func (.func f) [] [])

/-- An operand's value, where it may go anywhere. -/
def evV (t : List V) (x : Operand) : Option V :=
  match ev t x with
  | some v => if v.isVal then some v else none
  | none => none

def evVs (t : List V) : List Operand → Option (List V)
  | [] => some []
  | x :: l => match evV t x, evVs t l with
    | some v, some vs => some (v :: vs)
    | _, _ => none

def evParts (t : List V) : List (Nat × Operand) → Option (List (Nat × V))
  | [] => some []
  | (i, x) :: l => match evV t x, evParts t l with
    | some v, some vs => some ((i, v) :: vs)
    | _, _ => none

def evO (t : List V) : Option Operand → Option (Option V)
  | none => some none
  | some x => (evV t x).map some

def V.isBox : V → Bool
  | .box _ => true
  | _ => false

def V.isTup : V → Bool
  | .tup _ => true
  | _ => false

def V.cells : V → List V
  | .agg l => l
  | v => [v]

/-! ### Types -/
section
variable (P : Program)

def szOf (t : TypeId) : Option Nat := (P.info? t).map (·.size)
def isAggT (t : TypeId) : Option Bool := (P.underlying t).map fun | .struct _ | .array _ _ => true | _ => false
def zeroOf (t : TypeId) : Option V := ((P.info? t).bind (·.zero)).bind ofVal

/-! ### Numbers -/
end

def loK : IntKind → Int
  | .i8 => -128 | .i16 => -32768 | .i32 => -2147483648 | .i64 => -9223372036854775808
  | .u8 | .u16 | .u32 | .u64 => 0
def hiK : IntKind → Int
  | .i8 => 127 | .i16 => 32767 | .i32 => 2147483647 | .i64 => 9223372036854775807
  | .u8 => 255 | .u16 => 65535 | .u32 => 4294967295 | .u64 => 18446744073709551615

def wr (k : IntKind) (n : Int) : Int := if loK k ≤ n ∧ n ≤ hiK k then n else k.wrap n

def bitsOp (op : BinOp) (k : IntKind) (x y : Int) : Option V :=
  let a := BitVec.ofInt k.bits x
  let b := BitVec.ofInt k.bits y
  match op with
  | .and => some (.int k (wr k (a &&& b).toNat))
  | .or => some (.int k (wr k (a ||| b).toNat))
  | .xor => some (.int k (wr k (a ^^^ b).toNat))
  | .andNot => some (.int k (wr k (a &&& ~~~b).toNat))
  | _ => none

def cmpOp (op : BinOp) (x y : Int) : Option V :=
  match op with
  | .eql => some (.bool (x == y))
  | .neq => some (.bool (x != y))
  | .lss => some (.bool (decide (x < y)))
  | .leq => some (.bool (decide (x ≤ y)))
  | .gtr => some (.bool (decide (x > y)))
  | .geq => some (.bool (decide (x ≥ y)))
  | _ => none

def intOp (op : BinOp) (k : IntKind) (x y : Int) : Option V :=
  match op with
  | .add => some (.int k (wr k (x + y)))
  | .sub => some (.int k (wr k (x - y)))
  | .mul => some (.int k (wr k (x * y)))
  | .quo => if y = 0 then none else some (.int k (wr k (x.tdiv y)))
  | .rem => if y = 0 then none else some (.int k (x.tmod y))
  | .and | .or | .xor | .andNot => bitsOp op k x y
  | .shl | .shr => none
  | _ => cmpOp op x y

def shiftOp (op : BinOp) (k : IntKind) (x y : Int) : Option V :=
  if y < 0 then none
  else
    let n := min y.toNat k.bits
    match op with
    | .shl => some (.int k (wr k (x * (2 ^ n : Nat))))
    | .shr => some (.int k (x.fdiv (2 ^ n : Nat)))
    | _ => none

/-- How long anything may get. -/
def room : Nat := 140737488351232

def strOp (op : BinOp) (x y : List UInt8) : Option V :=
  match op with
  | .add => if x.length + y.length ≤ room then some (.str (x ++ y)) else none
  | .eql => some (.bool (x == y))
  | .neq => some (.bool (!(x == y)))
  | .lss => some (.bool (Op.bytesLess x y))
  | .leq => some (.bool (Op.bytesLess x y || x == y))
  | .gtr => some (.bool (!(Op.bytesLess x y || x == y)))
  | .geq => some (.bool (!Op.bytesLess x y))
  | _ => none

section
variable (P : Program)

/-- A part of a row of cells. -/
def part (t : TypeId) (cs : List V) (off : Nat) : Option V :=
  match isAggT P t with
  | some true => match szOf P t with
    | some n => if off + n ≤ cs.length then some (.agg ((cs.drop off).take n)) else none
    | none => none
  | some false => cs[off]?
  | none => none

def eqFields (eq : TypeId → V → V → Option Bool) : List Field → List V → List V → Option Bool
  | [], _, _ => some true
  | f :: fs, xs, ys =>
    if f.name = "_" then eqFields eq fs xs ys
    else match part P f.type xs f.offset, part P f.type ys f.offset with
      | some a, some b => match eq f.type a b with
        | some true => eqFields eq fs xs ys
        | r => r
      | _, _ => none
/-- '==' by the type's own shape. -/
def eqV : Nat → TypeId → V → V → Option Bool
  | 0, _, _, _ => none
  | d + 1, t, x, y =>
    match P.underlying t, x, y with
    | some .bool, .bool a, .bool b => some (a == b)
    | some (.int _), .int k a, .int k' b => if k = k' then some (a == b) else none
    | some .string, .str a, .str b => some (a == b)
    | some (.pointer _), .nilptr, .nilptr => some true
    | some (.pointer _), .nilptr, .ptr _ _ => some false
    | some (.pointer _), .ptr _ _, .nilptr => some false
    | some (.interface _), .niliface, .niliface => some true
    | some (.interface _), .niliface, .iface _ _ => some false
    | some (.interface _), .iface _ _, .niliface => some false
    | some (.slice _), .nilslice, .nilslice => some true
    | some (.slice _), .nilslice, .slice _ _ _ _ => some false
    | some (.slice _), .slice _ _ _ _, .nilslice => some false
    | some (.map _ _), .nilmap, .nilmap => some true
    | some (.map _ _), .nilmap, .map _ => some false
    | some (.map _ _), .map _, .nilmap => some false
    | some (.func _ _ _), .nilfunc, .nilfunc => some true
    | some (.func _ _ _), .nilfunc, .func _ _ _ => some false
    | some (.func _ _ _), .func _ _ _, .nilfunc => some false
    | some (.struct fs), .agg xs, .agg ys => if P.stoodInHeld t then none else eqFields P (eqV d) fs.toList xs ys
    | _, _, _ => none

/-- What the model asks ahead of '==' and '!='. -/
def eqMay (op : BinOp) (t : TypeId) (x y : Operand) (a b : V) : Bool :=
  match op with
  | .eql | .neq => match a, b with
    | .niliface, .niliface => match x, y with
      | .const _, _ => true
      | _, .const _ => true
      | _, _ => false
    | .agg _, .agg _ => !P.eqGuardType P.depth t
    | _, _ => true
  | _ => true

def binV (op : BinOp) (t : TypeId) (a b : V) : Option V :=
  match a, b with
  | .int k x, .int k' y => match op with
    | .shl | .shr => shiftOp op k x y
    | _ => if k = k' then intOp op k x y else none
  | .str x, .str y => strOp op x y
  | a, b => match op with
    | .eql => (eqV P 10000 t a b).map .bool
    | .neq => (eqV P 10000 t a b).map fun r => .bool (!r)
    | _ => none

def unV (op : UnOp) (a : V) : Option V :=
  match op, a with
  | .neg, .int k n => some (.int k (wr k (0 - n)))
  | .xor, .int k n => bitsOp .xor k (if k.signed then -1 else k.max) n
  | .not, .bool b => some (.bool !b)
  | _, _ => none

/-! ### Memory -/

def loadRow (l : List V) (off n : Nat) : Option (List V) := if off + n ≤ l.length then some ((l.drop off).take n) else none
def storeRow (l : List V) (off : Nat) (vs : List V) : Option (List V) := if off + vs.length ≤ l.length then some (l.take off ++ vs ++ l.drop (off + vs.length)) else none

def Heap.row (h : Heap) (b : Id) : Option (List V) := match h.get b with | some (.cells _ _ l) => some l | _ => none

def Heap.write (h : Heap) (b : Id) (off : Nat) (vs : List V) : Option Heap :=
  match h.get b with
  | some (.cells false ty l) => (storeRow l off vs).map fun l => h.set b (.cells false ty l)
  | _ => none

/-- Which temporary holds the private variable: the operand's own, or the one that it names; and the place in it. -/
def boxSlot : Operand → V → Option (Tmp × Nat)
  | .tmp d, .box _ => some (d, 0)
  | _, .lref d off => some (d, off)
  | _, _ => none

/-- The row that an address lies in, and its place there. -/
def rowAt (t : List V) (h : Heap) (x : Operand) (a : V) : Option (List V × Nat) :=
  match a with
  | .ptr b off => (h.row b).map (·, off)
  | a => match boxSlot x a with
    | some (d, off) => match t[d]? with
      | some (.box l) => some (l, off)
      | _ => none
    | none => none

def loadV (ty : TypeId) (t : List V) (h : Heap) (x : Operand) (a : V) : Option V :=
  match rowAt t h x a with
  | some (l, off) => match isAggT P ty with
    | some true => match szOf P ty with
      | some n => (loadRow l off n).map .agg
      | none => none
    | some false => l[off]?
    | none => none
  | none => none

def storeV (ty : TypeId) (t : List V) (h : Heap) (x : Operand) (a : V) (v : V) : Option (List V × Heap) :=
  if szOf P ty = some v.cells.length ∧ v.isTup = false then
    match a with
    | .ptr b off => (h.write b off v.cells).map (t, ·)
    | a => match boxSlot x a with
      | some (d, off) => match t[d]? with
        | some (.box l) => (storeRow l off v.cells).map fun l => (t.set d (.box l), h)
        | _ => none
      | none => none
  else none

def scrub (d : Tmp) : V → V
  | .lref d' off => if d' = d then .junk else .lref d' off
  | v => v

/-- A new variable: a private one where the temporary is among L. -/
def newVarV (L : List Tmp) (dst : Option Tmp) (ty : TypeId) (cells : List V) (t : List V) (h : Heap) : V × List V × Heap :=
  match dst with
  | some d => if L.contains d then (.box cells, t.map (scrub d), h) else (.ptr h.next 0, t, h.alloc (.cells false ty cells))
  | none => (.ptr h.next 0, t, h.alloc (.cells false ty cells))

def fillV (place : Nat → Option (Nat × Nat)) (cells : List V) : List (Nat × V) → Option (List V)
  | [] => some cells
  | (i, v) :: rest => match place i with
    | none => none
    | some (off, size) => if v.cells.length = size ∧ v.isTup = false then match storeRow cells off v.cells with
        | some cells => fillV place cells rest
        | none => none
      else none

def placesV : List Field → Option (List (Nat × Nat))
  | [] => some []
  | f :: fs => match szOf P f.type, placesV fs with
    | some n, some l => some ((f.offset, n) :: l)
    | _, _ => none

def buildV (t : TypeId) (parts : List (Nat × V)) : Option V :=
  match zeroOf P t with
  | none => none
  | some z => match P.underlying t with
    | some (.struct fields) => match placesV P fields.toList with
      | some pl => if z.isTup then none else (fillV (fun i => pl[i]?) z.cells parts).map .agg
      | none => none
    | some (.array _ e) => match szOf P e with
      | some n => if z.isTup then none else (fillV (fun i => some (i * n, n)) z.cells parts).map .agg
      | none => none
    | _ => none

def rep (n : Nat) (l : List V) : List V := match n with | 0 => [] | n + 1 => l ++ rep n l

def fieldOff (s : TypeId) (f : Nat) : Option Nat :=
  match P.underlying s with
  | some (.struct fields) => match fields[f]? with
    | some fl => match szOf P fl.type with
      | some (_ + 1) => some fl.offset
      | _ => none
    | none => none
  | _ => none

/-- An address, further on. -/
def addrAdd (t : List V) (x : Operand) (a : V) (n : Nat) : Option V :=
  match a with
  | .ptr b off => some (.ptr b (off + n))
  | a => match boxSlot x a with
    | some (d, off) => match t[d]? with
      | some (.box _) => some (.lref d (off + n))
      | _ => none
    | none => none

def indexAddrV (ts : List V) (t : TypeId) (x : Operand) (a : V) (i : V) : Option V :=
  match i with
  | .int _ i => match P.underlying t with
    | some (.array n e) => match szOf P e with
      | some s => if 0 ≤ i ∧ i < n then addrAdd ts x a (i.toNat * s) else none
      | none => none
    | some (.slice e) => match szOf P e, a with
      | some s, .slice b off len _ => if 0 ≤ i ∧ i < len then some (.ptr b (off + i.toNat * s)) else none
      | _, _ => none
    | _ => none
  | _ => none

def indexV (t : TypeId) (a : V) (i : V) : Option V :=
  match i with
  | .int _ i => match P.underlying t, a with
    | some (.array n e), .agg cs => match szOf P e with
      | some s => if 0 ≤ i ∧ i < n then part P e cs (i.toNat * s) else none
      | none => none
    | some .string, .str l => if 0 ≤ i then match l[i.toNat]? with
        | some c => some (.int .u8 c.toNat)
        | none => none
      else none
    | _, _ => none
  | _ => none

def bound (x : Option V) (d top : Nat) : Option Nat :=
  match x with
  | none => some d
  | some (.int _ i) => if 0 ≤ i ∧ i ≤ top then some i.toNat else none
  | some _ => none

/-- Low, high and max of a slice expression. -/
def bounds (len top : Nat) (lo hi mx : Option V) : Option (Nat × Nat × Nat) :=
  match hi, mx with
  | none, some _ => none
  | _, _ => match bound mx top top with
    | none => none
    | some m => match bound hi len m with
      | none => none
      | some b => match bound lo 0 b with
        | none => none
        | some a => some (a, b, m)

def sliceV (t : TypeId) (h : Heap) (x : V) (lo hi mx : Option V) : Option V :=
  match P.underlying t, x with
  | some .string, .str l => match mx with
    | some _ => none
    | none => match bounds l.length l.length lo hi none with
      | some (a, b, _) => some (.str ((l.take b).drop a))
      | none => none
  | some (.slice e), .nilslice => match szOf P e, bounds 0 0 lo hi mx with
    | some _, some _ => some .nilslice
    | _, _ => none
  | some (.slice e), .slice b off len cap => match szOf P e with
    | some (s + 1) => match cap with
      | some k => match bounds len k lo hi mx with
        | some (a, b', m) => some (.slice b (off + a * (s + 1)) (b' - a) (some (m - a)))
        | none => none
      | none => match h.get b with
        | some (.cells _ ty row) => if szOf P ty = some (s + 1) then match bounds len (max len ((row.length - off) / (s + 1))) lo hi mx with
          | some (a, b', m) => some (.slice b (off + a * (s + 1)) (b' - a) (match mx with | some _ => some (m - a) | none => none))
          | none => none
          else none
        | _ => none
    | _ => none
  | some (.array n e), .ptr b off => match szOf P e with
    | some (s + 1) => match bounds n n lo hi mx with
      | some (a, b', m) => some (.slice b (off + a * (s + 1)) (b' - a) (some (m - a)))
      | none => none
    | _ => none
  | _, _ => none

def lenV (t : TypeId) (h : Heap) (x : V) : Option Int :=
  match P.underlying t, x with
  | some .string, .str l => some l.length
  | some (.array n _), _ => some n
  | some (.slice _), .slice _ _ n _ => some n
  | some (.slice _), .nilslice => some 0
  | some (.map _ _), .nilmap => some 0
  | _, _ => none

/-- What is put behind: how many elements, and their cells. -/
def cellsOfV (s : Nat) (h : Heap) : V → Option (Nat × List V)
  | .nilslice => some (0, [])
  | .slice b off len _ => match h.row b with
    | some row => (loadRow row off (len * s)).map (len, ·)
    | none => none
  | .str l => if s = 1 then some (l.length, l.map fun c => .int .u8 c.toNat) else none
  | _ => none

/-- The zero value's cells are as many as the type's. -/
def zok (i : TypeInfo) : Bool := match i.zero with
  | some z => z.cells.size == i.size
  | none => false

def srcOk : TypeDesc → Bool
  | .string | .slice _ => true
  | _ => false

def appendS (t0 t1 : TypeId) (h : Heap) (x y : V) : Option (V × Heap) :=
  match P.underlying t0 with
  | some (.slice e) => match P.info? e, P.underlying t1 with
    | some info, some u1 =>
      let s := info.size
      if s = 0 ∨ zok info = false ∨ srcOk u1 = false then none else
      match cellsOfV s h y with
        | none => none
        | some (m, new) =>
          match x with
          | .nilslice => if m = 0 then some (.nilslice, h) else
            if m * info.bytes ≤ room ∧ m ≤ room then some (.slice h.next 0 m none, h.alloc (.cells false e new)) else none
          | .slice b off len cap => match h.get b with
            | some (.cells ro ty row) =>
              if (len + m) * info.bytes ≤ room ∧ len + m ≤ room then
                match cap with
                | some k =>
                  if len + m ≤ k then
                    if m = 0 then some (.slice b off len (some k), h) else
                    match h.write b (off + len * s) new with
                    | some h => some (.slice b off (len + m) (some k), h)
                    | none => none
                  else match loadRow row off (len * s) with
                    | some old => some (.slice h.next 0 (len + m) none, h.alloc (.cells false e (old ++ new)))
                    | none => none
                | none =>
                  if m = 0 then some (.slice b off len none, h) else
                  if szOf P ty ≠ some s then none else
                  if off + (len + m) * s ≤ row.length then
                    match h.write b (off + len * s) new with
                    | some h => some (.slice b off (len + m) none, h)
                    | none => none
                  else if off + len * s = row.length ∧ ro = false ∧ off = 0 ∧ e = ty then
                    some (.slice h.next 0 (len + m) none, (h.set b .dead).alloc (.cells false e (row.drop off ++ new)))
                  else none
              else none
            | _ => none
          | _ => none
    | _, _ => none
  | _ => none

/-- make's zero elements behind a nil slice. -/
def appendZ (t0 t1 : TypeId) (h : Heap) (x : V) (n : Int) : Option (V × Heap) :=
  match x, P.underlying t0, P.underlying t1 with
  | .nilslice, some (.slice e), some (.int _) => match P.info? e, zeroOf P e with
    | some info, some z => if 0 < n ∧ n.toNat * info.bytes ≤ room ∧ n ≤ room ∧ 0 < info.size ∧ z.cells.length = info.size ∧ z.isTup = false then some (.slice h.next 0 n.toNat none, h.alloc (.cells false e (rep n.toNat z.cells))) else none
    | _, _ => none
  | _, _, _ => none

def appendV (t0 t1 : TypeId) (h : Heap) (x y : V) : Option (V × Heap) :=
  if Nat.blt t0 P.types.size then
    match y with
    | .int _ n => appendZ P t0 t1 h x n
    | y => appendS P t0 t1 h x y
  else none

def copyV (t0 : TypeId) (h : Heap) (x y : V) : Option (Int × Heap) :=
  match P.underlying t0 with
  | some (.slice e) => match szOf P e with
    | some (s + 1) => match cellsOfV (s + 1) h y with
      | none => none
      | some (m, cells) => match x with
        | .nilslice => some (0, h)
        | .slice b off len _ =>
          if min m len = 0 then some (0, h) else
          (h.write b off (cells.take (min m len * (s + 1)))).map (((min m len : Nat) : Int), ·)
        | _ => none
    | _ => none
  | _ => none

def bytesOf : List V → Option (List UInt8)
  | [] => some []
  | .int .u8 n :: l => (bytesOf l).map (UInt8.ofNat n.toNat :: ·)
  | _ => none

def convV (src dst : TypeId) (h : Heap) (x : V) : Option (V × Heap) :=
  match P.underlying src, P.underlying dst, x with
  | some _, some (.int k), .int _ n => some (.int k (wr k n), h)
  | some _, some .string, .str l => some (.str l, h)
  | some _, some (.slice e), .str l => match P.underlying e with
    | some (.int .u8) => if l.length ≤ room ∧ szOf P e = some 1 then some (.slice h.next 0 l.length none, h.alloc (.cells false e (l.map fun c => .int .u8 c.toNat))) else none
    | _ => none
  | some (.slice e), some .string, x => match P.underlying e, x with
    | some (.int .u8), .nilslice => some (.str [], h)
    | some (.int .u8), .slice b off len _ => match h.row b with
      | some row => match loadRow row off len with
        | some cs => (bytesOf cs).map fun l => (.str l, h)
        | none => none
      | none => none
    | _, _ => none
  | _, _, _ => none

def makeSliceU (t : TypeId) (h : Heap) (len cap : V) : Option (V × Heap) :=
  match P.underlying t, len, cap with
  | some (.slice e), .int _ l, .int _ c => match P.info? e, zeroOf P e with
    | some info, some z =>
      if 0 ≤ l ∧ l ≤ c ∧ c.toNat * info.bytes ≤ room ∧ c ≤ room ∧ 0 < info.size ∧ z.cells.length = info.size ∧ z.isTup = false then
        some (.slice h.next 0 l.toNat (some c.toNat), h.alloc (.cells false e (rep c.toNat z.cells)))
      else none
    | _, _ => none
  | _, _, _ => none

def makeSliceV (t : TypeId) (h : Heap) (len cap : V) : Option (V × Heap) := if Nat.blt t P.types.size then makeSliceU P t h len cap else none

def buildSliceU (t : TypeId) (len : Nat) (parts : List (Nat × V)) (h : Heap) : Option (V × Heap) :=
  match P.underlying t with
  | some (.slice e) => match szOf P e, zeroOf P e with
    | some s, some z =>
      if 0 < s ∧ len * s ≤ 16777216 ∧ z.cells.length = s ∧ z.isTup = false then
        match fillV (fun i => some (i * s, s)) (rep len z.cells) parts with
        | some cells => some (.slice h.next 0 len (some len), h.alloc (.cells false e cells))
        | none => none
      else none
    | _, _ => none
  | _ => none

def buildSliceV (t : TypeId) (len : Nat) (parts : List (Nat × V)) (h : Heap) : Option (V × Heap) := if Nat.blt t P.types.size then buildSliceU P t len parts h else none

def foldMax (big : Bool) : V → List V → Option V
  | x, [] => some x
  | .int k a, .int k' b :: l => if k = k' then foldMax big (.int k (if big then (if b > a then b else a) else (if b < a then b else a))) l else none
  | _, _ => none

/-! ### An operation -/

/-- A result: the value for the destination, the temporaries (a private variable may have been written), memory. -/
abbrev R := V × List V × Heap

def bltn (b : Builtin) (ty : Array TypeId) (t : List V) (h : Heap) (args : List V) : Option R :=
  match b, args with
  | .len, [x] => match ty[0]? with
    | some t0 => (lenV P t0 h x).map fun n => (.int .i64 n, t, h)
    | none => none
  | .append, [x, y] => match ty[0]?, ty[1]? with
    | some t0, some t1 => (appendV P t0 t1 h x y).map fun (v, h) => (v, t, h)
    | _, _ => none
  | .copy, [x, y] => match ty[0]? with
    | some t0 => (copyV P t0 h x y).map fun (n, h) => (.int .i64 n, t, h)
    | none => none
  | .max, x :: l => (foldMax true x l).map fun v => (v, t, h)
  | .min, x :: l => (foldMax false x l).map fun v => (v, t, h)
  | .cap, [x] => match ty[0]?, (ty[0]?).bind P.underlying with
    | some _, some (.slice _) => match x with
      | .slice _ _ _ (some k) => some (.int .i64 k, t, h)
      | .nilslice => some (.int .i64 0, t, h)
      | _ => none
    | _, _ => none
  | _, _ => none

/-- A function: how it is called. -/
abbrev CallF := FuncId → List V → Heap → Option (V × Heap)

def plainFn (f : FuncId) : Bool :=
  match P.funcs[f]? with
  | some fn => fn.body.isSome && fn.name != "runtime.NumGoroutine"
  | none => false

def callV (call : CallF) (t : List V) (h : Heap) (f : V) (args : List V) : Option R :=
  match f with
  | .func (.func g) first captured => if plainFn P g then (call g (first ++ args ++ captured) h).map fun (v, h) => (v, t, h) else none
  | _ => none

def step (call : CallF) (L : List Tmp) (o : Oper) (t : List V) (h : Heap) : Option R :=
  match o.op with
  | .move x | .assign x => (evV t x).map (·, t, h)
  | .pick c a b => match evV t c with
    | some (.bool c) => (evV t (if c then a else b)).map (·, t, h)
    | _ => none
  | .alloc ty => match zeroOf P ty with
    | some z => if z.isTup then none else some (newVarV L o.dst ty z.cells t h)
    | none => none
  | .box ty x => match evV t x with
    | some v => if v.isTup then none else some (newVarV L o.dst ty v.cells t h)
    | none => none
  | .build ty parts => match evParts t parts.toList with
    | some ps => (buildV P ty ps).map (·, t, h)
    | none => none
  | .buildSlice ty n parts => match evParts t parts.toList with
    | some ps => (buildSliceV P ty n ps h).map fun (v, h) => (v, t, h)
    | none => none
  | .load ty x => match ev t x with
    | some a => (loadV P ty t h x a).map (·, t, h)
    | none => none
  | .store ty x y => match ev t x, evV t y with
    | some a, some v => (storeV P ty t h x a v).map fun (t, h) => (.tup [], t, h)
    | _, _ => none
  | .nilCheck x => match evV t x with
    | some (.ptr b off) => some (.ptr b off, t, h)
    | some (.func (.func g) a c) => some (.func (.func g) a c, t, h)
    | _ => none
  | .binOp op ty x y _ => match evV t x, evV t y with
    | some a, some b => if eqMay P op ty x y a b then (binV P op ty a b).map (·, t, h) else none
    | _, _ => none
  | .unOp op _ x => match evV t x with
    | some a => (unV op a).map (·, t, h)
    | none => none
  | .convert src dst x => match evV t x with
    | some a => (convV P src dst h a).map fun (v, h) => (v, t, h)
    | none => none
  | .makeInterface ty x => match evV t x, P.underlying ty with
    | some a, some u => (match u with | .interface _ => none | _ => some (.iface ty a, t, h))
    | _, _ => none
  | .makeFunc (.func g) first captured => match evVs t first.toList, evVs t captured.toList with
    | some a, some b => some (.func (.func g) a b, t, h)
    | _, _ => none
  | .makeSlice ty l c => match evV t l, evV t c with
    | some l, some c => (makeSliceV P ty h l c).map fun (v, h) => (v, t, h)
    | _, _ => none
  | .slice ty x lo hi mx => match evV t x, evO t lo, evO t hi, evO t mx with
    | some a, some lo, some hi, some mx => (sliceV P ty h a lo hi mx).map (·, t, h)
    | _, _, _, _ => none
  | .fieldAddr s x f => match ev t x, fieldOff P s f with
    | some a, some n => (addrAdd t x a n).map (·, t, h)
    | _, _ => none
  | .field s x f => match evV t x, P.underlying s with
    | some (.agg cs), some (.struct fields) => match fields[f]? with
      | some fl => (part P fl.type cs fl.offset).map (·, t, h)
      | none => none
    | _, _ => none
  | .indexAddr ty x i => match ev t x, evV t i with
    | some a, some i => (indexAddrV P t ty x a i).map (·, t, h)
    | _, _ => none
  | .index ty x i => match evV t x, evV t i with
    | some a, some i => (indexV P ty a i).map (·, t, h)
    | _, _ => none
  | .extract x i => match evV t x with
    | some (.tup vs) => vs[i]?.map (·, t, h)
    | _ => none
  | .call c => match c.callee with
    | .builtin b => match evVs t c.args.toList with
      | some args => bltn P b c.argTypes t h args
      | none => none
    | .value f => match evV t f, evVs t c.args.toList with
      | some f, some args => callV P call t h f args
      | _, _ => none
    | .invoke _ _ => none
  | _ => none

def putV (t : List V) (d : Option Tmp) (v : V) : List V := match d with | none => t | some d => t.set d v

/-- Is the operation carried out? None: we can't tell. -/
def wantedV (ops : Array Oper) (t : List V) (o : Oper) : Option Bool :=
  match o.guard with
  | none => some true
  | some (j, want) => match ops[j]? with
    | some oj => match oj.dst with
      | some d => match t[d]? with
        | some (.bool b) => some (b == want)
        | some .junk => none
        | some (.lref _ _) => none
        | _ => some false
      | none => some false
    | none => some false

/-- A private variable stands among L alone. -/
def okBox (L : List Tmp) (d : Option Tmp) (v : V) : Bool :=
  match v with
  | .box _ => match d with
    | some d => L.contains d
    | none => true
  | _ => true

def stepIf (call : CallF) (L : List Tmp) (ops : Array Oper) (o : Oper) (s : St) : Option St :=
  match wantedV ops s.t o with
  | some true => match step P call L o s.t s.h with
    | some (v, t, h) => if okBox L o.dst v then some ⟨putV t o.dst v, h⟩ else none
    | none => none
  | some false => some ⟨putV s.t o.dst (.tup []), s.h⟩
  | none => none

def runOps (call : CallF) (L : List Tmp) (ops : Array Oper) : List Oper → St → Option St
  | [], s => some s
  | o :: l, s => match stepIf P call L ops o s with
    | some s => runOps call L ops l s
    | none => none

/-! ### A region whose order is drawn -/

/-- What an operation touches besides temporaries: nothing that was there; old blocks, to write them; a private variable. -/
inductive Foot where
  | quiet
  | write
  | free
  | rs (d : Tmp)
  | ws (d : Tmp)
  deriving Inhabited

def Foot.apart : Foot → Foot → Bool
  | .free, _ => true
  | _, .free => true
  | .write, .rs _ => true
  | .rs _, .write => true
  | .write, _ => false
  | _, .write => false
  | .rs a, .ws b => a != b
  | .ws a, .rs b => a != b
  | .ws a, .ws b => a != b
  | _, _ => true

/-- It looks at temporaries alone. -/
def freeOp : Op → Bool
  | .move _ | .assign _ | .pick _ _ _ | .nilCheck _ | .fieldAddr _ _ _ | .field _ _ _ | .indexAddr _ _ _ | .extract _ _ | .binOp _ _ _ _ _ | .unOp _ _ _ => true
  | _ => false

/-- Of an operation, ahead of it; 'q': it wrote no old block. -/
def foot (o : Oper) (t : List V) (q : Bool) : Foot :=
  match q with
  | false => .write
  | true => match o.op with
    | .load _ x => match ev t x with
      | some a => match boxSlot x a with
        | some (d, _) => .rs d
        | none => .quiet
      | none => .quiet
    | .store _ x _ => match ev t x with
      | some a => match boxSlot x a with
        | some (d, _) => .ws d
        | none => .quiet
      | none => .quiet
    | op => if freeOp op then .free else .quiet

/-- Which operations stand ahead of each, whatever is drawn: bits. -/
def befs : List Oper → List Nat → List Nat
  | [], acc => acc
  | o :: l, acc => befs l (acc ++ [o.after.toList.foldl (fun s e => if Region.binds .any e then s ||| 2 ^ e.on ||| acc.getD e.on 0 else s) 0])

/-- Apart from all that is not ahead: against numbers i, i + 1, .. -/
def apartAll (m : Nat) (f : Foot) : Nat → List Foot → Bool
  | _, [] => true
  | i, g :: l => (m.testBit i || Foot.apart f g) && apartAll m f (i + 1) l

def tmpsApart (ops : Array Oper) (m : Nat) (o : Oper) : Nat → List Oper → Bool
  | _, [] => true
  | i, x :: l => (m.testBit i || x.apart ops o) && tmpsApart ops m o (i + 1) l

/-- Operations that need not wait for each other meet in no temporary. 'before': those that came. -/
def tmpsOk (ops : Array Oper) : List Oper → List Nat → List Oper → Bool
  | o :: l, m :: ms, before => tmpsApart ops m o 0 before && tmpsOk ops l ms (before ++ [o])
  | [], _, _ => true
  | _, _, _ => false

/-- Each temporary is written once, and none is a private variable's; nothing makes one. -/
def dstsOk (L : List Tmp) : List Oper → Bool
  | [] => true
  | o :: l => (match o.dst with | some d => l.all (fun o' => o'.dst != some d) && !L.contains d | none => true) && dstsOk L l

def noBox (t : List V) : List Oper → Bool
  | [] => true
  | o :: l => (match o.dst with
    | some d => match t[d]? with
      | some (.box _) => false
      | _ => true
    | none => true) && noBox t l

/-- The operations in their order; what each touches is apart from what it need not wait for. 'fs': of those that came. -/
def runDraw (call : CallF) (L : List Tmp) (ops : Array Oper) : List Oper → List Nat → List Foot → St → Option St
  | o :: l, m :: ms, fs, s =>
    match wantedV ops s.t o with
    | some true => match step P call L o s.t { s.h with lo := s.h.next } with
      | some (v, t, h) =>
        let f := foot o s.t (Nat.ble s.h.next h.lo)
        if apartAll m f 0 fs && !v.isBox then runDraw call L ops l ms (fs ++ [f]) ⟨putV t o.dst v, { h with lo := min s.h.lo h.lo }⟩ else none
      | none => none
    | some false => if apartAll m .quiet 0 fs then runDraw call L ops l ms (fs ++ [.quiet]) ⟨putV s.t o.dst (.tup []), s.h⟩ else none
    | none => none
  | [], _, _, s => some s
  | _, _, _, _ => none

/-- What an operation must wait for stands ahead of it. -/
def backOk : Nat → List Oper → Bool
  | _, [] => true
  | j, o :: l => o.after.toList.all (fun e => !Region.binds .any e || Nat.blt e.on j) && backOk (j + 1) l

def drawOk (L : List Tmp) (ops : Array Oper) : Bool := dstsOk L ops.toList && tmpsOk ops ops.toList (befs ops.toList []) [] && backOk 0 ops.toList

/-! ### Code -/

/-- A loop: so many rounds at most. -/
def rounds (body : St → Option (E × St)) : Nat → St → Option (E × St)
  | 0, _ => none
  | n + 1, s => match body s with
    | some (.normal, s) => rounds body n s
    | r => r

def exec (call : CallF) (L : List Tmp) (n : Nat) : Code → St → Option (E × St)
  | .skip, s => some (.normal, s)
  | .region _ ops draw, s =>
    if draw then (if drawOk L ops then (runDraw P call L ops ops.toList (befs ops.toList []) [] s).map (.normal, ·) else none)
    else (runOps P call L ops ops.toList s).map (.normal, ·)
  | .seq a b, s => match exec call L n a s with
    | some (.normal, s) => exec call L n b s
    | r => r
  | .cond c a b, s => match evV s.t c with
    | some (.bool x) => if x then exec call L n a s else exec call L n b s
    | _ => none
  | .block id c, s => match exec call L n c s with
    | some (.exit k, s) => if k = id then some (.normal, s) else some (.exit k, s)
    | r => r
  | .loop c, s => rounds (exec call L n c) n s
  | .exit id, s => some (.exit id, s)
  | .ret, s => some (.ret, s)
  | .scope c, s => exec call L n c s
  | .label _, s => some (.normal, s)
  | _, _ => none

/-! ### Functions -/

def opersOf : Code → List Oper
  | .region _ ops _ => ops.toList
  | .seq a b | .cond _ a b => opersOf a ++ opersOf b
  | .block _ c | .loop c | .scope c => opersOf c
  | _ => []
def condsOf : Code → List Operand
  | .seq a b => condsOf a ++ condsOf b
  | .cond c a b => c :: (condsOf a ++ condsOf b)
  | .block _ c | .loop c | .scope c => condsOf c
  | _ => []

def tmpsOf (l : List Operand) : List Tmp := l.filterMap fun | .tmp d => some d | _ => none

/-- Temporaries that an operation may hand on. -/
def handsOn (o : Oper) : List Tmp :=
  match o.op with
  | .load _ _ | .fieldAddr _ _ _ => []
  | .indexAddr _ _ i => tmpsOf [i]
  | .store _ _ v => tmpsOf [v]
  | op => tmpsOf op.operands.toList

/-- The variable that an address leads to. -/
def rootsOf : List Oper → List (Tmp × Tmp) → List (Tmp × Tmp)
  | [], acc => acc
  | o :: l, acc => match o.op, o.dst with
    | .fieldAddr _ (.tmp b) _, some d | .indexAddr _ (.tmp b) _, some d => rootsOf l ((d, (acc.lookup b).getD b) :: acc)
    | _, _ => rootsOf l acc

def localsOf (c : Code) : List Tmp :=
  let os := opersOf c
  let roots := rootsOf os []
  let bad := (os.flatMap handsOn ++ tmpsOf (condsOf c)).map fun d => (roots.lookup d).getD d
  (os.filterMap fun o => match o.op, o.dst with
    | .alloc _, some d | .box _ _, some d => if bad.contains d then none else some d
    | _, _ => none).eraseDups

def resV (fn : Func) (s : St) : List ResultVar → Option (List V)
  | [] => some []
  | .tmp d :: l => match evV s.t (.tmp d), resV fn s l with
    | some v, some vs => some (v :: vs)
    | _, _ => none
  | .cell a ty :: l => match loadV P ty s.t s.h (.tmp a) (s.t.getD a (.tup [])), resV fn s l with
    | some v, some vs => some (v :: vs)
    | _, _ => none

def resultsV (fn : Func) (s : St) : Option V :=
  match resV P fn s fn.results.toList with
  | some [v] => some v
  | some vs => some (.tup vs)
  | none => none

/-- Functions that are answered at once. -/
abbrev Ext := FuncId → Option (List V → Heap → Option (V × Heap))

def callN (X : Ext) : Nat → CallF
  | 0 => fun _ _ _ => none
  | n + 1 => fun f args h =>
    match X f with
    | some g => g args h
    | none => match P.funcs[f]? with
      | some fn => match fn.body with
        | some c => match exec P (callN X n) (localsOf c) n c ⟨args ++ List.replicate (fn.ntmps - args.length) (.tup []), h⟩ with
          | some (.exit _, _) => none
          | some (_, s) => (resultsV P fn s).map (·, s.h)
          | none => none
        | none => none
      | none => none

end
end Go.AM
