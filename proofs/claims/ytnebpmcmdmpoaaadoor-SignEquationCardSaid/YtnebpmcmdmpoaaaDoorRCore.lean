/- What a Go function does, as a Lean function: values, memory of its own, and the walk through its code, with no world in sight. -/
import Derived.Orders
import Derived.Laws.Cells
namespace Go.Proofs.YtnebpmcmdmpoaaaDoor.R
open Go

/-- a slice as data: is it nil, and what stands in it -/
structure Sl (α : Type) where
  nl : Bool
  l : List α

/-- kinds of data -/
inductive Ty where
  | int (k : IntKind)
  | bool
  | str
  | sl (t : Ty)
  | pair (a b : Ty)
  | unit
  deriving DecidableEq

def Ty.den : Ty → Type
  | .int _ => Int
  | .bool => Bool
  | .str => ByteArray
  | .sl t => Sl t.den
  | .pair a b => a.den × b.den
  | .unit => Unit

/-- in cells -/
def Ty.size : Ty → Nat
  | .pair a b => a.size + b.size
  | .unit => 0
  | _ => 1

def Ty.isAgg : Ty → Bool
  | .pair _ _ | .unit => true
  | _ => false

def Ty.zero : (t : Ty) → t.den
  | .int _ => (0 : Int)
  | .bool => false
  | .str => ByteArray.empty
  | .sl t => (⟨true, []⟩ : Sl t.den)
  | .pair a b => (a.zero, b.zero)
  | .unit => ()

/-- what a slot, or a cell of the call's own memory, is known to hold -/
inductive V where
  | int (k : IntKind) (n : Int)
  | bool (b : Bool)
  | str (s : ByteArray)
  /-- a slice that nobody writes from here on -/
  | sl (t : Ty) (capd : Bool) (s : Sl t.den)
  /-- the slice over all of a block of the call's own -/
  | own (id : Nat)
  /-- a part of a block of the call's own, by elements -/
  | win (id off len : Nat)
  /-- a pointer to a cell of a box -/
  | ptr (id off : Nat)
  /-- a pointer to a cell of an element of a row -/
  | eptr (id i off : Nat)
  /-- a pointer to cells that nobody writes from here on -/
  | fp (cells : List V)
  | fn (f : FuncId) (caps : List V)
  | lit (v : Value)
  | undef
  | agg (cs : List V)
  | tup (vs : List V)
  deriving Inhabited

/-- blocks of the call's own -/
inductive Blk where
  | rows (t : Ty) (s : Sl t.den)
  | arr (t : Ty) (n : Nat) (l : List t.den)
  | box (e : TypeId) (cs : List V)
  | dead
  deriving Inhabited

abbrev Heap := List Blk

structure St where
  tmps : List V
  heap : Heap

def explode : (t : Ty) → t.den → List V
  | .int k, n => [.int k n]
  | .bool, b => [.bool b]
  | .str, s => [.str s]
  | .sl t, s => [.sl t false s]
  | .pair a b, x => explode a x.1 ++ explode b x.2
  | .unit, _ => []

def inject : (t : Ty) → t.den → V
  | .int k, n => .int k n
  | .bool, b => .bool b
  | .str, s => .str s
  | .sl t, s => .sl t false s
  | .pair a b, x => .agg (explode (.pair a b) x)
  | .unit, _ => .agg []

def takeInt (k : IntKind) : List V → Option (Int × List V)
  | .int k' n :: r => if k' = k then some (n, r) else none
  | _ => none
def takeBool : List V → Option (Bool × List V)
  | .bool b :: r => some (b, r)
  | _ => none
def takeStr : List V → Option (ByteArray × List V)
  | .str s :: r => some (s, r)
  | _ => none
def takeSl (t : Ty) : List V → Option (Sl t.den × List V)
  | .sl t' _ s :: r => if h : t' = t then some (h ▸ s, r) else none
  | .lit (.slice none 0 0) :: r => some (⟨true, []⟩, r)
  | _ => none

def implode : (t : Ty) → List V → Option (t.den × List V)
  | .int k, cs => takeInt k cs
  | .bool, cs => takeBool cs
  | .str, cs => takeStr cs
  | .sl t, cs => takeSl t cs
  | .pair a b, cs =>
    match implode a cs with
    | some (x, r) =>
      match implode b r with
      | some (y, r') => some ((x, y), r')
      | none => none
    | none => none
  | .unit, cs => some ((), cs)

def wholly {α : Type} : Option (α × List V) → Option α
  | some (x, []) => some x
  | _ => none

def aggOf : V → Option (List V)
  | .agg cs => some cs
  | _ => none

/-- a value as data -/
def read (t : Ty) (v : V) : Option t.den :=
  match t.isAgg, aggOf v with
  | true, some cs => wholly (implode t cs)
  | false, none => wholly (implode t [v])
  | _, _ => none

def V.cells : V → List V
  | .agg cs => cs
  | .undef => []
  | .tup _ => []
  | .lit v => if v.oneCell' then [.lit v] else []
  | v => [v]

/-- constants -/
def ofValue : Value → V
  | .int k n => .int k n
  | .bool b => .bool b
  | .string s => .str s
  | v => .lit v

/-! ### Types -/

inductive Sh where
  | int (k : IntKind)
  | bool
  | str
  | sl (e : TypeId)
  | arr (n : Nat) (e : TypeId)
  /-- a struct: of each field the offset in cells and the type -/
  | struct (fs : List (Nat × TypeId))
  | ptr (e : TypeId)
  | func
  | other

structure TD where
  size : Nat
  bytes : Nat
  sh : Sh
  ty : Option Ty
  zero : List Value
  /-- where equality of such values is that of their cells: the kinds of the cells -/
  plain : List Ty := []

abbrev Types := List (TypeId × TD)

def Types.get (T : Types) (t : TypeId) : Option TD := T.lookup t

/-! ### Operations -/

section
variable {Ω : Type}

/-- calls: function, arguments, memory, what goes on behind -/
abbrev Tab (Ω : Type) := FuncId → List V → Heap → (V → Heap → Option Ω) → Option Ω

def St.put (s : St) (d : Option Tmp) (v : V) (h : Heap) : St :=
  match d with
  | some d => ⟨s.tmps.set d v, h⟩
  | none => ⟨s.tmps, h⟩

def aEval (gl : List (Nat × List V)) (tmps : List V) : Operand → V
  | .tmp t => tmps.getD t .undef
  | .const v => ofValue v
  | .global g => match gl.lookup g with | some cs => .fp cs | none => .undef
  | .func f => .fn f []

def intOp (op : BinOp) (k : IntKind) (a b : Int) (K : V → Option Ω) : Option Ω :=
  match op with
  | .add => K (.int k (k.wrap (a + b)))
  | .sub => K (.int k (k.wrap (a - b)))
  | .mul => K (.int k (k.wrap (a * b)))
  | .quo => bif b == 0 then none else K (.int k (k.wrap (a.tdiv b)))
  | .rem => bif b == 0 then none else K (.int k (a.tmod b))
  | .and => K (.int k (k.wrap (BitVec.ofInt k.bits a &&& BitVec.ofInt k.bits b).toNat))
  | .or => K (.int k (k.wrap (BitVec.ofInt k.bits a ||| BitVec.ofInt k.bits b).toNat))
  | .xor => K (.int k (k.wrap (BitVec.ofInt k.bits a ^^^ BitVec.ofInt k.bits b).toNat))
  | .andNot => K (.int k (k.wrap (BitVec.ofInt k.bits a &&& ~~~(BitVec.ofInt k.bits b)).toNat))
  | .eql => K (.bool (a == b))
  | .neq => K (.bool (a != b))
  | .lss => K (.bool (decide (a < b)))
  | .leq => K (.bool (decide (a ≤ b)))
  | .gtr => K (.bool (decide (a > b)))
  | .geq => K (.bool (decide (a ≥ b)))
  | _ => none

def strOp (op : BinOp) (a b : ByteArray) (K : V → Option Ω) : Option Ω :=
  match op with
  | .add => bif decide (a.size + b.size ≤ 9223372036854775807) then K (.str (a ++ b)) else none
  | .eql => K (.bool (a == b))
  | .neq => K (.bool (!(a == b)))
  | _ => none

/-- two values of one data type, cell by cell -/
def eqCells : List V → List V → Option Bool
  | [], [] => some true
  | .int k a :: r, .int k' b :: r' => if k = k' then (eqCells r r').map fun e => (a == b) && e else none
  | .bool a :: r, .bool b :: r' => (eqCells r r').map fun e => (a == b) && e
  | .str a :: r, .str b :: r' => (eqCells r r').map fun e => (a == b) && e
  | _, _ => none

def kindOk : Ty → V → Bool
  | .int k, .int k' _ => decide (k' = k)
  | .bool, .bool _ => true
  | .str, .str _ => true
  | _, _ => false
def kindsOk : List Ty → List V → Bool
  | [], [] => true
  | t :: r, c :: s => kindOk t c && kindsOk r s
  | _, _ => false

/-- is it nil? -/
def isNil (h : Heap) : Sh → V → Option Bool
  | .sl _, .sl _ _ s => some s.nl
  | .sl _, .own id => match h.getD id .dead with | .rows _ s => some s.nl | _ => none
  | .sl _, .lit (.slice none 0 0) => some true
  | .ptr _, .ptr id _ => match h.getD id .dead with | .box _ _ => some false | _ => none
  | .ptr _, .fp _ => some false
  | .ptr _, .lit (.pointer none) => some true
  | .func, .fn _ _ => some false
  | .func, .lit .nilFunc => some true
  | _, _ => none

def isNilLit : Sh → V → Bool
  | .sl _, .lit (.slice none 0 0) => true
  | .ptr _, .lit (.pointer none) => true
  | .func, .lit .nilFunc => true
  | _, _ => false

def eqOp (h : Heap) (sh : Sh) (plain : List Ty) (neg : Bool) (x y : V) (K : V → Option Ω) : Option Ω :=
  match sh, x, y with
  | .bool, .bool a, .bool b => K (.bool (bif neg then !(a == b) else a == b))
  | .struct _, .agg cs, .agg ds =>
    match !plain.isEmpty && kindsOk plain cs, eqCells cs ds with
    | true, some e => K (.bool (bif neg then !e else e))
    | _, _ => none
  | sh, x, y =>
    if isNilLit sh y then match isNil h sh x with | some e => K (.bool (bif neg then !e else e)) | none => none
    else if isNilLit sh x then match isNil h sh y with | some e => K (.bool (bif neg then !e else e)) | none => none
    else none

def binV (T : Types) (h : Heap) (op : BinOp) (xt : TypeId) (x y : V) (K : V → Option Ω) : Option Ω :=
  match op, x, y with
  | .shl, .int k a, .int _ b => bif decide (b < 0) then none else K (.int k (k.wrap (a * 2 ^ (min b.toNat k.bits))))
  | .shr, .int k a, .int _ b => bif decide (b < 0) then none else K (.int k (a.fdiv (2 ^ (min b.toNat k.bits))))
  | op, .int k a, .int k' b => if k = k' then intOp op k a b K else none
  | op, .str a, .str b => strOp op a b K
  | .eql, x, y => match T.get xt with | some d => eqOp h d.sh d.plain false x y K | none => none
  | .neq, x, y => match T.get xt with | some d => eqOp h d.sh d.plain true x y K | none => none
  | _, _, _ => none

def unV (op : UnOp) (x : V) (K : V → Option Ω) : Option Ω :=
  match op, x with
  | .neg, .int k n => K (.int k (k.wrap (0 - n)))
  | .xor, .int k n => K (.int k (k.wrap (BitVec.ofInt k.bits (if k.signed then -1 else k.max) ^^^ BitVec.ofInt k.bits n).toNat))
  | .not, .bool b => K (.bool (!b))
  | _, _ => none

def bytesOf (s : ByteArray) : List Int := s.data.toList.map fun b => (b.toNat : Int)
def strOf (l : List Int) : ByteArray := ⟨(l.map fun n => UInt8.ofNat n.toNat).toArray⟩

/-- the elements of a slice of a kind -/
def elems (h : Heap) (t : Ty) : V → Option (List t.den)
  | .sl t' _ s => if e : t' = t then some (e ▸ s.l) else none
  | .own id =>
    match h.getD id .dead with
    | .rows t' s => if e : t' = t then some (e ▸ s.l) else none
    | _ => none
  | .win id off len =>
    match h.getD id .dead with
    | .rows t' s => if e : t' = t then some (e ▸ ((s.l.drop off).take len)) else none
    | .arr t' _ l => if e : t' = t then some (e ▸ ((l.drop off).take len)) else none
    | _ => none
  | .lit (.slice none 0 0) => some []
  | .str s => if e : Ty.int .u8 = t then some (e ▸ bytesOf s) else none
  | _ => none

def lenV (h : Heap) (sh : Sh) : V → Option Int
  | .str s => match sh with | .str => some s.size | _ => none
  | .sl _ _ s => match sh with | .sl _ => some s.l.length | _ => none
  | .own id => match sh, h.getD id .dead with | .sl _, .rows _ s => some s.l.length | _, _ => none
  | .win id _ len => match sh, h.getD id .dead with | .sl _, .rows _ _ => some len | .sl _, .arr _ _ _ => some len | _, _ => none
  | .lit (.slice none 0 0) => match sh with | .sl _ => some 0 | _ => none
  | _ => none

/-- what an own slice is, handed to others that only read it -/
def shown (h : Heap) : V → V
  | .own id => match h.getD id .dead with | .rows t s => .sl t false s | _ => .undef
  | .win id off len =>
    match h.getD id .dead with
    | .rows t s => .sl t false ⟨s.nl, (s.l.drop off).take len⟩
    | .arr t _ l => .sl t false ⟨false, (l.drop off).take len⟩
    | _ => .undef
  | v => v

/-- blocks that are given away with a value -/
def spend (h : Heap) : V → Heap
  | .own id => h.set id .dead
  | .win id _ _ => h.set id .dead
  | _ => h

def spendAll (h : Heap) : List V → Heap
  | [] => h
  | v :: r => spendAll (spend h v) r

def listOf (t : Ty) : Nat → List V → Option (List t.den)
  | 0, [] => some []
  | n + 1, cs =>
    match implode t cs with
    | some (x, r) => match listOf t n r with | some l => some (x :: l) | none => none
    | none => none
  | _, _ => none

def splice {α : Type} (l : List α) (off : Nat) (news : List α) : List α := l.take off ++ (news ++ l.drop (off + news.length))

def TD.agg (d : TD) : Bool := match d.sh with | .struct _ | .arr _ _ => true | _ => false

/-- the value of a type that lies at these cells -/
def TD.shape (d : TD) (cs : List V) : Option V :=
  if d.size ≤ cs.length then (if d.agg then some (.agg (cs.take d.size)) else cs.head?) else none

def Types.ty (T : Types) (t : TypeId) : Option Ty := match T.get t with | some d => d.ty | none => none

/-- is it sure to be the value of one cell? -/
def solid (h : Heap) : V → Bool
  | .int _ _ => true
  | .bool _ => true
  | .str _ => true
  | .sl _ _ _ => true
  | .fp _ => true
  | .fn _ _ => true
  | .lit v => v.oneCell'
  | .own id => match h.getD id .dead with | .dead => false | _ => true
  | .win id _ _ => match h.getD id .dead with | .dead => false | _ => true
  | .ptr id _ => match h.getD id .dead with | .dead => false | _ => true
  | .eptr id _ _ => match h.getD id .dead with | .dead => false | _ => true
  | _ => false

def newVar (T : Types) (e : TypeId) (cs : List V) (h : Heap) : Option (V × Heap) :=
  match T.get e with
  | some d =>
    if cs.length = d.size ∧ d.size ≠ 0 ∧ cs.all (solid h) = true then
      match d.sh with
      | .arr n e' =>
        match T.ty e' with
        | some t => if n = 0 then none else match listOf t n cs with | some l => some (.eptr h.length 0 0, h ++ [.arr t n l]) | none => none
        | none => some (.ptr h.length 0, h ++ [.box e cs])
      | _ => some (.ptr h.length 0, h ++ [.box e cs])
    else none
  | none => none

def loadV (d : TD) (h : Heap) : V → Option V
  | .ptr id off => match h.getD id .dead with | .box _ cs => d.shape (cs.drop off) | _ => none
  | .eptr id i off =>
    match h.getD id .dead with
    | .rows t s => d.shape ((explode t (s.l.getD i t.zero)).drop off)
    | .arr t n l =>
      match d.sh with
      | .arr m _ => if m = n ∧ i = 0 ∧ off = 0 ∧ n * t.size = d.size then some (.agg ((List.range n).flatMap fun j => explode t (l.getD j t.zero))) else none
      | _ => d.shape ((explode t (l.getD i t.zero)).drop off)
    | _ => none
  | .fp cs => d.shape cs
  | _ => none

def storeV (d : TD) (h : Heap) (p x : V) : Option Heap :=
  if x.cells.length = d.size ∧ d.size ≠ 0 ∧ x.cells.all (solid h) = true then
    match p with
    | .ptr id off =>
      match h.getD id .dead with
      | .box e cs => if off + d.size ≤ cs.length then some (h.set id (.box e (splice cs off x.cells))) else none
      | _ => none
    | .eptr id i off =>
      match (spendAll h x.cells).getD id .dead with
      | .rows t s =>
        match implode t (splice (explode t (s.l.getD i t.zero)) off (x.cells.map (shown h))) with
        | some (y, []) => if off + d.size ≤ t.size then some ((spendAll h x.cells).set id (.rows t ⟨s.nl, s.l.set i y⟩)) else none
        | _ => none
      | .arr t n l =>
        if d.agg then
          if i = 0 ∧ off = 0 ∧ n * t.size = d.size then
            match listOf t n (x.cells.map (shown h)) with
            | some l' => some ((spendAll h x.cells).set id (.arr t n l'))
            | none => none
          else none
        else
          match implode t (splice (explode t (l.getD i t.zero)) off (x.cells.map (shown h))) with
          | some (y, []) => if off + d.size ≤ t.size then some ((spendAll h x.cells).set id (.arr t n (l.set i y))) else none
          | _ => none
      | _ => none
    | _ => none
  else none

def inB (i n : Int) : Bool := decide (0 ≤ i) && decide (i < n)
def inS (l h n : Int) : Bool := decide (0 ≤ l) && (decide (l ≤ h) && decide (h ≤ n))

/-- a byte of a string -/
def bt (s : ByteArray) (i : Int) : Int := ((s.data.toList.getD i.toNat 0).toNat : Int)

def indexAddrV (T : Types) (d : TD) (h : Heap) (x : V) (i : Int) (K : V → Option Ω) : Option Ω :=
  match d.sh with
  | .sl e =>
    match T.get e with
    | some de =>
      match x with
      | .own id => match h.getD id .dead with
        | .rows t s => if t.size = de.size then (bif inB i s.l.length then K (.eptr id i.toNat 0) else none) else none
        | _ => none
      | .win id off len => match h.getD id .dead with
        | .rows t _ => if t.size = de.size then (bif inB i len then K (.eptr id (off + i.toNat) 0) else none) else none
        | .arr t _ _ => if t.size = de.size then (bif inB i len then K (.eptr id (off + i.toNat) 0) else none) else none
        | _ => none
      | .sl t _ s => if t.size = de.size then (bif inB i s.l.length then K (.fp (explode t (s.l.getD i.toNat t.zero))) else none) else none
      | _ => none
    | none => none
  | .arr n e =>
    match T.get e with
    | some de =>
      match x with
      | .eptr id 0 0 => match h.getD id .dead with
        | .arr t m _ => if t.size = de.size ∧ m = n then (bif inB i n then K (.eptr id i.toNat 0) else none) else none
        | _ => none
      | .ptr id off => bif inB i n then (match h.getD id .dead with | .box _ _ => K (.ptr id (off + i.toNat * de.size)) | _ => none) else none
      | .fp cs => bif inB i n then K (.fp (cs.drop (i.toNat * de.size))) else none
      | _ => none
    | none => none
  | _ => none

def fieldOff (d : TD) (f : Nat) : Option (Nat × TypeId) := match d.sh with | .struct fs => fs[f]? | _ => none

def sizeOfT (T : Types) (t : TypeId) : Nat := match T.get t with | some d => d.size | none => 0

def fieldAddrV (T : Types) (d : TD) (x : V) (f : Nat) : Option V :=
  match fieldOff d f with
  | some (off, t) =>
    if sizeOfT T t = 0 then none else
    match x with
    | .ptr id o => some (.ptr id (o + off))
    | .eptr id i o => some (.eptr id i (o + off))
    | .fp cs => some (.fp (cs.drop off))
    | _ => none
  | none => none

def fieldV (T : Types) (d : TD) (x : V) (f : Nat) : Option V :=
  match fieldOff d f, x with
  | some (off, t), .agg cs => match T.get t with | some dt => dt.shape (cs.drop off) | none => none
  | _, _ => none

/-- an element of an array as data -/
def elemAs (de : TD) (n : Nat) (cs : List V) (i : Int) : Option V :=
  match de.ty with
  | some t => if t.size = de.size ∧ t.isAgg = de.agg then (match listOf t n cs with | some l => some (inject t (l.getD i.toNat t.zero)) | none => none) else none
  | none => none

/-- an element of an array -/
def elemAt (de : TD) (n : Nat) (cs : List V) (i : Int) : Option V :=
  match elemAs de n cs i with
  | some v => some v
  | none => de.shape (cs.drop (i.toNat * de.size))

def indexV (T : Types) (d : TD) (x : V) (i : Int) (K : V → Option Ω) : Option Ω :=
  match d.sh, x with
  | .str, .str s => bif inB i s.size then K (.int .u8 (bt s i)) else none
  | .arr n e, .agg cs =>
    match T.get e with
    | some de => bif inB i n then (match elemAt de n cs i with | some v => K v | none => none) else none
    | none => none
  | _, _ => none

/-- a bound of a slice expression -/
def bnd (d : Int) : Option V → Option Int
  | none => some d
  | some (.int _ n) => some n
  | some _ => none

/-- have the elements of this slice type the size of that kind? -/
def elemOk (T : Types) (d : TD) (t : Ty) : Bool :=
  match d.sh with
  | .sl e => match T.get e with | some de => de.size == t.size | none => false
  | _ => false

def sliceV (T : Types) (d : TD) (h : Heap) (x : V) (lo hi mx : Option V) (K : V → Option Ω) : Option Ω :=
  match x with
  | .str s =>
    match d.sh, bnd 0 lo, bnd s.size hi, mx with
    | .str, some l, some u, none => bif inS l u s.size then K (.str (s.extract l.toNat u.toNat)) else none
    | _, _, _, _ => none
  | .sl t _ s =>
    match elemOk T d t, bnd 0 lo, bnd s.l.length hi with
    | true, some l, some u =>
      match mx with
      | none => bif inS l u s.l.length then K (.sl t false ⟨s.nl, (s.l.take u.toNat).drop l.toNat⟩) else none
      | some (.int _ m) => if hi.isSome then (bif inS l u m && decide (m ≤ s.l.length) then K (.sl t (decide (m = u)) ⟨s.nl, (s.l.take u.toNat).drop l.toNat⟩) else none) else none
      | _ => none
    | _, _, _ => none
  | .own id =>
    match h.getD id .dead with
    | .rows t s =>
      match elemOk T d t, lo, hi, mx with
      | true, none, none, none => K (.own id)
      | true, _, _, none =>
        match bnd 0 lo, bnd s.l.length hi with
        | some l, some u => bif inS l u s.l.length then K (.win id l.toNat (u - l).toNat) else none
        | _, _ => none
      | _, _, _, _ => none
    | _ => none
  | .win id off len =>
    match h.getD id .dead with
    | .rows t _ | .arr t _ _ =>
      match elemOk T d t, bnd 0 lo, bnd len hi, mx with
      | true, some l, some u, none => bif inS l u len then K (.win id (off + l.toNat) (u - l).toNat) else none
      | _, _, _, _ => none
    | _ => none
  | .eptr id 0 0 =>
    match d.sh, h.getD id .dead with
    | .arr n e, .arr t m _ =>
      match T.get e, bnd 0 lo, bnd n hi, mx with
      | some de, some l, some u, none => if m = n ∧ de.size = t.size then (bif inS l u n then K (.win id l.toNat (u - l).toNat) else none) else none
      | _, _, _, _ => none
    | _, _ => none
  | .fp cs =>
    match d.sh with
    | .arr n e =>
      match T.get e, bnd 0 lo, bnd n hi, mx with
      | some de, some l, some u, none =>
        match de.ty with
        | some t =>
          match listOf t n (cs.take (n * t.size)) with
          | some v => if n = 0 then none else bif inS l u n then K (.sl t false ⟨false, (v.take u.toNat).drop l.toNat⟩) else none
          | none => none
        | none => none
      | _, _, _, _ => none
    | _ => none
  | _ => none

theorem roomLim_ex : ∃ n : Int, n = 140737488355328 := ⟨_, rfl⟩
/-- how many bytes a slice may take (so told that nothing of it is reckoned out) -/
noncomputable def roomLim : Int := Classical.choose roomLim_ex
theorem roomLim_eq : roomLim = 140737488355328 := Classical.choose_spec roomLim_ex

noncomputable def makeSliceV (T : Types) (d : TD) (h : Heap) (n c : Int) (K : V → Heap → Option Ω) : Option Ω :=
  match d.sh with
  | .sl e =>
    match T.get e with
    | some de =>
      match de.ty with
      | some t =>
        if de.bytes = 0 then none else bif inS 0 n c && decide (c * de.bytes ≤ roomLim) then K (.own h.length) (h ++ [.rows t ⟨false, List.replicate n.toNat t.zero⟩]) else none
      | none => none
    | none => none
  | _ => none

def zeroOf (d : TD) : List V := d.zero.map ofValue

def fillV (place : Nat → Option (Nat × Nat)) (cs : List V) : List (Nat × V) → Option (List V)
  | [] => some cs
  | (i, v) :: r =>
    match place i with
    | some (off, size) => if v.cells.length = size ∧ size ≠ 0 ∧ off + size ≤ cs.length then fillV place (splice cs off v.cells) r else none
    | none => none

def buildV (T : Types) (d : TD) (parts : List (Nat × V)) : Option V :=
  match d.sh with
  | .struct fs => match fillV (fun i => match fs[i]? with | some (off, t) => some (off, sizeOfT T t) | none => none) (zeroOf d) parts with | some cs => some (.agg cs) | none => none
  | .arr _ e => if sizeOfT T e = 0 then none else match fillV (fun i => some (i * sizeOfT T e, sizeOfT T e)) (zeroOf d) parts with | some cs => some (.agg cs) | none => none
  | _ => none

/-- the element at a place of a slice literal -/
def putAt {α : Type} (l : List α) (i : Nat) (x : α) : List α := l.set i x

def shownC (h : Heap) : V → V
  | .agg cs => .agg (cs.map (shown h))
  | v => shown h v

def buildSliceV (T : Types) (d : TD) (h : Heap) (len : Nat) (parts : List (Nat × V)) : Option (V × Heap) :=
  match d.sh with
  | .sl e =>
    match T.get e with
    | some de =>
      match de.ty with
      | some t =>
        if len * de.size ≤ 16777216 ∧ parts.all (fun p => p.2.cells.all (solid h)) = true then
          match fillV (fun i => some (i * de.size, de.size)) ((List.range len).flatMap fun _ => zeroOf de) (parts.map fun p => (p.1, shownC h p.2)) with
          | some cs => match listOf t len cs with
            | some l => some (.own h.length, spendAll h (parts.flatMap fun p => p.2.cells) ++ [.rows t ⟨false, l⟩])
            | none => none
          | none => none
        else none
      | none => none
    | none => none
  | _ => none

/-- may it be what is appended? -/
def srcOk (d : TD) : V → Bool
  | .str _ => match d.sh with | .str => true | _ => false
  | _ => match d.sh with | .sl _ => true | _ => false

noncomputable def appendV (T : Types) (d dx : TD) (h : Heap) (s x : V) (K : V → Heap → Option Ω) : Option Ω :=
  if srcOk dx x = false then none else
  match d.sh with
  | .sl e =>
    match T.get e with
    | some de =>
      match de.ty with
      | some t =>
        if de.bytes = 0 then none else
        match elems h t x with
        | some xs =>
          match s with
          | .own id =>
            match h.getD id .dead with
            | .rows t' s' =>
              if e : t' = t then
                bif decide (((s'.l.length : Int) + xs.length) * de.bytes ≤ roomLim) then K (.own h.length) (h.set id .dead ++ [.rows t ⟨s'.nl && xs.isEmpty, (e ▸ s'.l) ++ xs⟩]) else none
              else none
            | _ => none
          | .lit (.slice none 0 0) =>
            bif decide ((xs.length : Int) * de.bytes ≤ roomLim) then K (.own h.length) (h ++ [.rows t ⟨xs.isEmpty, xs⟩]) else none
          | .sl _ capd s' =>
            match s'.l with
            | [] => bif capd && decide ((xs.length : Int) * de.bytes ≤ roomLim) then K (.own h.length) (h ++ [.rows t ⟨s'.nl && xs.isEmpty, xs⟩]) else none
            | _ => none
          | _ => none
        | none => none
      | none => none
    | none => none
  | _ => none

def isStr : V → Bool
  | .str _ => true
  | _ => false

def copyV (T : Types) (d : TD) (h : Heap) (dst src : V) (K : V → Heap → Option Ω) : Option Ω :=
  match d.sh, dst with
  | .sl e, .win id off len =>
    match T.get e with
    | some de =>
      match de.ty with
      | some t =>
        if isStr src = true ∨ len = 0 then none else
        match elems h t src with
        | some xs =>
          match h.getD id .dead with
          | .rows t' s' => if e : t' = t then K (.int .i64 (min xs.length len : Nat)) (h.set id (.rows t ⟨s'.nl, splice (e ▸ s'.l) off (xs.take len)⟩)) else none
          | .arr t' n l => if e : t' = t then K (.int .i64 (min xs.length len : Nat)) (h.set id (.arr t n (splice (e ▸ l) off (xs.take len)))) else none
          | _ => none
        | none => none
      | none => none
    | none => none
  | _, _ => none

def isU8 (T : Types) (e : TypeId) : Bool := match T.get e with | some de => (match de.sh with | .int .u8 => true | _ => false) | none => false

def convertV (T : Types) (h : Heap) (src dst : TypeId) (x : V) (K : V → Option Ω) : Option Ω :=
  match T.get src, T.get dst with
  | some ds, some dd =>
    match ds.sh, dd.sh, x with
    | .int _, .int k, .int _ n => K (.int k (k.wrap n))
    | .str, .sl e, .str s => if isU8 T e then K (.sl (.int .u8) false ⟨false, bytesOf s⟩) else none
    | .sl e, .str, x =>
      if isU8 T e && !isStr x then
        match elems h (.int .u8) x with
        | some l => K (.str (strOf l))
        | none => none
      else none
    | _, _, _ => none
  | _, _ => none

/-- the program's own byte type: rows of bytes are rows of its variables -/
def byteT : TypeId := 5

/-- the address of an own row of bytes -/
def dataV (h : Heap) (x : V) (K : V → Option Ω) : Option Ω :=
  match x with
  | .own id => match elems h (.int .u8) (.own id) with | some l => bif l.isEmpty then none else K (.eptr id 0 0) | none => none
  | _ => none

/-- the text over an own row of bytes, which nobody may write from here on -/
def textV (T : Types) (h : Heap) (pt : TypeId) (p n : V) (K : V → Heap → Option Ω) : Option Ω :=
  match T.get pt with
  | some d =>
    match d.sh with
    | .ptr e =>
      if e = byteT ∧ sizeOfT T e = 1 then
        match p, n with
        | .eptr id 0 0, .int .i64 m => match elems h (.int .u8) (.own id) with
          | some l => bif (m == (l.length : Int)) && (!l.isEmpty && decide ((l.length : Int) ≤ 9223372036854775807)) then K (.str (strOf l)) (h.set id .dead) else none
          | none => none
        | _, _ => none
      else none
    | _ => none
  | none => none

mutual
/-- the blocks that a value leads to at once -/
def idsOf : V → List Nat
  | .own id => [id]
  | .win id _ _ => [id]
  | .ptr id _ => [id]
  | .eptr id _ _ => [id]
  | .agg cs => idsOfL cs
  | .fn _ cs => idsOfL cs
  | .tup cs => idsOfL cs
  | .fp cs => idsOfL cs
  | _ => []
def idsOfL : List V → List Nat
  | [] => []
  | v :: r => idsOf v ++ idsOfL r
end

mutual
/-- numbers, texts, and what is put together of them -/
def flatV : V → Bool
  | .int _ _ => true
  | .bool _ => true
  | .str _ => true
  | .agg cs => flatL cs
  | .tup cs => flatL cs
  | _ => false
def flatL : List V → Bool
  | [] => true
  | v :: r => flatV v && flatL r
end

def ownish : V → Bool
  | .own _ | .win _ _ _ | .ptr _ _ | .eptr _ _ _ => true
  | _ => false

def shownD (h : Heap) : V → V
  | .agg cs => .agg (cs.map (shown h))
  | v => shown h v

/-- what a walk needs to know besides the code: types, variables of the program that are read, the functions that touch no memory of ours (and whether they hand back nothing but numbers), and the others -/
structure Env (Ω : Type) where
  T : Types
  gl : List (Nat × List V)
  pf : List (FuncId × Bool)
  pt : FuncId → List V → (V → Option Ω) → Option Ω
  tab : Tab Ω
  /-- how many blocks keep their names throughout -/
  pin : Nat := 0

def minV (b : Builtin) : List V → Option V
  | [.int k a, .int k' b'] => if k = k' then (match b with | .min => some (.int k (if b' < a then b' else a)) | .max => some (.int k (if b' > a then b' else a)) | _ => none) else none
  | [.int k a, .int k' b', .int k'' c] => if k = k' ∧ k = k'' then (match b with
      | .min => some (.int k (if c < (if b' < a then b' else a) then c else (if b' < a then b' else a)))
      | .max => some (.int k (if c > (if b' > a then b' else a) then c else (if b' > a then b' else a))) | _ => none) else none
  | _ => none

def callV (E : Env Ω) (dr : Bool) (h : Heap) (f : V) (args : List V) (K : V → Heap → Option Ω) : Option Ω :=
  match f with
  | .fn n caps =>
    match E.pf.lookup n with
    | some true => if (idsOfL ((args ++ caps).map (shownD h))).isEmpty then E.pt n ((args ++ caps).map (shownD h)) (fun v => if flatV v then K v h else none) else none
    | some false =>
      if (idsOfL (args ++ caps)).isEmpty then E.pt n (args ++ caps) (fun v => K v h)
      else if (idsOfL ((args ++ caps).map (shownD h))).isEmpty && !dr then E.pt n ((args ++ caps).map (shownD h)) (fun v => K v (spendAll h ((args ++ caps).flatMap V.cells)))
      else none
    | none => E.tab n (args ++ caps) h K
  | _ => none

def lift (h : Heap) (K : V → Heap → Option Ω) : Option V → Option Ω
  | some v => K v h
  | none => none

def isNilSlice : Operand → Bool
  | .const (.slice none 0 0) => true
  | _ => false

noncomputable def step (E : Env Ω) (dr : Bool) (o : Oper) (ρ : Operand → V) (h : Heap) (K : V → Heap → Option Ω) : Option Ω :=
  match o.op with
  | .move x | .assign x =>
    if isNilSlice x then
      match E.T.get o.type with
      | some d => match d.sh with
        | .sl e => match E.T.ty e with
          | some t => K (.own h.length) (h ++ [.rows t ⟨true, []⟩])
          | none => K (ρ x) h
        | _ => K (ρ x) h
      | none => K (ρ x) h
    else K (ρ x) h
  | .pick c a b => match ρ c with | .bool t => bif t then K (ρ a) h else K (ρ b) h | _ => none
  | .alloc e => match E.T.get e with
    | some d => match newVar E.T e (zeroOf d) h with | some (v, h') => K v h' | none => none
    | none => none
  | .box e x => match newVar E.T e (ρ x).cells h with | some (v, h') => K v h' | none => none
  | .build t parts => match E.T.get t with | some d => (if parts.toList.all (fun p => (ρ p.2).cells.all (solid h)) then lift h K (buildV E.T d (parts.toList.map fun p => (p.1, ρ p.2))) else none) | none => none
  | .buildSlice t len parts => match E.T.get t with
    | some d =>
      if dr && parts.toList.any fun p => (ρ p.2).cells.any ownish then none else
      match buildSliceV E.T d h len (parts.toList.map fun p => (p.1, ρ p.2)) with | some (v, h') => K v h' | none => none
    | none => none
  | .load t a => match E.T.get t with | some d => lift h K (loadV d h (ρ a)) | none => none
  | .store t a x => match E.T.get t with | some d => (match storeV d h (ρ a) (ρ x) with | some h' => K .undef h' | none => none) | none => none
  | .nilCheck x => if solid h (ρ x) then (match ρ x with
      | .ptr id o => K (.ptr id o) h
      | .eptr id i o => K (.eptr id i o) h
      | .fp cs => K (.fp cs) h
      | .fn f cs => K (.fn f cs) h
      | _ => none) else none
  | .binOp op xt x y _ => binV E.T h op xt (ρ x) (ρ y) fun v => K v h
  | .unOp op _ x => unV op (ρ x) fun v => K v h
  | .convert src dst x => convertV E.T h src dst (ρ x) fun v => K v h
  | .makeFunc (.func f) first caps => match first.toList with | [] => K (.fn f (caps.toList.map ρ)) h | _ => none
  | .makeSlice t l c => match E.T.get t, ρ l, ρ c with | some d, .int .i64 n, .int .i64 m => makeSliceV E.T d h n m K | _, _, _ => none
  | .slice t x lo hi mx => match E.T.get t with | some d => sliceV E.T d h (ρ x) (lo.map ρ) (hi.map ρ) (mx.map ρ) (fun v => K v h) | none => none
  | .fieldAddr s x f => match E.T.get s with | some d => (if solid h (ρ x) then lift h K (fieldAddrV E.T d (ρ x) f) else none) | none => none
  | .field s x f => match E.T.get s with | some d => lift h K (fieldV E.T d (ρ x) f) | none => none
  | .indexAddr t x i => match E.T.get t, ρ i with | some d, .int _ n => indexAddrV E.T d h (ρ x) n (fun v => K v h) | _, _ => none
  | .index t x i => match E.T.get t, ρ i with | some d, .int _ n => indexV E.T d (ρ x) n (fun v => K v h) | _, _ => none
  | .extract x i => match ρ x with | .tup vs => lift h K vs[i]? | _ => none
  | .call c =>
    match c.callee with
    | .builtin .append => match c.argTypes.toList, c.args.toList with | [t, tx], [s, x] => (match E.T.get t, E.T.get tx with | some d, some dx => appendV E.T d dx h (ρ s) (ρ x) K | _, _ => none) | _, _ => none
    | .builtin .copy => match c.argTypes.toList, c.args.toList with | [t, _], [s, x] => (match E.T.get t with | some d => copyV E.T d h (ρ s) (ρ x) K | none => none) | _, _ => none
    | .builtin .len => match c.argTypes.toList, c.args.toList with | [t], [x] => (match E.T.get t with | some d => (match lenV h d.sh (ρ x) with | some n => K (.int .i64 n) h | none => none) | none => none) | _, _ => none
    | .builtin .min => lift h K (minV .min (c.args.toList.map ρ))
    | .builtin .max => lift h K (minV .max (c.args.toList.map ρ))
    | .builtin .unsafeSliceData => match c.args.toList with | [x] => dataV h (ρ x) (fun v => K v h) | _ => none
    | .builtin .unsafeString => match c.argTypes.toList, c.args.toList with | [pt, _], [p, n] => textV E.T h pt (ρ p) (ρ n) K | _, _ => none
    | .value f => callV E dr h (ρ f) (c.args.toList.map ρ) K
    | _ => none
  | _ => none

/-! ### Which slots are still read (bit sets) -/

def bit (L : Nat) (t : Nat) : Nat := if L.testBit t then L else L + 2 ^ t
def unbit (L : Nat) (t : Nat) : Nat := if L.testBit t then L - 2 ^ t else L
def liveOp (ops : Array Oper) (o : Oper) (L : Nat) : Nat :=
  let L := match o.dst with | some d => unbit L d | none => L
  let L := o.op.operands.toList.foldl (fun L x => match x with | .tmp t => bit L t | _ => L) L
  match o.guard with
  | some (j, _) => match (ops[j]?).bind (·.dst) with | some t => bit L t | none => L
  | none => L

def live (R : Nat) : Code → (out : Nat) → (ex : List (Nat × Nat)) → Nat
  | .skip, out, _ => out
  | .region _ ops _, out, _ => ops.toList.foldr (liveOp ops) out
  | .seq a b, out, ex => live R a (live R b out ex) ex
  | .cond c a b, out, ex => match c with | .tmp t => bit (live R a out ex ||| live R b out ex) t | _ => live R a out ex ||| live R b out ex
  | .block id b, out, ex => live R b out ((id, out) :: ex)
  | .loop b, _, ex => live R b (live R b 0 ex) ex
  | .exit id, _, ex => (ex.lookup id).getD 0
  | .ret, _, _ => R
  | _, _, _ => 0

def clrFrom (L : Nat) : Nat → List V → List V
  | _, [] => []
  | i, v :: r => (if L.testBit i then v else .undef) :: clrFrom L (i + 1) r

/-! ### A canonical memory: only what is reached, in the order in which it is met -/

mutual
/-- new names for blocks; what has none is no longer known -/
def ren (m : Nat → Option Nat) : V → V
  | .own id => match m id with | some j => .own j | none => .undef
  | .win id o l => match m id with | some j => .win j o l | none => .undef
  | .ptr id o => match m id with | some j => .ptr j o | none => .undef
  | .eptr id i o => match m id with | some j => .eptr j i o | none => .undef
  | .agg cs => .agg (renL m cs)
  | .fn f cs => .fn f (renL m cs)
  | .tup cs => .tup (renL m cs)
  | .fp cs => .fp (renL m cs)
  | v => v
def renL (m : Nat → Option Nat) : List V → List V
  | [] => []
  | v :: r => ren m v :: renL m r
end

def addNew (acc : List Nat) : List Nat → List Nat
  | [] => acc
  | i :: r => addNew (if acc.contains i then acc else acc ++ [i]) r

def Blk.ids : Blk → List Nat
  | .box _ cs => idsOfL cs
  | _ => []

/-- the blocks that are reached, in the order in which they are met -/
def reached (h : Heap) : Nat → List Nat → List Nat
  | 0, acc => acc
  | n + 1, acc => reached h n (addNew acc (acc.flatMap fun i => (h.getD i .dead).ids))

def Blk.ren (m : Nat → Option Nat) : Blk → Blk
  | .box e cs => .box e (renL m cs)
  | b => b

def canon (pin L : Nat) (s : St) : St :=
  let tm := clrFrom L 0 s.tmps
  let acc := reached s.heap 3 (addNew (List.range pin) (idsOfL tm))
  let m := fun i => acc.idxOf? i
  ⟨renL m tm, acc.map fun i => (s.heap.getD i .dead).ren m⟩

/-! ### Code -/

inductive Ex where
  | normal
  | exit (id : Nat)
  | ret

/-- the truth of a guard: the slot that is asked, and what is wanted of it -/
def St.know (s : St) (t : Tmp) (b : Bool) : St := ⟨s.tmps.set t (.bool b), s.heap⟩

/-- does the value lead only into this memory? -/
def scOk (h : Heap) (x : V) : Bool := (idsOf x).all fun id => decide (id < h.length)

/-- where the order is open, the operands are asked for what they lead to -/
noncomputable def stepS (E : Env Ω) (dr : Bool) (o : Oper) (ρ : Operand → V) (h : Heap) (K : V → Heap → Option Ω) : Option Ω :=
  if dr && !(o.op.operands.toList.all fun x => scOk h (ρ x)) then none else step E dr o ρ h K

noncomputable def oper (E : Env Ω) (dr : Bool) (ops : Array Oper) (o : Oper) (s : St) (K : St → Option Ω) : Option Ω :=
  match o.guard with
  | none => stepS E dr o (aEval E.gl s.tmps) s.heap fun v h => K (s.put o.dst v h)
  | some (j, want) =>
    match (ops[j]?).bind (·.dst) with
    | some t =>
      match s.tmps.getD t .undef with
      | .bool b =>
        bif b then
          (if want then stepS E dr o (aEval E.gl (s.know t true).tmps) s.heap fun v h => K ((s.know t true).put o.dst v h)
           else K ((s.know t true).put o.dst .undef s.heap))
        else
          (if want then K ((s.know t false).put o.dst .undef s.heap)
           else stepS E dr o (aEval E.gl (s.know t false).tmps) s.heap fun v h => K ((s.know t false).put o.dst v h))
      | _ => none
    | none => none

noncomputable def execOps (E : Env Ω) (dr : Bool) (ops : Array Oper) : List Oper → St → (St → Option Ω) → Option Ω
  | [], s, K => K s
  | o :: r, s, K => oper E dr ops o s fun s' => execOps E dr ops r s' K

def loopC (body : St → (Ex → St → Option Ω) → Option Ω) (pin L : Nat) (K : Ex → St → Option Ω) : Nat → St → Option Ω
  | 0, _ => none
  | k + 1, s => body s fun e s' => match e with
    | .normal => loopC body pin L K k (canon pin L s')
    | e => K e s'

/-! ### Statements whose order is open -/

def pureOp : Op → Bool
  | .move x | .assign x => !isNilSlice x
  | .pick .. | .unOp .. | .field .. | .index .. | .extract .. | .makeFunc .. => true
  | .binOp op .. => match op with | .eql | .neq => false | _ => true
  | _ => false

/-- does the operation leave the memory of ours as it is? -/
def stillOp (pf : List (FuncId × Bool)) : Op → Bool
  | .load .. | .slice .. | .indexAddr .. | .binOp .. | .convert .. | .fieldAddr .. | .nilCheck _ | .build .. => true
  | .call c => match c.callee with
    | .builtin .len | .builtin .min | .builtin .max | .builtin .unsafeSliceData => true
    | .value (.func n) => (pf.lookup n).isSome
    | _ => false
  | _ => false

/-- does it do nothing to it but put new blocks behind? -/
def allocOp : Op → Bool
  | .alloc _ | .box .. | .buildSlice .. => true
  | _ => false

def Oper.slots (ops : Array Oper) (o : Oper) : List Tmp :=
  o.dst.toList ++ o.looksAt ops

/-- of each operation the bits of those that go ahead of it in every order -/
def ancs : List Oper → List Nat → List Nat
  | [], acc => acc
  | o :: r, acc => ancs r (acc ++ [o.after.toList.foldl (fun s e => if Region.binds .any e then s ||| 2 ^ e.on ||| acc.getD e.on 0 else s) 0])

def ordered (an : List Nat) (i j : Nat) : Bool := (an.getD (max i j) 0).testBit (min i j)

def allPairs (n : Nat) (p : Nat → Nat → Bool) : Bool := (List.range n).all fun i => (List.range i).all fun j => p i j

/-- is the outcome the same in every order? -/
def regionOk (pf : List (FuncId × Bool)) (ops : Array Oper) : Bool :=
  let an := ancs ops.toList []
  Region.noSelect ops &&
  ((List.range ops.size).all fun i => match ops[i]? with
    | some o => (o.after.toList.all fun e => !Region.binds .any e || decide (e.on < i)) && (match o.guard with | some (j, _) => ((ops[j]?).bind (·.dst)).isSome | none => true)
    | none => true) &&
  allPairs ops.size fun i j => match ops[i]?, ops[j]? with
    | some a, some b =>
      ordered an i j ||
      ((match a.dst with | some d => !(Oper.slots ops b).contains d | none => true) &&
       (match b.dst with | some d => !(Oper.slots ops a).contains d | none => true) &&
       (pureOp a.op || pureOp b.op || (stillOp pf a.op && (stillOp pf b.op || allocOp b.op)) || (allocOp a.op && stillOp pf b.op)))
    | _, _ => true

def loopU (body : St → (Ex → St → Option Ω) → Option Ω) (K : Ex → St → Option Ω) : Nat → St → Option Ω
  | 0, _ => none
  | k + 1, s => body s fun e s' => match e with
    | .normal => loopU body K k s'
    | e => K e s'

/-- by what a loop is named: the block around it -/
def loopKey : List (Nat × Nat) → Nat
  | (id, _) :: _ => id
  | [] => 0

/-- R: the slots of the results; un: the blocks whose loops are walked round by round; k: how many rounds a loop may have -/
noncomputable def exec (E : Env Ω) (R : Nat) (un : List Nat) (k : Nat) : Code → (out : Nat) → (ex : List (Nat × Nat)) → St → (Ex → St → Option Ω) → Option Ω
  | .skip, _, _, s, K => K .normal s
  | .region _ ops draw, _, _, s, K => if draw && !regionOk E.pf ops then none else execOps E draw ops ops.toList s fun s' => K .normal s'
  | .seq a b, out, ex, s, K => exec E R un k a (live R b out ex) ex s fun e s' => match e with
    | .normal => exec E R un k b out ex s' K
    | e => K e s'
  | .cond c a b, out, ex, s, K => match aEval E.gl s.tmps c with
    | .bool t => bif t then exec E R un k a out ex s K else exec E R un k b out ex s K
    | _ => none
  | .block id b, out, ex, s, K => exec E R un k b out ((id, out) :: ex) s fun e s' => match e with
    | .exit i => if i = id then K .normal s' else K (.exit i) s'
    | e => K e s'
  | .loop b, _, ex, s, K =>
    if un.contains (loopKey ex) then loopU (exec E R un k b 0 ex) K 1000 s
    else
      let L := live R b (live R b 0 ex) ex
      loopC (exec E R un k b L ex) E.pin L K k (canon E.pin L s)
  | .exit id, _, _, s, K => K (.exit id) s
  | .ret, _, _, s, K => K .ret s
  | _, _, _, _, _ => none

def resV (T : Types) (s : St) : ResultVar → Option V
  | .tmp t => some (s.tmps.getD t .undef)
  | .cell a t => match T.get t with | some d => loadV d s.heap (s.tmps.getD a .undef) | none => none

def resAll (T : Types) (s : St) : List ResultVar → Option (List V)
  | [] => some []
  | r :: rs => match resV T s r, resAll T s rs with | some v, some vs => some (v :: vs) | _, _ => none

def resOf (T : Types) (s : St) (rs : List ResultVar) : Option V :=
  match resAll T s rs with
  | some [v] => some v
  | some vs => some (.tup vs)
  | none => none

def resLive (rs : List ResultVar) : Nat := rs.foldl (fun L r => match r with | .tmp t => bit L t | .cell a _ => bit L a) 0

/-- a call: the function's body over its arguments and the memory that it is handed -/
noncomputable def run (E : Env Ω) (un : List Nat) (k : Nat) (fn : Func) (args : List V) (h : Heap) (K : V → Heap → Option Ω) : Option Ω :=
  match fn.body with
  | some c =>
    let R := resLive fn.results.toList
    exec E R un k c R [] ⟨args ++ List.replicate (fn.ntmps - args.length) .undef, h⟩ fun e s => match e with
      | .exit _ => none
      | _ => match resOf E.T s fn.results.toList with | some v => K v s.heap | none => none
  | none => none

end
end Go.Proofs.YtnebpmcmdmpoaaaDoor.R
