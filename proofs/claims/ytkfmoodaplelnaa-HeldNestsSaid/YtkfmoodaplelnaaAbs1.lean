/-
  Abs1: an abstract interpreter of a dump's functions over pure values: its values, its state, what each operation does.
-/
import Derived.RangeFuncLeaves
import Derived.Laws.OwnMore
import Derived.WalkKit
namespace Go.Abs
open Go

/-- A value of one cell in which no address stands. -/
def isSc : Value → Bool
  | .bool _ | .int _ _ | .string _ | .nilFunc | .nilIface | .pointer none | .map none => true
  | _ => false

/-- Closed values: numbers, texts; aggregates as their cells; slices that nobody writes any more (is it nil? is its capacity its length? its cells; its length). -/
inductive CV where
  | sc (v : Value)
  | agg (cs : List CV)
  | sl (nl x : Bool) (cs : List CV) (len : Nat)
  deriving Inhabited

/-- Values of a frame. un: whatever; ap: a slice that nobody writes, with the sole right to what lies behind it; ms, pt: a slice of, a pointer into an object of the store (its number, its version); ia: a pointer into closed cells; fn: a function value; yl: the function that a range over a function hands over (which one); er: an interface value: is it not nil? mp, mi: a map, an iterator (of the map mid). -/
inductive DV where
  | un
  | c (v : CV)
  | ap (nl : Bool) (cs : List CV) (len esz : Nat)
  | agg (ds : List DV)
  | tup (ds : List DV)
  | ms (id ver off len esz : Nat) (x : Bool)
  | pt (id ver off : Nat)
  | ia (cs : List CV) (off : Nat)
  | fn (f : FuncId) (first caps : List DV)
  | yl (k : Nat)
  | er (b : Bool)
  | mp (id ver : Nat)
  | mi (id ver mid mver : Nat)
  deriving Inhabited

/-- What an object without cells is: a map (its entries), an iterator over a map that was empty; one over a map that was not (how many entries it had, which one was handed out last, which ones are left). -/
inductive MK where
  | map (es : List (DV × DV))
  | iter (id ver : Nat)
  | it (id ver n : Nat) (cur : Option Nat) (left : List Nat)
class MkC where k : Option MK
instance noMk : MkC := ⟨none⟩
structure Ob where
  ver : Nat
  cs : List DV
  [mp : MkC]
  deriving Inhabited
def mkOb (ver : Nat) (k : MK) : Ob := { ver, cs := [], mp := ⟨some k⟩ }

/-- How a piece of code is left. -/
inductive Ex where
  | normal
  | exit (id : Nat)
  | ret
  deriving DecidableEq, Inhabited

/-- What is kept from call to call: the objects; of each range over a function that is under way how its last round was left. -/
structure M where
  st : List Ob
  pd : List Ex

structure S where
  fr : Nat → DV
  m : M

/-- What is told of a program's text beside it (any of it is sound): which copies take the right along; which operations lay objects (or keep what a call hands back open); the places of the objects that a region's operations lay, and how many they are; what lives behind a region; which loops (by the first region of their body) cut the store back. -/
structure An where
  mv : FuncId → Nat → Nat → Bool
  fz : FuncId → Nat → Nat → Bool
  abs : FuncId → Nat → Nat → Bool
  own : FuncId → Nat → Nat → Bool
  id : FuncId → Nat → Nat → Nat
  n : FuncId → Nat → Nat
  live : FuncId → Nat → Option (List Nat)
  cut : FuncId → Nat → Option (List Nat)
  lc : FuncId → Nat → Nat → Option (List Nat) := fun _ _ _ => none
  nz : FuncId → Nat → Nat → List (Nat × Nat) := fun _ _ _ => []
  rs : FuncId → Nat → Option (List Nat) := fun _ _ => none

def upd (fr : Nat → DV) (t : Nat) (d : DV) : Nat → DV := fun u => if u = t then d else fr u
def put (fr : Nat → DV) (dst : Option Tmp) (d : DV) : Nat → DV := match dst with | some t => upd fr t d | none => fr

def unflag : DV → DV
  | .ap nl cs len _ => .c (.sl nl nl cs len)
  | d => d

def closed? : DV → Option CV
  | .c v => some v
  | .ap nl cs len _ => some (.sl nl nl cs len)
  | _ => none

def closeL : List DV → Option (List CV)
  | [] => some []
  | d :: ds => match closed? d, closeL ds with
    | some c, some cs => some (c :: cs)
    | _, _ => none

def mkAgg (ds : List DV) : DV := match closeL ds with | some cs => .c (.agg cs) | none => .agg (ds.map unflag)

def ofV (v : Value) : Option CV :=
  if isSc v then some (.sc v) else match v with | .slice none 0 0 => some (.sl true true [] 0) | _ => none
def ofVs : List Value → Option (List CV)
  | [] => some []
  | v :: vs => match ofV v, ofVs vs with | some c, some cs => some (c :: cs) | _, _ => none
def ofVal (v : Value) : DV :=
  match v with
  | .agg vs => match ofVs vs.toList with | some cs => .c (.agg cs) | none => .un
  | v => match ofV v with | some c => .c c | none => .un

def ev (fr : Nat → DV) : Operand → DV
  | .tmp t => unflag (fr t)
  | .const v => ofVal v
  | .global _ => .un
  | .func f => .fn f [] []

/-- May it stand in one cell? -/
def cvOk : CV → Bool
  | .sc _ | .sl .. => true
  | .agg _ => false
def cellOk : DV → Bool
  | .c v => cvOk v
  | .ap .. | .ms .. | .pt .. | .fn .. | .yl _ | .mp .. => true
  | _ => false
/-- The cells of a value that may be stored. -/
def cellsOf : DV → Option (List DV)
  | .c (.agg cs) => if cs.all cvOk then some (cs.map .c) else none
  | .agg ds => if ds.all cellOk then some ds else none
  | d => if cellOk d then some [d] else none

def setL {α : Type} : List α → Nat → List α → List α
  | l, _, [] => l
  | l, off, d :: ds => setL (l.set off d) (off + 1) ds

def isAggT (P : Program) (t : TypeId) : Option Bool := (P.underlying t).map fun | .struct _ | .array _ _ => true | _ => false
def sizeT (P : Program) (t : TypeId) : Option Nat := (P.info? t).map (·.size)
def zeroT (P : Program) (t : TypeId) : Option (List DV) :=
  match P.info? t with
  | some i => match i.zero with
    | some z => (ofVs z.cells.toList).map (·.map DV.c)
    | none => none
  | none => none

def getO (st : List Ob) (id ver : Nat) : Option Ob :=
  match st[id]? with
  | some o => if o.ver = ver then some o else none
  | none => none

/-- k cells from a place on. -/
def span {α : Type} (l : List α) (off k : Nat) : Option (List α) := if off + k ≤ l.length then some ((l.drop off).take k) else none

def part1 (P : Program) (T : TypeId) (l : List DV) (off : Nat) : Option DV :=
  match isAggT P T, sizeT P T with
  | some true, some k => (span l off k).map mkAgg
  | some false, _ => (l[off]?).map unflag
  | _, _ => none
def partC (P : Program) (T : TypeId) (l : List CV) (off : Nat) : Option DV :=
  match isAggT P T, sizeT P T with
  | some true, some k => (span l off k).map fun cs => .c (.agg cs)
  | some false, _ => (l[off]?).map .c
  | _, _ => none

def fillD (place : Nat → Option (Nat × Nat)) (cells : List DV) : List (Nat × DV) → Option (List DV)
  | [] => some cells
  | (i, v) :: rest =>
    match place i, cellsOf v with
    | some (off, size), some vs => if vs.length = size ∧ off + vs.length ≤ cells.length then fillD place (setL cells off vs) rest else none
    | _, _ => none

/-! ### operators on numbers, texts, bools -/
def binS (op : BinOp) (x y : Value) : Option Value :=
  match op, x, y with
  | .shl, .int k a, .int _ b => if b < 0 then none else some (.int k (k.wrap (a * 2 ^ (min b.toNat k.bits))))
  | .shr, .int k a, .int _ b => if b < 0 then none else some (.int k (a.fdiv (2 ^ (min b.toNat k.bits))))
  | op, .int k a, .int k' b =>
    if k ≠ k' then none else
    match op with
    | .add => some (.int k (k.wrap (a + b)))
    | .sub => some (.int k (k.wrap (a - b)))
    | .mul => some (.int k (k.wrap (a * b)))
    | .quo => if b = 0 then none else some (.int k (k.wrap (a.tdiv b)))
    | .rem => if b = 0 then none else some (.int k (a.tmod b))
    | .and => some (.int k (k.wrap (BitVec.ofInt k.bits a &&& BitVec.ofInt k.bits b).toNat))
    | .or => some (.int k (k.wrap (BitVec.ofInt k.bits a ||| BitVec.ofInt k.bits b).toNat))
    | .xor => some (.int k (k.wrap (BitVec.ofInt k.bits a ^^^ BitVec.ofInt k.bits b).toNat))
    | .eql => some (.bool (a == b))
    | .neq => some (.bool (a != b))
    | .lss => some (.bool (a < b))
    | .leq => some (.bool (a ≤ b))
    | .gtr => some (.bool (a > b))
    | .geq => some (.bool (a ≥ b))
    | _ => none
  | op, .string a, .string b =>
    match op with
    | .add => if ((a.size + b.size : Nat) : Int) > IntKind.i64.max then none else some (.string (a ++ b))
    | .eql => some (.bool (a.toList == b.toList))
    | .neq => some (.bool !(a.toList == b.toList))
    | .lss => some (.bool (Op.bytesLess a.toList b.toList))
    | .leq => some (.bool (Op.bytesLess a.toList b.toList || a.toList == b.toList))
    | .gtr => some (.bool !(Op.bytesLess a.toList b.toList || a.toList == b.toList))
    | .geq => some (.bool !(Op.bytesLess a.toList b.toList))
    | _ => none
  | _, _, _ => none

def eqV.cut (P : Program) (t : TypeId) (cs : Array Value) (off : Nat) : Option Value :=
  match P.underlying t with
  | some (.struct _) | some (.array _ _) => (P.info? t).map fun i => .agg (cs.extract off (off + i.size))
  | some _ => cs[off]?
  | none => none
def eqFw (P : Program) (rec : TypeId → Value → Value → Option Bool) (xs ys : Array Value) : List Field → Option Bool
  | [] => some true
  | f :: fs =>
    if f.name ≠ "_" then
      match eqV.cut P f.type xs f.offset, eqV.cut P f.type ys f.offset with
      | some a, some b => match rec f.type a b with
        | some true => eqFw P rec xs ys fs
        | r => r
      | _, _ => none
    else eqFw P rec xs ys fs
def eqAw (P : Program) (rec : TypeId → Value → Value → Option Bool) (elem size : Nat) (xs ys : Array Value) : List Nat → Option Bool
  | [] => some true
  | i :: is =>
    match eqV.cut P elem xs (i * size), eqV.cut P elem ys (i * size) with
    | some a, some b => match rec elem a b with
      | some true => eqAw P rec elem size xs ys is
      | r => r
    | _, _ => none
/-- '==' of two values without addresses, by their type. -/
def eqV (P : Program) : Nat → TypeId → Value → Value → Option Bool
  | 0, _, _, _ => none
  | d + 1, t, x, y =>
    match P.underlying t, x, y with
    | some .bool, .bool a, .bool b => some (a == b)
    | some (.int _), .int k a, .int k' b => if k = k' then some (a == b) else none
    | some .string, .string a, .string b => some (a.toList == b.toList)
    | some (.struct fields), .agg xs, .agg ys => if P.stoodInHeld t then none else eqFw P (eqV P d) xs ys fields.toList
    | some (.array len elem), .agg xs, .agg ys =>
      match P.info? elem with
      | some i => eqAw P (eqV P d) elem i.size xs ys (List.range len)
      | none => none
    | _, _, _ => none

end Go.Abs
