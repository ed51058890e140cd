/-
  Abs2: what each operation and each piece of code does to the state of the interpreter.
-/
import Derived.Test.YtkfmoodaplelnaaAbs1
namespace Go.Abs
open Go

def scs : List CV → Option (List Value)
  | [] => some []
  | .sc v :: cs => (scs cs).map (v :: ·)
  | _ :: _ => none
def toV : CV → Option Value
  | .sc v => some v
  | .agg cs => (scs cs).map fun vs => .agg vs.toArray
  | .sl .. => none

def isIface (P : Program) (t : TypeId) : Bool := match P.underlying t with | some (.interface _) => true | _ => false

/-- '==' -/
def eqD (P : Program) (t : TypeId) (x y : DV) : Option Bool :=
  match x, y with
  | .c (.sl nl _ _ _), .c (.sl true _ _ _) => match P.underlying t with | some (.slice _) => some nl | _ => none
  | .c (.sl true _ _ _), .c (.sl nl _ _ _) => match P.underlying t with | some (.slice _) => some nl | _ => none
  | .ms .., .c (.sl true _ _ _) => match P.underlying t with | some (.slice _) => some false | _ => none
  | .c (.sl true _ _ _), .ms .. => match P.underlying t with | some (.slice _) => some false | _ => none
  | .pt .., .c (.sc (.pointer none)) => match P.underlying t with | some (.pointer _) => some false | _ => none
  | .c (.sc (.pointer none)), .pt .. => match P.underlying t with | some (.pointer _) => some false | _ => none
  | .c a, .c b => match toV a, toV b with
    | some u, some v => if P.eqGuardType P.depth t then none else eqV P 10000 t u v
    | _, _ => none
  | _, _ => none

def binD (P : Program) (op : BinOp) (t : TypeId) (x y : DV) : Option DV :=
  match x, y with
  | .c (.sc (.int k a)), .c (.sc (.int k' b)) => (binS op (.int k a) (.int k' b)).map fun v => .c (.sc v)
  | .c (.sc (.string a)), .c (.sc (.string b)) => (binS op (.string a) (.string b)).map fun v => .c (.sc v)
  | x, y => match op with
    | .eql => (eqD P t x y).map fun b => .c (.sc (.bool b))
    | .neq => (eqD P t x y).map fun b => .c (.sc (.bool !b))
    | _ => none

/-- An interface value against nil. -/
def erD (P : Program) (op : BinOp) (t : TypeId) (b : Bool) : Option DV :=
  match P.underlying t, op with
  | some (.interface _), .eql => some (.c (.sc (.bool !b)))
  | some (.interface _), .neq => some (.c (.sc (.bool b)))
  | _, _ => none
def binO (P : Program) (op : BinOp) (t : TypeId) (oy : Operand) (x y : DV) : Option DV :=
  match x, oy with
  | .er b, .const .nilIface => erD P op t b
  | x, _ => binD P op t x y

def unD (op : UnOp) (x : DV) : Option DV :=
  match op, x with
  | .not, .c (.sc (.bool b)) => some (.c (.sc (.bool !b)))
  | .neg, .c (.sc (.int k n)) => some (.c (.sc (.int k (k.wrap (0 - n)))))
  | _, _ => none

def convD (P : Program) (src dst : TypeId) (x : DV) : Option DV :=
  match P.underlying src, P.underlying dst, x with
  | some _, some (.int k), .c (.sc (.int _ n)) => some (.c (.sc (.int k (k.wrap n))))
  | some .string, some .string, .c (.sc (.string s)) => some (.c (.sc (.string s)))
  | _, _, _ => none

def intD : DV → Option Int
  | .c (.sc (.int _ n)) => some n
  | _ => none

/-- A slice's bounds: from, to, the greatest (none: unknown). Here each is at most the length. -/
def boundsD (len : Nat) (lo hi mx : Option DV) : Option (Nat × Nat × Option Nat) :=
  match (match mx with | none => some none | some d => (intD d).bind fun m => if 0 ≤ m ∧ m ≤ len then some (some m.toNat) else none) with
  | none => none
  | some m =>
    match (match hi with | none => some len | some d => (intD d).bind fun h => if 0 ≤ h ∧ h ≤ (m.getD len : Nat) then some h.toNat else none) with
    | none => none
    | some h =>
      match (match lo with | none => some 0 | some d => (intD d).bind fun l => if 0 ≤ l ∧ l ≤ (h : Nat) then some l.toNat else none) with
      | none => none
      | some l => if hi.isNone ∧ mx.isSome then none else some (l, h, m)

def exactB (x : Bool) (len h : Nat) : Option Nat → Bool
  | some m => m == h
  | none => x && h == len

def sliceD (P : Program) (st : List Ob) (t : TypeId) (x : DV) (lo hi mx : Option DV) : Option DV :=
  match P.underlying t, x with
  | some .string, .c (.sc (.string s)) =>
    match mx with
    | some _ => none
    | none => (boundsD s.size lo hi none).map fun (l, h, _) => .c (.sc (.string (s.extract l h)))
  | some (.slice e), .c (.sl nl x cs len) =>
    match sizeT P e, boundsD len lo hi mx with
    | some sz, some (l, h, m) => (span cs (l * sz) ((h - l) * sz)).map fun ds => .c (.sl nl (exactB x len h m) ds (h - l))
    | _, _ => none
  | some (.slice e), .ms id ver off len esz x =>
    match sizeT P e, boundsD len lo hi mx with
    | some sz, some (l, h, m) => if sz = esz then some (.ms id ver (off + l * esz) (h - l) esz (exactB x len h m)) else none
    | _, _ => none
  | some (.array n e), .pt id ver off =>
    match sizeT P e, boundsD n lo hi mx, getO st id ver with
    | some sz, some (l, h, m), some o => if off + n * sz ≤ o.cs.length then some (.ms id ver (off + l * sz) (h - l) sz (exactB true n h m)) else none
    | _, _, _ => none
  | _, _ => none

def indexAddrD (P : Program) (t : TypeId) (x i : DV) : Option DV :=
  match intD i with
  | none => none
  | some i =>
    match P.underlying t, x with
    | some (.slice e), .c (.sl _ _ cs len) => match sizeT P e with | some sz => if 0 ≤ i ∧ i < len then some (.ia cs (i.toNat * sz)) else none | none => none
    | some (.slice e), .ms id ver off len esz _ => match sizeT P e with | some sz => if sz = esz ∧ 0 ≤ i ∧ i < len then some (.pt id ver (off + i.toNat * esz)) else none | none => none
    | some (.array n e), .pt id ver off => match sizeT P e with | some sz => if 0 ≤ i ∧ i < n then some (.pt id ver (off + i.toNat * sz)) else none | none => none
    | some (.array n e), .ia cs off => match sizeT P e with | some sz => if 0 ≤ i ∧ i < n then some (.ia cs (off + i.toNat * sz)) else none | none => none
    | _, _ => none

def indexD (P : Program) (t : TypeId) (x i : DV) : Option DV :=
  match intD i with
  | none => none
  | some i =>
    match P.underlying t, x with
    | some (.array n e), .c (.agg cs) => match sizeT P e with | some sz => if 0 ≤ i ∧ i < n then partC P e cs (i.toNat * sz) else none | none => none
    | some (.array n e), .agg ds => match sizeT P e with | some sz => if 0 ≤ i ∧ i < n then part1 P e ds (i.toNat * sz) else none | none => none
    | some .string, .c (.sc (.string s)) => if 0 ≤ i then (s[i.toNat]?).map fun b => .c (.sc (.int .u8 b.toNat)) else none
    | _, _ => none

def fieldAddrD (P : Program) (s : TypeId) (x : DV) (f : Nat) : Option DV :=
  match P.underlying s with
  | some (.struct fs) => match fs[f]? with
    | some fd => match sizeT P fd.type with
      | some (_ + 1) => match x with
        | .pt id ver off => some (.pt id ver (off + fd.offset))
        | .ia cs off => some (.ia cs (off + fd.offset))
        | _ => none
      | _ => none
    | none => none
  | _ => none

def fieldD (P : Program) (s : TypeId) (x : DV) (f : Nat) : Option DV :=
  match P.underlying s with
  | some (.struct fs) => match fs[f]? with
    | some fd => match x with
      | .c (.agg cs) => partC P fd.type cs fd.offset
      | .agg ds => part1 P fd.type ds fd.offset
      | _ => none
    | none => none
  | _ => none

def loadD (P : Program) (st : List Ob) (t : TypeId) (x : DV) : Option DV :=
  match x with
  | .pt id ver off => match getO st id ver with | some o => part1 P t o.cs off | none => none
  | .ia cs off => partC P t cs off
  | _ => none

def lenD (P : Program) (st : List Ob) (t : TypeId) (x : DV) : Option DV :=
  match P.underlying t, x with
  | some .string, .c (.sc (.string s)) => some (.c (.sc (.int .i64 s.size)))
  | some (.slice _), .c (.sl _ _ _ len) => some (.c (.sc (.int .i64 len)))
  | some (.slice _), .ms _ _ _ len _ _ => some (.c (.sc (.int .i64 len)))
  | some (.array n _), _ => some (.c (.sc (.int .i64 n)))
  | _, _ => let _ := st; none

def minmax (mx : Bool) : List DV → Option DV
  | [] => none
  | d :: ds => go mx d ds
where
  go (mx : Bool) (x : DV) : List DV → Option DV
  | [] => match x with | .c (.sc (.int _ _)) => some x | _ => none
  | y :: ds => match x, y with
    | .c (.sc (.int k a)), .c (.sc (.int _ b)) => go mx (.c (.sc (.int k (if mx then (if b > a then b else a) else if b < a then b else a)))) ds
    | _, _ => none

/-- The elements of a slice that is read: its cells. -/
def elemsD (st : List Ob) (esz : Nat) : DV → Option (Nat × List DV)
  | .c (.sl _ _ cs len) => if cs.length = len * esz then some (len, cs.map .c) else none
  | .ms id ver off len e _ => match getO st id ver with
    | some o => if e = esz then (span o.cs off (len * esz)).map fun ds => (len, ds) else none
    | none => none
  | _ => none

/-- The element type's zero value has the type's size. -/
def zeroFits (i : TypeInfo) : Bool := match i.zero with | some z => z.cells.size == i.size | none => false

def roomy (n bytes : Nat) : Bool := decide (n * bytes ≤ 140737488355328) && decide (n ≤ 9223372036854775807)

/-- What an operation comes to: a value, an object that is laid or turned, slots that lose their right. -/
structure Out where
  d : DV
  set : Option (Nat × Ob) := none
  drop : List Tmp := []

/-- The object id is laid (anew: what led to the elder one leads nowhere). -/
def lay (st : List Ob) (id : Nat) (cs : List DV) : Option (Nat × Ob) :=
  match st[id]? with
  | some o => some (id, ⟨o.ver + 1, cs⟩)
  | none => none

/-- append, by value: x is nil, or at its capacity, or has the right to what lies behind it. -/
def appendV (P : Program) (st : List Ob) (t t2 : TypeId) (x y : DV) : Option DV :=
  match P.underlying t, P.underlying t2 with
  | some (.slice e), some (.slice _) =>
    match P.info? e with
    | none => none
    | some i =>
      if !zeroFits i then none else
      match elemsD st i.size y with
      | none => none
      | some (n, ys) =>
        match closeL ys with
        | none => none
        | some cys =>
          match x with
          | .ap nl cs len esz => if nl || esz == i.size then if roomy (len + n) i.bytes ∧ cs.length = len * i.size then some (.ap (nl && n == 0) (cs ++ cys) (len + n) i.size) else none else none
          | .c (.sl nl true cs len) => if roomy (len + n) i.bytes ∧ cs.length = len * i.size then some (if n = 0 then .c (.sl nl true cs len) else .ap false (cs ++ cys) (len + n) i.size) else none
          | _ => none
  | _, _ => none

/-- append to an object (in place, or anew): its version goes up; to nil or a slice at its capacity: a new object. -/
def appendO (P : Program) (st : List Ob) (id0 : Nat) (t t2 : TypeId) (x y : DV) : Option Out :=
  match P.underlying t, P.underlying t2 with
  | some (.slice e), some (.slice _) =>
    match P.info? e with
    | none => none
    | some i =>
      if !zeroFits i then none else
      match elemsD st i.size y with
      | none => none
      | some (n, ys) =>
        if n = 0 then (match x with
          | .c (.sl false true [] 0) => (lay st id0 []).map fun e => { d := .ms id0 e.2.ver 0 0 i.size false, set := some e }
          | _ => none) else
        match x with
        | .ms id ver off len esz _ =>
          match getO st id ver with
          | some o => if esz = i.size ∧ roomy (len + n) i.bytes then
              (span o.cs off (len * esz)).map fun old => { d := .ms id (ver + 1) 0 (len + n) esz false, set := some (id, ⟨ver + 1, old ++ ys.map unflag⟩) }
            else none
          | none => none
        | .c (.sl _ true cs len) => if roomy (len + n) i.bytes ∧ cs.length = len * i.size then
              (lay st id0 (cs.map .c ++ ys.map unflag)).map fun e => { d := .ms id0 e.2.ver 0 (len + n) i.size false, set := some e }
            else none
        | _ => none
  | _, _ => none

/-- copy into an object. -/
def copyD (P : Program) (st : List Ob) (t : TypeId) (x y : DV) : Option Out :=
  match P.underlying t, x with
  | some (.slice e), .ms id ver off len esz _ =>
    match sizeT P e, getO st id ver with
    | some sz, some o =>
      match elemsD st sz y with
      | some (n, ys) =>
        if sz = esz ∧ off + (min n len) * esz ≤ o.cs.length then
          some { d := .c (.sc (.int .i64 (min n len : Nat))), set := some (id, ⟨ver, setL o.cs off ((ys.take ((min n len) * esz)).map unflag)⟩) }
        else none
      | none => none
    | _, _ => none
  | _, _ => none

def setM (m : M) : Option (Nat × Ob) → M
  | some (id, o) => { m with st := m.st.set id o }
  | none => m

/-- A range over a function that is under way: its function, how many slots that has, the frame in which it stands, its parts. -/
structure Ctx where
  f : FuncId
  nt : Nat
  fr : Nat → DV
  params : Array Tmp
  assign : Code
  body : Code

/-- Functions whose contracts are known: what they do to the objects that they are handed. -/
abbrev Prims := FuncId → Option (List Ob → List DV → Option Out)

structure Rec where
  call : List (Nat × Ctx) → FuncId → List DV → M → Option (DV × M)
  round : List (Nat × Ctx) → Nat → List DV → M → Option (DV × M)
  prim : Prims

mutual
def shift (n p : Nat) : DV → DV
  | .ms id ver off len esz x => .ms (id + n) ver off len esz x
  | .pt id ver off => .pt (id + n) ver off
  | .agg ds => .agg (shiftL n p ds)
  | .tup ds => .tup (shiftL n p ds)
  | .fn f a b => .fn f (shiftL n p a) (shiftL n p b)
  | .yl k => .yl (k + p)
  | .er b => .er b
  | .mp id ver => .mp (id + n) ver
  | .mi id ver mid mver => .mi (id + n) ver (mid + n) mver
  | .un => .un
  | .c v => .c v
  | .ap nl cs len esz => .ap nl cs len esz
  | .ia cs off => .ia cs off
def shiftL (n p : Nat) : List DV → List DV
  | [] => []
  | d :: ds => shift n p d :: shiftL n p ds
end

def shiftE (n p : Nat) : List (DV × DV) → List (DV × DV)
  | [] => []
  | (k, v) :: es => (shift n p k, shift n p v) :: shiftE n p es
def shiftK (n p : Nat) : Option MK → Option MK
  | none => none
  | some (.map es) => some (.map (shiftE n p es))
  | some (.iter id ver) => some (.iter (id + n) ver)
  | some (.it id ver k cur left) => some (.it (id + n) ver k cur left)
def shiftO (n p : Nat) (o : Ob) : Ob := { ver := o.ver, cs := shiftL n p o.cs, mp := ⟨shiftK n p o.mp.k⟩ }

def closeList (f : DV → Option CV) : List DV → Option (List CV)
  | [] => some []
  | d :: ds => match f d, closeList f ds with
    | some c, some cs => some (c :: cs)
    | _, _ => none
/-- What a call hands back, closed, as far as its own objects go. -/
def closeD : Nat → List Ob → DV → Option CV
  | 0, _, _ => none
  | _ + 1, _, .c v => some v
  | _ + 1, _, .ap nl cs len _ => some (.sl nl nl cs len)
  | n + 1, st, .agg ds => (closeList (closeD n st) ds).map .agg
  | n + 1, st, .ms id ver off len esz x => match getO st id ver with
    | some o => (span o.cs off (len * esz)).bind fun ds => (closeList (closeD n st) ds).map fun cs => .sl false x cs len
    | none => none
  | _ + 1, _, _ => none

def closeTop (st : List Ob) : DV → Option DV
  | .c v => some (.c v)
  | .ap nl cs len esz => some (.ap nl cs len esz)
  | .tup ds => (closeList (closeD 9 st) ds).map fun cs => .tup (cs.map .c)
  | d => (closeD 9 st d).map .c

mutual
def isClosed : DV → Bool
  | .c _ | .ap .. => true
  | .fn _ a b => isClosedL a && isClosedL b
  | _ => false
def isClosedL : List DV → Bool
  | [] => true
  | d :: ds => isClosed d && isClosedL ds
end

/-- A function that the call enters. -/
def enters (P : Program) (f : FuncId) : Bool :=
  match P.funcs[f]? with
  | some fn => !(fn.name == "runtime.NumGoroutine") && !fn.body.isNone
  | none => false

def below (m : Nat) : DV → Bool
  | .pt id _ _ | .ms id _ _ _ _ _ | .mp id _ => id < m
  | .mi id _ mid _ => id < m && mid < m
  | .agg ds | .tup ds => go m ds
  | .fn _ a b => go m a && go m b
  | _ => true
where
  go (m : Nat) : List DV → Bool
  | [] => true
  | d :: ds => below m d && go m ds

def belowE (m : Nat) : List (DV × DV) → Bool
  | [] => true
  | (k, v) :: es => below m k && below m v && belowE m es
def belowO (m : Nat) (o : Ob) : Bool := o.cs.all (below m) && match o.mp.k with
  | none => true
  | some (.map es) => belowE m es
  | some (.iter id _) => id < m
  | some (.it id _ _ _ _) => id < m

/-- Of the store what lay before is kept, if nothing that is kept leads beyond. -/
def trimM (n : Nat) (d : DV) (m : M) : Option M := if below n d && ((m.st.take n).all fun o => belowO n o) then some { m with st := m.st.take n } else none

/-! ### calls on a store of some objects alone -/
def idx : List Nat → Nat → Option Nat
  | [], _ => none
  | x :: xs, y => if x = y then some 0 else (idx xs y).map (· + 1)
mutual
/-- A value as a call sees it that is handed the objects sel. -/
def locD (sel : List Nat) (st : List Ob) : DV → Option DV
  | .ms id ver off len esz x => match idx sel id, st[id]? with
    | some j, some o => some (.ms j (if ver = o.ver then 1 else 0) off len esz x)
    | _, _ => none
  | .pt id ver off => match idx sel id, st[id]? with
    | some j, some o => some (.pt j (if ver = o.ver then 1 else 0) off)
    | _, _ => none
  | .agg ds => (locL sel st ds).map .agg
  | .tup ds => (locL sel st ds).map .tup
  | .fn f a b => match locL sel st a, locL sel st b with
    | some a, some b => some (.fn f a b)
    | _, _ => none
  | .yl _ | .mp .. | .mi .. => none
  | .er b => some (.er b)
  | .un => some .un
  | .c v => some (.c v)
  | .ap nl cs len esz => some (.ap nl cs len esz)
  | .ia cs off => some (.ia cs off)
def locL (sel : List Nat) (st : List Ob) : List DV → Option (List DV)
  | [] => some []
  | d :: ds => match locD sel st d, locL sel st ds with
    | some d, some ds => some (d :: ds)
    | _, _ => none
end
def locS (all : List Nat) (st : List Ob) : List Nat → Option (List Ob)
  | [] => some []
  | id :: ids => match st[id]? with
    | some o => if o.ver = 0 then none else match locL all st o.cs, locS all st ids with
      | some cs, some os => some (⟨1, cs⟩ :: os)
      | _, _ => none
    | none => none
mutual
/-- A value that comes back out of such a call. -/
def bkD (sel vs : List Nat) : DV → Option DV
  | .ms j ver off len esz x => match sel[j]?, vs[j]? with
    | some id, some v => some (.ms id (if ver = 0 then 0 else v + (ver - 1)) off len esz x)
    | _, _ => none
  | .pt j ver off => match sel[j]?, vs[j]? with
    | some id, some v => some (.pt id (if ver = 0 then 0 else v + (ver - 1)) off)
    | _, _ => none
  | .agg ds => (bkL sel vs ds).map .agg
  | .tup ds => (bkL sel vs ds).map .tup
  | .fn f a b => match bkL sel vs a, bkL sel vs b with
    | some a, some b => some (.fn f a b)
    | _, _ => none
  | .yl _ | .mp .. | .mi .. => none
  | .er b => some (.er b)
  | .un => some .un
  | .c v => some (.c v)
  | .ap nl cs len esz => some (.ap nl cs len esz)
  | .ia cs off => some (.ia cs off)
def bkL (sel vs : List Nat) : List DV → Option (List DV)
  | [] => some []
  | d :: ds => match bkD sel vs d, bkL sel vs ds with
    | some d, some ds => some (d :: ds)
    | _, _ => none
end
def versOf (st : List Ob) (sel : List Nat) : List Nat := sel.map fun id => match st[id]? with | some o => o.ver | none => 0
def putBack (sel vs : List Nat) : List Nat → List Nat → List Ob → List Ob → Option (List Ob)
  | [], [], _, st => some st
  | id :: ids, v :: ws, o :: os, st => match bkL sel vs o.cs with
    | some cs => putBack sel vs ids ws os (st.set id ⟨v + (o.ver - 1), cs⟩)
    | none => none
  | _, _, _, _ => none
/-- What is handed back, closed, as far as objects from k on go. -/
def closeK (k : Nat) : Nat → List Ob → DV → Option CV
  | 0, _, _ => none
  | _ + 1, _, .c v => some v
  | _ + 1, _, .ap nl cs len _ => some (.sl nl nl cs len)
  | n + 1, st, .agg ds => (closeList (closeK k n st) ds).map .agg
  | n + 1, st, .ms id ver off len esz x => if id < k then none else match getO st id ver with
    | some o => (span o.cs off (len * esz)).bind fun ds => (closeList (closeK k n st) ds).map fun cs => .sl false x cs len
    | none => none
  | _ + 1, _, _ => none
def closeTopK (k : Nat) (st : List Ob) : DV → Option DV
  | .c v => some (.c v)
  | .ap nl cs len esz => some (.ap nl cs len esz)
  | .tup ds => (closeList (closeK k 9 st) ds).map fun cs => .tup (cs.map .c)
  | d => (closeK k 9 st d).map .c
/-- The end of such a call: what it hands back, what became of the objects that it was handed. -/
def endL (k : Nat) (d : DV) (st : List Ob) : Option (DV × List Ob) :=
  if ((st.take k).all fun o => belowO k o) && decide (k ≤ st.length) then (if below k d then some (d, st.take k) else (closeTopK k st d).map fun d => (d, st.take k)) else none
def nodupB : List Nat → Bool
  | [] => true
  | x :: xs => (idx xs x).isNone && nodupB xs
def backL (sel : List Nat) (m : M) (d : DV) (os : List Ob) : Option (DV × M) :=
  match bkD sel (versOf m.st sel) d, putBack sel (versOf m.st sel) sel (versOf m.st sel) os m.st with
  | some d, some st => some (d, { m with st })
  | _, _ => none
def localD (rec : Rec) (sel : List Nat) (m : M) (f : FuncId) (args : List DV) : Option (DV × M) :=
  if !nodupB sel then none else
  match locS sel m.st sel, locL sel m.st args with
  | some st0, some args0 =>
    match rec.call [] f args0 ⟨st0, []⟩ with
    | some (d, m1) => match endL sel.length d m1.st with
      | some (d, os) => backL sel m d os
      | none => none
    | none => none
  | _, _ => none

/-- A call: on its own, where all that it is handed is closed (what it hands back is closed, or laid behind the store where the site says so); else on the store. -/
def callD (P : Program) (rec : Rec) (Γ : List (Nat × Ctx)) (keep : Bool) (lc : Option (List Nat)) (m : M) (f : FuncId) (args : List DV) : Option (DV × M) :=
  if !enters P f then none else
  match rec.prim f with
  | some p => (p m.st args).map fun r => (r.d, setM m r.set)
  | none =>
  if args.all isClosed then
    match rec.call [] f args ⟨[], []⟩ with
    | some (d, m') =>
      if keep then some (shift m.st.length m.pd.length d, ⟨m.st ++ m'.st.map fun o => shiftO m.st.length m.pd.length o, m.pd ++ m'.pd⟩)
      else (closeTop m'.st d).map fun d => (d, m)
    | none => none
  else match lc with
  | some sel => localD rec sel m f args
  | none =>
  if keep then (rec.call Γ f args m).bind fun (d, m') => (trimM m.st.length d m').map fun m' => (d, m')
  else rec.call Γ f args m

/-! ### one operation -/

def evs (fr : Nat → DV) (xs : List Operand) : List DV := xs.map (ev fr)
def evP (fr : Nat → DV) (xs : List (Nat × Operand)) : List (Nat × DV) := xs.map fun (i, x) => (i, ev fr x)
/-- An operand with the right that it may have. -/
def raw (fr : Nat → DV) : Operand → DV
  | .tmp t => fr t
  | x => ev fr x
def tmpOf : Operand → List Tmp
  | .tmp t => [t]
  | _ => []

def storeD (P : Program) (st : List Ob) (t : TypeId) (x v : DV) : Option (Nat × Ob) :=
  match x, cellsOf v, sizeT P t with
  | .pt id ver off, some vs, some k =>
    match getO st id ver with
    | some o => if vs.length = k ∧ off + k ≤ o.cs.length then some (id, ⟨ver, setL o.cs off vs⟩) else none
    | none => none
  | _, _, _ => none

structure Site where
  mv : Bool
  fz : Bool := false
  own : Bool
  id : Nat
  lc : Option (List Nat) := none
  nz : List (Nat × Nat) := []
def nzD (esz : Nat) : DV → DV
  | .c (.sl true true [] 0) => .ap true [] 0 esz
  | d => d
/-- Nil slices that will be grown. -/
def nzL : List (Nat × Nat) → List DV → List DV
  | [], cs => cs
  | (i, esz) :: nz, cs => nzL nz (match cs[i]? with | some d => cs.set i (nzD esz d) | none => cs)
def nz1 : List (Nat × Nat) → DV → DV
  | (_, esz) :: _, d => nzD esz d
  | [], d => d

/-- The same of an object that is written. -/
def nzO (nz : List (Nat × Nat)) (r : Out) : Out := match nz with
  | [] => r
  | nz => { r with set := r.set.map fun (id, o) => (id, ⟨o.ver, nzL nz o.cs⟩) }
def replD (n : Nat) (z : List DV) : List DV := (List.replicate n z).flatten

def val (d : Option DV) : Option Out := d.map fun d => { d }

/-- An object that nobody writes any more: its slice, closed; it is no object any more. -/
def freezeD (st : List Ob) : DV → Option Out
  | .ms id ver off len esz x => match getO st id ver with
    | some o => match (span o.cs off (len * esz)).bind closeL with
      | some cs => some { d := .c (.sl false x cs len), set := some (id, ⟨ver + 1, []⟩) }
      | none => none
    | none => none
  | _ => none

/-! ### maps -/
def getK (st : List Ob) (id ver : Nat) : Option MK :=
  match st[id]? with
  | some o => if o.ver = ver then o.mp.k else none
  | none => none
def layK (st : List Ob) (id : Nat) (k : MK) : Option (Nat × Ob) :=
  match st[id]? with
  | some o => some (id, mkOb (o.ver + 1) k)
  | none => none
/-- Are two keys the same? -/
def sameK : TypeDesc → Value → Value → Option Bool
  | .int _, .int k a, .int k' b => if k = k' then some (a == b) else none
  | .string, .string a, .string b => some (a.toList == b.toList)
  | .bool, .bool a, .bool b => some (a == b)
  | _, _, _ => none
def findK (d : TypeDesc) (k : Value) : List (DV × DV) → Nat → Option (Option (Nat × DV))
  | [], _ => some none
  | (.c (.sc k'), v) :: es, i => match sameK d k k' with
    | some true => some (some (i, v))
    | some false => findK d k es (i + 1)
    | none => none
  | _ :: _, _ => none
/-- A type's zero value. -/
def zeroV (P : Program) (t : TypeId) : Option DV := match P.info? t with
  | some i => i.zero.map ofVal
  | none => none
def okKey : TypeDesc → Value → Bool
  | .int k, .int k' _ => decide (k' = k)
  | .string, .string _ | .bool, .bool _ => true
  | _, _ => false
/-- A map's type and a key: the key's type, the elements' type, the key. -/
def mapT (P : Program) (t : TypeId) (i : DV) : Option (TypeDesc × TypeId × Value) := match P.underlying t, i with
  | some (.map kt et), .c (.sc k) => match P.underlying kt with
    | some d => if okKey d k then some (d, et, k) else none
    | none => none
  | _, _ => none
def isMapT (P : Program) (t : TypeId) : Bool := match P.underlying t with
  | some (.map _ _) => true
  | _ => false
def lookD (P : Program) (st : List Ob) (t : TypeId) (x i : DV) (ok : Bool) : Option DV :=
  match mapT P t i, x with
  | some (d, et, k), .mp id ver => match getK st id ver with
    | some (.map es) => match findK d k es 0 with
      | some (some (_, v)) => some (if ok then .tup [v, .c (.sc (.bool true))] else v)
      | some none => (zeroV P et).map fun z => if ok then .tup [z, .c (.sc (.bool false))] else z
      | none => none
    | _ => none
  | some (_, et, _), .c (.sc (.map none)) => (zeroV P et).map fun z => if ok then .tup [z, .c (.sc (.bool false))] else z
  | _, _ => none
def putK (P : Program) (st : List Ob) (t : TypeId) (x i y : DV) : Option (Nat × Ob) :=
  match mapT P t i, x with
  | some (d, _, k), .mp id ver => match getK st id ver with
    | some (.map es) => match findK d k es 0 with
      | some (some (j, _)) => some (id, mkOb ver (.map (es.set j (.c (.sc k), y))))
      | some none => some (id, mkOb ver (.map (es ++ [(.c (.sc k), y)])))
      | none => none
    | _ => none
  | _, _ => none
def iterD (P : Program) (st : List Ob) (id : Nat) (t : TypeId) (x : DV) : Option Out :=
  match x with
  | .mp mid mver => if isMapT P t then match getK st mid mver with
    | some (.map []) => (layK st id (.iter mid mver)).map fun e => { d := .mi id e.2.ver mid mver, set := some e }
    | some (.map (x :: es)) => (layK st id (.it mid mver (x :: es).length none (List.range (x :: es).length))).map fun e => { d := .mi id e.2.ver mid mver, set := some e }
    | _ => none
    else none
  | _ => none
def nextD (st : List Ob) (x : DV) : Option DV :=
  match x with
  | .mi id ver mid mver => match getK st id ver, getK st mid mver with
    | some (.iter mid' mver'), some (.map []) => if mid' = mid ∧ mver' = mver then some (.tup [.c (.sc (.bool false))]) else none
    | some (.it mid' mver' n _ []), some (.map es) => if mid' = mid ∧ mver' = mver ∧ es.length = n then some (.tup [.c (.sc (.bool false))]) else none
    | _, _ => none
  | _ => none
/-- The entry that was handed out last. -/
def entryD (st : List Ob) (x : DV) : Option DV :=
  match x with
  | .mi id ver mid mver => match getK st id ver, getK st mid mver with
    | some (.it mid' mver' n (some j) _), some (.map es) => if mid' = mid ∧ mver' = mver ∧ es.length = n then (es[j]?).map fun e => .tup [e.1, e.2] else none
    | _, _ => none
  | _ => none
def isMapOp : Op → Bool
  | .makeMap .. | .lookup .. | .mapUpdate .. | .insert .. | .range .. | .next .. | .entry _ => true
  | _ => false

/-- clear of an object. -/
def clearD (P : Program) (st : List Ob) (t : TypeId) (x : DV) : Option Out :=
  match P.underlying t, x with
  | some (.slice e), .ms id ver off len esz _ =>
    match zeroT P e, getO st id ver with
    | some z, some o =>
      if z.length = esz ∧ len ≠ 0 ∧ off + len * esz ≤ o.cs.length then
        some { d := .tup [], set := some (id, ⟨ver, setL o.cs off (replD len z)⟩) }
      else none
    | _, _ => none
  | _, _ => none

def opS (P : Program) (c : Site) (op : Op) (fr : Nat → DV) (st : List Ob) : Option Out :=
  match op with
  | .move x | .assign x =>
    if c.mv then some { d := nz1 c.nz (raw fr x), drop := tmpOf x }
    else if c.fz then freezeD st (ev fr x)
    else some { d := nz1 c.nz (ev fr x) }
  | .pick b x y => match ev fr b with
    | .c (.sc (.bool b)) => some { d := if b then ev fr x else ev fr y }
    | _ => none
  | .alloc t => (zeroT P t).bind fun cs => (lay st c.id (nzL c.nz cs)).map fun e => { d := .pt c.id e.2.ver 0, set := some e }
  | .box _ x => (cellsOf (ev fr x)).bind fun cs => (lay st c.id (nzL c.nz cs)).map fun e => { d := .pt c.id e.2.ver 0, set := some e }
  | .build t ps => match P.underlying t, zeroT P t with
    | some (.struct fs), some z => if fs.toList.all fun f => (sizeT P f.type).isSome then val ((fillD (fun i => (fs[i]?).bind fun fd => (sizeT P fd.type).map fun k => (fd.offset, k)) z (evP fr ps.toList)).map mkAgg) else none
    | some (.array _ e), some z => match sizeT P e with
      | some k => val ((fillD (fun i => some (i * k, k)) z (evP fr ps.toList)).map mkAgg)
      | none => none
    | _, _ => none
  | .buildSlice t n ps => match P.underlying t with
    | some (.slice e) => match sizeT P e, zeroT P e with
      | some k, some z =>
        if n * k > 2 ^ 24 ∨ z.length ≠ k then none else
        match fillD (fun i => some (i * k, k)) (replD n z) (evP fr ps.toList) with
        | none => none
        | some cs =>
          if c.own then (lay st c.id cs).map fun e => { d := .ms c.id e.2.ver 0 n k true, set := some e }
          else (closeL cs).map fun cs => { d := if c.nz.isEmpty then .c (.sl false true cs n) else .ap false cs n k }
      | _, _ => none
    | _ => none
  | .load t x =>
    if c.mv then
      match ev fr x, isAggT P t with
      | .pt id ver off, some false => match getO st id ver with
        | some o => (o.cs[off]?).map fun e => { d := e, set := some (id, ⟨ver, o.cs.set off (unflag e)⟩) }
        | none => none
      | _, _ => none
    else val (loadD P st t (ev fr x))
  | .store t x y =>
    if c.mv then ((storeD P st t (ev fr x) (raw fr y)).map fun e => ({ d := .tup [], set := some e, drop := tmpOf y } : Out)).map (nzO c.nz)
    else ((storeD P st t (ev fr x) (ev fr y)).map fun e => ({ d := .tup [], set := some e } : Out)).map (nzO c.nz)
  | .nilCheck x => match ev fr x with
    | .pt id ver off => some { d := .pt id ver off }
    | .ia cs off => some { d := .ia cs off }
    | .fn f a b => some { d := .fn f a b }
    | .yl k => some { d := .yl k }
    | _ => none
  | .binOp op t x y _ => val (binO P op t y (ev fr x) (ev fr y))
  | .unOp op _ x => val (unD op (ev fr x))
  | .convert a b x => val (convD P a b (ev fr x))
  | .makeFunc (.func f) xs ys => some { d := .fn f (evs fr xs.toList) (evs fr ys.toList) }
  | .makeSlice t l cp => match P.underlying t with
    | some (.slice e) => match P.info? e, zeroT P e, intD (ev fr l), intD (ev fr cp) with
      | some i, some z, some l, some cp =>
        if 0 ≤ l ∧ l ≤ cp ∧ cp ≤ 9223372036854775807 ∧ i.bytes * cp ≤ 281474976710656 ∧ z.length = i.size then
          if c.fz then (if l = cp then (closeL (replD l.toNat z)).map fun cs => { d := .c (.sl false true cs l.toNat) } else none)
          else (lay st c.id (replD l.toNat z)).map fun e => { d := .ms c.id e.2.ver 0 l.toNat i.size (l == cp), set := some e }
        else none
      | _, _, _, _ => none
    | _ => none
  | .slice t x lo hi mx => val (sliceD P st t (ev fr x) (lo.map (ev fr)) (hi.map (ev fr)) (mx.map (ev fr)))
  | .fieldAddr t x f => val (fieldAddrD P t (ev fr x) f)
  | .field t x f => val (fieldD P t (ev fr x) f)
  | .indexAddr t x i => val (indexAddrD P t (ev fr x) (ev fr i))
  | .index t x i => val (indexD P t (ev fr x) (ev fr i))
  | .extract x i => match ev fr x with
    | .tup ds => val ((ds[i]?).map unflag)
    | _ => none
  | .call k => match k.callee with
    | .builtin b => match b, k.args.toList with
      | .len, [x] => val (match k.argTypes[0]? with | some t => lenD P st t (ev fr x) | none => none)
      | .min, xs => val (minmax false (evs fr xs))
      | .max, xs => val (minmax true (evs fr xs))
      | .append, [x, y] => match k.argTypes[0]?, k.argTypes[1]? with
        | some t, some t2 =>
          if c.own then appendO P st c.id t t2 (ev fr x) (ev fr y)
          else (appendV P st t t2 (raw fr x) (ev fr y)).map fun d => { d, drop := match raw fr x with | .ap .. => tmpOf x | _ => [] }
        | _, _ => none
      | .copy, [x, y] => match k.argTypes[0]? with
        | some t => copyD P st t (ev fr x) (ev fr y)
        | none => none
      | .clear, [x] => match k.argTypes[0]? with
        | some t => clearD P st t (ev fr x)
        | none => none
      | _, _ => none
    | _ => none
  | .makeMap _ none => (layK st c.id (.map [])).map fun e => { d := .mp c.id e.2.ver, set := some e }
  | .lookup t x i ok => val (lookD P st t (ev fr x) (ev fr i) ok)
  | .mapUpdate t x i y | .insert t x i y => (putK P st t (ev fr x) (ev fr i) (ev fr y)).map fun e => { d := .un, set := some e }
  | .range t x => iterD P st c.id t (ev fr x)
  | .next x false => val (nextD st (ev fr x))
  | .entry x => val (entryD st (ev fr x))
  | _ => none

/-- The objects that an operation looks at or turns (true: it turns it). -/
def refsOf : DV → List Nat
  | .pt id _ _ | .ms id _ _ _ _ _ | .mp id _ => [id]
  | .mi id _ mid _ => [id, mid]
  | _ => []
def accS (c : Site) (op : Op) (fr : Nat → DV) : List (Nat × Bool) :=
  match op with
  | .move x | .assign x => if c.fz then (refsOf (ev fr x)).map fun i => (i, true) else []
  | .alloc _ | .box _ _ | .makeSlice .. => [(c.id, true)]
  | .buildSlice .. => if c.own then [(c.id, true)] else []
  | .load _ x => (refsOf (ev fr x)).map fun i => (i, c.mv)
  | .slice _ x _ _ _ => (refsOf (ev fr x)).map fun i => (i, false)
  | .store _ x _ => (refsOf (ev fr x)).map fun i => (i, true)
  | .makeMap .. => [(c.id, true)]
  | .lookup _ x _ _ => (refsOf (ev fr x)).map fun i => (i, false)
  | .mapUpdate _ x _ _ | .insert _ x _ _ => (refsOf (ev fr x)).map fun i => (i, true)
  | .range _ x => (c.id, true) :: (refsOf (ev fr x)).map fun i => (i, false)
  | .next x _ => (refsOf (ev fr x)).map fun i => (i, false)
  | .entry x => (refsOf (ev fr x)).map fun i => (i, false)
  | .call k => match k.callee, k.args.toList with
    | .builtin .append, [x, y] => (if c.own then (c.id, true) :: (refsOf (ev fr x)).map fun i => (i, true) else []) ++ (refsOf (ev fr y)).map fun i => (i, false)
    | .builtin .copy, [x, y] => ((refsOf (ev fr x)).map fun i => (i, true)) ++ (refsOf (ev fr y)).map fun i => (i, false)
    | .builtin .clear, [x] => (refsOf (ev fr x)).map fun i => (i, true)
    | _, _ => []
  | _ => []

/-! ### regions -/
def wantedD (ops : Array Oper) (o : Oper) (fr : Nat → DV) : Option Bool :=
  match o.guard with
  | none => some true
  | some (j, want) => match (ops[j]?).bind (·.dst) with
    | none => some false
    | some t => match fr t with
      | .c (.sc (.bool b)) => some (b == want)
      | .tup [] => some false
      | _ => none

def dstOk (nt : Nat) : Option Tmp → Bool
  | none => true
  | some t => t < nt

structure Reg where
  an : An
  f : FuncId
  nt : Nat
  rid : Nat
  ops : Array Oper
  base : Nat
  Γ : List (Nat × Ctx)

def Reg.site (g : Reg) (i : Nat) : Site := { mv := g.an.mv g.f g.rid i, fz := g.an.fz g.f g.rid i, own := g.an.own g.f g.rid i, lc := g.an.lc g.f g.rid i, nz := g.an.nz g.f g.rid i, id := (if g.an.abs g.f g.rid i then 0 else g.base) + g.an.id g.f g.rid i }

def dropL (fr : Nat → DV) : List Tmp → Nat → DV
  | [] => fr
  | t :: ts => dropL (upd fr t (unflag (fr t))) ts

/-- The callee of a call of a Go function, and what it is handed. -/
def calleeOf (fr : Nat → DV) : Op → Option (DV × List DV)
  | .call k => match k.callee with
    | .value g => some (ev fr g, evs fr k.args.toList)
    | _ => none
  | _ => none

def stepD (P : Program) (rec : Rec) (g : Reg) (i : Nat) (s : S) : Option S :=
  match g.ops[i]? with
  | none => some s
  | some o =>
    if !dstOk g.nt o.dst then none else
    match wantedD g.ops o s.fr with
    | none => none
    | some false => some { s with fr := put s.fr o.dst (.tup []) }
    | some true =>
      match calleeOf s.fr o.op with
      | some (.fn f xs ys, args) => (callD P rec g.Γ (g.site i).own (g.site i).lc s.m f (xs ++ args ++ ys)).map fun (d, m) => ⟨put s.fr o.dst d, m⟩
      | some (.yl j, args) => (rec.round g.Γ j args s.m).map fun (d, m) => ⟨put s.fr o.dst d, m⟩
      | some _ => none
      | none => (opS P (g.site i) o.op s.fr s.m.st).map fun r => ⟨put (dropL s.fr r.drop) o.dst r.d, setM s.m r.set⟩

def stepsD (P : Program) (rec : Rec) (g : Reg) : List Nat → S → Option S
  | [], s => some s
  | i :: is, s => match stepD P rec g i s with | some s' => stepsD P rec g is s' | none => none

/-! ### regions that draw their order -/
def looksOf (ops : Array Oper) (o : Oper) : List Tmp :=
  o.op.operands.toList.flatMap tmpOf ++ match o.guard with | some (j, _) => ((ops[j]?).bind (·.dst)).toList | none => []
/-- The slots that may lose their right. -/
def dropsOf (c : Site) : Op → List Tmp
  | .move x | .assign x => if c.mv then tmpOf x else []
  | .store _ _ y => if c.mv then tmpOf y else []
  | .call k => match k.callee, k.args.toList with
    | .builtin .append, [x, _] => if c.own then [] else tmpOf x
    | _, _ => []
  | _ => []
def touches (c : Site) (o : Oper) : List Tmp := o.dst.toList ++ dropsOf c o.op
def apartD (ops : Array Oper) (c : Site) (x : Oper) (c' : Site) (y : Oper) : Bool :=
  (touches c x).all (fun t => !(looksOf ops y).contains t && !(touches c' y).contains t) && (touches c' y).all (fun t => !(looksOf ops x).contains t)
def maskOf (acc : List Nat) : List Edge → Nat
  | [] => 0
  | e :: es => (1 <<< e.on) ||| acc.getD e.on 0 ||| maskOf acc es
/-- Who must come before whom, as bits. -/
def preds (ops : Array Oper) : List Nat :=
  ops.toList.foldl (init := []) fun acc o => acc ++ [maskOf acc (o.after.toList.filter fun e => Region.binds .any e)]
/-- The pairs that may come up in either order. -/
def loosePairs (ops : Array Oper) : List (Nat × Nat) :=
  let ps := preds ops
  (List.range ops.size).flatMap fun i => ((List.range i).filter fun j => !(ps.getD i 0).testBit j).map fun j => (j, i)
/-- A site without its objects' numbers. -/
def site0 (an : An) (f : FuncId) (rid i : Nat) : Site := { mv := an.mv f rid i, fz := an.fz f rid i, own := an.own f rid i, lc := an.lc f rid i, nz := an.nz f rid i, id := 0 }
def drawStaticO (an : An) (f : FuncId) (rid : Nat) (ops : Array Oper) : Bool :=
  (ops.toList.zipIdx.all fun (o, i) => o.after.toList.all fun e => !Region.binds .any e || decide (e.on < i)) &&
  (loosePairs ops).all fun (j, i) => match ops[j]?, ops[i]? with | some a, some b => apartD ops (site0 an f rid j) a (site0 an f rid i) b | _, _ => false
def drawStatic (g : Reg) : Bool := drawStaticO g.an g.f g.rid g.ops
/-- An operation that touches no object, whatever it is handed. -/
def quietOp (c : Site) : Op → Bool
  | .move _ | .assign _ => !c.fz
  | .pick .. | .build .. | .nilCheck _ | .binOp .. | .unOp .. | .convert .. | .makeFunc .. | .fieldAddr .. | .field .. | .indexAddr .. | .index .. | .extract .. => true
  | .buildSlice .. => !c.own
  | .call { callee := .builtin .len, .. } | .call { callee := .builtin .min, .. } | .call { callee := .builtin .max, .. } => true
  | _ => false
def loudPairsO (an : An) (f : FuncId) (rid : Nat) (ops : Array Oper) : List (Nat × Nat) :=
  (loosePairs ops).filter fun (j, i) => match ops[j]?, ops[i]? with | some a, some b => !quietOp (site0 an f rid j) a.op && !quietOp (site0 an f rid i) b.op | _, _ => true
def loudPairs (g : Reg) : List (Nat × Nat) := loudPairsO g.an g.f g.rid g.ops
theorem touches_site0 (g : Reg) (i : Nat) (o : Oper) : touches (site0 g.an g.f g.rid i) o = touches (g.site i) o := rfl
theorem quietOp_site0 (g : Reg) (i : Nat) (o : Op) : quietOp (site0 g.an g.f g.rid i) o = quietOp (g.site i) o := rfl

/-- What an operation touches, where it stands (none: whatever it likes). -/
def accD (rec : Rec) (g : Reg) (i : Nat) (fr : Nat → DV) : Option (List (Nat × Bool)) :=
  match g.ops[i]? with
  | none => some []
  | some o => match wantedD g.ops o fr with
    | some true => match calleeOf fr o.op with
      | some (.fn f xs ys, args) => match rec.prim f with
        | some _ => some (((xs ++ args ++ ys).flatMap refsOf).map fun i => (i, true))
        | none => if (xs ++ args ++ ys).all isClosed ∧ !(g.site i).own then some [] else
          match (xs ++ args ++ ys).all isClosed, (g.site i).lc with
          | false, some sel => some (sel.map fun id => (id, true))
          | _, _ => none
      | some _ => none
      | none => some (accS (g.site i) o.op fr)
    | _ => some []
def compat : Option (List (Nat × Bool)) → Option (List (Nat × Bool)) → Bool
  | some a, some b => a.all fun x => b.all fun y => (!x.2 && !y.2) || x.1 != y.1
  | _, _ => false
def stepsA (P : Program) (rec : Rec) (g : Reg) : List Nat → S → Option (S × List (Option (List (Nat × Bool))))
  | [], s => some (s, [])
  | i :: is, s =>
    match stepD P rec g i s with
    | some s' => (stepsA P rec g is s').map fun (r, as) => (r, accD rec g i s.fr :: as)
    | none => none

/-- A frame, as a short list. -/
def fl : List (Nat × DV) → Nat → DV
  | [], _ => .un
  | (u, d) :: l, t => if t = u then d else fl l t
def restr (l : List Nat) (fr : Nat → DV) : Nat → DV := fl (l.map fun t => (t, fr t))
theorem restr_at (l : List Nat) (fr : Nat → DV) (t : Nat) : restr l fr t = if l.contains t then fr t else .un := by
  unfold restr
  induction l with
  | nil => simp [fl]
  | cons u l ih =>
    simp only [List.map_cons, fl]
    by_cases h : t = u
    · subst h; simp
    · rw [if_neg h, ih]
      simp [h]
def leaveR (g : Reg) (s : S) : S := match g.an.live g.f g.rid with | some l => { s with fr := restr l s.fr } | none => s
def enterR (g : Reg) (s : S) : S := match g.an.n g.f g.rid with
  | 0 => s
  | n + 1 => { s with m := { s.m with st := s.m.st ++ List.replicate (n + 1) ⟨0, []⟩ } }

def regionD (P : Program) (rec : Rec) (an : An) (f nt : Nat) (Γ : List (Nat × Ctx)) (rid : Nat) (ops : Array Oper) (draw : Bool) (s : S) : Option S :=
  let g : Reg := { an, f, nt, rid, ops, base := s.m.st.length, Γ }
  if draw then
    if drawStatic g then
      match stepsA P rec g (List.range ops.size) (enterR g s) with
      | some (s', as) => if (loudPairs g).all fun (j, i) => compat (as.getD j none) (as.getD i none) then some (leaveR g s') else none
      | none => none
    else none
  else (stepsD P rec g (List.range ops.size) (enterR g s)).map (leaveR g)

/-! ### code -/
/-- Behind a round: only some slots are kept, and of the store what lay before the loop, if nothing that is kept leads beyond. -/
def cutS (l : Option (List Nat)) (n : Nat) (s : S) : Option S :=
  match l with
  | none => some s
  | some l => if (l.all fun t => below n (s.fr t)) && ((s.m.st.take n).all fun o => belowO n o) then
      some ⟨restr l s.fr, { s.m with st := s.m.st.take n }⟩ else none

def firstR : Code → Nat
  | .region id _ _ => id
  | .seq a b => match a with | .skip => firstR b | _ => firstR a
  | .cond _ a _ => firstR a
  | .block _ a => firstR a
  | .loop a => firstR a
  | .scope a => firstR a
  | _ => 0

def loopD (body : S → Option (Ex × S)) (l : Option (List Nat)) (m : Nat) : Nat → S → Option (Ex × S)
  | 0, _ => none
  | n + 1, s => match body s with
    | some (.normal, s') => match cutS l m s' with
      | some s'' => loopD body l m n s''
      | none => none
    | r => r

/-- What of a frame is looked at from a loop's head on. -/
def restrS : Option (List Nat) → S → S
  | none, s => s
  | some l, s => ⟨restr l s.fr, s.m⟩
def codeD (P : Program) (rec : Rec) (an : An) (f nt : Nat) (Γ : List (Nat × Ctx)) (k : Nat) : Code → S → Option (Ex × S)
  | .skip, s => some (.normal, s)
  | .region rid ops draw, s => (regionD P rec an f nt Γ rid ops draw s).map fun s => (.normal, s)
  | .seq a b, s => match codeD P rec an f nt Γ k a s with
    | some (.normal, s') => codeD P rec an f nt Γ k b s'
    | r => r
  | .cond x a b, s => match ev s.fr x with
    | .c (.sc (.bool true)) => codeD P rec an f nt Γ k a s
    | .c (.sc (.bool false)) => codeD P rec an f nt Γ k b s
    | _ => none
  | .block id a, s => match codeD P rec an f nt Γ k a s with
    | some (.exit id', s') => some (if id' = id then .normal else .exit id', s')
    | r => r
  | .loop a, s => loopD (fun s => codeD P rec an f nt Γ k a (restrS (an.rs f (firstR a)) s)) (an.cut f (firstR a)) s.m.st.length k s
  | .scope a, s => codeD P rec an f nt Γ k a s
  | .label _, s => some (.normal, s)
  | .exit id, s => some (.exit id, s)
  | .ret, s => some (.ret, s)
  | .rangeFunc g ps as body, s => match ev s.fr g with
    | .fn h xs ys =>
      if !enters P h then none else
      match rec.call ((s.m.pd.length, { f, nt, fr := fun t => unflag (s.fr t), params := ps, assign := as, body }) :: Γ) h (xs ++ [.yl s.m.pd.length] ++ ys) { s.m with pd := s.m.pd ++ [.normal] } with
      | some (_, m) => match m.pd[s.m.pd.length]? with
        | some e => match an.cut f (firstR body) with
          | some _ => (trimM s.m.st.length (.tup []) m).map fun m => (e, ⟨s.fr, m⟩)
          | none => some (e, ⟨s.fr, m⟩)
        | none => none
      | none => none
    | _ => none
  | _, _ => none

/-! ### functions -/
def resD (P : Program) (s : S) : List ResultVar → Option (List DV)
  | [] => some []
  | .tmp t :: rs => (resD P s rs).map (s.fr t :: ·)
  | .cell a t :: rs => match loadD P s.m.st t (unflag (s.fr a)), resD P s rs with
    | some d, some ds => some (d :: ds)
    | _, _ => none
def resOne : List DV → DV
  | [d] => d
  | ds => .tup (ds.map unflag)

def argFr (args : List DV) : Nat → DV := fun t => (args[t]?).getD .un

def callF (P : Program) (an : An) (rec : Rec) (k : Nat) (Γ : List (Nat × Ctx)) (f : FuncId) (args : List DV) (m : M) : Option (DV × M) :=
  match P.funcs[f]? with
  | none => none
  | some fn => match fn.body with
    | none => none
    | some c => match codeD P rec an f fn.ntmps Γ k c ⟨argFr args, m⟩ with
      | some (.exit _, _) => none
      | some (_, s) => (resD P s fn.results.toList).map fun ds => (resOne ds, s.m)
      | none => none

def setPs (fr : Nat → DV) : List (Tmp × DV) → Nat → DV
  | [] => fr
  | (t, d) :: r => setPs (upd fr t d) r

def without (Γ : List (Nat × Ctx)) (j : Nat) : List (Nat × Ctx) := Γ.filter fun x => x.1 != j
def ctxOf : List (Nat × Ctx) → Nat → Option Ctx
  | [], _ => none
  | (k, x) :: Γ, j => if k = j then some x else ctxOf Γ j

def roundF (P : Program) (an : An) (rec : Rec) (k : Nat) (Γ : List (Nat × Ctx)) (j : Nat) (args : List DV) (m : M) : Option (DV × M) :=
  match ctxOf Γ j with
  | none => none
  | some x =>
    if args.length ≠ x.params.size ∨ m.pd[j]? ≠ some .normal ∨ !(x.params.toList.all fun t => t < x.nt) then none else
    match codeD P rec an x.f x.nt (without Γ j) k x.assign ⟨setPs x.fr (x.params.toList.zip args), m⟩ with
    | some (.normal, s) => match codeD P rec an x.f x.nt (without Γ j) k x.body s with
      | some (.normal, s) => some (.c (.sc (.bool true)), { s.m with pd := s.m.pd.set j .normal })
      | some (e, s) => some (.c (.sc (.bool false)), { s.m with pd := s.m.pd.set j e })
      | none => none
    | _ => none

def evN (P : Program) (an : An) (pr : Prims) : Nat → Rec
  | 0 => ⟨fun _ _ _ _ => none, fun _ _ _ _ => none, pr⟩
  | k + 1 => ⟨fun Γ f args m => callF P an (evN P an pr k) k Γ f args m, fun Γ j args m => roundF P an (evN P an pr k) k Γ j args m, pr⟩

end Go.Abs
