/-
  Part of the proof: printed by the session's own program out of the program's form, or typed; it states no claim by itself.
-/
import Derived.RangeFuncLeaves
import Derived.Laws.OwnMore
import Derived.WalkKit
namespace Go.Abs
open Go
def Cz:Value->Bool
 | .bool _ | .int _ _ | .string _ | .nilFunc | .nilIface | .pointer none | .map none=>true
 | _=>false
inductive CV where
 | sc (v:Value)
 | agg (cs:List CV)
 | sl (nl x:Bool) (cs:List CV) (len:Nat)
 deriving Inhabited
inductive DV where
 | un
 | c (v:CV)
 | ap (nl:Bool) (cs:List CV) (len aV:Nat)
 | agg (ds:List DV)
 | aX (ds:List DV)
 | ms (id ver off len aV:Nat) (x:Bool)
 | pt (id ver off:Nat)
 | ia (cs:List CV) (off:Nat)
 | fn (f:FuncId) (first aqh:List DV)
 | yl (k:Nat)
 | er (b:Bool)
 | mp (id ver:Nat)
 | mi (id ver cj fh:Nat)
 deriving Inhabited
inductive MK where
 | map (es:List (DV×DV))
 | iter (id ver:Nat)
 | it (id ver n:Nat) (cur:Option Nat) (left:List Nat)
class Qg where k:Option MK
instance aqC:Qg:=⟨none⟩
structure Ob where
 ver:Nat
 cs:List DV
 [mp:Qg]
 deriving Inhabited
def vD (ver:Nat)(k:MK):Ob:={ ver,cs:=[],mp:=⟨some k⟩}
inductive Ex where
 | normal
 | exit (id:Nat)
 | ret
 deriving DecidableEq,Inhabited
structure M where
 st:List Ob
 pd:List Ex
structure S where
 fr:Nat->DV
 m:M
structure An where
 mv:FuncId->Nat->Nat->Bool
 fz:FuncId->Nat->Nat->Bool
 abs:FuncId->Nat->Nat->Bool
 own:FuncId->Nat->Nat->Bool
 id:FuncId->Nat->Nat->Nat
 n:FuncId->Nat->Nat
 live:FuncId->Nat->Option (List Nat)
 cut:FuncId->Nat->Option (List Nat)
 lc:FuncId->Nat->Nat->Option (List Nat):=fun _ _ _=>none
 nz:FuncId->Nat->Nat->List (Nat×Nat):=fun _ _ _=>[]
 rs:FuncId->Nat->Option (List Nat):=fun _ _=>none
def lD (fr:Nat->DV)(t:Nat)(d:DV):Nat->DV:=fun u=>if u=t then d else fr u
def put (fr:Nat->DV)(dst:Option Tmp)(d:DV):Nat->DV:=match dst with | some t=>lD fr t d | none=>fr
def bx:DV->DV
 | .ap nl cs len _=>.c (.sl nl nl cs len)
 | d=>d
def xL:DV->Option CV
 | .c v=>some v
 | .ap nl cs len _=>some (.sl nl nl cs len)
 | _=>none
def lS:List DV->Option (List CV)
 | []=>some []
 | d::ds=>match xL d,lS ds with
  | some c,some cs=>some (c::cs)
  | _,_=>none
def yG (ds:List DV):DV:=match lS ds with | some cs=>.c (.agg cs) | none=>.agg (ds.map bx)
def yM (v:Value):Option CV:=
 if Cz v then some (.sc v)else match v with | .slice none 0 0=>some (.sl true true [] 0) | _=>none
def yN:List Value->Option (List CV)
 | []=>some []
 | v::vs=>match yM v,yN vs with | some c,some cs=>some (c::cs) | _,_=>none
def CZ (v:Value):DV:=
 match v with
 | .agg vs=>match yN vs.toList with | some cs=>.c (.agg cs) | none=>.un
 | v=>match yM v with | some c=>.c c | none=>.un
def ev (fr:Nat->DV):Operand->DV
 | .tmp t=>bx (fr t)
 | .const v=>CZ v
 | .global _=>.un
 | .func f=>.fn f [] []
def nI:CV->Bool
 | .sc _ | .sl .. =>true
 | .agg _=>false
def bG:DV->Bool
 | .c v=>nI v
 | .ap .. | .ms .. | .pt .. | .fn .. | .yl _ | .mp .. =>true
 | _=>false
def cellsOf:DV->Option (List DV)
 | .c (.agg cs)=>if cs.all nI then some (cs.map .c)else none
 | .agg ds=>if ds.all bG then some ds else none
 | d=>if bG d then some [d]else none
def cT {α:Type}:List α->Nat->List α->List α
 | l,_,[]=>l
 | l,off,d::ds=>cT (l.set off d) (off+1) ds
def n5 (P:Program)(t:TypeId):Option Bool:=(P.underlying t).map fun | .struct _ | .array _ _=>true | _=>false
def cJ (P:Program)(t:TypeId):Option Nat:=(P.info? t).map (·.size)
def rZ (P:Program)(t:TypeId):Option (List DV):=
 match P.info? t with
 | some i=>match i.zero with
  | some z=>(yN z.cells.toList).map (·.map DV.c)
  | none=>none
 | none=>none
def hU (st:List Ob)(id ver:Nat):Option Ob:=
 match st[id]? with
 | some o=>if o.ver=ver then some o else none
 | none=>none
def span {α:Type}(l:List α)(off k:Nat):Option (List α):=if off+k≤l.length then some ((l.drop off).take k)else none
def oc (P:Program)(T:TypeId)(l:List DV)(off:Nat):Option DV:=
 match n5 P T,cJ P T with
 | some true,some k=>(span l off k).map yG
 | some false,_=>(l[off]?).map bx
 | _,_=>none
def rl (P:Program)(T:TypeId)(l:List CV)(off:Nat):Option DV:=
 match n5 P T,cJ P T with
 | some true,some k=>(span l off k).map fun cs=>.c (.agg cs)
 | some false,_=>(l[off]?).map .c
 | _,_=>none
def oY (place:Nat->Option (Nat×Nat))(cells:List DV):List (Nat×DV)->Option (List DV)
 | []=>some cells
 | (i,v)::rest=>
  match place i,cellsOf v with
  | some (off,size),some vs=>if vs.length=size∧off+vs.length≤cells.length then oY place (cT cells off vs) rest else none
  | _,_=>none
def iG (op:BinOp)(x y:Value):Option Value:=
 match op,x,y with
 | .shl,.int k a,.int _ b=>if b<0 then none else some (.int k (k.wrap (a * 2 ^ (min b.toNat k.bits))))
 | .shr,.int k a,.int _ b=>if b<0 then none else some (.int k (a.fdiv (2 ^ (min b.toNat k.bits))))
 | op,.int k a,.int k' b=>
  if k≠k' then none else
  match op with
  | .add=>some (.int k (k.wrap (a+b)))
  | .sub=>some (.int k (k.wrap (a - b)))
  | .mul=>some (.int k (k.wrap (a * b)))
  | .quo=>if b=0 then none else some (.int k (k.wrap (a.tdiv b)))
  | .rem=>if b=0 then none else some (.int k (a.tmod b))
  | .and=>some (.int k (k.wrap (BitVec.ofInt k.bits a&&& BitVec.ofInt k.bits b).toNat))
  | .or=>some (.int k (k.wrap (BitVec.ofInt k.bits a ||| BitVec.ofInt k.bits b).toNat))
  | .xor=>some (.int k (k.wrap (BitVec.ofInt k.bits a ^^^ BitVec.ofInt k.bits b).toNat))
  | .eql=>some (.bool (a==b))
  | .neq=>some (.bool (a != b))
  | .lss=>some (.bool (a<b))
  | .leq=>some (.bool (a≤b))
  | .gtr=>some (.bool (a>b))
  | .geq=>some (.bool (a≥b))
  | _=>none
 | op,.string a,.string b=>
  match op with
  | .add=>if((a.size+b.size:Nat):Int)>IntKind.i64.max then none else some (.string (a++b))
  | .eql=>some (.bool (a.toList==b.toList))
  | .neq=>some (.bool !(a.toList==b.toList))
  | .lss=>some (.bool (Op.bytesLess a.toList b.toList))
  | .leq=>some (.bool (Op.bytesLess a.toList b.toList || a.toList==b.toList))
  | .gtr=>some (.bool !(Op.bytesLess a.toList b.toList || a.toList==b.toList))
  | .geq=>some (.bool !(Op.bytesLess a.toList b.toList))
  | _=>none
 | _,_,_=>none
def eo.cut (P:Program)(t:TypeId)(cs:Array Value)(off:Nat):Option Value:=
 match P.underlying t with
 | some (.struct _) | some (.array _ _)=>(P.info? t).map fun i=>.agg (cs.extract off (off+i.size))
 | some _=>cs[off]?
 | none=>none
def qz (P:Program)(rec:TypeId->Value->Value->Option Bool)(xs ys:Array Value):List Field->Option Bool
 | []=>some true
 | f::fs=>
  if f.name≠ "_" then
   match eo.cut P f.type xs f.offset,eo.cut P f.type ys f.offset with
   | some a,some b=>match rec f.type a b with
    | some true=>qz P rec xs ys fs
    | r=>r
   | _,_=>none
  else qz P rec xs ys fs
def Bj (P:Program)(rec:TypeId->Value->Value->Option Bool)(elem size:Nat)(xs ys:Array Value):List Nat->Option Bool
 | []=>some true
 | i::is=>
  match eo.cut P elem xs (i * size),eo.cut P elem ys (i * size)with
  | some a,some b=>match rec elem a b with
   | some true=>Bj P rec elem size xs ys is
   | r=>r
  | _,_=>none
def eo (P:Program):Nat->TypeId->Value->Value->Option Bool
 | 0,_,_,_=>none
 | d+1,t,x,y=>
  match P.underlying t,x,y with
  | some .bool,.bool a,.bool b=>some (a==b)
  | some (.int _),.int k a,.int k' b=>if k=k' then some (a==b)else none
  | some .string,.string a,.string b=>some (a.toList==b.toList)
  | some (.struct fields),.agg xs,.agg ys=>if P.stoodInHeld t then none else qz P (eo P d) xs ys fields.toList
  | some (.array len elem),.agg xs,.agg ys=>
   match P.info? elem with
   | some i=>Bj P (eo P d) elem i.size xs ys (List.range len)
   | none=>none
  | _,_,_=>none
end Go.Abs
namespace Go.Abs
open Go
def jX:List CV->Option (List Value)
 | []=>some []
 | .sc v::cs=>(jX cs).map (v::·)
 | _::_=>none
def ot:CV->Option Value
 | .sc v=>some v
 | .agg cs=>(jX cs).map fun vs=>.agg vs.toArray
 | .sl .. =>none
def isIface (P:Program)(t:TypeId):Bool:=match P.underlying t with | some (.interface _)=>true | _=>false
def iJ (P:Program)(t:TypeId)(x y:DV):Option Bool:=
 match x,y with
 | .c (.sl nl _ _ _),.c (.sl true _ _ _)=>match P.underlying t with | some (.slice _)=>some nl | _=>none
 | .c (.sl true _ _ _),.c (.sl nl _ _ _)=>match P.underlying t with | some (.slice _)=>some nl | _=>none
 | .ms ..,.c (.sl true _ _ _)=>match P.underlying t with | some (.slice _)=>some false | _=>none
 | .c (.sl true _ _ _),.ms .. =>match P.underlying t with | some (.slice _)=>some false | _=>none
 | .pt ..,.c (.sc (.pointer none))=>match P.underlying t with | some (.pointer _)=>some false | _=>none
 | .c (.sc (.pointer none)),.pt .. =>match P.underlying t with | some (.pointer _)=>some false | _=>none
 | .c a,.c b=>match ot a,ot b with
  | some u,some v=>if P.eqGuardType P.depth t then none else eo P 10000 t u v
  | _,_=>none
 | _,_=>none
def uC (P:Program)(op:BinOp)(t:TypeId)(x y:DV):Option DV:=
 match x,y with
 | .c (.sc (.int k a)),.c (.sc (.int k' b))=>(iG op (.int k a) (.int k' b)).map fun v=>.c (.sc v)
 | .c (.sc (.string a)),.c (.sc (.string b))=>(iG op (.string a) (.string b)).map fun v=>.c (.sc v)
 | x,y=>match op with
  | .eql=>(iJ P t x y).map fun b=>.c (.sc (.bool b))
  | .neq=>(iJ P t x y).map fun b=>.c (.sc (.bool !b))
  | _=>none
def RW (P:Program)(op:BinOp)(t:TypeId)(b:Bool):Option DV:=
 match P.underlying t,op with
 | some (.interface _),.eql=>some (.c (.sc (.bool !b)))
 | some (.interface _),.neq=>some (.c (.sc (.bool b)))
 | _,_=>none
def A1 (P:Program)(op:BinOp)(t:TypeId)(oy:Operand)(x y:DV):Option DV:=
 match x,oy with
 | .er b,.const .nilIface=>RW P op t b
 | x,_=>uC P op t x y
def DA (op:UnOp)(x:DV):Option DV:=
 match op,x with
 | .not,.c (.sc (.bool b))=>some (.c (.sc (.bool !b)))
 | .neg,.c (.sc (.int k n))=>some (.c (.sc (.int k (k.wrap (0 - n)))))
 | _,_=>none
def Lz (P:Program)(src dst:TypeId)(x:DV):Option DV:=
 match P.underlying src,P.underlying dst,x with
 | some _,some (.int k),.c (.sc (.int _ n))=>some (.c (.sc (.int k (k.wrap n))))
 | some .string,some .string,.c (.sc (.string s))=>some (.c (.sc (.string s)))
 | _,_,_=>none
def ki:DV->Option Int
 | .c (.sc (.int _ n))=>some n
 | _=>none
def kA (len:Nat)(lo hi mx:Option DV):Option (Nat×Nat×Option Nat):=
 match(match mx with | none=>some none | some d=>(ki d).bind fun m=>if 0≤m∧m≤len then some (some m.toNat)else none)with
 | none=>none
 | some m=>
  match(match hi with | none=>some len | some d=>(ki d).bind fun h=>if 0≤h∧h≤(m.getD len:Nat)then some h.toNat else none)with
  | none=>none
  | some h=>
   match(match lo with | none=>some 0 | some d=>(ki d).bind fun l=>if 0≤l∧l≤(h:Nat)then some l.toNat else none)with
   | none=>none
   | some l=>if hi.isNone∧mx.isSome then none else some (l,h,m)
def xR (x:Bool)(len h:Nat):Option Nat->Bool
 | some m=>m==h
 | none=>x&&h==len
def pI (P:Program)(st:List Ob)(t:TypeId)(x:DV)(lo hi mx:Option DV):Option DV:=
 match P.underlying t,x with
 | some .string,.c (.sc (.string s))=>
  match mx with
  | some _=>none
  | none=>(kA s.size lo hi none).map fun(l,h,_)=>.c (.sc (.string (s.extract l h)))
 | some (.slice e),.c (.sl nl x cs len)=>
  match cJ P e,kA len lo hi mx with
  | some sz,some (l,h,m)=>(span cs (l * sz) ((h - l) * sz)).map fun ds=>.c (.sl nl (xR x len h m) ds (h - l))
  | _,_=>none
 | some (.slice e),.ms id ver off len aV x=>
  match cJ P e,kA len lo hi mx with
  | some sz,some (l,h,m)=>if sz=aV then some (.ms id ver (off+l * aV) (h - l) aV (xR x len h m))else none
  | _,_=>none
 | some (.array n e),.pt id ver off=>
  match cJ P e,kA n lo hi mx,hU st id ver with
  | some sz,some (l,h,m),some o=>if off+n * sz≤o.cs.length then some (.ms id ver (off+l * sz) (h - l) sz (xR true n h m))else none
  | _,_,_=>none
 | _,_=>none
def yt (P:Program)(t:TypeId)(x i:DV):Option DV:=
 match ki i with
 | none=>none
 | some i=>
  match P.underlying t,x with
  | some (.slice e),.c (.sl _ _ cs len)=>match cJ P e with | some sz=>if 0≤i∧i<len then some (.ia cs (i.toNat * sz))else none | none=>none
  | some (.slice e),.ms id ver off len aV _=>match cJ P e with | some sz=>if sz=aV∧0≤i∧i<len then some (.pt id ver (off+i.toNat * aV))else none | none=>none
  | some (.array n e),.pt id ver off=>match cJ P e with | some sz=>if 0≤i∧i<n then some (.pt id ver (off+i.toNat * sz))else none | none=>none
  | some (.array n e),.ia cs off=>match cJ P e with | some sz=>if 0≤i∧i<n then some (.ia cs (off+i.toNat * sz))else none | none=>none
  | _,_=>none
def M0 (P:Program)(t:TypeId)(x i:DV):Option DV:=
 match ki i with
 | none=>none
 | some i=>
  match P.underlying t,x with
  | some (.array n e),.c (.agg cs)=>match cJ P e with | some sz=>if 0≤i∧i<n then rl P e cs (i.toNat * sz)else none | none=>none
  | some (.array n e),.agg ds=>match cJ P e with | some sz=>if 0≤i∧i<n then oc P e ds (i.toNat * sz)else none | none=>none
  | some .string,.c (.sc (.string s))=>if 0≤i then(s[i.toNat]?).map fun b=>.c (.sc (.int .u8 b.toNat))else none
  | _,_=>none
def LY (P:Program)(s:TypeId)(x:DV)(f:Nat):Option DV:=
 match P.underlying s with
 | some (.struct fs)=>match fs[f]? with
  | some fd=>match cJ P fd.type with
   | some (_+1)=>match x with
    | .pt id ver off=>some (.pt id ver (off+fd.offset))
    | .ia cs off=>some (.ia cs (off+fd.offset))
    | _=>none
   | _=>none
  | none=>none
 | _=>none
def LZ (P:Program)(s:TypeId)(x:DV)(f:Nat):Option DV:=
 match P.underlying s with
 | some (.struct fs)=>match fs[f]? with
  | some fd=>match x with
   | .c (.agg cs)=>rl P fd.type cs fd.offset
   | .agg ds=>oc P fd.type ds fd.offset
   | _=>none
  | none=>none
 | _=>none
def iq (P:Program)(st:List Ob)(t:TypeId)(x:DV):Option DV:=
 match x with
 | .pt id ver off=>match hU st id ver with | some o=>oc P t o.cs off | none=>none
 | .ia cs off=>rl P t cs off
 | _=>none
def Ga (P:Program)(st:List Ob)(t:TypeId)(x:DV):Option DV:=
 match P.underlying t,x with
 | some .string,.c (.sc (.string s))=>some (.c (.sc (.int .i64 s.size)))
 | some (.slice _),.c (.sl _ _ _ len)=>some (.c (.sc (.int .i64 len)))
 | some (.slice _),.ms _ _ _ len _ _=>some (.c (.sc (.int .i64 len)))
 | some (.array n _),_=>some (.c (.sc (.int .i64 n)))
 | _,_=>let _:=st;none
def s6 (mx:Bool):List DV->Option DV
 | []=>none
 | d::ds=>go mx d ds
where
 go (mx:Bool) (x:DV):List DV->Option DV
 | []=>match x with | .c (.sc (.int _ _))=>some x | _=>none
 | y::ds=>match x,y with
  | .c (.sc (.int k a)),.c (.sc (.int _ b))=>go mx (.c (.sc (.int k (if mx then(if b>a then b else a)else if b<a then b else a)))) ds
  | _,_=>none
def gH (st:List Ob)(aV:Nat):DV->Option (Nat×List DV)
 | .c (.sl _ _ cs len)=>if cs.length=len * aV then some (len,cs.map .c)else none
 | .ms id ver off len e _=>match hU st id ver with
  | some o=>if e=aV then(span o.cs off (len * aV)).map fun ds=>(len,ds)else none
  | none=>none
 | _=>none
def mM (i:TypeInfo):Bool:=match i.zero with | some z=>z.cells.size==i.size | none=>false
def roomy (n bytes:Nat):Bool:=decide (n * bytes≤140737488355328)&&decide (n≤9223372036854775807)
structure Out where
 d:DV
 set:Option (Nat×Ob):=none
 drop:List Tmp:=[]
def lay (st:List Ob)(id:Nat)(cs:List DV):Option (Nat×Ob):=
 match st[id]? with
 | some o=>some (id,⟨o.ver+1,cs⟩)
 | none=>none
def oM (P:Program)(st:List Ob)(t t2:TypeId)(x y:DV):Option DV:=
 match P.underlying t,P.underlying t2 with
 | some (.slice e),some (.slice _)=>
  match P.info? e with
  | none=>none
  | some i=>
   if !mM i then none else
   match gH st i.size y with
   | none=>none
   | some (n,ys)=>
    match lS ys with
    | none=>none
    | some nJ=>
     match x with
     | .ap nl cs len aV=>if nl || aV==i.size then if roomy (len+n) i.bytes∧cs.length=len * i.size then some (.ap (nl&&n==0) (cs++nJ) (len+n) i.size)else none else none
     | .c (.sl nl true cs len)=>if roomy (len+n) i.bytes∧cs.length=len * i.size then some (if n=0 then .c (.sl nl true cs len)else .ap false (cs++nJ) (len+n) i.size)else none
     | _=>none
 | _,_=>none
def mN (P:Program)(st:List Ob)(fG:Nat)(t t2:TypeId)(x y:DV):Option Out:=
 match P.underlying t,P.underlying t2 with
 | some (.slice e),some (.slice _)=>
  match P.info? e with
  | none=>none
  | some i=>
   if !mM i then none else
   match gH st i.size y with
   | none=>none
   | some (n,ys)=>
    if n=0 then(match x with
     | .c (.sl false true [] 0)=>(lay st fG []).map fun e=>{ d:=.ms fG e.2.ver 0 0 i.size false,set:=some e}
     | _=>none)else
    match x with
    | .ms id ver off len aV _=>
     match hU st id ver with
     | some o=>if aV=i.size∧roomy (len+n) i.bytes then
       (span o.cs off (len * aV)).map fun bC=>{ d:=.ms id (ver+1) 0 (len+n) aV false,set:=some (id,⟨ver+1,bC++ys.map bx⟩)}
      else none
     | none=>none
    | .c (.sl _ true cs len)=>if roomy (len+n) i.bytes∧cs.length=len * i.size then
      (lay st fG (cs.map .c++ys.map bx)).map fun e=>{ d:=.ms fG e.2.ver 0 (len+n) i.size false,set:=some e}
     else none
    | _=>none
 | _,_=>none
def mR (P:Program)(st:List Ob)(t:TypeId)(x y:DV):Option Out:=
 match P.underlying t,x with
 | some (.slice e),.ms id ver off len aV _=>
  match cJ P e,hU st id ver with
  | some sz,some o=>
   match gH st sz y with
   | some (n,ys)=>
    if sz=aV∧off+(min n len) * aV≤o.cs.length then
     some { d:=.c (.sc (.int .i64 (min n len:Nat))),set:=some (id,⟨ver,cT o.cs off ((ys.take ((min n len) * aV)).map bx)⟩)}
    else none
   | none=>none
  | _,_=>none
 | _,_=>none
def eD (m:M):Option (Nat×Ob)->M
 | some (id,o)=>{ m with st:=m.st.set id o}
 | none=>m
structure Ctx where
 f:FuncId
 nt:Nat
 fr:Nat->DV
 params:Array Tmp
 assign:Code
 body:Code
abbrev xy:=FuncId->Option (List Ob->List DV->Option Out)
structure Rec where
 call:List (Nat×Ctx)->FuncId->List DV->M->Option (DV×M)
 round:List (Nat×Ctx)->Nat->List DV->M->Option (DV×M)
 nj:xy
mutual
def shift (n p:Nat):DV->DV
 | .ms id ver off len aV x=>.ms (id+n) ver off len aV x
 | .pt id ver off=>.pt (id+n) ver off
 | .agg ds=>.agg (gR n p ds)
 | .aX ds=>.aX (gR n p ds)
 | .fn f a b=>.fn f (gR n p a) (gR n p b)
 | .yl k=>.yl (k+p)
 | .er b=>.er b
 | .mp id ver=>.mp (id+n) ver
 | .mi id ver cj fh=>.mi (id+n) ver (cj+n) fh
 | .un=>.un
 | .c v=>.c v
 | .ap nl cs len aV=>.ap nl cs len aV
 | .ia cs off=>.ia cs off
def gR (n p:Nat):List DV->List DV
 | []=>[]
 | d::ds=>shift n p d::gR n p ds
end
def N7 (n p:Nat):List (DV×DV)->List (DV×DV)
 | []=>[]
 | (k,v)::es=>(shift n p k,shift n p v)::N7 n p es
def vS (n p:Nat):Option MK->Option MK
 | none=>none
 | some (.map es)=>some (.map (N7 n p es))
 | some (.iter id ver)=>some (.iter (id+n) ver)
 | some (.it id ver k cur left)=>some (.it (id+n) ver k cur left)
def tE (n p:Nat)(o:Ob):Ob:={ ver:=o.ver,cs:=gR n p o.cs,mp:=⟨vS n p o.mp.k⟩}
def fN (f:DV->Option CV):List DV->Option (List CV)
 | []=>some []
 | d::ds=>match f d,fN f ds with
  | some c,some cs=>some (c::cs)
  | _,_=>none
def dD:Nat->List Ob->DV->Option CV
 | 0,_,_=>none
 | _+1,_,.c v=>some v
 | _+1,_,.ap nl cs len _=>some (.sl nl nl cs len)
 | n+1,st,.agg ds=>(fN (dD n st) ds).map .agg
 | n+1,st,.ms id ver off len aV x=>match hU st id ver with
  | some o=>(span o.cs off (len * aV)).bind fun ds=>(fN (dD n st) ds).map fun cs=>.sl false x cs len
  | none=>none
 | _+1,_,_=>none
def eF (st:List Ob):DV->Option DV
 | .c v=>some (.c v)
 | .ap nl cs len aV=>some (.ap nl cs len aV)
 | .aX ds=>(fN (dD 9 st) ds).map fun cs=>.aX (cs.map .c)
 | d=>(dD 9 st d).map .c
mutual
def isClosed:DV->Bool
 | .c _ | .ap .. =>true
 | .fn _ a b=>Cx a&&Cx b
 | _=>false
def Cx:List DV->Bool
 | []=>true
 | d::ds=>isClosed d&&Cx ds
end
def enters (P:Program)(f:FuncId):Bool:=
 match P.funcs[f]? with
 | some fn=> !(fn.name== "runtime.NumGoroutine")&& !fn.body.isNone
 | none=>false
def below (m:Nat):DV->Bool
 | .pt id _ _ | .ms id _ _ _ _ _ | .mp id _=>id<m
 | .mi id _ cj _=>id<m&&cj<m
 | .agg ds | .aX ds=>go m ds
 | .fn _ a b=>go m a&&go m b
 | _=>true
where
 go (m:Nat):List DV->Bool
 | []=>true
 | d::ds=>below m d&&go m ds
def EO (m:Nat):List (DV×DV)->Bool
 | []=>true
 | (k,v)::es=>below m k&&below m v&&EO m es
def mQ (m:Nat)(o:Ob):Bool:=o.cs.all (below m)&&match o.mp.k with
 | none=>true
 | some (.map es)=>EO m es
 | some (.iter id _)=>id<m
 | some (.it id _ _ _ _)=>id<m
def zg (n:Nat)(d:DV)(m:M):Option M:=if below n d&&((m.st.take n).all fun o=>mQ n o)then some { m with st:=m.st.take n} else none
def idx:List Nat->Nat->Option Nat
 | [],_=>none
 | x::xs,y=>if x=y then some 0 else(idx xs y).map (·+1)
mutual
def cV (aA:List Nat)(st:List Ob):DV->Option DV
 | .ms id ver off len aV x=>match idx aA id,st[id]? with
  | some j,some o=>some (.ms j (if ver=o.ver then 1 else 0) off len aV x)
  | _,_=>none
 | .pt id ver off=>match idx aA id,st[id]? with
  | some j,some o=>some (.pt j (if ver=o.ver then 1 else 0) off)
  | _,_=>none
 | .agg ds=>(eI aA st ds).map .agg
 | .aX ds=>(eI aA st ds).map .aX
 | .fn f a b=>match eI aA st a,eI aA st b with
  | some a,some b=>some (.fn f a b)
  | _,_=>none
 | .yl _ | .mp .. | .mi .. =>none
 | .er b=>some (.er b)
 | .un=>some .un
 | .c v=>some (.c v)
 | .ap nl cs len aV=>some (.ap nl cs len aV)
 | .ia cs off=>some (.ia cs off)
def eI (aA:List Nat)(st:List Ob):List DV->Option (List DV)
 | []=>some []
 | d::ds=>match cV aA st d,eI aA st ds with
  | some d,some ds=>some (d::ds)
  | _,_=>none
end
def kL (all:List Nat)(st:List Ob):List Nat->Option (List Ob)
 | []=>some []
 | id::ids=>match st[id]? with
  | some o=>if o.ver=0 then none else match eI all st o.cs,kL all st ids with
   | some cs,some os=>some (⟨1,cs⟩::os)
   | _,_=>none
  | none=>none
mutual
def dm (aA vs:List Nat):DV->Option DV
 | .ms j ver off len aV x=>match aA[j]?,vs[j]? with
  | some id,some v=>some (.ms id (if ver=0 then 0 else v+(ver - 1)) off len aV x)
  | _,_=>none
 | .pt j ver off=>match aA[j]?,vs[j]? with
  | some id,some v=>some (.pt id (if ver=0 then 0 else v+(ver - 1)) off)
  | _,_=>none
 | .agg ds=>(eN aA vs ds).map .agg
 | .aX ds=>(eN aA vs ds).map .aX
 | .fn f a b=>match eN aA vs a,eN aA vs b with
  | some a,some b=>some (.fn f a b)
  | _,_=>none
 | .yl _ | .mp .. | .mi .. =>none
 | .er b=>some (.er b)
 | .un=>some .un
 | .c v=>some (.c v)
 | .ap nl cs len aV=>some (.ap nl cs len aV)
 | .ia cs off=>some (.ia cs off)
def eN (aA vs:List Nat):List DV->Option (List DV)
 | []=>some []
 | d::ds=>match dm aA vs d,eN aA vs ds with
  | some d,some ds=>some (d::ds)
  | _,_=>none
end
def gC (st:List Ob)(aA:List Nat):List Nat:=aA.map fun id=>match st[id]? with | some o=>o.ver | none=>0
def jD (aA vs:List Nat):List Nat->List Nat->List Ob->List Ob->Option (List Ob)
 | [],[],_,st=>some st
 | id::ids,v::ws,o::os,st=>match eN aA vs o.cs with
  | some cs=>jD aA vs ids ws os (st.set id ⟨v+(o.ver - 1),cs⟩)
  | none=>none
 | _,_,_,_=>none
def dY (k:Nat):Nat->List Ob->DV->Option CV
 | 0,_,_=>none
 | _+1,_,.c v=>some v
 | _+1,_,.ap nl cs len _=>some (.sl nl nl cs len)
 | n+1,st,.agg ds=>(fN (dY k n st) ds).map .agg
 | n+1,st,.ms id ver off len aV x=>if id<k then none else match hU st id ver with
  | some o=>(span o.cs off (len * aV)).bind fun ds=>(fN (dY k n st) ds).map fun cs=>.sl false x cs len
  | none=>none
 | _+1,_,_=>none
def kB (k:Nat)(st:List Ob):DV->Option DV
 | .c v=>some (.c v)
 | .ap nl cs len aV=>some (.ap nl cs len aV)
 | .aX ds=>(fN (dY k 9 st) ds).map fun cs=>.aX (cs.map .c)
 | d=>(dY k 9 st d).map .c
def nL (k:Nat)(d:DV)(st:List Ob):Option (DV×List Ob):=
 if((st.take k).all fun o=>mQ k o)&&decide (k≤st.length)then(if below k d then some (d,st.take k)else(kB k st d).map fun d=>(d,st.take k))else none
def nd:List Nat->Bool
 | []=>true
 | x::xs=>(idx xs x).isNone&&nd xs
def xG (aA:List Nat)(m:M)(d:DV)(os:List Ob):Option (DV×M):=
 match dm aA (gC m.st aA) d,jD aA (gC m.st aA) aA (gC m.st aA) os m.st with
 | some d,some st=>some (d,{ m with st})
 | _,_=>none
def vz (rec:Rec)(aA:List Nat)(m:M)(f:FuncId)(args:List DV):Option (DV×M):=
 if !nd aA then none else
 match kL aA m.st aA,eI aA m.st args with
 | some st0,some ky=>
  match rec.call [] f ky ⟨st0,[]⟩with
  | some (d,m1)=>match nL aA.length d m1.st with
   | some (d,os)=>xG aA m d os
   | none=>none
  | none=>none
 | _,_=>none
def jb (P:Program)(rec:Rec)(Γ:List (Nat×Ctx))(bp:Bool)(lc:Option (List Nat))(m:M)(f:FuncId)(args:List DV):Option (DV×M):=
 if !enters P f then none else
 match rec.nj f with
 | some p=>(p m.st args).map fun r=>(r.d,eD m r.set)
 | none=>
 if args.all isClosed then
  match rec.call [] f args ⟨[],[]⟩with
  | some (d,m')=>
   if bp then some (shift m.st.length m.pd.length d,⟨m.st++m'.st.map fun o=>tE m.st.length m.pd.length o,m.pd++m'.pd⟩)
   else(eF m'.st d).map fun d=>(d,m)
  | none=>none
 else match lc with
 | some aA=>vz rec aA m f args
 | none=>
 if bp then(rec.call Γ f args m).bind fun(d,m')=>(zg m.st.length d m').map fun m'=>(d,m')
 else rec.call Γ f args m
def ka (fr:Nat->DV)(xs:List Operand):List DV:=xs.map (ev fr)
def oU (fr:Nat->DV)(xs:List (Nat×Operand)):List (Nat×DV):=xs.map fun(i,x)=>(i,ev fr x)
def raw (fr:Nat->DV):Operand->DV
 | .tmp t=>fr t
 | x=>ev fr x
def iz:Operand->List Tmp
 | .tmp t=>[t]
 | _=>[]
def gS (P:Program)(st:List Ob)(t:TypeId)(x v:DV):Option (Nat×Ob):=
 match x,cellsOf v,cJ P t with
 | .pt id ver off,some vs,some k=>
  match hU st id ver with
  | some o=>if vs.length=k∧off+k≤o.cs.length then some (id,⟨ver,cT o.cs off vs⟩)else none
  | none=>none
 | _,_,_=>none
structure Site where
 mv:Bool
 fz:Bool:=false
 own:Bool
 id:Nat
 lc:Option (List Nat):=none
 nz:List (Nat×Nat):=[]
def kO (aV:Nat):DV->DV
 | .c (.sl true true [] 0)=>.ap true [] 0 aV
 | d=>d
def gq:List (Nat×Nat)->List DV->List DV
 | [],cs=>cs
 | (i,aV)::nz,cs=>gq nz (match cs[i]? with | some d=>cs.set i (kO aV d) | none=>cs)
def CX:List (Nat×Nat)->DV->DV
 | (_,aV)::_,d=>kO aV d
 | [],d=>d
def mj (nz:List (Nat×Nat))(r:Out):Out:=match nz with
 | []=>r
 | nz=>{ r with set:=r.set.map fun(id,o)=>(id,⟨o.ver,gq nz o.cs⟩)}
def jV (n:Nat)(z:List DV):List DV:=(List.replicate n z).flatten
def val (d:Option DV):Option Out:=d.map fun d=>{ d}
def mV (st:List Ob):DV->Option Out
 | .ms id ver off len aV x=>match hU st id ver with
  | some o=>match(span o.cs off (len * aV)).bind lS with
   | some cs=>some { d:=.c (.sl false x cs len),set:=some (id,⟨ver+1,[]⟩)}
   | none=>none
  | none=>none
 | _=>none
def mX (st:List Ob)(id ver:Nat):Option MK:=
 match st[id]? with
 | some o=>if o.ver=ver then o.mp.k else none
 | none=>none
def kj (st:List Ob)(id:Nat)(k:MK):Option (Nat×Ob):=
 match st[id]? with
 | some o=>some (id,vD (o.ver+1) k)
 | none=>none
def nn:TypeDesc->Value->Value->Option Bool
 | .int _,.int k a,.int k' b=>if k=k' then some (a==b)else none
 | .string,.string a,.string b=>some (a.toList==b.toList)
 | .bool,.bool a,.bool b=>some (a==b)
 | _,_,_=>none
def sC (d:TypeDesc)(k:Value):List (DV×DV)->Nat->Option (Option (Nat×DV))
 | [],_=>some none
 | (.c (.sc k'),v)::es,i=>match nn d k k' with
  | some true=>some (some (i,v))
  | some false=>sC d k es (i+1)
  | none=>none
 | _::_,_=>none
def zeroV (P:Program)(t:TypeId):Option DV:=match P.info? t with
 | some i=>i.zero.map CZ
 | none=>none
def GB:TypeDesc->Value->Bool
 | .int k,.int k' _=>decide (k'=k)
 | .string,.string _ | .bool,.bool _=>true
 | _,_=>false
def yE (P:Program)(t:TypeId)(i:DV):Option (TypeDesc×TypeId×Value):=match P.underlying t,i with
 | some (.map kt et),.c (.sc k)=>match P.underlying kt with
  | some d=>if GB d k then some (d,et,k)else none
  | none=>none
 | _,_=>none
def M3 (P:Program)(t:TypeId):Bool:=match P.underlying t with
 | some (.map _ _)=>true
 | _=>false
def yC (P:Program)(st:List Ob)(t:TypeId)(x i:DV)(ok:Bool):Option DV:=
 match yE P t i,x with
 | some (d,et,k),.mp id ver=>match mX st id ver with
  | some (.map es)=>match sC d k es 0 with
   | some (some (_,v))=>some (if ok then .aX [v,.c (.sc (.bool true))]else v)
   | some none=>(zeroV P et).map fun z=>if ok then .aX [z,.c (.sc (.bool false))]else z
   | none=>none
  | _=>none
 | some (_,et,_),.c (.sc (.map none))=>(zeroV P et).map fun z=>if ok then .aX [z,.c (.sc (.bool false))]else z
 | _,_=>none
def tv (P:Program)(st:List Ob)(t:TypeId)(x i y:DV):Option (Nat×Ob):=
 match yE P t i,x with
 | some (d,_,k),.mp id ver=>match mX st id ver with
  | some (.map es)=>match sC d k es 0 with
   | some (some (j,_))=>some (id,vD ver (.map (es.set j (.c (.sc k),y))))
   | some none=>some (id,vD ver (.map (es++[(.c (.sc k),y)])))
   | none=>none
  | _=>none
 | _,_=>none
def vq (P:Program)(st:List Ob)(id:Nat)(t:TypeId)(x:DV):Option Out:=
 match x with
 | .mp cj fh=>if M3 P t then match mX st cj fh with
  | some (.map [])=>(kj st id (.iter cj fh)).map fun e=>{ d:=.mi id e.2.ver cj fh,set:=some e}
  | some (.map (x::es))=>(kj st id (.it cj fh (x::es).length none (List.range (x::es).length))).map fun e=>{ d:=.mi id e.2.ver cj fh,set:=some e}
  | _=>none
  else none
 | _=>none
def CP (st:List Ob)(x:DV):Option DV:=
 match x with
 | .mi id ver cj fh=>match mX st id ver,mX st cj fh with
  | some (.iter mh s8),some (.map [])=>if mh=cj∧s8=fh then some (.aX [.c (.sc (.bool false))])else none
  | some (.it mh s8 n _ []),some (.map es)=>if mh=cj∧s8=fh∧es.length=n then some (.aX [.c (.sc (.bool false))])else none
  | _,_=>none
 | _=>none
def Bi (st:List Ob)(x:DV):Option DV:=
 match x with
 | .mi id ver cj fh=>match mX st id ver,mX st cj fh with
  | some (.it mh s8 n (some j) _),some (.map es)=>if mh=cj∧s8=fh∧es.length=n then(es[j]?).map fun e=>.aX [e.1,e.2]else none
  | _,_=>none
 | _=>none
def F2:Op->Bool
 | .makeMap .. | .lookup .. | .mapUpdate .. | .insert .. | .range .. | .next .. | .entry _=>true
 | _=>false
def oP (P:Program)(st:List Ob)(t:TypeId)(x:DV):Option Out:=
 match P.underlying t,x with
 | some (.slice e),.ms id ver off len aV _=>
  match rZ P e,hU st id ver with
  | some z,some o=>
   if z.length=aV∧len≠0∧off+len * aV≤o.cs.length then
    some { d:=.aX [],set:=some (id,⟨ver,cT o.cs off (jV len z)⟩)}
   else none
  | _,_=>none
 | _,_=>none
def aI (P:Program)(c:Site)(op:Op)(fr:Nat->DV)(st:List Ob):Option Out:=
 match op with
 | .move x | .assign x=>
  if c.mv then some { d:=CX c.nz (raw fr x),drop:=iz x}
  else if c.fz then mV st (ev fr x)
  else some { d:=CX c.nz (ev fr x)}
 | .pick b x y=>match ev fr b with
  | .c (.sc (.bool b))=>some { d:=if b then ev fr x else ev fr y}
  | _=>none
 | .alloc t=>(rZ P t).bind fun cs=>(lay st c.id (gq c.nz cs)).map fun e=>{ d:=.pt c.id e.2.ver 0,set:=some e}
 | .box _ x=>(cellsOf (ev fr x)).bind fun cs=>(lay st c.id (gq c.nz cs)).map fun e=>{ d:=.pt c.id e.2.ver 0,set:=some e}
 | .build t ps=>match P.underlying t,rZ P t with
  | some (.struct fs),some z=>if fs.toList.all fun f=>(cJ P f.type).isSome then val ((oY (fun i=>(fs[i]?).bind fun fd=>(cJ P fd.type).map fun k=>(fd.offset,k)) z (oU fr ps.toList)).map yG)else none
  | some (.array _ e),some z=>match cJ P e with
   | some k=>val ((oY (fun i=>some (i * k,k)) z (oU fr ps.toList)).map yG)
   | none=>none
  | _,_=>none
 | .buildSlice t n ps=>match P.underlying t with
  | some (.slice e)=>match cJ P e,rZ P e with
   | some k,some z=>
    if n * k>2 ^ 24∨z.length≠k then none else
    match oY (fun i=>some (i * k,k)) (jV n z) (oU fr ps.toList)with
    | none=>none
    | some cs=>
     if c.own then(lay st c.id cs).map fun e=>{ d:=.ms c.id e.2.ver 0 n k true,set:=some e}
     else(lS cs).map fun cs=>{ d:=if c.nz.isEmpty then .c (.sl false true cs n)else .ap false cs n k}
   | _,_=>none
  | _=>none
 | .load t x=>
  if c.mv then
   match ev fr x,n5 P t with
   | .pt id ver off,some false=>match hU st id ver with
    | some o=>(o.cs[off]?).map fun e=>{ d:=e,set:=some (id,⟨ver,o.cs.set off (bx e)⟩)}
    | none=>none
   | _,_=>none
  else val (iq P st t (ev fr x))
 | .store t x y=>
  if c.mv then((gS P st t (ev fr x) (raw fr y)).map fun e=>({ d:=.aX [],set:=some e,drop:=iz y}:Out)).map (mj c.nz)
  else((gS P st t (ev fr x) (ev fr y)).map fun e=>({ d:=.aX [],set:=some e}:Out)).map (mj c.nz)
 | .nilCheck x=>match ev fr x with
  | .pt id ver off=>some { d:=.pt id ver off}
  | .ia cs off=>some { d:=.ia cs off}
  | .fn f a b=>some { d:=.fn f a b}
  | .yl k=>some { d:=.yl k}
  | _=>none
 | .binOp op t x y _=>val (A1 P op t y (ev fr x) (ev fr y))
 | .unOp op _ x=>val (DA op (ev fr x))
 | .convert a b x=>val (Lz P a b (ev fr x))
 | .makeFunc (.func f) xs ys=>some { d:=.fn f (ka fr xs.toList) (ka fr ys.toList)}
 | .makeSlice t l cp=>match P.underlying t with
  | some (.slice e)=>match P.info? e,rZ P e,ki (ev fr l),ki (ev fr cp)with
   | some i,some z,some l,some cp=>
    if 0≤l∧l≤cp∧cp≤9223372036854775807∧i.bytes * cp≤281474976710656∧z.length=i.size then
     if c.fz then(if l=cp then(lS (jV l.toNat z)).map fun cs=>{ d:=.c (.sl false true cs l.toNat)} else none)
     else(lay st c.id (jV l.toNat z)).map fun e=>{ d:=.ms c.id e.2.ver 0 l.toNat i.size (l==cp),set:=some e}
    else none
   | _,_,_,_=>none
  | _=>none
 | .slice t x lo hi mx=>val (pI P st t (ev fr x) (lo.map (ev fr)) (hi.map (ev fr)) (mx.map (ev fr)))
 | .fieldAddr t x f=>val (LY P t (ev fr x) f)
 | .field t x f=>val (LZ P t (ev fr x) f)
 | .indexAddr t x i=>val (yt P t (ev fr x) (ev fr i))
 | .index t x i=>val (M0 P t (ev fr x) (ev fr i))
 | .extract x i=>match ev fr x with
  | .aX ds=>val ((ds[i]?).map bx)
  | _=>none
 | .call k=>match k.callee with
  | .builtin b=>match b,k.args.toList with
   | .len,[x]=>val (match k.argTypes[0]? with | some t=>Ga P st t (ev fr x) | none=>none)
   | .min,xs=>val (s6 false (ka fr xs))
   | .max,xs=>val (s6 true (ka fr xs))
   | .append,[x,y]=>match k.argTypes[0]?,k.argTypes[1]? with
    | some t,some t2=>
     if c.own then mN P st c.id t t2 (ev fr x) (ev fr y)
     else(oM P st t t2 (raw fr x) (ev fr y)).map fun d=>{ d,drop:=match raw fr x with | .ap .. =>iz x | _=>[]}
    | _,_=>none
   | .copy,[x,y]=>match k.argTypes[0]? with
    | some t=>mR P st t (ev fr x) (ev fr y)
    | none=>none
   | .clear,[x]=>match k.argTypes[0]? with
    | some t=>oP P st t (ev fr x)
    | none=>none
   | _,_=>none
  | _=>none
 | .makeMap _ none=>(kj st c.id (.map [])).map fun e=>{ d:=.mp c.id e.2.ver,set:=some e}
 | .lookup t x i ok=>val (yC P st t (ev fr x) (ev fr i) ok)
 | .mapUpdate t x i y | .insert t x i y=>(tv P st t (ev fr x) (ev fr i) (ev fr y)).map fun e=>{ d:=.un,set:=some e}
 | .range t x=>vq P st c.id t (ev fr x)
 | .next x false=>val (CP st (ev fr x))
 | .entry x=>val (Bi st (ev fr x))
 | _=>none
def refsOf:DV->List Nat
 | .pt id _ _ | .ms id _ _ _ _ _ | .mp id _=>[id]
 | .mi id _ cj _=>[id,cj]
 | _=>[]
def bA (c:Site)(op:Op)(fr:Nat->DV):List (Nat×Bool):=
 match op with
 | .move x | .assign x=>if c.fz then(refsOf (ev fr x)).map fun i=>(i,true)else[]
 | .alloc _ | .box _ _ | .makeSlice .. =>[(c.id,true)]
 | .buildSlice .. =>if c.own then[(c.id,true)]else[]
 | .load _ x=>(refsOf (ev fr x)).map fun i=>(i,c.mv)
 | .slice _ x _ _ _=>(refsOf (ev fr x)).map fun i=>(i,false)
 | .store _ x _=>(refsOf (ev fr x)).map fun i=>(i,true)
 | .makeMap .. =>[(c.id,true)]
 | .lookup _ x _ _=>(refsOf (ev fr x)).map fun i=>(i,false)
 | .mapUpdate _ x _ _ | .insert _ x _ _=>(refsOf (ev fr x)).map fun i=>(i,true)
 | .range _ x=>(c.id,true)::(refsOf (ev fr x)).map fun i=>(i,false)
 | .next x _=>(refsOf (ev fr x)).map fun i=>(i,false)
 | .entry x=>(refsOf (ev fr x)).map fun i=>(i,false)
 | .call k=>match k.callee,k.args.toList with
  | .builtin .append,[x,y]=>(if c.own then(c.id,true)::(refsOf (ev fr x)).map fun i=>(i,true)else[])++(refsOf (ev fr y)).map fun i=>(i,false)
  | .builtin .copy,[x,y]=>((refsOf (ev fr x)).map fun i=>(i,true))++(refsOf (ev fr y)).map fun i=>(i,false)
  | .builtin .clear,[x]=>(refsOf (ev fr x)).map fun i=>(i,true)
  | _,_=>[]
 | _=>[]
def oF (ops:Array Oper)(o:Oper)(fr:Nat->DV):Option Bool:=
 match o.guard with
 | none=>some true
 | some (j,want)=>match(ops[j]?).bind (·.dst)with
  | none=>some false
  | some t=>match fr t with
   | .c (.sc (.bool b))=>some (b==want)
   | .aX []=>some false
   | _=>none
def qv (nt:Nat):Option Tmp->Bool
 | none=>true
 | some t=>t<nt
structure de where
 an:An
 f:FuncId
 nt:Nat
 cd:Nat
 ops:Array Oper
 base:Nat
 Γ:List (Nat×Ctx)
def de.site (g:de)(i:Nat):Site:={ mv:=g.an.mv g.f g.cd i,fz:=g.an.fz g.f g.cd i,own:=g.an.own g.f g.cd i,lc:=g.an.lc g.f g.cd i,nz:=g.an.nz g.f g.cd i,id:=(if g.an.abs g.f g.cd i then 0 else g.base)+g.an.id g.f g.cd i}
def mS (fr:Nat->DV):List Tmp->Nat->DV
 | []=>fr
 | t::ts=>mS (lD fr t (bx (fr t))) ts
def cK (fr:Nat->DV):Op->Option (DV×List DV)
 | .call k=>match k.callee with
  | .value g=>some (ev fr g,ka fr k.args.toList)
  | _=>none
 | _=>none
def rq (P:Program)(rec:Rec)(g:de)(i:Nat)(s:S):Option S:=
 match g.ops[i]? with
 | none=>some s
 | some o=>
  if !qv g.nt o.dst then none else
  match oF g.ops o s.fr with
  | none=>none
  | some false=>some { s with fr:=put s.fr o.dst (.aX [])}
  | some true=>
   match cK s.fr o.op with
   | some (.fn f xs ys,args)=>(jb P rec g.Γ (g.site i).own (g.site i).lc s.m f (xs++args++ys)).map fun(d,m)=>⟨put s.fr o.dst d,m⟩
   | some (.yl j,args)=>(rec.round g.Γ j args s.m).map fun(d,m)=>⟨put s.fr o.dst d,m⟩
   | some _=>none
   | none=>(aI P (g.site i) o.op s.fr s.m.st).map fun r=>⟨put (mS s.fr r.drop) o.dst r.d,eD s.m r.set⟩
def wj (P:Program)(rec:Rec)(g:de):List Nat->S->Option S
 | [],s=>some s
 | i::is,s=>match rq P rec g i s with | some s'=>wj P rec g is s' | none=>none
def CI (ops:Array Oper)(o:Oper):List Tmp:=
 o.op.operands.toList.flatMap iz++match o.guard with | some (j,_)=>((ops[j]?).bind (·.dst)).toList | none=>[]
def xQ (c:Site):Op->List Tmp
 | .move x | .assign x=>if c.mv then iz x else[]
 | .store _ _ y=>if c.mv then iz y else[]
 | .call k=>match k.callee,k.args.toList with
  | .builtin .append,[x,_]=>if c.own then[]else iz x
  | _,_=>[]
 | _=>[]
def wz (c:Site)(o:Oper):List Tmp:=o.dst.toList++xQ c o.op
def Ql (ops:Array Oper)(c:Site)(x:Oper)(c':Site)(y:Oper):Bool:=
 (wz c x).all (fun t=> !(CI ops y).contains t&& !(wz c' y).contains t)&&(wz c' y).all (fun t=> !(CI ops x).contains t)
def vB (acc:List Nat):List Edge->Nat
 | []=>0
 | e::es=>(1<<<e.on) ||| acc.getD e.on 0 ||| vB acc es
def NU (ops:Array Oper):List Nat:=
 ops.toList.foldl (init:=[]) fun acc o=>acc++[vB acc (o.after.toList.filter fun e=>Region.binds .any e)]
def Gi (ops:Array Oper):List (Nat×Nat):=
 let ps:=NU ops
 (List.range ops.size).flatMap fun i=>((List.range i).filter fun j=> !(ps.getD i 0).testBit j).map fun j=>(j,i)
def y5 (an:An)(f:FuncId)(cd i:Nat):Site:={ mv:=an.mv f cd i,fz:=an.fz f cd i,own:=an.own f cd i,lc:=an.lc f cd i,nz:=an.nz f cd i,id:=0}
def E6 (an:An)(f:FuncId)(cd:Nat)(ops:Array Oper):Bool:=
 (ops.toList.zipIdx.all fun(o,i)=>o.after.toList.all fun e=> !Region.binds .any e || decide (e.on<i))&&
 (Gi ops).all fun(j,i)=>match ops[j]?,ops[i]? with | some a,some b=>Ql ops (y5 an f cd j) a (y5 an f cd i) b | _,_=>false
def xP (g:de):Bool:=E6 g.an g.f g.cd g.ops
def rm (c:Site):Op->Bool
 | .move _ | .assign _=> !c.fz
 | .pick .. | .build .. | .nilCheck _ | .binOp .. | .unOp .. | .convert .. | .makeFunc .. | .fieldAddr .. | .field .. | .indexAddr .. | .index .. | .extract .. =>true
 | .buildSlice .. => !c.own
 | .call { callee:=.builtin .len, .. } | .call { callee:=.builtin .min, .. } | .call { callee:=.builtin .max, .. }=>true
 | _=>false
def Nh (an:An)(f:FuncId)(cd:Nat)(ops:Array Oper):List (Nat×Nat):=
 (Gi ops).filter fun(j,i)=>match ops[j]?,ops[i]? with | some a,some b=> !rm (y5 an f cd j) a.op&& !rm (y5 an f cd i) b.op | _,_=>true
def CK (g:de):List (Nat×Nat):=Nh g.an g.f g.cd g.ops
theorem aii (g:de)(i:Nat)(o:Oper):wz (y5 g.an g.f g.cd i) o=wz (g.site i) o:=rfl
theorem afb (g:de)(i:Nat)(o:Op):rm (y5 g.an g.f g.cd i) o=rm (g.site i) o:=rfl
def k8 (rec:Rec)(g:de)(i:Nat)(fr:Nat->DV):Option (List (Nat×Bool)):=
 match g.ops[i]? with
 | none=>some []
 | some o=>match oF g.ops o fr with
  | some true=>match cK fr o.op with
   | some (.fn f xs ys,args)=>match rec.nj f with
    | some _=>some (((xs++args++ys).flatMap refsOf).map fun i=>(i,true))
    | none=>if(xs++args++ys).all isClosed∧ !(g.site i).own then some []else
     match(xs++args++ys).all isClosed,(g.site i).lc with
     | false,some aA=>some (aA.map fun id=>(id,true))
     | _,_=>none
   | some _=>none
   | none=>some (bA (g.site i) o.op fr)
  | _=>some []
def qu:Option (List (Nat×Bool))->Option (List (Nat×Bool))->Bool
 | some a,some b=>a.all fun x=>b.all fun y=>(!x.2&& !y.2) || x.1 != y.1
 | _,_=>false
def wh (P:Program)(rec:Rec)(g:de):List Nat->S->Option (S×List (Option (List (Nat×Bool))))
 | [],s=>some (s,[])
 | i::is,s=>
  match rq P rec g i s with
  | some s'=>(wh P rec g is s').map fun(r,as)=>(r,k8 rec g i s.fr::as)
  | none=>none
def fl:List (Nat×DV)->Nat->DV
 | [],_=>.un
 | (u,d)::l,t=>if t=u then d else fl l t
def tC (l:List Nat)(fr:Nat->DV):Nat->DV:=fl (l.map fun t=>(t,fr t))
theorem US (l:List Nat)(fr:Nat->DV)(t:Nat):tC l fr t=if l.contains t then fr t else .un:=by
 unfold tC
 induction l with
 | nil=>simp[fl]
 | cons u l ih=>
  simp only[List.map_cons,fl]
  by_cases h:t=u
  ·subst h;simp
  ·rw[if_neg h,ih]
   simp[h]
def vu (g:de)(s:S):S:=match g.an.live g.f g.cd with | some l=>{ s with fr:=tC l s.fr} | none=>s
def mU (g:de)(s:S):S:=match g.an.n g.f g.cd with
 | 0=>s
 | n+1=>{ s with m:={ s.m with st:=s.m.st++List.replicate (n+1) ⟨0,[]⟩}}
def yY (P:Program)(rec:Rec)(an:An)(f nt:Nat)(Γ:List (Nat×Ctx))(cd:Nat)(ops:Array Oper)(draw:Bool)(s:S):Option S:=
 let g:de:={ an,f,nt,cd,ops,base:=s.m.st.length,Γ}
 if draw then
  if xP g then
   match wh P rec g (List.range ops.size) (mU g s)with
   | some (s',as)=>if(CK g).all fun(j,i)=>qu (as.getD j none) (as.getD i none)then some (vu g s')else none
   | none=>none
  else none
 else(wj P rec g (List.range ops.size) (mU g s)).map (vu g)
def ss (l:Option (List Nat))(n:Nat)(s:S):Option S:=
 match l with
 | none=>some s
 | some l=>if(l.all fun t=>below n (s.fr t))&&((s.m.st.take n).all fun o=>mQ n o)then
  some ⟨tC l s.fr,{ s.m with st:=s.m.st.take n}⟩else none
def ep:Code->Nat
 | .region id _ _=>id
 | .seq a b=>match a with | .skip=>ep b | _=>ep a
 | .cond _ a _=>ep a
 | .block _ a=>ep a
 | .loop a=>ep a
 | .scope a=>ep a
 | _=>0
def n9 (body:S->Option (Ex×S))(l:Option (List Nat))(m:Nat):Nat->S->Option (Ex×S)
 | 0,_=>none
 | n+1,s=>match body s with
  | some (.normal,s')=>match ss l m s' with
   | some vR=>n9 body l m n vR
   | none=>none
  | r=>r
def km:Option (List Nat)->S->S
 | none,s=>s
 | some l,s=>⟨tC l s.fr,s.m⟩
def cq (P:Program)(rec:Rec)(an:An)(f nt:Nat)(Γ:List (Nat×Ctx))(k:Nat):Code->S->Option (Ex×S)
 | .skip,s=>some (.normal,s)
 | .region cd ops draw,s=>(yY P rec an f nt Γ cd ops draw s).map fun s=>(.normal,s)
 | .seq a b,s=>match cq P rec an f nt Γ k a s with
  | some (.normal,s')=>cq P rec an f nt Γ k b s'
  | r=>r
 | .cond x a b,s=>match ev s.fr x with
  | .c (.sc (.bool true))=>cq P rec an f nt Γ k a s
  | .c (.sc (.bool false))=>cq P rec an f nt Γ k b s
  | _=>none
 | .block id a,s=>match cq P rec an f nt Γ k a s with
  | some (.exit cr,s')=>some (if cr=id then .normal else .exit cr,s')
  | r=>r
 | .loop a,s=>n9 (fun s=>cq P rec an f nt Γ k a (km (an.rs f (ep a)) s)) (an.cut f (ep a)) s.m.st.length k s
 | .scope a,s=>cq P rec an f nt Γ k a s
 | .label _,s=>some (.normal,s)
 | .exit id,s=>some (.exit id,s)
 | .ret,s=>some (.ret,s)
 | .rangeFunc g ps as body,s=>match ev s.fr g with
  | .fn h xs ys=>
   if !enters P h then none else
   match rec.call ((s.m.pd.length,{ f,nt,fr:=fun t=>bx (s.fr t),params:=ps,assign:=as,body})::Γ) h (xs++[.yl s.m.pd.length]++ys) { s.m with pd:=s.m.pd++[.normal]} with
   | some (_,m)=>match m.pd[s.m.pd.length]? with
    | some e=>match an.cut f (ep body)with
     | some _=>(zg s.m.st.length (.aX []) m).map fun m=>(e,⟨s.fr,m⟩)
     | none=>some (e,⟨s.fr,m⟩)
    | none=>none
   | none=>none
  | _=>none
 | _,_=>none
def jW (P:Program)(s:S):List ResultVar->Option (List DV)
 | []=>some []
 | .tmp t::rs=>(jW P s rs).map (s.fr t::·)
 | .cell a t::rs=>match iq P s.m.st t (bx (s.fr a)),jW P s rs with
  | some d,some ds=>some (d::ds)
  | _,_=>none
def lA:List DV->DV
 | [d]=>d
 | ds=>.aX (ds.map bx)
def mO (args:List DV):Nat->DV:=fun t=>(args[t]?).getD .un
def A4 (P:Program)(an:An)(rec:Rec)(k:Nat)(Γ:List (Nat×Ctx))(f:FuncId)(args:List DV)(m:M):Option (DV×M):=
 match P.funcs[f]? with
 | none=>none
 | some fn=>match fn.body with
  | none=>none
  | some c=>match cq P rec an f fn.ntmps Γ k c ⟨mO args,m⟩with
   | some (.exit _,_)=>none
   | some (_,s)=>(jW P s fn.results.toList).map fun ds=>(lA ds,s.m)
   | none=>none
def np (fr:Nat->DV):List (Tmp×DV)->Nat->DV
 | []=>fr
 | (t,d)::r=>np (lD fr t d) r
def gD (Γ:List (Nat×Ctx))(j:Nat):List (Nat×Ctx):=Γ.filter fun x=>x.1 != j
def sr:List (Nat×Ctx)->Nat->Option Ctx
 | [],_=>none
 | (k,x)::Γ,j=>if k=j then some x else sr Γ j
def Db (P:Program)(an:An)(rec:Rec)(k:Nat)(Γ:List (Nat×Ctx))(j:Nat)(args:List DV)(m:M):Option (DV×M):=
 match sr Γ j with
 | none=>none
 | some x=>
  if args.length≠x.params.size∨m.pd[j]? ≠some .normal∨ !(x.params.toList.all fun t=>t<x.nt)then none else
  match cq P rec an x.f x.nt (gD Γ j) k x.assign ⟨np x.fr (x.params.toList.zip args),m⟩with
  | some (.normal,s)=>match cq P rec an x.f x.nt (gD Γ j) k x.body s with
   | some (.normal,s)=>some (.c (.sc (.bool true)),{ s.m with pd:=s.m.pd.set j .normal})
   | some (e,s)=>some (.c (.sc (.bool false)),{ s.m with pd:=s.m.pd.set j e})
   | none=>none
  | _=>none
def sv (P:Program)(an:An)(pr:xy):Nat->Rec
 | 0=>⟨fun _ _ _ _=>none,fun _ _ _ _=>none,pr⟩
 | k+1=>⟨fun Γ f args m=>A4 P an (sv P an pr k) k Γ f args m,fun Γ j args m=>Db P an (sv P an pr k) k Γ j args m,pr⟩
end Go.Abs
namespace Go.Abs
open Go
structure Fp where
 b:Nat
 off:Nat
 ext:Nat
 deriving Inhabited
def Fp.at (f:Fp)(i:Nat):Addr:=⟨f.b,f.off+i,none⟩
structure E where
 im:Addr->Prop
 w:World
 st:List Ob
 io:Nat->Fp
 la:List Nat
mutual
inductive RC (im:Addr->Prop)(w:World):CV->Value->Prop
 | sc {v:Value} (h:Cz v=true):RC im w (.sc v) v
 | agg {cs:List CV}{vs:List Value} (h:bh im w cs vs):RC im w (.agg cs) (.agg ⟨vs⟩)
 | nil {x:Bool}:RC im w (.sl true x [] 0) (.slice none 0 0)
 | sl {x:Bool}{cs:List CV}{vs:List Value}{a:Addr}{len cap:Nat} (h:bh im w cs vs)
  (hc:∀i v,vs[i]? =some v->w.cell? (a.add i)=some v∧im (a.add i)) (hl:len≤cap) (hx:x=true->cap=len):
  RC im w (.sl false x cs len) (.slice (some a) len cap)
inductive bh (im:Addr->Prop)(w:World):List CV->List Value->Prop
 | nil:bh im w [] []
 | cons {c:CV}{v:Value}{cs:List CV}{vs:List Value} (hk:nI c=true) (h:RC im w c v) (hs:bh im w cs vs):bh im w (c::cs) (v::vs)
end
def RX:Bool->Value->Prop
 | true,v=>∃t x,v= .iface t x
 | false,v=>v= .nilIface
mutual
inductive RD (e:E):(Addr->Prop)->DV->Value->Prop
 | un {s:Addr->Prop}{v:Value}:RD e s .un v
 | c {s:Addr->Prop}{c:CV}{v:Value} (h:RC e.im e.w c v):RD e s (.c c) v
 | iE {s:Addr->Prop}{aV:Nat}:RD e s (.ap true [] 0 aV) (.slice none 0 0)
 | ap {s:Addr->Prop}{cs:List CV}{vs:List Value}{b off len cap aV:Nat} (h:bh e.im e.w cs vs)
  (hc:∀i v,vs[i]? =some v->e.w.cell? ⟨b,off+i,none⟩=some v∧e.im ⟨b,off+i,none⟩) (hl:len≤cap) (hn:cs.length=len * aV)
  (hs:∀i,len * aV≤i->i<cap * aV->s ⟨b,off+i,none⟩):RD e s (.ap false cs len aV) (.slice (some ⟨b,off,none⟩) len cap)
 | agg {s:Addr->Prop}{ds:List DV}{vs:List Value} (hk:ds.all bG=true) (h:bd e ds vs):RD e s (.agg ds) (.agg ⟨vs⟩)
 | aX {s:Addr->Prop}{ds:List DV}{vs:List Value} (h:bd e ds vs):RD e s (.aX ds) (.tuple ⟨vs⟩)
 | ms {s:Addr->Prop}{id ver off len aV:Nat}{x:Bool}{a:Addr}{cap:Nat} (hid:id<e.st.length) (hl:len≤cap) (hx:x=true->cap=len)
  (hv:∀o,e.st[id]? =some o->ver≤o.ver∧(ver=o.ver->(cap=0∨a=(e.io id).at off)∧off+cap * aV≤(e.io id).ext)):
  RD e s (.ms id ver off len aV x) (.slice (some a) len cap)
 | pt {s:Addr->Prop}{id ver off:Nat}{a:Addr} (hid:id<e.st.length)
  (hv:∀o,e.st[id]? =some o->ver≤o.ver∧(ver=o.ver->a=(e.io id).at off)):RD e s (.pt id ver off) (.pointer (some a))
 | ia {s:Addr->Prop}{cs:List CV}{vs:List Value}{a:Addr}{off:Nat} (h:bh e.im e.w cs vs)
  (hc:∀i v,vs[i]? =some v->e.w.cell? (a.add i)=some v∧e.im (a.add i)):RD e s (.ia cs off) (.pointer (some (a.add off)))
 | fn {s:Addr->Prop}{f:FuncId}{xs ys:List DV}{us vs:List Value} (h1:bd e xs us) (h2:bd e ys vs):RD e s (.fn f xs ys) (.func (.func f) ⟨us⟩ ⟨vs⟩)
 | yl {s:Addr->Prop}{k l:Nat} (h:e.la[k]? =some l):RD e s (.yl k) (.func (.yield l) #[] #[])
 | er {s:Addr->Prop}{b:Bool}{v:Value} (h:RX b v):RD e s (.er b) v
 | mp {s:Addr->Prop}{id ver r:Nat} (hid:id<e.st.length) (hv:∀o,e.st[id]? =some o->ver≤o.ver∧(ver=o.ver->r=(e.io id).b)):RD e s (.mp id ver) (.map (some r))
 | mi {s:Addr->Prop}{id ver cj fh r:Nat} (hid:id<e.st.length) (hv:∀o,e.st[id]? =some o->ver≤o.ver∧(ver=o.ver->r=(e.io id).b)):RD e s (.mi id ver cj fh) (.pointer (some ⟨r,0,none⟩))
inductive bd (e:E):List DV->List Value->Prop
 | nil:bd e [] []
 | cons {d:DV}{v:Value}{ds:List DV}{vs:List Value} (h:RD e (fun _=>False) d v) (hs:bd e ds vs):bd e (d::ds) (v::vs)
end
structure Ext (e e':E):Prop where
 im:∀a,e.im a->e'.im a
 cell:∀a,e.im a->e'.w.cell? a=e.w.cell? a
 len:e.st.length≤e'.st.length
 ver:∀(id:Nat) o o',e.st[id]? =some o->e'.st[id]? =some o'->o.ver≤o'.ver∧(o.ver=o'.ver->e'.io id=e.io id)
 la:∀(k l:Nat),e.la[k]? =some l->e'.la[k]? =some l
theorem Ext.refl (e:E):Ext e e:=⟨fun _ h=>h,fun _ _=>rfl,Nat.le_refl _,fun id o o' h h'=>by rw[h]at h';cases h';exact⟨Nat.le_refl _,fun _=>rfl⟩,fun _ _ h=>h⟩
theorem Ext.trans {a b c:E}(h:Ext a b)(k:Ext b c):Ext a c:=
 ⟨fun x hx=>k.im x (h.im x hx),fun x hx=>(k.cell x (h.im x hx)).trans (h.cell x hx),Nat.le_trans h.len k.len,
  fun id o o' ho du=>by
   have aQ:id<a.st.length:=(List.getElem?_eq_some_iff.1 ho).1
   obtain⟨o1,h1⟩:∃o1,b.st[id]? =some o1:=⟨_,List.getElem?_eq_getElem (Nat.lt_of_lt_of_le aQ h.len)⟩
   obtain⟨p1,q1⟩:=h.ver id o o1 ho h1
   obtain⟨p2,q2⟩:=k.ver id o1 o' h1 du
   exact⟨Nat.le_trans p1 p2,fun e=>(q2 (by omega)).trans (q1 (by omega))⟩,
  fun a b hh=>k.la a b (h.la a b hh)⟩
mutual
theorem RC.mono {im im':Addr->Prop}{w w':World}(h1:∀a,im a->im' a)(h2:∀a,im a->w'.cell? a=w.cell? a){c:CV}{v:Value}:RC im w c v->RC im' w' c v
 | .sc h=>.sc h
 | .agg h=>.agg (bh.mono h1 h2 h)
 | .nil=>.nil
 | .sl h hc hl hx=>.sl (bh.mono h1 h2 h) (fun i v hv=>⟨(h2 _ (hc i v hv).2).trans (hc i v hv).1,h1 _ (hc i v hv).2⟩) hl hx
theorem bh.mono {im im':Addr->Prop}{w w':World}(h1:∀a,im a->im' a)(h2:∀a,im a->w'.cell? a=w.cell? a){cs:List CV}{vs:List Value}:bh im w cs vs->bh im' w' cs vs
 | .nil=>.nil
 | .cons hk h hs=>.cons hk (RC.mono h1 h2 h) (bh.mono h1 h2 hs)
end
mutual
theorem RD.mono {e e':E}(x:Ext e e'){s s':Addr->Prop}(MN:∀a,s a->s' a){d:DV}{v:Value}:RD e s d v->RD e' s' d v
 | .un=>.un
 | .c h=>.c (h.mono x.im x.cell)
 | .iE=>.iE
 | .ap h hc hl hn hs=>.ap (h.mono x.im x.cell) (fun i v hv=>⟨(x.cell _ (hc i v hv).2).trans (hc i v hv).1,x.im _ (hc i v hv).2⟩) hl hn (fun i h1 h2=>MN _ (hs i h1 h2))
 | .agg hk h=>.agg hk (bd.mono x h)
 | .aX h=>.aX (bd.mono x h)
 | .ms (id:=id) hid hl hx hv=>.ms (Nat.lt_of_lt_of_le hid x.len) hl hx fun o' du=>by
  obtain⟨o,ho⟩:∃o,e.st[id]? =some o:=⟨_,List.getElem?_eq_getElem hid⟩
  obtain⟨p,q⟩:=x.ver id o o' ho du
  obtain⟨p1,q1⟩:=hv o ho
  refine⟨Nat.le_trans p1 p,fun hh=>?_⟩
  have e1:o.ver=o'.ver:=by omega
  rw[q e1]
  exact q1 (by omega)
 | .pt (id:=id) hid hv=>.pt (Nat.lt_of_lt_of_le hid x.len) fun o' du=>by
  obtain⟨o,ho⟩:∃o,e.st[id]? =some o:=⟨_,List.getElem?_eq_getElem hid⟩
  obtain⟨p,q⟩:=x.ver id o o' ho du
  obtain⟨p1,q1⟩:=hv o ho
  refine⟨Nat.le_trans p1 p,fun hh=>?_⟩
  have e1:o.ver=o'.ver:=by omega
  rw[q e1]
  exact q1 (by omega)
 | .ia h hc=>.ia (h.mono x.im x.cell) (fun i v hv=>⟨(x.cell _ (hc i v hv).2).trans (hc i v hv).1,x.im _ (hc i v hv).2⟩)
 | .fn h1 h2=>.fn (bd.mono x h1) (bd.mono x h2)
 | .yl h=>.yl (x.la _ _ h)
 | .er h=>.er h
 | .mp (id:=id) hid hv=>.mp (Nat.lt_of_lt_of_le hid x.len) fun o' du=>by
  obtain⟨o,ho⟩:∃o,e.st[id]? =some o:=⟨_,List.getElem?_eq_getElem hid⟩
  obtain⟨p,q⟩:=x.ver id o o' ho du
  obtain⟨p1,q1⟩:=hv o ho
  refine⟨Nat.le_trans p1 p,fun hh=>?_⟩
  have e1:o.ver=o'.ver:=by omega
  rw[q e1]
  exact q1 (by omega)
 | .mi (id:=id) hid hv=>.mi (Nat.lt_of_lt_of_le hid x.len) fun o' du=>by
  obtain⟨o,ho⟩:∃o,e.st[id]? =some o:=⟨_,List.getElem?_eq_getElem hid⟩
  obtain⟨p,q⟩:=x.ver id o o' ho du
  obtain⟨p1,q1⟩:=hv o ho
  refine⟨Nat.le_trans p1 p,fun hh=>?_⟩
  have e1:o.ver=o'.ver:=by omega
  rw[q e1]
  exact q1 (by omega)
theorem bd.mono {e e':E}(x:Ext e e'){ds:List DV}{vs:List Value}:bd e ds vs->bd e' ds vs
 | .nil=>.nil
 | .cons h hs=>.cons (h.mono x (fun _ h=>h)) (bd.mono x hs)
end
theorem RD.fV {e:E}{s s':Addr->Prop}(MN:∀a,s a->s' a){d:DV}{v:Value}(h:RD e s d v):RD e s' d v:=h.mono (Ext.refl e) MN
theorem RD.bx {e:E}{s s':Addr->Prop}{d:DV}{v:Value}(h:RD e s d v):RD e s' (Abs.bx d) v:=by
 cases h with
 | un=>exact .un
 | c h=>exact .c h
 | iE=>exact .c .nil
 | ap h hc hl hn hs=>
  refine .c (.sl (a:=⟨_,_,none⟩) h (fun i v hv=>?_) hl (fun h=>by cases h))
  have:=hc i v hv
  unfold Addr.add
  split
  ·rename_i h0;subst h0;simpa using this
  ·simpa using this
 | agg hk h=>exact .agg hk h
 | aX h=>exact .aX h
 | ms hid hl hx hv=>exact .ms hid hl hx hv
 | pt hid hv=>exact .pt hid hv
 | ia h hc=>exact .ia h hc
 | fn h1 h2=>exact .fn h1 h2
 | yl h=>exact .yl h
 | er h=>exact .er h
 | mp h1 h2=>exact .mp h1 h2
 | mi h1 h2=>exact .mi h1 h2
theorem bh.length {im:Addr->Prop}{w:World}:∀{cs:List CV}{vs:List Value},bh im w cs vs->cs.length=vs.length
 | _,_,.nil=>rfl
 | _,_,.cons _ _ hs=>by simp[hs.length]
theorem bd.length {e:E}:∀{cs:List DV}{vs:List Value},bd e cs vs->cs.length=vs.length
 | _,_,.nil=>rfl
 | _,_,.cons _ hs=>by simp[hs.length]
theorem bh.get {im:Addr->Prop}{w:World}:∀{cs:List CV}{vs:List Value},bh im w cs vs->∀{i:Nat}{c:CV},cs[i]? =some c->∃v,vs[i]? =some v∧RC im w c v
 | _,_,.nil,i,c,h=>by simp at h
 | _,_,.cons _ h hs,0,c,e=>by simp at e;subst e;exact⟨_,rfl,h⟩
 | _,_,.cons _ h hs,i+1,c,e=>by simp at e;simpa using hs.get e
theorem bh.ok {im:Addr->Prop}{w:World}:∀{cs:List CV}{vs:List Value},bh im w cs vs->∀{i:Nat}{c:CV},cs[i]? =some c->nI c=true
 | _,_,.nil,i,c,h=>by simp at h
 | _,_,.cons hk h hs,0,c,e=>by simp at e;subst e;exact hk
 | _,_,.cons hk h hs,i+1,c,e=>by simp at e;exact hs.ok e
theorem bd.get {e:E}:∀{cs:List DV}{vs:List Value},bd e cs vs->∀{i:Nat}{c:DV},cs[i]? =some c->∃v,vs[i]? =some v∧RD e (fun _=>False) c v
 | _,_,.nil,i,c,h=>by simp at h
 | _,_,.cons h hs,0,c,ee=>by simp at ee;subst ee;exact⟨_,rfl,h⟩
 | _,_,.cons h hs,i+1,c,ee=>by simp at ee;simpa using hs.get ee
theorem bd.C0 {e:E}:∀{cs:List DV}{vs:List Value},cs.length=vs.length->(∀(i:Nat) (c:DV) (v:Value),cs[i]? =some c->vs[i]? =some v->RD e (fun _=>False) c v)->bd e cs vs
 | [],[],_,_=>.nil
 | c::cs,v::vs,hl,h=>.cons (h 0 c v rfl rfl) (bd.C0 (by simpa using hl) fun i c' v' hc hv=>h (i+1) c' v' (by simpa using hc) (by simpa using hv))
 | [],_::_,hl,_=>by simp at hl
 | _::_,[],hl,_=>by simp at hl
theorem bh.append {im:Addr->Prop}{w:World}:∀{cs ds:List CV}{vs us:List Value},bh im w cs vs->bh im w ds us->bh im w (cs++ds) (vs++us)
 | _,_,_,_,.nil,h=>h
 | _,_,_,_,.cons k a b,h=>.cons k a (b.append h)
theorem bd.append {e:E}:∀{cs ds:List DV}{vs us:List Value},bd e cs vs->bd e ds us->bd e (cs++ds) (vs++us)
 | _,_,_,_,.nil,h=>h
 | _,_,_,_,.cons a b,h=>.cons a (b.append h)
theorem bh.drop {im:Addr->Prop}{w:World}:∀{cs:List CV}{vs:List Value} (k:Nat),bh im w cs vs->bh im w (cs.drop k) (vs.drop k)
 | _,_,0,h=>by simpa using h
 | _,_,k+1,.nil=>by simpa using .nil
 | _,_,k+1,.cons _ a b=>by simpa using b.drop k
theorem bh.take {im:Addr->Prop}{w:World}:∀{cs:List CV}{vs:List Value} (k:Nat),bh im w cs vs->bh im w (cs.take k) (vs.take k)
 | _,_,0,h=>by simpa using .nil
 | _,_,k+1,.nil=>by simpa using .nil
 | _,_,k+1,.cons hk a b=>by simpa using .cons hk a (b.take k)
theorem bd.drop {e:E}:∀{cs:List DV}{vs:List Value} (k:Nat),bd e cs vs->bd e (cs.drop k) (vs.drop k)
 | _,_,0,h=>by simpa using h
 | _,_,k+1,.nil=>by simpa using .nil
 | _,_,k+1,.cons a b=>by simpa using b.drop k
theorem bd.take {e:E}:∀{cs:List DV}{vs:List Value} (k:Nat),bd e cs vs->bd e (cs.take k) (vs.take k)
 | _,_,0,h=>by simpa using .nil
 | _,_,k+1,.nil=>by simpa using .nil
 | _,_,k+1,.cons a b=>by simpa using .cons a (b.take k)
theorem bh.CM {e:E}:∀{cs:List CV}{vs:List Value},bh e.im e.w cs vs->bd e (cs.map .c) vs
 | _,_,.nil=>.nil
 | _,_,.cons _ a b=>.cons (.c a) b.CM
theorem aaF {e:E}{s:Addr->Prop}{d:DV}{c:CV}{v:Value}(h:xL d=some c)(r:RD e s d v):RC e.im e.w c v:=by
 cases d<;>simp[xL]at h
 ·subst h;cases r;assumption
 ·subst h
  have:=r.bx (s':=s)
  simp only[Abs.bx]at this
  cases this;assumption
theorem aaE {d:DV}{c:CV}(h:xL d=some c)(hk:bG d=true):nI c=true:=by
 cases d<;>simp[xL]at h<;>subst h
 ·exact hk
 ·rfl
inductive j4 (e:E):List DV->List Value->Prop
 | nil:j4 e [] []
 | cons {s:Addr->Prop}{d:DV}{v:Value}{ds:List DV}{vs:List Value} (h:RD e s d v) (hs:j4 e ds vs):j4 e (d::ds) (v::vs)
theorem bd.w {e:E}:∀{ds:List DV}{vs:List Value},bd e ds vs->j4 e ds vs
 | _,_,.nil=>.nil
 | _,_,.cons a b=>.cons a b.w
theorem j4.C0 {e:E}:∀{cs:List DV}{vs:List Value},cs.length=vs.length->(∀(i:Nat) (c:DV) (v:Value),cs[i]? =some c->vs[i]? =some v->∃s,RD e s c v)->j4 e cs vs
 | [],[],_,_=>.nil
 | c::cs,v::vs,hl,h=>by
  obtain⟨s,h0⟩:=h 0 c v rfl rfl
  exact .cons h0 (j4.C0 (by simpa using hl) fun i c' v' hc hv=>h (i+1) c' v' (by simpa using hc) (by simpa using hv))
 | [],_::_,hl,_=>by simp at hl
 | _::_,[],hl,_=>by simp at hl
theorem uG {e:E}:∀{ds:List DV}{cs:List CV}{vs:List Value},lS ds=some cs->ds.all bG=true->j4 e ds vs->bh e.im e.w cs vs
 | [],cs,_,h,_,.nil=>by simp[lS]at h;subst h;exact .nil
 | d::ds,cs,_,h,hk,.cons a b=>by
  simp only[lS]at h
  simp only[List.all_cons,Bool.and_eq_true]at hk
  split at h
  ·rename_i c e9 h1 h2
   cases h
   exact .cons (aaE h1 hk.1) (aaF h1 a) (uG h2 hk.2 b)
  ·cases h
theorem j4.HE {e:E}:∀{ds:List DV}{vs:List Value},j4 e ds vs->bd e (ds.map Abs.bx) vs
 | _,_,.nil=>.nil
 | _,_,.cons a b=>.cons a.bx b.HE
theorem Wt {d:DV}(h:bG d=true):bG (bx d)=true:=by cases d<;>first | exact h | rfl
theorem zj {ds:List DV}(h:ds.all bG=true):(ds.map bx).all bG=true:=by
 simp only[List.all_eq_true,List.mem_map]at *
 rintro x ⟨d,hd,rfl⟩
 exact Wt (h d hd)
theorem Gj {e:E}{s:Addr->Prop}{ds:List DV}{vs:List Value}(hk:ds.all bG=true)(h:j4 e ds vs):RD e s (yG ds) (.agg ⟨vs⟩):=by
 unfold yG
 split
 ·rename_i cs hc;exact .c (.agg (uG hc hk h))
 ·exact .agg (zj hk) h.HE
theorem Ug {im:Addr->Prop}{w:World}{v:Value}{c:CV}(h:yM v=some c):RC im w c v:=by
 unfold yM at h
 split at h
 ·cases h;exact .sc (by assumption)
 ·split at h
  ·cases h;exact .nil
  ·cases h
theorem aeA {v:Value}{c:CV}(h:yM v=some c):nI c=true:=by
 unfold yM at h
 split at h
 ·cases h;rfl
 ·split at h
  ·cases h;rfl
  ·cases h
theorem NM {im:Addr->Prop}{w:World}:∀{vs:List Value}{cs:List CV},yN vs=some cs->bh im w cs vs
 | [],cs,h=>by simp[yN]at h;subst h;exact .nil
 | v::vs,cs,h=>by
  simp only[yN]at h
  split at h
  ·rename_i c e9 h1 h2;cases h;exact .cons (aeA h1) (Ug h1) (NM h2)
  ·cases h
theorem NL {e:E}{s:Addr->Prop}(v:Value):RD e s (CZ v) v:=by
 unfold CZ
 split
 ·rename_i vs
  split
  ·rename_i cs h;exact .c (.agg (vs:=vs.toList) (NM h))
  ·exact .un
 ·split
  ·rename_i c h;exact .c (Ug h)
  ·exact .un
end Go.Abs
namespace Go.Abs
open Go
inductive Own where
 | slot (t:Nat)
 | ob (id:Nat)
 | cell (id i:Nat)
 | res
 deriving DecidableEq
structure MI (n0:Nat)(PR:Addr->Prop)(e:E)(al:Own->Addr->Prop):Prop where
 eY:∀a,e.im a->a.block<e.w.heap.size
 gm:∀a,e.im a->¬PR a
 dN:∀a,PR a->a.block<e.w.heap.size
 dz:n0≤e.w.heap.size
 ok:∀p a,al p a->n0≤a.block∧(∃v,e.w.cell? a=some v)∧e.w.frozen? a=false∧¬e.im a∧¬PR a
 cE:∀p q a,al p a->al q a->p=q
 ext:∀(id:Nat) (o:Ob),e.st[id]? =some o->o.cs.length≤(e.io id).ext
 own:∀(id:Nat) (o:Ob),e.st[id]? =some o->∀i,i<(e.io id).ext->al (.ob id) ((e.io id).at i)
 cell:∀(id:Nat) (o:Ob),e.st[id]? =some o->∀(i:Nat) (d:DV),o.cs[i]? =some d->bG d=true∧∃v,e.w.cell? ((e.io id).at i)=some v∧RD e (al (.cell id i)) d v
theorem mP (f:Fp)(i j:Nat):(f.at i).add j=f.at (i+j):=by
 unfold Addr.add Fp.at
 split
 ·rename_i h;subst h;rfl
 ·simp[Nat.add_assoc]
theorem CN (b off i:Nat):(⟨b,off,none⟩:Addr).add i=⟨b,off+i,none⟩:=mP ⟨b,off,0⟩ 0 i |>.trans (by simp[Fp.at])
theorem add_add (a:Addr)(i j:Nat):(a.add i).add j=a.add (i+j):=by
 by_cases hi:i=0
 ·subst hi;simp[Addr.add]
 ·by_cases hj:j=0
  ·subst hj;simp[Addr.add]
  ·have h3:¬(i+j=0):=by omega
   simp only[Addr.add,if_neg hi,if_neg hj,if_neg h3,Nat.add_assoc]
theorem mY {st:List Ob}{id ver:Nat}{o:Ob}(h:hU st id ver=some o):st[id]? =some o∧o.ver=ver:=by
 unfold hU at h
 split at h
 ·rename_i o' ho
  split at h
  ·cases h;exact⟨ho,by assumption⟩
  ·cases h
 ·cases h
theorem Dj {α:Type}{l:List α}{off k:Nat}{r:List α}(h:span l off k=some r):r=(l.drop off).take k∧off+k≤l.length:=by
 unfold span at h
 split at h
 ·cases h;exact⟨rfl,by assumption⟩
 ·cases h
theorem Vn {α:Type}{l:List α}{off k:Nat}{r:List α}(h:span l off k=some r){i:Nat}{x:α}(hi:r[i]? =some x):l[off+i]? =some x∧i<k:=by
 obtain⟨rfl,hle⟩:=Dj h
 have aQ:i<((l.drop off).take k).length:=(List.getElem?_eq_some_iff.1 hi).1
 simp at aQ
 rw[List.getElem?_take_of_lt (by omega),List.getElem?_drop]at hi
 exact⟨hi,by omega⟩
theorem GW {α:Type}{l:List α}{off k:Nat}{r:List α}(h:span l off k=some r):r.length=k:=by
 obtain⟨rfl,hle⟩:=Dj h
 simp;omega
section
variable {P:Program}{n0:Nat}{PR:Addr->Prop}{e:E}{al:Own->Addr->Prop}
theorem MI.cells (m:MI n0 PR e al){id:Nat}{o:Ob}(ho:e.st[id]? =some o){off k:Nat}{ds:List DV}(h:span o.cs off k=some ds):
  ∃vs:List Value,vs.length=k∧(∀(i:Nat) v,vs[i]? =some v->e.w.cell? (((e.io id).at off).add i)=some v)∧j4 e ds vs∧ds.all bG=true:=by
 have hl:=GW h
 have key:∀i,i<k->∃v d,ds[i]? =some d∧bG d=true∧e.w.cell? ((e.io id).at (off+i))=some v∧∃s,RD e s d v:=fun i hi=>by
  obtain⟨d,hd⟩:∃d,ds[i]? =some d:=⟨_,List.getElem?_eq_getElem (by omega)⟩
  obtain⟨h1,_⟩:=Vn h hd
  obtain⟨hk,v,hv,hr⟩:=m.cell id o ho _ _ h1
  exact⟨v,d,hd,hk,hv,_,hr⟩
 let g:Nat->Value:=fun i=>if h:i<k then(key i h).choose else undef
 have hg:∀i (h:i<k),∃d,ds[i]? =some d∧bG d=true∧e.w.cell? ((e.io id).at (off+i))=some (g i)∧∃s,RD e s d (g i):=fun i h=>by
  have:=(key i h).choose_spec
  simpa[g,h]using this
 refine⟨(List.range k).map g,by simp,?_,?_,?_⟩
 ·intro i v hv
  have hi:i<k:=by have:=(List.getElem?_eq_some_iff.1 hv).1;simpa using this
  simp[hi]at hv
  subst hv
  obtain⟨d,_,_,h3,_⟩:=hg i hi
  rw[mP];exact h3
 ·refine j4.C0 (by simp[hl]) fun i c v hc hv=>?_
  have hi:i<k:=by have:=(List.getElem?_eq_some_iff.1 hv).1;simpa using this
  simp[hi]at hv
  subst hv
  obtain⟨d,h1,_,_,s,h4⟩:=hg i hi
  rw[hc]at h1;cases h1
  exact⟨s,h4⟩
 ·rw[List.all_eq_true]
  intro d hd
  obtain⟨i,hi⟩:=List.getElem?_of_mem hd
  have aQ:i<k:=by have:=(List.getElem?_eq_some_iff.1 hi).1;omega
  obtain⟨d',h1,h2,_⟩:=hg i aQ
  rw[hi]at h1;cases h1
  exact h2
theorem yu {t:TypeId}{b:Bool}(h:n5 P t=some b)(w:World):(isAgg t).run P w= .ok b w:=by
 unfold n5 at h
 rw[Option.map_eq_some_iff]at h
 obtain⟨d,hd,hb⟩:=h
 simp only[isAgg,Sem.run_bind,run_underlying hd,Result.andThen_ok]
 cases d<;>simp_all
theorem fp {t:TypeId}{k:Nat}(h:cJ P t=some k)(w:World):(sizeOf t).run P w= .ok k w:=by
 unfold cJ at h
 rw[Option.map_eq_some_iff]at h
 obtain⟨i,hi,rfl⟩:=h
 simp[sizeOf,typeInfo,hi]
theorem TF {t:TypeId}{a:Addr}{w:World}{k:Nat}{vs:List Value}(h1:n5 P t=some true)(h2:cJ P t=some k)(hl:vs.length=k)
  (hc:∀(i:Nat) v,vs[i]? =some v->w.cell? (a.add i)=some v):(loadVar t a).run P w= .ok (.agg ⟨vs⟩) w:=by
 subst hl
 simp[loadVar,yu h1,fp h2,run_loadCells_list w a vs hc]
theorem Nd {t:TypeId}{a:Addr}{w:World}{v:Value}(h1:n5 P t=some false)(hc:w.cell? a=some v):(loadVar t a).run P w= .ok v w:=by
 simp[loadVar,yu h1,hc]
theorem Ti {cs:List CV}{vs:List Value}{a:Addr}(h:bh e.im e.w cs vs)(hc:∀i v,vs[i]? =some v->e.w.cell? (a.add i)=some v∧e.im (a.add i)){off k:Nat}{ds:List CV}
  (hs:span cs off k=some ds):∃us:List Value,us.length=k∧(∀(i:Nat) v,us[i]? =some v->e.w.cell? ((a.add off).add i)=some v∧e.im ((a.add off).add i))∧bh e.im e.w ds us:=by
 obtain⟨rfl,hle⟩:=Dj hs
 have hl:=h.length
 refine⟨(vs.drop off).take k,by simp;omega,fun i v hv=>?_,(h.drop off).take k⟩
 have aQ:i<((vs.drop off).take k).length:=(List.getElem?_eq_some_iff.1 hv).1
 simp at aQ
 rw[List.getElem?_take_of_lt (by omega),List.getElem?_drop]at hv
 rw[add_add];exact hc _ _ hv
theorem ae0 {t:TypeId}{cs:List CV}{vs:List Value}{a:Addr}{off:Nat}{d:DV}{s:Addr->Prop}(h:bh e.im e.w cs vs)
  (hc:∀i v,vs[i]? =some v->e.w.cell? (a.add i)=some v∧e.im (a.add i)) (hd:rl P t cs off=some d):∃u,(loadVar t (a.add off)).run P e.w= .ok u e.w∧RD e s d u:=by
 unfold rl at hd
 split at hd
 ·rename_i k h1 h2
  rw[Option.map_eq_some_iff]at hd
  obtain⟨ds,gh,rfl⟩:=hd
  obtain⟨us,hl,eH,hr⟩:=Ti h hc gh
  exact⟨_,TF h1 h2 hl fun i v hv=>(eH i v hv).1,.c (.agg hr)⟩
 ·rename_i h1
  rw[Option.map_eq_some_iff]at hd
  obtain⟨c,qE,rfl⟩:=hd
  obtain⟨v,hv,hr⟩:=h.get qE
  exact⟨v,Nd h1 (hc _ _ hv).1,.c hr⟩
 ·cases hd
theorem aeZ (m:MI n0 PR e al){t:TypeId}{id off:Nat}{o:Ob}{d:DV}{s:Addr->Prop}(ho:e.st[id]? =some o)(hd:oc P t o.cs off=some d):
  ∃u,(loadVar t ((e.io id).at off)).run P e.w= .ok u e.w∧RD e s d u:=by
 unfold oc at hd
 split at hd
 ·rename_i k h1 h2
  rw[Option.map_eq_some_iff]at hd
  obtain⟨ds,gh,rfl⟩:=hd
  obtain⟨us,hl,eH,hr,hk⟩:=m.cells ho gh
  exact⟨_,TF h1 h2 hl eH,Gj hk hr⟩
 ·rename_i h1
  rw[Option.map_eq_some_iff]at hd
  obtain⟨c,qE,rfl⟩:=hd
  obtain⟨_,v,hv,hr⟩:=m.cell id o ho _ _ qE
  exact⟨v,Nd h1 hv,hr.bx⟩
 ·cases hd
theorem Nf (m:MI n0 PR e al){t:TypeId}{x d:DV}{v:Value}{s s':Addr->Prop}(h:iq P e.st t x=some d)(r:RD e s x v):
  ∃u,(Instr.loadAt t v).run P e.w= .ok u e.w∧RD e s' d u:=by
 unfold iq at h
 split at h
 ·rename_i id ver off
  split at h
  ·rename_i o ho
   obtain⟨h1,h2⟩:=mY ho
   cases r with
   | pt hid hv=>
    obtain⟨_,ha⟩:=hv o h1
    rw[ha h2.symm]
    simp only[Instr.loadAt,Instr.sureAddr,pure_bind]
    exact aeZ m h1 h
  ·cases h
 ·cases r with
  | ia hr hc=>
   simp only[Instr.loadAt,Instr.sureAddr,pure_bind]
   exact ae0 hr hc h
 ·cases h
theorem oW {fr:Nat->DV}{tm:Array Value}{df:List Deferred}{f:Nat->Addr->Prop}{s:Addr->Prop}(h:∀t,RD e (f t) (fr t) (tm.getD t undef))(x:Operand):RD e s (ev fr x) ((⟨tm,df⟩:Act).eval x):=by
 cases x with
 | tmp t=>exact(h t).bx
 | const v=>exact NL v
 | global g=>exact .un
 | func g=>exact .fn .nil .nil
theorem ZQ {op:BinOp}{x y r:Value}(h:iG op x y=some r)(t:TypeId)(w:World):(binOp op t x y).run P w= .ok r w:=by
 cases x with
 | int k a=>
  cases y with
  | int k' b=>
   cases op<;>simp only[iG]at h
   all_goals (split at h)
   all_goals (first | (cases h;done) | skip)
   all_goals (try (rename_i hk;have m4:k=k':=by simpa using hk;subst m4))
   all_goals (try (split at h))
   all_goals (first | (cases h;done) | skip)
   all_goals (cases h)
   all_goals simp[binOp,Op.intArith,Op.intDiv,Op.intBits,Op.intCmp,Op.shift, *]
  | _=>cases op<;>simp[iG]at h
 | string a=>
  cases y with
  | string b=>
   cases op<;>simp only[iG]at h
   all_goals (try (split at h))
   all_goals (first | (cases h;done) | skip)
   all_goals (cases h)
   all_goals simp_all [binOp,Op.stringOp]
  | _=>cases op<;>simp[iG]at h
 | _=>cases op<;>simp[iG]at h
end
end Go.Abs
