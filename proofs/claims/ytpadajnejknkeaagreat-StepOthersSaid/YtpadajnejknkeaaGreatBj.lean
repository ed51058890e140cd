/-
  Part of the proof: printed by the session's own program out of the program's form, or typed; it states no claim by itself.
-/
import Derived.Test.YtpadajnejknkeaaGreatBi
set_option linter.unusedVariables false
set_option linter.unusedSectionVars false
namespace Go.Abs
open Go
variable [Fl]
structure Sys where
 P:Program
 an:An
 pr:xy
def Sys.ev (X:Sys)(k:Nat):Rec:=sv X.P X.an X.pr k
theorem Sys.oV (X:Sys)(k:Nat):(X.ev k).nj=X.pr:=by cases k<;>rfl
def Ev (p:Nat->Prop):Prop:=∃k0,∀k,k0≤k->p k
theorem Ev.of {p:Nat->Prop}(h:∀k,p k):Ev p:=⟨0,fun k _=>h k⟩
theorem Ev.and {p q:Nat->Prop}(h:Ev p)(h':Ev q):Ev fun k=>p k∧q k:=by
 obtain⟨a,h⟩:=h
 obtain⟨b,h'⟩:=h'
 exact⟨max a b,fun k hk=>⟨h k (by omega),h' k (by omega)⟩⟩
theorem Ev.mono {p q:Nat->Prop}(h:Ev p)(hpq:∀k,p k->q k):Ev q:=by
 obtain⟨a,h⟩:=h
 exact⟨a,fun k hk=>hpq k (h k hk)⟩
theorem Ev.succ {p:Nat->Prop}(h:Ev fun k=>p (k+1)):Ev p:=by
 obtain⟨a,h⟩:=h
 refine⟨a+1,fun k hk=>?_⟩
 cases k with
 | zero=>omega
 | succ k=>exact h k (by omega)
def Sys.eU (X:Sys)(Γ:List (Nat×Ctx))(f:FuncId)(args:List DV)(m:M)(d:DV)(m':M):Prop:=Ev fun k=>(X.ev k).call Γ f args m=some (d,m')
def Sys.Round (X:Sys)(Γ:List (Nat×Ctx))(j:Nat)(args:List DV)(m:M)(d:DV)(m':M):Prop:=Ev fun k=>(X.ev k).round Γ j args m=some (d,m')
def Sys.Go (X:Sys)(f nt:Nat)(Γ:List (Nat×Ctx))(c:Code)(s:S)(ex:Ex)(s':S):Prop:=Ev fun k=>cq X.P (X.ev k) X.an f nt Γ k c s=some (ex,s')
def Sys.bg (X:Sys)(f:FuncId)(args:List DV)(d:DV):Prop:=Ev fun k=>∃d' m',(X.ev k).call [] f args ⟨[],[]⟩=some (d',m')∧eF m'.st d'=some d
def Sys.cD (X:Sys)(f:FuncId)(args:List DV)(st:List Ob)(d:DV)(os:List Ob):Prop:=∃d' m',X.eU [] f args ⟨st,[]⟩ d' m'∧nL st.length d' m'.st=some (d,os)
def vo:DV->Bool
 | .c _=>true
 | .ap .. =>true
 | _=>false
def hD (cs:List DV):Prop:=cs.all vo=true
theorem hD.map (cs:List CV):hD (cs.map .c):=by
 unfold hD
 induction cs with
 | nil=>rfl
 | cons c cs ih=>simp only[List.map_cons,List.all_cons,ih,vo,Bool.and_true]
theorem FZ {d:DV}(h:vo d=true):(∃v,d= .c v)∨∃a b c e,d= .ap a b c e:=by
 cases d<;>first | exact .inl ⟨_,rfl⟩ | exact .inr ⟨_,_,_,_,rfl⟩ | cases h
theorem hD.shift {cs:List DV}(h:hD cs)(n p:Nat):gR n p cs=cs:=by
 induction cs with
 | nil=>rfl
 | cons d ds ih=>
  obtain⟨h1,h2⟩:vo d=true∧hD ds:=by simpa[hD]using h
  simp only[gR,ih h2]
  rcases FZ h1 with ⟨v,rfl⟩ | ⟨a,b,c,e,rfl⟩<;>rfl
theorem hD.loc {cs:List DV}(h:hD cs)(aA:List Nat)(st:List Ob):eI aA st cs=some cs:=by
 induction cs with
 | nil=>rfl
 | cons d ds ih=>
  obtain⟨h1,h2⟩:vo d=true∧hD ds:=by simpa[hD]using h
  rcases FZ h1 with ⟨v,rfl⟩ | ⟨a,b,c,e,rfl⟩<;>simp only[eI,cV,ih h2]
theorem hD.bk {cs:List DV}(h:hD cs)(aA vs:List Nat):eN aA vs cs=some cs:=by
 induction cs with
 | nil=>rfl
 | cons d ds ih=>
  obtain⟨h1,h2⟩:vo d=true∧hD ds:=by simpa[hD]using h
  rcases FZ h1 with ⟨v,rfl⟩ | ⟨a,b,c,e,rfl⟩<;>simp only[eN,dm,ih h2]
theorem hD.below {cs:List DV}(h:hD cs)(n:Nat):cs.all (below n)=true:=by
 induction cs with
 | nil=>rfl
 | cons d ds ih=>
  obtain⟨h1,h2⟩:vo d=true∧hD ds:=by simpa[hD]using h
  rcases FZ h1 with ⟨v,rfl⟩ | ⟨a,b,c,e,rfl⟩<;>simp only[List.all_cons,ih h2,Abs.below,Bool.and_true]
structure OD where
 v:Nat
 cs:List DV
 b:Bool
 h:b=true->hD cs
def OD.x (v:Nat)(cs:List DV):OD:=⟨v,cs,false,fun h=>by cases h⟩
def OD.ob (o:OD):Ob:=⟨o.v,o.cs⟩
def bm (l:List OD):List Ob:=l.map OD.ob
def OD.sh (n p:Nat)(o:OD):Ob:=if o.b then⟨o.v,o.cs⟩else⟨o.v,gR n p o.cs⟩
theorem OD.af9 (n p:Nat)(o:OD):o.sh n p=tE n p o.ob:=by
 unfold OD.sh
 split
 ·rename_i hb
  show(⟨o.v,o.cs⟩:Ob)=⟨o.v,gR n p o.cs⟩
  rw[(o.h hb).shift]
 ·rfl
def vw (all:List Nat)(st:List Ob):List Nat->List OD->Option (List Ob×List Prop)
 | [],[]=>some ([],[])
 | id::ids,o0::ly=>match st[id]? with
  | some o=>if o.ver=0 then none else match(if o0.b then some (o0.cs,[o.cs=o0.cs])else(eI all st o.cs).map fun cs=>(cs,[])),vw all st ids ly with
   | some (cs,ps),some (os,qs)=>some (⟨1,cs⟩::os,ps++qs)
   | _,_=>none
  | none=>none
 | _,_=>none
theorem TJ {all:List Nat}{st:List Ob}:∀{ids:List Nat}{ly:List OD}{os:List Ob}{ps:List Prop},vw all st ids ly=some (os,ps)->(∀p∈ps,p)->kL all st ids=some os
 | [],[],os,ps,h,_=>by simp only[vw]at h;cases h;rfl
 | id::ids,o0::ly,os,ps,h,hp=>by
  simp only[vw]at h
  split at h
  ·rename_i o ho
   split at h
   ·cases h
   ·rename_i hv
    split at h
    ·rename_i cs jk os1 qs h1 h2
     cases h
     have ih:=TJ h2 fun p hq=>hp p (List.mem_append_right _ hq)
     have h3:eI all st o.cs=some cs:=by
      split at h1
      ·rename_i hb
       cases h1
       have:=hp (o.cs=o0.cs) (List.mem_append_left _ (List.mem_singleton.2 rfl))
       rw[this]
       exact(o0.h hb).loc _ _
      ·obtain⟨e9,h4,h5⟩:=Option.map_eq_some_iff.1 h1
       cases h5;exact h4
     simp only[kL,ho,h3,ih]
     rw[if_neg hv]
    ·cases h
  ·cases h
 | [],_::_,os,ps,h,_=>by simp[vw]at h
 | _::_,[],os,ps,h,_=>by simp[vw]at h
def tz (aA vs:List Nat):List Nat->List Nat->List OD->List Ob->Option (List Ob)
 | [],[],_,st=>some st
 | id::ids,v::ws,o::os,st=>match(if o.b then some o.cs else eN aA vs o.cs)with
  | some cs=>tz aA vs ids ws os (st.set id ⟨v+(o.v - 1),cs⟩)
  | none=>none
 | _,_,_,_=>none
theorem UE {aA vs:List Nat}:∀{ids ws:List Nat}{os:List OD}{st st':List Ob},tz aA vs ids ws os st=some st'->jD aA vs ids ws (bm os) st=some st'
 | [],[],os,st,st',h=>by simp only[tz]at h;cases h;cases os<;>rfl
 | id::ids,v::ws,o::os,st,st',h=>by
  simp only[tz]at h
  split at h
  ·rename_i cs h1
   have h2:eN aA vs o.cs=some cs:=by
    split at h1
    ·rename_i hb;cases h1;exact(o.h hb).bk _ _
    ·exact h1
   have ih:=UE h
   show jD aA vs (id::ids) (v::ws) (o.ob::bm os) st=some st'
   have h3:eN aA vs o.ob.cs=some cs:=h2
   simp only[jD,h3]
   exact ih
  ·cases h
 | [],_::_,os,st,st',h=>by simp[tz]at h
 | _::_,[],os,st,st',h=>by simp[tz]at h
 | _::_,_::_,[],st,st',h=>by simp[tz]at h
inductive uq where
 | op (r:Out)
 | b (v:Bool)
 | n
 | ix
 | cell (c:CV)
 | agg (cs:List CV)
 | st (cs:List DV)
 | mk (cs:List DV) (x:Bool)
 | app (cs:List CV) (n:Nat)
 | YA (cs:List DV) (n:Nat)
 | Yy
 | lmv (d:DV) (cs:List DV)
 | aai (d:DV)
 | Vl (l h:Nat)
 | Vj (l h:Nat) (cs:List CV) (n:Nat)
 | AU (nl:Bool) (cs:List CV) (n:Nat)
 | Yz
 | Q4 (d:DV) (m:M) (d':DV) (st:List Ob)
 | Q5 (ky:List DV) (st0:List Ob) (d1:DV) (os:List Ob) (d:DV) (st:List Ob)
 | A5 (d:DV) (os:List OD)
 | La (d:DV) (ly os:List OD)
 | call (d:DV) (m:M)
 | code (ex:Ex) (s:S)
abbrev Told:=List ((Nat×Nat)×uq)
def told:Told->Nat->Nat->Option uq
 | [],_,_=>none
 | ((r,i),a)::l,r',i'=>if r=r'∧i=i' then some a else told l r' i'
def bQ:List Prop->Prop
 | []=>True
 | [p]=>p
 | p::ps=>p∧bQ ps
theorem bQ.cons {p:Prop}{ps:List Prop}(h:bQ (p::ps)):p∧bQ ps:=by
 cases ps with
 | nil=>exact⟨h,trivial⟩
 | cons q ps=>exact h
theorem bQ.all:∀{l:List Prop},bQ l->∀p∈l,p
 | p::l,h,q,hq=>by
  obtain⟨h1,h2⟩:=bQ.cons h
  rcases List.mem_cons.1 hq with rfl | hq
  ·exact h1
  ·exact bQ.all h2 q hq
theorem bQ.append:∀{a b:List Prop},bQ (a++b)->bQ a∧bQ b
 | [],b,h=>⟨trivial,h⟩
 | p::a,b,h=>by
  obtain⟨h1,h2⟩:=bQ.cons (p:=p) (ps:=a++b) h
  obtain⟨h3,h4⟩:=bQ.append h2
  refine⟨?_,h4⟩
  cases a with
  | nil=>exact h1
  | cons q a=>exact⟨h1,h3⟩
def dB (b:Bool):DV:=.c (.sc (.bool b))
def aF (n:Int):Prop:= -9223372036854775808≤n∧n≤9223372036854775807
def Bb:BinOp->Int->Int->Option Prop
 | .eql,a,b=>some (a=b)
 | .neq,a,b=>some (a≠b)
 | .lss,a,b=>some (a<b)
 | .leq,a,b=>some (a≤b)
 | .gtr,a,b=>some (a>b)
 | .geq,a,b=>some (a≥b)
 | _,_,_=>none
def Qp:BinOp->Int->Int->Option Int
 | .add,a,b=>some (a+b)
 | .sub,a,b=>some (a - b)
 | .mul,a,b=>some (a * b)
 | _,_,_=>none
def OH (P:Program)(c:Site)(op:Op)(fr:Nat->DV)(st:List Ob):Option uq->Option (Out×List Prop)
 | none=>(aI P c op fr st).map fun r=>(r,[])
 | some (.op r)=>some (r,[aI P c op fr st=some r])
 | some (.b v)=>match op with
  | .binOp o t x y _=>match ev fr x,ev fr y with
   | .c (.sc (.int k a)),.c (.sc (.int k' b))=>if k=k' then match Bb o a b with
    | some p=>some ({ d:=dB v},[match v with | true=>p | false=>¬p])
    | none=>none else none
   | _,_=>none
  | _=>none
 | some .n=>match op with
  | .binOp o t x y _=>match ev fr x,ev fr y with
   | .c (.sc (.int .i64 a)),.c (.sc (.int .i64 b))=>match Qp o a b with
    | some n=>some ({ d:=aa n},[aF n])
    | none=>none
   | _,_=>none
  | _=>none
 | some .ix=>match op with
  | .indexAddr t x i=>match ki (ev fr i),P.underlying t,ev fr x with
   | some i,some (.slice e),.c (.sl nl _ cs len)=>match cJ P e with
    | some sz=>some ({ d:=.ia cs (i.toNat * sz)},[0≤i∧i<len])
    | none=>none
   | some i,some (.slice e),.ms id ver off len aV _=>match cJ P e with
    | some sz=>if sz=aV then some ({ d:=.pt id ver (off+i.toNat * aV)},[0≤i∧i<len])else none
    | none=>none
   | some i,some (.array n e),.pt id ver off=>match cJ P e with
    | some sz=>some ({ d:=.pt id ver (off+i.toNat * sz)},[0≤i∧i<n])
    | none=>none
   | _,_,_=>none
  | _=>none
 | some (.cell d)=>match op with
  | .load t x=>if c.mv then none else match n5 P t,ev fr x with
   | some false,.ia cs off=>some ({ d:=.c d},[cs[off]? =some d])
   | some false,.pt id ver off=>match st[id]? with
    | some o=>some ({ d:=.c d},[o.ver=ver∧o.cs[off]? =some (.c d)])
    | none=>none
   | _,_=>none
  | _=>none
 | some (.agg ds)=>match op with
  | .load t x=>if c.mv then none else match n5 P t,cJ P t,ev fr x with
   | some true,some k,.ia cs off=>some ({ d:=.c (.agg ds)},[span cs off k=some ds])
   | some true,some k,.pt id ver off=>match st[id]? with
    | some o=>some ({ d:=.c (.agg ds)},[o.ver=ver∧span o.cs off k=some (ds.map .c)])
    | none=>none
   | _,_,_=>none
  | _=>none
 | some (.st cs)=>match op with
  | .store t x y=>if !c.nz.isEmpty then none else match ev fr x,cellsOf (if c.mv then raw fr y else ev fr y),cJ P t with
   | .pt id ver off,some vs,some k=>match st[id]? with
    | some o=>if vs.length=k then some ({ d:=.aX [],set:=some (id,⟨ver,cs⟩),drop:=if c.mv then iz y else[]},[o.ver=ver∧off+k≤o.cs.length∧cT o.cs off vs=cs])else none
    | none=>none
   | _,_,_=>none
  | _=>none
 | some (.mk cs xx)=>if c.fz then none else match op with
  | .makeSlice t l cp=>match P.underlying t with
   | some (.slice e)=>match P.info? e,rZ P e,ki (ev fr l),ki (ev fr cp)with
    | some i,some z,some l,some cp=>if z.length=i.size then match lay st c.id cs with
     | some e=>some ({ d:=.ms c.id e.2.ver 0 l.toNat i.size xx,set:=some e},[(0≤l∧l≤cp∧cp≤9223372036854775807∧i.bytes * cp≤281474976710656)∧jV l.toNat z=cs∧(l==cp)=xx])
     | none=>none else none
    | _,_,_,_=>none
   | _=>none
  | _=>none
 | some (.app e9 n')=>match op with
  | .call k=>match k.callee,k.args.toList,k.argTypes[0]?,k.argTypes[1]? with
   | .builtin .append,[x,y],some t,some t2=>if c.own then none else match P.underlying t,P.underlying t2 with
    | some (.slice e),some (.slice _)=>match P.info? e with
     | some i=>if !mM i then none else match ev fr y,raw fr x with
      | .c (.sl _ _ gF eT),.ap nl cs len aV=>if nl || aV==i.size then some ({ d:=.ap (nl&&eT==0) e9 n' i.size,drop:=iz x},[((gF.length=eT * i.size∧cs.length=len * i.size)∧roomy n' i.bytes=true)∧cs++gF=e9∧len+eT=n'])else none
      | .c (.sl _ _ gF eT),.c (.sl nl true cs len)=>some ({ d:=.ap false e9 n' i.size},[eT≠0∧((gF.length=eT * i.size∧cs.length=len * i.size)∧roomy n' i.bytes=true)∧cs++gF=e9∧len+eT=n'])
      | _,_=>none
     | none=>none
    | _,_=>none
   | _,_,_,_=>none
  | _=>none
 | some (.YA e9 n')=>match op with
  | .call k=>match k.callee,k.args.toList,k.argTypes[0]?,k.argTypes[1]? with
   | .builtin .append,[x,y],some t,some t2=>if !c.own then none else match P.underlying t,P.underlying t2 with
    | some (.slice e),some (.slice _)=>match P.info? e with
     | some i=>if !mM i then none else match ev fr y,ev fr x with
      | .c (.sl _ _ gF eT),.ms id ver off len aV _=>match st[id]? with
       | some o=>if aV=i.size then some ({ d:=.ms id (ver+1) 0 n' aV false,set:=some (id,⟨ver+1,e9⟩)},[o.ver=ver∧(gF.length=eT * i.size∧eT≠0∧roomy n' i.bytes=true)∧(span o.cs off (len * aV)).map (fun bC=>bC++gF.map DV.c)=some e9∧len+eT=n'])else none
       | none=>none
      | _,_=>none
     | none=>none
    | _,_=>none
   | _,_,_,_=>none
  | _=>none
 | some .Yy=>match op with
  | .call k=>match k.callee,k.args.toList,k.argTypes[0]?,k.argTypes[1]? with
   | .builtin .append,[x,y],some t,some t2=>if c.own then none else match P.underlying t,P.underlying t2 with
    | some (.slice e),some (.slice _)=>match P.info? e with
     | some i=>if !mM i then none else match ev fr y,raw fr x with
      | .c (.sl _ _ gF eT),.c (.sl nl true cs len)=>if cs.length=len * i.size then some ({ d:=.c (.sl nl true cs len)},[gF=[]∧eT=0∧roomy len i.bytes=true])else none
      | _,_=>none
     | none=>none
    | _,_=>none
   | _,_,_,_=>none
  | _=>none
 | some (.lmv d cs)=>match op with
  | .load t x=>if c.mv then match ev fr x,n5 P t with
   | .pt id ver off,some false=>match st[id]? with
    | some o=>some ({ d,set:=some (id,⟨ver,cs⟩)},[o.ver=ver∧o.cs[off]? =some d∧o.cs.set off (bx d)=cs])
    | none=>none
   | _,_=>none else none
  | _=>none
 | some (.aai d)=>match op with
  | .load t x=>if c.mv then none else match n5 P t,ev fr x with
   | some false,.pt id ver off=>match st[id]? with
    | some o=>some ({ d:=bx d},[o.ver=ver∧o.cs[off]? =some d])
    | none=>none
   | _,_=>none
  | _=>none
 | some (.Vl l h)=>match op with
  | .slice t x lo hi none=>match P.underlying t,ev fr x with
   | some (.slice e),.ms id ver off len aV xx=>match cJ P e with
    | some sz=>if sz=aV then some ({ d:=.ms id ver (off+l * aV) (h - l) aV (xx&&h==len)},[kA len (lo.map (ev fr)) (hi.map (ev fr)) none=some (l,h,none)])else none
    | none=>none
   | _,_=>none
  | _=>none
 | some (.Vj l h e9 n')=>match op with
  | .slice t x lo hi none=>match P.underlying t,ev fr x with
   | some (.slice e),.c (.sl nl xx cs len)=>match cJ P e with
    | some sz=>some ({ d:=.c (.sl nl (xx&&h==len) e9 n')},[kA len (lo.map (ev fr)) (hi.map (ev fr)) none=some (l,h,none)∧span cs (l * sz) ((h - l) * sz)=some e9∧h - l=n'])
    | none=>none
   | _,_=>none
  | _=>none
 | some (.AU TW e9 n')=>match op with
  | .call k=>match k.callee,k.args.toList,k.argTypes[0]?,k.argTypes[1]? with
   | .builtin .append,[x,y],some t,some t2=>if c.own then none else match P.underlying t,P.underlying t2 with
    | some (.slice e),some (.slice _)=>match P.info? e with
     | some i=>if !mM i then none else match ev fr y,raw fr x with
      | .c (.sl _ _ gF eT),.ap nl cs len aV=>if aV=i.size then some ({ d:=.ap TW e9 n' i.size,drop:=iz x},[((gF.length=eT * i.size∧cs.length=len * i.size)∧roomy n' i.bytes=true)∧cs++gF=e9∧len+eT=n'∧(nl&&eT==0)=TW])else none
      | _,_=>none
     | none=>none
    | _,_=>none
   | _,_,_,_=>none
  | _=>none
 | some .Yz=>match op with
  | .call k=>match k.callee,k.args.toList,k.argTypes[0]?,k.argTypes[1]? with
   | .builtin .append,[x,y],some t,some t2=>if !c.own then none else match P.underlying t,P.underlying t2 with
    | some (.slice e),some (.slice _)=>match P.info? e with
     | some i=>if !mM i then none else match ev fr y,ev fr x with
      | .c (.sl _ _ gF eT),.c (.sl false true [] 0)=>match lay st c.id (gF.map .c)with
       | some e=>some ({ d:=.ms c.id e.2.ver 0 eT i.size false,set:=some e},[gF.length=eT * i.size∧roomy eT i.bytes=true])
       | none=>none
      | _,_=>none
     | none=>none
    | _,_=>none
   | _,_,_,_=>none
  | _=>none
 | some (.call ..)=>none
 | some (.Q5 ..)=>none
 | some (.Q4 ..)=>none
 | some (.A5 ..)=>none
 | some (.La ..)=>none
 | some (.code ..)=>none
theorem xN {p:Prop}[Decidable p]{v:Bool}(h:match v with | true=>p | false=>¬p):decide p=v:=by
 cases v with
 | true=>exact decide_eq_true h
 | false=>exact decide_eq_false h
theorem Ba:∀ds:List CV,lS (ds.map .c)=some ds
 | []=>rfl
 | d::ds=>by simp only[List.map_cons,lS,Ba ds,xL]
theorem ld {st:List Ob}{id ver:Nat}{o:Ob}(h:st[id]? =some o)(hv:o.ver=ver):hU st id ver=some o:=by
 unfold hU
 simp only[h]
 rw[if_pos hv]
theorem aie {P:Program}{c:Site}{op:Op}{fr:Nat->DV}{st:List Ob}{a:Option uq}{r:Out}{ps:List Prop}(h:OH P c op fr st a=some (r,ps))(hp:bQ ps):aI P c op fr st=some r:=by
 unfold OH at h
 split at h
 ·rw[Option.map_eq_some_iff]at h
  obtain⟨_,h1,h2⟩:=h
  cases h2;exact h1
 ·cases h;exact hp
 ·rename_i v
  split at h
  ·rename_i o t x y pos
   split at h
   ·rename_i k a k' b hx hy
    split at h
    ·rename_i hk
     subst hk
     split at h
     ·rename_i p BJ
      cases h
      simp only[aI,hx,hy,A1,uC]
      have:iG o (.int k a) (.int k b)=some (.bool v):=by
       cases o<;>simp only[Bb]at BJ<;>first | (cases BJ;done) | skip
       all_goals (injection BJ with BJ;subst BJ)
       all_goals (simp only[iG,ne_eq,not_true_eq_false,if_false])
       ·have:=xN (v:=v) hp;rw[←this];rfl
       ·have:=xN (v:=v) hp
        rw[←this];simp only[bne,decide_not];rfl
       ·have:=xN (v:=v) hp;rw[this]
       ·have:=xN (v:=v) hp;rw[this]
       ·have:=xN (v:=v) hp;rw[this]
       ·have:=xN (v:=v) hp;rw[this]
      rw[this];rfl
     ·cases h
    ·cases h
   ·cases h
  ·cases h
 ·split at h
  ·rename_i o t x y pos
   split at h
   ·rename_i a b hx hy
    split at h
    ·rename_i n BC
     cases h
     have hw:IntKind.i64.wrap n=n:=by
      have cF:aF n:=hp
      unfold aF at cF
      rw[IntKind.wrap_i64];omega
     simp only[aI,hx,hy,A1,uC]
     have:iG o (.int .i64 a) (.int .i64 b)=some (.int .i64 n):=by
      cases o<;>simp only[Qp]at BC<;>first | (cases BC;done) | skip
      all_goals (injection BC with BC;subst BC)
      all_goals (simp only[iG,ne_eq,not_true_eq_false,if_false,hw])
     rw[this];rfl
    ·cases h
   ·cases h
  ·cases h
 ·split at h
  ·rename_i t x i
   split at h
   ·rename_i i e nl xx cs len hi ht hx
    split at h
    ·rename_i sz hs
     cases h
     have cF:0≤i∧i<len:=hp
     simp only[aI,yt,hi,ht,hx,hs]
     rw[if_pos cF];rfl
    ·cases h
   ·rename_i i e id ver off len aV xx hi ht hx
    split at h
    ·rename_i sz hs
     split at h
     ·rename_i cc
      cases h
      simp only[aI,yt,hi,ht,hx,hs]
      rw[if_pos ⟨cc,hp⟩];rfl
     ·cases h
    ·cases h
   ·rename_i i n e id ver off hi ht hx
    split at h
    ·rename_i sz hs
     cases h
     have cF:0≤i∧i<n:=hp
     simp only[aI,yt,hi,ht,hx,hs]
     rw[if_pos cF];rfl
    ·cases h
   ·cases h
  ·cases h
 ·split at h
  ·rename_i t x
   split at h
   ·cases h
   ·rename_i kf
    split at h
    ·rename_i cs off ht hx
     cases h
     have cF:cs[off]? =some _:=hp
     simp only[aI,hx,if_neg kf,iq,rl,ht,cF]
     cases cJ P t<;>rfl
    ·rename_i id ver off ht hx
     split at h
     ·rename_i o ho
      cases h
      obtain⟨hv,cF⟩:=hp
      have ho:=ld ho hv
      simp only[aI,hx,if_neg kf,iq,ho,oc,ht,cF]
      cases cJ P t<;>rfl
     ·cases h
    ·cases h
  ·cases h
 ·split at h
  ·rename_i t x
   split at h
   ·cases h
   ·rename_i kf
    split at h
    ·rename_i k cs off ht hk hx
     cases h
     have cF:span cs off k=some _:=hp
     simp only[aI,hx,if_neg kf,iq,rl,ht,hk,cF]
     rfl
    ·rename_i k id ver off ht hk hx
     split at h
     ·rename_i o ho
      cases h
      obtain⟨hv,cF⟩:=hp
      have ho:=ld ho hv
      simp only[aI,hx,if_neg kf,iq,ho,oc,ht,hk,cF,Option.map_some,yG,Ba]
      rfl
     ·cases h
    ·cases h
  ·cases h
 ·split at h
  ·rename_i t x y
   split at h
   ·cases h
   rename_i FN
   have SY:c.nz=[]:=by simpa using FN
   split at h
   ·rename_i id ver off vs k hx hv hk
    split at h
    ·rename_i o ho
     split at h
     ·rename_i hlen
      cases h
      obtain⟨kh,h1,h2⟩:=hp
      have ho:=ld ho kh
      simp only[aI]
      cases kf:c.mv with
      | true=>
       simp only[kf,if_true]at hv
       simp only[if_true,hx,gS,hv,hk,ho,SY]
       rw[if_pos ⟨hlen,h1⟩,h2];rfl
      | false=>
       simp only[kf,Bool.false_eq_true,if_false]at hv
       simp only[Bool.false_eq_true,if_false,hx,gS,hv,hk,ho,SY]
       rw[if_pos ⟨hlen,h1⟩,h2];rfl
     ·cases h
    ·cases h
   ·cases h
  ·cases h
 ·split at h
  ·cases h
  rename_i SG
  split at h
  ·rename_i t l cp
   split at h
   ·rename_i e ht
    split at h
    ·rename_i i z l' je hi hz hl nS
     split at h
     ·rename_i mc
      split at h
      ·rename_i e' BX
       cases h
       obtain⟨⟨h1,h2,h3,h4⟩,h5,h6⟩:=hp
       simp only[aI,ht,hi,hz,hl,nS]
       rw[if_pos ⟨h1,h2,h3,h4,mc⟩,if_neg SG,h5,BX,h6];rfl
      ·cases h
     ·cases h
    ·cases h
   ·cases h
  ·cases h
 ·split at h
  ·rename_i k
   split at h
   ·rename_i x y t t2 kE eG ht pk
    split at h
    ·cases h
    ·rename_i m8
     split at h
     ·rename_i e e2 hu dp
      split at h
      ·rename_i i hi
       split at h
       ·cases h
       ·rename_i hz
        split at h
        ·rename_i a1 a2 gF eT nl cs len aV hy hx
         split at h
         ·rename_i u5
          cases h
          obtain⟨⟨⟨h1,h2⟩,h3⟩,h4,h5⟩:=hp
          subst h5
          simp only[aI,kE,eG,ht,pk,if_neg m8,oM,hu,dp,hi,hy,hx,gH]
          rw[if_neg hz,if_pos h1]
          simp only[Ba]
          rw[if_pos u5,if_pos ⟨h3,h2⟩,h4];rfl
         ·cases h
        ·rename_i a1 a2 gF eT nl cs len hy hx
         cases h
         obtain⟨h0,⟨⟨h1,h2⟩,h3⟩,h4,h5⟩:=hp
         subst h5
         simp only[aI,kE,eG,ht,pk,if_neg m8,oM,hu,dp,hi,hy,hx,gH]
         rw[if_neg hz,if_pos h1]
         simp only[Ba]
         rw[if_pos ⟨h3,h2⟩,if_neg h0,h4];rfl
        ·cases h
      ·cases h
     ·cases h
   ·cases h
  ·cases h
 ·split at h
  ·rename_i k
   split at h
   ·rename_i x y t t2 kE eG ht pk
    split at h
    ·cases h
    ·rename_i m8
     have MD:c.own=true:=by simpa using m8
     split at h
     ·rename_i e e2 hu dp
      split at h
      ·rename_i i hi
       split at h
       ·cases h
       ·rename_i hz
        split at h
        ·rename_i a1 a2 gF eT id ver off len aV a3 hy hx
         split at h
         ·rename_i o ho
          split at h
          ·rename_i u5
           cases h
           obtain⟨kh,⟨h1,h2,h3⟩,h4,h5⟩:=hp
           have ho:=ld ho kh
           subst h5
           rw[Option.map_eq_some_iff]at h4
           obtain⟨bC,h6,h7⟩:=h4
           simp only[aI,kE,eG,ht,pk,MD,if_true,mN,hu,dp,hi,hy,hx,gH]
           rw[if_neg hz,if_pos h1]
           simp only[ho]
           rw[if_neg h2,if_pos ⟨u5,h3⟩,h6]
           simp only[Option.map_some,List.map_map]
           rw[show(bx ∘ DV.c)=DV.c from rfl,h7]
          ·cases h
         ·cases h
        ·cases h
      ·cases h
     ·cases h
   ·cases h
  ·cases h
 ·split at h
  ·rename_i k
   split at h
   ·rename_i x y t t2 kE eG ht pk
    split at h
    ·cases h
    ·rename_i m8
     split at h
     ·rename_i e e2 hu dp
      split at h
      ·rename_i i hi
       split at h
       ·cases h
       ·rename_i hz
        split at h
        ·rename_i a1 a2 gF eT nl cs len hy hx
         split at h
         ·rename_i cO
          cases h
          obtain⟨h1,h2,h3⟩:=hp
          subst h1;subst h2
          simp only[aI,kE,eG,ht,pk,if_neg m8,oM,hu,dp,hi,hy,hx,gH]
          rw[if_neg hz,if_pos (by simp)]
          simp only[List.map_nil,lS,Nat.add_zero]
          rw[if_pos ⟨h3,cO⟩];rfl
         ·cases h
        ·cases h
      ·cases h
     ·cases h
   ·cases h
  ·cases h
 ·split at h
  ·rename_i t x
   split at h
   ·rename_i kf
    split at h
    ·rename_i id ver off hx ht
     split at h
     ·rename_i o ho
      cases h
      obtain⟨hv,h1,h2⟩:=hp
      have ho:=ld ho hv
      simp only[aI,kf,if_true,hx,ht,ho,h1,Option.map_some,h2]
     ·cases h
    ·cases h
   ·cases h
  ·cases h
 ·split at h
  ·rename_i t x
   split at h
   ·cases h
   ·rename_i kf
    split at h
    ·rename_i id ver off ht hx
     split at h
     ·rename_i o ho
      cases h
      obtain⟨hv,cF⟩:=hp
      have ho:=ld ho hv
      simp only[aI,hx,if_neg kf,iq,ho,oc,ht,cF]
      cases cJ P t<;>rfl
     ·cases h
    ·cases h
  ·cases h
 ·split at h
  ·rename_i t x lo hi
   split at h
   ·rename_i e id ver off len aV xx ht hx
    split at h
    ·rename_i sz cc
     split at h
     ·rename_i hs
      cases h
      have cF:kA len (lo.map (ev fr)) (hi.map (ev fr)) none=some _:=hp
      simp only[aI,pI,ht,hx,cc,Option.map_none,cF]
      rw[if_pos hs];rfl
     ·cases h
    ·cases h
   ·cases h
  ·cases h
 ·split at h
  ·rename_i t x lo hi
   split at h
   ·rename_i e nl xx cs len ht hx
    split at h
    ·rename_i sz cc
     cases h
     obtain⟨h2,h3,h4⟩:=hp
     subst h4
     simp only[aI,pI,ht,hx,cc,Option.map_none,h2,h3];rfl
    ·cases h
   ·cases h
  ·cases h
 ·split at h
  ·rename_i k
   split at h
   ·rename_i x y t t2 kE eG ht pk
    split at h
    ·cases h
    ·rename_i m8
     split at h
     ·rename_i e e2 hu dp
      split at h
      ·rename_i i hi
       split at h
       ·cases h
       ·rename_i hz
        split at h
        ·rename_i a1 a2 gF eT nl cs len aV hy hx
         split at h
         ·rename_i u5
          cases h
          obtain⟨⟨⟨h1,h2⟩,h3⟩,h4,h5,h6⟩:=hp
          subst h5
          simp only[aI,kE,eG,ht,pk,if_neg m8,oM,hu,dp,hi,hy,hx,gH]
          rw[if_neg hz,if_pos h1]
          simp only[Ba]
          rw[if_pos (by rw[u5];simp),if_pos ⟨h3,h2⟩,h4,h6];rfl
         ·cases h
        ·cases h
      ·cases h
     ·cases h
   ·cases h
  ·cases h
 ·split at h
  ·rename_i k
   split at h
   ·rename_i x y t t2 kE eG ht pk
    split at h
    ·cases h
    ·rename_i m8
     have MD:c.own=true:=by simpa using m8
     split at h
     ·rename_i e e2 hu dp
      split at h
      ·rename_i i hi
       split at h
       ·cases h
       ·rename_i hz
        split at h
        ·rename_i a1 a2 gF eT hy hx
         split at h
         ·rename_i e' BX
          cases h
          obtain⟨h1,h2⟩:=hp
          simp only[aI,kE,eG,ht,pk,MD,if_true,mN,hu,dp,hi,hy,hx,gH]
          rw[if_neg hz,if_pos h1]
          simp only
          by_cases h0:eT=0
          ·subst h0
           have l8:gF=[]:=List.eq_nil_of_length_eq_zero (by omega)
           subst l8
           rw[List.map_nil]at BX
           simp only[if_true,BX,Option.map_some]
          ·rw[if_neg h0,if_pos (by simpa using h2)]
           simp only[List.map_nil,List.nil_append,List.map_map]
           rw[show(bx ∘ DV.c)=DV.c from rfl,BX]
           simp
         ·cases h
        ·cases h
      ·cases h
     ·cases h
   ·cases h
  ·cases h
 ·cases h
 ·cases h
 ·cases h
 ·cases h
 ·cases h
 ·cases h
def OE (X:Sys)(Γ:List (Nat×Ctx))(bp:Bool)(lc:Option (List Nat))(m:M)(g:DV)(args:List DV)(a:Option uq):Option (DV×M×List Prop):=
 match g,a with
 | .fn f xs ys,some (.op r)=>if !enters X.P f then none else match X.pr f with
  | some p=>some (r.d,eD m r.set,[p m.st (xs++args++ys)=some r])
  | none=>none
 | .fn f xs ys,some (.call d m')=>if !enters X.P f then none else match X.pr f with
  | some _=>none
  | none=>
   if(xs++args++ys).all isClosed then
    if bp then some (shift m.st.length m.pd.length d,⟨m.st++m'.st.map fun o=>tE m.st.length m.pd.length o,m.pd++m'.pd⟩,[X.eU [] f (xs++args++ys) ⟨[],[]⟩ d m'])
    else some (d,m,[X.bg f (xs++args++ys) d])
   else if lc.isSome then none
   else if bp then some (d,m',[∃m1,X.eU Γ f (xs++args++ys) m d m1∧zg m.st.length d m1=some m'])
   else some (d,m',[X.eU Γ f (xs++args++ys) m d m'])
 | .fn f xs ys,some (.Q5 ky st0 d1 os d st')=>if !enters X.P f then none else match X.pr f,lc with
  | none,some aA=>if(xs++args++ys).all isClosed then none else
   some (d,{ m with st:=st'},[nd aA=true∧kL aA m.st aA=some st0∧eI aA m.st (xs++args++ys)=some ky,X.cD f ky st0 d1 os,dm aA (gC m.st aA) d1=some d∧jD aA (gC m.st aA) aA (gC m.st aA) os m.st=some st'])
  | _,_=>none
 | .fn f xs ys,some (.Q4 d m' d' st')=>if !enters X.P f then none else match X.pr f with
  | some _=>none
  | none=>if(xs++args++ys).all isClosed&&bp then
    some (d',⟨m.st++st',m.pd++m'.pd⟩,[X.eU [] f (xs++args++ys) ⟨[],[]⟩ d m'∧shift m.st.length m.pd.length d=d'∧(m'.st.map fun o=>tE m.st.length m.pd.length o)=st'])
   else none
 | .fn f xs ys,some (.A5 d os)=>if !enters X.P f then none else match X.pr f with
  | some _=>none
  | none=>if(xs++args++ys).all isClosed&&bp then
    some (shift m.st.length m.pd.length d,⟨m.st++os.map (OD.sh m.st.length m.pd.length),m.pd⟩,[X.eU [] f (xs++args++ys) ⟨[],[]⟩ d ⟨bm os,[]⟩])
   else none
 | .fn f xs ys,some (.La d1 ly os)=>if !enters X.P f then none else match X.pr f,lc with
  | none,some aA=>if(xs++args++ys).all isClosed then none else if nd aA then match vw aA m.st aA ly,eI aA m.st (xs++args++ys),dm aA (gC m.st aA) d1,tz aA (gC m.st aA) aA (gC m.st aA) os m.st with
   | some (st0,ps),some ky,some d,some st'=>some (d,{ m with st:=st'},X.cD f ky st0 d1 (bm os)::ps)
   | _,_,_,_=>none else none
  | _,_=>none
 | .yl j,some (.call d m')=>some (d,m',[X.Round Γ j args m d m'])
 | _,_=>none
def Hs (X:Sys)(g:de)(T:Told)(i:Nat)(s:S):Option (S×List Prop):=
 match g.ops[i]? with
 | none=>some (s,[])
 | some o=>
  if !qv g.nt o.dst then none else
  match oF g.ops o s.fr with
  | none=>none
  | some false=>some ({ s with fr:=put s.fr o.dst (.aX [])},[])
  | some true=>
   match cK s.fr o.op with
   | some (c,args)=>(OE X g.Γ (g.site i).own (g.site i).lc s.m c args (told T g.cd i)).map fun x=>(⟨put s.fr o.dst x.1,x.2.1⟩,x.2.2)
   | none=>(OH X.P (g.site i) o.op s.fr s.m.st (told T g.cd i)).map fun x=>(⟨put (mS s.fr x.1.drop) o.dst x.1.d,eD s.m x.1.set⟩,x.2)
theorem aic {X:Sys}{Γ:List (Nat×Ctx)}{bp:Bool}{lc:Option (List Nat)}{m m':M}{c d:DV}{args:List DV}{a:Option uq}{ps:List Prop}(h:OE X Γ bp lc m c args a=some (d,m',ps))(hp:bQ ps):
  Ev fun k=>(match c with
   | .fn f xs ys=>jb X.P (X.ev k) Γ bp lc m f (xs++args++ys)
   | .yl j=>(X.ev k).round Γ j args m
   | _=>none)=some (d,m'):=by
 unfold OE at h
 split at h
 ·rename_i f xs ys r
  dsimp only at h
  by_cases he:(!enters X.P f)=true
  ·rw[if_pos he]at h;cases h
  ·rw[if_neg he]at h
   split at h
   ·rename_i p ey
    cases h
    have cF:p m.st (xs++args++ys)=some _:=hp
    refine Ev.of fun k=>?_
    simp only[jb]
    rw[if_neg he,X.oV]
    simp only[ey,cF,Option.map_some]
   ·cases h
 ·rename_i f xs ys d0 m0
  dsimp only at h
  by_cases he:(!enters X.P f)=true
  ·rw[if_pos he]at h;cases h
  ·rw[if_neg he]at h
   split at h
   ·cases h
   ·rename_i ey
    by_cases hc:(xs++args++ys).all isClosed=true
    ·rw[if_pos hc]at h
     cases bp with
     | true=>
      simp only[if_true]at h
      cases h
      have cF:X.eU [] f (xs++args++ys) ⟨[],[]⟩ _ _:=hp
      refine Ev.mono cF fun k hr=>?_
      simp only[jb]
      rw[if_neg he,X.oV]
      simp only[ey,hr]
      rw[if_pos hc]
      rfl
     | false=>
      simp only[Bool.false_eq_true,if_false]at h
      cases h
      have cF:Ev fun k=>∃d' m',(X.ev k).call [] f (xs++args++ys) ⟨[],[]⟩=some (d',m')∧eF m'.st d'=some _:=hp
      refine Ev.mono cF fun k Ms=>?_
      obtain⟨d',m1,hr,fO⟩:=Ms
      simp only[jb]
      rw[if_neg he,X.oV]
      simp only[ey,hr]
      rw[if_pos hc]
      simp only[Bool.false_eq_true,if_false,fO,Option.map_some]
    ·rw[if_neg hc]at h
     have BY:lc=none:=by
      cases lc with
      | none=>rfl
      | some aA=>simp only[Option.isSome_some,if_true]at h;cases h
     subst BY
     simp only[Option.isSome_none,Bool.false_eq_true,if_false]at h
     cases bp with
     | true=>
      simp only[if_true]at h
      cases h
      obtain⟨m1,hr,ht⟩:=hp
      refine Ev.mono hr fun k hr=>?_
      simp only[jb]
      rw[if_neg he,X.oV]
      simp only[ey]
      rw[if_neg hc]
      simp only[if_true,hr,Option.bind_some,ht,Option.map_some]
     | false=>
      simp only[Bool.false_eq_true,if_false]at h
      cases h
      have cF:X.eU Γ f (xs++args++ys) m _ _:=hp
      refine Ev.mono cF fun k hr=>?_
      simp only[jb]
      rw[if_neg he,X.oV]
      simp only[ey]
      rw[if_neg hc]
      simp only[Bool.false_eq_true,if_false,hr]
 ·rename_i f xs ys ky st0 d1 os d0 st'
  dsimp only at h
  by_cases he:(!enters X.P f)=true
  ·rw[if_pos he]at h;cases h
  ·rw[if_neg he]at h
   split at h
   ·rename_i aA ey _
    by_cases hc:(xs++args++ys).all isClosed=true
    ·rw[if_pos hc]at h;cases h
    ·rw[if_neg hc]at h
     cases h
     obtain⟨⟨h1,h2,h3⟩,⟨d',m1,hr,jg⟩,h4,h5⟩:=hp
     refine Ev.mono hr fun k hr=>?_
     simp only[jb]
     rw[if_neg he,X.oV]
     simp only[ey]
     rw[if_neg hc]
     simp only[vz,h1,h2,h3,hr,Bool.not_true,Bool.false_eq_true,if_false]
     rw[←(Gf h2).1,jg]
     simp only[xG,h4,h5]
   ·cases h
 ·rename_i f xs ys d1 m1 d2 cf
  dsimp only at h
  by_cases he:(!enters X.P f)=true
  ·rw[if_pos he]at h;cases h
  ·rw[if_neg he]at h
   cases ey:X.pr f with
   | some p=>simp only[ey]at h;cases h
   | none=>
    simp only[ey]at h
    by_cases hc:((xs++args++ys).all isClosed&&bp)=true
    ·rw[if_pos hc]at h
     cases h
     simp only[Bool.and_eq_true]at hc
     obtain⟨hc,hk⟩:=hc
     subst hk
     obtain⟨h1,h2,h3⟩:=hp
     refine Ev.mono h1 fun k hr=>?_
     simp only[jb]
     rw[if_neg he,X.oV]
     simp only[ey,hr]
     rw[if_pos hc]
     simp only[if_true,h2,h3]
    ·rw[if_neg hc]at h;cases h
 ·rename_i f xs ys d1 os
  dsimp only at h
  by_cases he:(!enters X.P f)=true
  ·rw[if_pos he]at h;cases h
  ·rw[if_neg he]at h
   cases ey:X.pr f with
   | some p=>simp only[ey]at h;cases h
   | none=>
    simp only[ey]at h
    by_cases hc:((xs++args++ys).all isClosed&&bp)=true
    ·rw[if_pos hc]at h
     cases h
     simp only[Bool.and_eq_true]at hc
     obtain⟨hc,hk⟩:=hc
     subst hk
     have cF:X.eU [] f (xs++args++ys) ⟨[],[]⟩ d1 ⟨bm os,[]⟩:=hp
     refine Ev.mono cF fun k hr=>?_
     simp only[jb]
     rw[if_neg he,X.oV]
     simp only[ey,hr]
     rw[if_pos hc]
     simp only[if_true,bm,List.map_map,List.append_nil]
     congr 4
     refine List.map_congr_left fun o _=>?_
     exact(OD.af9 _ _ o).symm
    ·rw[if_neg hc]at h;cases h
 ·rename_i f xs ys d1 ly os
  dsimp only at h
  by_cases he:(!enters X.P f)=true
  ·rw[if_pos he]at h;cases h
  ·rw[if_neg he]at h
   split at h
   ·rename_i aA ey _
    by_cases hc:(xs++args++ys).all isClosed=true
    ·rw[if_pos hc]at h;cases h
    ·rw[if_neg hc]at h
     split at h
     ·rename_i ig
      split at h
      ·rename_i st0 ps ky d0 st' h1 h2 h3 h4
       cases h
       obtain⟨⟨d',m1,hr,jg⟩,pe⟩:=bQ.cons hp
       have h5:=TJ h1 (bQ.all pe)
       have h6:=UE h4
       refine Ev.mono hr fun k hr=>?_
       simp only[jb]
       rw[if_neg he,X.oV]
       simp only[ey]
       rw[if_neg hc]
       simp only[vz,ig,h5,h2,hr,Bool.not_true,Bool.false_eq_true,if_false]
       rw[←(Gf h5).1,jg]
       simp only[xG,h3,h6]
      ·cases h
     ·cases h
   ·cases h
 ·cases h
  exact hp
 ·cases h
theorem V7 {X:Sys}{g:de}{T:Told}{i:Nat}{s s':S}{ps:List Prop}(h:Hs X g T i s=some (s',ps))(hp:bQ ps):Ev fun k=>rq X.P (X.ev k) g i s=some s':=by
 unfold Hs at h
 unfold rq
 split at h
 ·rename_i ho;cases h
  exact Ev.of fun k=>by simp only[ho]
 ·rename_i o ho
  split at h
  ·cases h
  ·rename_i hd
   split at h
   ·cases h
   ·rename_i hw
    cases h
    exact Ev.of fun k=>by simp only[ho,hw];rw[if_neg hd]
   ·rename_i hw
    split at h
    ·rename_i c args hc
     rw[Option.map_eq_some_iff]at h
     obtain⟨⟨d,m',qs⟩,h1,h2⟩:=h
     simp only[Prod.mk.injEq]at h2
     obtain⟨rfl,rfl⟩:=h2
     refine Ev.mono (aic h1 hp) fun k hk=>?_
     simp only[ho,hw,hc]
     rw[if_neg hd]
     cases c<;>first | (cases hk;done) | (simp only at hk ⊢;rw[hk];rfl)
    ·rename_i hc
     rw[Option.map_eq_some_iff]at h
     obtain⟨⟨r,qs⟩,h1,h2⟩:=h
     simp only[Prod.mk.injEq]at h2
     obtain⟨rfl,rfl⟩:=h2
     have:=aie h1 hp
     refine Ev.of fun k=>?_
     simp only[ho,hw,hc,this,Option.map_some]
     rw[if_neg hd]
def Du (X:Sys)(g:de)(T:Told):List Nat->S->Option (S×List Prop)
 | [],s=>some (s,[])
 | i::is,s=>match Hs X g T i s with
  | some (s',ps)=>match Du X g T is s' with
   | some (s,qs)=>some (s,ps++qs)
   | none=>none
  | none=>none
theorem V9 {X:Sys}{g:de}{T:Told}:∀(is:List Nat) {s s':S}{ps:List Prop},Du X g T is s=some (s',ps)->bQ ps->Ev fun k=>wj X.P (X.ev k) g is s=some s'
 | [],s,s',ps,h,_=>by simp only[Du]at h;cases h;exact Ev.of fun k=>rfl
 | i::is,s,s',ps,h,hp=>by
  simp only[Du]at h
  split at h
  ·rename_i s1 jk h1
   split at h
   ·rename_i s2 qs h2
    cases h
    obtain⟨jh,ij⟩:=hp.append
    refine((V7 h1 jh).and (V9 is h2 ij)).mono fun k hk=>?_
    simp only[wj,hk.1,hk.2]
   ·cases h
  ·cases h
def OC (X:Sys)(g:de)(i:Nat)(fr:Nat->DV):Option (List (Nat×Bool)):=k8 ⟨fun _ _ _ _=>none,fun _ _ _ _=>none,X.pr⟩ g i fr
theorem aib (X:Sys)(g:de)(i:Nat)(fr:Nat->DV)(k:Nat):k8 (X.ev k) g i fr=OC X g i fr:=by
 unfold OC k8
 simp only[X.oV]
def Dv (X:Sys)(g:de)(T:Told):List Nat->S->Option (S×List (Option (List (Nat×Bool)))×List Prop)
 | [],s=>some (s,[],[])
 | i::is,s=>match Hs X g T i s with
  | some (s',ps)=>match Dv X g T is s' with
   | some (r,as,qs)=>some (r,OC X g i s.fr::as,ps++qs)
   | none=>none
  | none=>none
theorem V8 {X:Sys}{g:de}{T:Told}:∀(is:List Nat) {s s':S}{as:List (Option (List (Nat×Bool)))}{ps:List Prop},Dv X g T is s=some (s',as,ps)->bQ ps->Ev fun k=>wh X.P (X.ev k) g is s=some (s',as)
 | [],s,s',as,ps,h,_=>by simp only[Dv]at h;cases h;exact Ev.of fun k=>rfl
 | i::is,s,s',as,ps,h,hp=>by
  simp only[Dv]at h
  split at h
  ·rename_i s1 jk h1
   split at h
   ·rename_i s2 as2 qs h2
    cases h
    obtain⟨jh,ij⟩:=hp.append
    refine((V7 h1 jh).and (V8 is h2 ij)).mono fun k hk=>?_
    simp only[wh,hk.1,hk.2,Option.map_some,aib]
   ·cases h
  ·cases h
def Hr (X:Sys)(f nt:Nat)(Γ:List (Nat×Ctx))(cd:Nat)(ops:Array Oper)(draw:Bool)(T:Told)(s:S):Option (S×List Prop):=
 let g:de:={ an:=X.an,f,nt,cd,ops,base:=s.m.st.length,Γ}
 if draw then
  if E6 X.an f cd ops then
   match Dv X g T (List.range ops.size) (mU g s)with
   | some (s',as,ps)=>if(Nh X.an f cd ops).all fun(j,i)=>qu (as.getD j none) (as.getD i none)then some (vu g s',ps)else none
   | none=>none
  else none
 else match Du X g T (List.range ops.size) (mU g s)with
  | some (s,ps)=>some (vu g s,ps)
  | none=>none
theorem V5 {X:Sys}{f nt:Nat}{Γ:List (Nat×Ctx)}{cd:Nat}{ops:Array Oper}{draw:Bool}{T:Told}{s s':S}{ps:List Prop}(h:Hr X f nt Γ cd ops draw T s=some (s',ps))(hp:bQ ps):
  Ev fun k=>yY X.P (X.ev k) X.an f nt Γ cd ops draw s=some s':=by
 unfold Hr at h
 unfold yY
 simp only at h ⊢
 split at h
 ·rename_i hd
  split at h
  ·rename_i hs
   split at h
   ·rename_i s1 as jk h1
    split at h
    ·rename_i hc
     cases h
     refine(V8 _ h1 hp).mono fun k hk=>?_
     have hs':xP { an:=X.an,f,nt,cd,ops,base:=s.m.st.length,Γ}=true:=hs
     rw[if_pos hd,if_pos hs']
     simp only[hk]
     rw[if_pos]
     exact hc
    ·cases h
   ·cases h
  ·cases h
 ·rename_i hd
  split at h
  ·rename_i s1 jk h1
   cases h
   refine(V9 _ h1 hp).mono fun k hk=>?_
   rw[if_neg hd,hk,Option.map_some]
  ·cases h
def gT (X:Sys)(f nt:Nat)(Γ:List (Nat×Ctx))(T:Told):Code->S->Option (Ex×S×List Prop)
 | .skip,s=>some (.normal,s,[])
 | .region cd ops draw,s=>match Hr X f nt Γ cd ops draw T s with
  | some (s,ps)=>some (.normal,s,ps)
  | none=>none
 | .seq a b,s=>match gT X f nt Γ T a s with
  | some (.normal,s',ps)=>match gT X f nt Γ T b s' with
   | some (ex,s,qs)=>some (ex,s,ps++qs)
   | none=>none
  | r=>r
 | .cond x a b,s=>match ev s.fr x with
  | .c (.sc (.bool true))=>gT X f nt Γ T a s
  | .c (.sc (.bool false))=>gT X f nt Γ T b s
  | _=>none
 | .block id a,s=>match gT X f nt Γ T a s with
  | some (.exit cr,s',ps)=>some (if cr=id then .normal else .exit cr,s',ps)
  | r=>r
 | .loop a,s=>match told T (ep a) 1000 with
  | some (.code ex s')=>some (ex,s',[X.Go f nt Γ (.loop a) s ex s'])
  | _=>none
 | .rangeFunc g ps as body,s=>match told T (ep body) 1000 with
  | some (.code ex s')=>some (ex,s',[X.Go f nt Γ (.rangeFunc g ps as body) s ex s'])
  | _=>none
 | .scope a,s=>gT X f nt Γ T a s
 | .label _,s=>some (.normal,s,[])
 | .exit id,s=>some (.exit id,s,[])
 | .ret,s=>some (.ret,s,[])
 | _,_=>none
theorem rA {X:Sys}{f nt:Nat}{Γ:List (Nat×Ctx)}{T:Told}:∀(c:Code) {s s':S}{ex:Ex}{ps:List Prop},gT X f nt Γ T c s=some (ex,s',ps)->bQ ps->X.Go f nt Γ c s ex s'
 | .skip,s,s',ex,ps,h,hp=>by simp only[gT]at h;cases h;exact Ev.of fun k=>rfl
 | .region cd ops draw,s,s',ex,ps,h,hp=>by
  simp only[gT]at h
  split at h
  ·rename_i s1 jk h1
   cases h
   refine(V5 h1 hp).mono fun k hk=>?_
   simp only[cq,hk,Option.map_some]
  ·cases h
 | .seq a b,s,s',ex,ps,h,hp=>by
  simp only[gT]at h
  split at h
  ·rename_i s1 jk h1
   split at h
   ·rename_i LW s2 qs h2
    cases h
    obtain⟨jh,ij⟩:=hp.append
    refine((rA a h1 jh).and (rA b h2 ij)).mono fun k hk=>?_
    simp only[cq,hk.1,hk.2]
   ·cases h
  ·rename_i bw
   refine(rA a h hp).mono fun k hk=>?_
   simp only[cq,hk]
   cases ex with
   | normal=>exact absurd h (bw s' ps)
   | _=>rfl
 | .cond x a b,s,s',ex,ps,h,hp=>by
  simp only[gT]at h
  split at h
  ·rename_i hx
   refine(rA a h hp).mono fun k hk=>?_
   simp only[cq,hx,hk]
  ·rename_i hx
   refine(rA b h hp).mono fun k hk=>?_
   simp only[cq,hx,hk]
  ·cases h
 | .block id a,s,s',ex,ps,h,hp=>by
  simp only[gT]at h
  split at h
  ·rename_i cr s1 jk h1
   cases h
   refine(rA a h1 hp).mono fun k hk=>?_
   simp only[cq,hk]
  ·rename_i bw
   refine(rA a h hp).mono fun k hk=>?_
   simp only[cq,hk]
   cases ex with
   | exit cr=>exact absurd h (bw cr s' ps)
   | _=>rfl
 | .loop a,s,s',ex,ps,h,hp=>by
  simp only[gT]at h
  split at h
  ·cases h;exact hp
  ·cases h
 | .rangeFunc g ps' as body,s,s',ex,ps,h,hp=>by
  simp only[gT]at h
  split at h
  ·cases h;exact hp
  ·cases h
 | .exit id,s,s',ex,ps,h,hp=>by simp only[gT]at h;cases h;exact Ev.of fun k=>rfl
 | .ret,s,s',ex,ps,h,hp=>by simp only[gT]at h;cases h;exact Ev.of fun k=>rfl
 | .scope x,s,s',ex,ps,h,hp=>by
  simp only[gT]at h
  refine(rA x h hp).mono fun k hk=>?_
  simp only[cq,hk]
 | .label x,s,s',ex,ps,h,hp=>by simp only[gT]at h;cases h;exact Ev.of fun k=>rfl
 | .goto x,s,s',ex,ps,h,hp=>by simp[gT]at h
 | .refuse x,s,s',ex,ps,h,hp=>by simp[gT]at h
def both:Option (Ex×S×List Prop)->Option (Ex×S)×Prop
 | some (ex,s,ps)=>(some (ex,s),bQ ps)
 | none=>(none,False)
theorem Sys.go {X:Sys}{f nt:Nat}{Γ:List (Nat×Ctx)}{c:Code}{s s':S}{ex:Ex}(T:Told){p:Prop}(h:p)(e:both (gT X f nt Γ T c s)=(some (ex,s'),p)):X.Go f nt Γ c s ex s':=by
 cases hc:gT X f nt Γ T c s with
 | none=>rw[hc]at e;simp[both]at e
 | some r=>
  obtain⟨LV,s1,ps⟩:=r
  rw[hc]at e
  simp only[both,Prod.mk.injEq,Option.some.injEq]at e
  obtain⟨⟨rfl,rfl⟩,rfl⟩:=e
  exact rA c hc h
end Go.Abs
set_option linter.unusedSimpArgs false
namespace Go.Abs
open Go
variable [Fl]
def sub:Code->List Nat->Code
 | c,[]=>c
 | .seq a b,0::p=>sub a p
 | .seq a b,_::p=>sub b p
 | .cond _ a b,0::p=>sub a p
 | .cond _ a b,_::p=>sub b p
 | .block _ a,_::p=>sub a p
 | .loop a,_::p=>sub a p
 | .scope a,_::p=>sub a p
 | .rangeFunc _ _ a b,0::p=>sub a p
 | .rangeFunc _ _ a b,1::p=>sub b p
 | .rangeFunc _ _ a b,_::p=>.seq a b
 | c,_=>c
section
variable {X:Sys}{f nt:Nat}{Γ:List (Nat×Ctx)}
theorem Sys.aqi {a:Code}{s s1:S}{ex:Ex}{id:Nat}(h1:X.Go f nt Γ a s ex s1):X.Go f nt Γ (.block id a) s (match ex with | .exit j=>if j=id then .normal else .exit j | ex=>ex) s1:=
 Ev.mono h1 fun k h=>by
  simp only[cq,h]
  cases ex<;>rfl
def Sys.Loop (X:Sys)(f nt:Nat)(Γ:List (Nat×Ctx))(a:Code)(m:Nat)(s:S)(ex:Ex)(s':S):Prop:=
 ∃k0 n0,∀k,k0≤k->∀n,n0≤n->n9 (fun s=>cq X.P (X.ev k) X.an f nt Γ k a (km (X.an.rs f (ep a)) s)) (X.an.cut f (ep a)) m n s=some (ex,s')
theorem Sys.Loop.go {a:Code}{s s':S}{ex:Ex}(h:X.Loop f nt Γ a s.m.st.length s ex s'):X.Go f nt Γ (.loop a) s ex s':=by
 obtain⟨k0,n0,h⟩:=h
 exact⟨max k0 n0,fun k hk=>h k (by omega) k (by omega)⟩
theorem Sys.Loop.step {a:Code}{m:Nat}{s s0 s1 s2 s3:S}{ex:Ex}(h0:km (X.an.rs f (ep a)) s=s0)(h1:X.Go f nt Γ a s0 .normal s1)(hc:ss (X.an.cut f (ep a)) m s1=some s2)(h2:X.Loop f nt Γ a m s2 ex s3):X.Loop f nt Γ a m s ex s3:=by
 obtain⟨k1,h1⟩:=h1
 obtain⟨k2,n2,h2⟩:=h2
 refine⟨max k1 k2,n2+1,fun k hk n hn=>?_⟩
 cases n with
 | zero=>omega
 | succ n=>
  simp only[n9,h0,h1 k (by omega),hc]
  exact h2 k (by omega) n (by omega)
theorem Sys.Loop.exit {a:Code}{m:Nat}{s s0 s1:S}{ex:Ex}(h0:km (X.an.rs f (ep a)) s=s0)(h1:X.Go f nt Γ a s0 ex s1)(hx:ex≠ .normal):X.Loop f nt Γ a m s ex s1:=by
 obtain⟨k1,h1⟩:=h1
 refine⟨k1,1,fun k hk n hn=>?_⟩
 cases n with
 | zero=>omega
 | succ n=>
  simp only[n9,h0,h1 k hk]
  cases ex<;>first | rfl | exact absurd rfl hx
end
section
variable {X:Sys}{Γ:List (Nat×Ctx)}
def uR:Ex->Bool
 | .normal=>true
 | _=>false
def sW:Ex->Bool
 | .exit _=>true
 | _=>false
theorem Sys.call {f:FuncId}{fn:Func}{c:Code}{args:List DV}{m m':M}{ex:Ex}{s:S}{d:DV}(hg:X.Go f fn.ntmps Γ c ⟨mO args,m⟩ ex s)(hf:X.P.funcs[f]? =some fn)(hb:fn.body=some c)(hx:sW ex=false)
  (hr:(jW X.P s fn.results.toList).map lA=some d) (hm:s.m=m'):X.eU Γ f args m d m':=by
 subst hm
 refine Ev.succ (Ev.mono hg fun k h=>?_)
 show A4 X.P X.an (X.ev k) k Γ f args m=_
 simp only[A4,hf,hb,h]
 cases ex with
 | exit _=>cases hx
 | normal=>
  simp only
  rw[Option.map_eq_some_iff]at hr ⊢
  obtain⟨ds,h1,h2⟩:=hr
  exact⟨ds,h1,by rw[h2]⟩
 | ret=>
  simp only
  rw[Option.map_eq_some_iff]at hr ⊢
  obtain⟨ds,h1,h2⟩:=hr
  exact⟨ds,h1,by rw[h2]⟩
theorem Sys.ZX {f:FuncId}{args:List DV}{d d':DV}{m:M}(h:X.eU [] f args ⟨[],[]⟩ d' m)(hc:eF m.st d'=some d):X.bg f args d:=Ev.mono h fun k hk=>⟨d',m,hk,hc⟩
theorem Sys.round {j:Nat}{x:Ctx}{args:List DV}{m m':M}{ex:Ex}{s:S}{b:Bool}(hc:sr Γ j=some x)(hn:args.length=x.params.size)(hp:m.pd[j]? =some .normal)(ht:(x.params.toList.all fun t=>t<x.nt)=true)
  (ha:(match x.assign with | .region _ _ _=>true | .skip=>true | _=>false)=true) (hg:X.Go x.f x.nt (gD Γ j) (.seq x.assign x.body) ⟨np x.fr (x.params.toList.zip args),m⟩ ex s) (hb:uR ex=b) (hm:{ s.m with pd:=s.m.pd.set j ex}=m'):
  X.Round Γ j args m (dB b) m':=by
 subst hm
 subst hb
 refine Ev.succ (Ev.mono hg fun k h=>?_)
 show Db X.P X.an (X.ev k) k Γ j args m=_
 simp only[Db,hc]
 rw[if_neg (by simp only[hn,hp,ht];simp)]
 simp only[cq]at h
 have hr:(∃s1,cq X.P (X.ev k) X.an x.f x.nt (gD Γ j) k x.assign ⟨np x.fr (x.params.toList.zip args),m⟩=some (.normal,s1))∨cq X.P (X.ev k) X.an x.f x.nt (gD Γ j) k x.assign ⟨np x.fr (x.params.toList.zip args),m⟩=none:=by
  split at ha
  ·rename_i r o d Ma
   rw[Ma]
   simp only[cq]
   cases yY X.P (X.ev k) X.an x.f x.nt (gD Γ j) r o d ⟨np x.fr (x.params.toList.zip args),m⟩with
   | none=>exact .inr rfl
   | some s1=>exact .inl ⟨s1,rfl⟩
  ·rename_i Ma
   rw[Ma]
   exact .inl ⟨_,rfl⟩
  ·cases ha
 rcases hr with ⟨s1,hr⟩ | hr
 ·rw[hr]at h
  simp only at h
  simp only[hr,h]
  cases ex<;>rfl
 ·rw[hr]at h
  cases h
theorem Sys.range {f nt:Nat}{g:Operand}{ps:Array Tmp}{as body:Code}{s:S}{h:FuncId}{xs ys:List DV}{d:DV}{m':M}{e:Ex}(hg:Abs.ev s.fr g= .fn h xs ys)(he:enters X.P h=true)
  (hr:X.eU ((s.m.pd.length,{ f,nt,fr:=fun t=>bx (s.fr t),params:=ps,assign:=as,body})::Γ) h (xs++[.yl s.m.pd.length]++ys) { s.m with pd:=s.m.pd++[.normal]} d m')
  (hp:m'.pd[s.m.pd.length]? =some e) (hc:X.an.cut f (ep body)=none):X.Go f nt Γ (.rangeFunc g ps as body) s e ⟨s.fr,m'⟩:=by
 refine Ev.mono hr fun k hk=>?_
 simp only[cq,hg]
 rw[if_neg (by simp[he])]
 simp only[hk,hp,hc]
end
theorem apR {j:Nat}{x:Ctx}{Γ:List (Nat×Ctx)}(h:∀y∈Γ,y.1≠j):gD ((j,x)::Γ) j=Γ:=by
 unfold gD
 rw[List.filter_cons,if_neg (by simp)]
 exact List.filter_eq_self.2 fun y hy=>by simp[h y hy]
theorem aaZ {j:Nat}{x:Ctx}{Γ:List (Nat×Ctx)}:sr ((j,x)::Γ) j=some x:=by simp[sr]
section
variable {X:Sys}{Γ:List (Nat×Ctx)}{f nt:Nat}{ps:Array Tmp}{asg body:Code}{fr:Nat->DV}
def GG (f nt:Nat)(fr:Nat->DV)(ps:Array Tmp)(asg body:Code):Ctx:={ f,nt,fr:=fun t=>bx (fr t),params:=ps,assign:=asg,body}
theorem Sys.afc {c:Code}{g:Operand}{h:FuncId}{xs ys:List DV}{d:DV}{e:Ex}{st st':List Ob}{pd pd':List Ex}(sI:c= .rangeFunc g ps asg body)(hg:Abs.ev fr g= .fn h xs ys)(he:enters X.P h=true)
  (hr:X.eU ((pd.length,GG f nt fr ps asg body)::Γ) h (xs++[.yl pd.length]++ys) ⟨st,pd++[.normal]⟩ d ⟨st',pd'⟩)
  (hp:pd'[pd.length]? =some e) (hc:X.an.cut f (ep body)=none):X.Go f nt Γ c ⟨fr,⟨st,pd⟩⟩ e ⟨fr,⟨st',pd'⟩⟩:=by
 subst sI
 exact Sys.range (s:=⟨fr,⟨st,pd⟩⟩) hg he hr hp hc
theorem Sys.afR {j:Nat}{args:List DV}{st st':List Ob}{pd pd':List Ex}{ex:Ex}{fr':Nat->DV}{b:Bool}(hΓ:∀y∈Γ,y.1≠j)(hn:args.length=ps.size)(hp:pd[j]? =some .normal)(ht:(ps.toList.all fun t=>t<nt)=true)
  (ha:(match asg with | .region _ _ _=>true | .skip=>true | _=>false)=true) (hg:X.Go f nt Γ (.seq asg body) ⟨np (fun t=>bx (fr t)) (ps.toList.zip args),⟨st,pd⟩⟩ ex ⟨fr',⟨st',pd'⟩⟩) (hb:uR ex=b):
  X.Round ((j,GG f nt fr ps asg body)::Γ) j args ⟨st,pd⟩ (dB b) ⟨st',pd'.set j ex⟩:=
 Sys.round (x:=GG f nt fr ps asg body) aaZ hn hp ht ha (by rw[apR hΓ];exact hg) hb rfl
end
end Go.Abs
