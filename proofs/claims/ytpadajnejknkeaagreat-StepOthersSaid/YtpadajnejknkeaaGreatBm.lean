/-
-/
import Derived.Test.YtpadajnejknkeaaGreatBk
set_option linter.unusedVariables false
set_option linter.unusedSimpArgs false
set_option linter.unusedSectionVars false
namespace Go.Abs
open Go
variable [Fl]
open Enc EncX
def OD.l {α:Type}[Enc α](v:Nat)(l:List α):OD:=⟨v,bl l,true,fun _=>hD.map _⟩
def OD.z:OD:=OD.x 0 []
def iC:List Prop->Prop
 | []=>True
 | p::l=>iC l∧p
theorem bQ.snoc:∀{l:List Prop}{p:Prop},bQ l->p->bQ (l++[p])
 | [],p,_,h=>h
 | [q],p,h,h'=>⟨h,h'⟩
 | q::r::l,p,h,h'=>⟨h.1,bQ.snoc (l:=r::l) h.2 h'⟩
theorem bQ.join:∀{b a:List Prop},bQ a->bQ b->bQ (a++b)
 | [],a,h,_=>by simpa using h
 | q::b,a,h,h'=>by
  obtain⟨h1,h2⟩:=bQ.cons h'
  have:=bQ.join (b:=b) (bQ.snoc h h1) h2
  simpa using this
theorem iC.rev:∀{l:List Prop},iC l->bQ l.reverse
 | [],_=>trivial
 | p::l,h=>by
  rw[List.reverse_cons]
  exact bQ.snoc (iC.rev h.1) h.2
theorem iC.add:∀{l L:List Prop},bQ l->iC L->iC (l.reverse++L)
 | [],L,_,h=>by simpa using h
 | p::l,L,hl,h=>by
  obtain⟨h1,h2⟩:=bQ.cons hl
  rw[List.reverse_cons,List.append_assoc]
  exact iC.add (L:=[p]++L) h2 ⟨h,h1⟩
def Sys.W (X:Sys)(f nt:Nat)(b:Code)(pos:Pos)(s:S)(Q:Ex->S->Prop)(T:Told)(L:List Prop):Prop:=iC L->X.ja f nt b pos s Q
def RP (os:List OD):List Prop:=(os.filter (·.b)).map fun o=>o.cs=o.cs
def Fc (os:List OD):List Prop:=(os.filter (·.b)).map fun o=>o.ob=o.ob
theorem KK {l:List Prop}(h:∀p∈l,p):bQ l:=by
 induction l with
 | nil=>trivial
 | cons p l ih=>
  have h1:=h p List.mem_cons_self
  have h2:=ih fun q hq=>h q (List.mem_cons_of_mem _ hq)
  cases l with
  | nil=>exact h1
  | cons q l=>exact⟨h1,h2⟩
theorem abl (os:List OD):bQ (RP os):=KK fun p hp=>by
 obtain⟨o,_,rfl⟩:=List.mem_map.1 hp;rfl
theorem RS (os:List OD):bQ (Fc os):=KK fun p hp=>by
 obtain⟨o,_,rfl⟩:=List.mem_map.1 hp;rfl
section
variable {X:Sys}{f nt:Nat}{b:Code}{pos:Pos}{s:S}{Q:Ex->S->Prop}{T:Told}{L:List Prop}{R A:Type}{r:R}
theorem w0 (h:X.W f nt b pos s Q [] []):X.ja f nt b pos s Q:=h trivial
theorem wi {p:Prop}[Decidable p]{a c:Option R}(k:Nat×Nat)(h:(if p then a else c)=some r)(h1:p->a=some r->X.W f nt b pos s Q ((k,.b true)::T) (p::L))(h2:¬p->c=some r->X.W f nt b pos s Q ((k,.b false)::T) ((¬p)::L)):X.W f nt b pos s Q T L:=fun hL=>by
 by_cases hp:p
 ·rw[if_pos hp]at h;exact h1 hp h ⟨hL,hp⟩
 ·rw[if_neg hp]at h;exact h2 hp h ⟨hL,hp⟩
theorem wI {p:Prop}[Decidable p]{a c:Option R}(h:(if p then a else c)=some r)(h1:p->a=some r->X.W f nt b pos s Q T L)(h2:¬p->c=some r->X.W f nt b pos s Q T L):X.W f nt b pos s Q T L:=fun hL=>by
 by_cases hp:p
 ·rw[if_pos hp]at h;exact h1 hp h hL
 ·rw[if_neg hp]at h;exact h2 hp h hL
theorem wq {p:Prop}[Decidable p]{a:Option R}(h:(if p then a else none)=some r)(h1:p->a=some r->X.W f nt b pos s Q T L):X.W f nt b pos s Q T L:=fun hL=>by
 by_cases hp:p
 ·rw[if_pos hp]at h;exact h1 hp h hL
 ·rw[if_neg hp]at h;cases h
theorem wn {p:Prop}[Decidable p]{a:Option R}(k:Nat×Nat)(h:(if p then a else none)=some r)(h1:p->a=some r->X.W f nt b pos s Q ((k,.n)::T) (p::L)):X.W f nt b pos s Q T L:=fun hL=>by
 by_cases hp:p
 ·rw[if_pos hp]at h;exact h1 hp h ⟨hL,hp⟩
 ·rw[if_neg hp]at h;cases h
theorem wg {o:Option A}{g:A->Option R}(h:o.bind g=some r)(h1:∀x,o=some x->g x=some r->X.W f nt b pos s Q T L):X.W f nt b pos s Q T L:=fun hL=>by
 obtain⟨x,h2,h3⟩:=Option.bind_eq_some_iff.1 h
 exact h1 x h2 h3 hL
theorem wt {p:Prop}(k:Nat×Nat)(a:uq)(hp:p)(g:X.W f nt b pos s Q ((k,a)::T) (p::L)):X.W f nt b pos s Q T L:=fun hL=>g ⟨hL,hp⟩
theorem wx {l:List A}{i:Int}{x:A}(k:Nat×Nat)(h:aD l i=some x)(g:X.W f nt b pos s Q ((k,.ix)::T) ((0≤i∧i<(l.length:Int))::L)):X.W f nt b pos s Q T L:=wt k .ix (Qr h) g
theorem wl [Enc A][EncX A]{l:List A}{i:Int}{x:A}{c:CV}(k:Nat×Nat)(fo:Nat)(h:aD l i=some x)(hc:(ae x)[fo]? =some c)(g:X.W f nt b pos s Q ((k,.cell c)::T) (((cells l)[i.toNat * sz A+fo]? =some c)::L)):X.W f nt b pos s Q T L:=wt k _ (Lf fo hc (bJ h)) g
theorem wa [Enc A][EncX A]{l:List A}{i:Int}{x:A}(k:Nat×Nat)(h:aD l i=some x)(g:X.W f nt b pos s Q ((k,.agg (ae x))::T) ((span (cells l) (i.toNat * sz A+0) (sz A)=some (((ae x).drop 0).take (sz A)))::L)):X.W f nt b pos s Q T L:=wt k _ (GV 0 (sz A) (by omega) (bJ h)) g
theorem dG [Enc A][EncX A]{l l':List A}{c:Nat}(k:Nat×Nat)(h:Room c (l++l').length)(g:X.W f nt b pos s Q ((k,.AU (l++l').isEmpty (cells (l++l')) (l++l').length)::T) ((((((fD l').length=l'.length * sz A∧(cells l).length=l.length * sz A)∧roomy (l++l').length c=true)∧cells l++fD l'=cells (l++l')∧l.length+l'.length=(l++l').length∧(l.isEmpty&&l'.length==0)=(l++l').isEmpty))::L))(hc:1≤c:=by decide):X.W f nt b pos s Q T L:=wt k _ (Qn l l' hc h) g
theorem PG [Enc A][EncX A]{l l':List A}{c:Nat}(k:Nat×Nat)(h:Room c (l++l').length)(g:X.W f nt b pos s Q ((k,.AU (l++l').isEmpty (cells (l++l')) (l++l').length)::T) ((((((cells l').length=l'.length * sz A∧(cells l).length=l.length * sz A)∧roomy (l++l').length c=true)∧cells l++cells l'=cells (l++l')∧l.length+l'.length=(l++l').length∧(l.isEmpty&&l'.length==0)=(l++l').isEmpty))::L))(hc:1≤c:=by decide):X.W f nt b pos s Q T L:=wt k _ (Yx l l' hc h) g
theorem XC [Enc A][EncX A]{l l':List A}{c:Nat}(k:Nat×Nat)(h:Room c (l++l').length)(g:X.W f nt b pos s Q ((k,.AU false (cells (l++l')) (l++l').length)::T) ((((((fD l').length=l'.length * sz A∧(cells l).length=l.length * sz A)∧roomy (l++l').length c=true)∧cells l++fD l'=cells (l++l')∧l.length+l'.length=(l++l').length∧(false&&l'.length==0)=false))::L))(hc:1≤c:=by decide):X.W f nt b pos s Q T L:=wt k _ (Qm l l' hc h) g
theorem XD [Enc A][EncX A]{l l':List A}{c:Nat}(k:Nat×Nat)(h:Room c (l++l').length)(g:X.W f nt b pos s Q ((k,.AU false (cells (l++l')) (l++l').length)::T) ((((((cells l').length=l'.length * sz A∧(cells l).length=l.length * sz A)∧roomy (l++l').length c=true)∧cells l++cells l'=cells (l++l')∧l.length+l'.length=(l++l').length∧(false&&l'.length==0)=false))::L))(hc:1≤c:=by decide):X.W f nt b pos s Q T L:=wt k _ (Yw l l' hc h) g
theorem wc {o:Option A}{g:A->Option R}{f':FuncId}{args:List DV}{d:A->DV}(k:Nat×Nat)(h:o.bind g=some r)(ok:∀x,o=some x->X.bg f' args (d x))(h1:∀x,g x=some r->X.W f nt b pos s Q ((k,.call (d x) ⟨[],[]⟩)::T) (X.bg f' args (d x)::L)):X.W f nt b pos s Q T L:=fun hL=>by
 obtain⟨x,h2,h3⟩:=Option.bind_eq_some_iff.1 h
 exact h1 x h3 ⟨hL,ok x h2⟩
theorem wk {o:Option A}{g:A->Option R}{f':FuncId}{args:List DV}{d:A->DV}{os:A->List OD}(k:Nat×Nat)(h:o.bind g=some r)(ok:∀x,o=some x->X.eU [] f' args ⟨[],[]⟩ (d x) ⟨bm (os x),[]⟩)(h1:∀x,g x=some r->X.W f nt b pos s Q ((k,.A5 (d x) (os x))::T) (X.eU [] f' args ⟨[],[]⟩ (d x) ⟨bm (os x),[]⟩::L)):X.W f nt b pos s Q T L:=fun hL=>by
 obtain⟨x,h2,h3⟩:=Option.bind_eq_some_iff.1 h
 exact h1 x h3 ⟨hL,ok x h2⟩
theorem wy {o:Option A}{g:A->Option R}{f':FuncId}{args:List DV}{d:A->DV}{ly:List OD}{os:A->List OD}(k:Nat×Nat)(h:o.bind g=some r)(ok:∀x,o=some x->X.cD f' args (bm ly) (d x) (bm (os x)))(h1:∀x,g x=some r->X.W f nt b pos s Q ((k,.La (d x) ly (os x))::T) ((RP ly).reverse++(X.cD f' args (bm ly) (d x) (bm (os x))::L))):X.W f nt b pos s Q T L:=fun hL=>by
 obtain⟨x,h2,h3⟩:=Option.bind_eq_some_iff.1 h
 exact h1 x h3 (iC.add (abl ly) ⟨hL,ok x h2⟩)
def V4 (X:Sys)(f nt:Nat)(T:Told)(r:Nat)(b:Code)(pos:Pos)(s:S):Option ((Option (Code×List K)×S×Nat)×Prop):=
 match jY X f nt T (r+100000) b pos s with
 | (some (c,s1),p)=>some ((c,km (X.an.rs f r) s1,s1.m.st.length),p)
 | (none,_)=>none
theorem wo {a:Code}{m r':Nat}{s0 s2:S}{ex:Ex}(p:List Nat)(hg:∀s1,km (X.an.rs f r') s1=s0->X.Loop f nt [] a m s1 ex s2)(g:X.W f nt b (.ex p ex) s2 Q [] [])(ea:sub b p= .loop a:=by kernel_rfl)(e:V4 X f nt T r' b pos s=some ((resolve b (.at p),s0,m),bQ L.reverse):=by kernel_rfl):X.W f nt b pos s Q T L:=fun hL=>by
 unfold V4 at e
 split at e
 ·rename_i c s1 q ht
  simp only[Option.some.injEq,Prod.mk.injEq]at e
  obtain⟨⟨rfl,h2,h3⟩,rfl⟩:=e
  refine Sys.to T (r'+100000) (.at p) s1 (iC.rev hL) ht (Sys.NT (ex:=ex) (s1:=s2) ?_ (g trivial))
  rw[ea]
  exact Sys.Loop.Sk (hg s1 h2) h3
 ·cases e
theorem wJ {ST:S}{EX:Ex}(e:oq X f nt T b pos s=some ((EX,ST),bQ L.reverse):=by kernel_rfl):X.W f nt b pos s (fun ex s'=>ex=EX∧s'=ST) T L:=fun hL=>Sys.abd T (iC.rev hL) e
theorem wX {a:Code}{m:Nat}{ST:S}{EX:Ex}(hx:uR EX=false:=by rfl)(e:oq X f nt T b pos s=some ((EX,ST),bQ L.reverse):=by kernel_rfl):X.W f nt b pos s (EA X f nt a m EX ST) T L:=fun hL=>Sys.Bh T (iC.rev hL) hx e
theorem wC {fn:Func}{d:DV}(e:Hq X f fn nt T b pos s=some (d,bQ L.reverse):=by kernel_rfl):X.W f nt b pos s (xt X fn d) T L:=fun hL=>Sys.abc T (iC.rev hL) e
theorem wK {fn:Func}{d:DV}{m:M}(e:OF X f fn nt T b pos s=some ((d,m),bQ L.reverse):=by kernel_rfl):X.W f nt b pos s (Eo X fn d m) T L:=fun hL=>Sys.abe T (iC.rev hL) e
end
def uB (k:Nat):List Ob->List OD->Option (List Prop)
 | [],_=>some []
 | o::os,[]=>if mQ k o then uB k os []else none
 | o::os,q::qs=>match(if q.b then some [o=q.ob]else if mQ k o then some []else none),uB k os qs with
  | some ps,some rs=>some (ps++rs)
  | _,_=>none
theorem A0 {k:Nat}:∀{os:List Ob}{qs:List OD}{ps:List Prop},uB k os qs=some ps->(∀p∈ps,p)->(os.all fun o=>mQ k o)=true
 | [],_,_,_,_=>rfl
 | o::os,[],ps,h,hp=>by
  simp only[uB]at h
  split at h
  ·rename_i hb
   simp only[List.all_cons,hb,Bool.true_and]
   exact A0 h hp
  ·cases h
 | o::os,q::qs,ps,h,hp=>by
  simp only[uB]at h
  split at h
  ·rename_i jk rs h1 h2
   cases h
   have ih:=A0 h2 fun p hq=>hp p (List.mem_append_right _ hq)
   simp only[List.all_cons,ih,Bool.and_true]
   split at h1
   ·rename_i hb
    cases h1
    have:=hp (o=q.ob) (List.mem_append_left _ (List.mem_singleton.2 rfl))
    subst this
    show(q.cs.all (below k)&&true)=true
    rw[Bool.and_true]
    exact(q.h hb).below k
   ·split at h1
    ·rename_i hb;exact hb
    ·cases h1
  ·cases h
structure gZ where
 id:Nat
 cs:List CV
 len:Nat
 n:Nat
 aV:Nat
 h:cs.length=len * aV
 hn:n=len
def gZ.P (q:gZ):Prop:=q.cs.map DV.c=q.cs.map DV.c∧q.n=q.n∧q.aV=q.aV
def gZ.l {α:Type}[Enc α][EncX α](id:Nat)(l:List α):gZ:=⟨id,cells l,l.length,l.length,sz α,nG l,rfl⟩
def gZ.m {α:Type}[Enc α][EncX α](id:Nat)(l:List α)(n:Nat)(hn:n=l.length):gZ:=⟨id,cells l,l.length,n,sz α,nG l,hn⟩
def xK (f:DV->Option (CV×List Prop)):List DV->Option (List CV×List Prop)
 | []=>some ([],[])
 | d::ds=>match f d,xK f ds with
  | some (c,ps),some (cs,qs)=>some (c::cs,ps++qs)
  | _,_=>none
def xJ (cl:List gZ)(k:Nat):Nat->List Ob->DV->Option (CV×List Prop)
 | 0,_,_=>none
 | n+1,st,d=>match d with
  | .c v=>some (v,[])
  | .ap nl cs len _=>some (.sl nl nl cs len,[])
  | .agg ds=>match xK (xJ cl k n st) ds with
   | some (cs,ps)=>some (.agg cs,ps)
   | none=>none
  | .ms id ver off len aV x=>if id<k then none else match hU st id ver with
   | some o=>match cl.find? (fun q=>q.id==id)with
    | some q=>if off=0∧n≠0 then some (.sl false x q.cs q.len,[o.cs=q.cs.map DV.c∧len=q.n∧aV=q.aV])else none
    | none=>(span o.cs off (len * aV)).bind fun ds=>(fN (dY k n st) ds).map fun cs=>(.sl false x cs len,[])
   | none=>none
  | _=>none
theorem Rl {g:DV->Option CV}(hg:∀c,g (.c c)=some c):∀cs:List CV,fN g (cs.map DV.c)=some cs
 | []=>rfl
 | c::cs=>by simp only[List.map_cons,fN,hg,Rl hg cs]
theorem Ls {f:DV->Option (CV×List Prop)}{g:DV->Option CV}(h:∀d c ps,f d=some (c,ps)->(∀p∈ps,p)->g d=some c):∀{ds:List DV}{cs:List CV}{ps:List Prop},xK f ds=some (cs,ps)->(∀p∈ps,p)->fN g ds=some cs
 | [],cs,ps,e,_=>by simp only[xK]at e;cases e;rfl
 | d::ds,cs,ps,e,hp=>by
  simp only[xK]at e
  split at e
  ·rename_i c jk cs1 qs h1 h2
   cases e
   simp only[fN,h d c jk h1 fun p hq=>hp p (List.mem_append_left _ hq),Ls h h2 fun p hq=>hp p (List.mem_append_right _ hq)]
  ·cases e
theorem Lr {cl:List gZ}{k:Nat}:∀(n:Nat) {st:List Ob}{d:DV}{c:CV}{ps:List Prop},xJ cl k n st d=some (c,ps)->(∀p∈ps,p)->dY k n st d=some c
 | 0,_,_,_,_,h,_=>by simp[xJ]at h
 | n+1,st,d,c,ps,h,hp=>by
  have ih:=fun d c ps=>Lr (cl:=cl) (k:=k) n (st:=st) (d:=d) (c:=c) (ps:=ps)
  unfold xJ at h
  split at h
  ·cases h;rfl
  ·cases h;rfl
  ·split at h
   ·rename_i ds cs qs h1
    cases h
    simp only[dY,Ls ih h1 hp,Option.map_some]
   ·cases h
  ·rename_i id ver off len aV x
   split at h
   ·cases h
   ·rename_i hk
    split at h
    ·rename_i o ho
     split at h
     ·rename_i q hq
      split at h
      ·rename_i h0
       obtain⟨rfl,hn⟩:=h0
       cases h
       obtain⟨h1,L6,h3⟩:=hp _ (List.mem_singleton.2 rfl)
       have h2:q.len=len:=(L6.trans q.hn).symm
       obtain⟨n',rfl⟩:∃n',n=n'+1:=⟨n - 1,by omega⟩
       have qS:span o.cs 0 (len * aV)=some (q.cs.map DV.c):=by
        have hl:o.cs.length=len * aV:=by rw[h1,←h2,h3,List.length_map,q.h]
        rw[←h1]
        unfold span
        simp[hl]
        rw[←hl];simp
       simp only[dY]
       rw[if_neg hk]
       subst h2
       simp only[ho,qS,Option.bind_some,Rl (g:=dY k (n'+1) st) (fun c=>rfl),Option.map_some]
      ·cases h
     ·simp only[Option.bind_eq_some_iff,Option.map_eq_some_iff]at h
      obtain⟨ds,h1,cs,h2,h3⟩:=h
      cases h3
      simp only[dY]
      rw[if_neg hk]
      simp only[ho,h1,Option.bind_some,h2,Option.map_some]
    ·cases h
  ·cases h
def EZ (cl:List gZ)(k:Nat)(st:List Ob):DV->Option (DV×List Prop)
 | .c v=>some (.c v,[])
 | .ap nl cs len aV=>some (.ap nl cs len aV,[])
 | .aX ds=>match xK (xJ cl k 9 st) ds with
  | some (cs,ps)=>some (.aX (cs.map .c),ps)
  | none=>none
 | d=>match xJ cl k 9 st d with
  | some (c,ps)=>some (.c c,ps)
  | none=>none
theorem Rm {cl:List gZ}{k:Nat}{st:List Ob}{d d':DV}{ps:List Prop}(h:EZ cl k st d=some (d',ps))(hp:∀p∈ps,p):kB k st d=some d':=by
 unfold EZ at h
 unfold kB
 split at h
 ·cases h;rfl
 ·cases h;rfl
 ·split at h
  ·rename_i cs qs h1
   cases h
   simp only[Ls (fun d c ps=>Lr 9) h1 hp,Option.map_some]
  ·cases h
 ·split at h
  ·rename_i c qs h1
   cases h
   have:=Lr 9 h1 hp
   rename_i d0 n1 n2 n3 _
   split
   ·exact absurd rfl (n1 _)
   ·exact absurd rfl (n2 _ _ _ _)
   ·exact absurd rfl (n3 _)
   ·rw[this];rfl
  ·cases h
theorem Rk:∀(n:Nat) (st:List Ob) (d:DV),dY 0 n st d=dD n st d
 | 0,_,_=>by simp[dY,dD]
 | n+1,st,d=>by
  have ih:dY 0 n st=dD n st:=funext fun d=>Rk n st d
  cases d<;>simp[dY,dD,ih]
theorem aaC (st:List Ob)(d:DV):kB 0 st d=eF st d:=by
 have:dY 0 9 st=dD 9 st:=funext fun d=>Rk 9 st d
 unfold kB eF
 rw[this]
def Bh (cl:List gZ)(qs:List OD)(d:DV)(st:List Ob):Option (DV×List Ob×List Prop):=
 if qs.length≤st.length then match uB qs.length (st.take qs.length) qs with
  | some ps=>if below qs.length d then some (d,st.take qs.length,ps)else match EZ cl qs.length st d with
   | some (d,rs)=>some (d,st.take qs.length,ps++rs)
   | none=>none
  | none=>none
 else none
theorem abf {cl:List gZ}{qs:List OD}{d d':DV}{st os:List Ob}{ps:List Prop}(h:Bh cl qs d st=some (d',os,ps))(hp:∀p∈ps,p):nL qs.length d st=some (d',os):=by
 unfold Bh at h
 split at h
 ·rename_i hl
  split at h
  ·rename_i jk h1
   split at h
   ·rename_i hb
    cases h
    unfold nL
    rw[A0 h1 hp,decide_eq_true hl,if_pos (by rfl),if_pos hb]
   ·rename_i hb
    split at h
    ·rename_i d2 rs h2
     cases h
     unfold nL
     rw[A0 h1 fun p hq=>hp p (List.mem_append_left _ hq),decide_eq_true hl,if_pos (by rfl),if_neg hb,Rm h2 fun p hq=>hp p (List.mem_append_right _ hq)]
     rfl
    ·cases h
  ·cases h
 ·cases h
def OG (X:Sys)(f:Nat)(fn:Func)(nt:Nat)(T:Told)(b:Code)(pos:Pos)(s:S)(cl:List gZ)(qs:List OD):Option ((DV×List Ob)×List Prop):=
 match resolve b pos with
 | some (c,ks)=>match gU X f nt [] T 999999 5000 pos.Cw c ks s with
  | some (c',ks',s',ps)=>match Bm c' ks' with
   | some ex=>if sW ex then none else match(jW X.P s' fn.results.toList).map lA with
    | some d'=>match Bh cl qs d' s'.m.st with
     | some (d,os,rs)=>some ((d,os),ps++rs)
     | none=>none
    | none=>none
   | none=>none
  | none=>none
 | none=>none
theorem aid {X:Sys}{f nt:Nat}{fn:Func}{b:Code}{T:Told}{pos:Pos}{s:S}{cl:List gZ}{qs:List OD}{d:DV}{os:List Ob}{ps:List Prop}(e:OG X f fn nt T b pos s cl qs=some ((d,os),ps))(hp:bQ ps):X.ja f nt b pos s (Ep X fn qs.length d os):=by
 unfold OG at e
 split at e
 ·rename_i c ks hr
  split at e
  ·rename_i c' ks' s' jk ht
   split at e
   ·rename_i ex hx
    split at e
    ·cases e
    ·rename_i sT
     split at e
     ·rename_i d' hd
      split at e
      ·rename_i d2 os2 rs he
       cases e
       obtain⟨jh,ij⟩:=hp.append
       have h2:=abf he (bQ.all ij)
       exact wv (T:=T) (s':=s') (ex:=ex) (p:=bQ jk) jh (by unfold oq;rw[hr];simp only[ht,hx]) ⟨by simpa using sT,d',hd,h2⟩
      ·cases e
     ·cases e
   ·cases e
  ·cases e
 ·cases e
section
variable {X:Sys}{f nt:Nat}{b:Code}{pos:Pos}{s:S}{T:Told}{L:List Prop}
theorem Rg (cl:List gZ):bQ (cl.map gZ.P):=KK fun p hp=>by
 obtain⟨o,_,rfl⟩:=List.mem_map.1 hp;exact⟨rfl,rfl,rfl⟩
theorem wL {fn:Func}{d:DV}{qs:List OD}{k:Nat}(cl:List gZ)(hk:qs.length=k:=by rfl)(e:OG X f fn nt T b pos s cl qs=some ((d,bm qs),L.reverse++(Fc qs++cl.map gZ.P)):=by kernel_rfl):X.W f nt b pos s (Ep X fn k d (bm qs)) T L:=fun hL=>by
 subst hk
 exact aid e (bQ.join (iC.rev hL) (bQ.join (RS qs) (Rg cl)))
def V2 (X:Sys)(f:Nat)(fn:Func)(nt:Nat)(T:Told)(b:Code)(pos:Pos)(s:S)(cl:List gZ):Option (DV×List Prop):=
 match resolve b pos with
 | some (c,ks)=>match gU X f nt [] T 999999 5000 pos.Cw c ks s with
  | some (c',ks',s',ps)=>match Bm c' ks' with
   | some ex=>if sW ex then none else match(jW X.P s' fn.results.toList).map lA with
    | some d'=>match EZ cl 0 s'.m.st d' with
     | some (d,rs)=>some (d,ps++rs)
     | none=>none
    | none=>none
   | none=>none
  | none=>none
 | none=>none
theorem wD {fn:Func}{d:DV}(cl:List gZ)(e:V2 X f fn nt T b pos s cl=some (d,L.reverse++cl.map gZ.P):=by kernel_rfl):X.W f nt b pos s (xt X fn d) T L:=fun hL=>by
 have hp:=bQ.join (iC.rev hL) (Rg cl)
 unfold V2 at e
 split at e
 ·rename_i c ks hr
  split at e
  ·rename_i c' ks' s' jk ht
   split at e
   ·rename_i ex hx
    split at e
    ·cases e
    ·rename_i sT
     split at e
     ·rename_i d' hd
      split at e
      ·rename_i d2 rs he
       simp only[Option.some.injEq,Prod.mk.injEq]at e
       obtain⟨rfl,e⟩:=e
       rw[←e]at hp
       obtain⟨jh,ij⟩:=hp.append
       have h2:=Rm he (bQ.all ij)
       rw[aaC]at h2
       exact wv (T:=T) (s':=s') (ex:=ex) (p:=bQ jk) jh (by unfold oq;rw[hr];simp only[ht,hx]) ⟨by simpa using sT,d',hd,h2⟩
      ·cases e
     ·cases e
   ·cases e
  ·cases e
 ·cases e
theorem lL {fn:Func}{d d':DV}(hd:d'=d)(e:Hq X f fn nt T b pos s=some (d',bQ L.reverse):=by kernel_rfl):X.W f nt b pos s (xt X fn d) T L:=by subst hd;exact wC (e:=e)
def LC (l:Option (List Nat))(n:Nat)(s:S)(qs:List OD):Option (S×List Prop):=
 match l with
 | none=>some (s,[])
 | some l=>if l.all fun t=>below n (s.fr t)then match uB n (s.m.st.take n) qs with
  | some ps=>some (⟨tC l s.fr,{ s.m with st:=s.m.st.take n}⟩,ps)
  | none=>none else none
theorem aa0 {l:Option (List Nat)}{n:Nat}{s s':S}{qs:List OD}{ps:List Prop}(h:LC l n s qs=some (s',ps))(hp:∀p∈ps,p):ss l n s=some s':=by
 unfold LC at h
 unfold ss
 split at h
 ·cases h;rfl
 ·split at h
  ·rename_i hl
   split at h
   ·rename_i jk h1
    cases h
    simp only[hl,A0 h1 hp,Bool.and_true,if_true]
   ·cases h
  ·cases h
def V3 (X:Sys)(f nt:Nat)(T:Told)(b:Code)(pos:Pos)(s:S)(r m:Nat)(qs:List OD):Option (S×List Prop):=
 match resolve b pos with
 | some (c,ks)=>match gU X f nt [] T 999999 5000 pos.Cw c ks s with
  | some (.skip,[],s',ps)=>match LC (X.an.cut f r) m s' qs with
   | some (s2,rs)=>some (km (X.an.rs f r) s2,ps++rs)
   | none=>none
  | _=>none
 | none=>none
theorem wN {a:Code}{m:Nat}{ST s0:S}{EX:Ex}(r:Nat)(qs:List OD)(ih:∀s1,km (X.an.rs f r) s1=s0->X.Loop f nt [] a m s1 EX ST)(ea:ep a=r:=by kernel_rfl)(e:V3 X f nt T b pos s r m qs=some (s0,L.reverse++(if(X.an.cut f r).isSome then Fc qs else[])):=by kernel_rfl):X.W f nt b pos s (EA X f nt a m EX ST) T L:=fun hL=>by
 have hp:bQ (L.reverse++(if(X.an.cut f r).isSome then Fc qs else[])):=bQ.join (iC.rev hL) (by split;exact RS qs;trivial)
 subst ea
 unfold V3 at e
 split at e
 ·rename_i c ks hr
  split at e
  ·rename_i s' jk ht
   split at e
   ·rename_i s2 rs hc
    simp only[Option.some.injEq,Prod.mk.injEq]at e
    obtain⟨h0,e⟩:=e
    rw[←e]at hp
    obtain⟨jh,ij⟩:=hp.append
    have h2:=aa0 hc (bQ.all ij)
    exact wv (T:=T) (s':=s') (ex:=.normal) (p:=bQ jk) jh (by unfold oq;rw[hr];simp only[ht];rfl) (.inl ⟨rfl,s2,h2,ih s2 h0⟩)
   ·cases e
  ·cases e
 ·cases e
end
def Br (X:Sys)(f:FuncId):Option (Nat×Code):=(X.P.funcs[f]?).bind fun fn=>fn.body.map fun b=>(fn.ntmps,b)
def sE (X:Sys)(f:FuncId):Func:=(X.P.funcs[f]?).getD default
theorem L2 {X:Sys}{f:FuncId}{nt:Nat}{b:Code}(h:Br X f=some (nt,b)):X.P.funcs[f]? =some (sE X f)∧(sE X f).body=some b∧(sE X f).ntmps=nt:=by
 unfold Br at h
 obtain⟨fn,h1,h2⟩:=Option.bind_eq_some_iff.1 h
 obtain⟨b',h3,h4⟩:=Option.map_eq_some_iff.1 h2
 cases h4
 have:sE X f=fn:=by unfold sE;rw[h1];rfl
 rw[this]
 exact⟨h1,h3,rfl⟩
section
variable {X:Sys}{f:FuncId}{args:List DV}{d:DV}
theorem fC (nt:Nat)(b:Code)(h:X.W f nt b (.at []) ⟨mO args,⟨[],[]⟩⟩ (xt X (sE X f) d) [] [])(hf:Br X f=some (nt,b):=by kernel_rfl):X.bg f args d:=by
 obtain⟨h1,h2,rfl⟩:=L2 hf
 exact Sys.ZY h1 h2 (w0 h)
theorem fK {m:M}(nt:Nat)(b:Code)(h:X.W f nt b (.at []) ⟨mO args,⟨[],[]⟩⟩ (Eo X (sE X f) d m) [] [])(hf:Br X f=some (nt,b):=by kernel_rfl):X.eU [] f args ⟨[],[]⟩ d m:=by
 obtain⟨h1,h2,rfl⟩:=L2 hf
 exact Sys.Z1 h1 h2 (w0 h)
theorem fL {st os:List Ob}(nt:Nat)(b:Code)(h:X.W f nt b (.at []) ⟨mO args,⟨st,[]⟩⟩ (Ep X (sE X f) st.length d os) [] [])(hf:Br X f=some (nt,b):=by kernel_rfl):X.cD f args st d os:=by
 obtain⟨h1,h2,rfl⟩:=L2 hf
 exact Sys.Z2 h1 h2 rfl (w0 h)
def Sys.LH (X:Sys)(f nt r:Nat)(a:Code)(m:Nat)(s0:S)(ex:Ex)(s':S):Prop:=∀s,km (X.an.rs f r) s=s0->X.Loop f nt [] a m s ex s'
end
end Go.Abs
namespace Go.Abs
open Go
variable [Fl]
def KO {β:Type}:List (Nat×β)->Nat->Option β
 | [],_=>none
 | (t,d)::l,t'=>if t=t' then some d else KO l t'
def fs (F:Nat->DV)(l:List Nat)(u:List (Nat×DV)):Nat->DV:=fl (l.map fun t=>(t,(KO u t).getD (F t)))
def sl (G:List Ob)(m:Nat)(os:List (Nat×Ob)):List Ob:=(List.range m).map fun i=>(KO os i).getD (G.getD i ⟨0,[]⟩)
def Sys.LF (X:Sys)(f nt r:Nat)(a:Code)(m:Nat)(u:List (Nat×DV))(os:List (Nat×Ob))(ex:Ex)(p:(Nat->DV)->List Ob->S):Prop:=
 ∀(F:Nat->DV) (G:List Ob),X.LH f nt r a m ⟨fs F ((X.an.rs f r).getD []) u,⟨sl G m os,[]⟩⟩ ex (p F G)
def Sys.JF (X:Sys)(f nt:Nat)(a:Code)(hl:List Nat)(m:Nat)(u:List (Nat×DV))(os:List (Nat×Ob))(ex:Ex)(p:(Nat->DV)->List Ob->S):Prop:=
 ∀(F:Nat->DV) (G:List Ob),X.Go f nt [] a ⟨fs F hl u,⟨sl G m os,[]⟩⟩ ex (p F G)
def oo:Option (Option (Code×List K)×S)×Prop->S
 | (some (_,s),_)=>s
 | _=>⟨fun _=>.un,⟨[],[]⟩⟩
section
variable {X:Sys}{f nt:Nat}{b:Code}{pos:Pos}{s:S}{Q:Ex->S->Prop}{T:Told}{L:List Prop}
theorem wO {a:Code}{m r':Nat}{u:List (Nat×DV)}{os:List (Nat×Ob)}{ex:Ex}{p:(Nat->DV)->List Ob->S}(path:List Nat)(hg:X.LF f nt r' a m u os ex p)
  (g:X.W f nt b (.ex path ex) (p (oo (jY X f nt T (r'+100000) b pos s)).fr (oo (jY X f nt T (r'+100000) b pos s)).m.st) Q [] [])
  (ea:sub b path= .loop a:=by kernel_rfl)
  (e:(jY X f nt T (r'+100000) b pos s,km (X.an.rs f r') (oo (jY X f nt T (r'+100000) b pos s)),(oo (jY X f nt T (r'+100000) b pos s)).m.st.length)=((some (resolve b (.at path),oo (jY X f nt T (r'+100000) b pos s)),bQ L.reverse),⟨fs (oo (jY X f nt T (r'+100000) b pos s)).fr ((X.an.rs f r').getD []) u,⟨sl (oo (jY X f nt T (r'+100000) b pos s)).m.st m os,[]⟩⟩,m):=by kernel_rfl):X.W f nt b pos s Q T L:=fun hL=>by
 obtain⟨h1,h2,h3⟩:_∧_∧_:=⟨congrArg (·.1) e,congrArg (·.2.1) e,congrArg (·.2.2) e⟩
 refine Sys.to T (r'+100000) (.at path) _ (iC.rev hL) h1 (Sys.NT (ex:=ex) ?_ (g trivial))
 rw[ea]
 exact Sys.Loop.Sk (hg _ _ _ h2) h3
theorem wV {m:Nat}{u:List (Nat×DV)}{os:List (Nat×Ob)}{ex:Ex}{hl:List Nat}{p:(Nat->DV)->List Ob->S}(stop:Nat)(path:List Nat)(hg:X.JF f nt (sub b path) hl m u os ex p)
  (g:X.W f nt b (.ex path ex) (p (oo (jY X f nt T stop b pos s)).fr (oo (jY X f nt T stop b pos s)).m.st) Q [] [])
  (e:jY X f nt T stop b pos s=(some (resolve b (.at path),⟨fs (oo (jY X f nt T stop b pos s)).fr hl u,⟨sl (oo (jY X f nt T stop b pos s)).m.st m os,[]⟩⟩),bQ L.reverse):=by kernel_rfl):X.W f nt b pos s Q T L:=fun hL=>
 Sys.to T stop (.at path) _ (iC.rev hL) e (Sys.NT (hg _ _) (g trivial))
end
end Go.Abs
