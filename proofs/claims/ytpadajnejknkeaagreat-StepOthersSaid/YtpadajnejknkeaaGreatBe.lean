/-
  Part of the proof: printed by the session's own program out of the program's form, or typed; it states no claim by itself.
-/
import Derived.Test.YtpadajnejknkeaaGreatBd
import Derived.RangeFuncCalls
import Derived.RangeFuncNested
import Derived.OrdersIn
set_option linter.unusedVariables false
set_option linter.unusedSimpArgs false
set_option linter.unusedSectionVars false
namespace Go.Abs
open Go
variable [Fl]
class Gl where
 as:Addr->Prop
 ok:World->Prop
 bp:∀w w':World,(∀a,as a->w'.cell? a=w.cell? a)->ok w->ok w'
variable [Gl]
abbrev kb (r:Option Nat):Fence:={ Fence.wide with round:=r}
theorem CallsIn.kb {P:Program}{n:Nat}{f:FuncId}{args:Array Value}{w:World}{R:Ending->World->Prop}(r:Option Nat)(h:CallsIn Fence.wide n P f args w R):CallsIn (kb r) n P f args w R:=h
theorem RoundIn.kb {P:Program}{n l:Nat}{f:FuncId}{tmps:Array Value}{assign body:Code}{w:World}{R:Ending->World->Prop}(r:Option Nat)(h:RoundIn Fence.wide n P l f tmps assign body w R):RoundIn (kb r) n P l f tmps assign body w R:=h
def X (Γ:List (Nat×Ctx))(la:List Nat)(r:Nat):Prop:=∃k x,(k,x)∈Γ∧la[k]? =some r
def aaG:Ex->Code
 | .ret=>.ret
 | .exit id=>.exit id
 | .normal=>.skip
def R1:Ex->Exit
 | .normal=>.normal
 | .exit id=>.exit id
 | .ret=>.ret
def KI (r:Loop):Option Ex->Prop
 | none=>False
 | some .normal=>r.state= .ready∧r.pending=none
 | some e=>r.state= .done∧r.pending=some (aaG e)
structure X3 (e:E)(x:Ctx)(l:Nat)(ex:Option Ex)(r:Loop):Prop where
 heap:e.w.heap[l]? =some (.loop r)
 params:r.params=x.params
 assign:r.assign=x.assign
 body:r.body=x.body
 nt:x.nt≤r.tmps.size
 rd:∀t,RD e (fun _=>False) (x.fr t) (r.tmps.getD t undef)
 state:KI r ex
structure Es (e:E):Prop where
 im:∀a,Gl.as a->e.im a
 ok:Gl.ok e.w
theorem Es.to {e e':E}(g:Es e)(x:Ext e e'):Es e':=⟨fun a h=>x.im a (g.im a h),Gl.bp _ _ (fun a h=>x.cell a (g.im a h)) g.ok⟩
def MB (e:E)(r:Nat):Prop:=∃id o,e.st[id]? =some o∧o.mp.k≠none∧(e.io id).b=r
inductive MR (e:E):List (DV×DV)->List MapEntry->Prop
 | nil:MR e [] []
 | cons {k v:DV}{x:MapEntry}{es:List (DV×DV)}{xs:List MapEntry} (hk:RD e (fun _=>False) k x.key) (hv:RD e (fun _=>False) v x.val) (hs:MR e es xs):MR e ((k,v)::es) (x::xs)
theorem MR.mono {e e':E}(x:Ext e e'):∀{es:List (DV×DV)}{xs:List MapEntry},MR e es xs->MR e' es xs
 | _,_,.nil=>.nil
 | _,_,.cons a b c=>.cons (a.mono x fun _ h=>h) (b.mono x fun _ h=>h) (c.mono x)
def P8 (xs:List MapEntry)(c:Nat):Prop:=(∀x∈xs,x.born<c)∧(xs.map (·.born)).Nodup
structure Ez (xs:List MapEntry)(c since fu:Nat)(seen:Array Nat)(cur:Option Nat)(left:List Nat):Prop where
 since:since=c
 fu:fu=c
 TA:∀(j:Nat) x,xs[j]? =some x->(seen.contains x.born=false↔j∈left)
 lt:∀j∈left,j<xs.length
 nodup:left.Nodup
 Rv:∀j,cur=some j->∃x,xs[j]? =some x∧seen.back?=some x.born
def k7 (e:E)(b:Nat):MK->Prop
 | .map es=>∃xs c,e.w.heap[b]? =some (.map ⟨xs⟩ c)∧MR e es xs∧P8 xs c
 | .iter id ver=>∃r c,e.w.heap[b]? =some (.mapIter (some r) c #[] c)∧RD e (fun _=>False) (.mp id ver) (.map (some r))
 | .it id ver n cur left=>∃r since seen fu,e.w.heap[b]? =some (.mapIter (some r) since seen fu)∧RD e (fun _=>False) (.mp id ver) (.map (some r))∧
  ∀o,e.st[id]? =some o->o.ver=ver->o.mp.k≠none->∃xs c,e.w.heap[r]? =some (.map ⟨xs⟩ c)∧n≤xs.length∧(xs.length=n->Ez xs c since fu seen cur left)
def F1:Obj->Bool
 | .map .. | .mapIter .. =>true
 | _=>false
theorem k7.obj {e:E}{b:Nat}:∀{k:MK},k7 e b k->∃o,e.w.heap[b]? =some o∧F1 o=true
 | .map _,⟨_,_,h,_⟩=>⟨_,h,rfl⟩
 | .iter ..,⟨_,_,h,_⟩=>⟨_,h,rfl⟩
 | .it ..,⟨_,_,_,_,h,_⟩=>⟨_,h,rfl⟩
def sd (xs:List MapEntry)(c:Nat)(fM:List MapEntry)(c':Nat):Prop:=(fM.map (·.born)=xs.map (·.born)∧c'=c)∨xs.length<fM.length
theorem sd.refl (xs:List MapEntry)(c:Nat):sd xs c xs c:=.inl ⟨rfl,rfl⟩
theorem Ez.later {xs fM:List MapEntry}{c c' since fu:Nat}{seen:Array Nat}{cur:Option Nat}{left:List Nat}(h1:fM.map (·.born)=xs.map (·.born))(h2:c'=c)(h:Ez xs c since fu seen cur left):Ez fM c' since fu seen cur left:=by
 have hl:fM.length=xs.length:=by have:=congrArg List.length h1;simpa using this
 have hg:∀(j:Nat) x,fM[j]? =some x->∃y,xs[j]? =some y∧y.born=x.born:=fun j x hx=>by
  have:=congrArg (·[j]?) h1
  simp only[List.getElem?_map,hx,Option.map_some]at this
  cases hy:xs[j]? with
  | none=>rw[hy]at this;cases this
  | some y=>rw[hy]at this;exact⟨y,rfl,by simpa using this.symm⟩
 refine⟨h.since.trans h2.symm,h.fu.trans h2.symm,fun j x hx=>?_,fun j hj=>by rw[hl];exact h.lt j hj,h.nodup,fun j hj=>?_⟩
 ·obtain⟨y,hy,hb⟩:=hg j x hx
  rw[←hb];exact h.TA j y hy
 ·obtain⟨x,hx,hs⟩:=h.Rv j hj
  have aQ:j<fM.length:=by rw[hl];exact(List.getElem?_eq_some_iff.1 hx).1
  obtain⟨y,hy,hb⟩:=hg j _ (List.getElem?_eq_getElem aQ)
  rw[hx]at hy;cases hy
  exact⟨_,List.getElem?_eq_getElem aQ,by rw[←hb];exact hs⟩
theorem k7.to {e e':E}(x:Ext e e'){b b':Nat}(hb:b'=b)(h:∀o,e.w.heap[b]? =some o->e'.w.heap[b]? =some o):∀{k:MK},k7 e b k->
  (∀id ver n cur left,k= .it id ver n cur left->∀r,RD e (fun _=>False) (.mp id ver) (.map (some r))->∀o',e'.st[id]? =some o'->o'.ver=ver->o'.mp.k≠none->
   ∃o,e.st[id]? =some o∧o.ver=ver∧o.mp.k≠none∧∀xs c,e.w.heap[r]? =some (.map ⟨xs⟩ c)->∃fM c',e'.w.heap[r]? =some (.map ⟨fM⟩ c')∧sd xs c fM c')->k7 e' b' k
 | .map _,⟨xs,c,h1,h2⟩,_=>by subst hb;exact⟨xs,c,h _ h1,h2.1.mono x,h2.2⟩
 | .iter ..,⟨r,c,h1,h2⟩,_=>by subst hb;exact⟨r,c,h _ h1,h2.mono x fun _ h=>h⟩
 | .it id ver n cur left,⟨r,since,seen,fu,h1,h2,h3⟩,hi=>by
  subst hb
  refine⟨r,since,seen,fu,h _ h1,h2.mono x fun _ h=>h,fun o' du hv hk=>?_⟩
  obtain⟨o,g1,g2,g3,g4⟩:=hi id ver n cur left rfl r h2 o' du hv hk
  obtain⟨xs,c,k1,k2,k3⟩:=h3 o g1 g2 g3
  obtain⟨fM,c',k4,hl⟩:=g4 xs c k1
  refine⟨fM,c',k4,?_,fun hn=>?_⟩
  ·rcases hl with ⟨hl,_⟩ | hl
   ·have:=congrArg List.length hl
    simp at this;omega
   ·omega
  ·rcases hl with ⟨hl,hc⟩ | hl
   ·have hlen:=congrArg List.length hl
    simp at hlen
    exact(k3 (by omega)).later hl hc
   ·omega
theorem RD.Gp {e:E}{s:Addr->Prop}{id ver r:Nat}{o:Ob}(h:RD e s (.mp id ver) (.map (some r)))(ho:e.st[id]? =some o)(hv:o.ver=ver):r=(e.io id).b:=by
 cases h with
 | mp _ hh=>exact(hh o ho).2 hv.symm
structure gG (n0:Nat)(e:E):Prop where
 at_:∀id o k,e.st[id]? =some o->o.mp.k=some k->n0≤(e.io id).b∧k7 e (e.io id).b k
 inj:∀id cr o o',e.st[id]? =some o->o.mp.k≠none->e.st[cr]? =some o'->o'.mp.k≠none->(e.io id).b=(e.io cr).b->id=cr
def fX (e e':E):Prop:=∀(id:Nat) o',e'.st[id]? =some o'->o'.mp.k≠none->∃o,e.st[id]? =some o∧o.mp.k=o'.mp.k∧o.ver=o'.ver
theorem fX.of_eq {e e':E}(h:e'.st=e.st):fX e e':=fun id o' ho _=>⟨o',by rw[←h];exact ho,rfl,rfl⟩
theorem fX.vM {e e':E}{id:Nat}{ob:Ob}(h:e'.st=e.st.set id ob)(hp:ob.mp.k=none):fX e e':=fun j o' ho hk=>by
 rw[h]at ho
 by_cases hj:id=j
 ·subst hj
  by_cases hl:id<e.st.length
  ·rw[List.getElem?_set_self hl]at ho;cases ho;exact absurd hp hk
  ·have:=(List.getElem?_eq_some_iff.1 ho).1;simp at this;omega
 ·rw[List.getElem?_set_ne hj]at ho;exact⟨o',ho,rfl,rfl⟩
theorem MB.back {e e':E}(x:Ext e e')(hs:fX e e'){r:Nat}(h:MB e' r):MB e r:=by
 obtain⟨id,o',h1,h2,h3⟩:=h
 obtain⟨o,g1,g2,g3⟩:=hs id o' h1 h2
 exact⟨id,o,g1,by rw[g2];exact h2,by rw[←(x.ver id o o' g1 h1).2 g3];exact h3⟩
theorem gG.to {n0:Nat}{e e':E}(m:gG n0 e)(x:Ext e e')(hs:fX e e')(hh:∀r o,MB e r->e.w.heap[r]? =some o->e'.w.heap[r]? =some o):gG n0 e':=by
 refine⟨fun id o' k h1 h2=>?_,fun id cr o o' h1 h2 h3 h4 h5=>?_⟩
 ·obtain⟨o,g1,g2,g3⟩:=hs id o' h1 (by rw[h2];simp)
  have qI:=(x.ver id o o' g1 h1).2 g3
  obtain⟨p1,p2⟩:=m.at_ id o k g1 (by rw[g2];exact h2)
  rw[qI]
  refine⟨p1,p2.to x rfl (fun o2 bu=>hh _ _ ⟨id,o,g1,by rw[g2,h2];simp,rfl⟩ bu) fun cj fh n cur left _ r hr u' ff hv hk=>?_⟩
  obtain⟨u,q1,q2,q3⟩:=hs cj u' ff hk
  have fc:=hr.Gp q1 (q3.trans hv)
  exact⟨u,q1,q3.trans hv,by rw[q2];exact hk,fun xs c hx=>⟨xs,c,hh _ _ ⟨cj,u,q1,by rw[q2];exact hk,fc.symm⟩ hx,sd.refl ..⟩⟩
 ·obtain⟨u,g1,g2,g3⟩:=hs id o h1 h2
  obtain⟨u',mW,nO,L3⟩:=hs cr o' h3 h4
  rw[(x.ver id u o g1 h1).2 g3,(x.ver cr u' o' mW h3).2 L3]at h5
  exact m.inj id cr u u' g1 (by rw[g2];exact h2) mW (by rw[nO];exact h4) h5
theorem gG.void {n0:Nat}{e:E}(h:∀(id:Nat) (o:Ob),e.st[id]? =some o->o.mp.k=none):gG n0 e:=
 ⟨fun id o k h1 h2=>(by rw[h id o h1]at h2;cases h2),fun id _ o _ h1 h2=>absurd (h id o h1) h2⟩
theorem gG.obj {n0:Nat}{e:E}(m:gG n0 e){r:Nat}(h:MB e r):n0≤r∧∃o,e.w.heap[r]? =some o∧F1 o=true:=by
 obtain⟨id,o,h1,h2,h3⟩:=h
 cases hk:o.mp.k with
 | none=>exact absurd hk h2
 | some k=>
  obtain⟨p1,p2⟩:=m.at_ id o k h1 hk
  rw[←h3];exact⟨p1,p2.obj⟩
structure GI (n0:Nat)(e:E)(Γ:List (Nat×Ctx))(pd:List Ex):Prop where
 gl:Es e
 mp:gG n0 e
 at_:∀k x,(k,x)∈Γ->∃l r,e.la[k]? =some l∧X3 e x l pd[k]? r
 inj:∀k k' x x' l,(k,x)∈Γ->(k',x')∈Γ->e.la[k]? =some l->e.la[k']? =some l->k=k'
def iD (al:Own->Addr->Prop):Prop:=∀a,¬al .res a
def se (al:Own->Addr->Prop):Prop:=∀t a,¬al (.slot t) a
structure St (n0:Nat)(PR:Addr->Prop)(Γ:List (Nat×Ctx))(e:E)(al:Own->Addr->Prop)(m:M):Prop where
 st:e.st=m.st
 la:e.la.length=m.pd.length
 lt:∀l∈e.la,n0≤l∧l<e.w.heap.size
 mi:MI n0 PR e al
 gi:GI n0 e Γ m.pd
structure To (n0:Nat)(PR:Addr->Prop)(Γ:List (Nat×Ctx))(e e':E):Prop where
 ext:Ext e e'
 bp:cS n0 PR (fun r=>X Γ e.la r∨MB e r) e.w e'.w
 maps:∀r,MB e' r->MB e r∨e.w.heap.size≤r
 loops:∀l (r:Loop),X Γ e.la l->e.w.heap[l]? =some (.loop r)->∃r':Loop,e'.w.heap[l]? =some (.loop r')∧r'.tmps=r.tmps
theorem To.refl (n0:Nat)(PR:Addr->Prop)(Γ:List (Nat×Ctx))(e:E):To n0 PR Γ e e:=⟨Ext.refl e,cS.refl ..,fun _ h=>.inl h,fun _ r _ h=>⟨r,h,rfl⟩⟩
theorem To.C1 {n0:Nat}{PR:Addr->Prop}{Γ:List (Nat×Ctx)}{e e':E}(x:Ext e e')(k:cS n0 PR (fun _=>False) e.w e'.w)(hs:fX e e'):To n0 PR Γ e e':=
 ⟨x,k.fV (fun _ h=>h.elim),fun r hr=>.inl (MB.back x hs hr),fun l r _ h=>⟨r,k.obj _ _ h rfl (fun h=>h),rfl⟩⟩
theorem X.back {n0:Nat}{e e':E}{Γ:List (Nat×Ctx)}{pd:List Ex}(g:GI n0 e Γ pd)(x:Ext e e'){r:Nat}(h:X Γ e'.la r):X Γ e.la r:=by
 obtain⟨k,c,hm,hr⟩:=h
 obtain⟨l,_,hl,_⟩:=g.at_ k c hm
 have:=x.la _ _ hl
 rw[hr]at this;cases this
 exact⟨k,c,hm,hl⟩
theorem To.trans {n0:Nat}{PR:Addr->Prop}{Γ:List (Nat×Ctx)}{a b c:E}{pd:List Ex}(g:GI n0 a Γ pd)(h:To n0 PR Γ a b)(k:To n0 PR Γ b c):To n0 PR Γ a c:=
 ⟨h.ext.trans k.ext,⟨k.bp.os.trans h.bp.os,k.bp.tape.trans h.bp.tape,k.bp.output.trans h.bp.output,Nat.le_trans h.bp.size k.bp.size,fun r hr=>(k.bp.bC r hr).trans (h.bp.bC r hr),
  fun x hx=>⟨(k.bp.pr x hx).1.trans (h.bp.pr x hx).1,(k.bp.pr x hx).2.trans (h.bp.pr x hx).2⟩,fun r o ho hc hn=>k.bp.obj r o (h.bp.obj r o ho hc hn) hc fun hh=>hh.elim (fun hx=>hn (.inl (X.back g h.ext hx))) fun hb=>(h.maps r hb).elim (fun hb=>hn (.inr hb)) fun hle=>by
   have:=(Array.getElem?_eq_some_iff.1 ho).1;omega,fun hd=>Nat.le_trans (h.bp.dr hd) (k.bp.dr hd)⟩,fun r hr=>(k.maps r hr).elim (fun hb=>h.maps r hb) fun hle=>.inr (Nat.le_trans h.bp.size hle),fun l r hx hr=>by
  obtain⟨r1,h1,h2⟩:=h.loops l r hx hr
  obtain⟨r2,h3,h4⟩:=k.loops l r1 (let ⟨i,c,hm,hi⟩:=hx;⟨i,c,hm,h.ext.la _ _ hi⟩) h1
  exact⟨r2,h3,h4.trans h2⟩⟩
theorem X.loop {n0:Nat}{e:E}{Γ:List (Nat×Ctx)}{pd:List Ex}(g:GI n0 e Γ pd){r:Nat}(h:X Γ e.la r):∃l,e.w.heap[r]? =some (.loop l):=by
 obtain⟨k,c,hm,hr⟩:=h
 obtain⟨l,rc,hl,cb⟩:=g.at_ k c hm
 rw[hr]at hl;cases hl
 exact⟨_,cb.heap⟩
theorem MB.not {n0:Nat}{e:E}{Γ:List (Nat×Ctx)}{pd:List Ex}(g:GI n0 e Γ pd){r:Nat}{o:Obj}(ho:e.w.heap[r]? =some o)(hm:F1 o=false):¬MB e r:=fun hb=>by
 obtain⟨_,o',h1,h2⟩:=g.mp.obj hb
 rw[ho]at h1;cases h1;rw[hm]at h2;cases h2
theorem To.obj {n0:Nat}{PR:Addr->Prop}{Γ Γ0:List (Nat×Ctx)}{e e':E}{pd:List Ex}(t:To n0 PR Γ e e')(g:GI n0 e Γ0 pd){r:Nat}{o:Obj}(ho:e.w.heap[r]? =some o)(hc:mf o=false)(hm:F1 o=false)(hn:¬X Γ e.la r):e'.w.heap[r]? =some o:=
 t.bp.obj r o ho hc fun hh=>hh.elim hn (MB.not g ho hm)
theorem GI.OK {n0:Nat}{e e':E}{Γ:List (Nat×Ctx)}{pd:List Ex}(g:GI n0 e Γ pd)(x:Ext e e')(hmp:gG n0 e')(h:∀l (r:Loop),X Γ e.la l->e.w.heap[l]? =some (.loop r)->e'.w.heap[l]? =some (.loop r)):GI n0 e' Γ pd:=by
 refine⟨g.gl.to x,hmp,fun k c hm=>?_,fun k k' c c' l hm ie hl l7=>?_⟩
 ·obtain⟨l,r,hl,cb⟩:=g.at_ k c hm
  exact⟨l,r,x.la _ _ hl,h l r ⟨k,c,hm,hl⟩ cb.heap,cb.params,cb.assign,cb.body,cb.nt,fun t=>(cb.rd t).mono x (fun _ h=>h),cb.state⟩
 ·obtain⟨l1,_,h1,_⟩:=g.at_ k c hm
  obtain⟨l2,_,h2,_⟩:=g.at_ k' c' ie
  have e1:=x.la _ _ h1
  have e2:=x.la _ _ h2
  rw[hl]at e1;rw[l7]at e2
  cases e1;cases e2
  exact g.inj k k' c c' l hm ie h1 h2
theorem GI.to {n0:Nat}{e e':E}{Γ:List (Nat×Ctx)}{pd:List Ex}(g:GI n0 e Γ pd)(x:Ext e e')(hs:fX e e')(hh:∀r o,MB e r->e.w.heap[r]? =some o->e'.w.heap[r]? =some o)(h:∀l (r:Loop),X Γ e.la l->e.w.heap[l]? =some (.loop r)->e'.w.heap[l]? =some (.loop r)):GI n0 e' Γ pd:=
 g.OK x (g.mp.to x hs hh) h
theorem GI.bp {n0:Nat}{PR:Addr->Prop}{e e':E}{Γ:List (Nat×Ctx)}{pd:List Ex}(g:GI n0 e Γ pd)(x:Ext e e')(k:cS n0 PR (fun _=>False) e.w e'.w)(hs:fX e e'):GI n0 e' Γ pd:=
 g.to x hs (fun r o hb ho=>k.obj r o ho (by
  obtain⟨_,o',h1,h2⟩:=g.mp.obj hb
  rw[ho]at h1;cases h1
  cases o<;>first | rfl | (cases h2;done)) (fun h=>h)) fun l r _ hr=>k.obj l _ hr rfl (fun h=>h)
def mark (r:Nat):Deferred:={ target:=.collected r,args:=#[]}
structure Fr (r:Option Nat)(k0 nt:Nat)(Γ:List (Nat×Ctx))(e:E)(al:Own->Addr->Prop)(fr:Nat->DV)(a:Act):Prop where
 rd:∀t,RD e (al (.slot t)) (fr t) (a.tmps.getD t undef)
 nt:nt≤a.tmps.size
 df:∃rs:List Nat,a.defers=rs.map mark∧rs.Nodup∧∀b∈rs,k0≤b∧e.w.heap[b]? =some (.deferred (some []))
 ro:∀l,r=some l->(∃x:Loop,e.w.heap[l]? =some (.loop x))∧¬X Γ e.la l
section
variable {P:Program}{n0:Nat}{PR:Addr->Prop}{Γ:List (Nat×Ctx)}{e e':E}{al reg':Own->Addr->Prop}{m:M}{r:Option Nat}{k0 nt:Nat}{fr:Nat->DV}{a:Act}
theorem Fr.Rz (h:Fr r k0 nt Γ e al fr a)(g:GI n0 e Γ m.pd)(t:To n0 PR Γ e e'):∃rs:List Nat,a.defers=rs.map mark∧rs.Nodup∧∀b∈rs,k0≤b∧e'.w.heap[b]? =some (.deferred (some [])):=by
 obtain⟨rs,h1,h2,h3⟩:=h.df
 refine⟨rs,h1,h2,fun b hb=>⟨(h3 b hb).1,t.obj g (h3 b hb).2 rfl rfl fun hx=>?_⟩⟩
 obtain⟨l,hl⟩:=X.loop g hx
 rw[(h3 b hb).2]at hl;cases hl
theorem Fr.N2 (h:Fr r k0 nt Γ e al fr a)(g:GI n0 e Γ m.pd)(t:To n0 PR Γ e e'):∀l,r=some l->(∃x:Loop,e'.w.heap[l]? =some (.loop x))∧¬X Γ e'.la l:=fun l hl=>by
 obtain⟨⟨x,hx⟩,hn⟩:=h.ro l hl
 exact⟨⟨x,t.obj g hx rfl rfl hn⟩,fun hh=>hn (X.back g t.ext hh)⟩
theorem Uz {fr:Nat->DV}{dst:Option Tmp}{d:DV}{t:Nat}(h:dst≠some t):put fr dst d t=fr t:=by
 unfold put lD
 split
 ·rename_i u
  rw[if_neg (fun e=>h (by rw[e]))]
 ·rfl
theorem X9 {a:Act}{dst:Option Tmp}{v:Value}{t:Nat}(h:dst≠some t):(a.put dst v).tmps.getD t undef=a.tmps.getD t undef:=by
 unfold Act.put
 split
 ·rename_i u
  have:u≠t:=fun e=>h (by rw[e])
  simp[Array.getD_eq_getD_getElem?,Array.getElem?_setIfInBounds_ne this]
 ·rfl
theorem Ya {a:Act}{v:Value}{t:Nat}(h:t<a.tmps.size):(a.put (some t) v).tmps.getD t undef=v:=by
 simp[Act.put,Array.getD_eq_getD_getElem?,h]
theorem Yb {a:Act}{dst:Option Tmp}{v:Value}:(a.put dst v).tmps.size=a.tmps.size:=by
 unfold Act.put;split<;>simp
theorem X8 {a:Act}{dst:Option Tmp}{v:Value}:(a.put dst v).defers=a.defers:=by
 unfold Act.put;split<;>rfl
theorem RB {fr:Nat->DV}{ts:List Tmp}{t:Nat}(h:t∈ts):mS fr ts t=bx (fr t):=by
 induction ts generalizing fr with
 | nil=>simp at h
 | cons u us ih=>
  simp only[mS]
  by_cases hm:t∈us
  ·rw[ih hm]
   unfold lD
   split
   ·rename_i hh;subst hh;exact Ws _
   ·rfl
  ·have:t=u:=by simpa[hm]using h
   subst this
   have key:∀(us:List Tmp) (fr:Nat->DV),t ∉ us->mS fr us t=fr t:=fun us=>by
    induction us with
    | nil=>intro fr _;rfl
    | cons x xs ih=>intro fr hn;simp only[mS];rw[ih _ (by simp at hn;exact hn.2)];unfold lD;rw[if_neg (by simp at hn;exact hn.1)]
   rw[key us _ hm];simp[lD]
theorem RE {ts:List Tmp}{fr:Nat->DV}{t:Nat}(h:t ∉ ts):mS fr ts t=fr t:=by
 induction ts generalizing fr with
 | nil=>rfl
 | cons x xs ih=>simp only[mS];rw[ih (by simp at h;exact h.2)];unfold lD;rw[if_neg (by simp at h;exact h.1)]
def fq (al:Own->Addr->Prop)(dst:Option Tmp):Own->Addr->Prop:=fun p a=>match p with
 | .res=>False
 | .slot u=>if dst=some u then al .res a else al (.slot u) a
 | p=>al p a
theorem Oe {al:Own->Addr->Prop}{dst:Option Tmp}{p:Own}{a:Addr}(h:fq al dst p a):∃p',al p' a∧((p'= .res∧∃u,dst=some u∧p= .slot u)∨(p'=p∧p≠ .res)):=by
 cases p with
 | res=>exact h.elim
 | slot u=>
  simp only[fq]at h
  split at h
  ·rename_i hd;exact⟨.res,h,.inl ⟨rfl,u,hd,rfl⟩⟩
  ·exact⟨_,h,.inr ⟨rfl,by simp⟩⟩
 | ob j=>exact⟨_,h,.inr ⟨rfl,by simp⟩⟩
 | cell j i=>exact⟨_,h,.inr ⟨rfl,by simp⟩⟩
theorem MI.fq (mi:MI n0 PR e al)(dst:Option Tmp):MI n0 PR e (Abs.fq al dst):=by
 refine mi.N0 (fun p a h=>let ⟨p',h',_⟩:=Oe h;⟨p',h'⟩) (fun p p' a h1 h2=>?_) (fun j a h=>h) (fun j i a h=>h)
 obtain⟨u,hu,qU⟩:=Oe h1
 obtain⟨u',ff,pn⟩:=Oe h2
 have heq:=mi.cE _ _ _ hu ff
 rcases qU with ⟨rfl,x,hx,rfl⟩ | ⟨rfl,hn⟩<;>rcases pn with ⟨rfl,y,hy,rfl⟩ | ⟨rfl,SX⟩
 ·rw[hx]at hy;cases hy;rfl
 ·exact absurd heq.symm SX
 ·exact absurd heq hn
 ·exact heq
theorem Fr.put (h:Fr r k0 nt Γ e al fr a)(g:GI n0 e Γ m.pd)(t:To n0 PR Γ e e'){drop:List Tmp}{dst:Option Tmp}{d:DV}{v:Value}(hd:qv nt dst=true)(bt:RD e' (reg' .res) d v)
  (acv:∀t,t ∉ drop->∀x,al (.slot t) x->reg' (.slot t) x):Fr r k0 nt Γ e' (fq reg' dst) (Abs.put (mS fr drop) dst d) (a.put dst v):=by
 refine⟨fun u=>?_,by rw[Yb];exact h.nt,?_,h.N2 g t⟩
 ·by_cases hu:dst=some u
  ·subst hu
   have aQ:u<a.tmps.size:=Nat.lt_of_lt_of_le (by simpa[qv]using hd) h.nt
   rw[Ya aQ]
   have:Abs.put (mS fr drop) (some u) d u=d:=by simp[Abs.put,lD]
   rw[this]
   exact bt.fV fun x hx=>by simp[fq];exact hx
  ·rw[Uz hu,X9 hu]
   by_cases hm:u∈drop
   ·rw[RB hm]
    exact((h.rd u).mono t.ext (fun _ h=>h)).bx
   ·rw[RE hm]
    exact(h.rd u).mono t.ext fun x hx=>by simp only[fq,if_neg hu];exact acv u hm x hx
 ·rw[X8];exact h.Rz g t
def lN (n0:Nat)(PR:Addr->Prop)(Γ:List (Nat×Ctx))(e:E)(d:DV)(m':M):Ending->World->Prop
 | .returned v,w'=>∃e' reg',e'.w=w'∧St n0 PR Γ e' reg' m'∧se reg'∧To n0 PR Γ e e'∧RD e' (reg' .res) d v
 | _,_=>False
structure jL (P:Program)(f:FuncId)(p:List Ob->List DV->Option Out):Prop where
 drop:∀st args r,p st args=some r->r.drop=[]
 set:∀st args r,p st args=some r->∀id o,r.set=some (id,o)->id∈args.flatMap refsOf
 same:∀st st' args,(∀id∈args.flatMap refsOf,st[id]? =st'[id]?)->p st args=p st' args
 ok:∀m args r,p m.st args=some r->∀Γ n0 PR e al vs n,St n0 PR Γ e al m->iD al->se al->bd e args vs->CallsIn Fence.wide n P f ⟨vs⟩ e.w (lN n0 PR Γ e r.d (eD m r.set))
structure oI (P:Program)(rec:Rec):Prop where
 call:∀Γ f args m d m',rec.call Γ f args m=some (d,m')->∀n0 PR e al vs n,St n0 PR Γ e al m->iD al->se al->bd e args vs->CallsIn Fence.wide n P f ⟨vs⟩ e.w (lN n0 PR Γ e d m')
 nj:∀f p,rec.nj f=some p->jL P f p
def sg (P:Program)(rec:Rec):Prop:=∀Γ j args m d m',rec.round Γ j args m=some (d,m')->∀n0 PR e al vs n,St n0 PR Γ e al m->iD al->se al->bd e args vs->∀l,e.la[j]? =some l->
 ∃x:Loop,e.w.heap[l]? =some (.loop x)∧vs.length=x.params.size∧RoundIn Fence.wide n P l x.fn ((x.params.zip ⟨vs⟩).foldl (fun tmps (t,a)=>tmps.setIfInBounds t a) x.tmps) x.assign x.body e.w (lN n0 PR Γ e d m')
theorem St.BS (s:St n0 PR Γ e al m)(bt:iD al):
  let nB:Addr->Prop:=fun x=>PR x∨∃t,al (.slot t) x
  let rn:Own->Addr->Prop:=fun p x=>match p with | .slot _=>False | p=>al p x
  St n0 nB Γ e rn m∧iD rn∧se rn∧
  (∀d m' en w',lN n0 nB Γ e d m' en w'->∃v e' reg',en= .returned v∧e'.w=w'∧St n0 PR Γ e' reg' m'∧To n0 PR Γ e e'∧RD e' (reg' .res) d v∧∀t x,al (.slot t) x->reg' (.slot t) x):=by
 intro nB rn
 have mi:=s.mi
 have kI:∀p a,rn p a->al p a∧∀t,p≠ .slot t:=fun p a h=>by cases p<;>first | exact h.elim | exact⟨h,by simp⟩
 refine⟨⟨s.st,s.la,s.lt,⟨mi.eY,fun a ha hp=>?_,fun a hp=>?_,mi.dz,fun p a hp=>?_,fun p q a h1 h2=>mi.cE p q a (kI p a h1).1 (kI q a h2).1,mi.ext,fun id o ho i hi=>mi.own id o ho i hi,fun id o ho i d hd=>mi.cell id o ho i d hd⟩,s.gi⟩,bt,fun _ _ h=>h,?_⟩
 ·rcases hp with hp | ⟨t,ht⟩
  ·exact mi.gm a ha hp
  ·exact(mi.ok _ _ ht).2.2.2.1 ha
 ·rcases hp with hp | ⟨t,ht⟩
  ·exact mi.dN a hp
  ·exact mi.bC ht
 ·obtain⟨h0,iL⟩:=kI p a hp
  obtain⟨h1,h2,h3,h4,h5⟩:=mi.ok p a h0
  refine⟨h1,h2,h3,h4,fun hh=>?_⟩
  rcases hh with hh | ⟨t,ht⟩
  ·exact h5 hh
  ·exact iL t (mi.cE _ _ _ h0 ht)
 ·intro d m' en w' hb
  cases en with
  | returned v=>
   obtain⟨e',dK,rfl,s1,iL,to,cR⟩:=hb
   have cz:=s1.mi
   let dO:Own->Addr->Prop:=fun p x=>match p with | .slot t=>al (.slot t) x | p=>dK p x
   have eX:∀p a,dO p a->(∃t,p= .slot t∧al (.slot t) a)∨(dK p a∧∀t,p≠ .slot t):=fun p a h=>by
    cases p with
    | slot t=>exact .inl ⟨t,rfl,h⟩
    | _=>exact .inr ⟨h,by simp⟩
   have bC:∀t a,al (.slot t) a->n0≤a.block∧(∃v,e'.w.cell? a=some v)∧e'.w.frozen? a=false∧¬e'.im a∧¬PR a:=fun t a h=>by
    obtain⟨h1,⟨v,h2⟩,h3,h4,h5⟩:=mi.ok _ _ h
    obtain⟨k1,k2⟩:=to.bp.pr a (.inr ⟨t,h⟩)
    exact⟨h1,⟨v,k1.trans h2⟩,k2.trans h3,fun hi=>cz.gm a hi (.inr ⟨t,h⟩),h5⟩
   refine⟨v,e',dO,rfl,rfl,⟨s1.st,s1.la,s1.lt,⟨cz.eY,fun a ha hp=>cz.gm a ha (.inl hp),fun a hp=>cz.dN a (.inl hp),cz.dz,fun p a hp=>?_,fun p q a h1 h2=>?_,cz.ext,fun id o ho i hi=>cz.own id o ho i hi,fun id o ho i d hd=>cz.cell id o ho i d hd⟩,s1.gi⟩,⟨to.ext,⟨to.bp.os,to.bp.tape,to.bp.output,to.bp.size,to.bp.bC,fun a ha=>to.bp.pr a (.inl ha),to.bp.obj,to.bp.dr⟩,to.maps,to.loops⟩,cR,fun t x h=>h⟩
   ·rcases eX p a hp with ⟨t,rfl,h⟩ | ⟨h,_⟩
    ·exact bC t a h
    ·obtain⟨h1,h2,h3,h4,h5⟩:=cz.ok p a h
     exact⟨h1,h2,h3,h4,fun hh=>h5 (.inl hh)⟩
   ·rcases eX p a h1 with ⟨t,rfl,g1⟩ | ⟨g1,_⟩<;>rcases eX q a h2 with ⟨t',rfl,g2⟩ | ⟨g2,_⟩
    ·exact mi.cE _ _ a g1 g2
    ·exact absurd (.inr ⟨t,g1⟩) (cz.ok q a g2).2.2.2.2
    ·exact absurd (.inr ⟨t',g2⟩) (cz.ok p a g1).2.2.2.2
    ·exact cz.cE _ _ a g1 g2
  | panicked c=>exact hb.elim
  | outgrown=>exact hb.elim
end
end Go.Abs
namespace Go.Abs
open Go
variable [Fl]
variable [Gl]
section
variable {P:Program}{n0:Nat}{PR:Addr->Prop}{Γ:List (Nat×Ctx)}{e e':E}{al reg':Own->Addr->Prop}{m:M}{r:Option Nat}{k0 nt:Nat}{fr:Nat->DV}{a:Act}
def shut (e:E)(al:Own->Addr->Prop):Addr->Prop:=fun a=>e.im a∨∃id,al (.ob id) a
theorem aay:∀{n:Nat}{st:List Ob}{d:DV}{c:CV},dD n st d=some c->bG d=true->nI c=true
 | 0,_,_,_,h,_=>by simp[dD]at h
 | n+1,st,d,c,h,hk=>by
  cases d with
  | c v=>simp only[dD]at h;cases h;exact hk
  | ap nl cs len aV=>simp only[dD]at h;cases h;rfl
  | ms id ver off len aV x=>
   simp only[dD]at h
   split at h
   ·rw[Option.bind_eq_some_iff]at h
    obtain⟨ds,_,h⟩:=h
    rw[Option.map_eq_some_iff]at h
    obtain⟨cs,_,rfl⟩:=h
    rfl
   ·cases h
  | agg ds=>simp[bG]at hk
  | _=>simp[dD]at h
theorem Lp (mi:MI n0 PR e al):∀(n:Nat) {d:DV}{c:CV}{v:Value}{s:Addr->Prop},dD n e.st d=some c->RD e s d v->RC (shut e al) e.w c v
 | 0,_,_,_,_,h,_=>by simp[dD]at h
 | n+1,d,c,v,s,h,hr=>by
  have up:∀{c:CV}{v:Value},RC e.im e.w c v->RC (shut e al) e.w c v:=fun h=>h.mono (fun _ h=>.inl h) (fun _ _=>rfl)
  have go:∀{ds:List DV}{cs:List CV}{vs:List Value},fN (dD n e.st) ds=some cs->ds.all bG=true->j4 e ds vs->bh (shut e al) e.w cs vs:=fun {ds}=>by
   induction ds with
   | nil=>intro cs vs h _ hr;simp only[fN]at h;cases h;cases hr;exact .nil
   | cons d ds ih=>
    intro cs vs h hk hr
    simp only[fN]at h
    simp only[List.all_cons,Bool.and_eq_true]at hk
    split at h
    ·rename_i c e9 h1 h2
     cases h
     cases hr with
     | cons a b=>exact .cons (aay h1 hk.1) (Lp mi n h1 a) (ih h2 hk.2 b)
    ·cases h
  cases d with
  | c v=>simp only[dD]at h;cases h;cases hr with | c hr=>exact up hr
  | ap nl cs len aV=>
   simp only[dD]at h;cases h
   have:=hr.bx (s':=s)
   simp only[Abs.bx]at this
   cases this with | c hr=>exact up hr
  | agg ds=>
   simp only[dD]at h
   rw[Option.map_eq_some_iff]at h
   obtain⟨cs,cO,rfl⟩:=h
   cases hr with
   | agg hk hr=>exact .agg (go cO hk hr.w)
  | ms id ver off len aV x=>
   simp only[dD]at h
   split at h
   ·rename_i o ho
    rw[Option.bind_eq_some_iff]at h
    obtain⟨ds,gh,h⟩:=h
    rw[Option.map_eq_some_iff]at h
    obtain⟨cs,cO,rfl⟩:=h
    obtain⟨g1,rfl⟩:=mY ho
    obtain⟨vs,hl,eH,kJ,hk⟩:=mi.cells g1 gh
    cases hr with
    | ms hid hle hx hv=>
     rename_i a cap
     obtain⟨q1,q2⟩:=(hv o g1).2 rfl
     refine .sl (go cO hk kJ) (fun i v hi=>?_) hle hx
     have aQ:i<vs.length:=(List.getElem?_eq_some_iff.1 hi).1
     have BZ:len * aV≤cap * aV:=Nat.mul_le_mul_right _ hle
     rcases q1 with q1 | q1
     ·rw[q1]at BZ;omega
     ·subst q1
      refine⟨eH i v hi,.inr ⟨id,?_⟩⟩
      rw[mP]
      exact mi.own id o g1 _ (by omega)
   ·cases h
  | _=>simp[dD]at h
theorem Ri (mi:MI n0 PR e al){n:Nat}:∀{ds:List DV}{cs:List CV}{vs:List Value}{e2:E},fN (dD n e.st) ds=some cs->bd e ds vs->e2.im=shut e al->e2.w=e.w->bd e2 (cs.map .c) vs
 | [],cs,_,e2,h,.nil,_,_=>by simp only[fN]at h;cases h;exact .nil
 | d::ds,cs,_,e2,h,.cons a b,h1,h2=>by
  simp only[fN]at h
  split at h
  ·rename_i c e9 hc cO
   cases h
   refine .cons (.c ?_) (Ri mi cO b h1 h2)
   rw[h1,h2];exact Lp mi n hc a
  ·cases h
theorem aaD (mi:MI n0 PR e al){d d':DV}{v:Value}{s:Addr->Prop}(h:eF e.st d=some d')(hr:RD e s d v){e2:E}(h1:e2.im=shut e al)(h2:e2.w=e.w):RD e2 s d' v:=by
 have up:∀{c:CV}{v:Value},RC e.im e.w c v->RC e2.im e2.w c v:=fun h=>by rw[h1,h2];exact h.mono (fun _ h=>.inl h) (fun _ _=>rfl)
 have OT:∀{c:List CV}{v:List Value},bh e.im e.w c v->bh e2.im e2.w c v:=fun h=>by rw[h1,h2];exact h.mono (fun _ h=>.inl h) (fun _ _=>rfl)
 have other:∀{d d':DV},(dD 9 e.st d).map .c=some d'->RD e s d v->RD e2 s d' v:=fun {d d'} h hr=>by
  rw[Option.map_eq_some_iff]at h
  obtain⟨c,hc,rfl⟩:=h
  refine .c ?_
  rw[h1,h2];exact Lp mi 9 hc hr
 cases d with
 | c v=>simp only[eF]at h;cases h;cases hr with | c hr=>exact .c (up hr)
 | ap nl cs len aV=>
  simp only[eF]at h;cases h
  cases hr with
  | iE=>exact .iE
  | ap hr hc hl hn hs=>exact .ap (OT hr) (fun i v hv=>⟨by rw[h2];exact(hc i v hv).1,by rw[h1];exact .inl (hc i v hv).2⟩) hl hn hs
 | aX ds=>
  simp only[eF]at h
  rw[Option.map_eq_some_iff]at h
  obtain⟨cs,cO,rfl⟩:=h
  cases hr with
  | aX hr=>exact .aX (Ri mi cO hr h1 h2)
 | _=>exact other (by simpa only[eF]using h) hr
theorem Vh (n p:Nat):∀ds:List DV,(gR n p ds).length=ds.length
 | []=>rfl
 | d::ds=>by simp[gR,Vh n p ds]
theorem Vg (n p:Nat):∀(ds:List DV) (i:Nat),(gR n p ds)[i]? =(ds[i]?).map (shift n p)
 | [],i=>by simp[gR]
 | d::ds,0=>by simp[gR]
 | d::ds,i+1=>by simp[gR,Vg n p ds i]
theorem Vi (n p:Nat)(d:DV):bG (shift n p d)=bG d:=by cases d<;>simp[shift,bG]
theorem Vf (n p:Nat):∀ds:List DV,(gR n p ds).all bG=ds.all bG
 | []=>rfl
 | d::ds=>by simp[gR,Vi,Vf n p ds]
structure AO (e1 e2:E)(n p:Nat):Prop where
 im:e2.im=e1.im
 w:e2.w=e1.w
 len:∀id,id<e1.st.length->id+n<e2.st.length
 st:∀id o,e2.st[id+n]? =some o->∃o1,e1.st[id]? =some o1∧o.ver=o1.ver∧(o.mp.k≠none->o1.mp.k≠none)
 io:∀id,id<e1.st.length->e2.io (id+n)=e1.io id
 la:∀(k l:Nat),e1.la[k]? =some l->e2.la[k+p]? =some l
mutual
theorem RD.shift {e1 e2:E}{n p:Nat}(x:AO e1 e2 n p){s:Addr->Prop}{d:DV}{v:Value}:RD e1 s d v->RD e2 s (Abs.shift n p d) v
 | .un=>by simp only[Abs.shift];exact .un
 | .c h=>by simp only[Abs.shift];exact .c (by rw[x.im,x.w];exact h)
 | .iE=>by simp only[Abs.shift];exact .iE
 | .ap h hc hl hn hs=>by simp only[Abs.shift];exact .ap (by rw[x.im,x.w];exact h) (by rw[x.im,x.w];exact hc) hl hn hs
 | .agg hk h=>by simp only[Abs.shift];exact .agg (by rw[Vf];exact hk) (bd.shift x h)
 | .aX h=>by simp only[Abs.shift];exact .aX (bd.shift x h)
 | .ms (id:=id) hid hl hx hv=>by
  simp only[Abs.shift]
  refine .ms (x.len id hid) hl hx fun o ho=>?_
  obtain⟨o1,h1,h2,_⟩:=x.st id o ho
  rw[h2,x.io id hid];exact hv o1 h1
 | .pt (id:=id) hid hv=>by
  simp only[Abs.shift]
  refine .pt (x.len id hid) fun o ho=>?_
  obtain⟨o1,h1,h2,_⟩:=x.st id o ho
  rw[h2,x.io id hid];exact hv o1 h1
 | .ia h hc=>by simp only[Abs.shift];exact .ia (by rw[x.im,x.w];exact h) (by rw[x.im,x.w];exact hc)
 | .fn h1 h2=>by simp only[Abs.shift];exact .fn (bd.shift x h1) (bd.shift x h2)
 | .yl h=>by simp only[Abs.shift];exact .yl (x.la _ _ h)
 | .er h=>by simp only[Abs.shift];exact .er h
 | .mp (id:=id) hid hv=>by
  simp only[Abs.shift]
  refine .mp (x.len id hid) fun o ho=>?_
  obtain⟨o1,h1,h2,_⟩:=x.st id o ho
  rw[h2,x.io id hid];exact hv o1 h1
 | .mi (id:=id) hid hv=>by
  simp only[Abs.shift]
  refine .mi (x.len id hid) fun o ho=>?_
  obtain⟨o1,h1,h2,_⟩:=x.st id o ho
  rw[h2,x.io id hid];exact hv o1 h1
theorem bd.shift {e1 e2:E}{n p:Nat}(x:AO e1 e2 n p){ds:List DV}{vs:List Value}:bd e1 ds vs->bd e2 (gR n p ds) vs
 | .nil=>by simp only[gR];exact .nil
 | .cons h hs=>by simp only[gR];exact .cons (h.shift x) (bd.shift x hs)
end
theorem MR.shift {e1 e2:E}{n p:Nat}(x:AO e1 e2 n p):∀{es:List (DV×DV)}{xs:List MapEntry},MR e1 es xs->MR e2 (N7 n p es) xs
 | _,_,.nil=>.nil
 | _,_,.cons a b c=>.cons (a.shift x) (b.shift x) (c.shift x)
theorem Ve {n p:Nat}{k:Option MK}:vS n p k≠none->k≠none:=by
 cases k with
 | none=>intro h;exact absurd rfl h
 | some k=>intro _;simp
theorem k7.shift {e1 e2:E}{n p:Nat}(x:AO e1 e2 n p){b b':Nat}(hb:b'=b):∀{k k':MK},vS n p (some k)=some k'->k7 e1 b k->k7 e2 b' k'
 | .map _,_,h,⟨xs,c,h1,h2⟩=>by
  subst hb
  simp only[vS,Option.some.injEq]at h;subst h
  exact⟨xs,c,by rw[x.w];exact h1,h2.1.shift x,h2.2⟩
 | .it id ver k cur left,_,h,⟨r,since,seen,fu,h1,h2,h3⟩=>by
  subst hb
  simp only[vS,Option.some.injEq]at h;subst h
  refine⟨r,since,seen,fu,by rw[x.w];exact h1,by have:=h2.shift x;simpa only[Abs.shift]using this,fun o ho hv hk=>?_⟩
  obtain⟨o1,g1,g2,g3⟩:=x.st id o ho
  rw[x.w]
  exact h3 o1 g1 (g2▸hv) (g3 hk)
 | .iter ..,_,h,⟨r,c,h1,h2⟩=>by
  subst hb
  simp only[vS,Option.some.injEq]at h;subst h
  exact⟨r,c,by rw[x.w];exact h1,by have:=h2.shift x;simpa only[Abs.shift]using this⟩
mutual
theorem Rn {e0:E}(jA:e0.im=e.im)(hw:e0.w=e.w){s:Addr->Prop}:∀{d:DV}{v:Value},isClosed d=true->RD e s d v->RD e0 s d v
 | .c c,_,_,.c a=>.c (by rw[jA,hw];exact a)
 | .ap ..,_,_,.iE=>.iE
 | .ap ..,_,_,.ap h1 h2 h3 h4 h5=>.ap (by rw[jA,hw];exact h1) (by rw[jA,hw];exact h2) h3 h4 h5
 | .fn f xs ys,_,h,.fn h1 h2=>by
  simp only[isClosed,Bool.and_eq_true]at h
  exact .fn (Lt jA hw h.1 h1) (Lt jA hw h.2 h2)
theorem Lt {e0:E}(jA:e0.im=e.im)(hw:e0.w=e.w):∀{ds:List DV}{vs:List Value},Cx ds=true->bd e ds vs->bd e0 ds vs
 | [],_,_,.nil=>.nil
 | d::ds,_,h,.cons a b=>by
  simp only[Cx,Bool.and_eq_true]at h
  exact .cons (Rn jA hw h.1 a) (Lt jA hw h.2 b)
end
theorem Lu {e0:E}(jA:e0.im=e.im)(hw:e0.w=e.w):∀{ds:List DV}{vs:List Value},ds.all isClosed=true->bd e ds vs->bd e0 ds vs
 | _,_,_,.nil=>.nil
 | d::ds,_,h,.cons a b=>by
  simp only[List.all_cons,Bool.and_eq_true]at h
  exact .cons (Rn jA hw h.1 a) (Lu jA hw h.2 b)
theorem St.apart (s:St n0 PR Γ e al m)(bt:iD al):
  let nB:Addr->Prop:=fun x=>PR x∨∃p,al p x
  let e0:E:={ e with st:=[],la:=[]}
  St n0 nB [] e0 (fun _ _=>False) ⟨[],[]⟩∧
  (∀d m' en w',lN n0 nB [] e0 d m' en w'->
   (∀d',eF m'.st d=some d'->∃v e' reg',en= .returned v∧e'.w=w'∧St n0 PR Γ e' reg' m∧To n0 PR Γ e e'∧RD e' (reg' .res) d' v∧∀t x,al (.slot t) x->reg' (.slot t) x)∧
   (∃v e' reg',en= .returned v∧e'.w=w'∧St n0 PR Γ e' reg' ⟨m.st++m'.st.map fun o=>tE m.st.length m.pd.length o,m.pd++m'.pd⟩∧To n0 PR Γ e e'∧RD e' (reg' .res) (shift m.st.length m.pd.length d) v∧
    ∀t x,al (.slot t) x->reg' (.slot t) x)):=by
 intro nB e0
 have mi:=s.mi
 refine⟨⟨rfl,rfl,by simp[e0],⟨mi.eY,fun a ha hp=>?_,fun a hp=>?_,mi.dz,fun p a hp=>hp.elim,fun p q a h1 _=>h1.elim,by simp[e0],by simp[e0],by simp[e0]⟩,⟨⟨s.gi.gl.im,s.gi.gl.ok⟩,gG.void (by simp[e0]),by simp,by simp⟩⟩,?_⟩
 ·rcases hp with hp | ⟨t,ht⟩
  ·exact mi.gm a ha hp
  ·exact(mi.ok _ _ ht).2.2.2.1 ha
 ·rcases hp with hp | ⟨t,ht⟩
  ·exact mi.dN a hp
  ·exact mi.bC ht
 ·intro d m' en w' hb
  cases en with
  | panicked c=>exact hb.elim
  | outgrown=>exact hb.elim
  | returned v=>
   obtain⟨e1,dK,rfl,s1,iL,to,cR⟩:=hb
   have cz:=s1.mi
   have Sr:∀r,¬MB e0 r:=fun r h=>by obtain⟨_,_,h,_⟩:=h;simp[e0]at h
   have hX:∀r,¬(X [] e0.la r∨MB e0 r):=fun r h=>h.elim (fun h=>by obtain⟨_,_,h,_⟩:=h;simp at h) (Sr r)
   have nb:cS n0 PR (fun _=>False) e.w e1.w:=⟨to.bp.os,to.bp.tape,to.bp.output,to.bp.size,to.bp.bC,fun a ha=>to.bp.pr a (.inl ha),fun r o h1 h2 h3=>to.bp.obj r o h1 h2 (hX r),to.bp.dr⟩
   have bC:∀p a,al p a->n0≤a.block∧(∃v,e1.w.cell? a=some v)∧e1.w.frozen? a=false∧¬e1.im a∧¬PR a:=fun t a h=>by
    obtain⟨h1,⟨v,h2⟩,h3,h4,h5⟩:=mi.ok _ _ h
    obtain⟨k1,k2⟩:=to.bp.pr a (.inr ⟨t,h⟩)
    exact⟨h1,⟨v,k1.trans h2⟩,k2.trans h3,fun hi=>cz.gm a hi (.inr ⟨t,h⟩),h5⟩
   have sep:∀p q a,al p a->¬dK q a:=fun p q a h1 h2=>(cz.ok q a h2).2.2.2.2 (.inr ⟨p,h1⟩)
   have Rc:∀id o,e.st[id]? =some o->∀i d,o.cs[i]? =some d->∀v,e.w.cell? ((e.io id).at i)=some v->e1.w.cell? ((e.io id).at i)=some v:=fun id o ho i d hd v hv=>by
    have aQ:i<(e.io id).ext:=Nat.lt_of_lt_of_le (List.getElem?_eq_some_iff.1 hd).1 (mi.ext id o ho)
    exact(to.bp.pr _ (.inr ⟨_,mi.own id o ho i aQ⟩)).1.trans hv
   refine⟨fun d' eO=>?_,?_⟩
   ·-- apP comes back is shut
    let e2:E:={ e with im:=shut e1 dK,w:=e1.w}
    let dO:Own->Addr->Prop:=fun p x=>match p with | .res=>dK .res x | p=>al p x
    have eX:∀p a,dO p a->(p= .res∧dK .res a)∨(p≠ .res∧al p a):=fun p a h=>by
     cases p with
     | res=>exact .inl ⟨rfl,h⟩
     | _=>exact .inr ⟨by simp,h⟩
    have hx:Ext e e2:=⟨fun a ha=>.inl (to.ext.im a ha),fun a ha=>to.ext.cell a ha,Nat.le_refl _,fun id o o' h1 h2=>by rw[show e2.st=e.st from rfl,h1]at h2;cases h2;exact⟨Nat.le_refl _,fun _=>rfl⟩,fun _ _ h=>h⟩
    refine⟨v,e2,dO,rfl,rfl,⟨s.st,s.la,fun l hl=>⟨(s.lt l hl).1,Nat.lt_of_lt_of_le (s.lt l hl).2 nb.size⟩,⟨fun a ha=>?_,fun a ha hp=>?_,fun a hp=>cz.dN a (.inl hp),cz.dz,fun p a hp=>?_,fun p q a h1 h2=>?_,mi.ext,mi.own,fun id o ho i d hd=>?_⟩,s.gi.bp hx nb (fX.of_eq rfl)⟩,
     To.C1 hx nb (fX.of_eq rfl),aaD cz (by rw[s1.st];exact eO) cR rfl rfl,fun t x h=>h⟩
    ·rcases ha with ha | ⟨id,ha⟩
     ·exact cz.eY a ha
     ·exact cz.bC ha
    ·rcases ha with ha | ⟨id,ha⟩
     ·exact cz.gm a ha (.inl hp)
     ·exact(cz.ok _ a ha).2.2.2.2 (.inl hp)
    ·rcases eX p a hp with ⟨rfl,h⟩ | ⟨_,h⟩
     ·obtain⟨h1,h2,h3,h4,h5⟩:=cz.ok _ a h
      refine⟨h1,h2,h3,fun hh=>?_,fun hh=>h5 (.inl hh)⟩
      rcases hh with hh | ⟨id,hh⟩
      ·exact h4 hh
      ·have:=cz.cE _ _ _ h hh;cases this
     ·obtain⟨h1,h2,h3,h4,h5⟩:=bC p a h
      refine⟨h1,h2,h3,fun hh=>?_,h5⟩
      rcases hh with hh | ⟨id,hh⟩
      ·exact h4 hh
      ·exact sep _ _ _ h hh
    ·rcases eX p a h1 with ⟨rfl,g1⟩ | ⟨_,g1⟩<;>rcases eX q a h2 with ⟨rfl,g2⟩ | ⟨_,g2⟩
     ·rfl
     ·exact absurd g1 (sep _ _ _ g2)
     ·exact absurd g2 (sep _ _ _ g1)
     ·exact mi.cE _ _ a g1 g2
    ·obtain⟨h1,v,h2,h3⟩:=mi.cell id o ho i d hd
     exact⟨h1,v,Rc id o ho i d hd v h2,h3.mono hx fun a ha=>ha⟩
   ·-- apP comes back is kept open
    have hN:e.st.length=m.st.length:=by rw[s.st]
    have hp:e.la.length=m.pd.length:=s.la
    let e2:E:={ im:=e1.im,w:=e1.w,st:=m.st++m'.st.map fun o=>tE m.st.length m.pd.length o,io:=fun j=>if j<m.st.length then e.io j else e1.io (j - m.st.length),la:=e.la++e1.la}
    let dO:Own->Addr->Prop:=fun p x=>match p with
     | .res=>dK .res x
     | .slot t=>al (.slot t) x
     | .ob j=>if j<m.st.length then al (.ob j) x else dK (.ob (j - m.st.length)) x
     | .cell j i=>if j<m.st.length then al (.cell j i) x else dK (.cell (j - m.st.length) i) x
    have eX:∀p a,dO p a->(al p a∧p≠ .res∧(∀j,p= .ob j->j<m.st.length)∧(∀j i,p= .cell j i->j<m.st.length))∨
      (∃p',dK p' a∧((p= .res∧p'= .res)∨(∃j,p= .ob j∧m.st.length≤j∧p'= .ob (j - m.st.length))∨(∃j i,p= .cell j i∧m.st.length≤j∧p'= .cell (j - m.st.length) i))):=fun p a h=>by
     cases p with
     | res=>exact .inr ⟨_,h,.inl ⟨rfl,rfl⟩⟩
     | slot t=>exact .inl ⟨h,by simp,by simp,by simp⟩
     | ob j=>
      simp only[dO]at h
      split at h
      ·rename_i hj;exact .inl ⟨h,by simp,fun j' hh=>by cases hh;exact hj,by simp⟩
      ·rename_i hj;exact .inr ⟨_,h,.inr (.inl ⟨j,rfl,by omega,rfl⟩)⟩
     | cell j i=>
      simp only[dO]at h
      split at h
      ·rename_i hj;exact .inl ⟨h,by simp,by simp,fun j' i' hh=>by cases hh;exact hj⟩
      ·rename_i hj;exact .inr ⟨_,h,.inr (.inr ⟨j,i,rfl,by omega,rfl⟩)⟩
    have fb:∀id,id<m.st.length->e2.st[id]? =e.st[id]? :=fun id h=>by rw[s.st];exact List.getElem?_append_left h
    have pb:∀id,m.st.length≤id->e2.st[id]? =(e1.st[id - m.st.length]?).map fun o=>tE m.st.length m.pd.length o:=fun id h=>by
     rw[s1.st]
     show(m.st++m'.st.map _)[id]? =_
     rw[List.getElem?_append_right h,List.getElem?_map]
    have hx:Ext e e2:=by
     refine⟨fun a ha=>to.ext.im a ha,fun a ha=>to.ext.cell a ha,by rw[s.st];simp[e2],fun id o o' h1 h2=>?_,fun k l h=>?_⟩
     ·have aQ:id<m.st.length:=by rw[←hN];exact(List.getElem?_eq_some_iff.1 h1).1
      rw[fb id aQ,h1]at h2
      cases h2
      exact⟨Nat.le_refl _,fun _=>by simp[e2,aQ]⟩
     ·show(e.la++e1.la)[k]? =some l
      rw[List.getElem?_append_left (List.getElem?_eq_some_iff.1 h).1];exact h
    have K6:AO e1 e2 m.st.length m.pd.length:=by
     refine⟨rfl,rfl,fun id h=>?_,fun id o h=>?_,fun id h=>?_,fun k l h=>?_⟩
     ·have:=h;rw[s1.st]at this;simp[e2];omega
     ·rw[pb _ (by omega),Option.map_eq_some_iff]at h
      obtain⟨o1,h1,rfl⟩:=h
      rw[Nat.add_sub_cancel]at h1
      exact⟨o1,h1,rfl,fun h=>Ve h⟩
     ·have hn:¬(id+m.st.length<m.st.length):=by omega
      simp only[e2,if_neg hn,Nat.add_sub_cancel]
     ·show(e.la++e1.la)[k+m.pd.length]? =some l
      rw[List.getElem?_append_right (by omega),hp,Nat.add_sub_cancel];exact h
    have FG:∀id,m.st.length≤id->e2.io id=e1.io (id - m.st.length):=fun id h=>by simp[e2,Nat.not_lt.2 h]
    have yf:∀id o,m.st.length≤id->e2.st[id]? =some o->o.mp.k≠none->∃o1,e1.st[id - m.st.length]? =some o1∧o1.mp.k≠none∧vS m.st.length m.pd.length o1.mp.k=o.mp.k∧e.w.heap.size≤(e2.io id).b:=fun id o cw ho hk=>by
     rw[pb id cw,Option.map_eq_some_iff]at ho
     obtain⟨o1,h1,rfl⟩:=ho
     have fQ:=Ve hk
     refine⟨o1,h1,fQ,rfl,?_⟩
     rw[FG id cw]
     exact(to.maps _ ⟨_,o1,h1,fQ,rfl⟩).elim (fun h=>absurd h (Sr _)) fun h=>h
    have hold:∀id o,id<m.st.length->e2.st[id]? =some o->e.st[id]? =some o∧e2.io id=e.io id:=fun id o aQ ho=>by
     rw[fb id aQ]at ho
     exact⟨ho,by simp[e2,aQ]⟩
    have fF:∀id o,id<m.st.length->e2.st[id]? =some o->o.mp.k≠none->(e2.io id).b<e.w.heap.size:=fun id o aQ ho hk=>by
     obtain⟨h1,h2⟩:=hold id o aQ ho
     rw[h2]
     obtain⟨_,x,hx,_⟩:=s.gi.mp.obj ⟨id,o,h1,hk,rfl⟩
     exact(Array.getElem?_eq_some_iff.1 hx).1
    have SV:∀r ob,MB e r->e.w.heap[r]? =some ob->e2.w.heap[r]? =some ob:=fun r ob hb bu=>nb.obj _ _ bu (by
     obtain⟨_,o3,h3,h4⟩:=s.gi.mp.obj hb
     rw[bu]at h3;cases h3
     cases ob<;>first | rfl | (cases h4;done)) (fun h=>h)
    have TS:gG n0 e2:=by
     refine⟨fun id o k h1 h2=>?_,fun id cr o o' h1 h2 h3 h4 h5=>?_⟩
     ·rcases Nat.lt_or_ge id m.st.length with aQ | cw
      ·obtain⟨g1,g2⟩:=hold id o aQ h1
       obtain⟨q1,q2⟩:=s.gi.mp.at_ id o k g1 h2
       rw[g2]
       refine⟨q1,q2.to hx rfl (fun o2 bu=>SV _ o2 ⟨id,o,g1,by rw[h2];simp,rfl⟩ bu) fun cj fh n cur left _ r hr u' ff hv hk=>?_⟩
       have yd:cj<m.st.length:=by
        cases hr with
        | mp hid _=>rw[s.st]at hid;exact hid
       obtain⟨q3,_⟩:=hold cj u' yd ff
       exact⟨u',q3,hv,hk,fun xs c hxs=>⟨xs,c,SV _ _ ⟨cj,u',q3,hk,(hr.Gp q3 hv).symm⟩ hxs,sd.refl ..⟩⟩
      ·obtain⟨o1,g1,g2,g3,_⟩:=yf id o cw h1 (by rw[h2];simp)
       rw[FG id cw]
       cases fQ:o1.mp.k with
       | none=>exact absurd fQ g2
       | some k1=>
        obtain⟨q1,q2⟩:=s1.gi.mp.at_ _ o1 k1 g1 fQ
        exact⟨q1,q2.shift K6 rfl (by rw[←fQ,g3];exact h2)⟩
     ·rcases Nat.lt_or_ge id m.st.length with aQ | cw<;>rcases Nat.lt_or_ge cr m.st.length with yd | Mn
      ·obtain⟨g1,g2⟩:=hold id o aQ h1
       obtain⟨g3,g4⟩:=hold cr o' yd h3
       rw[g2,g4]at h5
       exact s.gi.mp.inj id cr o o' g1 h2 g3 h4 h5
      ·have:=fF id o aQ h1 h2
       obtain⟨_,_,_,_,h⟩:=yf cr o' Mn h3 h4
       omega
      ·have:=fF cr o' yd h3 h4
       obtain⟨_,_,_,_,h⟩:=yf id o cw h1 h2
       omega
      ·obtain⟨o1,g1,g2,_,_⟩:=yf id o cw h1 h2
       obtain⟨vI,mW,nO,_,_⟩:=yf cr o' Mn h3 h4
       rw[FG id cw,FG cr Mn]at h5
       have:=s1.gi.mp.inj _ _ o1 vI g1 g2 mW nO h5
       omega
    have iS:To n0 PR Γ e e2:=⟨hx,nb.fV (fun _ h=>h.elim),fun r hr=>by
     obtain⟨id,o,h1,h2,h3⟩:=hr
     rcases Nat.lt_or_ge id m.st.length with aQ | cw
     ·obtain⟨g1,g2⟩:=hold id o aQ h1
      exact .inl ⟨id,o,g1,h2,by rw[←g2];exact h3⟩
     ·obtain⟨_,_,_,_,h⟩:=yf id o cw h1 h2
      rw[h3]at h;exact .inr h,fun l r _ h=>⟨r,nb.obj _ _ h rfl (fun h=>h),rfl⟩⟩
    refine⟨v,e2,dO,rfl,rfl,⟨rfl,?_,?_,⟨cz.eY,fun a ha hp=>cz.gm a ha (.inl hp),fun a hp=>cz.dN a (.inl hp),cz.dz,fun p a hp=>?_,fun p q a h1 h2=>?_,?_,?_,?_⟩,?_⟩,iS,cR.shift K6,fun t x h=>h⟩
    ·show(e.la++e1.la).length=_
     simp[hp,s1.la]
    ·intro l hl
     rcases List.mem_append.1 hl with hl | hl
     ·exact⟨(s.lt l hl).1,Nat.lt_of_lt_of_le (s.lt l hl).2 nb.size⟩
     ·exact s1.lt l hl
    ·rcases eX p a hp with ⟨h,_⟩ | ⟨p',h,_⟩
     ·exact bC p a h
     ·obtain⟨h1,h2,h3,h4,h5⟩:=cz.ok _ a h
      exact⟨h1,h2,h3,h4,fun hh=>h5 (.inl hh)⟩
    ·rcases eX p a h1 with ⟨g1,_⟩ | ⟨p',g1,cF⟩<;>rcases eX q a h2 with ⟨g2,_⟩ | ⟨q',g2,Ca⟩
     ·exact mi.cE _ _ a g1 g2
     ·exact absurd g2 (sep _ _ _ g1)
     ·exact absurd g1 (sep _ _ _ g2)
     ·have heq:=cz.cE _ _ a g1 g2
      subst heq
      rcases cF with ⟨rfl,hA⟩ | ⟨j,rfl,hj,hA⟩ | ⟨j,i,rfl,hj,hA⟩<;>rcases Ca with ⟨rfl,hB⟩ | ⟨j',rfl,cC,hB⟩ | ⟨j',i',rfl,cC,hB⟩<;>rw[hA]at hB<;>first | rfl | (cases hB;done) | skip
      ·injection hB with hB;rw[show j=j' by omega]
      ·injection hB with hB hC;rw[show j=j' by omega,hC]
    ·intro id o ho
     rcases Nat.lt_or_ge id m.st.length with aQ | cw
     ·rw[fb id aQ]at ho
      have:e2.io id=e.io id:=by simp[e2,aQ]
      rw[this];exact mi.ext id o ho
     ·rw[pb id cw,Option.map_eq_some_iff]at ho
      obtain⟨o1,h1,rfl⟩:=ho
      have:e2.io id=e1.io (id - m.st.length):=by simp[e2,Nat.not_lt.2 cw]
      rw[this]
      show(gR _ _ o1.cs).length≤_
      rw[Vh];exact cz.ext _ o1 h1
    ·intro id o ho i hi
     rcases Nat.lt_or_ge id m.st.length with aQ | cw
     ·rw[fb id aQ]at ho
      have h2:e2.io id=e.io id:=by simp[e2,aQ]
      rw[h2]at hi ⊢
      simp only[dO,if_pos aQ];exact mi.own id o ho i hi
     ·rw[pb id cw,Option.map_eq_some_iff]at ho
      obtain⟨o1,h1,rfl⟩:=ho
      have h2:e2.io id=e1.io (id - m.st.length):=by simp[e2,Nat.not_lt.2 cw]
      rw[h2]at hi ⊢
      simp only[dO,if_neg (Nat.not_lt.2 cw)];exact cz.own _ o1 h1 i hi
    ·intro id o ho i d hd
     rcases Nat.lt_or_ge id m.st.length with aQ | cw
     ·rw[fb id aQ]at ho
      have h2:e2.io id=e.io id:=by simp[e2,aQ]
      obtain⟨k1,v,k2,k3⟩:=mi.cell id o ho i d hd
      rw[h2]
      exact⟨k1,v,Rc id o ho i d hd v k2,k3.mono hx fun a ha=>by simp only[dO,if_pos aQ];exact ha⟩
     ·rw[pb id cw,Option.map_eq_some_iff]at ho
      obtain⟨o1,h1,rfl⟩:=ho
      have h2:e2.io id=e1.io (id - m.st.length):=by simp[e2,Nat.not_lt.2 cw]
      simp only[tE,Vg]at hd
      rw[Option.map_eq_some_iff]at hd
      obtain⟨d1,FA,rfl⟩:=hd
      obtain⟨k1,v,k2,k3⟩:=cz.cell _ o1 h1 i d1 FA
      rw[h2]
      exact⟨by rw[Vi];exact k1,v,k2,(k3.shift K6).fV fun a ha=>by simp only[dO,if_neg (Nat.not_lt.2 cw)];exact ha⟩
    ·have g0:=s.gi.OK (e':=e2) hx TS (fun l r hX hr=>nb.obj _ _ hr rfl (fun h=>h))
     refine⟨g0.gl,TS,fun k c hm=>?_,g0.inj⟩
     obtain⟨l,rc,hl,cb⟩:=g0.at_ k c hm
     obtain⟨l0,_,kH,_⟩:=s.gi.at_ k c hm
     have hk:k<m.pd.length:=by rw[←hp];exact(List.getElem?_eq_some_iff.1 kH).1
     refine⟨l,rc,hl,cb.heap,cb.params,cb.assign,cb.body,cb.nt,cb.rd,?_⟩
     show KI rc (m.pd++m'.pd)[k]?
     rw[List.getElem?_append_left hk];exact cb.state
end
end Go.Abs
