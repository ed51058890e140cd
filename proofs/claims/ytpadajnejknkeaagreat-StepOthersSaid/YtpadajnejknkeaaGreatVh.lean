/-
  Part of the proof: printed by the session's own program out of the program's form, or typed; it states no claim by itself.
-/
import Derived.Test.YtpadajnejknkeaaGreatVg
set_option linter.unusedVariables false
set_option linter.unusedSimpArgs false
set_option linter.unusedSectionVars false
set_option maxRecDepth 100000
namespace Go.Vig
open Go Go.Abs
variable [Kn]
theorem L4 {s:aT}{T:List ah}{L:List aE}{V:List Int}{t draw:Int}{x:ah}{i:Int}{e:aS}:(fa s T L V t draw x i e).T.length=T.length∧(fa s T L V t draw x i e).L.length=L.length∧(fa s T L V t draw x i e).V=V:=by
 unfold fa
 split
 ·refine⟨uH,?_,rfl⟩
  split<;>simp
 split
 ·refine⟨uH,?_,rfl⟩
  split<;>simp
 split
 ·exact⟨by simp,by simp,rfl⟩
 split
 ·split
  ·exact⟨by rw[uH,Eg],rfl,rfl⟩
  ·exact⟨uH,rfl,rfl⟩
 split
 ·exact⟨by rw[uH,PK],rfl,rfl⟩
 ·exact⟨uH,rfl,rfl⟩
theorem Vd {s:aT}{V:List Int}{e:aS}:(fk s V e).2.length=V.length:=by
 unfold fk
 split
 ·rfl
 ·split
  ·rfl
  ·split<;>simp
theorem Sb {t:Int}{L:List aE}:(jf t L).length=L.length:=by simp[jf]
theorem U0 {s:aT}{T:List ah}{L:List aE}{V:List Int}{t draw:Int}{x:ah}{e:aS}:(jn s T L V t draw x e).T.length=T.length∧(jn s T L V t draw x e).L.length=L.length∧(jn s T L V t draw x e).V.length=V.length:=by
 unfold jn
 split
 ·unfold qq
  exact⟨by rw[uH];simp,by simp,rfl⟩
 ·simp only
  split
  ·exact⟨rfl,rfl,rfl⟩
  ·split
   ·exact⟨by simp,Sb,rfl⟩
   ·split
    ·split
     ·obtain⟨h1,h2,h3⟩:=L4 (s:=s) (T:=T) (L:=L) (V:=(fk s V ‹aS›).2) (t:=t) (draw:=draw) (x:=x) (i:=(eE s L V t draw x e).1) (e:=‹aS›)
      exact⟨h1,h2,by rw[h3,Vd]⟩
     ·exact⟨by simp,Sb,Vd⟩
    ·obtain⟨h1,h2,h3⟩:=L4 (s:=s) (T:=T) (L:=L) (V:=V) (t:=t) (draw:=draw) (x:=x) (i:=(eE s L V t draw x e).1) (e:=‹aS›)
     exact⟨h1,h2,by rw[h3]⟩
def tI (w:bo)(k:bT):Bool:=decide (k.kind=1∧k.draw=0∧0≤k.cZ)&&(match w.threads.l[k.cZ.toNat]? with | some x=>decide (x.state=1) | none=>false)
def PM (T:List ah)(L:List aE)(V:List Int):bo:={ threads:=⟨false,true,T⟩,aZ:=⟨false,true,L⟩,aB:=⟨false,true,V⟩}
def ON (e:Int)(wk:List Int):fB:={ jx:=e,jt:=Sl.gr wk}
def Dc (s:aT)(w:bo)(k:bT):Option Mc:=(w.threads.l[k.cZ.toNat]?).bind fun x=>(gI s x).map fun e=>jn s w.threads.l w.aZ.l w.aB.l k.cZ k.draw x e
def uJ (s:aT)(w:bo)(k:bT):bo×fB×Int:=
 if n7 s w=false then({},{},2)
 else if s5 s w k=true then(match Dc s w k with
  | some m=>(PM m.T m.L m.V,ON m.e m.wk,0)
  | none=>({},{},0))
 else if tI w k=true then(PM (gY w.threads.l k.cZ) w.aZ.l w.aB.l,ON (-1) [k.cZ],0)
 else if k={ kind:=2} then(PM (w.threads.l.map jo) w.aZ.l w.aB.l,ON (-1) (iy 0 w.threads.l),0)
 else({},{},150)
theorem aa6 {s:aT}(hs:hG s)(w:bo)(k:bT):T (fun n _=>tJ n s w k) (·=uJ s w k):=by
 simp only[tJ]
 unfold uJ
 refine T.bind (aan hs w) fun c hc=>?_
 by_cases n4:n7 s w=true
 case neg=>
  rw[if_neg n4]at hc
  rw[if_pos (by simpa using n4)]
  exact T.pos (by rw[hc];decide) (T.ret rfl)
 rw[if_pos n4]at hc
 rw[if_neg (by simp[n4])]
 have hw:=XM n4
 have aqo:=hs.ga.1
 have il:=Dh hs.ga
 have e1:=hw.lk
 have e2:=hw.vl
 have e3:=hw.th
 refine T.neg (by rw[hc];decide) (T.bind (P:=fun _=>True) ?_ fun _ _=>?_)
 ·simp only[On]
  exact T.pos (Gk (by omega) (by omega)) (T.pos (Gk (by omega) (by omega)) (T.pos (Gk (by omega) (by omega)) (T.pos (by simp) (T.pos trivial (T.pos (by simp) (T.pos trivial (T.pos (by simp) (T.pos trivial (T.ret trivial)))))))))
 refine T.bind (P:=(·= .m (s5 s w k))) ?_ fun o ho=>?_
 ·simp only[Oj]
  unfold s5
  refine T.ite (fun g=>T.bind (aae hs hw k.cZ) fun y hy=>?_) fun g=>T.ret (by rw[decide_eq_false g];rfl)
  subst hy
  rw[decide_eq_true g,Bool.true_and]
  refine T.cond (fun g2=>?_) fun g2=>T.ret (by rw[g2];rfl)
  rw[g2,Bool.true_and]
  obtain⟨h0,x,e,hx,he,bz⟩:=Ld g2
  refine T.ite (fun g3=>T.bind (aas hs hw h0 hx) fun y hy=>?_) fun g3=>T.ret (by rw[decide_eq_false (by omega)];rfl)
  subst hy
  rw[decide_eq_true (show 0≤k.draw from g3),Bool.true_and,hx]
  exact T.ite (fun g4=>T.ret (by simp only[decide_eq_true g4])) fun g4=>T.ret (by simp only[decide_eq_false g4])
 subst ho
 refine T.cond (fun g=>?_) fun g=>?_
 ·have g:s5 s w k=true:=g
  rw[if_pos g]
  simp only[s5,Bool.and_eq_true,decide_eq_true_eq]at g
  obtain⟨⟨⟨g1,g2⟩,g3⟩,g4⟩:=g
  obtain⟨h0,x,e,hx,he,bz⟩:=Ld g2
  rw[hx]at g4
  have g4:k.draw<nH s w.threads.l x:=of_decide_eq_true g4
  have qP:Dc s w k=some (jn s w.threads.l w.aZ.l w.aB.l k.cZ k.draw x e):=by simp only[Dc,hx,Option.bind_some,he,Option.map_some]
  rw[qP]
  obtain⟨l1,l2,l3⟩:=U0 (s:=s) (T:=w.threads.l) (L:=w.aZ.l) (V:=w.aB.l) (t:=k.cZ) (draw:=k.draw) (x:=x) (e:=e)
  refine T.bind (afW hs hw h0 hx he bz g3 g4) fun y hy=>?_
  subst hy
  exact T.pos l1.symm (T.pos l2.symm (T.pos l3.symm (T.ret rfl)))
 ·have g:s5 s w k=false:=g
  rw[if_neg (by simp[g])]
  refine T.bind (P:=(·= .m (tI w k))) ?_ fun o ho=>?_
  ·simp only[Ok]
   unfold tI
   refine T.ite (fun g1=>T.ite (fun g2=>T.ite (fun g3=>T.ite (fun g4=>T.get ⟨g3,g4⟩ fun x hx=>?_) fun g4=>T.ret ?_) fun g3=>T.ret ?_) fun g2=>T.ret ?_) fun g1=>T.ret ?_
   ·rw[decide_eq_true ⟨g1,g2,g3⟩,hx]
    exact T.ite (fun g4=>T.ret (by simp only[decide_eq_true g4];rfl)) fun g4=>T.ret (by simp only[decide_eq_false g4];rfl)
   ·rw[List.getElem?_eq_none (by omega),Bool.and_false]
   ·rw[decide_eq_false (fun h=>g3 h.2.2)];rfl
   ·rw[decide_eq_false (fun h=>g2 h.2.1)];rfl
   ·rw[decide_eq_false (fun h=>g1 h.1)];rfl
  subst ho
  refine T.cond (fun g2=>?_) fun g2=>?_
  ·have g2:tI w k=true:=g2
   rw[if_pos g2]
   simp only[tI,Bool.and_eq_true,decide_eq_true_eq]at g2
   obtain⟨⟨k1,k2,k3⟩,g3⟩:=g2
   cases hx:w.threads.l[k.cZ.toNat]? with
   | none=>rw[hx]at g3;cases g3
   | some x=>
    refine T.bind (apH k3 hx (by simp)) fun y hy=>?_
    subst hy
    exact T.pos (by simp only[Eg]) (T.ret rfl)
  ·have g2:tI w k=false:=g2
   rw[if_neg (by simp[g2])]
   refine T.ite (fun g3=>?_) fun g3=>T.ret (if_neg g3).symm
   rw[if_pos g3]
   refine T.bind (aih (by omega) fun x hx=>?_) fun y hy=>?_
   ·obtain⟨_,_,_,_,h1,h2,_⟩:=CA (hw.ts x hx)
    exact⟨h1,h2⟩
   ·subst hy
    exact T.pos (by simp) (T.ret rfl)
end Go.Vig
namespace Go.Vig
open Go Go.Abs
variable [Kn]
structure Nx (p:aj)(lo hi:Int)(new:List aS):Prop where
 fm:∀e∈new,lo≤e.from_∧e.from_<hi
 ok:∀e∈new,k6 p e
 sk:∀e∈new,∀e2∈new,e.from_=e2.from_->e.kind=e2.kind
structure Nw (p:aj)(fr lo oZ hi:Int)(new:List aS):Prop where
 fm:∀e∈new,(e.from_=fr∨lo≤e.from_)∧e.from_<hi∧e.from_≠oZ
 ok:∀e∈new,k6 p e
 sk:∀e∈new,∀e2∈new,e.from_=e2.from_->e.kind=e2.kind
theorem Nx.nil {p:aj}{lo hi:Int}:Nx p lo hi []:=⟨fun _ h=>(by cases h),fun _ h=>(by cases h),fun _ h=>(by cases h)⟩
theorem Nx.app {p:aj}{lo cj hi:Int}{a b:List aS}(h1:Nx p lo cj a)(h2:Nx p cj hi b)(hl:lo≤cj)(hh:cj≤hi):Nx p lo hi (a++b):=by
 refine⟨fun e he=>?_,fun e he=>?_,fun e he e2 fP h=>?_⟩
 ·rcases List.mem_append.1 he with g | g
  ·have:=h1.fm e g;omega
  ·have:=h2.fm e g;omega
 ·rcases List.mem_append.1 he with g | g
  ·exact h1.ok e g
  ·exact h2.ok e g
 ·rcases List.mem_append.1 he with g | g<;>rcases List.mem_append.1 fP with g2 | g2
  ·exact h1.sk e g e2 g2 h
  ·have:=h1.fm e g;have:=h2.fm e2 g2;omega
  ·have:=h2.fm e g;have:=h1.fm e2 g2;omega
  ·exact h2.sk e g e2 g2 h
theorem Nx.wide {p:aj}{lo hi lo2 hi2:Int}{a:List aS}(h:Nx p lo hi a)(hl:lo2≤lo)(hh:hi≤hi2):Nx p lo2 hi2 a:=
 ⟨fun e he=>by have:=h.fm e he;omega,h.ok,h.sk⟩
theorem Nx.sub {p:aj}{lo hi:Int}{a b:List aS}(h:Nx p lo hi a)(hs:∀e∈b,e∈a):Nx p lo hi b:=
 ⟨fun e he=>h.fm e (hs e he),fun e he=>h.ok e (hs e he),fun e he e2 fP=>h.sk e (hs e he) e2 (hs e2 fP)⟩
theorem Nw.nil {p:aj}{fr lo hi:Int}:Nw p fr lo fr hi []:=⟨fun _ h=>(by cases h),fun _ h=>(by cases h),fun _ h=>(by cases h)⟩
theorem Nw.one {p:aj}{fr lo:Int}{e:aS}(hf:e.from_=fr)(hl:fr<lo)(ho:k6 p e):Nw p fr lo lo (lo+1) [e]:=by
 refine⟨fun x hx=>?_,fun x hx=>?_,fun x hx y hy _=>?_⟩
 ·rw[List.mem_singleton]at hx;subst hx;exact⟨.inl hf,by omega,by omega⟩
 ·rw[List.mem_singleton]at hx;subst hx;exact ho
 ·rw[List.mem_singleton]at hx hy;rw[hx,hy]
theorem Nw.trans {p:aj}{fr lo m cj oZ hi:Int}{a b:List aS}(h1:Nw p fr lo m cj a)(h2:Nw p m cj oZ hi b)(hm:m=fr∨lo≤m)(B1:m<cj)(hl:lo≤cj)(Mj:fr<lo)(hh:cj≤hi)(qF:oZ=m∨cj≤oZ):Nw p fr lo oZ hi (a++b):=by
 refine⟨fun e he=>?_,fun e he=>?_,fun e he e2 fP h=>?_⟩
 ·rcases List.mem_append.1 he with g | g
  ·obtain⟨x1,x2,x3⟩:=h1.fm e g
   exact⟨x1,by omega,by omega⟩
  ·obtain⟨x1,x2,x3⟩:=h2.fm e g
   exact⟨by omega,x2,x3⟩
 ·rcases List.mem_append.1 he with g | g
  ·exact h1.ok e g
  ·exact h2.ok e g
 ·rcases List.mem_append.1 he with g | g<;>rcases List.mem_append.1 fP with g2 | g2
  ·exact h1.sk e g e2 g2 h
  ·have:=h1.fm e g;have:=h2.fm e2 g2;omega
  ·have:=h2.fm e g;have:=h1.fm e2 g2;omega
  ·exact h2.sk e g e2 g2 h
theorem Nw.close {p:aj}{b lo c hi:Int}{n:List aS}{e:aS}(h:Nw p b lo c hi n)(hb:b<lo)(hc:c=b∨lo≤c)(Fz:c<hi)(he:e.from_=c)(ho:k6 p e):Nx p b hi (n++[e]):=by
 refine⟨fun x hx=>?_,fun x hx=>?_,fun x hx y hy MQ=>?_⟩
 ·rcases List.mem_append.1 hx with g | g
  ·have:=h.fm x g;omega
  ·rw[List.mem_singleton]at g;subst g;omega
 ·rcases List.mem_append.1 hx with g | g
  ·exact h.ok x g
  ·rw[List.mem_singleton]at g;subst g;exact ho
 ·rcases List.mem_append.1 hx with g | g<;>rcases List.mem_append.1 hy with g2 | g2
  ·exact h.sk x g y g2 MQ
  ·rw[List.mem_singleton]at g2;subst g2;have:=h.fm x g;omega
  ·rw[List.mem_singleton]at g;subst g;have:=h.fm y g2;omega
  ·rw[List.mem_singleton]at g g2;rw[g,g2]
theorem Nw.of {p:aj}{fr lo hi oZ hi2 k:Int}{A Y new:List aS}(hA:∀e∈A,e.from_=fr∧e.kind=k∧k6 p e)(hY:Nx p lo hi Y)(hm:∀e∈new,e∈A∨e∈Y)(Mj:fr<lo)(hlh:lo≤hi2)(hh:hi≤hi2)(h2:∀e∈Y,e.from_≠oZ)(qF:lo≤oZ):Nw p fr lo oZ hi2 new:=by
 refine⟨fun e he=>?_,fun e he=>?_,fun e he e2 fP h=>?_⟩
 ·rcases hm e he with g | g
  ·have:=(hA e g).1;omega
  ·have:=hY.fm e g;exact⟨.inr (by omega),by omega,h2 e g⟩
 ·rcases hm e he with g | g
  ·exact(hA e g).2.2
  ·exact hY.ok e g
 ·rcases hm e he with g | g<;>rcases hm e2 fP with g2 | g2
  ·rw[(hA e g).2.1,(hA e2 g2).2.1]
  ·have:=(hA e g).1;have:=hY.fm e2 g2;omega
  ·have:=(hA e2 g2).1;have:=hY.fm e g;omega
  ·exact hY.sk e g e2 g2 h
def Lo (p:aj)(f:LF):Prop:=∀(near:dS) (r:LR),r.fr<r.st.ar->∃new,(f near r).st.aU=r.st.aU++new∧r.st.ar≤(f near r).st.ar∧((f near r).fr=r.fr∨r.st.ar≤(f near r).fr)∧(f near r).fr<(f near r).st.ar∧Nw p r.fr r.st.ar (f near r).fr (f near r).st.ar new
theorem QY {p:aj}{α:Type}{f:α->LF}:∀{l:List α},(∀a∈l,Lo p (f a))->∀(near:dS) (r:LR),r.fr<r.st.ar->∃new,((l.map f).foldl (fun r f=>f near r) r).st.aU=r.st.aU++new∧r.st.ar≤((l.map f).foldl (fun r f=>f near r) r).st.ar∧(((l.map f).foldl (fun r f=>f near r) r).fr=r.fr∨r.st.ar≤((l.map f).foldl (fun r f=>f near r) r).fr)∧((l.map f).foldl (fun r f=>f near r) r).fr<((l.map f).foldl (fun r f=>f near r) r).st.ar∧Nw p r.fr r.st.ar ((l.map f).foldl (fun r f=>f near r) r).fr ((l.map f).foldl (fun r f=>f near r) r).st.ar new
 | [],_,near,r,h=>⟨[],by simp,Int.le_refl _,.inl rfl,h,Nw.nil⟩
 | a::l,hf,near,r,h=>by
  obtain⟨n1,a1,a2,a3,a4,a5⟩:=hf a List.mem_cons_self near r h
  obtain⟨n2,b1,b2,b3,b4,b5⟩:=QY (l:=l) (fun b hb=>hf b (List.mem_cons_of_mem _ hb)) near (f a near r) a4
  simp only[List.map_cons,List.foldl_cons]
  exact⟨n1++n2,by rw[b1,a1,List.append_assoc],by omega,by omega,b4,a5.trans b5 a3 a4 a2 h b2 b3⟩
theorem Ni {p:aj}{l:List af}(h:∀s∈l,Lo p (cg p s))(near:dS){fr:Int}{st:bY}(hf:fr<st.ar):∃new,(eJ p l near fr st).st.aU=st.aU++new∧st.ar≤(eJ p l near fr st).st.ar∧((eJ p l near fr st).fr=fr∨st.ar≤(eJ p l near fr st).fr)∧(eJ p l near fr st).fr<(eJ p l near fr st).st.ar∧Nw p fr st.ar (eJ p l near fr st).fr (eJ p l near fr st).st.ar new:=
 QY h near ⟨fr,0,st⟩ hf
theorem lQ:bE ({}:au)=true:=by rw[EN];rfl
theorem QS {e:au}(h:bE e=true):bE (eP e)=true:=by rw[EN,eP];simp[h];decide
theorem ng {p:aj}{e:aS}(hk:e.kind=1∨e.kind=2∨e.kind=9)(he:bE e.e_=true):k6 p e:=⟨fun h=>by omega,fun h=>by omega,he⟩
def s7 (p:aj)(s:ByteArray):Bool:=(ir p s).isSome
theorem adP {p:aj}{s:ByteArray}(h:s7 p s=true):0≤(dy p s).1∧(dy p s).1<(p.aw.l.length:Int):=by
 unfold s7 at h
 unfold dy
 cases hi:ir p s with
 | none=>rw[hi]at h;cases h
 | some i=>have:=TQ hi;simp only;omega
def sZ (p:aj)(s:af):Bool:=(if s.kind=2 then(fU p s.mon s.name).isSome else if s.kind=7∨s.kind=9∨s.kind=10∨s.kind=11 then s7 p s.mon else true)&&bE s.e_
def q8 (p:aj):af->Bool:=af.fold fun s bs=>sZ p s&&bs.all fun b=>b.all id
theorem Tu (p:aj)(s:af):q8 p s=(sZ p s&&s.blocks.l.all fun b=>b.l.all (q8 p)):=by
 rw[q8,af.fold_eq,List.all_map]
 congr 2
 funext b
 simp only[Function.comp,List.all_map]
 rfl
theorem Tv {p:aj}{s:af}(h:q8 p s=true):sZ p s=true∧∀b∈s.blocks.l,∀t∈b.l,q8 p t=true:=by
 rw[Tu]at h
 simp only[Bool.and_eq_true,List.all_eq_true]at h
 exact h
theorem Re {p:aj}{a at_:Int}:∀{bs:List (Sl af)},(∀b∈bs,∀s∈b.l,Lo p (cg p s))->∀{i:Int}{ends:List Int}{st:bY},∃(A Y new:List aS) (ce:List Int),(jc a at_ (bs.map fun b=>b.l.map (cg p)) i ends st).2.aU=st.aU++new∧st.ar≤(jc a at_ (bs.map fun b=>b.l.map (cg p)) i ends st).2.ar∧(jc a at_ (bs.map fun b=>b.l.map (cg p)) i ends st).1=ends++ce∧(∀e∈new,e∈A∨e∈Y)∧(∀e∈A,e.from_=a∧e.kind=9∧k6 p e)∧
  ∀d:Int,Nx p st.ar (jc a at_ (bs.map fun b=>b.l.map (cg p)) i ends st).2.ar (Y++ce.map fun x=>({ from_:=x,a8:=d,kind:=1,at_:=at_}:aS))
 | [],_,i,ends,st=>⟨[],[],[],[],by simp[jc],Int.le_refl _,by simp[jc],by simp,by simp,fun d=>Nx.nil⟩
 | b::bs,hf,i,ends,st=>by
  simp only[List.map_cons,Ll]
  obtain⟨n1,a1,a2,a3,a4,a5⟩:=Ni (p:=p) (hf b List.mem_cons_self) {} (fr:=st.ar) (st:=st.bL fun x=>{ from_:=a,a8:=x,kind:=9,n_:=i,at_:=at_}) (by show st.ar<st.ar+1;omega)
  have hd:ju (b.l.map (cg p)) {} st.ar (st.bL fun x=>{ from_:=a,a8:=x,kind:=9,n_:=i,at_:=at_})=eJ p b.l {} st.ar (st.bL fun x=>{ from_:=a,a8:=x,kind:=9,n_:=i,at_:=at_}):=rfl
  rw[hd]
  generalize hc:eJ p b.l {} st.ar (st.bL fun x=>{ from_:=a,a8:=x,kind:=9,n_:=i,at_:=at_})=c at *
  obtain⟨A,Y,new,ce,c1,c2,c3,c4,c5,c6⟩:=Re (p:=p) (a:=a) (at_:=at_) (bs:=bs) (fun x hx=>hf x (List.mem_cons_of_mem _ hx)) (i:=i+1) (ends:=ends++[c.fr]) (st:=c.st)
  have a1:c.st.aU=st.aU++[{ from_:=a,a8:=st.ar,kind:=9,n_:=i,at_:=at_}]++n1:=a1
  have a2:st.ar+1≤c.st.ar:=a2
  have a3:c.fr=st.ar∨st.ar+1≤c.fr:=a3
  have a5:Nw p st.ar (st.ar+1) c.fr c.st.ar n1:=a5
  refine⟨{ from_:=a,a8:=st.ar,kind:=9,n_:=i,at_:=at_}::A,n1++Y,{ from_:=a,a8:=st.ar,kind:=9,n_:=i,at_:=at_}::(n1++new),c.fr::ce,?_,by omega,?_,?_,?_,fun d=>?_⟩
  ·rw[c1,a1];simp
  ·rw[c3];simp
  ·intro e he
   rcases List.mem_cons.1 he with rfl | he
   ·exact .inl List.mem_cons_self
   ·rcases List.mem_append.1 he with he | he
    ·exact .inr (List.mem_append.2 (.inl he))
    ·exact(c4 e he).elim (fun g=>.inl (List.mem_cons_of_mem _ g)) fun g=>.inr (List.mem_append.2 (.inr g))
  ·intro e he
   rcases List.mem_cons.1 he with rfl | he
   ·exact⟨rfl,rfl,ng (.inr (.inr rfl)) lQ⟩
   ·exact c5 e he
  ·have h1:=a5.close (e:={ from_:=c.fr,a8:=d,kind:=1,at_:=at_}) (by omega) a3 a4 rfl (ng (.inl rfl) lQ)
   refine(h1.app (c6 d) (by omega) c2).sub fun e he=>?_
   rcases List.mem_append.1 he with he | he
   ·rcases List.mem_append.1 he with he | he
    ·exact List.mem_append.2 (.inl (List.mem_append.2 (.inl he)))
    ·exact List.mem_append.2 (.inr (List.mem_append.2 (.inl he)))
   ·rw[List.map_cons]at he
    rcases List.mem_cons.1 he with rfl | he
    ·exact List.mem_append.2 (.inl (List.mem_append.2 (.inr (List.mem_singleton.2 rfl))))
    ·exact List.mem_append.2 (.inr (List.mem_append.2 (.inr he)))
theorem RJ {d at_:Int}:∀{ends:List Int}{st:bY},(j8 d at_ ends st).aU=st.aU++ends.map fun x=>({ from_:=x,a8:=d,kind:=1,at_:=at_}:aS)
 | [],st=>by simp[j8]
 | x::ends,st=>by
  have:=RJ (d:=d) (at_:=at_) (ends:=ends) (st:=st.ed { from_:=x,a8:=d,kind:=1,at_:=at_})
  show(j8 d at_ ends (st.ed { from_:=x,a8:=d,kind:=1,at_:=at_})).aU=_
  rw[this]
  show(st.aU++[_])++_=_
  simp
end Go.Vig
namespace Go.Vig
open Go Go.Abs
variable [Kn]
theorem PL {p:aj}{r:LR}{last:Int}{st:bY}{e:Int->aS}(bz:st.ar=r.st.ar)(ML:st.aU=r.st.aU)(h:r.fr<r.st.ar)(hf:(e st.ar).from_=r.fr)(ho:k6 p (e st.ar)):∃new,(⟨st.ar,last,st.bL e⟩:LR).st.aU=r.st.aU++new∧r.st.ar≤(⟨st.ar,last,st.bL e⟩:LR).st.ar∧((⟨st.ar,last,st.bL e⟩:LR).fr=r.fr∨r.st.ar≤(⟨st.ar,last,st.bL e⟩:LR).fr)∧(⟨st.ar,last,st.bL e⟩:LR).fr<(⟨st.ar,last,st.bL e⟩:LR).st.ar∧Nw p r.fr r.st.ar (⟨st.ar,last,st.bL e⟩:LR).fr (⟨st.ar,last,st.bL e⟩:LR).st.ar new:=by
 refine⟨[e st.ar],by show st.aU++_=_;rw[ML],by show r.st.ar≤st.ar+1;omega,.inr (by show r.st.ar≤st.ar;omega),by show st.ar<st.ar+1;omega,?_⟩
 show Nw p r.fr r.st.ar st.ar (st.ar+1) _
 rw[bz]at ho hf ⊢
 exact Nw.one hf h ho
theorem AW {p:aj}{s:af}{i:Nat}{b:Sl af}(hb:s.blocks.l[i]? =some b)(ih:∀b∈s.blocks.l,∀t∈b.l,Lo p (cg p t)){near:dS}{fr:Int}{st:bY}(hf:fr<st.ar):∃(c:LR) (new:List aS),ju (b0 (s.blocks.l.map fun b=>b.l.map (cg p)) i) near fr st=c∧c.st.aU=st.aU++new∧st.ar≤c.st.ar∧(c.fr=fr∨st.ar≤c.fr)∧c.fr<c.st.ar∧Nw p fr st.ar c.fr c.st.ar new:=by
 rw[ux hb]
 obtain⟨new,h⟩:=Ni (p:=p) (ih b (List.mem_of_getElem? hb)) near hf
 exact⟨_,new,rfl,h⟩
theorem adF {p:aj}{s:af}(hs:ko s=true)(hk:sZ p s=true)(ih:∀b∈s.blocks.l,∀t∈b.l,Lo p (cg p t)):Lo p (cg p s):=fun near r h=>by
 obtain⟨vg,h8,_⟩:=tF hs
 simp only[sZ,Bool.and_eq_true]at hk
 obtain⟨fQ,u0⟩:=hk
 have B2:s.kind=7∨s.kind=9∨s.kind=10∨s.kind=11->0≤(dy p s.mon).1∧(dy p s.mon).1<(p.aw.l.length:Int):=fun g=>by
  rw[if_neg (by omega),if_pos g]at fQ
  exact adP fQ
 have Fy:s.kind=3∨s.kind=4∨s.kind=5∨s.kind=7->∃b,s.blocks.l[0]? =some b:=fun g=>⟨_,List.getElem?_eq_getElem (by have:=vg g;omega)⟩
 rw[Nj,oa]
 split
 ·-- wait
  rename_i g
  unfold Ed
  exact PL rfl rfl h rfl ⟨fun _=>B2 (by omega),fun h=>absurd (show(6:Int)=3 from h) (by decide),lQ⟩
 split
 ·rename_i g
  refine PL rfl rfl h (by split<;>rfl) ?_
  split
  ·exact⟨fun _=>B2 (by omega),fun h3=>by have h3:7+s.kind - 10=3:=h3;omega,lQ⟩
  ·exact ng (.inl rfl) lQ
 split
 ·-- set
  rename_i g9 g1 g
  refine PL rfl rfl h rfl ⟨fun h4=>by have h4:4≤(3:Int)∧(3:Int)≤8:=h4;omega,fun _=>?_,u0⟩
  rw[if_pos g]at fQ
  cases qR:fU p s.mon s.name with
  | none=>rw[qR]at fQ;cases fQ
  | some k=>
   obtain⟨_,_,_,v,_,_,_,_,_,_,_,hv⟩:=Df qR
   have:=(List.getElem?_eq_some_iff.1 hv).1
   simp only[eg,qR]
   omega
 split
 ·-- sync
  rename_i g9 g1 g2 g
  obtain⟨b,hb⟩:=Fy (.inr (.inr (.inr g)))
  unfold Dt
  dsimp only
  obtain⟨c,n1,c0,c1,c2,c3,c4,c5⟩:=AW hb ih (near:={}) (fr:=r.st.ar) (st:=r.st.bL fun x=>{ from_:=r.fr,a8:=x,kind:=4,mon:=(dy p s.mon).1,at_:=s.at_}) (by show r.st.ar<r.st.ar+1;omega)
  rw[c0]
  have c1:c.st.aU=r.st.aU++[{ from_:=r.fr,a8:=r.st.ar,kind:=4,mon:=(dy p s.mon).1,at_:=s.at_}]++n1:=c1
  have c2:r.st.ar+1≤c.st.ar:=c2
  have c3:c.fr=r.st.ar∨r.st.ar+1≤c.fr:=c3
  have c5:Nw p r.st.ar (r.st.ar+1) c.fr c.st.ar n1:=c5
  have hm:=B2 (.inl g)
  have hY:=c5.close (e:={ from_:=c.fr,a8:=c.st.ar,kind:=5,mon:=(dy p s.mon).1,at_:=s.at_}) (by omega) c3 c4 rfl ⟨fun _=>hm,fun h=>absurd (show(5:Int)=3 from h) (by decide),lQ⟩
  refine⟨{ from_:=r.fr,a8:=r.st.ar,kind:=4,mon:=(dy p s.mon).1,at_:=s.at_}::(n1++[{ from_:=c.fr,a8:=c.st.ar,kind:=5,mon:=(dy p s.mon).1,at_:=s.at_}]),?_,by show r.st.ar≤c.st.ar+1;omega,.inr (by show r.st.ar≤c.st.ar;omega),by show c.st.ar<c.st.ar+1;omega,?_⟩
  ·show c.st.aU++[_]=_
   rw[c1];simp
  ·show Nw p r.fr r.st.ar c.st.ar (c.st.ar+1) _
   refine Nw.of (A:=[{ from_:=r.fr,a8:=r.st.ar,kind:=4,mon:=(dy p s.mon).1,at_:=s.at_}]) (k:=4) (fun e he=>?_) hY (fun e he=>?_) h (by omega) (by omega) (fun e he=>by have:=hY.fm e he;omega) (by omega)
   ·rw[List.mem_singleton]at he;subst he;exact⟨rfl,rfl,fun _=>hm,fun h=>absurd (show(4:Int)=3 from h) (by decide),lQ⟩
   ·exact(List.mem_cons.1 he).elim (fun q=>.inl (List.mem_singleton.2 q)) .inr
 rename_i g9 g1 g2 g7
 unfold mw
 split
 ·-- if
  rename_i g
  obtain⟨b,hb⟩:=Fy (.inl g)
  unfold Cr
  dsimp only
  obtain⟨c,n1,c0,c1,c2,c3,c4,c5⟩:=AW hb ih (near:={ bW:=true,e_:=eP s.e_}) (fr:=r.st.ar) (st:=r.st.bL fun x=>{ from_:=r.fr,a8:=x,kind:=2,e_:=s.e_,at_:=s.e_.at_}) (by show r.st.ar<r.st.ar+1;omega)
  rw[c0]
  have c1:c.st.aU=r.st.aU++[{ from_:=r.fr,a8:=r.st.ar,kind:=2,e_:=s.e_,at_:=s.e_.at_}]++n1:=c1
  have c2:r.st.ar+1≤c.st.ar:=c2
  have c3:c.fr=r.st.ar∨r.st.ar+1≤c.fr:=c3
  have c5:Nw p r.st.ar (r.st.ar+1) c.fr c.st.ar n1:=c5
  have hY:=c5.close (e:={ from_:=c.fr,a8:=c.st.ar,kind:=1,out:=c.last,at_:=s.at_}) (by omega) c3 c4 rfl (ng (.inl rfl) lQ)
  have hA:∀e∈ [({ from_:=r.fr,a8:=r.st.ar,kind:=2,e_:=s.e_,at_:=s.e_.at_}:aS),{ from_:=r.fr,a8:=c.st.ar+1,kind:=2,e_:=eP s.e_,at_:=s.e_.at_}],e.from_=r.fr∧e.kind=2∧k6 p e:=fun e he=>by
   rcases List.mem_cons.1 he with rfl | he
   ·exact⟨rfl,rfl,ng (.inr (.inl rfl)) u0⟩
   ·rw[List.mem_singleton]at he;subst he
    exact⟨rfl,rfl,ng (.inr (.inl rfl)) (QS u0)⟩
  split
  ·rename_i g3
   rw[List.length_map]at g3
   obtain⟨f,n2,f0,f1,f2,f3,f4,f5⟩:=AW (i:=1) (List.getElem?_eq_getElem g3) ih (near:={ bW:=true,e_:=s.e_}) (fr:=c.st.ar+1) (st:=(c.st.bL fun d=>({ from_:=c.fr,a8:=d,kind:=1,out:=c.last,at_:=s.at_}:aS)).bL fun x=>({ from_:=r.fr,a8:=x,kind:=2,e_:=eP s.e_,at_:=s.e_.at_}:aS)) (by show c.st.ar+1<c.st.ar+1+1;omega)
   have f1:f.st.aU=c.st.aU++[{ from_:=c.fr,a8:=c.st.ar,kind:=1,out:=c.last,at_:=s.at_}]++[{ from_:=r.fr,a8:=c.st.ar+1,kind:=2,e_:=eP s.e_,at_:=s.e_.at_}]++n2:=f1
   have f2:c.st.ar+1+1≤f.st.ar:=f2
   have f3:f.fr=c.st.ar+1∨c.st.ar+1+1≤f.fr:=f3
   have f5:Nw p (c.st.ar+1) (c.st.ar+1+1) f.fr f.st.ar n2:=f5
   have f0:ju (b0 (s.blocks.l.map fun b=>b.l.map (cg p)) 1) { bW:=true,e_:=s.e_} (c.st.bL fun d=>({ from_:=c.fr,a8:=d,kind:=1,out:=c.last,at_:=s.at_}:aS)).ar ((c.st.bL fun d=>({ from_:=c.fr,a8:=d,kind:=1,out:=c.last,at_:=s.at_}:aS)).bL fun x=>({ from_:=r.fr,a8:=x,kind:=2,e_:=eP s.e_,at_:=s.e_.at_}:aS))=f:=f0
   rw[f0]
   have By:=f5.close (e:={ from_:=f.fr,a8:=c.st.ar,kind:=1,out:=f.last,at_:=s.at_}) (by omega) f3 f4 rfl (ng (.inl rfl) lQ)
   have L9:=(hY.wide (lo2:=r.st.ar) (hi2:=c.st.ar+1) (by omega) (by omega)).app By (by omega) (by omega)
   refine⟨[{ from_:=r.fr,a8:=r.st.ar,kind:=2,e_:=s.e_,at_:=s.e_.at_}]++n1++[{ from_:=c.fr,a8:=c.st.ar,kind:=1,out:=c.last,at_:=s.at_}]++[{ from_:=r.fr,a8:=c.st.ar+1,kind:=2,e_:=eP s.e_,at_:=s.e_.at_}]++n2++[{ from_:=f.fr,a8:=c.st.ar,kind:=1,out:=f.last,at_:=s.at_}],?_,by show r.st.ar≤f.st.ar;omega,.inr (by show r.st.ar≤c.st.ar;omega),by show c.st.ar<f.st.ar;omega,?_⟩
   ·show f.st.aU++[_]=_
    rw[f1,c1];simp
   ·show Nw p r.fr r.st.ar c.st.ar f.st.ar _
    refine Nw.of hA L9 (fun e he=>?_) h (by omega) (by omega) (fun e he=>?_) (by omega)
    ·simp only[List.mem_append,List.mem_cons,List.mem_singleton,List.not_mem_nil,or_false]at he ⊢
     rcases he with ((((he | he) | he) | he) | he) | he
     ·exact .inl (.inl he)
     ·exact .inr (.inl (.inl he))
     ·exact .inr (.inl (.inr he))
     ·exact .inl (.inr he)
     ·exact .inr (.inr (.inl he))
     ·exact .inr (.inr (.inr he))
    ·rcases List.mem_append.1 he with he | he
     ·have:=hY.fm e he;omega
     ·have:=By.fm e he;omega
  ·refine⟨[{ from_:=r.fr,a8:=r.st.ar,kind:=2,e_:=s.e_,at_:=s.e_.at_}]++n1++[{ from_:=c.fr,a8:=c.st.ar,kind:=1,out:=c.last,at_:=s.at_}]++[{ from_:=r.fr,a8:=c.st.ar+1,kind:=2,e_:=eP s.e_,at_:=s.e_.at_}]++[{ from_:=c.st.ar+1,a8:=c.st.ar,kind:=1,at_:=s.at_}],?_,by show r.st.ar≤c.st.ar+1+1;omega,.inr (by show r.st.ar≤c.st.ar;omega),by show c.st.ar<c.st.ar+1+1;omega,?_⟩
   ·show(c.st.aU++[_])++[_]++[_]=_
    rw[c1];simp;rfl
   ·show Nw p r.fr r.st.ar c.st.ar (c.st.ar+1+1) _
    have By:Nx p (c.st.ar+1) (c.st.ar+1+1) [({ from_:=c.st.ar+1,a8:=c.st.ar,kind:=1,at_:=s.at_}:aS)]:=⟨fun e he=>by rw[List.mem_singleton]at he;subst he;exact⟨by show _≤c.st.ar+1;omega,by show c.st.ar+1<_;omega⟩,fun e he=>by rw[List.mem_singleton]at he;subst he;exact ng (.inl rfl) lQ,fun e he e2 fP _=>by rw[List.mem_singleton]at he fP;rw[he,fP]⟩
    have L9:=(hY.wide (lo2:=r.st.ar) (hi2:=c.st.ar+1) (by omega) (by omega)).app By (by omega) (by omega)
    refine Nw.of hA L9 (fun e he=>?_) h (by omega) (by omega) (fun e he=>?_) (by omega)
    ·simp only[List.mem_append,List.mem_cons,List.mem_singleton,List.not_mem_nil,or_false]at he ⊢
     rcases he with (((he | he) | he) | he) | he
     ·exact .inl (.inl he)
     ·exact .inr (.inl (.inl he))
     ·exact .inr (.inl (.inr he))
     ·exact .inl (.inr he)
     ·exact .inr (.inr he)
    ·rcases List.mem_append.1 he with he | he
     ·have:=hY.fm e he;omega
     ·have:=By.fm e he;omega
 split
 ·-- while
  rename_i g3 g
  obtain⟨b,hb⟩:=Fy (.inr (.inl g))
  unfold Ei
  dsimp only
  obtain⟨c,n1,c0,c1,c2,c3,c4,c5⟩:=AW hb ih (near:={ bW:=true,e_:=eP s.e_,loop:=true}) (fr:=r.st.ar) (st:=r.st.bL fun x=>{ from_:=r.fr,a8:=x,kind:=2,e_:=s.e_,at_:=s.e_.at_}) (by show r.st.ar<r.st.ar+1;omega)
  rw[c0]
  have c1:c.st.aU=r.st.aU++[{ from_:=r.fr,a8:=r.st.ar,kind:=2,e_:=s.e_,at_:=s.e_.at_}]++n1:=c1
  have c2:r.st.ar+1≤c.st.ar:=c2
  have c3:c.fr=r.st.ar∨r.st.ar+1≤c.fr:=c3
  have c5:Nw p r.st.ar (r.st.ar+1) c.fr c.st.ar n1:=c5
  have hY:=c5.close (e:={ from_:=c.fr,a8:=r.fr,kind:=1,at_:=s.at_}) (by omega) c3 c4 rfl (ng (.inl rfl) lQ)
  refine⟨[{ from_:=r.fr,a8:=r.st.ar,kind:=2,e_:=s.e_,at_:=s.e_.at_}]++n1++[{ from_:=c.fr,a8:=r.fr,kind:=1,at_:=s.at_}]++[{ from_:=r.fr,a8:=c.st.ar,kind:=2,e_:=eP s.e_,out:=c.last,at_:=s.e_.at_}],?_,by show r.st.ar≤c.st.ar+1;omega,.inr (by show r.st.ar≤c.st.ar;omega),by show c.st.ar<c.st.ar+1;omega,?_⟩
  ·show(c.st.aU++[_])++[_]=_
   rw[c1];simp;rfl
  ·show Nw p r.fr r.st.ar c.st.ar (c.st.ar+1) _
   refine Nw.of (A:=[({ from_:=r.fr,a8:=r.st.ar,kind:=2,e_:=s.e_,at_:=s.e_.at_}:aS),{ from_:=r.fr,a8:=c.st.ar,kind:=2,e_:=eP s.e_,out:=c.last,at_:=s.e_.at_}]) (k:=2) (fun e he=>?_) hY (fun e he=>?_) h (by omega) (by omega) (fun e he=>by have:=hY.fm e he;omega) (by omega)
   ·rcases List.mem_cons.1 he with rfl | he
    ·exact⟨rfl,rfl,ng (.inr (.inl rfl)) u0⟩
    ·rw[List.mem_singleton]at he;subst he
     exact⟨rfl,rfl,ng (.inr (.inl rfl)) (QS u0)⟩
   ·simp only[List.mem_append,List.mem_cons,List.mem_singleton,List.not_mem_nil,or_false]at he ⊢
    rcases he with ((he | he) | he) | he
    ·exact .inl (.inl he)
    ·exact .inr (.inl he)
    ·exact .inr (.inr he)
    ·exact .inl (.inr he)
 split
 ·-- loop
  rename_i g3 g4 g
  obtain⟨b,hb⟩:=Fy (.inr (.inr (.inl g)))
  unfold CJ
  dsimp only
  obtain⟨c,n1,c0,c1,c2,c3,c4,c5⟩:=AW hb ih (near:={}) (fr:=r.fr) (st:=r.st) h
  rw[c0]
  refine⟨n1++[{ from_:=c.fr,a8:=r.fr,kind:=1,at_:=s.at_}],?_,by show r.st.ar≤c.st.ar+1;omega,.inr (by show r.st.ar≤c.st.ar;omega),by show c.st.ar<c.st.ar+1;omega,?_⟩
  ·show c.st.aU++[_]=_
   rw[c1];simp
  ·show Nw p r.fr r.st.ar c.st.ar (c.st.ar+1) _
   refine⟨fun e he=>?_,fun e he=>?_,fun e he e2 fP hh=>?_⟩
   ·rcases List.mem_append.1 he with q | q
    ·obtain⟨x1,x2,x3⟩:=c5.fm e q;exact⟨x1,by omega,by omega⟩
    ·rw[List.mem_singleton]at q;subst q
     exact⟨by show c.fr=_∨_≤c.fr;omega,by show c.fr<_;omega,by show c.fr≠_;omega⟩
   ·rcases List.mem_append.1 he with q | q
    ·exact c5.ok e q
    ·rw[List.mem_singleton]at q;subst q;exact ng (.inl rfl) lQ
   ·rcases List.mem_append.1 he with q | q<;>rcases List.mem_append.1 fP with q2 | q2
    ·exact c5.sk e q e2 q2 hh
    ·rw[List.mem_singleton]at q2;subst q2
     have:=(c5.fm e q).2.2
     exact absurd hh this
    ·rw[List.mem_singleton]at q;subst q
     have:=(c5.fm e2 q2).2.2
     exact absurd hh.symm this
    ·rw[List.mem_singleton]at q q2;rw[q,q2]
 ·-- choose
  unfold A9
  obtain⟨A,Y,new,ce,c1,c2,c3,c4,c5,c6⟩:=Re (p:=p) (a:=r.fr) (at_:=s.at_) (bs:=s.blocks.l) ih (i:=0) (ends:=[]) (st:=r.st)
  generalize hq:jc r.fr s.at_ (s.blocks.l.map fun b=>b.l.map (cg p)) 0 [] r.st=q at *
  simp only
  have c3:q.1=ce:=by rw[c3];rfl
  have hL:=LM (x:=q.2.ar) (at_:=s.at_) (ends:=q.1) (st:=q.2.pl)
  have hE:=RJ (d:=q.2.ar) (at_:=s.at_) (ends:=q.1) (st:=q.2.pl)
  have hl:(j8 q.2.ar s.at_ q.1 q.2.pl).ar=q.2.ar+1:=hL.1
  refine⟨new++ce.map fun x=>({ from_:=x,a8:=q.2.ar,kind:=1,at_:=s.at_}:aS),?_,by show r.st.ar≤(j8 q.2.ar s.at_ q.1 q.2.pl).ar;omega,.inr c2,by show q.2.ar<(j8 q.2.ar s.at_ q.1 q.2.pl).ar;omega,?_⟩
  ·show(j8 q.2.ar s.at_ q.1 q.2.pl).aU=_
   rw[hE,c3]
   show q.2.aU++_=_
   rw[c1,List.append_assoc]
  ·show Nw p r.fr r.st.ar q.2.ar (j8 q.2.ar s.at_ q.1 q.2.pl).ar _
   rw[hl]
   refine Nw.of c5 (c6 q.2.ar) (fun e he=>?_) h (by omega) (by omega) (fun e he=>by have:=(c6 q.2.ar).fm e he;omega) c2
   rcases List.mem_append.1 he with g | g
   ·exact(c4 e g).elim .inl fun g=>.inr (List.mem_append.2 (.inl g))
   ·exact .inr (List.mem_append.2 (.inr g))
theorem adE {p:aj}:∀s:af,ko s=true->q8 p s=true->Lo p (cg p s):=af.eZ fun s ih hs hk=>
 adF hs (Tv hk).1 fun b hb t ht=>ih b hb t ht ((tF hs).2.2 b hb |>.2 t ht) ((Tv hk).2 b hb t ht)
end Go.Vig
namespace Go.Vig
open Go Go.Abs
variable [Kn]
theorem adV {p:aj}{s:ByteArray}(h:(dy p s).2=true):s7 p s=true:=by
 unfold dy at h
 unfold s7
 cases hi:ir p s with
 | none=>rw[hi]at h;cases h
 | some i=>rfl
theorem ada {p:aj}{s:af}(h:mg p s=true)(hb:bE s.e_=true):(s.kind≠8->sZ p s=true)∧(s.kind=8->s7 p s.mon=true):=by
 unfold mg at h
 refine⟨fun g8=>?_,fun g8=>?_⟩
 ·unfold sZ
  rw[hb,Bool.and_true]
  by_cases g2:s.kind=2
  ·rw[if_pos g2]at h ⊢
   unfold eg at h
   cases hs:fU p s.mon s.name with
   | none=>rw[hs]at h;cases h
   | some k=>rfl
  ·rw[if_neg g2]at h ⊢
   rw[if_neg g8]at h
   by_cases g:s.kind=7∨s.kind=9∨s.kind=10∨s.kind=11
   ·rw[if_pos g]at h ⊢
    exact adV h
   ·rw[if_neg g]
 ·rw[if_neg (by omega),if_pos g8]at h
  unfold nc at h
  cases hm:ji p s.mon s.name with
  | none=>rw[hm]at h;cases h
  | some me=>
   simp only[ji,Option.bind_eq_some_iff]at hm
   obtain⟨m,⟨i,h1,h2⟩,h3⟩:=hm
   unfold s7
   rw[h1];rfl
theorem ae6 {p:aj}{rec:a7->List af}(hr:∀r,∀t∈rec r,q8 p t=true):∀s:af,bS s=true->(mD p s).1=0->q8 p (cW rec s)=true:=af.eZ fun s ih hb hn=>by
 obtain⟨h1,_,h3⟩:=F9 hn
 obtain⟨_,u0,BG⟩:=iF hb
 obtain⟨k1,k2⟩:=ada h1 u0
 rw[yV,tu,Tu]
 by_cases g:s.kind=8
 ·rw[if_pos g]
  simp only[List.all_cons,List.all_nil,Bool.and_true,Bool.and_eq_true,List.all_eq_true]
  refine⟨?_,hr _⟩
  unfold sZ
  rw[if_neg (show¬(7:Int)=2 by decide),if_pos (.inl rfl)]
  show(s7 p s.mon&&bE ({}:au))=true
  rw[k2 g,lQ];rfl
 ·rw[if_neg g]
  simp only[Sl.gr,Bool.and_eq_true,List.all_eq_true]
  refine⟨k1 g,fun b x9 t ht=>?_⟩
  obtain⟨b',dt,rfl⟩:=List.mem_map.1 x9
  obtain⟨c,hc,rfl⟩:=List.mem_map.1 dt
  obtain⟨u,hu,rfl⟩:=List.mem_map.1 ht
  exact ih c hc u hu ((fY (BG c hc)).2 u hu) (F8 (h3 c hc) u hu)
theorem ZT {p:aj}(h:∀m∈p.aw.l,∀me∈m.methods.l,(cU p me.body.l).1=0)(r:a7):(cU p (eV p r).l).1=0:=by
 rcases ER (p:=p) r with h0 | ⟨m,h1,me,h2,hb⟩
 ·rw[h0];rfl
 ·rw[hb];exact h m h1 me h2
theorem Uy {p:aj}(hp:dX p)(h:∀m∈p.aw.l,∀me∈m.methods.l,(cU p me.body.l).1=0):∀(d:Nat) {l:List af},dh l=true->(cU p l).1=0->∀t∈kk p d l,q8 p t=true
 | 0,l,_,_,t,ht=>by simp[kk]at ht
 | d+1,l,hb,hn,t,ht=>by
  rw[kk]at ht
  obtain⟨u,hu,rfl⟩:=List.mem_map.1 ht
  exact ae6 (fun r t ht=>Uy hp h d (hp.b r).1 (ZT h r) t ht) u ((fY hb).2 u hu) (F8 hn u hu)
structure Er (p:aj)(f:aN):Prop where
 ne:f.aU.l.length≤1000000∧0≤f.ar∧f.ar≤1000000
 ed:∀e∈f.aU.l,k6 p e
 sk:∀e∈f.aU.l,∀e2∈f.aU.l,e.from_=e2.from_->e.kind=e2.kind
theorem adB {p:aj}(hp:dX p)(h:∀m∈p.aw.l,∀me∈m.methods.l,(cU p me.body.l).1=0){l:List af}(hb:dh l=true)(hn:(cU p l).1=0)(h0:(kM p l).2=0):Er p (kM p l).1:=by
 unfold kM at h0 ⊢
 by_cases g:(lT p l).2≠0
 ·rw[if_pos g]at h0;exact absurd h0 g
 rw[if_neg g]at h0 ⊢
 obtain⟨h1,h2,h3,h4,h5⟩:=LB (by simpa using g)
 obtain⟨h6,h7⟩:=NX hp h1 302 hb h2
 have h8:=Uy hp h 302 hb hn
 have qK:=Ni (p:=p) (l:=inl p l) (fun s hs=>adE s (h7 s hs) (h8 s hs)) {} (fr:=0) (st:=AS) (by decide)
 have nQ:=re (p:=p) (l:=inl p l) (fun s hs=>CL s (h7 s hs)) (near:={}) (fr:=0) (st:=AS) (C:=1) ⟨by decide,by decide,by decide,by decide⟩
 generalize eJ p (inl p l) {} 0 AS=c at *
 dsimp only at h0 ⊢
 by_cases g2:c.st.ar>600
 ·rw[if_pos g2]at h0;cases h0
 rw[if_neg g2]
 obtain⟨new,a1,_,_,_,a5⟩:=qK
 have a1:c.st.aU=new:=a1
 obtain⟨b1,b2,b3,b4⟩:=nQ
 exact⟨⟨by show c.st.aU.length≤_;omega,b1,by show c.st.ar≤_;omega⟩,by show∀e∈c.st.aU,_;rw[a1];exact a5.ok,by show∀e∈c.st.aU,∀e2∈c.st.aU,_;rw[a1];exact a5.sk⟩
theorem afQ {p:aj}{r:aO}{f:aN}(h:Er p f):∀g∈mC r f,Er p g:=fun g hg=>by
 unfold mC at hg
 split at hg
 ·rw[List.mem_singleton]at hg;subst hg;exact⟨h.ne,h.ed,h.sk⟩
 ·split at hg
  ·rw[List.mem_singleton]at hg;subst hg;exact⟨h.ne,h.ed,h.sk⟩
  ·obtain⟨k,_,rfl⟩:=List.mem_map.1 hg
   exact⟨h.ne,h.ed,h.sk⟩
theorem R9 {p:aj}{Q:aN->Prop}:∀{rs:List aO}{acc:List aN},(∀r∈rs,(kM p r.body.l).2=0->∀g∈mC r (kM p r.body.l).1,Q g)->(∀g∈acc,Q g)->(iK p rs acc).2.1=0->∀g∈(iK p rs acc).1,Q g
 | [],acc,_,ha,_=>ha
 | r::rs,acc,hr,ha,h=>by
  unfold iK at h ⊢
  by_cases g:(kM p r.body.l).2≠0
  ·rw[if_pos g]at h;exact absurd h g
  ·rw[if_neg g]at h ⊢
   refine R9 (fun q hq=>hr q (List.mem_cons_of_mem _ hq)) (fun x hx=>?_) h
   rcases List.mem_append.1 hx with hx | hx
   ·exact ha x hx
   ·exact hr r List.mem_cons_self (by simpa using g) x hx
theorem R8 {p:aj}:∀{rs:List aO}{acc:List aN},(∀r∈rs,r.star=true∨(1≤r.count∧r.count≤8))->(iK p rs acc).1.length≤acc.length+8 * rs.length
 | [],acc,_=>by simp[iK]
 | r::rs,acc,hr=>by
  unfold iK
  split
  ·simp
  ·have h1:=R8 (p:=p) (rs:=rs) (acc:=acc++mC r (kM p r.body.l).1) fun q hq=>hr q (List.mem_cons_of_mem _ hq)
   have h2:=UW (f:=(kM p r.body.l).1) (hr r List.mem_cons_self)
   rw[List.length_append]at h1
   simp only[List.length_cons]
   omega
noncomputable def wu (p:aj):aT:={ p:=p,bc:=Sl.gr (kd p).1}
theorem ah7 {p:aj}(hb:bP p=true)(hw:wP p≤300)(h:(kd p).2.1=0):hG (wu p):=by
 have hp:=Uh hb hw
 obtain⟨_,aqu,_,hr⟩:=j5 hb
 unfold kd at h
 by_cases g:(tt p).1≠0
 ·rw[if_pos g]at h;exact absurd h g
 rw[if_neg g]at h
 have Mj:(kd p).1=(iK p p.aR.l []).1:=by rw[kd,if_neg g]
 obtain⟨_,_,hn⟩:=Un (p:=p) (by simpa using g)
 obtain⟨_,_,qN,nQ⟩:=Nr hn
 obtain⟨jP,eb⟩:=Q0 nQ
 have gJ:=R9 (p:=p) (Q:=Er p) (rs:=p.aR.l) (acc:=[]) (fun r FR h0=>afQ (adB hp jP (hr r FR).2 (eb r FR) h0)) (by simp) h
 have hlen:=R8 (p:=p) (rs:=p.aR.l) (acc:=[]) fun r FR=>UX qN FR
 simp only[List.length_nil]at hlen
 have hs:(wu p).bc.l=(iK p p.aR.l []).1:=Mj
 refine⟨qA hb,by rw[hs];omega,fun f hf=>?_,fun f hf=>?_,fun f hf=>?_⟩
 all_goals rw[hs]at hf
 ·exact(gJ f hf).ne
 ·exact(gJ f hf).ed
 ·exact(gJ f hf).sk
end Go.Vig
