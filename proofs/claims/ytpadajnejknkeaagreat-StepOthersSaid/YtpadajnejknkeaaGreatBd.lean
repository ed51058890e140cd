/-
  Part of the proof: printed by the session's own program out of the program's form, or typed; it states no claim by itself.
-/
import Derived.Test.YtpadajnejknkeaaGreatBc
set_option linter.unusedVariables false
set_option linter.unusedSimpArgs false
set_option linter.unusedSectionVars false
namespace Go.Abs
open Go
variable [Fl]
section
variable {P:Program}{n0:Nat}{PR:Addr->Prop}{e:E}{al:Own->Addr->Prop}{fr:Nat->DV}{tm:Array Value}{df:List Deferred}
theorem MI.aez (m:MI n0 PR e al){id:Nat}{o o':Ob}(ho:e.st[id]? =some o)(kh:o.ver<o'.ver)(c:List Value)(T:TypeId)(hlen:o'.cs.length≤c.length)(qc:Nat->Addr->Prop)(hqc:∀i a,qc i a->∃k,al (.cell id k) a)
  (ME:∀i j a,qc i a->qc j a->i=j) (hr:∀(i:Nat) d,o'.cs[i]? =some d->bG d=true∧∃v,c[i]? =some v∧RD e (qc i) d v):
  let f':Fp:=⟨e.w.heap.size,0,c.length⟩
  let q:Own->Addr->Prop:=fun p a=>match p with | .ob j=>if j=id then(∃i,i<c.length∧a=⟨e.w.heap.size,i,none⟩)else al p a | .cell j i=>if j=id then qc i a else al p a | _=>al p a
  MI n0 PR { e with w:=e.w.alloc (.cells ⟨c⟩ T),st:=e.st.set id o',io:=eh e.io id f'} q∧Ext e { e with w:=e.w.alloc (.cells ⟨c⟩ T),st:=e.st.set id o',io:=eh e.io id f'}:=by
 intro f' q
 have hx:Ext e { e with w:=e.w.alloc (.cells ⟨c⟩ T),st:=e.st.set id o',io:=eh e.io id f'}:=
  Ext.vM ho rfl (fun _ h=>h) (fun a ha=>World.cell?_alloc_lt _ _ _ (m.eY a ha)) (fun j hj=>fw _ _ hj) ⟨Nat.le_of_lt kh,fun h=>by omega⟩ (fun _ _ h=>h)
 have hq:∀p a,q p a->(∃p',al p' a∧(p'=p∨∃i k,p= .cell id i∧p'= .cell id k∧qc i a)∧(∀i,p= .cell id i->qc i a))∨(p= .ob id∧∃i,i<c.length∧a=⟨e.w.heap.size,i,none⟩):=fun p a h=>by
  cases p with
  | ob j=>
   simp only[q]at h
   split at h
   ·rename_i hj;exact .inr ⟨by rw[hj],h⟩
   ·exact .inl ⟨_,h,.inl rfl,by simp⟩
  | cell j i=>
   simp only[q]at h
   split at h
   ·rename_i hj
    subst hj
    obtain⟨k,hk⟩:=hqc i a h
    exact .inl ⟨_,hk,.inr ⟨i,k,rfl,rfl,h⟩,fun i' hh=>by injection hh with _ hh;subst hh;exact h⟩
   ·rename_i hj;exact .inl ⟨_,h,.inl rfl,fun i' hh=>by injection hh with hh _;exact absurd hh hj⟩
  | slot t=>exact .inl ⟨_,h,.inl rfl,by simp⟩
  | res=>exact .inl ⟨_,h,.inl rfl,by simp⟩
 have bC:∀p a,al p a->a.block<e.w.heap.size:=fun p a h=>m.bC h
 refine⟨⟨fun a ha=>by have:=m.eY a ha;simp;omega,m.gm,fun a ha=>by have:=m.dN a ha;simp;omega,by have:=m.dz;simp;omega,?_,?_,?_,?_,?_⟩,hx⟩
 ·intro p a hp
  rcases hq p a hp with ⟨p',cF,_,_⟩ | ⟨_,i,hi,rfl⟩
  ·obtain⟨h1,⟨v,hv⟩,h3,h4,h5⟩:=m.ok p' a cF
   have aQ:=bC p' a cF
   exact⟨h1,⟨v,by show(e.w.alloc _).cell? _=_;rw[World.cell?_alloc_lt _ _ _ aQ];exact hv⟩,by show(e.w.alloc _).frozen? _=_;rw[World.frozen?_alloc_old _ _ _ (by omega)];exact h3,h4,h5⟩
  ·refine⟨m.dz,⟨c[i],by show(e.w.alloc _).cell? _=_;rw[uv];exact List.getElem?_eq_getElem hi⟩,by show(e.w.alloc _).frozen? _=_;rw[World.frozen?_alloc_at _ _ _ _ rfl],fun BR=>?_,fun hp=>by have:=m.dN _ hp;simp at this⟩
   have:=m.eY _ BR;simp at this
 ·intro p p' a h1 h2
  rcases hq p a h1 with ⟨u,hu,qU,dp⟩ | ⟨hp,i,_,rfl⟩
  ·rcases hq p' a h2 with ⟨u',ff,pn,Cg⟩ | ⟨_,i,_,rfl⟩
   ·have heq:=m.cE _ _ _ hu ff
    rcases qU with rfl | ⟨i,k,rfl,rfl,S2⟩
    ·rcases pn with rfl | ⟨i',k',rfl,rfl,MF⟩
     ·exact heq
     ·subst heq
      rw[ME _ _ _ (dp _ rfl) MF]
    ·rcases pn with rfl | ⟨i',k',rfl,rfl,MF⟩
     ·subst heq
      rw[ME _ _ _ (Cg _ rfl) S2]
     ·rw[ME _ _ _ S2 MF]
   ·have:=bC u _ hu;simp at this
  ·rcases hq p' _ h2 with ⟨u',ff,_,_⟩ | ⟨cF,_⟩
   ·have:=bC u' _ ff;simp at this
   ·rw[hp,cF]
 ·intro j x hj
  show x.cs.length≤(eh e.io id f' j).ext
  by_cases bM:j=id
  ·subst bM
   have:x=o':=by have:=jy (x:=o') ho;simp only at hj;rw[this]at hj;cases hj;rfl
   subst this
   rw[fJ];exact hlen
  ·have cC:e.st[j]? =some x:=by simp only at hj;rw[ke (Ne.symm bM)]at hj;exact hj
   rw[fw _ _ bM];exact m.ext j x cC
 ·intro j x hj i hi
  by_cases bM:j=id
  ·subst bM
   simp only[fJ]at hi ⊢
   simp only[q,if_true]
   exact⟨i,hi,by simp[Fp.at,f']⟩
  ·have cC:e.st[j]? =some x:=by simp only at hj;rw[ke (Ne.symm bM)]at hj;exact hj
   simp only[fw _ _ bM]at hi ⊢
   simp only[q,if_neg bM]
   exact m.own j x cC i hi
 ·intro j x hj i d hd
  by_cases bM:j=id
  ·subst bM
   have:x=o':=by have:=jy (x:=o') ho;simp only at hj;rw[this]at hj;cases hj;rfl
   subst this
   obtain⟨hk,v,hv,h3⟩:=hr i d hd
   refine⟨hk,v,?_,h3.mono hx (fun a ha=>?_)⟩
   ·simp only[fJ,Fp.at,f',Nat.zero_add]
    rw[uv];exact hv
   ·simp only[q,if_true];exact ha
  ·have cC:e.st[j]? =some x:=by simp only at hj;rw[ke (Ne.symm bM)]at hj;exact hj
   obtain⟨h1,v,h2,h3⟩:=m.cell j x cC i d hd
   simp only[fw _ _ bM]
   refine⟨h1,v,by rw[World.cell?_alloc_lt _ _ _ (World.block_lt_of_cell? _ _ h2)];exact h2,h3.mono hx fun a ha=>?_⟩
   simp only[q,if_neg bM];exact ha
theorem MI.Sc (m:MI n0 PR e al){id:Nat}{o:Ob}(ho:e.st[id]? =some o):
  let im':Addr->Prop:=fun a=>e.im a∨al (.ob id) a
  let q:Own->Addr->Prop:=fun p a=>match p with | .ob j=>j≠id∧al p a | .cell j _=>j≠id∧al p a | _=>al p a
  MI n0 PR { e with im:=im',st:=e.st.set id ⟨o.ver+1,[]⟩,io:=eh e.io id ⟨0,0,0⟩} q∧Ext e { e with im:=im',st:=e.st.set id ⟨o.ver+1,[]⟩,io:=eh e.io id ⟨0,0,0⟩}:=by
 intro im' q
 have hx:Ext e { e with im:=im',st:=e.st.set id ⟨o.ver+1,[]⟩,io:=eh e.io id ⟨0,0,0⟩}:=
  Ext.vM ho rfl (fun _ h=>.inl h) (fun _ _=>rfl) (fun j hj=>fw _ _ hj) ⟨Nat.le_succ _,fun h=>by simp at h⟩ (fun _ _ h=>h)
 have hq:∀p a,q p a->al p a∧p≠ .ob id:=fun p a h=>by
  cases p with
  | ob j=>exact⟨h.2,fun hh=>h.1 (by injection hh)⟩
  | cell j i=>exact⟨h.2,by simp⟩
  | slot t=>exact⟨h,by simp⟩
  | res=>exact⟨h,by simp⟩
 have get:∀j x,(e.st.set id ⟨o.ver+1,[]⟩)[j]? =some x->(j=id∧x=⟨o.ver+1,[]⟩)∨(j≠id∧e.st[j]? =some x):=fun j x hj=>by
  by_cases bM:j=id
  ·subst bM
   rw[jy ho]at hj;cases hj
   exact .inl ⟨rfl,rfl⟩
  ·rw[ke (Ne.symm bM)]at hj
   exact .inr ⟨bM,hj⟩
 refine⟨⟨fun a ha=>?_,fun a ha hp=>?_,m.dN,m.dz,fun p a hp=>?_,fun p p' a h1 h2=>m.cE p p' a (hq p a h1).1 (hq p' a h2).1,fun j x hj=>?_,fun j x hj i hi=>?_,fun j x hj i d hd=>?_⟩,hx⟩
 ·rcases ha with ha | ha
  ·exact m.eY a ha
  ·exact m.bC ha
 ·rcases ha with ha | ha
  ·exact m.gm a ha hp
  ·exact(m.ok _ a ha).2.2.2.2 hp
 ·obtain⟨hr,bw⟩:=hq p a hp
  obtain⟨h1,h2,h3,h4,h5⟩:=m.ok p a hr
  refine⟨h1,h2,h3,fun hi=>?_,h5⟩
  rcases hi with hi | hi
  ·exact h4 hi
  ·exact bw (m.cE _ _ a hr hi)
 ·rcases get j x hj with ⟨rfl,rfl⟩ | ⟨bw,cC⟩
  ·simp
  ·simp only[fw _ _ bw];exact m.ext j x cC
 ·rcases get j x hj with ⟨rfl,rfl⟩ | ⟨bw,cC⟩
  ·simp only[fJ]at hi;simp at hi
  ·simp only[fw _ _ bw]at hi ⊢
   exact⟨bw,m.own j x cC i hi⟩
 ·rcases get j x hj with ⟨rfl,rfl⟩ | ⟨bw,cC⟩
  ·simp at hd
  ·obtain⟨h1,v,h2,h3⟩:=m.cell j x cC i d hd
   simp only[fw _ _ bw]
   exact⟨h1,v,h2,h3.mono hx fun a ha=>⟨bw,ha⟩⟩
theorem YD (m:MI n0 PR e al){o:Oper}{k:Call}(ho:o.op= .call k)(hb:k.callee= .builtin .append){x y:Operand}(ha:k.args.toList=[x,y])(hf:∀t,RD e (al (.slot t)) (fr t) (tm.getD t undef))
  {t t2:TypeId} (h0:k.argTypes[0]? =some t) (h1:k.argTypes[1]? =some t2) {fG:Nat}{r:Out} (h:mN P e.st fG t t2 (ev fr x) (ev fr y)=some r):
  ∃v e' reg',e7 P n0 PR e al o ⟨tm,df⟩ r v e' reg':=by
 have bB:∀x s,RD e s (ev fr x) ((⟨tm,df⟩:Act).eval x):=fun x s=>oW hf x
 unfold mN at h
 split at h
 ·rename_i el qw hu dp
  split at h
  ·cases h
  ·rename_i i hi
   split at h
   ·cases h
   ·rename_i hz
    have kK:mM i=true:=by simpa using hz
    have hk:cJ P el=some i.size:=by simp[cJ,hi]
    split at h
    ·cases h
    ·rename_i n ys lZ
     split at h
     ·rename_i B3
      subst B3
      split at h
      ·rename_i hx
       rw[Option.map_eq_some_iff]at h
       obtain⟨xx,gN,rfl⟩:=h
       have ry:=bB y (fun _=>False)
       obtain⟨us,fR,pg,gM,hlen,m3,_⟩:=Bg (P:=P) m lZ ry
       have rx:=bB x (fun _=>False)
       rw[hx]at rx
       generalize cM:(⟨tm,df⟩:Act).eval x=ax at rx
       unfold lay at gN
       split at gN
       ·rename_i ob ew
        cases gN
        obtain⟨q1,q2⟩:=m.Sc ew
        have po:us=[]:=List.eq_nil_of_length_eq_zero (by omega)
        subst po
        cases rx with
        | c rx=>
         cases rx with
         | sl hr hc hl hxc=>
          rename_i vs a cap
          have gK:cap=0:=hxc rfl
          refine⟨_,_,_,.inl (ql ho hb ha _ (by rw[cM];exact EC (P:=P) hu dp hk h0 h1 (hlen e.w) (m3 e.w fun _=>rfl) hl)),(by rfl),q1,q2,cS.refl ..,?_,fun t _ x hx=>hx⟩
          have aQ:fG<e.st.length:=(List.getElem?_eq_some_iff.1 ew).1
          refine .ms (by simpa using aQ) hl (by simp) fun o2 bu=>?_
          have:o2=⟨ob.ver+1,[]⟩:=by have:=jy (x:=(⟨ob.ver+1,[]⟩:Ob)) ew;simp only at bu;rw[this]at bu;cases bu;rfl
          subst this
          exact⟨Nat.le_refl _,fun _=>⟨.inl gK,by rw[gK];simp⟩⟩
       ·cases gN
      ·cases h
     ·rename_i B3
      have ry:=bB y (fun _=>False)
      obtain⟨us,fR,pg,gM,hlen,m3,_⟩:=Bg (P:=P) m lZ ry
      have lh:bd e (ys.map bx) us:=pg.HE
      have FO:∀u∈us,u.oneCell'=true:=lh.one (zj gM)
      split at h
      ·rename_i id ver off len aV xx0 hx
       have rx:=bB x (fun _=>False)
       rw[hx]at rx
       generalize cM:(⟨tm,df⟩:Act).eval x=ax at rx
       split at h
       ·rename_i ob ew
        split at h
        ·rename_i ec
         obtain⟨rfl,pf⟩:=ec
         rw[Option.map_eq_some_iff]at h
         obtain⟨bC,hold,rfl⟩:=h
         obtain⟨g1,rfl⟩:=mY ew
         obtain⟨yQ,sR,SZ,hor,dE⟩:=m.cells g1 hold
         cases rx with
         | ms hid hl gN hv=>
          rename_i a cap
          obtain⟨q1,q2⟩:=(hv ob g1).2 rfl
          have acw:=fun(j:Nat) (d:DV) (hj:bC[j]? =some d)=>Vn hold hj
          have MC:bC.length=len * i.size:=GW hold
          have yj:∀(j:Nat) d,(bC++ys.map bx)[j]? =some d->(j<len * i.size∧ob.cs[off+j]? =some d)∨(len * i.size≤j∧(ys.map bx)[j - len * i.size]? =some d):=fun j d hj=>by
           rcases Nat.lt_or_ge j bC.length with aQ | cw
           ·rw[List.getElem?_append_left aQ]at hj
            exact .inl ⟨by omega,(acw j d hj).1⟩
           ·rw[List.getElem?_append_right cw]at hj
            exact .inr ⟨by omega,by rw[←MC];exact hj⟩
          by_cases hg:len+n≤cap
          ·-- in place
           have Bz:a=(e.io id).at off:=by
            rcases q1 with h | h
            ·omega
            ·exact h
           subst Bz
           have gK:(len+n) * i.size≤cap * i.size:=Nat.mul_le_mul_right _ hg
           rw[Nat.add_mul]at gK
           obtain⟨w',r1,r2,r3⟩:=zd (P:=P) (e.io id).b ((e.io id).off+off+len * i.size) us 0 e.w FO (fun j hj=>by
            rw[Nat.zero_add]
            have:=m.ok _ _ (m.own id ob g1 (off+len * i.size+j) (by omega))
            simp only[Fp.at]at this
            rw[show(e.io id).off+off+len * i.size+j=(e.io id).off+(off+len * i.size+j) by omega]
            exact⟨this.2.1,this.2.2.1⟩)
           simp only[Nat.zero_add]at r2 r3
           let q:Own->Addr->Prop:=fun p a=>match p with | .cell j i'=>if j=id then i'<len * i.size∧al (.cell id (off+i')) a else al p a | _=>al p a
           have hq:∀p a,q p a->∃p',al p' a∧((p'=p∧∀i',p≠ .cell id i')∨∃i',p= .cell id i'∧p'= .cell id (off+i')):=fun p a h=>by
            cases p with
            | cell j i'=>
             simp only[q]at h
             split at h
             ·rename_i hj;subst hj;exact⟨_,h.2,.inr ⟨i',rfl,rfl⟩⟩
             ·rename_i hj;exact⟨_,h,.inl ⟨rfl,fun i2 hh=>by injection hh with hh _;exact hj hh⟩⟩
            | ob j=>exact⟨_,h,.inl ⟨rfl,by simp⟩⟩
            | slot j=>exact⟨_,h,.inl ⟨rfl,by simp⟩⟩
            | res=>exact⟨_,h,.inl ⟨rfl,by simp⟩⟩
           obtain⟨g3,g4⟩:=m.obj (o':=⟨ob.ver+1,bC++ys.map bx⟩) (f':=⟨(e.io id).b,(e.io id).off+off,cap * i.size⟩) g1 r2 (fun a ⟨j,hj,hh⟩=>by
             rw[hh]
             have:=m.own id ob g1 (off+len * i.size+j) (by omega)
             simp only[Fp.at]at this
             rw[show(e.io id).off+off+len * i.size+j=(e.io id).off+(off+len * i.size+j) by omega];exact this)
            (fun a ⟨j,hj,hh⟩=>by rw[hh];exact⟨us[j],r3 j _ (List.getElem?_eq_getElem hj)⟩) (q:=q)
            (fun p a h=>let ⟨p',h',_⟩:=hq p a h;⟨p',h'⟩)
            (fun p p' a h1 h2=>by
             obtain⟨u,hu,qU⟩:=hq p a h1
             obtain⟨u',ff,pn⟩:=hq p' a h2
             have heq:=m.cE _ _ _ hu ff
             rcases qU with ⟨rfl,FL⟩ | ⟨i1,rfl,rfl⟩<;>rcases pn with ⟨rfl,B4⟩ | ⟨i2,rfl,rfl⟩
             ·exact heq
             ·exact absurd heq (FL _)
             ·exact absurd heq.symm (B4 _)
             ·injection heq with _ heq;rw[show i1=i2 by omega])
            (fun j hj a h=>h) (fun j hj i' a h=>by simp only[q,if_neg hj];exact h)
            (fun i' BR=>by
             have:=m.own id ob g1 (off+i') (by have:i'<cap * i.size:=BR;omega)
             simp only[Fp.at]at this ⊢
             rw[Nat.add_assoc];exact this)
            (by
             show(bC++ys.map bx).length≤cap * i.size
             have:=lh.length
             simp only[List.length_append,MC,this,fR];exact gK) ⟨by simp,fun h=>by simp at h⟩
            (fun j d hd=>by
             have abZ:(⟨(e.io id).b,(e.io id).off+off+j,none⟩:Addr)=(e.io id).at (off+j):=by simp[Fp.at,Nat.add_assoc]
             rcases yj j d hd with ⟨hj,eO⟩ | ⟨hj,eO⟩
             ·obtain⟨k1,v,k2,k3⟩:=m.cell id ob g1 (off+j) d eO
              refine⟨k1,v,?_,k3.fV fun a ha=>by simp only[q,if_true];exact⟨hj,ha⟩⟩
              show w'.cell? ⟨(e.io id).b,(e.io id).off+off+j,none⟩=_
              rw[r2.cell _ (by rintro⟨j',_,hh⟩;injection hh with _ hh _;omega),abZ];exact k2
             ·obtain⟨v,fS,fc⟩:=lh.get eO
              refine⟨(List.all_eq_true.1 (zj gM)) d (List.mem_of_getElem? eO),v,?_,fc.fV fun _ h=>h.elim⟩
              have:=r3 _ v fS
              show w'.cell? ⟨(e.io id).b,(e.io id).off+off+j,none⟩=_
              rw[show(e.io id).off+off+j=(e.io id).off+off+len * i.size+(j - len * i.size) by omega];exact this)
           refine⟨_,_,q,.inl (ql ho hb ha _ (by rw[cM];exact Qo (P:=P) (w':=w') hu dp hk h0 h1 (hlen e.w) (m3 e.w fun _=>rfl) hg (by rw[mP];simp only[Fp.at];rw[←Nat.add_assoc];exact r1))),(by rfl),g3,g4,r2.bp (fun a ⟨j,hj,hh⟩=>?_) _,?_,fun t _ a h=>h⟩
           ·have:=m.ok _ _ (m.own id ob g1 (off+len * i.size+j) (by omega))
            simp only[Fp.at]at this
            rw[hh,show(e.io id).off+off+len * i.size+j=(e.io id).off+(off+len * i.size+j) by omega]
            exact⟨this.1,this.2.2.2.2⟩
           ·have aQ:id<e.st.length:=hid
            refine .ms (by simpa using aQ) hg (by simp) fun o2 bu=>?_
            have:o2=⟨ob.ver+1,bC++ys.map bx⟩:=by have:=jy (x:=(⟨ob.ver+1,bC++ys.map bx⟩:Ob)) g1;simp only at bu;rw[this]at bu;cases bu;rfl
            subst this
            refine⟨Nat.le_refl _,fun _=>⟨.inr ?_,?_⟩⟩
            ·simp only[fJ,Fp.at,Nat.add_zero]
            ·simp only[fJ,Nat.zero_add];exact Nat.le_refl _
          ·-- grow
           have B8:∀w:World,(∀a,w.cell? a=e.w.cell? a)->(Builtin.firstCells i.size len (.slice (some a) len cap)).run P w= .ok ⟨yQ⟩ w:=fun w hw=>sD sR fun j v hj=>by
            rw[hw]
            rcases q1 with q1 | q1
            ·have:j<yQ.length:=(List.getElem?_eq_some_iff.1 hj).1
             have uY:len=0:=by omega
             subst uY
             simp at sR
             subst sR
             simp at this
            ·rw[q1];exact SZ j v hj
           obtain⟨aaf,rest,gK,B0,dJ⟩:=KM (P:=P) (ty:=o.type) hu dp hi kK h0 h1 e.w (hlen e.w) (B8 e.w.drew fun _=>rfl) (m3 e.w.drew fun _=>rfl) (by omega) pf sR fR
           obtain⟨d1,d2⟩:=m.drew
           have yc:(bC++ys.map bx).length=(yQ++us).length:=by have:=lh.length;simp only[List.length_append,MC,sR,this]
           obtain⟨g3,g4⟩:=d1.aez (id:=id) (o':=⟨ob.ver+1,bC++ys.map bx⟩) g1 (by simp) (yQ++us++rest) el (by
             show(bC++ys.map bx).length≤_
             rw[yc];simp)
            (fun i' a=>i'<len * i.size∧al (.cell id (off+i')) a) (fun i' a h=>⟨_,h.2⟩) (fun i1 i2 a h1 h2=>by have:=m.cE _ _ _ h1.2 h2.2;injection this with _ this;omega)
            (fun j d hd=>by
             rcases yj j d hd with ⟨hj,eO⟩ | ⟨hj,eO⟩
             ·obtain⟨k1,v,k2,k3⟩:=m.cell id ob g1 (off+j) d eO
              have va:j<yQ.length:=by omega
              have eH:=SZ j yQ[j] (List.getElem?_eq_getElem va)
              rw[mP,k2]at eH
              injection eH with eH
              refine⟨k1,v,?_,k3.mono d2 fun a ha=>⟨hj,ha⟩⟩
              rw[List.append_assoc,List.getElem?_append_left va,eH];exact List.getElem?_eq_getElem va
             ·obtain⟨v,fS,fc⟩:=lh.get eO
              have va:j - len * i.size<us.length:=(List.getElem?_eq_some_iff.1 fS).1
              refine⟨(List.all_eq_true.1 (zj gM)) d (List.mem_of_getElem? eO),v,?_,fc.mono d2 fun _ h=>h.elim⟩
              rw[List.append_assoc,List.getElem?_append_right (by omega),List.getElem?_append_left (by omega),sR];exact fS)
           refine⟨_,_,_,.inl (ql ho hb ha _ (by rw[cM];exact dJ)),(by rfl),g3,d2.trans g4,(E7 _ _).trans (sn (w:=e.w.drew) _ m.dz m.dN _),?_,fun t _ a h=>h⟩
           have aQ:id<e.st.length:=hid
           refine .ms (by simpa using aQ) gK (by simp) fun o2 bu=>?_
           have:o2=⟨ob.ver+1,bC++ys.map bx⟩:=by have:=jy (x:=(⟨ob.ver+1,bC++ys.map bx⟩:Ob)) g1;simp only at bu;rw[this]at bu;cases bu;rfl
           subst this
           refine⟨Nat.le_refl _,fun _=>⟨.inr ?_,?_⟩⟩
           ·simp only[fJ,Fp.at,Nat.add_zero];rfl
           ·simp only[fJ,Nat.zero_add,B0];exact Nat.le_refl _
        ·cases h
       ·cases h
      ·rename_i nl cs len hx
       have rx:=bB x (fun _=>False)
       rw[hx]at rx
       generalize cM:(⟨tm,df⟩:Act).eval x=ax at rx
       split at h
       ·rename_i ec
        obtain⟨pf,ya⟩:=ec
        rw[Option.map_eq_some_iff]at h
        obtain⟨xx,gN,rfl⟩:=h
        obtain⟨Cn,aQ,o0,MA,yo⟩:=vr gN
        have main:∀(base:Option Addr) (cap:Nat) (olds:List Value),ax= .slice base len cap->cap<len+n->bh e.im e.w cs olds->(∀w:World,(∀a,w.cell? a=e.w.cell? a)->(Builtin.firstCells i.size len (.slice base len cap)).run P w= .ok ⟨olds⟩ w)->
          ∃v e' reg',e7 P n0 PR e al o ⟨tm,df⟩ { d:=.ms fG xx.2.ver 0 (len+n) i.size false,set:=some xx} v e' reg':=by
         intro base cap olds hv hg qP B8
         have sR:olds.length=len * i.size:=by rw[←qP.length];exact ya
         obtain⟨aaf,rest,gK,B0,dJ⟩:=KM (P:=P) (ty:=o.type) hu dp hi kK h0 h1 e.w (hlen e.w) (B8 e.w.drew fun _=>rfl) (m3 e.w.drew fun _=>rfl) hg pf sR fR
         obtain⟨d1,d2⟩:=m.drew
         have eX:bd e (cs.map .c++ys.map bx) (olds++us):=qP.CM.append lh
         have m5:(cs.map DV.c++ys.map bx).all bG=true:=by
          rw[List.all_append,zj gM,Bool.and_true,List.all_eq_true]
          intro d hd
          obtain⟨c,BI,rfl⟩:=List.mem_map.1 hd
          obtain⟨_,hj⟩:=List.getElem?_of_mem BI
          exact qP.ok hj
         obtain⟨g3,g4⟩:=d1.NK (id:=fG) (o':=⟨xx.2.ver,cs.map .c++ys.map bx⟩) MA yo (olds++us++rest) el (vs:=olds++us) (fun j v hj=>by
          have:j<(olds++us).length:=(List.getElem?_eq_some_iff.1 hj).1
          rw[List.getElem?_append_left this];exact hj) (eX.mono d2) m5
         refine⟨_,_,_,.inl (ql ho hb ha _ (by rw[cM,hv];exact dJ)),(by rw[Cn];rfl),g3,d2.trans g4,(E7 _ _).trans (sn (w:=e.w.drew) _ m.dz m.dN _),?_,fun t _ a h=>h⟩
         exact Nq (ds:=cs.map .c++ys.map bx) (n:=e.w.heap.size) (k:=(olds++us++rest).length) (by simpa using aQ) (De aQ) (fJ _ _ _) gK (by simp) (by rw[B0];exact Nat.le_refl _) _
        cases rx with
        | c rx=>
         cases rx with
         | nil=>exact main none 0 [] rfl (by omega) .nil (fun w _=>by simp[Builtin.firstCells])
         | sl hr hc hl bN=>
          rename_i vs b cap
          have gK:cap=len:=bN rfl
          subst gK
          exact main (some b) cap vs rfl (by omega) hr (fun w hw=>sD (by rw[←hr.length];exact ya) fun j v hj=>by rw[hw];exact(hc j v hj).1)
       ·cases h
      ·cases h
 ·cases h
theorem aaU {o:Oper}{k:Call}(ho:o.op= .call k)(hb:k.callee= .builtin .copy){x y:Operand}(ha:k.args.toList=[x,y])(a:Act){v:Value}{w w':World}
  (h:(Builtin.copy_ k.argTypes o.type #[a.eval x,a.eval y]).run P w= .ok v w'):(execOp a.eval o).run P w= .ok (.value v) w':=by
 have eG:k.args=#[x,y]:=by apply Array.ext';simpa using ha
 have hm:k.args.map a.eval=#[a.eval x,a.eval y]:=by rw[eG];simp
 simp[execOp,ho,resolve,hb,invoke,builtin,hm,h]
theorem aaT (m:MI n0 PR e al){o:Oper}{k:Call}(ho:o.op= .call k)(hb:k.callee= .builtin .copy){x y:Operand}(ha:k.args.toList=[x,y])(hf:∀t,RD e (al (.slot t)) (fr t) (tm.getD t undef))
  {t:TypeId} (h0:k.argTypes[0]? =some t) {r:Out} (h:mR P e.st t (ev fr x) (ev fr y)=some r):∃v e' reg',e7 P n0 PR e al o ⟨tm,df⟩ r v e' reg':=by
 have bB:∀x s,RD e s (ev fr x) ((⟨tm,df⟩:Act).eval x):=fun x s=>oW hf x
 unfold mR at h
 split at h
 ·rename_i el id ver off len aV xx hu hx
  split at h
  ·rename_i sz ob hk ew
   split at h
   ·rename_i n ys lZ
    split at h
    ·rename_i ec
     obtain⟨rfl,hle⟩:=ec
     cases h
     obtain⟨g1,rfl⟩:=mY ew
     obtain⟨us,fR,pg,gM,hlen,_,hfk⟩:=Bg (P:=P) m lZ (bB y (fun _=>False))
     have rx:=bB x (fun _=>False)
     rw[hx]at rx
     generalize cM:(⟨tm,df⟩:Act).eval x=ax at rx
     cases rx with
     | ms hid hl gN hv=>
      rename_i a cap
      obtain⟨q1,q2⟩:=(hv ob g1).2 rfl
      have lh:bd e ((ys.take (min n len * sz)).map bx) (us.take (min n len * sz)):=by rw[List.map_take];exact pg.HE.take _
      have BU:((ys.take (min n len * sz)).map bx).all bG=true:=by
       have:=zj gM
       rw[List.all_eq_true]at this ⊢
       intro d hd
       rw[List.map_take]at hd
       exact this d (List.mem_of_mem_take hd)
      have Ch:(us.take (min n len * sz)).length=min n len * sz:=by
       rw[List.length_take,fR]
       have:=Nat.mul_le_mul_right sz (Nat.min_le_left n len)
       omega
      have BN:=m.ext id ob g1
      have bz:∃w',(storeCells a (us.take (min n len * sz))).run P e.w= .ok () w'∧Wr e.w w' (fun a=>∃j,j<(us.take (min n len * sz)).length∧a=(e.io id).at (off+j))∧∀(j:Nat) u,(us.take (min n len * sz))[j]? =some u->w'.cell? ((e.io id).at (off+j))=some u:=by
       by_cases hz:min n len * sz=0
       ·rw[hz]
        exact⟨e.w,rfl,Wr.refl _ _,by simp⟩
       ·have Bz:a=(e.io id).at off:=by
         rcases q1 with h | h
         ·have:len=0:=by omega
          subst this
          simp at hz
         ·exact h
        obtain⟨w',r1,r2,r3⟩:=zd (P:=P) (e.io id).b ((e.io id).off+off) (us.take (min n len * sz)) 0 e.w (lh.one BU) (fun j hj=>by
         rw[Nat.zero_add]
         have:=m.ok _ _ (m.own id ob g1 (off+j) (by omega))
         simp only[Fp.at]at this
         rw[Nat.add_assoc];exact⟨this.2.1,this.2.2.1⟩)
        refine⟨w',by rw[Bz];exact r1,?_,?_⟩
        ·simpa[Fp.at,Nat.add_assoc]using r2
        ·intro j u ff;have:=r3 j u ff;simpa[Fp.at,Nat.add_assoc]using this
      obtain⟨w',r1,r2,r3⟩:=bz
      have o9:((ys.take (min n len * sz)).map bx).length=(us.take (min n len * sz)).length:=lh.length
      let q:Own->Addr->Prop:=fun p a=>match p with | .cell j i=>¬(j=id∧off≤i∧i<off+((ys.take (min n len * sz)).map bx).length)∧al p a | _=>al p a
      have hq:∀p a,q p a->al p a:=fun p a h=>by cases p<;>first | exact h | exact h.2
      obtain⟨g3,g4⟩:=m.write (q:=q) g1 o9 BU (by rw[o9,Ch];exact hle) r2 r3 (fun p a h=>⟨p,hq p a h⟩) (fun p p' a h1 h2=>m.cE _ _ a (hq p a h1) (hq p' a h2)) (fun j a h=>h) (fun j i a hn h=>⟨hn,h⟩)
       (fun j d v hd fS=>by obtain⟨v2,sS,eX⟩:=lh.get hd;rw[fS]at sS;cases sS;exact eX.fV (fun _ h=>h.elim))
      refine⟨.int .i64 (min n len:Nat),_,q,.inl (aaU ho hb ha _ (w':=w') ?_),(by rfl),g3,g4,r2.bp (fun a ⟨j,hj,hh⟩=>?_) _,.c (.sc rfl),fun t _ a h=>h⟩
      ·rw[cM]
       have aqp:Nat.min n len≤n:=Nat.min_le_left _ _
       simp[Builtin.copy_,h0,run_underlying hu,fp hk,hlen,hfk e.w (min n len) (Nat.min_le_left _ _) (fun _=>rfl),r1,goInt]
      ·have:=m.ok _ _ (m.own id ob g1 (off+j) (by omega))
       rw[hh];exact⟨this.1,this.2.2.2.2⟩
    ·cases h
   ·cases h
  ·cases h
 ·cases h
theorem aax {o:Oper}{k:Call}(ho:o.op= .call k)(hb:k.callee= .builtin .clear){x:Operand}(ha:k.args.toList=[x])(a:Act){v:Value}{w w':World}
  (h:(Builtin.clear_ k.argTypes o.type #[a.eval x]).run P w= .ok v w'):(execOp a.eval o).run P w= .ok (.value v) w':=by
 have eG:k.args=#[x]:=by apply Array.ext';simpa using ha
 have hm:k.args.map a.eval=#[a.eval x]:=by rw[eG];simp
 simp[execOp,ho,resolve,hb,invoke,builtin,hm,h]
theorem aaw (m:MI n0 PR e al){o:Oper}{k:Call}(ho:o.op= .call k)(hb:k.callee= .builtin .clear){x:Operand}(ha:k.args.toList=[x])(hf:∀t,RD e (al (.slot t)) (fr t) (tm.getD t undef))
  {t:TypeId} (h0:k.argTypes[0]? =some t) {r:Out} (h:oP P e.st t (ev fr x)=some r):∃v e' reg',e7 P n0 PR e al o ⟨tm,df⟩ r v e' reg':=by
 have bB:∀x s,RD e s (ev fr x) ((⟨tm,df⟩:Act).eval x):=fun x s=>oW hf x
 unfold oP at h
 split at h
 ·rename_i el id ver off len aV xx hu hx
  split at h
  ·rename_i z ob hz ew
   split at h
   ·rename_i ec
    obtain⟨rfl,kH,hle⟩:=ec
    cases h
    obtain⟨g1,rfl⟩:=mY ew
    obtain⟨zv,qX,⟨zs,hv,hr⟩,gM⟩:=AN (e:=e) hz e.w
    have mc:zs.length=z.length:=hr.length.symm
    have rx:=bB x (fun _=>False)
    rw[hx]at rx
    generalize cM:(⟨tm,df⟩:Act).eval x=ax at rx
    cases rx with
    | ms hid hl gN fS=>
     rename_i a cap
     obtain⟨q1,q2⟩:=(fS ob g1).2 rfl
     have Bz:a=(e.io id).at off:=q1.resolve_left (by omega)
     have BN:=m.ext id ob g1
     have lh:=Da (e:=e) hr len
     have BU:=GH gM len
     have Ch:(List.replicate len zs).flatten.length=len * z.length:=by simp[mc]
     obtain⟨w',r1,r2,r3⟩:=zd (P:=P) (e.io id).b ((e.io id).off+off) (List.replicate len zs).flatten 0 e.w (lh.one BU) (fun j hj=>by
      rw[Nat.zero_add]
      have:=m.ok _ _ (m.own id ob g1 (off+j) (by rw[Ch]at hj;omega))
      simp only[Fp.at]at this
      rw[Nat.add_assoc];exact⟨this.2.1,this.2.2.1⟩)
     have o9:(jV len z).length=(List.replicate len zs).flatten.length:=lh.length
     have UJ:Wr e.w w' (fun a=>∃j,j<(List.replicate len zs).flatten.length∧a=(e.io id).at (off+j)):=by simpa[Fp.at,Nat.add_assoc]using r2
     have r3':∀(j:Nat) u,(List.replicate len zs).flatten[j]? =some u->w'.cell? ((e.io id).at (off+j))=some u:=by
      intro j u ff;have:=r3 j u ff;simpa[Fp.at,Nat.add_assoc]using this
     let q:Own->Addr->Prop:=fun p a=>match p with | .cell j i=>¬(j=id∧off≤i∧i<off+(jV len z).length)∧al p a | _=>al p a
     have hq:∀p a,q p a->al p a:=fun p a h=>by cases p<;>first | exact h | exact h.2
     obtain⟨g3,g4⟩:=m.write (q:=q) g1 o9 BU (by rw[o9,Ch];exact hle) UJ r3' (fun p a h=>⟨p,hq p a h⟩) (fun p p' a h1 h2=>m.cE _ _ a (hq p a h1) (hq p' a h2)) (fun j a h=>h) (fun j i a hn h=>⟨hn,h⟩)
      (fun j d v hd fS=>by obtain⟨v2,sS,eX⟩:=lh.get hd;rw[fS]at sS;cases sS;exact eX.fV (fun _ h=>h.elim))
     refine⟨.tuple #[],_,q,.inl (aax ho hb ha _ (w':=w') ?_),(by rfl),g3,g4,UJ.bp (fun a ⟨j,hj,hh⟩=>?_) _,.aX .nil,fun t _ a h=>h⟩
     ·rw[cM]
      obtain⟨n,rfl⟩:∃n,len=n+1:=⟨len - 1,by omega⟩
      have hzc:(Builtin.zeroCells zv.cells (n+1)).toList=(List.replicate (n+1) zs).flatten:=by
       have:=P7 zs z.length (n+1) mc
       rw[hv]
       simpa[Builtin.zeroCells,mc]using congrArg Array.toList this
      have r1':(storeCells a (List.replicate (n+1) zs).flatten).run P e.w= .ok () w':=by rw[Bz];exact r1
      simp[Builtin.clear_,h0,run_underlying hu,qX,hzc,r1']
     ·have:=m.ok _ _ (m.own id ob g1 (off+j) (by rw[Ch]at hj;omega))
      rw[hh];exact⟨this.1,this.2.2.2.2⟩
   ·cases h
  ·cases h
 ·cases h
end
end Go.Abs
namespace Go.Abs
open Go
variable [Fl]
section
variable {P:Program}{n0:Nat}{PR:Addr->Prop}{e:E}{al:Own->Addr->Prop}{fr:Nat->DV}{tm:Array Value}{df:List Deferred}
theorem MI.N0 (m:MI n0 PR e al){q:Own->Addr->Prop}(qa:∀p a,q p a->∃p',al p' a)(qd:∀p p' a,q p a->q p' a->p=p')(qo:∀j a,al (.ob j) a->q (.ob j) a)(qc:∀j i a,al (.cell j i) a->q (.cell j i) a):MI n0 PR e q:=
 ⟨m.eY,m.gm,m.dN,m.dz,fun p a h=>let ⟨p',h'⟩:=qa p a h;m.ok p' a h',qd,m.ext,fun id o ho i hi=>qo _ _ (m.own id o ho i hi),fun id o ho i d hd=>let ⟨h1,v,h2,h3⟩:=m.cell id o ho i d hd;⟨h1,v,h2,h3.fV (qc id i)⟩⟩
theorem oR (m:MI n0 PR e al){o:Oper}{a:Act}{d:DV}{v:Value}(hx:(execOp a.eval o).run P e.w= .ok (.value v) e.w)(r:∀s,RD e s d v):∃v e' reg',e7 P n0 PR e al o a { d} v e' reg':=
 ⟨v,e,al,.inl hx,rfl,m,Ext.refl e,cS.refl ..,r _,fun _ _ _ h=>h⟩
theorem E5 {o:Oper}{a:Act}{d:DV}{drop:List Tmp}(nz:List (Nat×Nat))(h:∃v e' reg',e7 P n0 PR e al o a { d,drop} v e' reg'):∃v e' reg',e7 P n0 PR e al o a { d:=CX nz d,drop} v e' reg':=by
 obtain⟨v,e',reg',h⟩:=h
 exact⟨v,e',reg',h.run,h.st,h.mi,h.ext,h.bp,aeu nz h.res,h.slot⟩
theorem MI.nz (m:MI n0 PR e al){id:Nat}{o:Ob}(ho:e.st[id]? =some o)(nz:List (Nat×Nat)):
  MI n0 PR { e with st:=e.st.set id ⟨o.ver,gq nz o.cs⟩} al∧Ext e { e with st:=e.st.set id ⟨o.ver,gq nz o.cs⟩}:=by
 have hx:Ext e { e with st:=e.st.set id ⟨o.ver,gq nz o.cs⟩}:=by
  refine⟨fun _ h=>h,fun _ _=>rfl,by simp,fun j x x' h1 h2=>?_,fun _ _ h=>h⟩
  by_cases hj:j=id
  ·subst hj
   rw[ho]at h1;cases h1
   have h2:(e.st.set j ⟨o.ver,gq nz o.cs⟩)[j]? =some x':=h2
   rw[jy ho]at h2;cases h2
   exact⟨Nat.le_refl _,fun _=>rfl⟩
  ·have h2:(e.st.set id ⟨o.ver,gq nz o.cs⟩)[j]? =some x':=h2
   rw[ke (Ne.symm hj),h1]at h2;cases h2
   exact⟨Nat.le_refl _,fun _=>rfl⟩
 have get:∀j x,(e.st.set id ⟨o.ver,gq nz o.cs⟩)[j]? =some x->(j=id∧x=⟨o.ver,gq nz o.cs⟩)∨(j≠id∧e.st[j]? =some x):=fun j x hj=>by
  by_cases bM:j=id
  ·subst bM
   rw[jy ho]at hj;cases hj
   exact .inl ⟨rfl,rfl⟩
  ·rw[ke (Ne.symm bM)]at hj
   exact .inr ⟨bM,hj⟩
 have hlen:(gq nz o.cs).length=o.cs.length:=T4 nz o.cs
 refine⟨⟨m.eY,m.gm,m.dN,m.dz,m.ok,m.cE,fun j x hj=>?_,fun j x hj i hi=>?_,fun j x hj i d hd=>?_⟩,hx⟩
 ·rcases get j x hj with ⟨rfl,rfl⟩ | ⟨bw,cC⟩
  ·show(gq nz o.cs).length≤_
   rw[hlen];exact m.ext _ o ho
  ·exact m.ext j x cC
 ·rcases get j x hj with ⟨rfl,rfl⟩ | ⟨bw,cC⟩
  ·exact m.own _ o ho i hi
  ·exact m.own j x cC i hi
 ·rcases get j x hj with ⟨rfl,rfl⟩ | ⟨bw,cC⟩
  ·obtain⟨d0,h0,ab1⟩:=T3 nz o.cs i d hd
   obtain⟨h1,v,h2,h3⟩:=m.cell _ o ho i d0 h0
   rcases ab1 with rfl | ⟨aV,rfl⟩
   ·exact⟨h1,v,h2,h3.mono hx fun _ h=>h⟩
   ·exact⟨T2 aV h1,v,h2,NC aV (h3.mono hx fun _ h=>h)⟩
  ·obtain⟨h1,v,h2,h3⟩:=m.cell j x cC i d hd
   exact⟨h1,v,h2,h3.mono hx fun _ h=>h⟩
theorem aa7 {o:Oper}{a:Act}{r:Out}(nz:List (Nat×Nat))(nY:∀id ob,r.set=some (id,ob)->id<e.st.length)(h:∃v e' reg',e7 P n0 PR e al o a r v e' reg'):∃v e' reg',e7 P n0 PR e al o a (mj nz r) v e' reg':=by
 obtain⟨v,e',reg',h⟩:=h
 cases nz with
 | nil=>exact⟨v,e',reg',h⟩
 | cons x xs=>
  cases hs:r.set with
  | none=>
   refine⟨v,e',reg',h.run,?_,h.mi,h.ext,h.bp,h.res,h.slot⟩
   have:=h.st
   simp only[mj,hs,Option.map_none]at this ⊢
   exact this
  | some p=>
   obtain⟨id,ob⟩:=p
   have bz:=congrArg Prod.fst h.st
   have m7:=congrArg Prod.snd h.st
   simp only[hs,za]at bz m7
   have aQ:=nY id ob hs
   have BQ:e'.st[id]? =some ob:=by rw[bz];simp[aQ]
   obtain⟨m2,x2⟩:=h.mi.nz BQ (x::xs)
   refine⟨v,{ e' with st:=e'.st.set id ⟨ob.ver,gq (x::xs) ob.cs⟩},reg',h.run,?_,m2,h.ext.trans x2,h.bp,h.res.mono x2 (fun _ h=>h),h.slot⟩
   simp only[mj,hs,Option.map_some,za,bz,m7,List.set_set]
theorem VS {st:List Ob}{t:TypeId}{x v:DV}{p:Nat×Ob}(h:gS P st t x v=some p):p.1<st.length:=by
 unfold gS at h
 split at h
 ·split at h
  ·rename_i o ho
   split at h
   ·cases h;exact(List.getElem?_eq_some_iff.1 (mY ho).1).1
   ·cases h
  ·cases h
 ·cases h
theorem TR (m:MI n0 PR e al)(bt:∀a,¬al .res a){o:Oper}{x:Operand}(hf:∀t,RD e (al (.slot t)) (fr t) (tm.getD t undef))(hx:(execOp (⟨tm,df⟩:Act).eval o).run P e.w= .ok (.value ((⟨tm,df⟩:Act).eval x)) e.w):
  ∃v e' reg',e7 P n0 PR e al o ⟨tm,df⟩ { d:=raw fr x,drop:=iz x} v e' reg':=by
 cases x with
 | tmp t=>
  let q:Own->Addr->Prop:=fun p a=>match p with | .res=>al (.slot t) a | .slot u=>u≠t∧al p a | _=>al p a
  have hq:∀p a,q p a->(p= .res∧al (.slot t) a)∨(p≠ .slot t∧p≠ .res∧al p a):=fun p a h=>by
   cases p with
   | res=>exact .inl ⟨rfl,h⟩
   | slot u=>exact .inr ⟨fun hh=>h.1 (by injection hh),by simp,h.2⟩
   | ob j=>exact .inr ⟨by simp,by simp,h⟩
   | cell j i=>exact .inr ⟨by simp,by simp,h⟩
  refine⟨_,e,q,.inl hx,rfl,m.N0 (q:=q) ?_ ?_ (fun _ _ h=>h) (fun _ _ _ h=>h),Ext.refl e,cS.refl ..,hf t,fun u hu a h=>⟨fun hh=>hu (by simp[iz,hh]),h⟩⟩
  ·intro p a h
   rcases hq p a h with ⟨_,h⟩ | ⟨_,_,h⟩<;>exact⟨_,h⟩
  ·intro p p' a h1 h2
   rcases hq p a h1 with ⟨g1,g2⟩ | ⟨g1,mW,g2⟩<;>rcases hq p' a h2 with ⟨g3,g4⟩ | ⟨g3,L3,g4⟩
   ·rw[g1,g3]
   ·exact absurd (m.cE _ _ a g2 g4).symm g3
   ·exact absurd (m.cE _ _ a g4 g2).symm g1
   ·exact m.cE _ _ a g2 g4
 | const v=>exact⟨_,e,al,.inl hx,rfl,m,Ext.refl e,cS.refl ..,NL v,fun _ _ _ h=>h⟩
 | global g=>exact⟨_,e,al,.inl hx,rfl,m,Ext.refl e,cS.refl ..,.un,fun _ _ _ h=>h⟩
 | func f=>exact⟨_,e,al,.inl hx,rfl,m,Ext.refl e,cS.refl ..,.fn .nil .nil,fun _ _ _ h=>h⟩
theorem Sg (m:MI n0 PR e al){o:Oper}{a:Act}{x:DV}{v:Value}{r:Out}(h:mV e.st x=some r)(hx:(execOp a.eval o).run P e.w= .ok (.value v) e.w)(hr:∀s,RD e s x v):∃v e' reg',e7 P n0 PR e al o a r v e' reg':=by
 unfold mV at h
 split at h
 ·rename_i id ver off len aV xx
  split at h
  ·rename_i ob ew
   split at h
   ·rename_i cs cO
    cases h
    rw[Option.bind_eq_some_iff]at cO
    obtain⟨ds,gh,cO⟩:=cO
    obtain⟨g1,rfl⟩:=mY ew
    obtain⟨vs,hl,eH,kJ,hk⟩:=m.cells g1 gh
    obtain⟨q1,q2⟩:=m.Sc g1
    have cR:=hr (fun _=>False)
    cases cR with
    | ms hid hle gN hv=>
     rename_i a' cap
     obtain⟨p1,p2⟩:=(hv ob g1).2 rfl
     refine⟨_,{ e with im:=fun a=>e.im a∨al (.ob id) a,st:=e.st.set id ⟨ob.ver+1,[]⟩,io:=eh e.io id ⟨0,0,0⟩},_,.inl hx,(by rfl),q1,q2,cS.refl ..,?_,fun t _ x hx=>hx⟩
     have qN:bh e.im e.w cs vs:=uG cO hk kJ
     refine .c (.sl (qN.mono (fun _ h=>.inl h) (fun _ _=>rfl)) (fun i u hi=>?_) hle gN)
     have aQ:i<vs.length:=(List.getElem?_eq_some_iff.1 hi).1
     have BZ:len * aV≤cap * aV:=Nat.mul_le_mul_right _ hle
     rcases p1 with p1 | p1
     ·rw[p1]at BZ;omega
     ·subst p1
      refine⟨eH i u hi,.inr ?_⟩
      rw[mP]
      exact m.own id ob g1 _ (by omega)
   ·cases h
  ·cases h
 ·cases h
theorem TP {b:Bool}{xs:List DV}{vs:List Value}{d:DV}(h:s6 b xs=some d)(r:bd e xs vs)(args:Array Value)(ha:args.toList=vs)(ts:Array TypeId)(ty:TypeId):
  ∃u,((if b then Builtin.max_ else Builtin.min_) ts ty args).run P e.w= .ok u e.w∧∀s,RD e s d u:=by
 cases r with
 | nil=>simp[s6]at h
 | cons h1 h2=>
  simp only[s6]at h
  obtain⟨u,hu,hr⟩:=TO (P:=P) h h2 ⟨_,h1⟩
  refine⟨u,?_,hr⟩
  cases b<;>simpa[Builtin.max_,Builtin.min_,ha]using hu
theorem yz {st:List Ob}{id:Nat}{cs:List DV}{x:Nat×Ob}(h:lay st id cs=some x):x.2.mp.k=none:=by
 unfold lay at h
 split at h
 ·cases h;rfl
 ·cases h
theorem VT {st:List Ob}{t:TypeId}{x v:DV}{p:Nat×Ob}(h:gS P st t x v=some p):p.2.mp.k=none:=by
 unfold gS at h
 split at h
 ·split at h
  ·split at h
   ·cases h;rfl
   ·cases h
  ·cases h
 ·cases h
theorem YB {st:List Ob}{fG:Nat}{t t2:TypeId}{x y:DV}{r:Out}(h:mN P st fG t t2 x y=some r){id:Nat}{ob:Ob}(hs:r.set=some (id,ob)):ob.mp.k=none:=by
 unfold mN at h
 split at h
 ·split at h
  ·cases h
  ·split at h
   ·cases h
   ·split at h
    ·cases h
    ·split at h
     ·split at h
      ·rw[Option.map_eq_some_iff]at h
       obtain⟨a,ha,rfl⟩:=h
       cases hs;exact yz ha
      ·cases h
     ·split at h
      ·split at h
       ·split at h
        ·rw[Option.map_eq_some_iff]at h
         obtain⟨a,ha,rfl⟩:=h
         cases hs;rfl
        ·cases h
       ·cases h
      ·split at h
       ·rw[Option.map_eq_some_iff]at h
        obtain⟨a,ha,rfl⟩:=h
        cases hs;exact yz ha
       ·cases h
      ·cases h
 ·cases h
theorem aaR {st:List Ob}{t:TypeId}{x y:DV}{r:Out}(h:mR P st t x y=some r){id:Nat}{ob:Ob}(hs:r.set=some (id,ob)):ob.mp.k=none:=by
 unfold mR at h
 split at h
 ·split at h
  ·split at h
   ·split at h
    ·cases h;cases hs;rfl
    ·cases h
   ·cases h
  ·cases h
 ·cases h
theorem aau {st:List Ob}{t:TypeId}{x:DV}{r:Out}(h:oP P st t x=some r){id:Nat}{ob:Ob}(hs:r.set=some (id,ob)):ob.mp.k=none:=by
 unfold oP at h
 split at h
 ·split at h
  ·split at h
   ·cases h;cases hs;rfl
   ·cases h
  ·cases h
 ·cases h
theorem Sd {st:List Ob}{x:DV}{r:Out}(h:mV st x=some r){id:Nat}{ob:Ob}(hs:r.set=some (id,ob)):ob.mp.k=none:=by
 unfold mV at h
 split at h
 ·split at h
  ·split at h
   ·cases h;cases hs;rfl
   ·cases h
  ·cases h
 ·cases h
theorem T6 {nz:List (Nat×Nat)}{r:Out}(h:∀id ob,r.set=some (id,ob)->ob.mp.k=none){id:Nat}{ob:Ob}(hs:(mj nz r).set=some (id,ob)):ob.mp.k=none:=by
 unfold mj at hs
 split at hs
 ·exact h _ _ hs
 ·simp only[Option.map_eq_some_iff]at hs
  obtain⟨⟨i,o'⟩,_,h2⟩:=hs
  cases h2;rfl
theorem aeL {c:Site}{op:Op}{st:List Ob}{r:Out}(h:aI P c op fr st=some r)(lg:F2 op=false){id:Nat}{ob:Ob}(hs:r.set=some (id,ob)):ob.mp.k=none:=by
 have iM:∀{d:Option DV},val d=some r->ob.mp.k=none:=fun h=>by
  unfold val at h
  rw[Option.map_eq_some_iff]at h
  obtain⟨x,_,rfl⟩:=h
  cases hs
 cases op with
 | move x=>
  simp only[aI]at h
  split at h
  ·cases h;cases hs
  ·split at h
   ·exact Sd h hs
   ·cases h;cases hs
 | assign x=>
  simp only[aI]at h
  split at h
  ·cases h;cases hs
  ·split at h
   ·exact Sd h hs
   ·cases h;cases hs
 | pick b x y=>
  simp only[aI]at h
  split at h
  ·cases h;cases hs
  ·cases h
 | alloc t=>
  simp only[aI,Option.bind_eq_some_iff,Option.map_eq_some_iff]at h
  obtain⟨_,_,x,hx,rfl⟩:=h
  cases hs;exact yz hx
 | box t x=>
  simp only[aI,Option.bind_eq_some_iff,Option.map_eq_some_iff]at h
  obtain⟨_,_,x,hx,rfl⟩:=h
  cases hs;exact yz hx
 | build t ps=>
  simp only[aI]at h
  split at h
  ·split at h
   ·exact iM h
   ·cases h
  ·split at h
   ·exact iM h
   ·cases h
  ·cases h
 | buildSlice t n ps=>
  simp only[aI]at h
  split at h
  ·split at h
   ·split at h
    ·cases h
    ·split at h
     ·cases h
     ·split at h
      ·rw[Option.map_eq_some_iff]at h
       obtain⟨x,hx,rfl⟩:=h
       cases hs;exact yz hx
      ·rw[Option.map_eq_some_iff]at h
       obtain⟨x,hx,rfl⟩:=h
       cases hs
   ·cases h
  ·cases h
 | makeSlice t l cp=>
  simp only[aI]at h
  split at h
  ·split at h
   ·split at h
    ·split at h
     ·split at h
      ·rw[Option.map_eq_some_iff]at h
       obtain⟨_,_,rfl⟩:=h
       cases hs
      ·cases h
     ·rw[Option.map_eq_some_iff]at h
      obtain⟨x,hx,rfl⟩:=h
      cases hs;exact yz hx
    ·cases h
   ·cases h
  ·cases h
 | load t x=>
  simp only[aI]at h
  split at h
  ·split at h
   ·split at h
    ·rw[Option.map_eq_some_iff]at h
     obtain⟨x,hx,rfl⟩:=h
     cases hs;rfl
    ·cases h
   ·cases h
  ·exact iM h
 | store t x y=>
  simp only[aI]at h
  split at h
  ·simp only[Option.map_eq_some_iff]at h
   obtain⟨r1,⟨x,hx,rfl⟩,rfl⟩:=h
   exact T6 (fun _ _ hh=>by cases hh;exact VT hx) hs
  ·simp only[Option.map_eq_some_iff]at h
   obtain⟨r1,⟨x,hx,rfl⟩,rfl⟩:=h
   exact T6 (fun _ _ hh=>by cases hh;exact VT hx) hs
 | nilCheck x=>
  simp only[aI]at h
  split at h<;>first | (cases h;cases hs;done) | (cases h;done)
 | binOp op t x y _=>exact iM h
 | unOp op t x=>exact iM h
 | convert a b x=>exact iM h
 | makeFunc fn xs ys=>
  cases fn<;>simp only[aI]at h<;>first | (cases h;cases hs;done) | (cases h;done)
 | slice t x lo hi mx=>exact iM h
 | fieldAddr t x f=>exact iM h
 | field t x f=>exact iM h
 | indexAddr t x i=>exact iM h
 | index t x i=>exact iM h
 | extract x i=>
  simp only[aI]at h
  split at h
  ·exact iM h
  ·cases h
 | call k=>
  simp only[aI]at h
  split at h
  ·split at h
   ·exact iM h
   ·exact iM h
   ·exact iM h
   ·split at h
    ·split at h
     ·exact YB h hs
     ·rw[Option.map_eq_some_iff]at h
      obtain⟨x,hx,rfl⟩:=h
      cases hs
    ·cases h
   ·split at h
    ·exact aaR h hs
    ·cases h
   ·split at h
    ·exact aau h hs
    ·cases h
   ·cases h
  ·cases h
 | _=>first | (simp[aI]at h;done) | (cases lg;done)
theorem aeN (m:MI n0 PR e al)(bt:∀a,¬al .res a)(hf:∀t,RD e (al (.slot t)) (fr t) (tm.getD t undef)){o:Oper}{c:Site}{r:Out}(h:aI P c o.op fr e.st=some r)(lg:F2 o.op=false):(∃v e' reg',e7 P n0 PR e al o ⟨tm,df⟩ r v e' reg')∧∀id ob,r.set=some (id,ob)->ob.mp.k=none:=by
 refine⟨?_,fun id ob hs=>aeL h lg hs⟩
 have bB:∀x s,RD e s (ev fr x) ((⟨tm,df⟩:Act).eval x):=fun x s=>oW hf x
 cases ho:o.op with
 | move x=>
  rw[ho]at h
  simp only[aI]at h
  split at h
  ·cases h;exact E5 c.nz (TR m bt hf (by simp[execOp,ho]))
  ·split at h
   ·exact Sg m h (v:=(⟨tm,df⟩:Act).eval x) (by simp[execOp,ho]) (bB x)
   ·cases h;exact E5 c.nz (oR m (v:=(⟨tm,df⟩:Act).eval x) (by simp[execOp,ho]) (bB x))
 | assign x=>
  rw[ho]at h
  simp only[aI]at h
  split at h
  ·cases h;exact E5 c.nz (TR m bt hf (by simp[execOp,ho]))
  ·split at h
   ·exact Sg m h (v:=(⟨tm,df⟩:Act).eval x) (by simp[execOp,ho]) (bB x)
   ·cases h;exact E5 c.nz (oR m (v:=(⟨tm,df⟩:Act).eval x) (by simp[execOp,ho]) (bB x))
 | pick b x y=>
  rw[ho]at h
  simp only[aI]at h
  split at h
  ·rename_i b' hb
   cases h
   have:=bB b (fun _=>False)
   rw[hb]at this
   generalize BA:(⟨tm,df⟩:Act).eval b=ab at this
   cases this with
   | c this=>
    cases this
    cases b' with
    | true=>exact oR m (v:=(⟨tm,df⟩:Act).eval x) (by simp[execOp,ho,BA,asBool]) (bB x)
    | false=>exact oR m (v:=(⟨tm,df⟩:Act).eval y) (by simp[execOp,ho,BA,asBool]) (bB y)
  ·cases h
 | alloc t=>rw[ho]at h;exact Yi m ho h
 | box t x=>rw[ho]at h;exact ZU m ho bB h
 | build t ps=>rw[ho]at h;exact ZW m ho bB h
 | buildSlice t n ps=>rw[ho]at h;exact ZV m bt ho bB h
 | makeSlice t l cp=>rw[ho]at h;exact adH m bt ho bB h
 | load t x=>rw[ho]at h;exact adw m bt ho bB h
 | store t x y=>
  rw[ho]at h
  have key:∀r0,(if c.mv then(gS P e.st t (ev fr x) (raw fr y)).map fun e=>({ d:=.aX [],set:=some e,drop:=iz y}:Out)else(gS P e.st t (ev fr x) (ev fr y)).map fun e=>({ d:=.aX [],set:=some e}:Out))=some r0->r=mj c.nz r0->∃v e' reg',e7 P n0 PR e al o ⟨tm,df⟩ r v e' reg':=fun r0 h0 hr=>by
   rw[hr]
   refine aa7 c.nz (fun id ob hs=>?_) (ah5 m ho hf h0)
   split at h0
   ·rw[Option.map_eq_some_iff]at h0
    obtain⟨p,hp,rfl⟩:=h0
    simp only[Option.some.injEq]at hs
    subst hs
    exact VS (P:=P) hp
   ·rw[Option.map_eq_some_iff]at h0
    obtain⟨p,hp,rfl⟩:=h0
    simp only[Option.some.injEq]at hs
    subst hs
    exact VS (P:=P) hp
  simp only[aI]at h
  split at h
  ·rename_i kf
   rw[Option.map_eq_some_iff]at h
   obtain⟨r0,h0,rfl⟩:=h
   exact key r0 (by rw[if_pos kf];exact h0) rfl
  ·rename_i kf
   rw[Option.map_eq_some_iff]at h
   obtain⟨r0,h0,rfl⟩:=h
   exact key r0 (by rw[if_neg kf];exact h0) rfl
 | nilCheck x=>
  rw[ho]at h
  simp only[aI]at h
  have hx:=bB x
  split at h
  ·rename_i id ver off hd
   cases h
   rw[hd]at hx
   have h1:=hx (fun _=>False)
   generalize cM:(⟨tm,df⟩:Act).eval x=ax at h1 hx
   refine oR m (v:=ax) ?_ hx
   cases h1;simp[execOp,ho,cM]
  ·rename_i cs off hd
   cases h
   rw[hd]at hx
   have h1:=hx (fun _=>False)
   generalize cM:(⟨tm,df⟩:Act).eval x=ax at h1 hx
   refine oR m (v:=ax) ?_ hx
   cases h1;simp[execOp,ho,cM]
  ·rename_i f a b hd
   cases h
   rw[hd]at hx
   have h1:=hx (fun _=>False)
   generalize cM:(⟨tm,df⟩:Act).eval x=ax at h1 hx
   refine oR m (v:=ax) ?_ hx
   cases h1;simp[execOp,ho,cM]
  ·rename_i k hd
   cases h
   rw[hd]at hx
   have h1:=hx (fun _=>False)
   generalize cM:(⟨tm,df⟩:Act).eval x=ax at h1 hx
   refine oR m (v:=ax) ?_ hx
   cases h1;simp[execOp,ho,cM]
  ·cases h
 | binOp op t x y _=>
  rw[ho]at h
  simp only[aI]at h
  obtain⟨d,hd,rfl⟩:=cn h
  exact k9 m (ZO x y hd (bB x (fun _=>False)) (bB y (fun _=>False)) (fun h=>by rw[h];rfl)) (by simp[execOp,ho])
 | unOp op t x=>
  rw[ho]at h
  simp only[aI]at h
  obtain⟨d,hd,rfl⟩:=cn h
  exact k9 m (aiT hd (bB x (fun _=>False))) (by simp[execOp,ho])
 | convert a b x=>
  rw[ho]at h
  simp only[aI]at h
  obtain⟨d,hd,rfl⟩:=cn h
  exact k9 m (aaM hd (bB x (fun _=>False))) (by simp[execOp,ho])
 | makeFunc fn xs ys=>
  rw[ho]at h
  cases fn with
  | func f=>
   simp only[aI]at h
   cases h
   refine oR m (v:=.func (.func f) (xs.map (⟨tm,df⟩:Act).eval) (ys.map (⟨tm,df⟩:Act).eval)) (by simp[execOp,ho,Instr.makeFunc]) (fun s=>?_)
   have h1:=uQ (fr:=fr) (a:=⟨tm,df⟩) bB xs.toList
   have h2:=uQ (fr:=fr) (a:=⟨tm,df⟩) bB ys.toList
   have e1:∀(zs:Array Operand),zs.map (⟨tm,df⟩:Act).eval=⟨zs.toList.map (⟨tm,df⟩:Act).eval⟩:=fun zs=>by apply Array.ext';simp
   rw[e1,e1]
   exact .fn h1 h2
  | _=>simp[aI]at h
 | slice t x lo hi mx=>
  rw[ho]at h
  simp only[aI]at h
  obtain⟨d,hd,rfl⟩:=cn h
  exact k9 m (agf m hd (bB x (fun _=>False)) (RO.of (fun x=>⟨_,bB x (fun _=>False)⟩) lo) (RO.of (fun x=>⟨_,bB x (fun _=>False)⟩) hi) (RO.of (fun x=>⟨_,bB x (fun _=>False)⟩) mx)) (by simp[execOp,ho])
 | fieldAddr t x f=>
  rw[ho]at h
  simp only[aI]at h
  obtain⟨d,hd,rfl⟩:=cn h
  exact k9 m (aby hd (bB x (fun _=>False))) (by simp[execOp,ho])
 | field t x f=>
  rw[ho]at h
  simp only[aI]at h
  obtain⟨d,hd,rfl⟩:=cn h
  exact k9 m (abz hd (bB x (fun _=>False))) (by simp[execOp,ho])
 | indexAddr t x i=>
  rw[ho]at h
  simp only[aI]at h
  obtain⟨d,hd,rfl⟩:=cn h
  exact k9 m (acE hd (bB x (fun _=>False)) (bB i (fun _=>False))) (by simp[execOp,ho])
 | index t x i=>
  rw[ho]at h
  simp only[aI]at h
  obtain⟨d,hd,rfl⟩:=cn h
  exact k9 m (acG hd (bB x (fun _=>False)) (bB i (fun _=>False))) (by simp[execOp,ho])
 | extract x i=>
  rw[ho]at h
  simp only[aI]at h
  split at h
  ·rename_i ds hx
   obtain⟨d,hd,rfl⟩:=cn h
   rw[Option.map_eq_some_iff]at hd
   obtain⟨d0,BK,rfl⟩:=hd
   have:=bB x (fun _=>False)
   rw[hx]at this
   generalize cM:(⟨tm,df⟩:Act).eval x=ax at this
   cases this with
   | aX hr=>
    obtain⟨v,hv,fc⟩:=hr.get BK
    exact oR m (v:=v) (by simp[execOp,ho,cM,Instr.extract,hv]) (fun s=>fc.bx)
  ·cases h
 | call k=>
  rw[ho]at h
  simp only[aI]at h
  split at h
  ·rename_i b hb
   split at h
   ·rename_i x ha
    obtain⟨d,hd,rfl⟩:=cn h
    have eG:k.args=#[x]:=by apply Array.ext';simpa using ha
    have hm:k.args.map (⟨tm,df⟩:Act).eval=#[(⟨tm,df⟩:Act).eval x]:=by rw[eG];simp
    split at hd
    ·rename_i t ht
     exact k9 m (adj hd (bB x (fun _=>False)) k.argTypes ht o.type) (by simp[execOp,ho,resolve,hb,invoke,builtin,hm])
    ·cases hd
   ·rename_i xs
    obtain⟨d,hd,rfl⟩:=cn h
    obtain⟨u,hu,hr⟩:=TP (P:=P) (b:=false) hd (uQ (fr:=fr) (a:=⟨tm,df⟩) bB k.args.toList) (k.args.map (⟨tm,df⟩:Act).eval) (by simp) k.argTypes o.type
    exact k9 m ⟨u,hu,hr⟩ (by simp[execOp,ho,resolve,hb,invoke,builtin])
   ·rename_i xs
    obtain⟨d,hd,rfl⟩:=cn h
    obtain⟨u,hu,hr⟩:=TP (P:=P) (b:=true) hd (uQ (fr:=fr) (a:=⟨tm,df⟩) bB k.args.toList) (k.args.map (⟨tm,df⟩:Act).eval) (by simp) k.argTypes o.type
    exact k9 m ⟨u,hu,hr⟩ (by simp[execOp,ho,resolve,hb,invoke,builtin])
   ·rename_i x y ha
    split at h
    ·rename_i t t2 h0 h1
     split at h
     ·exact YD m ho hb ha hf h0 h1 h
     ·rw[Option.map_eq_some_iff]at h
      obtain⟨d,hd,rfl⟩:=h
      exact YF m bt ho hb ha hf h0 h1 hd
    ·cases h
   ·rename_i x y ha
    split at h
    ·rename_i t h0
     exact aaT m ho hb ha hf h0 h
    ·cases h
   ·rename_i x ha
    split at h
    ·rename_i t h0
     exact aaw m ho hb ha hf h0 h
    ·cases h
   ·cases h
  ·cases h
 | _=>rw[ho]at h lg;first | (simp[aI]at h;done) | (cases lg;done)
end
end Go.Abs
