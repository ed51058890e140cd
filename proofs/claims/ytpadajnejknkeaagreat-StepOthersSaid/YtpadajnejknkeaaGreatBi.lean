/-
  Part of the proof: printed by the session's own program out of the program's form, or typed; it states no claim by itself.
-/
import Derived.Test.YtpadajnejknkeaaGreatBh
import Derived.ProofKit
set_option linter.unusedVariables false
set_option linter.unusedSimpArgs false
set_option linter.unusedSectionVars false
namespace Go.Abs
open Go
variable [Fl]
variable [Gl]
section
variable {P:Program}{n0:Nat}{PR:Addr->Prop}{Γ:List (Nat×Ctx)}{e e':E}{al reg':Own->Addr->Prop}{m:M}{r:Option Nat}{k0 nt:Nat}{fr:Nat->DV}{a:Act}{rec:Rec}
theorem abh (hf:Fr r k0 nt Γ e al fr a)(fn:FuncId)(ps:Array Tmp)(as body:Code)(P:Program):
  ∃(l:Nat) (mark:List Nat) (w1:World) (rc:Loop),(Instr.enterLoop fn a.tmps ps as body r).run P e.w= .ok (l,mark.map Abs.mark) w1∧w1.heap[l]? =some (.loop rc)∧rc.params=ps∧rc.assign=as∧rc.body=body∧rc.tmps=a.tmps∧rc.state= .ready∧rc.pending=none∧
   e.w.heap.size≤l∧(∀b∈mark,e.w.heap.size≤b∧b<l∧w1.heap[b]? =some (.deferred (some [])))∧mark.Nodup∧w1.heap.size=l+1∧w1.os=e.w.os∧w1.tape=e.w.tape∧w1.output=e.w.output∧w1.drawn=e.w.drawn∧(∀i,i<e.w.heap.size->w1.heap[i]? =e.w.heap[i]?):=by
 cases hr:r with
 | none=>
  refine⟨e.w.heap.size+1,[e.w.heap.size],_,{ state:=.ready,pending:=none,fn,tmps:=a.tmps,params:=ps,assign:=as,body,defers:=e.w.heap.size},run_enterLoop_outer fn a.tmps ps as body,?_,rfl,rfl,rfl,rfl,rfl,rfl,by omega,?_,by simp,by simp,rfl,rfl,rfl,rfl,?_⟩
  ·have:=World.alloc_heap_new (e.w.alloc (.deferred (some []))) (.loop { state:=.ready,pending:=none,fn,tmps:=a.tmps,params:=ps,assign:=as,body,defers:=e.w.heap.size})
   rw[World.size_alloc]at this
   exact this
  ·intro b hb
   have:b=e.w.heap.size:=by simpa using hb
   subst this
   refine⟨Nat.le_refl _,by omega,?_⟩
   rw[heap_alloc _ _ _ (by simp)]
   exact World.alloc_heap_new _ _
  ·intro i hi
   rw[heap_alloc _ _ _ (by simp;omega),heap_alloc _ _ _ hi]
 | some l0=>
  obtain⟨⟨x,hx⟩,_⟩:=hf.ro l0 hr
  refine⟨e.w.heap.size,[],_,{ state:=.ready,pending:=none,fn,tmps:=a.tmps,params:=ps,assign:=as,body,defers:=x.defers},run_enterLoop_inner hx fn a.tmps ps as body,World.alloc_heap_new _ _,rfl,rfl,rfl,rfl,rfl,rfl,Nat.le_refl _,by simp,by simp,by simp,rfl,rfl,rfl,rfl,fun i hi=>heap_alloc _ _ _ hi⟩
theorem Rd {w w':World}(h:∀i,i<w.heap.size->w'.heap[i]? =w.heap[i]?)(a:Addr)(ha:a.block<w.heap.size):w'.cell? a=w.cell? a∧w'.frozen? a=w.frozen? a:=
 ⟨World.cell?_of_block (h _ ha),World.frozen?_of_block (h _ ha)⟩
theorem ac6 {w w':World}(h1:w'.os=w.os)(h2:w'.tape=w.tape)(h3:w'.output=w.output)(h5:w'.drawn=w.drawn)(h4:w.heap.size≤w'.heap.size)(h:∀i,i<w.heap.size->w'.heap[i]? =w.heap[i]?)(hn:n0≤w.heap.size)(hp:∀a,PR a->a.block<w.heap.size):
  cS n0 PR (fun _=>False) w w':=
 ⟨h1,h2,h3,h4,fun r hr=>h r (by omega),fun a ha=>Rd h a (hp a ha),fun r o hr _ _=>by rw[h r (Array.getElem?_eq_some_iff.1 hr).1];exact hr,fun _=>Nat.le_of_eq h5.symm⟩
theorem acK {f:FuncId}{us vs:List Value}{y:Value}(he:enters P f=true)(w:World):(invoke (.fn (.func f) ⟨vs⟩) (⟨us⟩++#[y])).run P w= .ok (.enter f ⟨us++[y]++vs⟩) w:=by
 unfold enters at he
 split at he
 ·rename_i fn BP
  simp only[Bool.and_eq_true,Bool.not_eq_true']at he
  have h1:¬(fn.name= "runtime.NumGoroutine"):=by simpa using he.1
  have h2:¬(fn.body=none):=fun hh=>by simp[hh]at he
  simp[invoke,callFunc,BP,h1,h2]
 ·cases he
theorem afd (hc:oI P rec){an:An}{f k:Nat}{g:Operand}{ps:Array Tmp}{as body:Code}:Kw P rec an f nt Γ k (.rangeFunc g ps as body):=by
 intro s s' ex h n0 PR r k0 e al a Q n st bt hf fE hK
 simp only[cq]at h
 split at h
 ·rename_i hid xs ys hg
  split at h
  ·cases h
  ·rename_i BM
   have Mi:enters P hid=true:=by simpa using BM
   split at h
   ·rename_i dv m1 qO
    split at h
    ·rename_i LV hex
     have vk:∃LW,ex=LW∧m1.pd[s.m.pd.length]? =some LW∧s'.fr=s.fr∧((s'.m=m1)∨zg s.m.st.length (.aX []) m1=some s'.m):=by
      split at h
      ·rw[Option.map_eq_some_iff]at h
       obtain⟨m2,Cf,hh⟩:=h
       cases hh
       exact⟨ex,rfl,hex,rfl,.inr Cf⟩
      ·cases h
       exact⟨ex,rfl,hex,rfl,.inl rfl⟩
     obtain⟨_,rfl,hex,sL,vk⟩:=vk
     have nU:=oW (tm:=a.tmps) (df:=a.defers) (s:=fun _=>False) hf.rd g
     rw[hg]at nU
     generalize sH:(⟨a.tmps,a.defers⟩:Act).eval g=ag at nU
     have abW:a.eval g=ag:=sH
     cases nU with
     | fn h1 h2=>
      rename_i us vs
      refine wpIn_rangeFunc fun fn _=>?_
      obtain⟨l,mk,w1,rc,hen,hl,pe,has,Mb,S9,bz,hpe,hle,Mv,ig,cc,l9,bu,B5,ho5,SL⟩:=abh hf fn ps as body P
      refine⟨l,mk.map mark,w1,{ target:=.fn (.func hid) ⟨vs⟩,args:=⟨us⟩++#[.func (.yield l) #[] #[]]},w1,hid,⟨us++[.func (.yield l) #[] #[]]++vs⟩,w1,hen,?_,fun _ _=>trivial,acK Mi w1,fun hh=>by simp[Fence.wide]at hh,?_⟩
      ·have hm1:(#[Operand.const (.func (.yield l) #[] #[])]:Array Operand).map a.eval=#[.func (.yield l) #[] #[]]:=by simp[Act.eval]
       simp only[resolve,abW,Deferred.ofValue,Sem.run_pure,hm1]
      ·-- Dw state behind Dw entry
       have na:cS n0 PR (fun _=>False) e.w w1:=ac6 l9 bu B5 ho5 (by omega) SL st.mi.dz st.mi.dN
       have FK:∀(k l':Nat),e.la[k]? =some l'->(e.la++[l])[k]? =some l':=fun k l' hh=>by rw[List.getElem?_append_left (List.getElem?_eq_some_iff.1 hh).1];exact hh
       obtain⟨cz,x1⟩:=st.mi.world (w':=w1) (la':=e.la++[l]) (by omega) (fun a ha=>Rd SL a ha) FK
       let e1:E:={ e with w:=w1,la:=e.la++[l]}
       let cx:Ctx:={ f,nt,fr:=fun t=>bx (s.fr t),params:=ps,assign:=as,body}
       have sQ:(e.la++[l])[s.m.pd.length]? =some l:=by rw[←st.la];simp
       have SS:∀k x,(k,x)∈Γ->k<s.m.pd.length:=fun k x hm=>by
        obtain⟨l0,_,kH,_⟩:=st.gi.at_ k x hm
        rw[←st.la];exact(List.getElem?_eq_some_iff.1 kH).1
       have g0:GI n0 e1 Γ s.m.pd:=st.gi.bp x1 na (fX.of_eq rfl)
       have g1:GI n0 e1 ((s.m.pd.length,cx)::Γ) (s.m.pd++[.normal]):=by
        refine⟨g0.gl,g0.mp,fun k x hm=>?_,fun k k' x x' l' hm ie gj m6=>?_⟩
        ·rcases List.mem_cons.1 hm with hm | hm
         ·cases hm
          refine⟨l,rc,sQ,hl,pe,has,Mb,by rw[S9];exact hf.nt,fun t=>?_,?_⟩
          ·rw[S9]
           exact((hf.rd t).mono x1 (fun _ h=>h)).bx
          ·simp only[List.getElem?_append_right (Nat.le_refl _),Nat.sub_self,List.getElem?_cons_zero]
           exact⟨bz,hpe⟩
         ·obtain⟨l0,r0,h0,cb⟩:=g0.at_ k x hm
          refine⟨l0,r0,h0,cb.heap,cb.params,cb.assign,cb.body,cb.nt,cb.rd,?_⟩
          rw[List.getElem?_append_left (SS k x hm)];exact cb.state
        ·have low:∀k x,(k,x)∈Γ->(e.la++[l])[k]? ≠some l:=fun k x hm hh=>by
          obtain⟨l0,_,h0,_⟩:=st.gi.at_ k x hm
          have uY:=FK _ _ h0
          rw[hh]at uY;cases uY
          have:=st.lt l (List.mem_of_getElem? h0)
          omega
         rcases List.mem_cons.1 hm with hm | hm<;>rcases List.mem_cons.1 ie with ie | ie
         ·cases hm;cases ie;rfl
         ·cases hm
          have gj:(e.la++[l])[s.m.pd.length]? =some l':=gj
          rw[sQ]at gj;cases gj
          exact absurd m6 (low k' x' ie)
         ·cases ie
          have m6:(e.la++[l])[s.m.pd.length]? =some l':=m6
          rw[sQ]at m6;cases m6
          exact absurd gj (low k x hm)
         ·exact g0.inj k k' x x' l' hm ie gj m6
       have cP:St n0 PR ((s.m.pd.length,cx)::Γ) e1 al { s.m with pd:=s.m.pd++[.normal]}:=by
        refine⟨st.st,by simp[e1,st.la],fun l' l7=>?_,cz,g1⟩
        show n0≤l'∧l'<w1.heap.size
        have B3:=st.mi.dz
        rcases List.mem_append.1 l7 with hh | hh
        ·have:=st.lt l' hh;omega
        ·simp at hh;omega
       obtain⟨sh,kI,qQ,hZ⟩:=cP.BS bt
       have eG:bd e1 (xs++[.yl s.m.pd.length]++ys) (us++[.func (.yield l) #[] #[]]++vs):=
        ((h1.mono x1).append (.cons (.yl sQ) .nil)).append (h2.mono x1)
       have lf:=hc.call _ _ _ _ _ _ qO n0 _ e1 _ _ (n - 1) sh kI qQ eG
       refine CallsIn.kb r (CallsIn.mono lf fun en w' hb=>?_)
       obtain⟨v,e2,dO,rfl,rfl,cf,iS,_,il⟩:=hZ _ _ _ _ hb
       obtain⟨l',r2,l7,BF⟩:=cf.gi.at_ s.m.pd.length cx (by simp)
       have:l'=l:=by have:=iS.ext.la _ _ sQ;rw[l7]at this;cases this;rfl
       subst this
       have ph:=BF.state
       rw[hex]at ph
       have hnb:r2.state≠ .busy:=by
        cases ex with
        | normal=>obtain⟨h1,_⟩:=ph;rw[h1];simp
        | exit id=>obtain⟨h1,_⟩:=ph;rw[h1];simp
        | ret=>obtain⟨h1,_⟩:=ph;rw[h1];simp
       have jg:=run_endLoop (P:=P) BF.heap hnb
       let w4:=e2.w.putObj l' (.loop { r2 with state:=.exhausted})
       obtain⟨mi3,x3⟩:=cf.mi.world (w':=w4) (la':=e2.la) (by simp[w4]) (fun a _=>tw BF.heap rfl rfl a) (fun _ _ h=>h)
       let e3:E:={ e2 with w:=w4}
       have MP:Ext e e3:=(x1.trans iS.ext).trans x3
       have abU:∀rr,X Γ e.la rr->rr<e.w.heap.size:=fun rr hX=>by
        obtain⟨k,x,hm,hh⟩:=hX
        exact(st.lt rr (List.mem_of_getElem? hh)).2
       have abV:∀rr,rr<e.w.heap.size->¬X Γ e.la rr->¬X ((s.m.pd.length,cx)::Γ) e1.la rr:=fun rr aQ hn hX=>by
        obtain⟨k,x,hm,hh⟩:=hX
        rcases List.mem_cons.1 hm with hm | hm
        ·cases hm
         have hh:(e.la++[l'])[s.m.pd.length]? =some rr:=hh
         rw[sQ]at hh;cases hh
         omega
        ·obtain⟨l0,_,h0,_⟩:=st.gi.at_ k x hm
         have uY:=FK _ _ h0
         have hh:(e.la++[l'])[k]? =some rr:=hh
         rw[hh]at uY;cases uY
         exact hn ⟨k,x,hm,h0⟩
       have ve:∀rr,rr≠l'->w4.heap[rr]? =e2.w.heap[rr]? :=fun rr bw=>World.putObj_heap_other bw
       have ac5:cS n0 PR (fun r=>X Γ e.la r∨MB e r) e.w w4:=by
        have k2:=iS.bp
        have kp:cS n0 PR (fun rr=>rr=l') e2.w w4:=NY BF.heap rfl rfl (by have:=st.mi.dz;omega)
        refine⟨kp.os.trans (k2.os.trans na.os),kp.tape.trans (k2.tape.trans na.tape),kp.output.trans (k2.output.trans na.output),Nat.le_trans na.size (Nat.le_trans k2.size kp.size),fun rr hr=>(kp.bC rr hr).trans ((k2.bC rr hr).trans (na.bC rr hr)),
         fun x hx=>⟨(kp.pr x hx).1.trans ((k2.pr x hx).1.trans (na.pr x hx).1),(kp.pr x hx).2.trans ((k2.pr x hx).2.trans (na.pr x hx).2)⟩,fun rr o hr ib hn=>?_,fun hd=>Nat.le_trans (na.dr hd) (Nat.le_trans (k2.dr hd) (kp.dr hd))⟩
        have aQ:rr<e.w.heap.size:=(Array.getElem?_eq_some_iff.1 hr).1
        rw[ve rr (by omega)]
        exact k2.obj rr o (na.obj rr o hr ib (fun h=>h)) ib (fun hh=>hh.elim (abV rr aQ fun h=>hn (.inl h)) fun hb=>hn (.inr hb))
       have ns:To n0 PR Γ e e3:=by
        refine⟨MP,ac5,fun rr hr=>(iS.maps rr hr).imp (fun h=>h) (fun h=>Nat.le_trans na.size h),fun rr x hX hh=>?_⟩
        have aQ:=abU rr hX
        obtain⟨r',mZ,L6⟩:=iS.loops rr x (by
         obtain⟨k,c,hm,hk⟩:=hX
         exact⟨k,c,by simp[hm],FK _ _ hk⟩) (na.obj rr _ hh rfl (fun h=>h))
        exact⟨r',by show w4.heap[rr]? =_;rw[ve rr (by omega)];exact mZ,L6⟩
       have g3:GI n0 e3 Γ m1.pd:=by
        refine⟨st.gi.gl.to MP,cf.gi.mp.to x3 (fX.of_eq rfl) (fun rr o hb ho=>by
         show w4.heap[rr]? =_
         rw[ve rr (fun hh=>MB.not cf.gi BF.heap rfl (hh▸hb))];exact ho),fun k x hm=>?_,fun k k' x x' lx hm ie=>cf.gi.inj k k' x x' lx (by simp[hm]) (by simp[ie])⟩
        obtain⟨lk,rk,SO,cb⟩:=cf.gi.at_ k x (by simp[hm])
        have bw:lk≠l':=fun hh=>by
         subst hh
         have:=cf.gi.inj k s.m.pd.length x cx lk (by simp[hm]) (by simp) SO l7
         have:=SS k x hm
         omega
        exact⟨lk,rk,SO,by show w4.heap[lk]? =_;rw[ve lk bw];exact cb.heap,cb.params,cb.assign,cb.body,cb.nt,fun t=>(cb.rd t).mono x3 (fun _ h=>h),cb.state⟩
       have lB:St n0 PR Γ e3 (fq dO none) m1:=⟨cf.st,cf.la,fun l hl=>by show n0≤l∧l<w4.heap.size;have:=cf.lt l hl;simpa[w4]using this,mi3.fq none,g3⟩
       have FD:Fr r k0 nt Γ e3 (fq dO none) s.fr { a with defers:=mk.map mark++a.defers}:=by
        refine⟨fun t=>(hf.rd t).mono MP fun x hx=>?_,hf.nt,?_,hf.N2 st.gi ns⟩
        ·simp only[fq]
         split
         ·rename_i hh;cases hh
         ·exact il t x hx
        ·obtain⟨rs,h1,h2,h3⟩:=hf.Rz st.gi ns
         refine⟨mk++rs,by simp[h1],List.nodup_append.2 ⟨ig,h2,fun x hx y hy MQ=>?_⟩,fun b hb=>?_⟩
         ·subst MQ
          obtain⟨rs0,mZ,_,Bx⟩:=hf.df
          have Mv:=(Mv x hx).1
          have:mark x∈a.defers:=by rw[h1];exact List.mem_map.2 ⟨x,hy,rfl⟩
          rw[mZ]at this
          obtain⟨x',bN,gN⟩:=List.mem_map.1 this
          have acA:x'=x:=by simp[mark]at gN;exact gN
          subst acA
          have:=(Array.getElem?_eq_some_iff.1 (Bx x' bN).2).1
          omega
         ·rcases List.mem_append.1 hb with hb | hb
          ·obtain⟨q1,q2,q3⟩:=Mv b hb
           refine⟨by omega,?_⟩
           show w4.heap[b]? =_
           rw[ve b (by omega)]
           refine iS.obj g1 q3 rfl rfl fun hX=>?_
           obtain⟨lx,vb⟩:=X.loop g1 hX
           have vb:w1.heap[b]? =some (.loop lx):=vb
           rw[q3]at vb;cases vb
          ·exact h3 b hb
       have hQ:Q (R1 ex) { a with defers:=mk.map mark++a.defers} w4:=by
        rcases vk with vk | vk
        ·exact hK _ e3 _ (by rw[vk];exact lB) (vH _ _) (by rw[sL];exact FD) ns
        ·obtain⟨e4,Te,st4,OL,_⟩:=Wl vk lB st.gi (by rw[st.st];exact Nat.le_refl _) ns (RD.aX (s:=fun _=>False) .nil)
         have:=hK { a with defers:=mk.map mark++a.defers} e4 _ st4 (vH _ _) (by
          rw[sL]
          refine⟨fun t=>(hf.rd t).mono OL.ext fun x hx=>?_,FD.nt,by rw[Te];exact FD.df,hf.N2 st.gi OL⟩
          simp only[fq]
          split
          ·rename_i hh;cases hh
          ·exact il t x hx) OL
         rw[Te]at this
         exact this
       refine⟨r2.pending,w4,jg,?_⟩
       cases ex with
       | normal=>
        obtain⟨_,hp⟩:=ph
        rw[hp];exact hQ
       | exit id=>
        obtain⟨_,hp⟩:=ph
        rw[hp];exact wpIn_exit hQ
       | ret=>
        obtain⟨_,hp⟩:=ph
        rw[hp];exact wpIn_ret hQ
    ·cases h
   ·cases h
 ·cases h
theorem zb {P:Program}{b:Frame}{a:Act}{k:List Item}{cs:List Frame}{w:World}{c:Code}:step P (lone (b.atR a (.code (.scope c)::k)) cs w)= .next (lone (b.atR a (.code c:: .inScope c::k)) cs w):=
 step_lone_go (by simp[stepG,stepG.exec,Frame.atR])
theorem agV {P:Program}{b:Frame}{a:Act}{k:List Item}{cs:List Frame}{w:World}{c:Code}:step P (lone (b.atR a (.inScope c::k)) cs w)= .next (lone (b.atR a k) cs w):=
 step_lone_go (by simp[stepG,stepG.exec,Frame.atR])
theorem aqa {F:Fence}{n:Nat}{P:Program}{Q:Exit->Act->World->Prop}{a:Act}{w:World}{c:Code}(h:c.wpIn F n P (fun e a w=>match e with | .goto _=>False | e=>Q e a w) a w):(Code.scope c).wpIn F n P Q a w:=by
 intro b k cs qP hb hr
 have h0:(lone (b.atR a (.code (.scope c)::k)) cs w).fenced P F:=fenced_calm hb hr rfl
 obtain⟨e,a₁,w₁,hq,x8⟩:=h b (.inScope c::k) cs qP hb hr
 cases e with
 | normal=>exact⟨.normal,a₁,w₁,hq,.head h0 zb (StepsIn.trans x8 (.one (fenced_calm hb hr rfl) agV))⟩
 | exit id=>
  have hx:exitTo id (.inScope c::k)=exitTo id k:=by simp[exitTo]
  exact⟨.exit id,a₁,w₁,hq,fun k' hk=>.head h0 zb (x8.1 k' (by rw[hx];exact hk)),
   fun fc hk=>let ⟨k₁,h1,h2⟩:=x8.2 fc (by rw[hx];exact hk);⟨k₁,h1,.head h0 zb h2⟩⟩
 | goto l=>exact hq.elim
 | ret=>exact⟨_,a₁,w₁,hq,.of_steps (.one h0 zb) x8⟩
 | panic ch=>exact⟨_,a₁,w₁,hq,.of_steps (.one h0 zb) x8⟩
 | outgrown=>exact⟨_,a₁,w₁,hq,.of_steps (.one h0 zb) x8⟩
theorem oQ (hm:P.follows .mixedOrders=true)(hc:oI P rec)(cR:sg P rec){an:An}{f k:Nat}:∀c:Code,Kw P rec an f nt Γ k c
 | .skip=>by
  intro s s' ex h n0 PR r k0 e al a Q n st bt hf fE hK
  simp only[cq]at h;cases h
  exact wpIn_skip (hK a e al st bt hf (To.refl ..))
 | .region cd ops draw=>by
  intro s s' ex h n0 PR r k0 e al a Q n st bt hf fE hK
  simp only[cq]at h
  rw[Option.map_eq_some_iff]at h
  obtain⟨s1,hs,hh⟩:=h
  cases hh
  exact afI hm hc cR hs st bt hf hK n
 | .seq x y=>by
  intro s s' ex h n0 PR r k0 e al a Q n st bt hf fE hK
  have qZ:=oQ hm hc cR (an:=an) (f:=f) (k:=k) x
  have MX:=oQ hm hc cR (an:=an) (f:=f) (k:=k) y
  simp only[cq]at h
  refine wpIn_seq ?_
  split at h
  ·rename_i s1 vf
   refine qZ s s1 .normal vf n0 PR r k0 e al a _ n st bt hf fE fun a' e1 dK cP ma ic eM=>?_
   exact MX s1 s' ex h n0 PR r k0 e1 dK a' Q n cP ma ic (Nat.le_trans fE eM.size) fun a2 e2 dO cf FP qF iS=>hK a2 e2 dO cf FP qF (eM.trans st.gi iS)
  ·rename_i bw
   cases ex with
   | normal=>exact absurd h (bw s')
   | _=>exact qZ s s' _ h n0 PR r k0 e al a _ n st bt hf fE fun a' e1 dK cP ma ic eM=>hK a' e1 dK cP ma ic eM
 | .cond x y z=>by
  intro s s' ex h n0 PR r k0 e al a Q n st bt hf fE hK
  have MX:=oQ hm hc cR (an:=an) (f:=f) (k:=k) y
  have ihz:=oQ hm hc cR (an:=an) (f:=f) (k:=k) z
  simp only[cq]at h
  have hx:=oW (tm:=a.tmps) (df:=a.defers) (s:=fun _=>False) hf.rd x
  split at h
  ·rename_i hv
   rw[hv]at hx
   generalize cM:(⟨a.tmps,a.defers⟩:Act).eval x=ax at hx
   cases hx with
   | c hx=>
    cases hx
    exact wpIn_cond_true cM (MX s s' ex h n0 PR r k0 e al a Q n st bt hf fE hK)
  ·rename_i hv
   rw[hv]at hx
   generalize cM:(⟨a.tmps,a.defers⟩:Act).eval x=ax at hx
   cases hx with
   | c hx=>
    cases hx
    exact wpIn_cond_false cM (ihz s s' ex h n0 PR r k0 e al a Q n st bt hf fE hK)
  ·cases h
 | .block id x=>by
  intro s s' ex h n0 PR r k0 e al a Q n st bt hf fE hK
  have qZ:=oQ hm hc cR (an:=an) (f:=f) (k:=k) x
  simp only[cq]at h
  refine wpIn_block ?_
  split at h
  ·rename_i cr s1 vf
   cases h
   refine qZ s _ (.exit cr) vf n0 PR r k0 e al a _ n st bt hf fE fun a' e1 dK cP ma ic eM=>?_
   have hQ:=hK a' e1 dK cP ma ic eM
   show(if cr=id then Q .normal a' e1.w else Q (.exit cr) a' e1.w)
   split
   ·rename_i hh;rw[if_pos hh]at hQ;exact hQ
   ·rename_i hh;rw[if_neg hh]at hQ;exact hQ
  ·rename_i bw
   cases ex with
   | exit cr=>exact absurd h (bw cr s')
   | _=>exact qZ s s' _ h n0 PR r k0 e al a _ n st bt hf fE fun a' e1 dK cP ma ic eM=>hK a' e1 dK cP ma ic eM
 | .loop x=>by
  intro s s' ex h n0 PR r k0 e al a Q n st bt hf fE hK
  have qZ:=oQ hm hc cR (an:=an) (f:=f) (k:=k) x
  simp only[cq]at h
  exact wpIn_loop_rounds k (TL qZ st.gi (by rw[st.st];exact Nat.le_refl _) hK n k s a e al h st bt hf fE (To.refl ..))
 | .exit id=>by
  intro s s' ex h n0 PR r k0 e al a Q n st bt hf fE hK
  simp only[cq]at h;cases h
  exact wpIn_exit (hK a e al st bt hf (To.refl ..))
 | .ret=>by
  intro s s' ex h n0 PR r k0 e al a Q n st bt hf fE hK
  simp only[cq]at h;cases h
  exact wpIn_ret (hK a e al st bt hf (To.refl ..))
 | .rangeFunc g ps as body=>afd hc
 | .scope x=>by
  intro s s' ex h n0 PR r k0 e al a Q n st bt hf fE hK
  have qZ:=oQ hm hc cR (an:=an) (f:=f) (k:=k) x
  simp only[cq]at h
  refine aqa (qZ s s' ex h n0 PR r k0 e al a _ n st bt hf fE fun a' e' reg' st' yk l6 to=>?_)
  have:=hK a' e' reg' st' yk l6 to
  cases ex<;>exact this
 | .label l=>by
  intro s s' ex h n0 PR r k0 e al a Q n st bt hf fE hK
  simp only[cq]at h;cases h
  exact wpIn_label (hK a e al st bt hf (To.refl ..))
 | .goto l=>by intro s s' ex h;simp[cq]at h
 | .refuse l=>by intro s s' ex h;simp[cq]at h
end
end Go.Abs
namespace Go.Abs
open Go
variable [Fl]
variable [Gl]
section
variable {P:Program}{n0:Nat}{PR:Addr->Prop}{Γ:List (Nat×Ctx)}{e e':E}{al reg':Own->Addr->Prop}{m:M}{r:Option Nat}{k0 nt:Nat}{fr:Nat->DV}{a:Act}{rec:Rec}
theorem YG {args:List DV}{vs:List Value}(h:bd e args vs)(k t:Nat)(s:Addr->Prop):RD e s (mO args t) ((⟨vs⟩++Array.replicate k undef:Array Value).getD t undef):=by
 unfold mO
 cases ha:args[t]? with
 | none=>exact .un
 | some d=>
  obtain⟨v,hv,hr⟩:=h.get ha
  have:(⟨vs⟩++Array.replicate k undef:Array Value).getD t undef=v:=by
   have aQ:t<vs.length:=(List.getElem?_eq_some_iff.1 hv).1
   rw[Array.getD_eq_getD_getElem?,Array.getElem?_append_left (by simpa using aQ)]
   simp[hv]
  rw[this]
  exact hr.fV (fun _ h=>h.elim)
def pC (al:Own->Addr->Prop)(t:Option Nat):Own->Addr->Prop:=fun p a=>match p with
 | .res=>∃u,t=some u∧al (.slot u) a
 | .slot _=>False
 | p=>al p a
theorem NS {t:Option Nat}{p:Own}{a:Addr}(h:pC al t p a):∃p',al p' a∧((p= .res∧∃u,t=some u∧p'= .slot u)∨(p'=p∧p≠ .res∧∀u,p≠ .slot u)):=by
 cases p with
 | res=>obtain⟨u,hu,h⟩:=h;exact⟨_,h,.inl ⟨rfl,u,hu,rfl⟩⟩
 | slot u=>exact h.elim
 | ob j=>exact⟨_,h,.inr ⟨rfl,by simp,by simp⟩⟩
 | cell j i=>exact⟨_,h,.inr ⟨rfl,by simp,by simp⟩⟩
theorem MI.pC (mi:MI n0 PR e al)(t:Option Nat):MI n0 PR e (Abs.pC al t):=by
 refine mi.N0 (fun p a h=>let ⟨p',h',_⟩:=NS h;⟨p',h'⟩) (fun p p' a h1 h2=>?_) (fun j a h=>h) (fun j i a h=>h)
 obtain⟨u,hu,qU⟩:=NS h1
 obtain⟨u',ff,pn⟩:=NS h2
 have heq:=mi.cE _ _ _ hu ff
 rcases qU with ⟨rfl,x,hx,rfl⟩ | ⟨rfl,FL,B4⟩<;>rcases pn with ⟨rfl,y,hy,rfl⟩ | ⟨rfl,aqr,acj⟩
 ·rfl
 ·exact absurd heq.symm (acj x)
 ·exact absurd heq (B4 y)
 ·exact heq
theorem TX (t:Option Nat):se (pC al t):=fun _ _ h=>h
inductive sf (e:E)(al:Own->Addr->Prop):List DV->List Value->Prop
 | nil:sf e al [] []
 | cons {d:DV}{v:Value}{ds:List DV}{vs:List Value} (t:Option Nat) (h:RD e (fun a=>∃u,t=some u∧al (.slot u) a) d v) (hs:sf e al ds vs):sf e al (d::ds) (v::vs)
theorem sf.aX {ds:List DV}{vs:List Value}(h:sf e al ds vs):bd e (ds.map bx) vs:=by
 induction h with
 | nil=>exact .nil
 | cons t h hs ih=>exact .cons h.bx ih
theorem N1 (mi:MI n0 PR e al){tm:Array Value}{s:S}(bz:e.st=s.m.st)(hf:∀t,RD e (al (.slot t)) (s.fr t) (tm.getD t undef)){g:ResultVar->Sem Value}(kG:∀t,g (.tmp t)=pure (tm.getD t undef))(nT:∀a t,g (.cell a t)=do loadVar t (←asAddr (tm.getD a undef))):
  ∀{rs:List ResultVar}{ds:List DV},jW P s rs=some ds->∃us,(rs.mapM g).run P e.w= .ok us e.w∧sf e al ds us
 | [],ds,h=>by simp only[jW]at h;cases h;exact⟨[],rfl,.nil⟩
 | .tmp t::rs,ds,h=>by
  simp only[jW]at h
  rw[Option.map_eq_some_iff]at h
  obtain⟨cQ,h',rfl⟩:=h
  obtain⟨us,hu,hr⟩:=N1 mi bz hf kG nT h'
  refine⟨tm.getD t undef::us,?_,.cons (some t) ((hf t).fV fun a ha=>⟨t,rfl,ha⟩) hr⟩
  simp only[List.mapM_cons,Sem.run_bind,kG,Sem.run_pure,Result.andThen_ok,hu]
 | .cell a t::rs,ds,h=>by
  simp only[jW]at h
  split at h
  ·rename_i d cQ h1 h2
   cases h
   obtain⟨us,hu,hr⟩:=N1 mi bz hf kG nT h2
   have mb:=(hf a).bx (s':=fun _=>False)
   rw[←bz]at h1
   obtain⟨u,hl,pg⟩:=Nf (P:=P) mi (s':=fun _=>False) h1 mb
   have acp:∃ad,tm.getD a undef= .pointer (some ad):=by
    generalize tm.getD a undef=v at mb
    generalize bx (s.fr a)=x at h1 mb
    unfold iq at h1
    split at h1
    ·cases mb;exact⟨_,rfl⟩
    ·cases mb;exact⟨_,rfl⟩
    ·cases h1
   obtain⟨ad,Su⟩:=acp
   rw[Su]at hl
   simp only[Instr.loadAt,Instr.sureAddr,pure_bind]at hl
   refine⟨u::us,?_,.cons none (pg.fV fun _ h=>h.elim) hr⟩
   have eH:(g (.cell a t)).run P e.w= .ok u e.w:=by
    rw[nT,Su]
    simp only[asAddr,pure_bind];exact hl
   simp only[List.mapM_cons,Sem.run_bind,eH,Sem.run_pure,Result.andThen_ok,hu]
  ·cases h
theorem afN (mi:MI n0 PR e al){tm:Array Value}{s:S}(bz:e.st=s.m.st)(hf:∀t,RD e (al (.slot t)) (s.fr t) (tm.getD t undef)){fn:Func}{ds:List DV}(h:jW P s fn.results.toList=some ds):
  ∃v t,(results fn tm).run P e.w= .ok v e.w∧RD e (pC al t .res) (lA ds) v:=by
 have key:∀g:ResultVar->Sem Value,(∀t,g (.tmp t)=pure (tm.getD t undef))->(∀a t,g (.cell a t)=do loadVar t (←asAddr (tm.getD a undef)))->
   ∃us,(do let vs←fn.results.mapM g;pure (if h:vs.size=1 then vs[0]else .tuple vs):Sem Value).run P e.w= .ok (if h:(⟨us⟩:Array Value).size=1 then(⟨us⟩:Array Value)[0]else .tuple ⟨us⟩) e.w∧sf e al ds us:=fun g kG nT=>by
  obtain⟨us,hu,hr⟩:=N1 (P:=P) mi bz hf kG nT h
  refine⟨us,?_,hr⟩
  rw[Array.mapM_eq_mapM_toList]
  simp only[Sem.run_bind,Sem.run_map,hu,Sem.run_pure,Result.andThen_ok]
 obtain⟨us,dJ,hr⟩:=key (fun | .tmp t=>pure (tm.getD t undef) | .cell a t=>do loadVar t (←asAddr (tm.getD a undef))) (fun _=>rfl) (fun _ _=>rfl)
 have MJ:(results fn tm).run P e.w=_:=dJ
 cases hr with
 | nil=>exact⟨_,none,MJ,by simp[lA];exact .aX .nil⟩
 | cons t hd hs=>
  cases hs with
  | nil=>exact⟨_,t,MJ,hd⟩
  | cons t' eO hs=>
   refine⟨_,none,MJ,?_⟩
   have gJ:=(sf.cons t hd (.cons t' eO hs)).aX
   simpa[lA]using RD.aX (s:=pC al none .res) gJ
theorem Tz {fn:Func}{tm:Array Value}{R:Ending->World->Prop}{F:Fence}{n:Nat}{e0:E}(B3:n0≤e0.w.heap.size):∀(rs:List Nat) (e:E) (al:Own->Addr->Prop),St n0 PR Γ e al m->To n0 PR Γ e0 e->rs.Nodup->
   (∀b∈rs,e0.w.heap.size≤b∧e.w.heap[b]? =some (.deferred (some [])))->
   (∀e',St n0 PR Γ e' al m->Ext e e'->To n0 PR Γ e0 e'->∃v,(results fn tm).run P e'.w= .ok v e'.w∧R (.returned v) e'.w)->LeavesInM F n P fn tm R (rs.map mark) .returning e.w
 | [],e,al,st,to,_,_,h=>h e st (Ext.refl e) to
 | b::rs,e,al,st,to,ig,hb,h=>by
  obtain⟨hb0,jP⟩:=hb b (by simp)
  refine⟨by simp,.inl ⟨b,_,rfl,run_takeDeferred jP,?_⟩⟩
  let w2:=e.w.putObj b (.deferred none)
  obtain⟨Nn,x2⟩:=st.mi.world (w':=w2) (la':=e.la) (by simp[w2]) (fun a _=>tw jP rfl rfl a) (fun _ _ h=>h)
  let e2:E:={ e with w:=w2}
  have nW:∀rr,rr≠b->w2.heap[rr]? =e.w.heap[rr]? :=fun rr bw=>World.putObj_heap_other bw
  have kp:cS n0 PR (fun rr=>rr=b) e.w w2:=NY jP rfl rfl (by omega)
  have FM:∀l,X Γ e.la l->l≠b:=fun l hX hh=>by
   obtain⟨lx,vb⟩:=X.loop st.gi hX
   subst hh
   rw[jP]at vb;cases vb
  have cf:St n0 PR Γ e2 al m:=⟨st.st,st.la,fun l hl=>by show n0≤l∧l<w2.heap.size;have:=st.lt l hl;simpa[w2]using this,Nn,st.gi.to x2 (fX.of_eq rfl) (fun rr o hb ho=>by show w2.heap[rr]? =_;rw[nW rr (fun hh=>MB.not st.gi jP rfl (hh▸hb))];exact ho) fun l rc hX hr=>by show w2.heap[l]? =_;rw[nW l (FM l hX)];exact hr⟩
  have iS:To n0 PR Γ e0 e2:=by
   have k2:=to.bp
   refine⟨to.ext.trans x2,⟨kp.os.trans k2.os,kp.tape.trans k2.tape,kp.output.trans k2.output,Nat.le_trans k2.size kp.size,fun rr hr=>(kp.bC rr hr).trans (k2.bC rr hr),fun x hx=>⟨(kp.pr x hx).1.trans (k2.pr x hx).1,(kp.pr x hx).2.trans (k2.pr x hx).2⟩,fun rr o hr ib hn=>?_,fun hd=>Nat.le_trans (k2.dr hd) (kp.dr hd)⟩,fun r hr=>to.maps r hr,fun l rc hX hr=>?_⟩
   ·have:rr<e0.w.heap.size:=(Array.getElem?_eq_some_iff.1 hr).1
    show w2.heap[rr]? =_
    rw[nW rr (by omega)];exact k2.obj rr o hr ib hn
   ·have:l<e0.w.heap.size:=(Array.getElem?_eq_some_iff.1 hr).1
    show∃r':Loop,w2.heap[l]? =_∧_
    rw[nW l (by omega)];exact to.loops l rc hX hr
  rw[List.nodup_cons]at ig
  exact Tz B3 rs e2 al cf iS ig.2 (fun b' dt=>⟨(hb b' (by simp[dt])).1,by show w2.heap[b']? =_;rw[nW b' (fun hh=>ig.1 (hh▸dt))];exact(hb b' (by simp[dt])).2⟩)
   (fun e' h1 h2 h3=>h e' h1 (x2.trans h2) h3)
theorem Z5 (hm:P.follows .mixedOrders=true)(hc:oI P rec)(cR:sg P rec){an:An}{k:Nat}{f:FuncId}{args:List DV}{d:DV}{m':M}(h:A4 P an rec k Γ f args m=some (d,m')){vs:List Value}(n:Nat)(st:St n0 PR Γ e al m)(bt:iD al)
  (iL:se al) (hr:bd e args vs):CallsIn Fence.wide n P f ⟨vs⟩ e.w (lN n0 PR Γ e d m'):=by
 unfold A4 at h
 split at h
 ·cases h
 ·rename_i fn BP
  split at h
  ·cases h
  ·rename_i c Mb
   refine callsIn_of_wp_marks BP Mb trivial ?_
   have main:∀(ex:Ex) (s:S),cq P rec an f fn.ntmps Γ k c ⟨mO args,m⟩=some (ex,s)->(∀id,ex≠ .exit id)->(jW P s fn.results.toList).map (fun ds=>(lA ds,s.m))=some (d,m')->
     c.wpIn Fence.wide n P (bodyPostM Fence.wide n P fn (lN n0 PR Γ e d m')) { tmps:=⟨vs⟩++Array.replicate (fn.ntmps - (⟨vs⟩:Array Value).size) undef,defers:=[]} e.w:=by
    intro ex s sI bw FP
    rw[Option.map_eq_some_iff]at FP
    obtain⟨ds,gh,hh⟩:=FP
    cases hh
    refine oQ hm hc cR c ⟨mO args,m⟩ s ex sI n0 PR none e.w.heap.size e al _ _ n st bt ⟨fun t=>YG hr _ t _,by simp;omega,⟨[],rfl,List.nodup_nil,by simp⟩,by simp⟩ (Nat.le_refl _) fun a' e' reg' st' yk l6 to=>?_
    obtain⟨rs,FA,o8,hd3⟩:=l6.df
    have hl:LeavesInM Fence.wide n P fn a'.tmps (lN n0 PR Γ e (lA ds) s.m) a'.defers .returning e'.w:=by
     rw[FA]
     refine Tz st.mi.dz rs e' reg' st' to o8 hd3 fun e2 cf x2 iS=>?_
     obtain⟨v,t,hv,hrv⟩:=afN (P:=P) cf.mi cf.st (fun t=>(l6.rd t).mono x2 (fun _ h=>h)) gh
     exact⟨v,hv,e2,pC reg' t,rfl,⟨cf.st,cf.la,cf.lt,cf.mi.pC t,cf.gi⟩,TX t,iS,hrv⟩
    cases ex with
    | normal=>exact hl
    | ret=>exact hl
    | exit id=>exact absurd rfl (bw id)
   split at h
   ·cases h
   ·rename_i ex s bw sI
    exact main ex s sI (fun id hh=>bw id hh) h
   ·cases h
theorem Ru:∀{Γ:List (Nat×Ctx)}{j:Nat}{x:Ctx},sr Γ j=some x->(j,x)∈Γ
 | [],j,x,h=>by simp[sr]at h
 | (k,y)::Γ,j,x,h=>by
  simp only[sr]at h
  split at h
  ·rename_i hk;cases h;subst hk;simp
  ·exact List.mem_cons_of_mem _ (Ru h)
theorem Vc:∀(ps:List Tmp) (args:List DV) (vs:List Value) (fr:Nat->DV) (tm:Array Value) (nt:Nat),bd e args vs->ps.length=args.length->(∀t∈ps,t<nt)->nt≤tm.size->(∀t s,RD e s (fr t) (tm.getD t undef))->
  (∀t s,RD e s (np fr (ps.zip args) t) (((ps.zip vs).foldl (fun tmps (t,a)=>tmps.setIfInBounds t a) tm).getD t undef))∧nt≤((ps.zip vs).foldl (fun(tmps:Array Value) (t,a)=>tmps.setIfInBounds t a) tm).size
 | [],args,vs,fr,tm,nt,h,hl,hp,hn,hf=>by
  cases h with
  | nil=>exact⟨hf,hn⟩
  | cons=>simp at hl
 | p::ps,args,vs,fr,tm,nt,h,hl,hp,hn,hf=>by
  cases h with
  | nil=>simp at hl
  | cons a b=>
   rename_i d v ds us
   simp only[List.zip_cons_cons,List.foldl_cons,np]
   have aQ:p<tm.size:=Nat.lt_of_lt_of_le (hp p (by simp)) hn
   refine Vc ps ds us _ _ nt b (by simpa using hl) (fun t ht=>hp t (by simp[ht])) (by simpa using hn) fun t s=>?_
   by_cases ht:t=p
   ·subst ht
    have h1:(tm.setIfInBounds t v).getD t undef=v:=by simp[Array.getD_eq_getD_getElem?,aQ]
    have h2:lD fr t d t=d:=by simp[lD]
    rw[h1,h2]
    exact a.fV (fun _ h=>h.elim)
   ·have h1:(tm.setIfInBounds p v).getD t undef=tm.getD t undef:=by simp[Array.getD_eq_getD_getElem?,Array.getElem?_setIfInBounds_ne (Ne.symm ht)]
    have h2:lD fr p d t=fr t:=by simp[lD,ht]
    rw[h1,h2]
    exact hf t s
theorem afT (hm:P.follows .mixedOrders=true)(hc:oI P rec)(cR:sg P rec){an:An}{k j:Nat}{args:List DV}{d:DV}{m':M}(h:Db P an rec k Γ j args m=some (d,m')){vs:List Value}(n:Nat)(st:St n0 PR Γ e al m)(bt:iD al)
  (iL:se al) (hr:bd e args vs) {l:Nat} (hl:e.la[j]? =some l):
  ∃x:Loop,e.w.heap[l]? =some (.loop x)∧vs.length=x.params.size∧RoundIn Fence.wide n P l x.fn ((x.params.zip ⟨vs⟩).foldl (fun tmps (t,a)=>tmps.setIfInBounds t a) x.tmps) x.assign x.body e.w (lN n0 PR Γ e d m'):=by
 unfold Db at h
 split at h
 ·cases h
 ·rename_i x hx
  split at h
  ·cases h
  ·rename_i ec
   have u1:args.length=x.params.size:=by
    rcases Nat.decEq args.length x.params.size with hh | hh
    ·exact absurd (.inl hh) ec
    ·exact hh
   have BH:m.pd[j]? =some .normal:=Classical.byContradiction fun hh=>ec (.inr (.inl hh))
   have hc3:∀t∈x.params.toList,t<x.nt:=fun t ht=>by
    have:(x.params.toList.all fun t=>decide (t<x.nt))=true:=by
     cases hh:(x.params.toList.all fun t=>decide (t<x.nt))with
     | true=>rfl
     | false=>exact absurd (.inr (.inr (by rw[hh];rfl))) ec
    simpa using List.all_eq_true.1 this t ht
   have fF:=Ru hx
   obtain⟨l',rc,l7,cb⟩:=st.gi.at_ j x fF
   rw[hl]at l7;cases l7
   have ph:=cb.state
   rw[BH]at ph
   obtain⟨acr,aqs⟩:=ph
   refine⟨rc,cb.heap,by rw[cb.params,←hr.length];exact u1,?_⟩
   have yn:∀k c,(k,c)∈gD Γ j->(k,c)∈Γ∧k≠j:=fun k c hm=>by
    unfold gD at hm
    rw[List.mem_filter]at hm
    exact⟨hm.1,by simpa using hm.2⟩
   have S7:∀k c,(k,c)∈Γ->k≠j->(k,c)∈gD Γ j:=fun k c hm hk=>by
    unfold gD
    rw[List.mem_filter]
    exact⟨hm,by simpa using hk⟩
   have Fv:∀{e:E}{pd:List Ex},GI n0 e Γ pd->GI n0 e (gD Γ j) pd:=fun g=>⟨g.gl,g.mp,fun k c hm=>g.at_ k c (yn k c hm).1,fun k k' c c' l h1 h2=>g.inj k k' c c' l (yn k c h1).1 (yn k' c' h2).1⟩
   have Mx:¬X (gD Γ j) e.la l:=fun⟨k,c,hm,hk⟩=>(yn k c hm).2 (st.gi.inj k j c x l (yn k c hm).1 fF hk hl)
   have st0:St n0 PR (gD Γ j) e al m:=⟨st.st,st.la,st.lt,st.mi,Fv st.gi⟩
   have Tg:(rc.params.zip ⟨vs⟩).foldl (fun(tmps:Array Value) (t,a)=>tmps.setIfInBounds t a) rc.tmps=(x.params.toList.zip vs).foldl (fun(tmps:Array Value) (t,a)=>tmps.setIfInBounds t a) rc.tmps:=by
    rw[cb.params,←Array.foldl_toList,Array.toList_zip]
   obtain⟨acn,aco⟩:=Vc x.params.toList args vs x.fr rc.tmps x.nt hr (by simpa using u1.symm) hc3 cb.nt (fun t s=>(cb.rd t).fV (fun _ h=>h.elim))
   have hf0:Fr (some l) 0 x.nt (gD Γ j) e al (np x.fr (x.params.toList.zip args)) { tmps:=(rc.params.zip ⟨vs⟩).foldl (fun(tmps:Array Value) (t,a)=>tmps.setIfInBounds t a) rc.tmps,defers:=[]}:=
    ⟨fun t=>by rw[Tg];exact acn t _,by rw[Tg];exact aco,⟨[],rfl,List.nodup_nil,by simp⟩,fun l' l7=>by cases l7;exact⟨⟨rc,cb.heap⟩,Mx⟩⟩
   have main:∀(s1 s2:S) (ex:Ex),cq P rec an x.f x.nt (gD Γ j) k x.assign ⟨np x.fr (x.params.toList.zip args),m⟩=some (.normal,s1)->cq P rec an x.f x.nt (gD Γ j) k x.body s1=some (ex,s2)->d= .c (.sc (.bool (ex== .normal)))->m'={ s2.m with pd:=s2.m.pd.set j ex}->
     RoundIn Fence.wide n P l rc.fn ((rc.params.zip ⟨vs⟩).foldl (fun tmps (t,a)=>tmps.setIfInBounds t a) rc.tmps) rc.assign rc.body e.w (lN n0 PR Γ e d m'):=by
    intro s1 s2 ex h1 h2 hd ie
    refine roundIn_of_wpIn trivial ?_
    rw[cb.assign]
    refine oQ hm hc cR x.assign _ s1 .normal h1 n0 PR (some l) 0 e al _ _ n st0 bt hf0 (Nat.zero_le _) fun a1 e1 dK cP ma ic eM=>?_
    have gj:e1.w.heap[l]? =some (.loop rc):=eM.obj (Fv st.gi) cb.heap rfl rfl Mx
    refine⟨_,run_beginRound gj acr,?_⟩
    let rb:Loop:={ rc with state:=.busy}
    let w2:=e1.w.putObj l (.loop rb)
    obtain⟨Nn,x2⟩:=cP.mi.world (w':=w2) (la':=e1.la) (by simp[w2]) (fun a _=>tw gj rfl rfl a) (fun _ _ h=>h)
    let e2:E:={ e1 with w:=w2}
    have bu:∀rr,rr≠l->w2.heap[rr]? =e1.w.heap[rr]? :=fun rr bw=>World.putObj_heap_other bw
    have My:¬X (gD Γ j) e1.la l:=fun hh=>Mx (X.back (Fv st.gi) eM.ext hh)
    have Mu:e1.la[j]? =some l:=eM.ext.la _ _ hl
    have cf:St n0 PR (gD Γ j) e2 dK s1.m:=⟨cP.st,cP.la,fun l hl=>by show n0≤l∧l<w2.heap.size;have:=cP.lt l hl;simpa[w2]using this,Nn,cP.gi.to x2 (fX.of_eq rfl) (fun rr o hb ho=>by show w2.heap[rr]? =_;rw[bu rr (fun hh=>MB.not cP.gi gj rfl (hh▸hb))];exact ho) fun l' UK hX fc=>by
     show w2.heap[l']? =_
     rw[bu l' (fun hh=>My (hh▸hX))];exact fc⟩
    have m6:w2.heap[l]? =some (.loop rb):=World.putObj_heap_same (Array.getElem?_eq_some_iff.1 gj).1
    have qF:Fr (some l) 0 x.nt (gD Γ j) e2 dK s1.fr a1:=by
     refine⟨fun t=>(ic.rd t).mono x2 (fun _ h=>h),ic.nt,?_,fun l' l7=>by cases l7;exact⟨⟨rb,m6⟩,My⟩⟩
     obtain⟨rs,q1,q2,q3⟩:=ic.df
     refine⟨rs,q1,q2,fun b hb=>⟨(q3 b hb).1,?_⟩⟩
     show w2.heap[b]? =_
     rw[bu b (fun hh=>by have:=(q3 b hb).2;rw[hh,gj]at this;cases this)]
     exact(q3 b hb).2
    show rc.body.wpIn (kb (some l)) n P (roundPost P l (lN n0 PR Γ e d m')) a1 e2.w
    rw[cb.body]
    refine oQ hm hc cR x.body s1 s2 ex h2 n0 PR (some l) 0 e2 dK a1 _ n cf ma qF (Nat.zero_le _) fun a3 e3 afH lB aqv FD ns=>?_
    have qJ:e3.w.heap[l]? =some (.loop rb):=ns.obj cf.gi m6 rfl rfl My
    have fin:∀jump:Option Code,KI { rb with state:=if jump.isNone then .ready else .done,pending:=jump} (some ex)->jump.isNone=(ex== .normal)->∃v w',(Instr.endRound l jump).run P e3.w= .ok v w'∧lN n0 PR Γ e d m' (.returned v) w':=by
     intro jump MM hjn
     let r4:Loop:={ rb with state:=if jump.isNone then .ready else .done,pending:=jump}
     let w4:=e3.w.putObj l (.loop r4)
     refine⟨_,_,run_endRound jump qJ,?_⟩
     obtain⟨mi4,x4⟩:=lB.mi.world (w':=w4) (la':=e3.la) (by simp[w4]) (fun a _=>tw qJ rfl rfl a) (fun _ _ h=>h)
     let e4:E:={ e3 with w:=w4}
     have B6:∀rr,rr≠l->w4.heap[rr]? =e3.w.heap[rr]? :=fun rr bw=>World.putObj_heap_other bw
     have hx:Ext e e4:=((eM.ext.trans x2).trans ns.ext).trans x4
     have BW:w4.heap[l]? =some (.loop r4):=World.putObj_heap_same (Array.getElem?_eq_some_iff.1 qJ).1
     have hle:n0≤l∨True:=.inr trivial
     have aQ:l<e.w.heap.size:=(Array.getElem?_eq_some_iff.1 cb.heap).1
     have FM:∀rr,rr≠l->¬X Γ e.la rr->¬X (gD Γ j) e.la rr:=fun rr _ hn hX=>by
      obtain⟨k,c,hm,hk⟩:=hX
      exact hn ⟨k,c,(yn k c hm).1,hk⟩
     have hXl:∀rr,X Γ e.la rr->rr≠l->X (gD Γ j) e.la rr:=fun rr hX bw=>by
      obtain⟨k,c,hm,hk⟩:=hX
      refine⟨k,c,S7 k c hm (fun hh=>?_),hk⟩
      subst hh
      rw[hl]at hk;cases hk;exact bw rfl
     have to:To n0 PR Γ e e4:=by
      have k1:=eM.bp
      have k3:=ns.bp
      have BH:∀a:Addr,w2.cell? a=e1.w.cell? a∧w2.frozen? a=e1.w.frozen? a:=fun a=>tw gj rfl rfl a
      have SA:∀a:Addr,w4.cell? a=e3.w.cell? a∧w4.frozen? a=e3.w.frozen? a:=fun a=>tw qJ rfl rfl a
      refine⟨hx,⟨k3.os.trans k1.os,k3.tape.trans k1.tape,k3.output.trans k1.output,?_,fun rr hr=>?_,fun y hy=>?_,fun rr o hr SC hn=>?_,fun hd=>Nat.le_trans (k1.dr hd) (k3.dr hd)⟩,fun rr hr=>?_,fun rr UK hX hr=>?_⟩
      ·have h1:=k1.size
       have h3:=k3.size
       show e.w.heap.size≤w4.heap.size
       have h2:w2.heap.size=e1.w.heap.size:=by simp[w2]
       have h4:w4.heap.size=e3.w.heap.size:=by simp[w4]
       have Bx:w2.heap.size≤e3.w.heap.size:=h3
       omega
      ·-- Dw record was laid behind n0,or nothing turns
       have kH:rr≠l:=fun hh=>by
        have:=st.lt l (List.mem_of_getElem? hl)
        omega
       show w4.heap[rr]? =_
       rw[B6 rr kH,k3.bC rr hr]
       show w2.heap[rr]? =_
       rw[bu rr kH]
       exact k1.bC rr hr
      ·obtain⟨p1,p2⟩:=k1.pr y hy
       obtain⟨p3,p4⟩:=k3.pr y hy
       exact⟨(SA y).1.trans (p3.trans ((BH y).1.trans p1)),(SA y).2.trans (p4.trans ((BH y).2.trans p2))⟩
      ·have bw:rr≠l:=fun hh=>hn (.inl (hh▸⟨j,x,fF,hl⟩))
       have aQ:rr<e.w.heap.size:=(Array.getElem?_eq_some_iff.1 hr).1
       show w4.heap[rr]? =_
       rw[B6 rr bw]
       refine k3.obj rr o ?_ SC (fun hh=>hh.elim (fun hh=>FM rr bw (fun h=>hn (.inl h)) (X.back (Fv st.gi) eM.ext hh)) fun hb=>(eM.maps rr hb).elim (fun hb=>hn (.inr hb)) fun hle=>by omega)
       show w2.heap[rr]? =_
       rw[bu rr bw]
       exact k1.obj rr o hr SC (fun hh=>hh.elim (FM rr bw fun h=>hn (.inl h)) fun hb=>hn (.inr hb))
      ·have h2:w2.heap.size=e1.w.heap.size:=by simp[w2]
       rcases ns.maps rr hr with hb | hle
       ·exact eM.maps rr hb
       ·have hle:w2.heap.size≤rr:=hle
        exact .inr (by have:=k1.size;omega)
      ·by_cases FQ:rr=l
       ·subst FQ
        rw[cb.heap]at hr;cases hr
        exact⟨r4,BW,rfl⟩
       ·have Ss:=hXl rr hX FQ
        obtain⟨ra,q1,q2⟩:=eM.loops rr UK Ss hr
        obtain⟨k,c,hm,hk⟩:=Ss
        obtain⟨rb',q3,q4⟩:=ns.loops rr ra ⟨k,c,hm,eM.ext.la _ _ hk⟩ (by show w2.heap[rr]? =_;rw[bu rr FQ];exact q1)
        exact⟨rb',by show w4.heap[rr]? =_;rw[B6 rr FQ];exact q3,q4.trans q2⟩
     have va:j<s2.m.pd.length:=by
      rw[←lB.la]
      exact(List.getElem?_eq_some_iff.1 (((eM.ext.trans x2).trans ns.ext).la _ _ hl)).1
     have g4:GI n0 e4 Γ (s2.m.pd.set j ex):=by
      refine⟨st.gi.gl.to hx,lB.gi.mp.to x4 (fX.of_eq rfl) (fun rr o hb ho=>by show w4.heap[rr]? =_;rw[B6 rr (fun hh=>MB.not lB.gi qJ rfl (hh▸hb))];exact ho),fun k c hm=>?_,fun k k' c c' lx hm ie hk m4=>?_⟩
      ·by_cases FJ:k=j
       ·subst FJ
        obtain⟨l0,r0,h0,jO⟩:=st.gi.at_ k c hm
        rw[hl]at h0;cases h0
        have:r0=rc:=by have:=jO.heap;rw[cb.heap]at this;cases this;rfl
        subst this
        refine⟨l,r4,hx.la _ _ hl,BW,jO.params,jO.assign,jO.body,jO.nt,fun t=>(jO.rd t).mono hx (fun _ h=>h),?_⟩
        rw[List.getElem?_set_self va];exact MM
       ·obtain⟨l0,r0,h0,jO⟩:=lB.gi.at_ k c (S7 k c hm FJ)
        have bw:l0≠l:=fun hh=>by
         subst hh
         obtain⟨l1,_,h1,_⟩:=st.gi.at_ k c hm
         have mZ:=((eM.ext.trans x2).trans ns.ext).la _ _ h1
         rw[h0]at mZ;cases mZ
         exact FJ (st.gi.inj k j c x l0 hm fF h1 hl)
        refine⟨l0,r0,h0,by show w4.heap[l0]? =_;rw[B6 l0 bw];exact jO.heap,jO.params,jO.assign,jO.body,jO.nt,fun t=>(jO.rd t).mono x4 (fun _ h=>h),?_⟩
        rw[List.getElem?_set_ne (Ne.symm FJ)];exact jO.state
      ·obtain⟨l1,_,h1,_⟩:=st.gi.at_ k c hm
       obtain⟨l2,_,h2,_⟩:=st.gi.at_ k' c' ie
       have RG:=hx.la _ _ h1
       have RH:=hx.la _ _ h2
       rw[hk]at RG;rw[m4]at RH
       cases RG;cases RH
       exact st.gi.inj k k' c c' lx hm ie h1 h2
     refine⟨e4,pC afH none,rfl,⟨?_,?_,fun l hl=>?_,mi4.pC none,?_⟩,TX _,to,?_⟩
     ·rw[ie];exact lB.st
     ·rw[ie];simp only[List.length_set];exact lB.la
     ·show n0≤l∧l<w4.heap.size
      have:=lB.lt l hl
      simpa[w4]using this
     ·rw[ie];exact g4
     ·rw[hd,hjn];exact .c (.sc rfl)
    cases ex with
    | normal=>exact fin none ⟨rfl,rfl⟩ rfl
    | ret=>exact fin (some .ret) ⟨rfl,rfl⟩ rfl
    | exit id=>exact fin (some (.exit id)) ⟨rfl,rfl⟩ rfl
   split at h
   ·rename_i s1 h1
    split at h
    ·rename_i s2 h2
     cases h
     exact main s1 s2 .normal h1 h2 rfl rfl
    ·rename_i ex s2 bw h2
     cases h
     have:(ex== .normal)=false:=by
      cases ex with
      | normal=>exact absurd rfl bw
      | _=>rfl
     exact main s1 s2 ex h1 h2 (by rw[this]) rfl
    ·cases h
   ·cases h
theorem LQ (hm:P.follows .mixedOrders=true)(an:An){pr:xy}(hp:∀f p,pr f=some p->jL P f p):∀k,oI P (sv P an pr k)∧sg P (sv P an pr k)
 | 0=>⟨⟨fun Γ f args m d m' h=>by simp[sv]at h,fun f p h=>hp f p h⟩,fun Γ j args m d m' h=>by simp[sv]at h⟩
 | k+1=>by
  obtain⟨hc,cR⟩:=LQ hm an hp k
  refine⟨⟨fun Γ f args m d m' h n0 PR e al vs n st bt iL hr=>?_,fun f p h=>hp f p h⟩,fun Γ j args m d m' h n0 PR e al vs n st bt iL hr l hl=>?_⟩
  ·exact Z5 hm hc cR h n st bt iL hr
  ·exact afT hm hc cR h n st bt iL hr hl
end
end Go.Abs
namespace Go.Abs
open Go
variable [Fl]
variable [Gl]
def bC (w:World):Addr->Prop:=fun a=>a.block<w.heap.size
def Qf (c:CV):Prop:=∃n:Int,c= .sc (.int .i64 n)∧(Lit.int .i64 n).wf=true
section
variable {H:Type}{enc:TypeId×Value->H}{P:Program}{w:World}{base:Nat}{sp:Nat->Bool}{held:Bool}
def Reads (P:Program)(w:World)(base:Nat)(t:TypeId)(Q:CV->Prop):Prop:=
 ∀(H:Type) (enc:TypeId×Value->H) (sp:Nat->Bool) (held:Bool) (fuel:Nat) (vs:List Value) (x:DataW H×List MemPlace),DataW.trod enc P w base sp held fuel t vs=some x->∃v c,vs=[v]∧RC (bC w) w c v∧nI c=true∧Q c
theorem afC {t:TypeId}(ht:P.underlying t=some (.int .i64)):Reads P w base t Qf:=by
 intro H enc sp held fuel vs x h
 cases fuel with
 | zero=>simp[DataW.trod]at h
 | succ fuel=>
  unfold DataW.trod at h
  rw[ht]at h
  split at h<;>first | (rename_i hh;cases hh;done) | skip
  all_goals (try (rename_i hh;injection hh with hh;done))
  ·rename_i k k' n hk
   injection hk with hk
   injection hk with hk
   subst hk
   split at h
   ·rename_i hc
    obtain⟨rfl,hwf⟩:=hc
    exact⟨_,_,rfl,.sc rfl,rfl,n,rfl,hwf⟩
   ·cases h
  all_goals (first | (cases h;done) | (simp at h;done))
theorem TM {α β:Type}{f:α->Option β}:∀(l:List α) (ys:List β),l.mapM f=some ys->ys.length=l.length∧∀(i:Nat) x,l[i]? =some x->∃y,ys[i]? =some y∧f x=some y
 | [],ys,h=>by simp at h;subst h;exact⟨rfl,by simp⟩
 | a::l,ys,h=>by
  rw[List.mapM_cons]at h
  simp only[Option.bind_eq_bind,Option.bind_eq_some_iff]at h
  obtain⟨y,hy,ys',hys,h⟩:=h
  cases h
  obtain⟨h1,h2⟩:=TM l ys' hys
  refine⟨by simp[h1],fun i x hx=>?_⟩
  cases i with
  | zero=>simp at hx;subst hx;exact⟨y,rfl,hy⟩
  | succ i=>simpa using h2 i x (by simpa using hx)
theorem aak {a:Addr}{n:Nat}{vs:List Value}(h:w.cells? base a n=some vs):vs.length=n∧∀(i:Nat) v,vs[i]? =some v->w.cell? (a.add i)=some v:=by
 unfold World.cells? at h
 split at h
 ·obtain⟨h1,h2⟩:=TM _ _ h
  refine⟨by simpa using h1,fun i v hv=>?_⟩
  have aQ:i<n:=by have:=(List.getElem?_eq_some_iff.1 hv).1;simp at h1;omega
  obtain⟨y,hy,hc⟩:=h2 i i (by simp[aQ])
  rw[hv]at hy;cases hy
  exact hc
 ·cases h
theorem Z3 (FE:(∀a,Gl.as a->a.block<w.heap.size)∧Gl.ok w)(hm:P.follows .mixedOrders=true)(an:An){pr:xy}(hp:∀f p,pr f=some p->jL P f p){k f:Nat}{args:List DV}{vs:List Value}{d:DV}{m':M}(h:(sv P an pr k).call [] f args ⟨[],[]⟩=some (d,m'))
  (hr:bd ⟨bC w,w,[],fun _=>⟨0,0,0⟩,[]⟩ args vs):Calls P f ⟨vs⟩ w fun en w'=>∃v e' s,en= .returned v∧e'.w=w'∧RD e' s d v∧cS w.heap.size (fun _=>False) (fun _=>False) w w':=by
 let e:E:=⟨bC w,w,[],fun _=>⟨0,0,0⟩,[]⟩
 have st:St w.heap.size (fun _=>False) [] e (fun _ _=>False) ⟨[],[]⟩:=
  ⟨rfl,rfl,by simp[e],⟨fun a ha=>ha,fun _ _ h=>h,fun _ h=>h.elim,Nat.le_refl _,fun _ _ h=>h.elim,fun _ _ _ h=>h.elim,by simp[e],by simp[e],by simp[e]⟩,⟨⟨FE.1,FE.2⟩,gG.void (by simp[e]),by simp,by simp⟩⟩
 have hc:=(LQ hm an hp k).1.call [] f args ⟨[],[]⟩ d m' h w.heap.size (fun _=>False) e (fun _ _=>False) vs 0 st (fun _ h=>h) (fun _ _ h=>h) hr
 refine callsIn_wide.1 (hc.mono fun en w' hb=>?_)
 cases en with
 | returned v=>
  obtain⟨e',reg',h1,h2,h3,h4,h5⟩:=hb
  exact⟨v,e',_,rfl,h1,h5,by rw[←h1];exact h4.bp.fV fun r hr=>hr.elim (fun hr=>by obtain⟨_,_,hm,_⟩:=hr;simp at hm) (fun hr=>by obtain⟨_,_,hm,_⟩:=hr;simp[e]at hm)⟩
 | panicked c=>exact hb.elim
 | outgrown=>exact hb.elim
end
end Go.Abs
namespace Go.Abs
open Go Go.ChangeShapes Go.WideShapes Go.ChangeAt Go.RowKit
variable [Fl]
section
variable {H:Type}{enc:TypeId×Value->H}{P:Program}
theorem Wm (hl:laidOutB P=true){W W':World}(hb:Below W.heap.size W W'):∀{ts:List TypeId}{vs:List Value}{ds:List (DataW H)}{ps:List MemPlace},(∀t∈ts,P.readableRec t=true∧t<P.types.size)->(∀x∈ps,x.block<W.heap.size)->
  DataW.TrodAll enc P W 0 (fun _=>true) true ts vs ds ps->DataW.TrodAll enc P W' 0 (fun b=>decide (b<W.heap.size)) true ts vs ds ps
 | [],[],[],ps,_,_,h=>h
 | t::ts,v::vs,d::ds,ps,ht,aQ,h=>by
  obtain⟨p,q,h1,h2,rfl⟩:=h
  exact⟨p,q,Below.trod hl (ht t (by simp)).1 (ht t (by simp)).2 h1 hb (fun x hx=>aQ x (by simp[hx])),Wm hl hb (fun t' ht'=>ht t' (by simp[ht'])) (fun x hx=>aQ x (by simp[hx])) h2,rfl⟩
 | [],[],_::_,_,_,_,h=>h.elim
 | [],_::_,_,_,_,_,h=>h.elim
 | _::_,[],_,_,_,_,h=>h.elim
 | _::_,_::_,[],_,_,_,h=>h.elim
theorem ae3 {f:Func}{s:ChangeSpec}{fresh handsOn:Bool}{W W':World}{args:Array Value}{ds:List (DataW H)}{before:List MemPlace}(hl:laidOutB P=true)(pe:∀t∈f.params.toList,P.readableRec t=true∧t<P.types.size){tb:TypeId}(hrt:f.resultTypes=#[tb])
  (htb:P.underlying tb=some .bool) (hv:s.vars=[]) (hs:s.fn H ds={ results:=[.lit (.bool true)],args:=ds}) (hW:DataW.Whole enc P f.params.toList s.vars false W args.toList ds [] before)
  (hk:cS W.heap.size (fun _=>False) (fun _=>False) W W'):s.post enc P f false fresh handsOn false W args (.bool true) W':=by
 have hb:Below W.heap.size W W':=⟨hk.os,hk.tape,hk.output,hk.size,hk.bC⟩
 have aQ:=hW.lt
 have L8:=hW
 obtain⟨p,q,hA,hV,rfl,hz,ig⟩:=hW
 rw[hv]at hV
 obtain⟨_,rfl⟩:=trodVars_none hV
 refine⟨ds,[],p++[],[],p,[],L8,?_,?_,?_,?_,fun h=>by cases h⟩
 ·rw[List.append_nil,hs,hrt]
  exact⟨[],[],⟨1,by simp[DataW.trod,htb,Value.cells]⟩,rfl,rfl⟩
 ·rw[List.append_nil,hs]
  exact Wm hl hb pe (fun x hx=>aQ x (by simp[hx])) hA
 ·rw[hv,List.append_nil,hs];rfl
 ·refine⟨hk.os,hk.output,fun i hi=>?_⟩
  rw[hk.bC i hi]
  cases hh:W.heap[i]? with
  | none=>rfl
  | some o=>cases o<;>first | exact⟨rfl,rfl,rfl,fun _ _=>rfl⟩ | exact .inr ⟨rfl,rfl⟩ | rfl
end
end Go.Abs
namespace Go.Abs
open Go
variable [Fl]
instance (priority:=low) aqE:Gl:=⟨fun _=>False,fun _=>True,fun _ _ _ h=>h⟩
def ins (x:Int):List Int->List Int
 | []=>[x]
 | y::l=>if x≤y then x::y::l else y::ins x l
def Ts:List Int->List Int
 | []=>[]
 | x::l=>ins x (Ts l)
def intOf:DV->Option Int
 | .c (.sc (.int .i64 n))=>some n
 | _=>none
def Tk:List DV->Option (List Int)
 | []=>some []
 | d::ds=>match intOf d,Tk ds with
  | some n,some l=>some (n::l)
  | _,_=>none
def bb (n:Int):CV:=.sc (.int .i64 n)
def aa (n:Int):DV:=.c (bb n)
def tH (st:List Ob):List DV->Option Out
 | [.c (.sl true _ _ _)]=>some { d:=.aX []}
 | [.ms id ver off (len+1) 1 _]=>if 4611686018427387903≤len then none else match hU st id ver with
  | some o=>((span o.cs off (len+1)).bind Tk).map fun l=>{ d:=.aX [],set:=some (id,⟨ver,cT o.cs off ((Ts l).map aa)⟩)}
  | none=>none
 | _=>none
end Go.Abs
