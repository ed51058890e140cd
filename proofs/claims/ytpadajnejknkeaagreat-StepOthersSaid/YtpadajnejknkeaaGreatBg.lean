/-
  Part of the proof: printed by the session's own program out of the program's form, or typed; it states no claim by itself.
-/
import Derived.Test.YtpadajnejknkeaaGreatBf
set_option linter.unusedVariables false
set_option linter.unusedSimpArgs false
set_option linter.unusedSectionVars false
namespace Go.Abs
open Go
variable [Fl]
variable [Gl]
section
variable {P:Program}{n0:Nat}{PR:Addr->Prop}{Γ:List (Nat×Ctx)}{e e':E}{al reg':Own->Addr->Prop}{m:M}{r:Option Nat}{k0 nt:Nat}{fr:Nat->DV}{a:Act}
theorem XK {f:Nat->Addr->Prop}(hf:∀t,RD e (f t) (fr t) (a.tmps.getD t undef)){ops:Array Oper}{o:Oper}{b:Bool}(h:oF ops o fr=some b):Region.wanted o (yielded ops a.tmps)=b:=by
 unfold oF at h
 unfold Region.wanted
 split at h
 ·rename_i hg;cases h;rw[hg]
 ·rename_i j want hg
  rw[hg]
  simp only
  split at h
  ·rename_i hd
   cases h
   unfold yielded
   rw[hd]
   simp
  ·rename_i t hd
   unfold yielded
   rw[hd]
   simp only[Option.bind_some]
   have hr:=hf t
   split at h
   ·rename_i b' hb
    cases h
    rw[hb]at hr
    cases hr with
    | c hr=>
     generalize hv:a.tmps.getD t undef=v at hr
     cases hr
     have:a.tmps[t]? =some (.bool b'):=by
      rw[Array.getD_eq_getD_getElem?]at hv
      cases hx:a.tmps[t]? with
      | none=>rw[hx]at hv;cases hv
      | some y=>rw[hx]at hv;simp at hv;rw[hv]
     rw[this]
     cases b'<;>cases want<;>rfl
   ·rename_i hb
    cases h
    rw[hb]at hr
    generalize hv:a.tmps.getD t undef=v at hr
    cases hr with
    | aX hr=>
     cases hr
     cases hx:a.tmps[t]? with
     | none=>rfl
     | some y=>
      rw[Array.getD_eq_getD_getElem?,hx]at hv
      simp at hv
      rw[hv]
      cases want<;>rfl
   ·cases h
def Next (n0:Nat)(PR:Addr->Prop)(Γ:List (Nat×Ctx))(r:Option Nat)(k0 nt:Nat)(e:E)(s':S)(K:Act->World->Prop):Prop:=
 ∀a' e' reg',St n0 PR Γ e' reg' s'.m->iD reg'->Fr r k0 nt Γ e' reg' s'.fr a'->To n0 PR Γ e e'->K a' e'.w
theorem vH (al:Own->Addr->Prop)(dst:Option Tmp):iD (fq al dst):=fun a h=>h
theorem St.fq (s:St n0 PR Γ e al m)(dst:Option Tmp):St n0 PR Γ e (Abs.fq al dst) m:=⟨s.st,s.la,s.lt,s.mi.fq dst,s.gi⟩
theorem agb (s:St n0 PR Γ e al m)(hf:Fr r k0 nt Γ e al fr a)(bt:iD al){dst:Option Tmp}(hd:qv nt dst=true){K:Act->World->Prop}
  (hK:Next n0 PR Γ r k0 nt e ⟨put fr dst (.aX []),m⟩ K):K (a.put dst undef) e.w:=
 hK _ e (Abs.fq al dst) (s.fq dst) (vH _ _) (by
  have:=hf.put (m:=m) s.gi (To.refl n0 PR Γ e) (drop:=[]) (dst:=dst) (d:=.aX []) (v:=undef) (reg':=al) hd (.aX .nil) (fun _ _ _ h=>h)
  exact this) (To.refl ..)
theorem Z4 {o:Oper}{k:Call}{g:Operand}(ho:o.op= .call k)(hk:k.callee= .value g){f:FuncId}{us vs:List Value}(hg:a.eval g= .func (.func f) ⟨us⟩ ⟨vs⟩)(he:enters P f=true)(w:World):
  (execOp a.eval o).run P w= .ok (.enter f ⟨us++k.args.toList.map a.eval++vs⟩) w:=by
 have ab5:∀args,(callFunc f args).run P w= .ok (.enter f args) w:=fun args=>by
  unfold enters at he
  split at he
  ·rename_i fn BP
   simp only[Bool.and_eq_true,Bool.not_eq_true']at he
   have h1:¬(fn.name= "runtime.NumGoroutine"):=by simpa using he.1
   have h2:¬(fn.body=none):=fun hh=>by simp[hh]at he
   simp[callFunc,BP,h1,h2]
  ·cases he
 simp only[execOp,ho,resolve,hk,Deferred.ofValue,hg,Sem.run_bind,Sem.run_pure,Result.andThen_ok,invoke,ab5]
 congr 2
 apply Array.ext'
 simp
theorem aqc {o:Oper}{k:Call}{g:Operand}(ho:o.op= .call k)(hk:k.callee= .value g){l:Nat}(hg:a.eval g= .func (.yield l) #[] #[])(w:World):
  (execOp a.eval o).run P w=(Instr.yield l ⟨k.args.toList.map a.eval⟩).run P w:=by
 simp only[execOp,ho,resolve,hk,Deferred.ofValue,hg,Sem.run_bind,Sem.run_pure,Result.andThen_ok,invoke]
 congr 1
 congr 1
 apply Array.ext'
 simp
theorem Q6 {fr:Nat->DV}{op:Op}{d:DV}{args:List DV}(h:cK fr op=some (d,args)):∃k g,op= .call k∧k.callee= .value g∧d=ev fr g∧args=ka fr k.args.toList:=by
 unfold cK at h
 split at h
 ·rename_i k
  split at h
  ·rename_i g hg;cases h;exact⟨k,g,rfl,hg,rfl,rfl⟩
  ·cases h
 ·cases h
def jM (e:E)(n:Nat):E:={ e with st:=e.st.take n}
mutual
theorem RD.cut {n:Nat}{s:Addr->Prop}{d:DV}{v:Value}(h:below n d=true):RD e s d v->RD (jM e n) s d v
 | .un=>.un
 | .c h=>.c h
 | .iE=>.iE
 | .ap h1 h2 h3 h4 h5=>.ap h1 h2 h3 h4 h5
 | .agg hk hr=>.agg hk (bd.cut (by simpa[below]using h) hr)
 | .aX hr=>.aX (bd.cut (by simpa[below]using h) hr)
 | .ms (id:=id) hid hl hx hv=>by
  have aQ:id<n:=by simpa[below]using h
  refine .ms (by simp only[jM,List.length_take];omega) hl hx fun o ho=>?_
  have ho:(e.st.take n)[id]? =some o:=ho
  rw[List.getElem?_take_of_lt aQ]at ho
  exact hv o ho
 | .pt (id:=id) hid hv=>by
  have aQ:id<n:=by simpa[below]using h
  refine .pt (by simp only[jM,List.length_take];omega) fun o ho=>?_
  have ho:(e.st.take n)[id]? =some o:=ho
  rw[List.getElem?_take_of_lt aQ]at ho
  exact hv o ho
 | .ia h1 h2=>.ia h1 h2
 | .fn h1 h2=>by
  simp only[below,Bool.and_eq_true]at h
  exact .fn (bd.cut h.1 h1) (bd.cut h.2 h2)
 | .yl hl=>.yl hl
 | .er h=>.er h
 | .mp (id:=id) hid hv=>by
  have aQ:id<n:=by simpa[below]using h
  refine .mp (by simp only[jM,List.length_take];omega) fun o ho=>?_
  have ho:(e.st.take n)[id]? =some o:=ho
  rw[List.getElem?_take_of_lt aQ]at ho
  exact hv o ho
 | .mi (id:=id) hid hv=>by
  have aQ:id<n:=by simp[below]at h;exact h.1
  refine .mi (by simp only[jM,List.length_take];omega) fun o ho=>?_
  have ho:(e.st.take n)[id]? =some o:=ho
  rw[List.getElem?_take_of_lt aQ]at ho
  exact hv o ho
theorem bd.cut {n:Nat}{ds:List DV}{vs:List Value}(h:below.go n ds=true):bd e ds vs->bd (jM e n) ds vs
 | .nil=>.nil
 | .cons hd hs=>by
  simp only[below.go,Bool.and_eq_true]at h
  exact .cons (hd.cut h.1) (bd.cut h.2 hs)
end
theorem MR.cut {n:Nat}:∀{es:List (DV×DV)}{xs:List MapEntry},EO n es=true->MR e es xs->MR (jM e n) es xs
 | _,_,_,.nil=>.nil
 | _,_,h,.cons a b c=>by
  simp only[EO,Bool.and_eq_true]at h
  exact .cons (a.cut h.1.1) (b.cut h.1.2) (c.cut h.2)
theorem k7.cut {n b:Nat}:∀{o:Ob}{k:MK},o.mp.k=some k->mQ n o=true->k7 e b k->k7 (jM e n) b k
 | o,.map es,hk,h,⟨xs,c,h1,h2⟩=>by
  simp only[mQ,hk,Bool.and_eq_true]at h
  exact⟨xs,c,h1,h2.1.cut h.2,h2.2⟩
 | o,.it id ver k cur left,hk,h,⟨r,since,seen,fu,h1,h2,h3⟩=>by
  simp only[mQ,hk,Bool.and_eq_true]at h
  refine⟨r,since,seen,fu,h1,h2.cut (by simpa[below]using h.2),fun o' du hv m4=>?_⟩
  have du:(e.st.take n)[id]? =some o':=du
  have aQ:id<n:=by simpa using h.2
  rw[List.getElem?_take_of_lt aQ]at du
  exact h3 o' du hv m4
 | o,.iter id ver,hk,h,⟨r,c,h1,h2⟩=>by
  simp only[mQ,hk,Bool.and_eq_true]at h
  exact⟨r,c,h1,h2.cut (by simpa[below]using h.2)⟩
theorem Rw {mm:Nat}{e0:E}{vO:List Ex}(gJ:((m.st.take mm).all fun o=>mQ mm o)=true)(st:St n0 PR Γ e al m)(g0:GI n0 e0 Γ vO)(hle:e0.st.length≤mm)(to:To n0 PR Γ e0 e):
  St n0 PR Γ (jM e mm) al { m with st:=m.st.take mm}∧To n0 PR Γ e0 (jM e mm):=by
 have hx:Ext e0 (jM e mm):=by
  refine⟨to.ext.im,to.ext.cell,?_,fun id o o' h1 h2=>?_,to.ext.la⟩
  ·have:=to.ext.len;simp[jM];omega
  ·have h2:(e.st.take mm)[id]? =some o':=h2
   have aQ:id<mm:=by have:=(List.getElem?_eq_some_iff.1 h1).1;omega
   rw[List.getElem?_take_of_lt aQ]at h2
   exact to.ext.ver id o o' h1 h2
 have mi:=st.mi
 have get:∀id o,(jM e mm).st[id]? =some o->e.st[id]? =some o∧id<mm:=fun id o ho=>by
  have ho:(e.st.take mm)[id]? =some o:=ho
  have aQ:id<mm:=by have:=(List.getElem?_eq_some_iff.1 ho).1;simp at this;omega
  rw[List.getElem?_take_of_lt aQ]at ho
  exact⟨ho,aQ⟩
 refine⟨⟨by simp[jM,st.st],st.la,st.lt,⟨mi.eY,mi.gm,mi.dN,mi.dz,mi.ok,mi.cE,fun id o ho=>mi.ext id o (get id o ho).1,fun id o ho=>mi.own id o (get id o ho).1,fun id o ho i d hd=>?_⟩,⟨⟨st.gi.gl.im,st.gi.gl.ok⟩,⟨fun id o k h1 h2=>?_,fun id cr o o' h1 h2 h3 h4 h5=>st.gi.mp.inj id cr o o' (get id o h1).1 h2 (get cr o' h3).1 h4 h5⟩,fun k x hm=>?_,st.gi.inj⟩⟩,⟨hx,to.bp,fun r ⟨id,o,h1,h2,h3⟩=>to.maps r ⟨id,o,(get id o h1).1,h2,h3⟩,to.loops⟩⟩
 ·obtain⟨h1,v,h2,h3⟩:=mi.cell id o (get id o ho).1 i d hd
  refine⟨h1,v,h2,h3.cut ?_⟩
  have fF:o∈m.st.take mm:=by
   have du:(e.st.take mm)[id]? =some o:=ho
   rw[st.st]at du
   exact List.mem_of_getElem? du
  have:=List.all_eq_true.1 gJ o fF
  simp only[mQ,Bool.and_eq_true]at this
  exact List.all_eq_true.1 this.1 d (List.mem_of_getElem? hd)
 ·obtain⟨q1,q2⟩:=st.gi.mp.at_ id o k (get id o h1).1 h2
  have fF:o∈m.st.take mm:=by
   have du:(e.st.take mm)[id]? =some o:=h1
   rw[st.st]at du
   exact List.mem_of_getElem? du
  exact⟨q1,q2.cut h2 (List.all_eq_true.1 gJ o fF)⟩
 ·obtain⟨l1,r1,gj,cb⟩:=st.gi.at_ k x hm
  obtain⟨l0,r0,kH,jO⟩:=g0.at_ k x hm
  have Mu:=to.ext.la _ _ kH
  rw[gj]at Mu;cases Mu
  obtain⟨r2,h2,h3⟩:=to.loops l1 r0 ⟨k,x,hm,kH⟩ jO.heap
  rw[cb.heap]at h2;cases h2
  exact⟨l1,r1,gj,cb.heap,cb.params,cb.assign,cb.body,cb.nt,fun t=>by rw[h3];exact(jO.rd t).mono hx (fun _ h=>h),cb.state⟩
theorem Wl {mm:Nat}{d:DV}{m2:M}{v:Value}{s:Addr->Prop}{e0:E}{vO:List Ex}(h:zg mm d m=some m2)(st:St n0 PR Γ e al m)(g0:GI n0 e0 Γ vO)(hle:e0.st.length≤mm)(to:To n0 PR Γ e0 e)(hr:RD e s d v):
  ∃e2,e2.w=e.w∧St n0 PR Γ e2 al m2∧To n0 PR Γ e0 e2∧RD e2 s d v:=by
 unfold zg at h
 split at h
 ·rename_i hc
  cases h
  simp only[Bool.and_eq_true]at hc
  obtain⟨h1,h2⟩:=Rw hc.2 st g0 hle to
  exact⟨jM e mm,rfl,h1,h2,hr.cut hc.1⟩
 ·cases h
theorem Z0 {rec:Rec}(hc:oI P rec){bp:Bool}{lc:Option (List Nat)}{f:FuncId}{ds:List DV}{vs:List Value}{d:DV}{m':M}(h:jb P rec Γ bp lc m f ds=some (d,m'))(s:St n0 PR Γ e al m)(bt:iD al)(hr:bd e ds vs)(n:Nat):
  enters P f=true∧CallsIn Fence.wide n P f ⟨vs⟩ e.w (fun en w'=>∃v e' reg',en= .returned v∧e'.w=w'∧St n0 PR Γ e' reg' m'∧To n0 PR Γ e e'∧RD e' (reg' .res) d v∧∀t x,al (.slot t) x->reg' (.slot t) x):=by
 unfold jb at h
 split at h
 ·cases h
 ·rename_i BM
  have Mi:enters P f=true:=by simpa using BM
  refine⟨Mi,?_⟩
  split at h
  ·rename_i p hp
   rw[Option.map_eq_some_iff]at h
   obtain⟨rr,hrr,hh⟩:=h
   cases hh
   obtain⟨s0,kI,qQ,hZ⟩:=s.BS bt
   exact(CallsIn.mono ((hc.nj f p hp).ok m ds rr hrr Γ n0 _ _ _ vs n s0 kI qQ hr) fun en w' hb=>hZ _ _ _ _ hb)
  split at h
  ·rename_i fO
   split at h
   ·rename_i d1 m1 qO
    obtain⟨s0,hZ⟩:=s.apart bt
    have lf:=hc.call [] f ds ⟨[],[]⟩ d1 m1 qO n0 _ _ _ vs n s0 (fun _ h=>h) (fun _ _ h=>h) (Lu (e:=e) (e0:={ e with st:=[],la:=[]}) rfl rfl fO hr)
    split at h
    ·cases h
     exact lf.mono fun en w' hb=>(hZ _ _ _ _ hb).2
    ·rw[Option.map_eq_some_iff]at h
     obtain⟨d',eO,hh⟩:=h
     cases hh
     exact lf.mono fun en w' hb=>(hZ _ _ _ _ hb).1 _ eO
   ·cases h
  ·split at h
   ·rename_i aA
    unfold vz at h
    split at h
    ·cases h
    ·rename_i ig
     have ack:nd aA=true:=by simpa using ig
     split at h
     ·rename_i st0 ky vj abY
      split at h
      ·rename_i d1 m1 qO
       split at h
       ·rename_i d2 os jg
        obtain⟨lj,s0,hZ⟩:=s.aeD bt ack vj
        have lf:=hc.call [] f ky ⟨st0,[]⟩ d1 m1 qO n0 _ _ _ vs n s0 (fun _ h=>h) (fun _ _ h=>h) (bd.lj lj (by rw[s.st];exact abY) hr)
        exact lf.mono fun en w' hb=>hZ _ _ _ _ _ _ _ _ jg h hb
       ·cases h
      ·cases h
     ·cases h
   split at h
   ·rw[Option.bind_eq_some_iff]at h
    obtain⟨⟨d1,m1⟩,qO,h⟩:=h
    rw[Option.map_eq_some_iff]at h
    obtain⟨m2,Cf,hh⟩:=h
    cases hh
    obtain⟨s0,kI,qQ,hZ⟩:=s.BS bt
    have lf:=hc.call Γ f ds m d m1 qO n0 _ _ _ vs n s0 kI qQ hr
    refine lf.mono fun en w' hb=>?_
    obtain⟨v,e',reg',h1,h2,st',to,cR,il⟩:=hZ _ _ _ _ hb
    obtain⟨e2,FW,cf,iS,MH⟩:=Wl Cf st' s.gi (by rw[s.st];exact Nat.le_refl _) to cR
    exact⟨v,e2,reg',h1,by rw[FW];exact h2,cf,iS,MH,il⟩
   ·obtain⟨s0,kI,qQ,hZ⟩:=s.BS bt
    have lf:=hc.call Γ f ds m d m' h n0 _ _ _ vs n s0 kI qQ hr
    exact lf.mono fun en w' hb=>hZ _ _ _ _ hb
theorem VM {rec:Rec}(hc:oI P rec)(cR:sg P rec){g:de}{i:Nat}{s s':S}(h:rq P rec g i s=some s')(hΓ:g.Γ=Γ)(yg:g.nt=nt)(st:St n0 PR Γ e al s.m)(bt:iD al)(hf:Fr r k0 nt Γ e al s.fr a)
  {K:Act->World->Prop} (hK:Next n0 PR Γ r k0 nt e s' K) (Q:Exit->Act->World->Prop) (n:Nat):wpOpIn (kb r) n P g.ops Q i K a e.w:=by
 unfold rq at h
 unfold wpOpIn
 split at h
 ·rename_i ho
  cases h
  rw[ho]
  exact hK a e al st bt hf (To.refl ..)
 ·rename_i o ho
  rw[ho]
  simp only
  split at h
  ·cases h
  ·rename_i ab4
   have BL:qv nt o.dst=true:=by rw[←yg];simpa using ab4
   split at h
   ·cases h
   ·rename_i hw
    cases h
    rw[XK hf.rd hw]
    exact⟨fun _ _=>trivial,agb st hf bt BL hK⟩
   ·rename_i hw
    rw[XK hf.rd hw,if_pos rfl]
    refine⟨fun _ _=>trivial,?_⟩
    have bB:∀x s,RD e s (ev s'.fr x) ((⟨a.tmps,a.defers⟩:Act).eval x)->True:=fun _ _ _=>trivial
    have FC:∀x s1,RD e s1 (ev s.fr x) (a.eval x):=fun x s1=>oW (tm:=a.tmps) (df:=a.defers) hf.rd x
    split at h
    ·rename_i f xs ys args kE
     obtain⟨k,gx,jB,hk,Mp,eG⟩:=Q6 kE
     rw[Option.map_eq_some_iff]at h
     obtain⟨⟨d,m'⟩,u3,hh⟩:=h
     cases hh
     have nU:=FC gx (fun _=>False)
     rw[←Mp]at nU
     generalize sH:a.eval gx=ag at nU
     cases nU with
     | fn h1 h2=>
      rename_i us vs
      have gJ:bd e (xs++args++ys) (us++k.args.toList.map a.eval++vs):=by
       rw[eG]
       exact(h1.append (uQ FC k.args.toList)).append h2
      rw[hΓ]at u3
      obtain⟨BM,lf⟩:=Z0 hc u3 st bt gJ (n - 1)
      rw[Oper.semAt_eq _ _ _ (by simp[jB]),Z4 jB hk sH BM,Oper.uponIn_enter]
      refine⟨fun hh=>by simp[Fence.wide]at hh,CallsIn.kb r (CallsIn.mono lf fun en w' hb=>?_)⟩
      obtain⟨v,e',reg',rfl,rfl,st',to,fc,il⟩:=hb
      exact hK _ e' (fq reg' o.dst) (st'.fq _) (vH _ _) (hf.put st.gi to (drop:=[]) BL fc (fun t _ x hx=>il t x hx)) to
    ·rename_i j args kE
     obtain⟨k,gx,jB,hk,Mp,eG⟩:=Q6 kE
     rw[Option.map_eq_some_iff]at h
     obtain⟨⟨d,m'⟩,u3,hh⟩:=h
     cases hh
     have nU:=FC gx (fun _=>False)
     rw[←Mp]at nU
     generalize sH:a.eval gx=ag at nU
     cases nU with
     | yl hl=>
      rename_i l
      rw[hΓ]at u3
      obtain⟨s0,kI,qQ,hZ⟩:=st.BS bt
      obtain⟨x,hx,hlen,acs⟩:=cR Γ j args s.m d m' u3 n0 _ _ _ (k.args.toList.map a.eval) (n - 1) s0 kI qQ (by rw[eG];exact uQ FC _) l hl
      rw[Oper.semAt_eq _ _ _ (by simp[jB]),aqc jB hk sH,run_yield hx (by simpa using hlen),Oper.uponIn_round]
      refine⟨fun hh=>by simp[Fence.wide]at hh,RoundIn.kb r (RoundIn.mono acs fun en w' hb=>?_)⟩
      obtain⟨v,e',reg',rfl,rfl,st',to,fc,il⟩:=hZ _ _ _ _ hb
      exact hK _ e' (fq reg' o.dst) (st'.fq _) (vH _ _) (hf.put st.gi to (drop:=[]) BL fc (fun t _ x hx=>il t x hx)) to
    ·cases h
    ·rename_i kE
     rw[Option.map_eq_some_iff]at h
     obtain⟨rr,jB,hh⟩:=h
     cases hh
     rw[←st.st]at jB
     have ig:∀c,o.op≠ .defer c:=fun c hc=>by rw[hc]at jB;simp[aI]at jB
     cases ye:F2 o.op with
     | false=>
      obtain⟨⟨v,e',reg',dn⟩,qM⟩:=aeN (tm:=a.tmps) (df:=a.defers) st.mi bt hf.rd jB ye
      have m7:e'.la=e.la:=congrArg Prod.snd dn.st
      have bz:e'.st=za e.st rr.set:=congrArg Prod.fst dn.st
      have nn:fX e e':=by
       cases hs:rr.set with
       | none=>rw[hs]at bz;exact fX.of_eq bz
       | some x=>rw[hs]at bz;obtain⟨xi,xo⟩:=x;exact fX.vM bz (qM xi xo hs)
      have to:To n0 PR Γ e e':=To.C1 dn.ext dn.bp nn
      have st':St n0 PR Γ e' reg' (eD s.m rr.set):=by
       refine⟨?_,?_,fun l hl=>?_,dn.mi,?_⟩
       ·rw[bz,st.st]
        cases rr.set with
        | none=>rfl
        | some x=>rfl
       ·rw[m7,st.la]
        cases rr.set with
        | none=>rfl
        | some x=>rfl
       ·rw[m7]at hl
        exact⟨(st.lt l hl).1,Nat.lt_of_lt_of_le (st.lt l hl).2 dn.bp.size⟩
       ·have:=st.gi.bp dn.ext dn.bp nn
        cases rr.set with
        | none=>exact this
        | some x=>exact this
      have pa:=hK _ e' (fq reg' o.dst) (st'.fq _) (vH _ _) (hf.put st.gi to (drop:=rr.drop) BL dn.res dn.slot) to
      rw[Oper.semAt_eq _ _ _ ig]
      rcases dn.run with dJ | ⟨dJ,rfl⟩
      ·rw[show(⟨a.tmps,a.defers⟩:Act).eval=a.eval from rfl]at dJ
       rw[dJ,Oper.uponIn_value];exact pa
      ·rw[show(⟨a.tmps,a.defers⟩:Act).eval=a.eval from rfl]at dJ
       rw[dJ,Oper.uponIn_skip];exact pa
     | true=>
      obtain⟨v,e',dn⟩:=adK (tm:=a.tmps) (df:=a.defers) st.mi st.gi.mp hf.rd jB ye
      have m7:e'.la=e.la:=congrArg Prod.snd dn.st
      have bz:e'.st=za e.st rr.set:=congrArg Prod.fst dn.st
      have SR:∀(l:Nat) (x:Loop),e.w.heap[l]? =some (.loop x)->e'.w.heap[l]? =some (.loop x):=fun l x hx=>dn.bp.obj l _ hx rfl (MB.not st.gi hx rfl)
      have to:To n0 PR Γ e e':=⟨dn.ext,dn.bp.fV fun _ h=>.inr h,dn.maps,fun l x _ hx=>⟨x,SR l x hx,rfl⟩⟩
      have sM:GI n0 e' Γ s.m.pd:=st.gi.OK dn.ext dn.mp fun l x _ hx=>SR l x hx
      have st':St n0 PR Γ e' al (eD s.m rr.set):=by
       refine⟨?_,?_,fun l hl=>?_,dn.mi,?_⟩
       ·rw[bz,st.st]
        cases rr.set with
        | none=>rfl
        | some x=>rfl
       ·rw[m7,st.la]
        cases rr.set with
        | none=>rfl
        | some x=>rfl
       ·rw[m7]at hl
        exact⟨(st.lt l hl).1,Nat.lt_of_lt_of_le (st.lt l hl).2 dn.bp.size⟩
       ·cases rr.set with
        | none=>exact sM
        | some x=>exact sM
      have pa:=hK _ e' (fq al o.dst) (st'.fq _) (vH _ _) (hf.put st.gi to (drop:=rr.drop) BL (dn.res _) (fun _ _ _ h=>h)) to
      rw[Oper.semAt_eq _ _ _ ig]
      rcases dn.run with dJ | ⟨dJ,rfl⟩
      ·rw[show(⟨a.tmps,a.defers⟩:Act).eval=a.eval from rfl]at dJ
       rw[dJ,Oper.uponIn_value];exact pa
      ·rw[show(⟨a.tmps,a.defers⟩:Act).eval=a.eval from rfl]at dJ
       rw[dJ,Oper.uponIn_skip];exact pa
end
end Go.Abs
namespace Go.Abs
open Go
variable [Fl]
variable [Gl]
def xA (ts:List Tmp)(fr fr':Nat->DV):Prop:=∀t∈ts,fr t=fr' t
theorem abq {fr fr':Nat->DV}{x:Operand}(h:∀t∈iz x,fr t=fr' t):ev fr x=ev fr' x∧raw fr x=raw fr' x:=by
 cases x with
 | tmp t=>have:=h t (by simp[iz]);simp[ev,raw,this]
 | _=>exact⟨rfl,rfl⟩
theorem LU {fr fr':Nat->DV}{xs:List Operand}(h:∀x∈xs,ev fr x=ev fr' x):ka fr xs=ka fr' xs:=List.map_congr_left h
theorem RY {fr fr':Nat->DV}{xs:List (Nat×Operand)}(h:∀x∈xs,ev fr x.2=ev fr' x.2):oU fr xs=oU fr' xs:=by
 refine List.map_congr_left fun x hx=>?_
 obtain⟨i,y⟩:=x
 have:=h (i,y) hx
 simp only at this
 simp only[this]
theorem NP {fr fr':Nat->DV}{x:Option Operand}(h:∀y,x=some y->ev fr y=ev fr' y):x.map (ev fr)=x.map (ev fr'):=by
 cases x with
 | none=>rfl
 | some y=>simp[h y rfl]
section
variable {P:Program}
theorem aeO {c:Site}{op:Op}{fr fr':Nat->DV}(h:xA (op.operands.toList.flatMap iz) fr fr')(st:List Ob):aI P c op fr st=aI P c op fr' st∧bA c op fr=bA c op fr'∧cK fr op=cK fr' op:=by
 have hx:∀x∈op.operands.toList,ev fr x=ev fr' x∧raw fr x=raw fr' x:=fun x hx=>abq fun t ht=>h t (List.mem_flatMap.2 ⟨x,hx,ht⟩)
 cases op with
 | build t ps=>
  have:oU fr ps.toList=oU fr' ps.toList:=RY fun x hm=>(hx x.2 (by simp[Op.operands];exact⟨x.1,by simpa using hm⟩)).1
  simp[aI,bA,cK,this]
 | buildSlice t n ps=>
  have:oU fr ps.toList=oU fr' ps.toList:=RY fun x hm=>(hx x.2 (by simp[Op.operands];exact⟨x.1,by simpa using hm⟩)).1
  simp[aI,bA,cK,this]
 | makeFunc fn xs ys=>
  have h1:ka fr xs.toList=ka fr' xs.toList:=LU fun x hm=>(hx x (by simp[Op.operands];exact .inl (by simpa using hm))).1
  have h2:ka fr ys.toList=ka fr' ys.toList:=LU fun x hm=>(hx x (by simp[Op.operands];exact .inr (by simpa using hm))).1
  cases fn<;>simp[aI,bA,cK,h1,h2]
 | slice t x lo hi mx=>
  have h1:=(hx x (by simp[Op.operands])).1
  have h2:lo.map (ev fr)=lo.map (ev fr'):=NP fun y hy=>(hx y (by simp[Op.operands,hy])).1
  have h3:hi.map (ev fr)=hi.map (ev fr'):=NP fun y hy=>(hx y (by simp[Op.operands,hy])).1
  have h4:mx.map (ev fr)=mx.map (ev fr'):=NP fun y hy=>(hx y (by simp[Op.operands,hy])).1
  simp[aI,bA,cK,h1,h2,h3,h4]
 | call k=>
  have eG:∀x∈k.args.toList,ev fr x=ev fr' x∧raw fr x=raw fr' x:=fun x hm=>hx x (by
   have ie:x∈k.args:=by simpa using hm
   cases hk:k.callee<;>simp[Op.operands,Call.operands,hk,ie])
  have u4:ka fr k.args.toList=ka fr' k.args.toList:=LU fun x hm=>(eG x hm).1
  cases hk:k.callee with
  | value g=>
   have hg:=(hx g (by simp[Op.operands,Call.operands,hk])).1
   simp[aI,bA,cK,hk,hg,u4]
  | invoke x name=>simp[aI,bA,cK,hk]
  | builtin b=>
   cases hl:k.args.toList with
   | nil=>cases b<;>simp[aI,bA,cK,hk,hl,ka]
   | cons x xs=>
    have e1:=eG x (by rw[hl];simp)
    rw[hl]at u4
    cases xs with
    | nil=>cases b<;>simp[aI,bA,cK,hk,hl,e1.1,e1.2,u4]
    | cons y ys=>
     have e2:=eG y (by rw[hl];simp)
     cases ys with
     | nil=>cases b<;>simp[aI,bA,cK,hk,hl,e1.1,e1.2,e2.1,e2.2,u4]
     | cons z zs=>cases b<;>simp[aI,bA,cK,hk,hl,e1.1,e1.2,e2.1,e2.2,u4]
 | move x=>have h1:=hx x (by simp[Op.operands]);simp[aI,bA,cK,h1.1,h1.2]
 | assign x=>have h1:=hx x (by simp[Op.operands]);simp[aI,bA,cK,h1.1,h1.2]
 | pick b x y=>
  have h1:=hx b (by simp[Op.operands]);have h2:=hx x (by simp[Op.operands]);have h3:=hx y (by simp[Op.operands])
  simp[aI,bA,cK,h1.1,h2.1,h3.1]
 | alloc t=>simp[aI,bA,cK]
 | box t x=>have h1:=hx x (by simp[Op.operands]);simp[aI,bA,cK,h1.1]
 | load t x=>have h1:=hx x (by simp[Op.operands]);simp[aI,bA,cK,h1.1]
 | store t x y=>
  have h1:=hx x (by simp[Op.operands]);have h2:=hx y (by simp[Op.operands])
  simp[aI,bA,cK,h1.1,h2.1,h2.2]
 | nilCheck x=>have h1:=hx x (by simp[Op.operands]);simp[aI,bA,cK,h1.1]
 | binOp op t x y u=>
  have h1:=hx x (by simp[Op.operands]);have h2:=hx y (by simp[Op.operands])
  simp[aI,bA,cK,h1.1,h2.1]
 | unOp op t x=>have h1:=hx x (by simp[Op.operands]);simp[aI,bA,cK,h1.1]
 | convert a b x=>have h1:=hx x (by simp[Op.operands]);simp[aI,bA,cK,h1.1]
 | makeSlice t x y=>
  have h1:=hx x (by simp[Op.operands]);have h2:=hx y (by simp[Op.operands])
  simp[aI,bA,cK,h1.1,h2.1]
 | fieldAddr t x f=>have h1:=hx x (by simp[Op.operands]);simp[aI,bA,cK,h1.1]
 | field t x f=>have h1:=hx x (by simp[Op.operands]);simp[aI,bA,cK,h1.1]
 | indexAddr t x y=>
  have h1:=hx x (by simp[Op.operands]);have h2:=hx y (by simp[Op.operands])
  simp[aI,bA,cK,h1.1,h2.1]
 | index t x y=>
  have h1:=hx x (by simp[Op.operands]);have h2:=hx y (by simp[Op.operands])
  simp[aI,bA,cK,h1.1,h2.1]
 | extract x i=>have h1:=hx x (by simp[Op.operands]);simp[aI,bA,cK,h1.1]
 | makeMap t r=>cases r<;>simp[aI,bA,cK]
 | lookup t x i ok=>
  have h1:=hx x (by simp[Op.operands]);have h2:=hx i (by simp[Op.operands])
  simp[aI,bA,cK,h1.1,h2.1]
 | mapUpdate t x i y=>
  have h1:=hx x (by simp[Op.operands]);have h2:=hx i (by simp[Op.operands]);have h3:=hx y (by simp[Op.operands])
  simp[aI,bA,cK,h1.1,h2.1,h3.1]
 | insert t x i y=>
  have h1:=hx x (by simp[Op.operands]);have h2:=hx i (by simp[Op.operands]);have h3:=hx y (by simp[Op.operands])
  simp[aI,bA,cK,h1.1,h2.1,h3.1]
 | range t x=>have h1:=hx x (by simp[Op.operands]);simp[aI,bA,cK,h1.1]
 | next x b=>have h1:=hx x (by simp[Op.operands]);cases b<;>simp[aI,bA,cK,h1.1]
 | entry x=>have h1:=hx x (by simp[Op.operands]);simp[aI,bA,cK,h1.1]
 | _=>simp[aI,bA,cK]
theorem qC {st st':List Ob}{id ver:Nat}(h:st[id]? =st'[id]?):hU st id ver=hU st' id ver:=by simp[hU,h]
theorem CD {st st':List Ob}{id:Nat}{cs:List DV}(h:st[id]? =st'[id]?):lay st id cs=lay st' id cs:=by simp[lay,h]
theorem adv {st st':List Ob}{t:TypeId}{x:DV}(h:∀i∈refsOf x,st[i]? =st'[i]?):iq P st t x=iq P st' t x:=by
 cases x<;>simp[iq]
 rename_i id ver off
 rw[qC (h id (by simp[refsOf]))]
theorem age {st st':List Ob}{t:TypeId}{x:DV}{lo hi mx:Option DV}(h:∀i∈refsOf x,st[i]? =st'[i]?):pI P st t x lo hi mx=pI P st' t x lo hi mx:=by
 unfold pI
 cases P.underlying t with
 | none=>rfl
 | some td=>
  cases x with
  | pt id ver off=>cases td<;>first | rfl | simp only[qC (h id (by simp[refsOf]))]
  | c v=>cases td<;>cases v<;>first | rfl | (rename_i u;cases u<;>rfl)
  | _=>cases td<;>rfl
theorem ah4 {st st':List Ob}{t:TypeId}{x v:DV}(h:∀i∈refsOf x,st[i]? =st'[i]?):gS P st t x v=gS P st' t x v:=by
 unfold gS
 cases cellsOf v<;>cases cJ P t<;>cases x<;>first | rfl | simp only[qC (h _ (by simp[refsOf];rfl))]
theorem LJ {st st':List Ob}{aV:Nat}{x:DV}(h:∀i∈refsOf x,st[i]? =st'[i]?):gH st aV x=gH st' aV x:=by
 cases x with
 | ms id ver off len e x=>simp only[gH,qC (h id (by simp[refsOf]))]
 | c v=>cases v<;>rfl
 | _=>rfl
theorem YE {st st':List Ob}{t t2:TypeId}{x y:DV}(h:∀i∈refsOf y,st[i]? =st'[i]?):oM P st t t2 x y=oM P st' t t2 x y:=by
 unfold oM
 have:∀k,gH st k y=gH st' k y:=fun k=>LJ h
 simp only[this]
theorem YC {st st':List Ob}{fG:Nat}{t t2:TypeId}{x y:DV}(h0:st[fG]? =st'[fG]?)(h1:∀i∈refsOf x,st[i]? =st'[i]?)(h:∀i∈refsOf y,st[i]? =st'[i]?):mN P st fG t t2 x y=mN P st' fG t t2 x y:=by
 unfold mN
 have e1:∀k,gH st k y=gH st' k y:=fun k=>LJ h
 have e2:∀cs,lay st fG cs=lay st' fG cs:=fun cs=>CD h0
 cases x with
 | ms id ver off len e x=>simp only[e1,e2,qC (h1 id (by simp[refsOf]))]
 | c v=>
  cases v with
  | sl nl x cs len=>cases x<;>simp only[e1,e2]
  | _=>simp only[e1,e2]
 | _=>simp only[e1,e2]
theorem aaS {st st':List Ob}{t:TypeId}{x y:DV}(h1:∀i∈refsOf x,st[i]? =st'[i]?)(h:∀i∈refsOf y,st[i]? =st'[i]?):mR P st t x y=mR P st' t x y:=by
 unfold mR
 have e1:∀k,gH st k y=gH st' k y:=fun k=>LJ h
 cases P.underlying t with
 | none=>rfl
 | some td=>
  cases x with
  | ms id ver off len e x=>cases td<;>first | rfl | simp only[e1,qC (h1 id (by simp[refsOf]))]
  | _=>cases td<;>rfl
theorem aav {st st':List Ob}{t:TypeId}{x:DV}(h1:∀i∈refsOf x,st[i]? =st'[i]?):oP P st t x=oP P st' t x:=by
 unfold oP
 cases P.underlying t with
 | none=>rfl
 | some td=>
  cases x with
  | ms id ver off len e x=>cases td<;>first | rfl | simp only[qC (h1 id (by simp[refsOf]))]
  | _=>cases td<;>rfl
theorem Se {st st':List Ob}{x:DV}(h:∀i∈refsOf x,st[i]? =st'[i]?):mV st x=mV st' x:=by
 cases x with
 | ms id ver off len e x=>simp only[mV,qC (h id (by simp[refsOf]))]
 | _=>rfl
theorem uX {st st':List Ob}{id ver:Nat}(h:st[id]? =st'[id]?):mX st id ver=mX st' id ver:=by simp[mX,h]
theorem Tw {st st':List Ob}{id:Nat}{k:MK}(h:st[id]? =st'[id]?):kj st id k=kj st' id k:=by simp[kj,h]
theorem adA {st st':List Ob}{t:TypeId}{x i:DV}{ok:Bool}(h:∀i∈refsOf x,st[i]? =st'[i]?):yC P st t x i ok=yC P st' t x i ok:=by
 unfold yC
 cases yE P t i with
 | none=>rfl
 | some q=>
  cases x with
  | mp id ver=>simp only[uX (h id (by simp[refsOf]))]
  | c v=>cases v<;>first | rfl | (rename_i u;cases u<;>first | rfl | (rename_i w;cases w<;>rfl))
  | _=>rfl
theorem UC {st st':List Ob}{t:TypeId}{x i y:DV}(h:∀i∈refsOf x,st[i]? =st'[i]?):tv P st t x i y=tv P st' t x i y:=by
 unfold tv
 cases yE P t i with
 | none=>rfl
 | some q=>
  cases x with
  | mp id ver=>simp only[uX (h id (by simp[refsOf]))]
  | _=>rfl
theorem ac2 {st st':List Ob}{fG:Nat}{t:TypeId}{x:DV}(h0:st[fG]? =st'[fG]?)(h:∀i∈refsOf x,st[i]? =st'[i]?):vq P st fG t x=vq P st' fG t x:=by
 unfold vq
 have:∀k,kj st fG k=kj st' fG k:=fun k=>Tw h0
 cases x with
 | mp id ver=>simp only[uX (h id (by simp[refsOf])),this]
 | _=>rfl
theorem aeh {st st':List Ob}{x:DV}(h:∀i∈refsOf x,st[i]? =st'[i]?):CP st x=CP st' x:=by
 cases x with
 | mi id ver cj fh=>simp only[CP,uX (h id (by simp[refsOf])),uX (h cj (by simp[refsOf]))]
 | _=>rfl
theorem abj {st st':List Ob}{x:DV}(h:∀i∈refsOf x,st[i]? =st'[i]?):Bi st x=Bi st' x:=by
 cases x with
 | mi id ver cj fh=>simp only[Bi,uX (h id (by simp[refsOf])),uX (h cj (by simp[refsOf]))]
 | _=>rfl
theorem Ui {c:Site}{op:Op}{fr:Nat->DV}{st st':List Ob}(h:∀p∈bA c op fr,st[p.1]? =st'[p.1]?):aI P c op fr st=aI P c op fr st':=by
 cases op with
 | move x=>
  by_cases hm:c.mv=true
  ·simp only[aI,hm,if_true]
  ·by_cases hz:c.fz=true
   ·simp only[bA,hz,if_true]at h
    have hr:∀i∈refsOf (ev fr x),st[i]? =st'[i]? :=fun i hi=>h (i,true) (List.mem_map.2 ⟨i,hi,rfl⟩)
    simp only[aI,Se hr]
   ·simp[aI,hz]
 | assign x=>
  by_cases hm:c.mv=true
  ·simp only[aI,hm,if_true]
  ·by_cases hz:c.fz=true
   ·simp only[bA,hz,if_true]at h
    have hr:∀i∈refsOf (ev fr x),st[i]? =st'[i]? :=fun i hi=>h (i,true) (List.mem_map.2 ⟨i,hi,rfl⟩)
    simp only[aI,Se hr]
   ·simp[aI,hz]
 | alloc t=>have:=fun cs=>CD (cs:=cs) (h (c.id,true) (by simp[bA]));simp only[aI,this]
 | box t x=>have:=fun cs=>CD (cs:=cs) (h (c.id,true) (by simp[bA]));simp only[aI,this]
 | makeSlice t x y=>have:=fun cs=>CD (cs:=cs) (h (c.id,true) (by simp[bA]));simp only[aI,this]
 | buildSlice t n ps=>
  simp only[bA]at h
  by_cases ho:c.own=true
  ·rw[if_pos ho]at h
   have:=fun cs=>CD (cs:=cs) (h (c.id,true) (by simp));simp only[aI,this]
  ·have du:c.own=false:=by simpa using ho
   simp[aI,du]
 | load t x=>
  have hr:∀i∈refsOf (ev fr x),st[i]? =st'[i]? :=fun i hi=>h (i,c.mv) (by simp[bA];exact hi)
  simp only[aI,adv (P:=P) (t:=t) hr]
  by_cases hm:c.mv=true
  ·simp only[hm,if_true]
   split
   ·rename_i id ver off h1 h2
    rw[qC (hr id (by rw[h1];simp[refsOf]))]
   ·rfl
  ·simp[hm]
 | store t x y=>
  have hr:∀i∈refsOf (ev fr x),st[i]? =st'[i]? :=fun i hi=>h (i,true) (by simp[bA];exact hi)
  simp only[aI,ah4 (P:=P) (t:=t) hr]
 | slice t x lo hi mx=>
  have hr:∀i∈refsOf (ev fr x),st[i]? =st'[i]? :=fun i hi=>h (i,false) (by simp[bA];exact hi)
  simp only[aI,age (P:=P) (t:=t) hr]
 | call k=>
  cases hk:k.callee with
  | builtin b=>
   cases hl:k.args.toList with
   | nil=>cases b<;>simp[aI,hk,hl]
   | cons x xs=>
    cases xs with
    | nil=>
     cases b with
     | clear=>
      simp only[bA,hk,hl]at h
      have hx:∀i∈refsOf (ev fr x),st[i]? =st'[i]? :=fun i hi=>h (i,true) (List.mem_map.2 ⟨i,hi,rfl⟩)
      simp only[aI,hk,hl,aav hx]
     | _=>simp[aI,hk,hl,Ga]
    | cons y ys=>
     cases ys with
     | cons z zs=>cases b<;>simp[aI,hk,hl]
     | nil=>
      cases b with
      | append=>
       simp only[bA,hk,hl]at h
       have hy:∀i∈refsOf (ev fr y),st[i]? =st'[i]? :=fun i hi=>h (i,false) (List.mem_append_right _ (List.mem_map.2 ⟨i,hi,rfl⟩))
       simp only[aI,hk,hl,YE hy]
       by_cases ho:c.own=true
       ·rw[if_pos ho]at h
        have hx:∀i∈refsOf (ev fr x),st[i]? =st'[i]? :=fun i hi=>h (i,true) (List.mem_append_left _ (List.mem_cons_of_mem _ (List.mem_map.2 ⟨i,hi,rfl⟩)))
        have h0:st[c.id]? =st'[c.id]? :=h (c.id,true) (List.mem_append_left _ (List.mem_cons_self ..))
        simp only[ho,if_true,YC h0 hx hy]
       ·simp only[ho];rfl
      | copy=>
       simp only[bA,hk,hl]at h
       have hx:∀i∈refsOf (ev fr x),st[i]? =st'[i]? :=fun i hi=>h (i,true) (List.mem_append_left _ (List.mem_map.2 ⟨i,hi,rfl⟩))
       have hy:∀i∈refsOf (ev fr y),st[i]? =st'[i]? :=fun i hi=>h (i,false) (List.mem_append_right _ (List.mem_map.2 ⟨i,hi,rfl⟩))
       simp only[aI,hk,hl,aaS hx hy]
      | _=>simp[aI,hk,hl]
  | _=>simp[aI,hk]
 | makeFunc fn xs ys=>cases fn<;>simp[aI]
 | makeMap t r=>
  cases r with
  | none=>have:=fun k=>Tw (k:=k) (h (c.id,true) (by simp[bA]));simp only[aI,this]
  | some v=>simp[aI]
 | lookup t x i ok=>
  have hr:∀i∈refsOf (ev fr x),st[i]? =st'[i]? :=fun i hi=>h (i,false) (by simp[bA];exact hi)
  simp only[aI,adA (P:=P) hr]
 | mapUpdate t x i y=>
  have hr:∀i∈refsOf (ev fr x),st[i]? =st'[i]? :=fun i hi=>h (i,true) (by simp[bA];exact hi)
  simp only[aI,UC (P:=P) hr]
 | insert t x i y=>
  have hr:∀i∈refsOf (ev fr x),st[i]? =st'[i]? :=fun i hi=>h (i,true) (by simp[bA];exact hi)
  simp only[aI,UC (P:=P) hr]
 | range t x=>
  have hr:∀i∈refsOf (ev fr x),st[i]? =st'[i]? :=fun i hi=>h (i,false) (by simp[bA];exact hi)
  have h0:st[c.id]? =st'[c.id]? :=h (c.id,true) (by simp[bA])
  simp only[aI,ac2 (P:=P) h0 hr]
 | next x b=>
  have hr:∀i∈refsOf (ev fr x),st[i]? =st'[i]? :=fun i hi=>h (i,false) (by simp[bA];exact hi)
  cases b with
  | false=>simp only[aI,aeh hr]
  | true=>simp[aI]
 | entry x=>
  have hr:∀i∈refsOf (ev fr x),st[i]? =st'[i]? :=fun i hi=>h (i,false) (by simp[bA];exact hi)
  simp only[aI,abj hr]
 | _=>simp[aI]
end
end Go.Abs
