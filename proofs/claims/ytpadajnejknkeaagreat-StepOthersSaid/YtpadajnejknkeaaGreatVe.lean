/-
  Part of the proof: printed by the session's own program out of the program's form, or typed; it states no claim by itself.
-/
import Derived.Test.YtpadajnejknkeaaGreatVd
import Derived.Test.YtpadajnejknkeaaGreatFf
set_option linter.unusedVariables false
set_option linter.unusedSimpArgs false
set_option linter.unusedSectionVars false
set_option maxRecDepth 100000
namespace Go.Vig
open Go Go.Abs
structure bY where
 ar:Int
 aU:List aS
 guards:List bn
structure LR where
 fr:Int
 last:Int
 st:bY
def bY.pl (s:bY):bY:=⟨s.ar+1,s.aU,s.guards⟩
def bY.ed (s:bY)(e:aS):bY:=⟨s.ar,s.aU++[e],s.guards⟩
def bY.gd (s:bY)(g:bn):bY:=⟨s.ar,s.aU,s.guards++[g]⟩
def bY.bL (s:bY)(e:Int->aS):bY:=s.pl.ed (e s.ar)
abbrev LF:=dS->LR->LR
def ju (fs:List LF)(near:dS)(fr:Int)(st:bY):LR:=fs.foldl (fun r f=>f near r) ⟨fr,0,st⟩
def eP (e:au):au:={ op:=5,kids:=⟨false,true,[e]⟩,at_:=e.at_}
def jc (a at_:Int):List (List LF)->Int->List Int->bY->List Int×bY
 | [],_,ends,st=>(ends,st)
 | b::bs,i,ends,st=>
  let c:=ju b {} st.ar (st.bL fun x=>{ from_:=a,a8:=x,kind:=9,n_:=i,at_:=at_})
  jc a at_ bs (i+1) (ends++[c.fr]) c.st
theorem Ll (a at_:Int)(b:List LF)(bs:List (List LF))(i:Int)(ends:List Int)(st:bY):jc a at_ (b::bs) i ends st=jc a at_ bs (i+1) (ends++[(ju b {} st.ar (st.bL fun x=>{ from_:=a,a8:=x,kind:=9,n_:=i,at_:=at_})).fr]) (ju b {} st.ar (st.bL fun x=>{ from_:=a,a8:=x,kind:=9,n_:=i,at_:=at_})).st:=rfl
def j8 (d at_:Int)(ends:List Int)(st:bY):bY:=ends.foldl (fun st x=>st.ed { from_:=x,a8:=d,kind:=1,at_:=at_}) st
def b0 (bs:List (List LF))(i:Nat):List LF:=(bs[i]?).getD []
def Cr (s:af)(bs:List (List LF))(a:Int)(st:bY):Int×bY:=
 let c:=ju (b0 bs 0) { bW:=true,e_:=eP s.e_} st.ar (st.bL fun x=>{ from_:=a,a8:=x,kind:=2,e_:=s.e_,at_:=s.e_.at_})
 let cf:=c.st.bL fun d=>{ from_:=c.fr,a8:=d,kind:=1,out:=c.last,at_:=s.at_}
 let lB:=cf.bL fun x=>{ from_:=a,a8:=x,kind:=2,e_:=eP s.e_,at_:=s.e_.at_}
 if 1<bs.length then
  let f:=ju (b0 bs 1) { bW:=true,e_:=s.e_} cf.ar lB
  (c.st.ar,f.st.ed { from_:=f.fr,a8:=c.st.ar,kind:=1,out:=f.last,at_:=s.at_})
 else(c.st.ar,lB.ed { from_:=cf.ar,a8:=c.st.ar,kind:=1,at_:=s.at_})
def Ei (s:af)(bs:List (List LF))(a:Int)(st:bY):Int×bY:=
 let c:=ju (b0 bs 0) { bW:=true,e_:=eP s.e_,loop:=true} st.ar (st.bL fun x=>{ from_:=a,a8:=x,kind:=2,e_:=s.e_,at_:=s.e_.at_})
 let cf:=c.st.ed { from_:=c.fr,a8:=a,kind:=1,at_:=s.at_}
 (cf.ar,cf.bL fun d=>{ from_:=a,a8:=d,kind:=2,e_:=eP s.e_,out:=c.last,at_:=s.e_.at_})
def CJ (s:af)(bs:List (List LF))(a:Int)(st:bY):Int×bY:=
 let c:=ju (b0 bs 0) {} a st
 let cf:=c.st.ed { from_:=c.fr,a8:=a,kind:=1,at_:=s.at_}
 (cf.ar,cf.pl)
def A9 (s:af)(bs:List (List LF))(a:Int)(st:bY):Int×bY:=
 let r:=jc a s.at_ bs 0 [] st
 (r.2.ar,j8 r.2.ar s.at_ r.1 r.2.pl)
def mw (s:af)(bs:List (List LF))(a:Int)(st:bY):Int×bY:=
 if s.kind=3 then Cr s bs a st else if s.kind=4 then Ei s bs a st else if s.kind=5 then CJ s bs a st else A9 s bs a st
section
variable [Kn]
def Ed (p:aj)(s:af)(near:dS)(r:LR):LR:=
 let m:=(dy p s.mon).1
 let st:=r.st.gd (if near.bW=true then { mon:=m,e_:=near.e_,loop:=near.loop} else { mon:=m,e_:={ op:=2,at_:=s.at_}})
 ⟨st.ar,(st.guards.length:Int),st.bL fun x=>{ from_:=r.fr,a8:=x,kind:=6,mon:=m,n_:=s.n_,site:=(st.guards.length:Int),out:=if near.bW=true then 0 else(st.guards.length:Int),at_:=s.at_}⟩
def Dt (p:aj)(s:af)(bs:List (List LF))(r:LR):LR:=
 let m:=(dy p s.mon).1
 let c:=ju (b0 bs 0) {} r.st.ar (r.st.bL fun x=>{ from_:=r.fr,a8:=x,kind:=4,mon:=m,at_:=s.at_})
 ⟨c.st.ar,r.last,c.st.bL fun x=>{ from_:=c.fr,a8:=x,kind:=5,mon:=m,at_:=s.at_}⟩
def oa (p:aj)(s:af)(bs:List (List LF))(near:dS)(r:LR):LR:=
 if s.kind=9 then Ed p s near r
 else if s.kind=1∨s.kind=10∨s.kind=11 then⟨r.st.ar,r.last,r.st.bL fun x=>if s.kind≠1 then { from_:=r.fr,a8:=x,kind:=7+s.kind - 10,mon:=(dy p s.mon).1,at_:=s.at_} else { from_:=r.fr,a8:=x,kind:=1,at_:=s.at_}⟩
 else if s.kind=2 then⟨r.st.ar,r.last,r.st.bL fun x=>{ from_:=r.fr,a8:=x,kind:=3,var:=(eg p s.mon s.name).1,e_:=s.e_,at_:=s.at_}⟩
 else if s.kind=7 then Dt p s bs r
 else⟨(mw s bs r.fr r.st).1,r.last,(mw s bs r.fr r.st).2⟩
def cg (p:aj):af->LF:=af.fold (oa p)
def eJ (p:aj)(l:List af)(near:dS)(fr:Int)(st:bY):LR:=ju (l.map (cg p)) near fr st
theorem Nj (p:aj)(s:af):cg p s=oa p s (s.blocks.l.map fun b=>b.l.map (cg p)):=by rw[cg,af.fold_eq]
def Bd (C:Nat)(st:bY):Prop:=0≤st.ar∧st.ar≤C∧st.aU.length≤C∧st.guards.length≤C
theorem Bd.bL {C:Nat}{st:bY}(h:Bd C st)(e:Int->aS):Bd (C+1) (st.bL e):=by
 obtain⟨h1,h2,h3,h4⟩:=h
 exact⟨by show 0≤st.ar+1;omega,by show st.ar+1≤_;omega,by show(st.aU++[_]).length≤_;simp;omega,by show st.guards.length≤_;omega⟩
theorem Bd.ed {C:Nat}{st:bY}(h:Bd C st)(e:aS):Bd (C+1) (st.ed e):=by
 obtain⟨h1,h2,h3,h4⟩:=h
 exact⟨h1,by show st.ar≤_;omega,by show(st.aU++[_]).length≤_;simp;omega,by show st.guards.length≤_;omega⟩
theorem Bd.pl {C:Nat}{st:bY}(h:Bd C st):Bd (C+1) st.pl:=by
 obtain⟨h1,h2,h3,h4⟩:=h
 exact⟨by show 0≤st.ar+1;omega,by show st.ar+1≤_;omega,by show st.aU.length≤_;omega,by show st.guards.length≤_;omega⟩
theorem Bd.gd {C:Nat}{st:bY}(h:Bd C st)(g:bn):Bd (C+1) (st.gd g):=by
 obtain⟨h1,h2,h3,h4⟩:=h
 exact⟨h1,by show st.ar≤_;omega,by show st.aU.length≤_;omega,by show(st.guards++[_]).length≤_;simp;omega⟩
theorem Bd.le {C D:Nat}{st:bY}(h:Bd C st)(hl:C≤D):Bd D st:=by
 obtain⟨h1,h2,h3,h4⟩:=h
 exact⟨h1,by omega,by omega,by omega⟩
def Fs (f:LF)(k:Nat):Prop:=∀(near:dS) (r:LR) (C:Nat),Bd C r.st->Bd (C+k) (f near r).st
theorem QX {α:Type}{f:α->LF}{k:α->Nat}:∀{l:List α},(∀a∈l,Fs (f a) (k a))->∀{near:dS}{r:LR}{C:Nat},Bd C r.st->Bd (C+(l.map k).sum) ((l.map f).foldl (fun r f=>f near r) r).st
 | [],_,near,r,C,h=>by simpa using h
 | a::l,hf,near,r,C,h=>by
  have h1:=hf a List.mem_cons_self near r C h
  have h2:=QX (l:=l) (fun b hb=>hf b (List.mem_cons_of_mem _ hb)) (near:=near) h1
  rw[List.map_cons,List.map_cons,List.foldl_cons,List.sum_cons,←Nat.add_assoc]
  exact h2
theorem re {p:aj}{l:List af}(h:∀s∈l,Fs (cg p s) (20 * fv s)){near:dS}{fr:Int}{st:bY}{C:Nat}(hb:Bd C st):Bd (C+20 * br l) (eJ p l near fr st).st:=by
 have h1:=QX (l:=l) (f:=cg p) (k:=fun s=>20 * fv s) h (near:=near) (r:=⟨fr,0,st⟩) hb
 have h2:(l.map fun s=>20 * fv s).sum=20 * br l:=by
  unfold br
  clear h h1 hb
  induction l with
  | nil=>rfl
  | cons a l ih=>simp only[List.map_cons,List.sum_cons,ih];omega
 rw[h2]at h1
 exact h1
theorem Lm {p:aj}{a at_:Int}:∀{bs:List (Sl af)},(∀b∈bs,∀s∈b.l,Fs (cg p s) (20 * fv s))->∀{i:Int}{ends:List Int}{st:bY}{C:Nat},Bd C st->Bd (C+(bs.map fun b=>1+20 * br b.l).sum) (jc a at_ (bs.map fun b=>b.l.map (cg p)) i ends st).2∧(jc a at_ (bs.map fun b=>b.l.map (cg p)) i ends st).1.length=ends.length+bs.length
 | [],_,i,ends,st,C,h=>⟨by simpa[jc]using h,by simp[jc]⟩
 | b::bs,hf,i,ends,st,C,h=>by
  simp only[List.map_cons,Ll,List.sum_cons]
  have h1:=re (p:=p) (hf b List.mem_cons_self) (near:={}) (fr:=st.ar) (h.bL fun x=>{ from_:=a,a8:=x,kind:=9,n_:=i,at_:=at_})
  obtain⟨h2,h3⟩:=Lm (p:=p) (a:=a) (at_:=at_) (bs:=bs) (fun c hc=>hf c (List.mem_cons_of_mem _ hc)) (i:=i+1) (ends:=ends++[(eJ p b.l {} st.ar (st.bL fun x=>{ from_:=a,a8:=x,kind:=9,n_:=i,at_:=at_})).fr]) h1
  refine⟨?_,?_⟩
  ·rw[show C+(1+20 * br b.l+(bs.map fun b=>1+20 * br b.l).sum)=C+1+20 * br b.l+(bs.map fun b=>1+20 * br b.l).sum by omega]
   exact h2
  ·refine h3.trans ?_
   simp;omega
theorem RL {d at_:Int}:∀{ends:List Int}{st:bY}{C:Nat},Bd C st->Bd (C+ends.length) (j8 d at_ ends st)
 | [],st,C,h=>h
 | x::ends,st,C,h=>by
  have:=RL (d:=d) (at_:=at_) (ends:=ends) (h.ed { from_:=x,a8:=d,kind:=1,at_:=at_})
  rw[List.length_cons,show C+(ends.length+1)=C+1+ends.length by omega]
  exact this
theorem ux {p:aj}{s:af}{i:Nat}{b:Sl af}(h:s.blocks.l[i]? =some b):b0 (s.blocks.l.map fun b=>b.l.map (cg p)) i=b.l.map (cg p):=by
 rw[b0,List.getElem?_map,h];rfl
theorem YK {p:aj}{s:af}{i:Nat}(h:s.blocks.l[i]? =none):b0 (s.blocks.l.map fun b=>b.l.map (cg p)) i=[]:=by
 rw[b0,List.getElem?_map,h];rfl
theorem AV {p:aj}{s:af}(ih:∀b∈s.blocks.l,∀t∈b.l,Fs (cg p t) (20 * fv t)){i:Nat}{near:dS}{fr:Int}{st:bY}{C:Nat}(h:Bd C st):Bd (C+20 * ((s.blocks.l[i]?).map fun b=>br b.l).getD 0) (ju (b0 (s.blocks.l.map fun b=>b.l.map (cg p)) i) near fr st).st:=by
 cases hb:s.blocks.l[i]? with
 | none=>rw[YK hb];exact h
 | some b=>rw[ux hb];exact re (ih b (List.mem_of_getElem? hb)) h
theorem QZ {s:af}:((s.blocks.l[0]?).map fun b=>br b.l).getD 0+((s.blocks.l[1]?).map fun b=>br b.l).getD 0≤(s.blocks.l.map fun b=>br b.l).sum:=by
 rcases s.blocks.l with _ | ⟨b,_ | ⟨c,l⟩⟩<;>simp<;>omega
theorem adD {p:aj}:∀s:af,s.blocks.l.length≤8->(∀b∈s.blocks.l,∀t∈b.l,Fs (cg p t) (20 * fv t))->Fs (cg p s) (20 * fv s):=fun s h8 ih near r C h=>by
 rw[Nj,oa,tO]
 have h2:=QZ (s:=s)
 split
 ·unfold Ed
  exact((h.gd _).bL _).le (by omega)
 split
 ·exact(h.bL _).le (by omega)
 split
 ·exact(h.bL _).le (by omega)
 split
 ·unfold Dt
  exact((AV ih (i:=0) (h.bL _)).bL _).le (by omega)
 unfold mw
 split
 ·unfold Cr
  have h1:=fun a=>AV ih (i:=0) (near:={ bW:=true,e_:=eP s.e_}) (fr:=r.st.ar) (h.bL a)
  split
  ·exact((AV ih (i:=1) (((h1 _).bL _).bL _)).ed _).le (by omega)
  ·exact((((h1 _).bL _).bL _).ed _).le (by omega)
 split
 ·unfold Ei
  exact(((AV ih (i:=0) (h.bL _)).ed _).bL _).le (by omega)
 split
 ·unfold CJ
  exact(((AV ih (i:=0) h).ed _).pl).le (by omega)
 ·unfold A9
  obtain⟨h3,h4⟩:=Lm (p:=p) (a:=r.fr) (at_:=s.at_) (bs:=s.blocks.l) ih (i:=0) (ends:=[]) h
  refine(RL h3.pl).le ?_
  rw[h4]
  have h5:∀bs:List (Sl af),(bs.map fun b=>1+20 * br b.l).sum=bs.length+20 * (bs.map fun b=>br b.l).sum:=by
   intro bs
   induction bs with
   | nil=>rfl
   | cons b bs ih=>simp only[List.map_cons,List.sum_cons,ih,List.length_cons];omega
  rw[h5]
  simp only[List.length_nil]
  omega
def ko:af->Bool:=af.fold fun s bs=>decide (s.kind=3∨s.kind=4∨s.kind=5∨s.kind=7->1≤s.blocks.l.length)&&decide (s.blocks.l.length≤8)&&bs.all fun b=>decide (b.length≤300)&&b.all id
theorem N8 (s:af):ko s=(decide (s.kind=3∨s.kind=4∨s.kind=5∨s.kind=7->1≤s.blocks.l.length)&&decide (s.blocks.l.length≤8)&&s.blocks.l.all fun b=>decide (b.l.length≤300)&&b.l.all ko):=by
 rw[ko,af.fold_eq,List.all_map]
 congr 2
 funext b
 simp only[Function.comp,List.length_map,List.all_map]
 rfl
theorem tF {s:af}(h:ko s=true):(s.kind=3∨s.kind=4∨s.kind=5∨s.kind=7->1≤s.blocks.l.length)∧s.blocks.l.length≤8∧∀b∈s.blocks.l,b.l.length≤300∧∀t∈b.l,ko t=true:=by
 rw[N8]at h
 simp only[Bool.and_eq_true,decide_eq_true_eq,List.all_eq_true]at h
 exact⟨h.1.1,h.1.2,h.2⟩
theorem CL {p:aj}:∀s:af,ko s=true->Fs (cg p s) (20 * fv s):=af.eZ fun s ih hs=>
 adD s (tF hs).2.1 fun b hb t ht=>ih b hb t ht ((tF hs).2.2 b hb |>.2 t ht)
end
end Go.Vig
namespace Go.Vig
open Go Go.Abs
variable [Kn]
theorem my {a:Sl aH}{b:Sl aO}{c:ByteArray}{d:Bool}{es:List aS}{gs:List bn}{x:Int}(h0:0≤x)(h1:x≤1000000000):T (fun n _=>jJ n a b c d x es gs) (·=(x,x+1)):=by
 simp only[jJ]
 refine T.pos (aW (by omega) (by omega)) (T.pos (aW (by omega) (by omega)) (T.ret ?_))
 rw[Int.add_sub_cancel]
theorem jN {a:Sl aH}{b:Sl aO}{c:ByteArray}{d:Bool}{es:List aS}{gs:List bn}{x:Int}{e:aS}(h:es.length≤1000000000):T (fun n _=>gX n e a b c d x es gs) (·=es++[e]):=by
 simp only[gX]
 exact T.pos (room (by omega) (by simp;omega)) (T.ret rfl)
theorem Gw (e:au):T (fun n _=>xg n e) (·=eP e):=by
 simp only[xg]
 exact T.ret rfl
def LR.out (r:LR):Int×Int×Int×List aS×List bn:=(r.fr,r.last,r.st.ar,r.st.aU,r.st.guards)
def xC (p:aj)(b:Sl af):Prop:=∀(near:dS) (fr:Int) (st:bY) (C:Nat) (name:ByteArray) (star:Bool),Bd C st->C+20 * br b.l≤1000000->
 T (fun n _=>jK n b fr near p.aw p.aR name star st.ar st.aU st.guards) (·=(eJ p b.l near fr st).out)
def X4 (p:aj)(s:af):Prop:=∀(fr:Int) (st:bY) (C:Nat) (name:ByteArray) (star:Bool),Bd C st->C+20 * fv s≤1000000->
 T (fun n _=>rU n s fr p.aw p.aR name star st.ar st.aU st.guards) (fun r=>∃q,q=mw s (s.blocks.l.map fun b=>b.l.map (cg p)) fr st∧r=(q.1,q.2.ar,q.2.aU,q.2.guards))
theorem ah9 {s:af}{i:Nat}{b:Sl af}(h:s.blocks.l[i]? =some b):br b.l+1≤fv s:=OB (List.mem_of_getElem? h)
section
variable {p:aj}{s:af} (hs:ko s=true) (ih:∀b∈s.blocks.l,xC p b)
include hs ih
theorem aar {a:Int}{st:bY}{C:Nat}{name:ByteArray}{star:Bool}(hb:Bd C st)(hC:C+20 * fv s≤1000000):
  T (fun n k=>Ax (jK n) s a p.aw p.aR name star n k [] 0 st.ar st.aU st.guards) (fun o=>match o with | .e1 v _ x y z=>(v,(⟨x,y,z⟩:bY))=jc a s.at_ (s.blocks.l.map fun b=>b.l.map (cg p)) 0 [] st):=by
 obtain⟨_,h8,Cd⟩:=tF hs
 have S6:∀j,((s.blocks.l.take j).map fun b=>1+20 * br b.l).sum≤8+20 * (s.blocks.l.map fun b=>br b.l).sum:=fun j=>by
  have h1:∀bs:List (Sl af),(bs.map fun b=>1+20 * br b.l).sum=bs.length+20 * (bs.map fun b=>br b.l).sum:=by
   intro bs
   induction bs with
   | nil=>rfl
   | cons b bs ih=>simp only[List.map_cons,List.sum_cons,ih,List.length_cons];omega
  rw[h1]
  have h2:((s.blocks.l.take j).map fun b=>br b.l).sum≤(s.blocks.l.map fun b=>br b.l).sum:=by
   conv=>rhs;rw[←List.take_append_drop j s.blocks.l,List.map_append,List.sum_append]
   omega
  have h3:(s.blocks.l.take j).length≤s.blocks.l.length:=by rw[List.length_take];omega
  omega
 have cc:=tO s
 refine T.count (fun i (v:List Int×bY) n k=>Ax (jK n) s a p.aw p.aR name star n k v.1 i v.2.ar v.2.aU v.2.guards) s.blocks.l.length
  (fun j v=>v.1.length=j∧Bd (C+((s.blocks.l.take j).map fun b=>1+20 * br b.l).sum) v.2∧jc a s.at_ ((s.blocks.l.drop j).map fun b=>b.l.map (cg p)) (j:Int) v.1 v.2=jc a s.at_ (s.blocks.l.map fun b=>b.l.map (cg p)) 0 [] st) (fun j v hj hI rec=>?_) (fun v hI=>?_) 0 ([],st) (by omega) ⟨rfl,by simpa using hb,by simp⟩
 all_goals simp only[Ax]
 ·obtain⟨i1,i2,i3⟩:=hI
  have hg:s.blocks.l[j]? =some s.blocks.l[j]:=List.getElem?_eq_getElem hj
  have hm:=List.getElem_mem hj
  have SM:=S6 j
  have Mq:=S6 (j+1)
  rw[nr hg]at Mq
  obtain⟨b1,b2,b3,b4⟩:=i2
  have hw:=Bd.bL ⟨b1,b2,b3,b4⟩ fun x=>({ from_:=a,a8:=x,kind:=9,n_:=(j:Int),at_:=s.at_}:aS)
  refine T.pos (by omega) (T.bind (my (by omega) (by omega)) fun x hx=>?_)
  subst hx
  refine T.bind (jN (by omega)) fun x hx=>?_
  subst hx
  have bz:=ih _ hm {} v.2.ar (v.2.bL fun x=>{ from_:=a,a8:=x,kind:=9,n_:=(j:Int),at_:=s.at_}) _ name star hw (by omega)
  refine T.nat hg (T.bind bz fun x hx=>?_)
  subst hx
  refine T.pos (room (by omega) (by simp;omega)) (T.pos (aW (by omega) (by omega)) (rec (v.1++[(eJ p s.blocks.l[j].l {} v.2.ar (v.2.bL fun x=>{ from_:=a,a8:=x,kind:=9,n_:=(j:Int),at_:=s.at_})).fr],(eJ p s.blocks.l[j].l {} v.2.ar (v.2.bL fun x=>{ from_:=a,a8:=x,kind:=9,n_:=(j:Int),at_:=s.at_})).st) ⟨by simp;omega,?_,?_⟩))
  ·have:=re (p:=p) (l:=s.blocks.l[j].l) (fun t ht=>CL t ((Cd _ hm).2 t ht)) (near:={}) (fr:=v.2.ar) hw
   rw[nr hg]
   exact this.le (by omega)
  ·rw[←i3,List.drop_eq_getElem_cons hj,List.map_cons,Ll]
   rw[Int.natCast_succ];rfl
 ·obtain⟨i1,i2,i3⟩:=hI
  refine T.neg (by omega) (T.ret ?_)
  show(v.1,v.2)=_
  rw[←i3,List.drop_length];rfl
omit hs ih in
theorem abg {st:bY}{C:Nat}{name:ByteArray}{star:Bool}{g:List bn}{x d:Int}:∀{ends:List Int},st.aU.length+ends.length≤1000000->T (fun n k=>Ay s p.aw p.aR name star ends g x d n k 0 st.aU) (fun o=>match o with | .e3 _ es=>es=(j8 x s.at_ ends st).aU):=fun {ends} hl=>by
 refine T.count (fun i (v:bY) n k=>Ay s p.aw p.aR name star ends g x d n k i v.aU) ends.length (fun j v=>v.aU.length=st.aU.length+j∧j8 x s.at_ (ends.drop j) v=j8 x s.at_ ends st) (fun j v hj hI rec=>?_) (fun v hI=>?_) 0 st (by omega) ⟨rfl,by simp⟩
 all_goals simp only[Ay]
 ·have hg:ends[j]? =some ends[j]:=List.getElem?_eq_getElem hj
  obtain⟨i1,i2⟩:=hI
  refine T.pos (by omega) (T.nat hg (T.bind (jN (by omega)) fun y hy=>?_))
  subst hy
  refine T.pos (aW (by omega) (by omega)) (rec (v.ed { from_:=ends[j],a8:=x,kind:=1,at_:=s.at_}) ⟨?_,?_⟩)
  ·show(v.aU++[_]).length=_
   simp;omega
  ·rw[←i2,List.drop_eq_getElem_cons hj];rfl
 ·refine T.neg (by omega) (T.ret ?_)
  rw[List.drop_length]at hI
  exact congrArg bY.aU hI.2
omit hs ih in
theorem LM {x at_:Int}:∀{ends:List Int}{st:bY},(j8 x at_ ends st).ar=st.ar∧(j8 x at_ ends st).guards=st.guards
 | [],st=>⟨rfl,rfl⟩
 | a::ends,st=>LM (ends:=ends) (st:=st.ed { from_:=a,a8:=x,kind:=1,at_:=at_})
theorem ae2:X4 p s:=fun fr st C name star hb hC=>by
 obtain⟨vg,h8,Cd⟩:=tF hs
 have Cs:∀b∈s.blocks.l,∀t∈b.l,Fs (cg p t) (20 * fv t):=fun b hb t ht=>CL t ((Cd b hb).2 t ht)
 have h2:=QZ (s:=s)
 have cc:=tO s
 obtain⟨b1,b2,b3,b4⟩:=id hb
 refine T.n1 ?_
 simp only[rU]
 refine T.ite (fun g=>?_) fun g=>T.ite (fun g4=>?_) fun g4=>T.ite (fun g5=>?_) fun g5=>?_
 ·-- if
  have hl:0<s.blocks.l.length:=by have:=vg (.inl g);omega
  have hg:s.blocks.l[0]? =some s.blocks.l[0]:=List.getElem?_eq_getElem hl
  rw[hg]at h2
  simp only[Option.map_some,Option.getD_some]at h2
  have hw:=hb.bL fun x=>({ from_:=fr,a8:=x,kind:=2,e_:=s.e_,at_:=s.e_.at_}:aS)
  have fb:=re (p:=p) (Cs _ (List.getElem_mem hl)) (near:={ bW:=true,e_:=eP s.e_}) (fr:=st.ar) hw
  have bz:=ih _ (List.getElem_mem hl) { bW:=true,e_:=eP s.e_} st.ar (st.bL fun x=>({ from_:=fr,a8:=x,kind:=2,e_:=s.e_,at_:=s.e_.at_}:aS)) _ name star hw (by omega)
  have nX:mw s (s.blocks.l.map fun b=>b.l.map (cg p)) fr st=Cr s (s.blocks.l.map fun b=>b.l.map (cg p)) fr st:=by rw[mw,if_pos g]
  rw[nX,Cr,ux hg,List.length_map]
  refine T.bind (my b1 (by omega)) fun x hx=>?_
  subst hx
  refine T.bind (jN (by omega)) fun x hx=>?_
  subst hx
  refine T.nat hg (T.bind (Gw _) fun x hx=>?_)
  subst hx
  refine T.bind bz fun x hx=>?_
  subst hx
  generalize hc:eJ p s.blocks.l[0].l { bW:=true,e_:=eP s.e_} st.ar (st.bL fun x=>({ from_:=fr,a8:=x,kind:=2,e_:=s.e_,at_:=s.e_.at_}:aS))=c at fb
  have ib:ju (s.blocks.l[0].l.map (cg p)) { bW:=true,e_:=eP s.e_} st.ar (st.bL fun x=>({ from_:=fr,a8:=x,kind:=2,e_:=s.e_,at_:=s.e_.at_}:aS))=c:=hc
  obtain⟨c1,c2,c3,c4⟩:=id fb
  rw[ib]
  refine T.bind (my (x:=c.st.ar) c1 (by omega)) fun x hx=>?_
  subst hx
  refine T.bind (jN (es:=c.st.aU) (by omega)) fun x hx=>?_
  subst hx
  refine T.bind (my (x:=c.st.ar+1) (by omega) (by omega)) fun x hx=>?_
  subst hx
  refine T.bind (Gw _) fun x hx=>?_
  subst hx
  refine T.bind (jN (es:=c.st.aU++[_]) (by simp;omega)) fun x hx=>?_
  subst hx
  refine T.ite (fun g1=>?_) fun g1=>?_
  ·have gj:1<s.blocks.l.length:=by omega
   have kG:s.blocks.l[1]? =some s.blocks.l[1]:=List.getElem?_eq_getElem gj
   rw[kG]at h2
   simp only[Option.map_some,Option.getD_some]at h2
   rw[if_pos gj,ux kG]
   have FW:=(fb.bL fun d=>({ from_:=c.fr,a8:=d,kind:=1,out:=c.last,at_:=s.at_}:aS)).bL fun x=>({ from_:=fr,a8:=x,kind:=2,e_:=eP s.e_,at_:=s.e_.at_}:aS)
   have acx:=ih _ (List.getElem_mem gj) { bW:=true,e_:=s.e_} (c.st.ar+1) ((c.st.bL fun d=>({ from_:=c.fr,a8:=d,kind:=1,out:=c.last,at_:=s.at_}:aS)).bL fun x=>({ from_:=fr,a8:=x,kind:=2,e_:=eP s.e_,at_:=s.e_.at_}:aS)) _ name star FW (by omega)
   have acg:=re (p:=p) (Cs _ (List.getElem_mem gj)) (near:={ bW:=true,e_:=s.e_}) (fr:=c.st.ar+1) FW
   refine T.nat (i:=1) kG (T.bind acx fun x hx=>?_)
   subst hx
   obtain⟨d1,d2,d3,d4⟩:=id acg
   refine T.bind (jN (by show List.length (eJ _ _ _ _ _).st.aU≤_;omega)) fun x hx=>T.ret ⟨_,rfl,?_⟩
   subst hx
   rfl
  ·rw[if_neg (by omega)]
   refine T.bind (jN (es:=(c.st.aU++[_])++[_]) (by simp;omega)) fun x hx=>T.ret ⟨_,rfl,?_⟩
   subst hx
   rfl
 ·-- while
  have hl:0<s.blocks.l.length:=by have:=vg (.inr (.inl g4));omega
  have hg:s.blocks.l[0]? =some s.blocks.l[0]:=List.getElem?_eq_getElem hl
  rw[hg]at h2
  simp only[Option.map_some,Option.getD_some]at h2
  have hw:=hb.bL fun x=>({ from_:=fr,a8:=x,kind:=2,e_:=s.e_,at_:=s.e_.at_}:aS)
  have fb:=re (p:=p) (Cs _ (List.getElem_mem hl)) (near:={ bW:=true,e_:=eP s.e_,loop:=true}) (fr:=st.ar) hw
  have bz:=ih _ (List.getElem_mem hl) { bW:=true,e_:=eP s.e_,loop:=true} st.ar (st.bL fun x=>({ from_:=fr,a8:=x,kind:=2,e_:=s.e_,at_:=s.e_.at_}:aS)) _ name star hw (by omega)
  have nX:mw s (s.blocks.l.map fun b=>b.l.map (cg p)) fr st=Ei s (s.blocks.l.map fun b=>b.l.map (cg p)) fr st:=by rw[mw,if_neg g,if_pos g4]
  rw[nX,Ei,ux hg]
  refine T.bind (my b1 (by omega)) fun x hx=>?_
  subst hx
  refine T.bind (jN (by omega)) fun x hx=>?_
  subst hx
  refine T.nat hg (T.bind (Gw _) fun x hx=>?_)
  subst hx
  refine T.bind bz fun x hx=>?_
  subst hx
  generalize hc:eJ p s.blocks.l[0].l { bW:=true,e_:=eP s.e_,loop:=true} st.ar (st.bL fun x=>({ from_:=fr,a8:=x,kind:=2,e_:=s.e_,at_:=s.e_.at_}:aS))=c at fb
  have ib:ju (s.blocks.l[0].l.map (cg p)) { bW:=true,e_:=eP s.e_,loop:=true} st.ar (st.bL fun x=>({ from_:=fr,a8:=x,kind:=2,e_:=s.e_,at_:=s.e_.at_}:aS))=c:=hc
  obtain⟨c1,c2,c3,c4⟩:=id fb
  rw[ib]
  refine T.bind (jN (es:=c.st.aU) (by omega)) fun x hx=>?_
  subst hx
  refine T.bind (my (x:=c.st.ar) (by omega) (by omega)) fun x hx=>?_
  subst hx
  refine T.bind (Gw _) fun x hx=>?_
  subst hx
  refine T.bind (jN (es:=c.st.aU++[_]) (by simp;omega)) fun x hx=>T.ret ⟨_,rfl,?_⟩
  subst hx
  rfl
 ·-- loop
  have hl:0<s.blocks.l.length:=by have:=vg (.inr (.inr (.inl g5)));omega
  have hg:s.blocks.l[0]? =some s.blocks.l[0]:=List.getElem?_eq_getElem hl
  rw[hg]at h2
  simp only[Option.map_some,Option.getD_some]at h2
  have fb:=re (p:=p) (Cs _ (List.getElem_mem hl)) (near:={}) (fr:=fr) hb
  have bz:=ih _ (List.getElem_mem hl) {} fr st _ name star hb (by omega)
  have nX:mw s (s.blocks.l.map fun b=>b.l.map (cg p)) fr st=CJ s (s.blocks.l.map fun b=>b.l.map (cg p)) fr st:=by rw[mw,if_neg g,if_neg g4,if_pos g5]
  rw[nX,CJ,ux hg]
  refine T.nat hg (T.bind bz fun x hx=>?_)
  subst hx
  generalize hc:eJ p s.blocks.l[0].l {} fr st=c at fb
  have ib:ju (s.blocks.l[0].l.map (cg p)) {} fr st=c:=hc
  obtain⟨c1,c2,c3,c4⟩:=id fb
  rw[ib]
  refine T.bind (jN (es:=c.st.aU) (by omega)) fun x hx=>?_
  subst hx
  refine T.bind (my (x:=c.st.ar) (by omega) (by omega)) fun x hx=>T.ret ⟨_,rfl,?_⟩
  subst hx
  rfl
 ·-- choose
  have nX:mw s (s.blocks.l.map fun b=>b.l.map (cg p)) fr st=A9 s (s.blocks.l.map fun b=>b.l.map (cg p)) fr st:=by rw[mw,if_neg g,if_neg g4,if_neg g5]
  rw[nX,A9]
  obtain⟨h3,h4⟩:=Lm (p:=p) (a:=fr) (at_:=s.at_) (bs:=s.blocks.l) Cs (i:=0) (ends:=[]) hb
  have h5:∀bs:List (Sl af),(bs.map fun b=>1+20 * br b.l).sum=bs.length+20 * (bs.map fun b=>br b.l).sum:=by
   intro bs
   induction bs with
   | nil=>rfl
   | cons b bs ih=>simp only[List.map_cons,List.sum_cons,ih,List.length_cons];omega
  rw[h5]at h3
  refine T.bind (T.dg (aar hs ih (a:=fr) (name:=name) (star:=star) hb hC)) fun o ho=>?_
  cases o with
  | e1 v i x y z=>
   have ho:(v,(⟨x,y,z⟩:bY))=jc fr s.at_ (s.blocks.l.map fun b=>b.l.map (cg p)) 0 [] st:=ho
   rw[←ho]at h3 h4 ⊢
   obtain⟨c1,c2,c3,c4⟩:=id h3
   simp only[List.length_nil]at h4 c1 c2 c3 c4
   refine T.bind (my (x:=x) c1 (by omega)) fun q hq=>?_
   subst hq
   refine T.bind (T.dg (abg (C:=0) (st:=(⟨x,y,z⟩:bY).pl) (ends:=v) (by show y.length+v.length≤_;omega))) fun o bu=>?_
   cases o with
   | e3 _ es=>
    have bu:es=(j8 x s.at_ v (⟨x,y,z⟩:bY).pl).aU:=bu
    obtain⟨e1,e2⟩:=LM (x:=x) (at_:=s.at_) (ends:=v) (st:=(⟨x,y,z⟩:bY).pl)
    refine T.ret ⟨_,rfl,?_⟩
    simp only[e1,e2,bu]
    rfl
end
end Go.Vig
namespace Go.Vig
open Go Go.Abs
variable [Kn]
theorem adC {p:aj}{l:List af}{j:Nat}{s:af}(h:l[j]? =some s)(near:dS)(fr:Int)(st:bY):eJ p (l.take (j+1)) near fr st=cg p s near (eJ p (l.take j) near fr st):=by
 rw[eJ,eQ h,List.map_append,ju,List.foldl_append];rfl
theorem VY {l:List af}{j:Nat}{s:af}(h:l[j]? =some s):br (l.take (j+1))=br (l.take j)+fv s:=nr h _
theorem ah0 {p:aj}(hf:dI p){l:Sl af}(hl:l.l.length≤300)(hs:∀s∈l.l,ko s=true)(ih:∀s∈l.l,∀b∈s.blocks.l,xC p b){near:dS}{fr:Int}{st:bY}{C:Nat}{name:ByteArray}{star:Bool}(hb:Bd C st)(hC:C+20 * br l.l≤1000000):
  T (fun n k=>lK (jK n) (rU n) l near p.aw p.aR name star n k fr 0 0 st.ar st.aU st.guards) (fun o=>match o with | .e0 a b _ x y z=>(⟨a,b,⟨x,y,z⟩⟩:LR)=eJ p l.l near fr st):=by
 refine T.count (fun i (r:LR) n k=>lK (jK n) (rU n) l near p.aw p.aR name star n k r.fr r.last i r.st.ar r.st.aU r.st.guards) l.l.length
  (fun j r=>Bd (C+20 * br (l.l.take j)) r.st∧r=eJ p (l.l.take j) near fr st) (fun j r hj hI rec=>?_) (fun r hI=>?_) 0 ⟨fr,0,st⟩ (by omega) ⟨hb,rfl⟩
 all_goals simp only[lK]
 ·have hg:l.l[j]? =some l.l[j]:=List.getElem?_eq_getElem hj
  have hm:=List.getElem_mem hj
  obtain⟨i1,i2⟩:=hI
  have cc:br (l.l.take j)+fv l.l[j]≤br l.l:=by
   rw[←VY hg]
   conv=>rhs;rw[←List.take_append_drop (j+1) l.l,Oz]
   omega
  have aqt:=VZ l.l[j]
  obtain⟨b1,b2,b3,b4⟩:=id i1
  have eu:∀r':LR,r'=cg p l.l[j] near r->T (fun n k=>lK (jK n) (rU n) l near p.aw p.aR name star n k r'.fr r'.last ((j:Int)+1) r'.st.ar r'.st.aU r'.st.guards) (fun o=>match o with | .e0 a b _ x y z=>(⟨a,b,⟨x,y,z⟩⟩:LR)=eJ p l.l near fr st):=fun r' fc=>by
   refine rec r' ⟨?_,?_⟩
   ·rw[fc,VY hg]
    exact(CL _ (hs _ hm) near r _ i1).le (by omega)
   ·rw[fc,i2,adC hg]
  have x7:=aW (n:=(j:Int)+1) (by omega) (by omega)
  have B2:=vE hf l.l[j].mon
  have qT:cg p l.l[j] near r=oa p l.l[j] (l.l[j].blocks.l.map fun b=>b.l.map (cg p)) near r:=by rw[Nj]
  refine T.pos (by omega) (T.nat hg (T.bind B2 fun x hx=>?_))
  subst hx
  refine T.ite (fun g9=>?_) fun g9=>T.bind (P:=fun o=>o= .m (decide (l.l[j].kind=1∨l.l[j].kind=10∨l.l[j].kind=11))) ?_ fun o ho=>?_
  ·-- wait
   have hw:cg p l.l[j] near r=Ed p l.l[j] near r:=by rw[qT,oa,if_pos g9]
   refine T.ite (fun gn=>T.ite (fun gl=>?_) fun gl=>?_) fun gn=>?_
   all_goals
    refine T.pos (room (by omega) (by simp;omega)) (T.bind (my (x:=r.st.ar) (by omega) (by omega)) fun x hx=>?_)
    subst hx
    refine T.bind (jN (es:=r.st.aU) (by omega)) fun x hx=>?_
    subst hx
    refine T.pos x7 (eu ⟨_,_,⟨_,_,_⟩⟩ ?_)
    rw[hw,Ed]
    simp only[gn,if_true,if_false,Bool.false_eq_true]
   ·rw[gl];rfl
   ·rw[Bool.not_eq_true]at gl;rw[gl];rfl
   ·rfl
  ·simp only[PF]
   refine T.ite (fun g=>T.ret ?_) fun g=>T.ite (fun g2=>T.ret ?_) fun g2=>T.ite (fun g3=>T.ret ?_) fun g3=>T.ret ?_
   ·rw[decide_eq_true (.inl g)]
   ·rw[decide_eq_true (.inr (.inl g2))]
   ·rw[decide_eq_true (.inr (.inr g3))]
   ·rw[decide_eq_false (by omega)]
  subst ho
  refine T.cond (fun g1=>?_) fun g1=>?_
  ·-- skip,notify
   have g1:l.l[j].kind=1∨l.l[j].kind=10∨l.l[j].kind=11:=of_decide_eq_true g1
   refine T.bind (my (x:=r.st.ar) (by omega) (by omega)) fun x hx=>?_
   subst hx
   refine T.ite (fun gk=>?_) fun gk=>?_
   ·refine T.pos (aW (by omega) (by omega)) (T.pos (aW (by omega) (by omega)) (T.bind (jN (es:=r.st.aU) (by omega)) fun x hx=>?_))
    subst hx
    refine T.pos x7 (eu ⟨_,_,⟨_,_,_⟩⟩ ?_)
    rw[qT,oa,if_neg g9,if_pos g1,bY.bL,if_pos gk];rfl
   ·refine T.bind (jN (es:=r.st.aU) (by omega)) fun x hx=>?_
    subst hx
    refine T.pos x7 (eu ⟨_,_,⟨_,_,_⟩⟩ ?_)
    rw[qT,oa,if_neg g9,if_pos g1,bY.bL,if_neg gk];rfl
  have g1:¬(l.l[j].kind=1∨l.l[j].kind=10∨l.l[j].kind=11):=of_decide_eq_false g1
  refine T.ite (fun g2=>?_) fun g2=>T.ite (fun g7=>?_) fun g7=>?_
  ·-- set
   refine T.bind (Dg hf _ _) fun y hy=>?_
   subst hy
   refine T.bind (my (x:=r.st.ar) (by omega) (by omega)) fun x hx=>?_
   subst hx
   refine T.bind (jN (es:=r.st.aU) (by omega)) fun x hx=>?_
   subst hx
   refine T.pos x7 (eu ⟨_,_,⟨_,_,_⟩⟩ ?_)
   rw[qT,oa,if_neg g9,if_neg g1,if_pos g2];rfl
  ·-- sync
   obtain⟨vg,h8,Cd⟩:=tF (hs _ hm)
   have kH:0<l.l[j].blocks.l.length:=by have:=vg (.inr (.inr (.inr g7)));omega
   have Mm:l.l[j].blocks.l[0]? =some l.l[j].blocks.l[0]:=List.getElem?_eq_getElem kH
   have aqw:=ah9 Mm
   have hw:=i1.bL fun x=>({ from_:=r.fr,a8:=x,kind:=4,mon:=(dy p l.l[j].mon).1,at_:=l.l[j].at_}:aS)
   have bz:=ih _ hm _ (List.getElem_mem kH) {} r.st.ar (r.st.bL fun x=>({ from_:=r.fr,a8:=x,kind:=4,mon:=(dy p l.l[j].mon).1,at_:=l.l[j].at_}:aS)) _ name star hw (by omega)
   have fb:=re (p:=p) (l:=l.l[j].blocks.l[0].l) (fun t ht=>CL t ((Cd _ (List.getElem_mem kH)).2 t ht)) (near:={}) (fr:=r.st.ar) hw
   refine T.bind (my (x:=r.st.ar) (by omega) (by omega)) fun x hx=>?_
   subst hx
   refine T.bind (jN (es:=r.st.aU) (by omega)) fun x hx=>?_
   subst hx
   refine T.nat (i:=0) Mm (T.bind bz fun x hx=>?_)
   subst hx
   have MO:cg p l.l[j] near r=Dt p l.l[j] (l.l[j].blocks.l.map fun b=>b.l.map (cg p)) r:=by rw[qT,oa,if_neg g9,if_neg g1,if_neg g2,if_pos g7]
   rw[Dt,ux Mm]at MO
   generalize hc:eJ p l.l[j].blocks.l[0].l {} r.st.ar (r.st.bL fun x=>({ from_:=r.fr,a8:=x,kind:=4,mon:=(dy p l.l[j].mon).1,at_:=l.l[j].at_}:aS))=c at fb
   have ib:ju (l.l[j].blocks.l[0].l.map (cg p)) {} r.st.ar (r.st.bL fun x=>({ from_:=r.fr,a8:=x,kind:=4,mon:=(dy p l.l[j].mon).1,at_:=l.l[j].at_}:aS))=c:=hc
   rw[ib]at MO
   obtain⟨c1,c2,c3,c4⟩:=id fb
   refine T.bind (my (x:=c.st.ar) (by omega) (by omega)) fun x hx=>?_
   subst hx
   refine T.bind (jN (es:=c.st.aU) (by omega)) fun x hx=>?_
   subst hx
   refine T.pos x7 (eu ⟨_,_,⟨_,_,_⟩⟩ ?_)
   rw[MO];rfl
  ·-- parts
   refine T.bind (ae2 (hs _ hm) (ih _ hm) r.fr r.st _ name star i1 (by omega)) fun x hx=>?_
   obtain⟨q,hq,hx⟩:=hx
   subst hx
   refine T.pos x7 (eu ⟨q.1,r.last,q.2⟩ ?_)
   rw[qT,oa,if_neg g9,if_neg g1,if_neg g2,if_neg g7,←hq]
 ·obtain⟨i1,i2⟩:=hI
  rw[List.take_length]at i2
  exact T.neg (by omega) (T.ret i2)
theorem VR {p:aj}(hf:dI p){l:Sl af}(hl:l.l.length≤300)(hs:∀s∈l.l,ko s=true)(ih:∀s∈l.l,∀b∈s.blocks.l,xC p b):xC p l:=fun near fr st C name star hb hC=>by
 refine T.n1 ?_
 simp only[jK]
 refine T.bind (T.dg (ah0 hf hl hs ih hb hC (near:=near) (fr:=fr) (name:=name) (star:=star))) fun o ho=>?_
 cases o with
 | e0 a b _ x y z=>
  have ho:(⟨a,b,⟨x,y,z⟩⟩:LR)=eJ p l.l near fr st:=ho
  exact T.ret (by rw[←ho];rfl)
theorem ah1 {p:aj}(hf:dI p):∀s:af,ko s=true->∀b∈s.blocks.l,xC p b:=af.eZ fun s ih hs b hb=>by
 obtain⟨_,_,h3⟩:=tF hs
 exact VR hf (h3 b hb).1 (h3 b hb).2 fun t ht=>ih b hb t ht ((h3 b hb).2 t ht)
theorem ah2 {p:aj}(hf:dI p){l:Sl af}(hl:l.l.length≤300)(hs:∀s∈l.l,ko s=true):xC p l:=VR hf hl hs fun t ht=>ah1 hf t (hs t ht)
theorem acR {s:af}(h:m9 s=true):(s.kind=3∨s.kind=4∨s.kind=5∨s.kind=7->1≤s.blocks.l.length)∧s.blocks.l.length≤8:=by
 rw[Cy,Bool.and_eq_true]at h
 have h2:=h.1
 rw[yb,Bool.and_eq_true]at h2
 have h3:=h2.1
 cases hf:sF s.kind with
 | none=>rw[hf]at h3;cases h3
 | some f=>
  rw[hf]at h3
  simp only[uW,xW,Bool.and_eq_true,decide_eq_true_eq]at h3
  have qK:=h3.1.1.1.1.1.1.1
  have hhi:=h3.1.1.1.1.1.1.2
  unfold sF at hf
  repeat' split at hf
  all_goals first | (cases hf;simp only at qK hhi;omega) | cases hf
theorem ae7 {rec:a7->List af}(hr:∀r,(rec r).length≤300∧∀t∈rec r,ko t=true):∀s:af,m9 s=true->bS s=true->ko (cW rec s)=true:=af.eZ fun s ih hs hb=>by
 obtain⟨h1,h2⟩:=acR hs
 rw[yV,tu]
 by_cases g:s.kind=8
 ·rw[if_pos g,N8]
  simp only[List.length_singleton,List.all_cons,List.all_nil,Bool.and_true,Bool.and_eq_true,decide_eq_true_eq,List.all_eq_true]
  exact⟨⟨fun _=>by omega,by omega⟩,(hr _).1,(hr _).2⟩
 ·rw[if_neg g,N8]
  simp only[Sl.gr,List.length_map,Bool.and_eq_true,decide_eq_true_eq,List.all_eq_true]
  refine⟨⟨h1,h2⟩,fun b x9=>?_⟩
  obtain⟨b',dt,rfl⟩:=List.mem_map.1 x9
  obtain⟨c,hc,rfl⟩:=List.mem_map.1 dt
  have Sx:=fY ((iF hb).2.2 c hc)
  refine⟨show(c.l.map (cW rec)).length≤300 by simpa using Sx.1,fun t ht=>?_⟩
  obtain⟨u,hu,rfl⟩:=List.mem_map.1 ht
  exact ih c hc u hu (List.all_eq_true.1 (Tm hs hc) u hu) (Sx.2 u hu)
theorem NX {p:aj}(hp:dX p)(hi:jT p=true):∀(d:Nat) {l:List af},dh l=true->fg l=true->(kk p d l).length≤300∧∀t∈kk p d l,ko t=true
 | 0,l,_,_=>by simp[kk]
 | d+1,l,hb,hs=>by
  obtain⟨h1,h2⟩:=fY hb
  refine⟨by simpa[kk]using h1,fun t ht=>?_⟩
  rw[kk]at ht
  obtain⟨u,hu,rfl⟩:=List.mem_map.1 ht
  exact ae7 (fun r=>NX hp hi d (hp.b r).1 (Q1 hi r)) u (List.all_eq_true.1 hs u hu) (h2 u hu)
def AS:bY:=⟨1,[],[]⟩
noncomputable def kM (p:aj) (l:List af):aN×Int:=
 if(lT p l).2≠0 then({},(lT p l).2)
 else
  let r:=(eJ p (inl p l) {} 0 AS).st
  if r.ar>600 then({},120)else({ ar:=r.ar,aU:=Sl.gr r.aU,guards:=Sl.gr r.guards},0)
theorem adG {p:aj}(hp:dX p)(hb:bP p=true)(l:Sl af)(hl:dh l.l=true)(hw:cG l.l≤300):T (fun n _=>JX n p l) (·=kM p l.l):=by
 simp only[JX]
 refine T.bind (acI hp hb l hl hw) fun x hx=>?_
 subst hx
 rw[kM]
 by_cases g:(lT p l.l).2≠0
 ·rw[if_pos g,if_pos g]
  exact T.ite (fun _=>T.ret rfl) fun h=>absurd g h
 ·rw[if_neg g,if_neg g]
  obtain⟨h1,h2,h3,h4,h5⟩:=LB (by simpa using g)
  obtain⟨h6,h7⟩:=NX hp h1 302 hl h2
  refine T.ite (fun h=>absurd rfl h) fun _=>T.bind (ah2 hp.ga (l:=Sl.gr (inl p l.l)) h6 h7 {} 0 AS 1 ⟨#[]⟩ false ⟨by decide,by decide,by decide,by decide⟩ (by show 1+20 * br (inl p l.l)≤_;omega)) fun x hx=>?_
  subst hx
  refine T.ite (fun h=>T.ret ?_) fun h=>T.ret ?_
  ·exact(if_pos h).symm
  ·exact(if_neg h).symm
end Go.Vig
namespace Go.Vig
open Go Go.Abs
variable [Kn]
def XZ:ByteArray:=⟨#[48,49,50,51,52,53,54,55,56,57]⟩
def Be:Nat->Int->ByteArray->ByteArray
 | 0,_,s=>s
 | d+1,m,s=>if m=0 then s else
  let k:=if Int.tmod m 10<0 then 0 - Int.tmod m 10 else Int.tmod m 10
  Be d (Int.tdiv m 10) (XZ.extract k.toNat (k+1).toNat++s)
def E4 (n:Int):ByteArray:=if n=0 then⟨#[48]⟩else if n<0 then⟨#[45]⟩++Be 20 n ⟨#[]⟩else Be 20 n ⟨#[]⟩
theorem aa5 {n:Int}(h0:0<n)(h1:n≤9):T (fun N _=>Iv N n) (·=E4 n):=by
 simp only[Iv]
 have hL:∀m:Int,0<m->m≤9->T (fun N k=>DW N k (⟨#[]⟩:ByteArray) m) (fun o=>match o with | .e0 s _=>s=Be 20 m ⟨#[]⟩):=by
  intro m hm0 hm
  obtain rfl | rfl | rfl | rfl | rfl | rfl | rfl | rfl | rfl:m=1∨m=2∨m=3∨m=4∨m=5∨m=6∨m=7∨m=8∨m=9:=by omega
  all_goals exact⟨_,rfl,3,fun n k _ h=>by
   obtain⟨k,rfl⟩:∃k',k=k'+2:=⟨k - 2,by omega⟩
   rfl⟩
 refine T.neg (by omega) (T.bind (T.dg (hL n h0 h1)) fun o ho=>?_)
 cases o with
 | e0 s m=>
  have ho:s=Be 20 n ⟨#[]⟩:=ho
  refine T.neg (by omega) (T.ret ?_)
  rw[E4,if_neg (by omega),if_neg (by omega),ho]
theorem aa4 {n:Int}(h0:0<n)(h1:n≤9):(E4 n).size≤10:=by
 obtain rfl | rfl | rfl | rfl | rfl | rfl | rfl | rfl | rfl:n=1∨n=2∨n=3∨n=4∨n=5∨n=6∨n=7∨n=8∨n=9:=by omega
 all_goals decide
def Nz (r:aO)(k:Int):ByteArray:=(r.name++(⟨#[46]⟩:ByteArray))++E4 k
def mC (r:aO)(f:aN):List aN:=
 if r.star=true then[{ name:=r.name,star:=true,ar:=f.ar,aU:=f.aU,guards:=f.guards}]
 else if r.count=1 then[{ name:=r.name,star:=false,ar:=f.ar,aU:=f.aU,guards:=f.guards}]
 else(List.range r.count.toNat).map fun(k:Nat)=>{ name:=Nz r ((k:Int)+1),star:=false,ar:=f.ar,aU:=f.aU,guards:=f.guards}
noncomputable def iK (p:aj):List aO->List aN->List aN×Int×Int
 | [],acc=>(acc,0,0)
 | r::rs,acc=>if(kM p r.body.l).2≠0 then([],(kM p r.body.l).2,r.at_)else iK p rs (acc++mC r (kM p r.body.l).1)
noncomputable def kd (p:aj):List aN×Int×Int:=if(tt p).1≠0 then([],tt p)else iK p p.aR.l []
theorem abJ {r:aO}(hn:r.name.size≤200)(hc:r.count≤8)(hs:r.star=false)(h1:r.count≠1){acc:List aN}(ha:acc.length≤1000){f:aN}{nm:ByteArray}:
  T (fun n k=>Aw r n k acc 1 ({ name:=nm,ar:=f.ar,aU:=f.aU,guards:=f.guards}:aN)) (fun o=>match o with | .e2 v _ _=>v=acc++mC r f):=by
 have hr:mC r f=(List.range r.count.toNat).map fun(k:Nat)=>({ name:=Nz r ((k:Int)+1),star:=false,ar:=f.ar,aU:=f.aU,guards:=f.guards}:aN):=by rw[mC,if_neg (by simp[hs]),if_neg h1]
 rw[hr]
 refine T.count (fun i (v:List aN×ByteArray) n k=>Aw r n k v.1 (i+1) ({ name:=v.2,ar:=f.ar,aU:=f.aU,guards:=f.guards}:aN)) r.count.toNat
  (fun j v=>v.1=acc++(List.range j).map fun(k:Nat)=>({ name:=Nz r ((k:Int)+1),star:=false,ar:=f.ar,aU:=f.aU,guards:=f.guards}:aN)) (fun j v hj hI rec=>?_) (fun v hI=>?_) 0 (acc,nm) (by omega) (by simp)
 all_goals simp only[Aw]
 ·have hlen:v.1.length≤acc.length+j:=by rw[hI];simp
  have hd:=aa4 (n:=(j:Int)+1) (by omega) (by omega)
  refine T.pos (by omega) (T.pos (by rw[ByteArray.size_append];show _+1≤_;omega) (T.bind (aa5 (by omega) (by omega)) fun x hx=>?_))
  subst hx
  refine T.pos (by rw[ByteArray.size_append,ByteArray.size_append];show _+1+_≤_;omega) (T.pos (room (by omega) (by simp;omega)) (T.pos (aW (by omega) (by omega)) (rec (_,_) ?_)))
  rw[List.range_succ,List.map_append,←List.append_assoc,←hI];rfl
 ·exact T.neg (by omega) (T.ret hI)
theorem UX {p:aj}(h:(aJ (kn p) 0 p.aR.l).1=0){r:aO}(hr:r∈p.aR.l):r.star=true∨(1≤r.count∧r.count≤8):=by
 obtain⟨j,hj,rfl⟩:=List.mem_iff_getElem.1 hr
 have:=Fi.1 h j _ (List.getElem?_eq_getElem hj)
 unfold kn at this
 split at this
 ·cases this
 ·split at this
  ·cases this
  ·rename_i g
   cases hs:p.aR.l[j].star with
   | true=>exact .inl rfl
   | false=>exact .inr (by constructor<;>exact Decidable.byContradiction fun hh=>g ⟨hs,by omega⟩)
theorem UW {r:aO}{f:aN}(h:r.star=true∨(1≤r.count∧r.count≤8)):(mC r f).length≤8:=by
 unfold mC
 split
 ·simp
 ·split
  ·simp
  ·rename_i h1 _
   have:=h.resolve_left h1
   simp;omega
theorem Un {p:aj}(h:(tt p).1=0):(xI p).1=0∧(zh p).1=0∧(s9 p).1=0:=by
 have h1:=(tD.1 h).1
 have h2:=(tD.1 h1).1
 exact⟨h1,h2,(tD.1 h2).1⟩
theorem abK {p:aj}(hp:dX p)(hb:bP p=true)(hr:(aJ (kn p) 0 p.aR.l).1=0):T (fun n k=>rT p n k [] 0) (fun o=>match o with | .r a b _ _=>iK p p.aR.l []=([],a,b)∧a≠0 | .e0 v _=>iK p p.aR.l []=(v,0,0)):=by
 obtain⟨_,h2,_,h4⟩:=j5 hb
 refine T.count (fun i v n k=>rT p n k v i) p.aR.l.length (fun j v=>v.length≤8 * j∧iK p (p.aR.l.drop j) v=iK p p.aR.l []) (fun j v hj hI rec=>?_) (fun v hI=>?_) 0 [] (by omega) ⟨by simp,by simp⟩
 all_goals simp only[rT]
 ·have hg:p.aR.l[j]? =some p.aR.l[j]:=List.getElem?_eq_getElem hj
  have hm:=List.getElem_mem hj
  obtain⟨i1,i2⟩:=hI
  rw[List.drop_eq_getElem_cons hj,iK]at i2
  refine T.pos (by omega) (T.nat hg (T.bind (adG hp hb _ (h4 _ hm).2 (UY hp hm)) fun x hx=>?_))
  subst hx
  refine T.ite (fun g=>T.ret ?_) fun g=>?_
  ·rw[if_pos g]at i2
   exact⟨i2.symm,g⟩
  rw[if_neg g]at i2
  have S4:=UX hr hm
  have hlen:=UW (f:=(kM p p.aR.l[j].body.l).1) S4
  have eu:T (fun n k=>rT p n k (v++mC p.aR.l[j] (kM p p.aR.l[j].body.l).1) ((j:Int)+1)) (fun o=>match o with | .r a b _ _=>iK p p.aR.l []=([],a,b)∧a≠0 | .e0 v _=>iK p p.aR.l []=(v,0,0)):=rec _ ⟨by rw[List.length_append];omega,i2⟩
  refine T.ite (fun gs=>T.pos (room (by omega) (by simp;omega)) (T.pos (aW (by omega) (by omega)) ?_)) fun gs=>T.ite (fun g1=>T.pos (room (by omega) (by simp;omega)) (T.pos (aW (by omega) (by omega)) ?_)) fun g1=>T.bind (T.dg (abJ (h4 _ hm).1 (by have:=S4.resolve_left gs;omega) (by simpa using gs) g1 (by omega))) fun o ho=>?_
  ·rw[mC,if_pos gs]at eu;exact eu
  ·rw[mC,if_neg gs,if_pos g1]at eu;exact eu
  ·cases o with
   | e2 w a b=>
    have ho:w=_:=ho
    subst ho
    exact T.pos (aW (by omega) (by omega)) eu
 ·rw[List.drop_length,iK]at hI
  exact T.neg (by omega) (T.ret hI.2.symm)
theorem abL {p:aj}(hp:dX p)(hb:bP p=true):T (fun n _=>JQ n p) (fun r=>r.2=(kd p).2∧r.1=if(kd p).2.1≠0 then Sl.nil else Sl.gr (kd p).1):=by
 simp only[JQ]
 refine T.bind (aeY hb hp) fun x hx=>?_
 subst hx
 rw[kd]
 refine T.ite (fun g=>T.ret ?_) fun g=>?_
 ·rw[if_pos g]
  exact⟨rfl,(if_pos g).symm⟩
 ·rw[if_neg g]
  obtain⟨_,_,h3⟩:=Un (by simpa using g)
  refine T.bind (T.dg (abK hp hb (Nr h3).2.2.1)) fun o ho=>?_
  cases o with
  | r a b _ _=>
   obtain⟨ho,ha⟩:iK p p.aR.l []=([],a,b)∧a≠0:=ho
   exact T.ret (by rw[ho];exact⟨rfl,(if_pos ha).symm⟩)
  | e0 v _=>
   have ho:iK p p.aR.l []=(v,0,0):=ho
   exact T.ret (by rw[ho];exact⟨rfl,(if_neg (fun h=>h rfl)).symm⟩)
theorem adI {p:aj}(hp:dX p)(hb:bP p=true):T (fun n _=>Ec n p) (fun r=>r=if(kd p).2.1≠0 then({},(kd p).2)else({ p:=p,bc:=Sl.gr (kd p).1},0,0)):=by
 simp only[Ec]
 refine T.bind (abL hp hb) fun x hx=>?_
 obtain⟨x,y⟩:=x
 obtain⟨h1,h2⟩:=hx
 simp only at h1 h2
 subst h1;subst h2
 refine T.ite (fun g=>T.ret (if_pos g).symm) fun g=>T.ret ?_
 have g:¬(kd p).2.1≠0:=g
 rw[if_neg g,if_neg g]
end Go.Vig
