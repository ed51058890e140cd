/-
  Part of the proof: printed by the session's own program out of the program's form, or typed; it states no claim by itself.
-/
import Derived.Test.YtpadajnejknkeaaGreatVb
import Derived.Test.YtpadajnejknkeaaGreatFd
set_option linter.unusedVariables false
set_option linter.unusedSimpArgs false
set_option linter.unusedSectionVars false
set_option maxRecDepth 100000
namespace Go.Vig
open Go Go.Abs
variable [Kn]
def AI (p:aj)(s:af):Int:=if s.kind=2 then(match(fU p s.mon s.name).bind fun k=>(cu p)[k]? with
 | some v=>if v.type=1 then 1 else 2
 | none=>1)else 1
def gL (p:aj)(s:af):Int×Int:=if s.kind=2∨s.kind=3∨s.kind=4 then(if(bK p s.e_).2.1≠0 then(bK p s.e_).2 else if(bK p s.e_).1≠AI p s then(70,s.e_.at_)else(0,0))else(0,0)
def vT (p:aj):af->Int×Int:=af.fold fun s bs=>cX (gL p s) (aJ (fun _ b=>aJ (fun _ x=>x) 0 b) 0 bs)
def eL (p:aj)(l:List af):Int×Int:=aJ (fun _=>vT p) 0 l
theorem Og (p:aj)(s:af):vT p s=cX (gL p s) (aJ (fun _ b=>eL p b.l) 0 s.blocks.l):=by
 rw[vT,af.fold_eq,oX (c:=fun b=>aJ (fun _ x=>x) 0 b)]
 congr 2
 funext _ b
 exact oX (c:=fun x=>x)
theorem F9 {p:aj}{s:af}(h:(mD p s).1=0):mg p s=true∧(hP p s.e_).1=0∧∀b∈s.blocks.l,(cU p b.l).1=0:=by
 rw[Of]at h
 by_cases g:mg p s=false
 ·rw[if_pos g]at h;cases h
 ·rw[if_neg g]at h
  obtain⟨h1,h2⟩:=tD.1 h
  exact⟨by simpa using g,h1,fun b hb=>sB (c:=fun b:Sl af=>cU p b.l) h2 hb⟩
theorem F8 {p:aj}{l:List af}(h:(cU p l).1=0):∀s∈l,(mD p s).1=0:=fun s hs=>sB (c:=mD p) h hs
theorem agA {p:aj}{s:af}(h:mg p s=true)(hk:s.kind=2):∃k v,fU p s.mon s.name=some k∧(cu p)[k]? =some v∧eg p s.mon s.name=((k:Int),true):=by
 rw[mg,if_pos hk]at h
 cases hs:fU p s.mon s.name with
 | none=>simp only[eg,hs]at h;cases h
 | some k=>
  obtain⟨_,_,_,v,_,_,_,_,_,_,_,hv⟩:=Df hs
  exact⟨k,v,rfl,hv,by simp only[eg,hs]⟩
theorem agQ {p:aj}(hf:dI p){s:af}(hb:bE s.e_=true)(hk:mg p s=true):T (fun n _=>I4 p s n) (fun o=>match o with | .r a b=>gL p s=(a,b)∧a≠0 | .m=>gL p s=(0,0) | .kN=>gL p s=(0,0)):=by
 simp only[I4]
 have ho:s.kind=3∨s.kind=4->AI p s=1:=fun h=>by rw[AI,if_neg (by omega)]
 refine T.ite (fun g=>T.bind (OP hf _ hb) fun x hx=>T.ite (fun g2=>T.ret ?_) fun g2=>T.bind (Dg hf _ _) fun y hy=>T.bind (GU hf) fun z hz=>?_) fun g=>T.ite (fun g3=>T.bind (OP hf _ hb) fun x hx=>T.ite (fun g2=>T.ret ?_) fun g2=>T.ite (fun g4=>T.ret ?_) fun g4=>T.ret ?_) fun g3=>T.ite (fun g5=>T.bind (OP hf _ hb) fun x hx=>T.ite (fun g2=>T.ret ?_) fun g2=>T.ite (fun g4=>T.ret ?_) fun g4=>T.ret ?_) fun g5=>T.ret ?_
 ·subst hx;exact⟨by rw[gL,if_pos (.inl g),if_pos g2],g2⟩
 ·obtain⟨k,v,h1,h2,h3⟩:=agA hk g
  rw[h3]at hy
  subst hx;subst hy;subst hz
  have hw:AI p s=if v.type=1 then 1 else 2:=by simp only[AI,if_pos g,h1,Option.bind_some,h2]
  have hh:gL p s=if(bK p s.e_).1≠AI p s then(70,s.e_.at_)else(0,0):=by rw[gL,if_pos (.inl g),if_neg g2]
  refine T.nat h2 (T.ite (fun g3=>T.ite (fun g4=>T.ret ⟨?_,by decide⟩) fun g4=>T.ret ?_) fun g3=>T.ite (fun g4=>T.ret ⟨?_,by decide⟩) fun g4=>T.ret ?_)
  ·rw[hh,hw,if_neg g3,if_pos g4]
  ·show gL p s=(0,0);rw[hh,hw,if_neg g3,if_neg g4]
  ·rw[hh,hw,if_pos (c:=v.type=1) (Decidable.not_not.1 g3),if_pos g4]
  ·show gL p s=(0,0);rw[hh,hw,if_pos (c:=v.type=1) (Decidable.not_not.1 g3),if_neg g4]
 ·subst hx;exact⟨by rw[gL,if_pos (.inr (.inl g3)),if_pos g2],g2⟩
 ·subst hx;exact⟨by rw[gL,if_pos (.inr (.inl g3)),if_neg g2,ho (.inl g3),if_pos g4],by decide⟩
 ·subst hx;show gL p s=(0,0);rw[gL,if_pos (.inr (.inl g3)),if_neg g2,ho (.inl g3),if_neg g4]
 ·subst hx;exact⟨by rw[gL,if_pos (.inr (.inr g5)),if_pos g2],g2⟩
 ·subst hx;exact⟨by rw[gL,if_pos (.inr (.inr g5)),if_neg g2,ho (.inr g5),if_pos g4],by decide⟩
 ·subst hx;show gL p s=(0,0);rw[gL,if_pos (.inr (.inr g5)),if_neg g2,ho (.inr g5),if_neg g4]
 ·show gL p s=(0,0);rw[gL,if_neg (by omega)]
theorem agR {p:aj}{s:af}(hl:s.blocks.l.length≤40)(ih:∀b∈s.blocks.l,T (fun n _=>jI n p b) (·=eL p b.l)):T (fun n k=>w5 (jI n) p s n k 0) (fun o=>match o with | .r a b=>aJ (fun _ b=>eL p b.l) 0 s.blocks.l=(a,b)∧a≠0 | .e2 _=>aJ (fun _ b=>eL p b.l) 0 s.blocks.l=(0,0)):=by
 refine T.fe (l:=s.blocks.l) (fun i n k=>w5 (jI n) p s n k i) (fun _ b=>eL p b.l) (fun j a ha hj hr hx=>?_) (fun hf=>?_)
 all_goals simp only[w5]
 ·refine T.pos (by omega) (T.nat ha (T.bind (ih a (List.mem_of_getElem? ha)) fun x bN=>?_))
  subst bN
  exact T.ite (fun h=>T.ret ⟨hx h,h⟩) fun h=>T.pos (aW (by omega) (by omega)) (hr (by simpa using h))
 ·exact T.neg (by omega) (T.ret hf)
theorem Vt {p:aj}(hf:dI p){l:Sl af}(hl:l.l.length≤300)(hb:∀s∈l.l,bS s=true)(hk:∀s∈l.l,mg p s=true)(ih:∀s∈l.l,∀b∈s.blocks.l,T (fun n _=>jI n p b) (·=eL p b.l)):T (fun n k=>ud (jI n) p l n k 0) (fun o=>match o with | .r a b _=>eL p l.l=(a,b)∧a≠0 | .e0 _=>eL p l.l=(0,0)):=by
 refine T.fe (l:=l.l) (fun i n k=>ud (jI n) p l n k i) (fun _=>vT p) (fun j a ha hj hr hx=>?_) (fun hf=>?_)
 all_goals simp only[ud]
 ·obtain⟨jP,eb,Fx⟩:=iF (hb a (List.mem_of_getElem? ha))
  have hL:=T.dg (agR jP (ih a (List.mem_of_getElem? ha)))
  refine T.pos (by omega) (T.nat ha (T.bind (agQ hf eb (hk a (List.mem_of_getElem? ha))) fun o ho=>?_))
  cases o with
  | r x y=>
   have he:vT p a=(x,y):=by rw[Og];exact pH ho
   rw[he]at hx
   exact T.ret ⟨hx ho.2,ho.2⟩
  | m=>
   have he:vT p a=aJ (fun _ b=>eL p b.l) 0 a.blocks.l:=by rw[Og,om (show gL p a=(0,0) from ho)]
   rw[he]at hx hr
   refine T.bind hL fun o ho=>?_
   cases o with
   | r x y=>exact T.ret ⟨by rw[←ho.1];exact hx (by rw[ho.1];exact ho.2),ho.2⟩
   | e2 v=>exact T.pos (aW (by omega) (by omega)) (hr (by rw[show aJ (fun _ (b:Sl af)=>eL p b.l) 0 a.blocks.l=(0,0) from ho]))
  | kN=>
   have he:vT p a=aJ (fun _ b=>eL p b.l) 0 a.blocks.l:=by rw[Og,om (show gL p a=(0,0) from ho)]
   rw[he]at hx hr
   refine T.bind hL fun o ho=>?_
   cases o with
   | r x y=>exact T.ret ⟨by rw[←ho.1];exact hx (by rw[ho.1];exact ho.2),ho.2⟩
   | e2 v=>exact T.pos (aW (by omega) (by omega)) (hr (by rw[show aJ (fun _ (b:Sl af)=>eL p b.l) 0 a.blocks.l=(0,0) from ho]))
 ·exact T.neg (by omega) (T.ret hf)
theorem Vs {p:aj}{l:Sl af}(hL:T (fun n k=>ud (jI n) p l n k 0) (fun o=>match o with | .r a b _=>eL p l.l=(a,b)∧a≠0 | .e0 _=>eL p l.l=(0,0))):T (fun n k=>jI n p l) (·=eL p l.l):=by
 refine T.n1 ?_
 simp only[jI]
 refine T.bind (T.dg hL) fun o ho=>?_
 cases o with
 | r a b s=>exact T.ret ho.1.symm
 | e0 v=>exact T.ret (Eq.symm ho)
theorem agS {p:aj}(hf:dI p):∀s:af,bS s=true->(mD p s).1=0->∀b∈s.blocks.l,T (fun n k=>jI n p b) (·=eL p b.l):=af.eZ fun s ih hb hk b hm=>by
 obtain⟨_,_,h3⟩:=iF hb
 obtain⟨h4,h5⟩:=fY (h3 b hm)
 have h6:=F8 ((F9 hk).2.2 b hm)
 exact Vs (Vt hf h4 h5 (fun t ht=>(F9 (h6 t ht)).1) fun t ht=>ih b hm t ht (h5 t ht) (h6 t ht))
theorem Vu {p:aj}(hf:dI p)(l:Sl af)(hb:dh l.l=true)(hk:(cU p l.l).1=0):T (fun n k=>jI n p l) (·=eL p l.l):=by
 obtain⟨h4,h5⟩:=fY hb
 have h6:=F8 hk
 exact Vs (Vt hf h4 h5 (fun t ht=>(F9 (h6 t ht)).1) fun t ht=>agS hf t (h5 t ht) (h6 t ht))
def tA (v:bI):Int×Int:=if v.type=3∧(v.init<v.lo∨v.init>v.hi)then(71,v.at_)else(0,0)
def zh (p:aj):Int×Int:=cX (s9 p) (cX (aJ (fun _=>tA) 0 (cu p)) (uD p (eL p)))
theorem Q0 {p:aj}{c:List af->Int×Int}(h:(uD p c).1=0):(∀m∈p.aw.l,∀me∈m.methods.l,(c me.body.l).1=0)∧∀r∈p.aR.l,(c r.body.l).1=0:=by
 obtain⟨h1,h2⟩:=tD.1 h
 exact⟨fun m hm me hme=>sB (c:=fun me:dW=>c me.body.l) (sB (c:=fun m:aH=>aJ (fun _ me=>c me.body.l) 0 m.methods.l) h1 hm) hme,fun r hr=>sB (c:=fun r:aO=>c r.body.l) h2 hr⟩
theorem Nr {p:aj}(h:(s9 p).1=0):jT p=true∧(aJ (pv p) 0 p.aw.l).1=0∧(aJ (kn p) 0 p.aR.l).1=0∧(uD p (cU p)).1=0:=by
 rw[s9]at h
 by_cases g:jT p=false
 ·rw[if_pos g]at h;cases h
 ·rw[if_neg g]at h
  obtain⟨h1,h2⟩:=tD.1 h
  obtain⟨h3,h4⟩:=tD.1 h2
  exact⟨by simpa using g,h1,h3,h4⟩
theorem aiD {l:List bI}(hl:l.length≤800):T (fun n k=>z8 l n k 0) (fun o=>match o with | .r b=>aJ (fun _=>tA) 0 l=(71,b) | .e0 _=>aJ (fun _=>tA) 0 l=(0,0)):=by
 refine T.fe (l:=l) (fun i n k=>z8 l n k i) (fun _=>tA) (fun j a ha hj hr hx=>?_) (fun hf=>?_)
 all_goals simp only[z8]
 ·refine T.pos (by omega) (T.bind (P:=fun o=>o= .m (decide (a.type=3∧(a.init<a.lo∨a.init>a.hi)))) ?_ fun o ho=>?_)
  ·simp only[Ps]
   refine T.nat ha (T.ite (fun g=>T.ite (fun g2=>T.ret ?_) fun g2=>T.ite (fun g3=>T.ret ?_) fun g3=>T.ret ?_) fun g=>T.ret ?_)
   ·rw[decide_eq_true ⟨g,.inl g2⟩]
   ·rw[decide_eq_true ⟨g,.inr g3⟩]
   ·rw[decide_eq_false (by omega)]
   ·rw[decide_eq_false (by omega)]
  ·subst ho
   refine T.cond (fun g=>T.nat ha (T.ret ?_)) fun g=>T.pos (aW (by omega) (by omega)) (hr ?_)
   ·simp only[decide_eq_true_eq]at g
    rw[tA,if_pos g]at hx
    exact hx (show(71:Int)≠0 by decide)
   ·simp only[decide_eq_false_iff_not]at g
    rw[tA,if_neg g]
 ·exact T.neg (by omega) (T.ret hf)
theorem aiB {p:aj}(hb:bP p=true)(hk:∀m∈p.aw.l,∀me∈m.methods.l,(cU p me.body.l).1=0){i:Nat}{m:aH}(hm:p.aw.l[i]? =some m):T (fun n k=>z6 p (i:Int) n k 0) (fun o=>match o with | .r a b=>aJ (fun _ me=>eL p me.body.l) 0 m.methods.l=(a,b)∧a≠0 | .e4 _=>aJ (fun _ me=>eL p me.body.l) 0 m.methods.l=(0,0)):=by
 obtain⟨h1,h2,h3,h4⟩:=j5 hb
 obtain⟨g1,g2,_,_,g3⟩:=so (h3 m (List.mem_of_getElem? hm))
 refine T.fe (l:=m.methods.l) (fun j n k=>z6 p (i:Int) n k j) (fun _ me=>eL p me.body.l) (fun j a ha hj hr hx=>?_) (fun hf=>?_)
 all_goals simp only[z6]
 ·refine T.nat hm (T.pos (by omega) (T.nat ha (T.bind (Vu (qA hb) _ (g3 a (List.mem_of_getElem? ha)).2 (hk m (List.mem_of_getElem? hm) a (List.mem_of_getElem? ha))) fun x bN=>?_)))
  subst bN
  exact T.ite (fun h=>T.ret ⟨hx h,h⟩) fun h=>T.pos (aW (by omega) (by omega)) (hr (by simpa using h))
 ·exact T.nat hm (T.neg (by omega) (T.ret hf))
theorem aiA {p:aj}(hb:bP p=true)(hk:∀m∈p.aw.l,∀me∈m.methods.l,(cU p me.body.l).1=0):T (fun n k=>zZ p n k 0) (fun o=>match o with | .r a b=>aJ (fun _ m=>aJ (fun _ me=>eL p me.body.l) 0 m.methods.l) 0 p.aw.l=(a,b)∧a≠0 | .e2 _=>aJ (fun _ m=>aJ (fun _ me=>eL p me.body.l) 0 m.methods.l) 0 p.aw.l=(0,0)):=by
 obtain⟨h1,h2,h3,h4⟩:=j5 hb
 refine T.fe (l:=p.aw.l) (fun j n k=>zZ p n k j) (fun _ m=>aJ (fun _ me=>eL p me.body.l) 0 m.methods.l) (fun j a ha hj hr hx=>?_) (fun hf=>?_)
 all_goals simp only[zZ]
 ·refine T.pos (by omega) (T.bind (T.dg (aiB hb hk ha)) fun o ho=>?_)
  cases o with
  | r x y=>exact T.ret ⟨by rw[←ho.1];exact hx (by rw[ho.1];exact ho.2),ho.2⟩
  | e4 v=>
   have ho:aJ (fun _ (me:dW)=>eL p me.body.l) 0 a.methods.l=(0,0):=ho
   exact T.pos (aW (by omega) (by omega)) (hr (by rw[ho]))
 ·exact T.neg (by omega) (T.ret hf)
theorem aiC {p:aj}(hb:bP p=true)(hk:∀r∈p.aR.l,(cU p r.body.l).1=0):T (fun n k=>z7 p n k 0) (fun o=>match o with | .r a b=>aJ (fun _ r=>eL p r.body.l) 0 p.aR.l=(a,b)∧a≠0 | .e6 _=>aJ (fun _ r=>eL p r.body.l) 0 p.aR.l=(0,0)):=by
 obtain⟨h1,h2,h3,h4⟩:=j5 hb
 refine T.fe (l:=p.aR.l) (fun j n k=>z7 p n k j) (fun _ r=>eL p r.body.l) (fun j a ha hj hr hx=>?_) (fun hf=>?_)
 all_goals simp only[z7]
 ·refine T.pos (by omega) (T.nat ha (T.bind (Vu (qA hb) _ (h4 a (List.mem_of_getElem? ha)).2 (hk a (List.mem_of_getElem? ha))) fun x bN=>?_))
  subst bN
  exact T.ite (fun h=>T.ret ⟨hx h,h⟩) fun h=>T.pos (aW (by omega) (by omega)) (hr (by simpa using h))
 ·exact T.neg (by omega) (T.ret hf)
theorem aiS {p:aj}(hb:bP p=true):T (fun n _=>IW n p) (·=zh p):=by
 simp only[IW]
 refine T.bind (aee hb) fun x hx=>?_
 subst hx
 refine T.ite (fun g=>T.ret (by rw[zh,cX,if_pos g])) fun g=>?_
 have g0:(s9 p).1=0:=by simpa using g
 obtain⟨_,_,_,hk⟩:=Nr g0
 obtain⟨fQ,m5⟩:=Q0 hk
 have he:zh p=cX (aJ (fun _=>tA) 0 (cu p)) (uD p (eL p)):=by rw[zh,cX,if_neg g]
 rw[he]
 refine T.bind (GU (qA hb)) fun x hx=>?_
 subst hx
 refine T.bind (T.dg (aiD (Dh (qA hb)))) fun o ho=>?_
 cases o with
 | r b=>exact T.ret (pH ⟨ho,by decide⟩).symm
 | e0 _=>
  rw[om (show aJ (fun _=>tA) 0 (cu p)=(0,0) from ho)]
  refine T.bind (T.dg (aiA hb fQ)) fun o ho=>?_
  cases o with
  | r a b=>exact T.ret (pH ho).symm
  | e2 _=>
   rw[uD,om ho]
   refine T.bind (T.dg (aiC hb m5)) fun o ho=>?_
   cases o with
   | r a b=>exact T.ret ho.1.symm
   | e6 _=>exact T.ret (Eq.symm ho)
end Go.Vig
namespace Go.Vig
open Go Go.Abs
variable [Kn]
def fI (s:af):List a7:=if s.kind=8 then[⟨s.mon,s.name⟩]else[]
def oO:af->List a7:=af.fold fun s bs=>fI s++(bs.map List.flatten).flatten
def ct (l:List af):List a7:=l.flatMap oO
theorem uE (s:af):oO s=fI s++s.blocks.l.flatMap fun b=>ct b.l:=by
 rw[oO,af.fold_eq,List.map_map];rfl
theorem Lb:∀s:af,(oO s).length≤wS s:=af.eZ fun s ih=>by
 rw[uE,xj,List.length_append]
 have h1:(fI s).length≤1:=by unfold fI;split<;>simp
 have h2:∀bs:List (Sl af),(∀b∈bs,∀t∈b.l,(oO t).length≤wS t)->(bs.flatMap fun b=>ct b.l).length≤(bs.map fun b=>1+cG b.l).sum:=by
  intro bs
  induction bs with
  | nil=>intro _;simp
  | cons b bs ihb=>
   intro h
   have h3:∀l:List af,(∀t∈l,(oO t).length≤wS t)->(ct l).length≤cG l:=by
    intro l
    induction l with
    | nil=>intro _;simp[ct]
    | cons t l iht=>
     intro h
     have:=iht fun u hu=>h u (List.mem_cons_of_mem _ hu)
     have:=h t List.mem_cons_self
     simp only[ct,cG,List.flatMap_cons,List.length_append,List.map_cons,List.sum_cons]at *
     omega
   have:=ihb fun c hc=>h c (List.mem_cons_of_mem _ hc)
   have:=h3 b.l (h b List.mem_cons_self)
   simp only[List.flatMap_cons,List.length_append,List.map_cons,List.sum_cons]at *
   omega
 have:=h2 s.blocks.l ih
 omega
theorem ET:∀l:List af,(ct l).length≤cG l
 | []=>by simp[ct]
 | t::l=>by
  have:=ET l
  have:=Lb t
  simp only[ct,cG,List.flatMap_cons,List.length_append,List.map_cons,List.sum_cons]at *
  omega
theorem BE {l:Sl a7}(hl:l.l.length≤100000)(r:a7):T (fun n _=>uf n l r) (·=decide (r∈l.l)):=by
 have hL:T (fun n k=>Aj l r n k 0) (fun o=>match o with | .r=>r∈l.l | .e0 _=>r ∉ l.l):=by
  refine T.any (l:=l.l) (fun i n k=>Aj l r n k i) (fun a=>decide (a=r)) (fun j a ha hb _=>?_) (fun j a ha hb rec=>?_) (fun hf=>?_)
  all_goals simp only[Aj]
  ·have hj:=(List.getElem?_eq_some_iff.1 ha).1
   have dt:a=r:=by simpa using hb
   exact T.pos (by omega) (T.nat ha (T.pos dt (T.ret (dt▸List.mem_of_getElem? ha))))
  ·have hj:=(List.getElem?_eq_some_iff.1 ha).1
   exact T.pos (by omega) (T.nat ha (T.neg (by simpa using hb) (T.pos (aW (by omega) (by omega)) rec)))
  ·refine T.neg (by omega) (T.ret fun hm=>?_)
   simpa using hf r hm
 simp only[uf]
 refine T.bind (T.dg hL) fun o ho=>?_
 cases o with
 | r=>exact T.ret (decide_eq_true ho).symm
 | e0 v=>exact T.ret (decide_eq_false ho).symm
theorem Gv {α:Type}[DecidableEq α]:∀{l m:List α},l.Nodup->(∀x∈l,x∈m)->l.length≤m.length
 | [],_,_,_=>by simp
 | a::l,m,h,hs=>by
  obtain⟨h1,h2⟩:=List.nodup_cons.1 h
  have ha:=hs a List.mem_cons_self
  have:=Gv (l:=l) (m:=m.erase a) h2 fun x hx=>(List.mem_erase_of_ne (fun q:x=a=>h1 (q▸hx))).2 (hs x (List.mem_cons_of_mem _ hx))
  rw[List.length_erase_of_mem ha]at this
  have:=List.length_pos_of_mem ha
  simp only[List.length_cons]
  omega
def cH (a x b:List a7):Prop:=b.Nodup∧∀r,r∈b↔r∈a∨r∈x
theorem cH.step {a x b:List a7}{j:Nat}{r:a7}(h:cH a (x.take j) b)(hx:x[j]? =some r):(r∈b->cH a (x.take (j+1)) b)∧(r ∉ b->cH a (x.take (j+1)) (b++[r])):=by
 refine⟨fun hr=>⟨h.1,fun q=>?_⟩,fun hr=>⟨?_,fun q=>?_⟩⟩
 ·rw[kT hx,h.2]
  exact⟨fun g=>g.elim .inl fun g=>.inr (.inl g),fun g=>g.elim .inl fun g=>g.elim .inr fun g=>(h.2 q).1 (g▸hr)⟩
 ·refine List.nodup_append.2 ⟨h.1,by simp,fun y hy z hz=>?_⟩
  rw[List.mem_singleton]at hz
  subst hz
  exact fun q=>hr (q▸hy)
 ·rw[List.mem_append,List.mem_singleton,kT hx,h.2]
  exact⟨fun g=>g.elim (fun g=>g.elim .inl fun g=>.inr (.inl g)) fun g=>.inr (.inr g),fun g=>g.elim (fun g=>.inl (.inl g)) fun g=>g.elim (fun g=>.inl (.inr g)) .inr⟩
theorem cH.nil {a:List a7}(h:a.Nodup):cH a [] a:=⟨h,fun r=>by simp⟩
theorem cH.len {a x b:List a7}(h:cH a x b):b.length≤a.length+x.length:=by
 have:=Gv (m:=a++x) h.1 fun r hr=>List.mem_append.2 ((h.2 r).1 hr)
 simpa using this
theorem aab {x a:List a7}(hx:x.length≤10000)(ha:a.length≤10000)(hn:a.Nodup):T (fun n k=>w8 x n k a 0) (fun o=>match o with | .e4 b _=>cH a x b):=by
 refine T.count (fun j v n k=>w8 x n k v j) x.length (fun j v=>cH a (x.take j) v) (fun j v hj hI rec=>?_) (fun v hI=>?_) 0 a (by omega) (cH.nil hn)
 all_goals simp only[w8]
 ·have hg:x[j]? =some x[j]:=List.getElem?_eq_getElem hj
  have hlen:=hI.len
  rw[List.length_take]at hlen
  refine T.pos (by omega) (T.nat hg (T.bind (BE (l:=Sl.gr v) (show v.length≤100000 by omega) _) fun y hy=>?_))
  subst hy
  refine T.cond (fun h=>T.pos (aW (by omega) (by omega)) (rec _ ((hI.step hg).1 (of_decide_eq_true h)))) fun h=>T.pos (room (by omega) (by simp;omega)) (T.pos (aW (by omega) (by omega)) (rec _ ((hI.step hg).2 (of_decide_eq_false h))))
 ·rw[List.take_length]at hI
  exact T.neg (by omega) (T.ret hI)
theorem aac {x a:List a7}(hx:x.length≤10000)(ha:a.length≤10000)(hn:a.Nodup):T (fun n k=>w9 x n k a 0) (fun o=>match o with | .e4 b _=>cH a x b):=by
 refine T.count (fun j v n k=>w9 x n k v j) x.length (fun j v=>cH a (x.take j) v) (fun j v hj hI rec=>?_) (fun v hI=>?_) 0 a (by omega) (cH.nil hn)
 all_goals simp only[w9]
 ·have hg:x[j]? =some x[j]:=List.getElem?_eq_getElem hj
  have hlen:=hI.len
  rw[List.length_take]at hlen
  refine T.pos (by omega) (T.nat hg (T.bind (BE (l:=Sl.gr v) (show v.length≤100000 by omega) _) fun y hy=>?_))
  subst hy
  refine T.cond (fun h=>T.pos (aW (by omega) (by omega)) (rec _ ((hI.step hg).1 (of_decide_eq_true h)))) fun h=>T.pos (room (by omega) (by simp;omega)) (T.pos (aW (by omega) (by omega)) (rec _ ((hI.step hg).2 (of_decide_eq_false h))))
 ·rw[List.take_length]at hI
  exact T.neg (by omega) (T.ret hI)
def qe (l:List af)(out:List a7):Prop:=cH [] (ct l) out
theorem cH.trans {a x y b c:List a7}(h:cH a x b)(h2:cH b y c):cH a (x++y) c:=⟨h2.1,fun r=>by rw[h2.2,h.2,List.mem_append];exact or_assoc⟩
theorem cH.more {a x x' b:List a7}(h:cH a x b)(he:∀r,r∈x↔r∈x'):cH a x' b:=⟨h.1,fun r=>by rw[h.2,he]⟩
theorem A6 {l:List af}{out:List a7}(h:qe l out):out.length≤cG l:=by
 have:=h.len
 have:=ET l
 simp at *
 omega
theorem Q9 {l:Sl af}{i:Nat}{s:af}(hs:l.l[i]? =some s)(hb:bS s=true)(hw:wS s≤300)(ih:∀b∈s.blocks.l,T (fun n _=>gV n b) (qe b.l)){a:List a7}(ha:a.length≤1000)(hn:a.Nodup):
  T (fun n k=>w7 (gV n) l (i:Int) n k a 0) (fun o=>match o with | .e2 b _=>cH a (s.blocks.l.flatMap fun b=>ct b.l) b):=by
 obtain⟨hl,_,Fx⟩:=iF hb
 have Cl:∀j,((s.blocks.l.take j).flatMap fun b=>ct b.l).length≤300:=fun j=>by
  have h1:((s.blocks.l.take j).flatMap fun b=>ct b.l).length≤(s.blocks.l.flatMap fun b=>ct b.l).length:=by
   conv=>rhs;rw[←List.take_append_drop j s.blocks.l,List.flatMap_append,List.length_append]
   omega
  have h2:=Lb s
  rw[uE,List.length_append]at h2
  omega
 have Cm:∀b∈s.blocks.l,cG b.l≤300:=fun b hb=>by
  have h1:=xj s
  have h2:∀bs:List (Sl af),b∈bs->cG b.l≤(bs.map fun b=>1+cG b.l).sum:=by
   intro bs
   induction bs with
   | nil=>intro h;cases h
   | cons c bs ih=>
    intro h
    rcases List.mem_cons.1 h with rfl | h
    ·simp;omega
    ·have:=ih h;simp;omega
  have:=h2 _ hb
  omega
 refine T.count (fun j v n k=>w7 (gV n) l (i:Int) n k v j) s.blocks.l.length (fun j v=>cH a ((s.blocks.l.take j).flatMap fun b=>ct b.l) v) (fun j v hj hI rec=>?_) (fun v hI=>?_) 0 a (by omega) (by simpa using cH.nil hn)
 all_goals simp only[w7]
 ·have hg:s.blocks.l[j]? =some s.blocks.l[j]:=List.getElem?_eq_getElem hj
  have hlen:=hI.len
  have:=Cl j
  refine T.nat hs (T.pos (by omega) (T.nat hg (T.bind (ih _ (List.getElem_mem hj)) fun x hx=>T.bind (T.dg (aab (by have:=A6 hx;have:=Cm _ (List.getElem_mem hj);omega) (by omega) hI.1)) fun o ho=>?_)))
  cases o with
  | e4 b _=>
   refine T.pos (aW (by omega) (by omega)) (rec b ?_)
   rw[eQ hg,List.flatMap_append,List.flatMap_cons,List.flatMap_nil,List.append_nil]
   exact hI.trans (ho.more fun r=>by rw[hx.2];simp)
 ·rw[List.take_length]at hI
  exact T.nat hs (T.neg (by omega) (T.ret hI))
theorem aaa {l:Sl af}{i:Nat}{s:af}(hs:l.l[i]? =some s)(hb:bS s=true)(hw:wS s≤300)(ih:∀b∈s.blocks.l,T (fun n _=>gV n b) (qe b.l)){a:List a7}(ha:a.length≤1000)(hn:a.Nodup):
  T (fun n k=>Ab (gV n) l (i:Int) n k a 0) (fun o=>match o with | .e2 b _=>cH a (s.blocks.l.flatMap fun b=>ct b.l) b):=by
 obtain⟨hl,_,Fx⟩:=iF hb
 have Cl:∀j,((s.blocks.l.take j).flatMap fun b=>ct b.l).length≤300:=fun j=>by
  have h1:((s.blocks.l.take j).flatMap fun b=>ct b.l).length≤(s.blocks.l.flatMap fun b=>ct b.l).length:=by
   conv=>rhs;rw[←List.take_append_drop j s.blocks.l,List.flatMap_append,List.length_append]
   omega
  have h2:=Lb s
  rw[uE,List.length_append]at h2
  omega
 have Cm:∀b∈s.blocks.l,cG b.l≤300:=fun b hb=>by
  have h1:=xj s
  have h2:∀bs:List (Sl af),b∈bs->cG b.l≤(bs.map fun b=>1+cG b.l).sum:=by
   intro bs
   induction bs with
   | nil=>intro h;cases h
   | cons c bs ih=>
    intro h
    rcases List.mem_cons.1 h with rfl | h
    ·simp;omega
    ·have:=ih h;simp;omega
  have:=h2 _ hb
  omega
 refine T.count (fun j v n k=>Ab (gV n) l (i:Int) n k v j) s.blocks.l.length (fun j v=>cH a ((s.blocks.l.take j).flatMap fun b=>ct b.l) v) (fun j v hj hI rec=>?_) (fun v hI=>?_) 0 a (by omega) (by simpa using cH.nil hn)
 all_goals simp only[Ab]
 ·have hg:s.blocks.l[j]? =some s.blocks.l[j]:=List.getElem?_eq_getElem hj
  have hlen:=hI.len
  have:=Cl j
  refine T.nat hs (T.pos (by omega) (T.nat hg (T.bind (ih _ (List.getElem_mem hj)) fun x hx=>T.bind (T.dg (aac (by have:=A6 hx;have:=Cm _ (List.getElem_mem hj);omega) (by omega) hI.1)) fun o ho=>?_)))
  cases o with
  | e4 b _=>
   refine T.pos (aW (by omega) (by omega)) (rec b ?_)
   rw[eQ hg,List.flatMap_append,List.flatMap_cons,List.flatMap_nil,List.append_nil]
   exact hI.trans (ho.more fun r=>by rw[hx.2];simp)
 ·rw[List.take_length]at hI
  exact T.nat hs (T.neg (by omega) (T.ret hI))
theorem AH {l:List af}{s:af}(h:s∈l):wS s≤cG l:=by
 induction l with
 | nil=>cases h
 | cons t l ih=>
  simp only[cG,List.map_cons,List.sum_cons]at *
  rcases List.mem_cons.1 h with rfl | h
  ·omega
  ·have:=ih h;omega
theorem Ka {s:af}{b:Sl af}(h:b∈s.blocks.l):cG b.l<wS s:=by
 have h1:=xj s
 have h2:∀bs:List (Sl af),b∈bs->cG b.l≤(bs.map fun b=>1+cG b.l).sum:=by
  intro bs
  induction bs with
  | nil=>intro h;cases h
  | cons c bs ih=>
   intro h
   rcases List.mem_cons.1 h with rfl | h
   ·simp;omega
   ·have:=ih h;simp;omega
 have:=h2 _ h
 omega
theorem Ra {l:Sl af}(hb:dh l.l=true)(hw:cG l.l≤300)(ih:∀s∈l.l,∀b∈s.blocks.l,T (fun n _=>gV n b) (qe b.l)):
  T (fun n k=>rR (gV n) l n k [] 0) (fun o=>match o with | .e0 b _=>qe l.l b):=by
 obtain⟨hl,eb⟩:=fY hb
 have Cl:∀j,(ct (l.l.take j)).length≤300:=fun j=>by
  have h1:(ct (l.l.take j)).length≤(ct l.l).length:=by
   conv=>rhs;rw[←List.take_append_drop j l.l,ct,List.flatMap_append,List.length_append]
   show _≤(ct _).length+_
   omega
  have h2:=ET l.l
  omega
 refine T.count (fun j v n k=>rR (gV n) l n k v j) l.l.length (fun j v=>cH [] (ct (l.l.take j)) v) (fun j v hj hI rec=>?_) (fun v hI=>?_) 0 [] (by omega) (cH.nil (by simp))
 all_goals simp only[rR]
 ·have hg:l.l[j]? =some l.l[j]:=List.getElem?_eq_getElem hj
  have hm:=List.getElem_mem hj
  have hlen:=hI.len
  have h3:=Cl j
  simp only[List.length_nil]at hlen
  have FY:=AH hm
  have bz:ct (l.l.take (j+1))=ct (l.l.take j)++(fI l.l[j]++l.l[j].blocks.l.flatMap fun b=>ct b.l):=by
   rw[ct,eQ hg,List.flatMap_append,List.flatMap_cons,List.flatMap_nil,List.append_nil,uE];rfl
  refine T.pos (by omega) (T.bind (P:=fun o=>match o with | .m _=>cH v (fI l.l[j]) v | .vA b _=>cH v (fI l.l[j]) b | .kN=>cH v (fI l.l[j]) v) ?_ fun o ho=>?_)
  ·simp only[Px]
   refine T.nat hg (T.ite (fun g=>T.bind (BE (l:=Sl.gr v) (show v.length≤100000 by omega) _) fun y hy=>T.cond (fun h=>T.ret ?_) fun h=>T.pos (room (by omega) (by simp;omega)) (T.ret ?_)) fun g=>T.ret ?_)
   ·subst hy
    have:=(cH.step (j:=0) (x:=fI l.l[j]) (cH.nil hI.1) (by rw[fI,if_pos g];rfl)).1 (of_decide_eq_true h)
    show cH v (fI l.l[j]) v
    rw[fI,if_pos g]at this ⊢;exact this
   ·subst hy
    have:=(cH.step (j:=0) (x:=fI l.l[j]) (cH.nil hI.1) (by rw[fI,if_pos g];rfl)).2 (of_decide_eq_false h)
    show cH v (fI l.l[j]) _
    rw[fI,if_pos g]at this ⊢;exact this
   ·show cH v (fI l.l[j]) v
    rw[fI,if_neg g];exact cH.nil hI.1
  ·have hr1:(fI l.l[j]).length≤1:=by unfold fI;split<;>simp
   cases o with
   | m _=>
    have ho:cH v (fI l.l[j]) v:=ho
    refine T.bind (T.dg (Q9 hg (eb _ hm) (by omega) (ih _ hm) (by omega) hI.1)) fun o bu=>?_
    cases o with
    | e2 b _=>exact T.pos (aW (by omega) (by omega)) (rec b (bz▸hI.trans (ho.trans bu)))
   | vA v2 _=>
    have ho:cH v (fI l.l[j]) v2:=ho
    have:=ho.len
    refine T.bind (T.dg (Q9 hg (eb _ hm) (by omega) (ih _ hm) (by omega) ho.1)) fun o bu=>?_
    cases o with
    | e2 b _=>exact T.pos (aW (by omega) (by omega)) (rec b (bz▸hI.trans (ho.trans bu)))
   | kN=>
    have ho:cH v (fI l.l[j]) v:=ho
    refine T.bind (T.dg (aaa hg (eb _ hm) (by omega) (ih _ hm) (by omega) hI.1)) fun o bu=>?_
    cases o with
    | e2 b _=>exact T.pos (aW (by omega) (by omega)) (rec b (bz▸hI.trans (ho.trans bu)))
 ·rw[List.take_length]at hI
  exact T.neg (by omega) (T.ret hI)
theorem Q8 {l:Sl af}(hL:T (fun n k=>rR (gV n) l n k [] 0) (fun o=>match o with | .e0 b _=>qe l.l b)):T (fun n _=>gV n l) (qe l.l):=by
 refine T.n1 ?_
 simp only[gV]
 refine T.bind (T.dg hL) fun o ho=>?_
 cases o with
 | e0 b _=>exact T.ret ho
theorem aad:∀s:af,bS s=true->wS s≤300->∀b∈s.blocks.l,T (fun n _=>gV n b) (qe b.l):=af.eZ fun s ih hb hw b hm=>by
 obtain⟨_,_,h3⟩:=iF hb
 have h4:=h3 b hm
 have h5:=Ka hm
 exact Q8 (Ra h4 (by omega) fun t ht=>ih b hm t ht ((fY h4).2 t ht) (by have:=AH ht;omega))
theorem Lc (l:Sl af)(hb:dh l.l=true)(hw:cG l.l≤300):T (fun n _=>gV n l) (qe l.l):=
 Q8 (Ra hb hw fun t ht=>aad t ((fY hb).2 t ht) (by have:=AH ht;omega))
end Go.Vig
namespace Go.Vig
open Go Go.Abs
variable [Kn]
def eV (p:aj)(r:a7):Sl af:=(nc p r.mon r.name).1.body
def r8 (p:aj)(a b:a7):Prop:=b∈ct (eV p a).l
abbrev Way (p:aj):a7->a7->Prop:=Relation.TransGen (r8 p)
def nA (p:aj)(from_:List a7)(r:a7):Prop:=∃f∈from_,f=r∨Way p f r
def uu (p:aj):List a7:=p.aw.l.flatMap fun m=>m.methods.l.flatMap fun me=>ct me.body.l
theorem adN {p:aj}{mon name:ByteArray}{me:dW}(h:ji p mon name=some me):∃m∈p.aw.l,me∈m.methods.l:=by
 simp only[ji,Option.bind_eq_some_iff]at h
 obtain⟨m,⟨i,h1,h2⟩,h3⟩:=h
 exact⟨m,List.mem_of_getElem? h2,List.mem_of_find?_eq_some h3⟩
theorem ER {p:aj}(r:a7):(eV p r).l=[]∨∃m∈p.aw.l,∃me∈m.methods.l,eV p r=me.body:=by
 unfold eV nc
 cases h:ji p r.mon r.name with
 | none=>exact .inl rfl
 | some me=>
  obtain⟨m,h1,h2⟩:=adN h
  exact .inr ⟨m,h1,me,h2,rfl⟩
theorem KN {p:aj}{a b:a7}(h:r8 p a b):b∈uu p:=by
 unfold r8 at h
 rcases ER (p:=p) a with h0 | ⟨m,h1,me,h2,h3⟩
 ·rw[h0]at h;cases h
 ·rw[h3]at h
  exact List.mem_flatMap.2 ⟨m,h1,List.mem_flatMap.2 ⟨me,h2,h⟩⟩
theorem XL {p:aj}{a b:a7}(h:Way p a b):b∈uu p:=by
 cases h with
 | single h=>exact KN h
 | tail _ h=>exact KN h
theorem wm {α:Type}{f g:α->Nat}:∀{l:List α},(∀x∈l,f x≤g x)->(l.map f).sum≤(l.map g).sum
 | [],_=>by simp
 | a::l,h=>by
  have:=wm (l:=l) fun x hx=>h x (List.mem_cons_of_mem _ hx)
  have:=h a List.mem_cons_self
  simp;omega
theorem rz {α:Type}{f:α->Nat}{l:List α}{a:α}(h:a∈l):f a≤(l.map f).sum:=by
 induction l with
 | nil=>cases h
 | cons b l ih=>
  rcases List.mem_cons.1 h with rfl | h
  ·simp
  ·have:=ih h;simp;omega
theorem KJ (p:aj):(uu p).length≤wP p:=by
 unfold uu wP
 rw[List.length_flatMap]
 have:=wm (l:=p.aw.l) (f:=fun m=>(m.methods.l.flatMap fun me=>ct me.body.l).length) (g:=oE) fun m _=>by
  rw[List.length_flatMap]
  exact wm fun me _=>ET _
 omega
structure dX (p:aj):Prop where
 ga:dI p
 w:wP p≤300
 b:∀r,dh (eV p r).l=true∧cG (eV p r).l≤300
theorem Uh {p:aj}(h:bP p=true)(hw:wP p≤300):dX p:=by
 refine⟨qA h,hw,fun r=>?_⟩
 obtain⟨_,_,h3,_⟩:=j5 h
 rcases ER (p:=p) r with h0 | ⟨m,h1,me,h2,hb⟩
 ·rw[h0];exact⟨rfl,by simp[cG]⟩
 ·rw[hb]
  obtain⟨_,_,_,_,g⟩:=so (h3 m h1)
  refine⟨(g me h2).2,?_⟩
  have a1:cG me.body.l≤oE m:=rz (f:=fun me:dW=>cG me.body.l) h2
  have a2:oE m≤(p.aw.l.map oE).sum:=rz h1
  unfold wP at hw
  omega
theorem adi {x a:List a7}(hx:x.length≤10000)(ha:a.length≤10000)(hn:a.Nodup):T (fun n k=>xb x n k a 0) (fun o=>match o with | .e2 b _=>cH a x b∧∃t,b=a++t):=by
 refine T.count (fun j v n k=>xb x n k v j) x.length (fun j v=>cH a (x.take j) v∧∃t,v=a++t) (fun j v hj hI rec=>?_) (fun v hI=>?_) 0 a (by omega) ⟨cH.nil hn,[],by simp⟩
 all_goals simp only[xb]
 ·have hg:x[j]? =some x[j]:=List.getElem?_eq_getElem hj
  obtain⟨hI,t,ht⟩:=hI
  have hlen:=hI.len
  rw[List.length_take]at hlen
  refine T.pos (by omega) (T.nat hg (T.bind (BE (l:=(⟨false,false,v⟩:Sl a7)) (show v.length≤100000 by omega) _) fun y hy=>?_))
  subst hy
  refine T.cond (fun h=>T.pos (aW (by omega) (by omega)) (rec _ ⟨(hI.step hg).1 (of_decide_eq_true h),t,ht⟩)) fun h=>T.pos (room (by omega) (by simp;omega)) (T.pos (aW (by omega) (by omega)) (rec _ ⟨(hI.step hg).2 (of_decide_eq_false h),t++[x[j]],by rw[ht,List.append_assoc]⟩))
 ·rw[List.take_length]at hI
  exact T.neg (by omega) (T.ret hI)
theorem adh {p:aj}(hp:dX p){fr:List a7}(hl:fr.length≤300):∀(d i:Nat) (v:List a7),fr.length+300+1≤i+d->i≤v.length->v.Nodup->(∀r∈fr,r∈v)->(∀r∈v,nA p fr r)->(∀r∈v.take i,∀q,r8 p r q->q∈v)->
  T (fun n k=>D5 p n k v (i:Int)) (fun o=>match o with | .e0 b _=>b.Nodup∧∀r,r∈b↔nA p fr r):=by
 have hlen:∀v:List a7,v.Nodup->(∀r∈v,nA p fr r)->v.length≤fr.length+300:=fun v hn hv=>by
  have:=Gv (m:=fr++uu p) hn fun r hr=>by
   obtain⟨f,h1,h2⟩:=hv r hr
   rcases h2 with rfl | h2
   ·exact List.mem_append.2 (.inl h1)
   ·exact List.mem_append.2 (.inr (XL h2))
  rw[List.length_append]at this
  have h2:=KJ p
  have:=hp.w
  omega
 intro d
 induction d with
 | zero=>
  intro i v h1 h2 hn _ hv _
  have:=hlen v hn hv
  omega
 | succ d ih=>
  intro i v h1 h2 hn hf hv hc
  have fS:=hlen v hn hv
  refine T.k1 ?_
  simp only[D5]
  refine T.ite (fun g=>?_) fun g=>T.ret ?_
  ·have hi:i<v.length:=by omega
   have hg:v[i]? =some v[i]:=List.getElem?_eq_getElem hi
   refine T.nat hg (T.bind (vC hp.ga _ _) fun x hx=>?_)
   subst hx
   obtain⟨jP,eb⟩:=hp.b v[i]
   refine T.bind (Lc (eV p v[i]) jP eb) fun y hy=>T.bind (T.dg (adi (by have:=A6 hy;omega) (by omega) hn)) fun o ho=>?_
   cases o with
   | e2 b _=>
    obtain⟨ho,t,ht⟩:cH v y b∧∃t,b=v++t:=ho
    have Tb:∀r,r∈v->r∈b:=fun r hr=>(ho.2 r).2 (.inl hr)
    have hlb:∀r∈b,nA p fr r:=fun r hr=>by
     rcases(ho.2 r).1 hr with h | h
     ·exact hv r h
     ·have ha:r8 p v[i] r:=((hy.2 r).1 h).resolve_left (by simp)
      obtain⟨f,h1,h2⟩:=hv _ (List.getElem_mem hi)
      refine⟨f,h1,.inr ?_⟩
      rcases h2 with rfl | h2
      ·exact .single ha
      ·exact .tail h2 ha
    have B9:b.take i=v.take i∧b[i]? =some v[i]:=by rw[ht];exact⟨List.take_append_of_le_length (by omega),by rw[List.getElem?_append_left hi];exact hg⟩
    have qO:=ih (i+1) b (by omega) ?_ ho.1 (fun r hr=>Tb r (hf r hr)) hlb ?_
    ·refine T.pos (aW (by omega) (by omega)) ?_
     rwa [Int.natCast_succ]at qO
    ·exact(List.getElem?_eq_some_iff.1 B9.2).1
    ·intro r hr q hq
     rcases(kT B9.2).1 hr with h | h
     ·rw[B9.1]at h;exact Tb q (hc r h q hq)
     ·subst h;exact(ho.2 q).2 (.inr ((hy.2 q).2 (.inr hq)))
  ·have hi:i=v.length:=by omega
   rw[hi,List.take_length]at hc
   refine⟨hn,fun r=>⟨hv r,fun⟨f,h1,h2⟩=>?_⟩⟩
   rcases h2 with rfl | h2
   ·exact hf f h1
   ·have:∀{a b},Way p a b->a∈v->b∈v:=fun {a b} h ha=>by
     induction h with
     | single h=>exact hc _ ha _ h
     | tail _ h ih=>exact hc _ ih _ h
    exact this h2 (hf f h1)
theorem Tx {p:aj}(hp:dX p){fr:List a7}(hl:fr.length≤300)(hn:fr.Nodup){s:Sl a7}(hs:s.l=fr):T (fun n _=>D4 n p s) (fun b=>b.Nodup∧b.length≤1000∧∀r,r∈b↔nA p fr r):=by
 simp only[D4,hs,List.nil_append]
 refine T.pos (room (by omega) (by omega)) (T.bind (T.dg (adh hp hl (fr.length+301) 0 fr (by omega) (by omega) hn (fun r h=>h) (fun r h=>⟨r,h,.inl rfl⟩) (by simp))) fun o ho=>?_)
 cases o with
 | e0 b _=>
  obtain⟨h1,h2⟩:b.Nodup∧∀r,r∈b↔nA p fr r:=ho
  refine T.ret ⟨h1,show b.length≤1000 from ?_,h2⟩
  have:=Gv (m:=fr++uu p) h1 fun r hr=>by
   obtain⟨f,g1,g2⟩:=(h2 r).1 hr
   rcases g2 with rfl | g2
   ·exact List.mem_append.2 (.inl g1)
   ·exact List.mem_append.2 (.inr (XL g2))
  rw[List.length_append]at this
  have h2:=KJ p
  have:=hp.w
  omega
open Classical in
theorem LD {p:aj}(hp:dX p)(r:a7):T (fun n _=>D2 n p r) (·=decide (Way p r r)):=by
 simp only[D2]
 refine T.bind (vC hp.ga _ _) fun x hx=>?_
 subst hx
 obtain⟨jP,eb⟩:=hp.b r
 refine T.bind (Lc (eV p r) jP eb) fun y hy=>T.bind (Tx hp (by have:=A6 hy;omega) hy.1 (s:=Sl.gr y) rfl) fun z hz=>T.bind (BE (l:=(⟨false,false,z⟩:Sl a7)) (show z.length≤100000 by have:=hz.2.1;omega) r) fun b hb=>T.ret ?_
 rw[hb]
 refine decide_eq_decide.2 ⟨fun h=>?_,fun h=>?_⟩
 ·obtain⟨f,h1,h2⟩:=(hz.2.2 r).1 h
  have ha:r8 p r f:=((hy.2 f).1 h1).resolve_left (by simp)
  rcases h2 with rfl | h2
  ·exact .single ha
  ·exact Relation.TransGen.trans (.single ha) h2
 ·refine(hz.2.2 r).2 ?_
  have:∀{a b},Way p a b->∃f,r8 p a f∧(f=b∨Way p f b):=fun {a b} h=>by
   induction h with
   | single h=>exact⟨_,h,.inl rfl⟩
   | tail _ h ih=>
    obtain⟨f,g1,g2⟩:=ih
    refine⟨f,g1,.inr ?_⟩
    rcases g2 with rfl | g2
    ·exact .single h
    ·exact .tail g2 h
  obtain⟨f,g1,g2⟩:=this h
  exact⟨f,(hy.2 f).2 (.inr g1),g2⟩
open Classical in
noncomputable def rk (p:aj) (r:a7):Nat:=((uu p).filter fun u=>decide (Way p r u)).length
theorem filter_lt {α:Type}{f g:α->Bool}{l:List α}(h:∀x,f x=true->g x=true){a:α}(ha:a∈l)(h1:f a=false)(h2:g a=true):(l.filter f).length<(l.filter g).length:=by
 have hle:∀l:List α,(l.filter f).length≤(l.filter g).length:=by
  intro l
  induction l with
  | nil=>simp
  | cons b l ih=>
   by_cases hf:f b=true
   ·rw[List.filter_cons_of_pos hf,List.filter_cons_of_pos (h b hf)];simp;omega
   ·rw[List.filter_cons_of_neg hf]
    by_cases hg:g b=true
    ·rw[List.filter_cons_of_pos hg];simp;omega
    ·rw[List.filter_cons_of_neg hg];omega
 induction l with
 | nil=>cases ha
 | cons b l ih=>
  rcases List.mem_cons.1 ha with rfl | ha
  ·rw[List.filter_cons_of_neg (by simp[h1]),List.filter_cons_of_pos h2]
   have:=hle l
   simp;omega
  ·have:=ih ha
   by_cases hf:f b=true
   ·rw[List.filter_cons_of_pos hf,List.filter_cons_of_pos (h b hf)];simp;omega
   ·rw[List.filter_cons_of_neg hf]
    by_cases hg:g b=true
    ·rw[List.filter_cons_of_pos hg];simp;omega
    ·rw[List.filter_cons_of_neg hg];omega
theorem afO (p:aj)(r:a7):rk p r≤wP p:=Nat.le_trans (List.length_filter_le _ _) (KJ p)
theorem afP {p:aj}{r q:a7}(h:r8 p r q)(hq:¬Way p q q):rk p q<rk p r:=by
 classical
 refine filter_lt (a:=q) (fun x hx=>?_) (KN h) (decide_eq_false hq) (decide_eq_true (.single h))
 simp only[decide_eq_true_eq]at hx ⊢
 exact Relation.TransGen.trans (.single h) hx
def lO (p:aj)(l:List af):Prop:=∀r,nA p (ct l) r->¬Way p r r
theorem lO.body {p:aj}{l:List af}(h:lO p l){r:a7}(hr:r∈ct l):lO p (eV p r).l:=fun q ⟨f,h1,h2⟩=>by
 refine h q ⟨r,hr,.inr ?_⟩
 rcases h2 with rfl | h2
 ·exact .single h1
 ·exact Relation.TransGen.trans (.single h1) h2
theorem lO.rk {p:aj}{l:List af}(h:lO p l){r:a7}(hr:r∈ct l):∀q∈ct (eV p r).l,rk p q<rk p r:=fun q hq=>
 afP hq (h q ⟨r,hr,.inr (.single hq)⟩)
end Go.Vig
