/-
  Part of the proof: printed by the session's own program out of the program's form, or typed; it states no claim by itself.
-/
import Derived.Test.YtpadajnejknkeaaGreatVc
import Derived.Test.YtpadajnejknkeaaGreatFe
set_option linter.unusedVariables false
set_option linter.unusedSimpArgs false
set_option linter.unusedSectionVars false
set_option maxRecDepth 100000
namespace Go.Vig
open Go Go.Abs
variable [Kn]
def tu (rec:a7->List af)(s:af)(bs:List (List af)):af:=
 if s.kind=8 then { kind:=7,mon:=s.mon,blocks:=⟨false,true,[Sl.gr (rec ⟨s.mon,s.name⟩)]⟩,at_:=s.at_}
 else { kind:=s.kind,mon:=s.mon,name:=s.name,n_:=s.n_,e_:=s.e_,blocks:=Sl.gr (bs.map Sl.gr),at_:=s.at_}
def cW (rec:a7->List af):af->af:=af.fold (tu rec)
theorem yV (rec:a7->List af)(s:af):cW rec s=tu rec s (s.blocks.l.map fun b=>b.l.map (cW rec)):=by rw[cW,af.fold_eq]
def kk (p:aj):Nat->List af->List af
 | 0,_=>[]
 | d+1,l=>l.map (cW fun r=>kk p d (eV p r).l)
theorem ae8 {p:aj}{s:af}{rec:a7->List af}(hl:s.blocks.l.length≤40)(ih:∀b∈s.blocks.l,T (fun n _=>gW n p b) (·=b.l.map (cW rec))):T (fun n k=>Ak (gW n) p s n k [] 0) (fun o=>match o with | .e2 b _=>b=s.blocks.l.map fun b=>Sl.gr (b.l.map (cW rec))):=by
 refine T.count (fun j v n k=>Ak (gW n) p s n k v j) s.blocks.l.length (fun j v=>v=(s.blocks.l.take j).map fun b=>Sl.gr (b.l.map (cW rec))) (fun j v hj hI og=>?_) (fun v hI=>?_) 0 [] (by omega) (by simp)
 all_goals simp only[Ak];subst hI
 ·have hg:s.blocks.l[j]? =some s.blocks.l[j]:=List.getElem?_eq_getElem hj
  refine T.pos (by omega) (T.nat hg (T.bind (ih _ (List.getElem_mem hj)) fun x hx=>T.pos (room (by omega) (by simp;omega)) (T.pos (aW (by omega) (by omega)) (og _ ?_))))
  rw[eQ hg,List.map_append,hx];rfl
 ·exact T.neg (by omega) (T.ret (by rw[List.take_length]))
theorem UG {p:aj}(hp:dX p){rec:a7->List af}{l:Sl af}(hb:dh l.l=true)(MW:∀r∈ct l.l,T (fun n _=>gW n p (eV p r)) (·=rec r))(ih:∀s∈l.l,∀b∈s.blocks.l,T (fun n _=>gW n p b) (·=b.l.map (cW rec))):
  T (fun n k=>ug (gW n) p l n k [] 0) (fun o=>match o with | .e0 b _=>b=l.l.map (cW rec)):=by
 obtain⟨hl,eb⟩:=fY hb
 refine T.count (fun j v n k=>ug (gW n) p l n k v j) l.l.length (fun j v=>v=(l.l.take j).map (cW rec)) (fun j v hj hI og=>?_) (fun v hI=>?_) 0 [] (by omega) (by simp)
 all_goals simp only[ug];subst hI
 ·have hg:l.l[j]? =some l.l[j]:=List.getElem?_eq_getElem hj
  have hm:=List.getElem_mem hj
  refine T.pos (by omega) (T.nat hg (T.ite (fun g=>T.bind (vC hp.ga _ _) fun x hx=>?_) fun g=>T.bind (T.dg (ae8 (iF (eb _ hm)).1 (ih _ hm))) fun o ho=>?_))
  ·subst hx
   have hc:(⟨l.l[j].mon,l.l[j].name⟩:a7)∈ct l.l:=List.mem_flatMap.2 ⟨_,hm,by rw[uE,fI,if_pos g];simp⟩
   refine T.bind (MW _ hc) fun y hy=>T.pos (room (by omega) (by simp;omega)) (T.pos (aW (by omega) (by omega)) (og _ ?_))
   rw[eQ hg,List.map_append,hy,List.map_cons,List.map_nil,yV,tu,if_pos g]
  ·cases o with
   | e2 b _=>
    have ho:b=l.l[j].blocks.l.map fun b=>Sl.gr (b.l.map (cW rec)):=ho
    refine T.pos (room (by omega) (by simp;omega)) (T.pos (aW (by omega) (by omega)) (og _ ?_))
    rw[eQ hg,List.map_append,ho,List.map_cons,List.map_nil,yV,tu,if_neg g,List.map_map];rfl
 ·exact T.neg (by omega) (T.ret (by rw[List.take_length]))
theorem UF {p:aj}{rec:a7->List af}{l:Sl af}(hL:T (fun n k=>ug (gW n) p l n k [] 0) (fun o=>match o with | .e0 b _=>b=l.l.map (cW rec))):T (fun n _=>gW n p l) (·=l.l.map (cW rec)):=by
 refine T.n1 ?_
 simp only[gW]
 refine T.bind (T.dg hL) fun o ho=>?_
 cases o with
 | e0 b _=>exact T.ret ho
theorem EU {l:List af}{s:af}(h:s∈l){r:a7}(hr:r∈oO s):r∈ct l:=List.mem_flatMap.2 ⟨s,h,hr⟩
theorem Q7 {s:af}{b:Sl af}(h:b∈s.blocks.l){r:a7}(hr:r∈ct b.l):r∈oO s:=by
 rw[uE];exact List.mem_append.2 (.inr (List.mem_flatMap.2 ⟨b,h,hr⟩))
theorem ae9 {p:aj}(hp:dX p){rec:a7->List af}:∀s:af,bS s=true->(∀r∈oO s,T (fun n _=>gW n p (eV p r)) (·=rec r))->∀b∈s.blocks.l,T (fun n _=>gW n p b) (·=b.l.map (cW rec)):=af.eZ fun s ih hb hc b hm=>by
 have h4:=(iF hb).2.2 b hm
 have ib:∀r∈ct b.l,T (fun n _=>gW n p (eV p r)) (·=rec r):=fun r hr=>hc r (Q7 hm hr)
 exact UF (UG hp h4 ib fun t ht=>ih b hm t ht ((fY h4).2 t ht) fun r hr=>ib r (EU ht hr))
theorem UH {p:aj}(hp:dX p):∀(d:Nat) (l:Sl af),dh l.l=true->lO p l.l->(∀r∈ct l.l,rk p r<d)->T (fun n _=>gW n p l) (·=kk p (d+1) l.l)
 | d,l,hb,hn,hr=>by
  rw[kk]
  have hc:∀r∈ct l.l,T (fun n _=>gW n p (eV p r)) (·=kk p d (eV p r).l):=fun r hm=>by
   have h0:=hr r hm
   obtain⟨d',rfl⟩:∃d',d=d'+1:=⟨d - 1,by omega⟩
   exact UH hp d' (eV p r) (hp.b r).1 (hn.body hm) fun q hq=>by have:=hn.rk hm q hq;omega
  exact UF (UG hp hb hc fun t ht=>ae9 hp t ((fY hb).2 t ht) fun r hr=>hc r (EU ht hr))
def inl (p:aj)(l:List af):List af:=kk p 302 l
theorem UU {p:aj}(hp:dX p)(r:a7):rk p r<301:=by have:=afO p r;have:=hp.w;omega
theorem afa {p:aj}(hp:dX p)(l:Sl af)(hb:dh l.l=true)(hn:lO p l.l):T (fun n _=>gW n p l) (·=inl p l.l):=
 UH hp 301 l hb hn fun r _=>UU hp r
def fW (b R0:Nat)(c:Int):Prop:=0≤c∧c≤b∧c≤R0∧(c≤400->c=R0)
def hJ (d w:Nat):Nat:=401 * (301 * d+w)
theorem ZS {d w:Nat}(hd:d≤302)(hw:w≤300):hJ d w≤100000000:=by unfold hJ;omega
theorem Oz (a b:List af):br (a++b)=br a+br b:=by simp[br]
theorem aia:∀s:af,fv s≤wS s:=af.eZ fun s ih=>by
 rw[tO,xj]
 have:=wm (l:=s.blocks.l) (f:=fun b=>br b.l) (g:=fun b=>1+cG b.l) fun b hb=>by
  have:=wm (l:=b.l) (f:=fv) (g:=wS) (ih b hb)
  unfold br cG;omega
 omega
theorem VX (l:List af):br l≤cG l:=wm fun s _=>aia s
theorem VZ (s:af):1≤fv s:=by rw[tO];omega
theorem OA {l:List af}{s:af}(h:s∈l):fv s≤br l:=rz h
theorem OB {s:af}{b:Sl af}(h:b∈s.blocks.l):br b.l<fv s:=by
 rw[tO]
 have:=rz (f:=fun b:Sl af=>br b.l) h
 omega
section
variable {p:aj}{rec:a7->List af}{B:Nat}{l:Sl af}{i:Nat}{s:af}
theorem aaV (hB:B≤100000000)(hs:l.l[i]? =some s)(hl:s.blocks.l.length≤40)(ih:∀b∈s.blocks.l,T (fun n _=>fy n p b) (fW (B - 400) (br (b.l.map (cW rec))))){c:Int}{e:Nat}(hc:fW B e c)(h4:400≤B):
  T (fun n k=>Ah (fy n) p l (i:Int) n k c 0) (fun o=>match o with | .e2 r _=>fW B (e+(s.blocks.l.map fun b=>br (b.l.map (cW rec))).sum) r):=by
 refine T.count (fun j v n k=>Ah (fy n) p l (i:Int) n k v j) s.blocks.l.length (fun j v=>fW B (e+((s.blocks.l.take j).map fun b=>br (b.l.map (cW rec))).sum) v) (fun j v hj hI og=>?_) (fun v hI=>?_) 0 c (by omega) (by simpa using hc)
 all_goals simp only[Ah]
 ·have hg:s.blocks.l[j]? =some s.blocks.l[j]:=List.getElem?_eq_getElem hj
  obtain⟨i1,i2,i3,i4⟩:=hI
  refine T.nat hs (T.pos (by omega) (T.ite (fun g=>T.nat hg (T.bind (ih _ (List.getElem_mem hj)) fun x hx=>?_)) fun g=>T.ret ?_))
  ·obtain⟨x1,x2,x3,x4⟩:=hx
   refine T.pos (aW (by omega) (by omega)) (T.pos (aW (by omega) (by omega)) (og _ ?_))
   rw[nr hg]
   exact⟨by omega,by omega,by omega,fun h=>by have:=i4 g;have:=x4 (by omega);omega⟩
  ·refine show fW B _ v from ⟨i1,i2,?_,fun h=>absurd h g⟩
   have h1:((s.blocks.l.take j).map fun b=>br (b.l.map (cW rec))).sum≤(s.blocks.l.map fun b=>br (b.l.map (cW rec))).sum:=by
    conv=>rhs;rw[←List.take_append_drop j s.blocks.l,List.map_append,List.sum_append]
    omega
   omega
 ·rw[List.take_length]at hI
  exact T.nat hs (T.neg (by omega) (T.ret hI))
theorem aaW (hB:B≤100000000)(hs:l.l[i]? =some s)(hl:s.blocks.l.length≤40)(ih:∀b∈s.blocks.l,T (fun n _=>fy n p b) (fW (B - 400) (br (b.l.map (cW rec))))){c:Int}{e:Nat}(hc:fW B e c)(h4:400≤B):
  T (fun n k=>Ai (fy n) p l (i:Int) n k c 0) (fun o=>match o with | .e2 r _=>fW B (e+(s.blocks.l.map fun b=>br (b.l.map (cW rec))).sum) r):=by
 refine T.count (fun j v n k=>Ai (fy n) p l (i:Int) n k v j) s.blocks.l.length (fun j v=>fW B (e+((s.blocks.l.take j).map fun b=>br (b.l.map (cW rec))).sum) v) (fun j v hj hI og=>?_) (fun v hI=>?_) 0 c (by omega) (by simpa using hc)
 all_goals simp only[Ai]
 ·have hg:s.blocks.l[j]? =some s.blocks.l[j]:=List.getElem?_eq_getElem hj
  obtain⟨i1,i2,i3,i4⟩:=hI
  refine T.nat hs (T.pos (by omega) (T.ite (fun g=>T.nat hg (T.bind (ih _ (List.getElem_mem hj)) fun x hx=>?_)) fun g=>T.ret ?_))
  ·obtain⟨x1,x2,x3,x4⟩:=hx
   refine T.pos (aW (by omega) (by omega)) (T.pos (aW (by omega) (by omega)) (og _ ?_))
   rw[nr hg]
   exact⟨by omega,by omega,by omega,fun h=>by have:=i4 g;have:=x4 (by omega);omega⟩
  ·refine show fW B _ v from ⟨i1,i2,?_,fun h=>absurd h g⟩
   have h1:((s.blocks.l.take j).map fun b=>br (b.l.map (cW rec))).sum≤(s.blocks.l.map fun b=>br (b.l.map (cW rec))).sum:=by
    conv=>rhs;rw[←List.take_append_drop j s.blocks.l,List.map_append,List.sum_append]
    omega
   omega
 ·rw[List.take_length]at hI
  exact T.nat hs (T.neg (by omega) (T.ret hI))
end
theorem aga {s:af}(h:m9 s=true)(h8:s.kind=8):s.blocks.l=[]:=by
 rw[Cy,Bool.and_eq_true]at h
 have h2:=h.1
 rw[yb,Bool.and_eq_true]at h2
 have h3:=h2.1
 have hf:sF s.kind=some ⟨true,true,false,false,0,0⟩:=by rw[h8];rfl
 rw[hf]at h3
 simp only[uW,xW,Bool.and_eq_true,decide_eq_true_eq]at h3
 exact List.eq_nil_of_length_eq_zero (by omega)
theorem Rs {p:aj}(hp:dX p){rec:a7->List af}{d:Nat}(hd:d≤302){l:Sl af}(hb:dh l.l=true)(hw:br l.l≤300)(hs:fg l.l=true)
  (MW:∀r∈ct l.l,1≤d∧T (fun n _=>fy n p (eV p r)) (fW (hJ (d - 1) 300) (br (rec r)))) (ih:∀s∈l.l,∀b∈s.blocks.l,T (fun n _=>fy n p b) (fW (hJ d (br b.l)) (br (b.l.map (cW rec))))):
  T (fun n k=>ue (fy n) p l n k 0 0) (fun o=>match o with | .e0 r _=>fW (hJ d (br l.l)) (br (l.l.map (cW rec))) r):=by
 obtain⟨hl,eb⟩:=fY hb
 refine T.count (fun j v n k=>ue (fy n) p l n k v j) l.l.length (fun j v=>fW (hJ d (br l.l)) (br ((l.l.take j).map (cW rec))) v) (fun j v hj hI og=>?_) (fun v hI=>?_) 0 0 (by omega) ⟨by omega,by omega,by omega,fun _=>by simp[br]⟩
 all_goals simp only[ue]
 ·have hg:l.l[j]? =some l.l[j]:=List.getElem?_eq_getElem hj
  have hm:=List.getElem_mem hj
  have h1:=OA hm
  have h2:=VZ l.l[j]
  have hB:=ZS hd hw
  have h4:401≤hJ d (br l.l):=by unfold hJ;omega
  have Sz:=(iF (eb _ hm)).1
  have qY:∀b∈l.l[j].blocks.l,T (fun n _=>fy n p b) (fW (hJ d (br l.l) - 400) (br (b.l.map (cW rec)))):=fun b x9=>(ih _ hm b x9).mono fun c ⟨x1,x2,x3,x4⟩=>⟨x1,by have:=OB x9;unfold hJ at *;omega,x3,x4⟩
  have bz:br ((l.l.take (j+1)).map (cW rec))=br ((l.l.take j).map (cW rec))+fv (cW rec l.l[j]):=by rw[eQ hg,List.map_append,Oz];simp[br]
  obtain⟨i1,i2,i3,i4⟩:=hI
  refine T.pos (by omega) (T.ite (fun g0=>T.pos (aW (by omega) (by omega)) (T.nat hg (T.ite (fun g=>T.bind (vC hp.ga _ _) fun x hx=>?_) fun g=>T.bind (T.dg (aaW hB hg Sz qY (e:=br ((l.l.take j).map (cW rec))+1) (c:=v+1) ⟨by omega,by omega,by omega,fun _=>by have:=i4 g0;omega⟩ (by omega))) fun o ho=>?_))) fun g0=>T.ret ?_)
  ·subst hx
   have hc:(⟨l.l[j].mon,l.l[j].name⟩:a7)∈ct l.l:=List.mem_flatMap.2 ⟨_,hm,by rw[uE,fI,if_pos g];simp⟩
   obtain⟨FA,fO⟩:=MW _ hc
   refine T.bind fO fun y hy=>?_
   obtain⟨y1,y2,y3,y4⟩:=hy
   have nQ:hJ (d - 1) 300+401≤hJ d (br l.l):=by unfold hJ;omega
   have l8:=aga (List.all_eq_true.1 hs _ hm) g
   have cc:fv (cW rec l.l[j])=1+br (rec ⟨l.l[j].mon,l.l[j].name⟩):=by rw[yV,tu,if_pos g,tO];simp[Sl.gr]
   refine T.pos (aW (by omega) (by omega)) (T.bind (T.dg (aaV hB hg Sz qY (e:=br ((l.l.take j).map (cW rec))+1+br (rec ⟨l.l[j].mon,l.l[j].name⟩)) (c:=v+1+y) ⟨by omega,by omega,by omega,fun h=>by have:=i4 g0;have:=y4 (by omega);omega⟩ (by omega))) fun o ho=>?_)
   cases o with
   | e2 r _=>
    refine T.pos (aW (by omega) (by omega)) (og r ?_)
    have ho:fW _ _ r:=ho
    rw[l8]at ho
    rw[bz,cc]
    simp only[List.map_nil,List.sum_nil,Nat.add_zero]at ho
    rwa [Nat.add_assoc]at ho
  ·cases o with
   | e2 r _=>
    refine T.pos (aW (by omega) (by omega)) (og r ?_)
    have ho:fW _ _ r:=ho
    have cc:fv (cW rec l.l[j])=1+(l.l[j].blocks.l.map fun b=>br (b.l.map (cW rec))).sum:=by rw[yV,tu,if_neg g,tO];simp[Sl.gr,Function.comp_def]
    rw[bz,cc]
    rwa [Nat.add_assoc]at ho
  ·refine show fW _ _ v from ⟨i1,i2,?_,fun h=>absurd h g0⟩
   have:br ((l.l.take j).map (cW rec))≤br (l.l.map (cW rec)):=by
    conv=>rhs;rw[←List.take_append_drop j l.l,List.map_append,Oz]
    omega
   omega
 ·rw[List.take_length]at hI
  exact T.neg (by omega) (T.ret hI)
theorem Rr {p:aj}{Q:Int->Prop}{l:Sl af}(hL:T (fun n k=>ue (fy n) p l n k 0 0) (fun o=>match o with | .e0 r _=>Q r)):T (fun n _=>fy n p l) Q:=by
 refine T.n1 ?_
 simp only[fy]
 refine T.bind (T.dg hL) fun o ho=>?_
 cases o with
 | e0 b _=>exact T.ret ho
theorem Tm {s:af}(h:m9 s=true){b:Sl af}(hb:b∈s.blocks.l):fg b.l=true:=by
 rw[Cy,Bool.and_eq_true]at h
 exact List.all_eq_true.1 h.2 b hb
theorem aaX {p:aj}(hp:dX p){rec:a7->List af}{d:Nat}(hd:d≤302):∀s:af,bS s=true->fv s≤300->m9 s=true->(∀r∈oO s,1≤d∧T (fun n _=>fy n p (eV p r)) (fW (hJ (d - 1) 300) (br (rec r))))->∀b∈s.blocks.l,T (fun n _=>fy n p b) (fW (hJ d (br b.l)) (br (b.l.map (cW rec)))):=af.eZ fun s ih hb hw hs hc b hm=>by
 have h4:=(iF hb).2.2 b hm
 have h5:=OB hm
 have h6:=Tm hs hm
 have ib:∀r∈ct b.l,1≤d∧T (fun n _=>fy n p (eV p r)) (fW (hJ (d - 1) 300) (br (rec r))):=fun r hr=>hc r (Q7 hm hr)
 exact Rr (Rs hp hd h4 (by omega) h6 ib fun t ht=>ih b hm t ht ((fY h4).2 t ht) (by have:=OA ht;omega) (List.all_eq_true.1 h6 t ht) fun r hr=>ib r (EU ht hr))
theorem Q1 {p:aj}(h:jT p=true)(r:a7):fg (eV p r).l=true:=by
 rcases ER (p:=p) r with h0 | ⟨m,h1,me,h2,hb⟩
 ·rw[h0];rfl
 ·rw[hb]
  simp only[jT,Bool.and_eq_true,List.all_eq_true]at h
  have h3:=h.1.2 m h1
  simp only[n6,Bool.and_eq_true,List.all_eq_true]at h3
  have h4:=h3.2 me h2
  simp only[sX,Bool.and_eq_true]at h4
  exact h4.2
theorem Rt {p:aj}(hp:dX p)(hi:jT p=true):∀(d:Nat) (l:Sl af),d≤302->dh l.l=true->br l.l≤300->fg l.l=true->lO p l.l->(∀r∈ct l.l,rk p r<d)->T (fun n _=>fy n p l) (fW (hJ d (br l.l)) (br (kk p (d+1) l.l)))
 | d,l,hd,hb,hw,hs,hn,hr=>by
  rw[kk]
  have hc:∀r∈ct l.l,1≤d∧T (fun n _=>fy n p (eV p r)) (fW (hJ (d - 1) 300) (br (kk p d (eV p r).l))):=fun r hm=>by
   have h0:=hr r hm
   obtain⟨d',rfl⟩:∃d',d=d'+1:=⟨d - 1,by omega⟩
   have h1:br (eV p r).l≤300:=Nat.le_trans (VX _) (hp.b r).2
   refine⟨by omega,(Rt hp hi d' (eV p r) (by omega) (hp.b r).1 h1 (Q1 hi r) (hn.body hm) fun q hq=>by have:=hn.rk hm q hq;omega).mono fun c ⟨x1,x2,x3,x4⟩=>⟨x1,?_,x3,x4⟩⟩
   have:hJ d' (br (eV p r).l)≤hJ (d'+1 - 1) 300:=by unfold hJ;rw[Nat.add_sub_cancel];omega
   omega
  exact Rr (Rs hp hd hb hw hs hc fun t ht=>aaX hp hd t ((fY hb).2 t ht) (by have:=OA ht;omega) (List.all_eq_true.1 hs t ht) fun r hr=>hc r (EU ht hr))
theorem aaY {p:aj}(hp:dX p)(hi:jT p=true)(l:Sl af)(hb:dh l.l=true)(hw:cG l.l≤300)(hs:fg l.l=true)(hn:lO p l.l):T (fun n _=>fy n p l) (fun c=>0≤c∧c≤br (inl p l.l)∧(c≤400->c=br (inl p l.l))):=
 (Rt hp hi 301 l (by omega) hb (Nat.le_trans (VX _) hw) hs hn fun r _=>UU hp r).mono fun c ⟨h1,_,h3,h4⟩=>⟨h1,h3,h4⟩
end Go.Vig
namespace Go.Vig
open Go Go.Abs
variable [Kn]
open Classical in
noncomputable def lT (p:aj) (l:List af):Int×Int:=
 if jT p=false∨fg l=false then(0,20)
 else if∃r,nA p (ct l) r∧ji p r.mon r.name=none then(0,61)
 else if lO p l then(if br (inl p l)>400 then(0,81)else((br (inl p l):Int),0))
 else(0,80)
theorem Rq {p:aj}(hp:dX p)(hb:bP p=true)(l:Sl af)(hl:dh l.l=true)(hw:cG l.l≤300):T (fun n _=>D1 n p l) (·=lT p l.l):=by
 classical
 simp only[D1]
 refine T.bind (Tr p hb) fun x hx=>?_
 subst hx
 refine T.cond (fun g=>T.bind (F3 l hl) fun x hx=>?_) fun g=>T.ret (by rw[lT,if_pos (.inl g)])
 subst hx
 refine T.cond (fun g2=>?_) fun g2=>T.ret (by rw[lT,if_pos (.inr g2)])
 rw[lT,if_neg (by rw[g,g2];simp)]
 refine T.bind (Lc l hl hw) fun y hy=>T.bind (Tx hp (by have:=A6 hy;omega) hy.1 (s:=Sl.gr y) rfl) fun z ⟨z1,z2,z3⟩=>?_
 have hz:∀r,r∈z↔nA p (ct l.l) r:=fun r=>by
  rw[z3]
  constructor
  ·rintro⟨f,h1,h2⟩;exact⟨f,((hy.2 f).1 h1).resolve_left (by simp),h2⟩
  ·rintro⟨f,h1,h2⟩;exact⟨f,(hy.2 f).2 (.inr h1),h2⟩
 have hL5:T (fun n k=>Ag p l z n k 0) (fun o=>match o with | .r _=>∃r∈z,ji p r.mon r.name=none | .e0 _=>∀r∈z,ji p r.mon r.name≠none):=by
  refine T.any (l:=z) (fun i n k=>Ag p l z n k i) (fun r=>(ji p r.mon r.name).isNone) (fun j a ha hb _=>?_) (fun j a ha hb rec=>?_) (fun hf=>?_)
  all_goals simp only[Ag]
  ·have hj:=(List.getElem?_eq_some_iff.1 ha).1
   refine T.pos (by omega) (T.nat ha (T.bind (vC hp.ga _ _) fun x hx=>?_))
   subst hx
   have h1:ji p a.mon a.name=none:=by simpa using hb
   have h2:nc p a.mon a.name=({},false):=by simp only[nc,h1]
   rw[h2]
   exact T.cond (fun h=>by cases h) fun _=>T.ret ⟨a,List.mem_of_getElem? ha,h1⟩
  ·have hj:=(List.getElem?_eq_some_iff.1 ha).1
   refine T.pos (by omega) (T.nat ha (T.bind (vC hp.ga _ _) fun x hx=>?_))
   subst hx
   cases h1:ji p a.mon a.name with
   | none=>rw[h1]at hb;cases hb
   | some me=>
    have h2:nc p a.mon a.name=(me,true):=by simp only[nc,h1]
    rw[h2]
    exact T.cond (fun _=>T.pos (aW (by omega) (by omega)) rec) fun h=>by cases h
  ·refine T.neg (by omega) (T.ret fun r hr=>?_)
   have:=hf r hr
   intro h;rw[h]at this;cases this
 have abT:T (fun n k=>Af p z n k 0) (fun o=>match o with | .r=>∃r∈z,Way p r r | .e2 _=>∀r∈z,¬Way p r r):=by
  refine T.any (l:=z) (fun i n k=>Af p z n k i) (fun r=>decide (Way p r r)) (fun j a ha hb _=>?_) (fun j a ha hb rec=>?_) (fun hf=>?_)
  all_goals simp only[Af]
  ·have hj:=(List.getElem?_eq_some_iff.1 ha).1
   refine T.pos (by omega) (T.nat ha (T.bind (LD hp a) fun x hx=>?_))
   subst hx
   refine T.cond (fun _=>T.ret ⟨a,List.mem_of_getElem? ha,of_decide_eq_true hb⟩) fun h=>absurd (h.symm.trans ?_) Bool.false_ne_true
   rw[←hb]
  ·have hj:=(List.getElem?_eq_some_iff.1 ha).1
   refine T.pos (by omega) (T.nat ha (T.bind (LD hp a) fun x hx=>?_))
   subst hx
   refine T.cond (fun h=>absurd (h.symm.trans ?_) (Ne.symm Bool.false_ne_true)) fun _=>T.pos (aW (by omega) (by omega)) rec
   rw[←hb]
  ·exact T.neg (by omega) (T.ret fun r hr=>of_decide_eq_false (hf r hr))
 refine T.bind (T.dg hL5) fun o ho=>?_
 cases o with
 | r _=>
  obtain⟨r,h1,h2⟩:∃r∈z,ji p r.mon r.name=none:=ho
  exact T.ret (by rw[if_pos ⟨r,(hz r).1 h1,h2⟩])
 | e0 _=>
  have ho:∀r∈z,ji p r.mon r.name≠none:=ho
  rw[if_neg (fun⟨r,h1,h2⟩=>ho r ((hz r).2 h1) h2)]
  refine T.bind (T.dg abT) fun o bu=>?_
  cases o with
  | r=>
   obtain⟨r,h1,h2⟩:∃r∈z,Way p r r:=bu
   exact T.ret (by rw[if_neg (fun h=>h r ((hz r).1 h1) h2)])
  | e2 _=>
   have hn:lO p l.l:=fun r hr=>(show∀r∈z,¬Way p r r from bu) r ((hz r).2 hr)
   rw[if_pos hn]
   refine T.bind (aaY hp g l hl hw g2 hn) fun c ⟨c1,c2,c3⟩=>T.ite (fun g3=>T.ret ?_) fun g3=>T.ret ?_
   ·rw[if_pos (by omega)]
   ·have:=c3 (by omega)
    rw[if_neg (by omega),this]
theorem LB {p:aj}{l:List af}(h:(lT p l).2=0):jT p=true∧fg l=true∧lO p l∧br (inl p l)≤400∧∀r,nA p (ct l) r->ji p r.mon r.name≠none:=by
 classical
 unfold lT at h
 by_cases h1:jT p=false∨fg l=false
 ·rw[if_pos h1]at h;cases h
 ·rw[if_neg h1]at h
  by_cases h2:∃r,nA p (ct l) r∧ji p r.mon r.name=none
  ·rw[if_pos h2]at h;cases h
  ·rw[if_neg h2]at h
   by_cases h3:lO p l
   ·rw[if_pos h3]at h
    by_cases h4:br (inl p l)>400
    ·rw[if_pos h4]at h;cases h
    ·simp only[not_or,Bool.not_eq_false]at h1
     exact⟨h1.1,h1.2,h3,by omega,fun r hr hm=>h2 ⟨r,hr,hm⟩⟩
   ·rw[if_neg h3]at h;cases h
theorem acI {p:aj}(hp:dX p)(hb:bP p=true)(l:Sl af)(hl:dh l.l=true)(hw:cG l.l≤300):T (fun n _=>Jn n p l) (fun r=>r=if(lT p l.l).2≠0 then(Sl.nil,(lT p l.l).2)else(Sl.gr (inl p l.l),0)):=by
 simp only[Jn]
 refine T.bind (Rq hp hb l hl hw) fun x hx=>?_
 subst hx
 refine T.ite (fun g=>T.ret (by rw[if_pos g])) fun g=>?_
 rw[if_neg g]
 obtain⟨_,_,h3,_⟩:=LB (by simpa using g)
 exact T.bind (afa hp l hl h3) fun x hx=>T.ret (by rw[hx])
open Classical in
noncomputable def lU (p:aj) (m:aH) (me:dW):Int×Int:=if Way p ⟨m.name,me.name⟩ ⟨m.name,me.name⟩then(80,me.at_)else(0,0)
noncomputable def sq (p:aj) (r:aO):Int×Int:=if(lT p r.body.l).2=81 then(81,r.at_)else(0,0)
noncomputable def xI (p:aj):Int×Int:=cX (zh p) (cX (aJ (fun _ m=>aJ (fun _=>lU p m) 0 m.methods.l) 0 p.aw.l) (aJ (fun _=>sq p) 0 p.aR.l))
theorem Z8 {p:aj}(hp:dX p){i:Nat}{m:aH}(hm:p.aw.l[i]? =some m):T (fun n k=>Ae p (i:Int) n k 0) (fun o=>match o with | .r b=>aJ (fun _=>lU p m) 0 m.methods.l=(80,b) | .e2 _=>aJ (fun _=>lU p m) 0 m.methods.l=(0,0)):=by
 classical
 have hl:=(hp.ga.2 m (List.mem_of_getElem? hm)).2
 refine T.fe (l:=m.methods.l) (fun j n k=>Ae p (i:Int) n k j) (fun _=>lU p m) (fun j a ha hj hr hx=>?_) (fun hf=>?_)
 all_goals simp only[Ae]
 ·refine T.nat hm (T.pos (by omega) (T.nat ha (T.bind (LD hp _) fun x bN=>?_)))
  subst bN
  refine T.cond (fun h=>T.ret ?_) fun h=>T.pos (aW (by omega) (by omega)) (hr ?_)
  ·have he:lU p m a=(80,a.at_):=by rw[lU,if_pos (of_decide_eq_true h)]
   rw[he]at hx
   exact hx (show(80:Int)≠0 by decide)
  ·rw[lU,if_neg (of_decide_eq_false h)]
 ·exact T.nat hm (T.neg (by omega) (T.ret hf))
theorem Z7 {p:aj}(hp:dX p):T (fun n k=>Ad p n k 0) (fun o=>match o with | .r b=>aJ (fun _ m=>aJ (fun _=>lU p m) 0 m.methods.l) 0 p.aw.l=(80,b) | .e0 _=>aJ (fun _ m=>aJ (fun _=>lU p m) 0 m.methods.l) 0 p.aw.l=(0,0)):=by
 have hl:=hp.ga.1
 refine T.fe (l:=p.aw.l) (fun j n k=>Ad p n k j) (fun _ m=>aJ (fun _=>lU p m) 0 m.methods.l) (fun j a ha hj hr hx=>?_) (fun hf=>?_)
 all_goals simp only[Ad]
 ·refine T.pos (by omega) (T.bind (T.dg (Z8 hp ha)) fun o ho=>?_)
  cases o with
  | r x=>have ho:aJ (fun _=>lU p a) 0 a.methods.l=(80,x):=ho;exact T.ret (show aJ _ 0 p.aw.l=(80,x) from ho▸hx (by rw[ho];exact(by decide:(80:Int)≠0)))
  | e2 v=>have ho:aJ (fun _=>lU p a) 0 a.methods.l=(0,0):=ho;exact T.pos (aW (by omega) (by omega)) (hr (by rw[ho]))
 ·exact T.neg (by omega) (T.ret hf)
theorem Z6 {p:aj}(hp:dX p)(hb:bP p=true):T (fun n k=>Ac p n k 0) (fun o=>match o with | .r b=>aJ (fun _=>sq p) 0 p.aR.l=(81,b) | .e4 _=>aJ (fun _=>sq p) 0 p.aR.l=(0,0)):=by
 obtain⟨_,h2,_,h4⟩:=j5 hb
 have hw:=hp.w
 refine T.fe (l:=p.aR.l) (fun j n k=>Ac p n k j) (fun _=>sq p) (fun j a ha hj hr hx=>?_) (fun hf=>?_)
 all_goals simp only[Ac]
 ·have hm:=List.mem_of_getElem? ha
  have FX:cG a.body.l≤300:=by
   have:=rz (f:=fun r:aO=>cG r.body.l) hm
   unfold wP at hw;omega
  refine T.pos (by omega) (T.nat ha (T.bind (Rq hp hb _ (h4 a hm).2 FX) fun x bN=>?_))
  subst bN
  refine T.ite (fun h=>T.ret ?_) fun h=>T.pos (aW (by omega) (by omega)) (hr (by rw[sq,if_neg h]))
  have he:sq p a=(81,a.at_):=by rw[sq,if_pos h]
  rw[he]at hx
  exact hx (show(81:Int)≠0 by decide)
 ·exact T.neg (by omega) (T.ret hf)
theorem Z9 {p:aj}(hp:dX p)(hb:bP p=true):T (fun n _=>Jh n p) (·=xI p):=by
 simp only[Jh]
 refine T.bind (aiS hb) fun x hx=>?_
 subst hx
 refine T.ite (fun g=>T.ret (by rw[xI,cX,if_pos g])) fun g=>T.bind (T.dg (Z7 hp)) fun o ho=>?_
 have he:xI p=cX (aJ (fun _ m=>aJ (fun _=>lU p m) 0 m.methods.l) 0 p.aw.l) (aJ (fun _=>sq p) 0 p.aR.l):=by rw[xI,cX,if_neg g]
 rw[he]
 cases o with
 | r b=>exact T.ret (pH ⟨ho,by decide⟩).symm
 | e0 _=>
  rw[om ho]
  refine T.bind (T.dg (Z6 hp hb)) fun o ho=>?_
  cases o with
  | r b=>exact T.ret (Eq.symm ho)
  | e4 _=>exact T.ret (Eq.symm ho)
def hasB (l:List ByteArray)(s:ByteArray):Bool:=l.any fun x=>decide (x=s)
theorem Sw {l:Sl ByteArray}(hl:l.l.length≤100000)(s:ByteArray):T (fun n _=>rS n l s) (·=hasB l.l s):=by
 have hL:T (fun n k=>Ar l s n k 0) (fun o=>match o with | .r=>hasB l.l s=true | .e0 _=>hasB l.l s=false):=by
  refine T.any (l:=l.l) (fun i n k=>Ar l s n k i) (fun a=>decide (a=s)) (fun j a ha hb _=>?_) (fun j a ha hb rec=>?_) (fun hf=>?_)
  all_goals simp only[Ar]
  ·have hj:=(List.getElem?_eq_some_iff.1 ha).1
   exact T.pos (by omega) (T.nat ha (T.pos (by simpa using hb) (T.ret (List.any_eq_true.2 ⟨a,List.mem_of_getElem? ha,hb⟩))))
  ·have hj:=(List.getElem?_eq_some_iff.1 ha).1
   exact T.pos (by omega) (T.nat ha (T.neg (by simpa using hb) (T.pos (aW (by omega) (by omega)) rec)))
  ·refine T.neg (by omega) (T.ret (Bool.eq_false_iff.2 fun h=>?_))
   obtain⟨x,h1,h2⟩:=List.any_eq_true.1 h
   rw[hf x h1]at h2;cases h2
 simp only[rS]
 refine T.bind (T.dg hL) fun o ho=>?_
 cases o with
 | r=>exact T.ret (Eq.symm ho)
 | e0 v=>exact T.ret (Eq.symm ho)
def jr:au->List au:=au.fold fun e bs=>(if e.op=4 then[e]else[])++bs.flatten
theorem HN (e:au):jr e=(if e.op=4 then[e]else[])++e.kids.l.flatMap jr:=by rw[jr,au.fold_eq];rfl
theorem W3:∀e:au,(jr e).length≤kS e:=au.eZ fun e ih=>by
 rw[HN,Oy,List.length_append,List.length_flatMap]
 have:=wm ih
 split<;>simp<;>omega
theorem W4 {e:au}(hl:e.kids.l.length≤300)(hw:kS e≤300)(ih:∀k∈e.kids.l,T (fun n _=>mJ n k) (·=jr k)){a:List au}(ha:a.length≤1):T (fun n k=>xe (mJ n) e n k a 0) (fun o=>match o with | .e0 b _=>b=a++e.kids.l.flatMap jr):=by
 refine T.count (fun j v n k=>xe (mJ n) e n k v j) e.kids.l.length (fun j v=>v=a++(e.kids.l.take j).flatMap jr) (fun j v hj hI rec=>?_) (fun v hI=>?_) 0 a (by omega) (by simp)
 all_goals simp only[xe];subst hI
 ·have hg:e.kids.l[j]? =some e.kids.l[j]:=List.getElem?_eq_getElem hj
  have he:(a++(e.kids.l.take j).flatMap jr)++jr e.kids.l[j]=a++(e.kids.l.take (j+1)).flatMap jr:=by rw[eQ hg,List.flatMap_append,List.append_assoc,List.flatMap_cons,List.flatMap_nil,List.append_nil]
  refine T.pos (by omega) (T.nat hg (T.bind (ih _ (List.getElem_mem hj)) fun x hx=>?_))
  subst hx
  refine T.pos (room (by omega) ?_) (T.pos (aW (by omega) (by omega)) (rec _ he))
  rw[he]
  have h1:=W3 e
  rw[HN,List.length_append]at h1
  have h2:((e.kids.l.take (j+1)).flatMap jr).length≤(e.kids.l.flatMap jr).length:=by
   conv=>rhs;rw[←List.take_append_drop (j+1) e.kids.l,List.flatMap_append,List.length_append]
   omega
  rw[List.length_append];omega
 ·exact T.neg (by omega) (T.ret (by rw[List.take_length]))
theorem ah8 {e k:au}(h:k∈e.kids.l):kS k<kS e:=by
 rw[Oy e]
 have:=rz (f:=kS) h
 omega
theorem ajp:∀e:au,bE e=true->kS e≤300->T (fun n _=>mJ n e) (·=jr e):=au.eZ fun e ih hb hw=>by
 obtain⟨hl,hk⟩:=qn hb
 have qY:∀k∈e.kids.l,T (fun n _=>mJ n k) (·=jr k):=fun k hm=>ih k hm (hk k hm) (by have:=ah8 hm;omega)
 refine T.n1 ?_
 simp only[mJ]
 refine T.ite (fun g=>T.pos (room (by omega) (by simp)) (T.bind (T.dg (W4 hl hw qY (by simp))) fun o ho=>?_)) fun g=>T.bind (T.dg (W4 hl hw qY (by simp))) fun o ho=>?_
 ·cases o with
  | e0 b _=>exact T.ret (by rw[HN,if_pos g];exact ho)
 ·cases o with
  | e0 b _=>exact T.ret (by rw[HN,if_neg g];exact ho)
end Go.Vig
namespace Go.Vig
open Go Go.Abs
variable [Kn]
def uw (k:Int):Prop:=k=2∨k=9∨k=10∨k=11
instance (k:Int):Decidable (uw k):=by unfold uw;infer_instance
def vN (owned:List ByteArray)(v:au):Int×Int:=if hasB owned v.mon=false then(90,v.at_)else(0,0)
def pD (v:au)(t:af):Int×Int:=if t.kind=9∧t.mon≠v.mon then(91,v.at_)else(0,0)
def pE (s:af)(v:au):Int×Int:=aJ (fun _ (b:Sl af)=>aJ (fun _=>pD v) 0 b.l) 0 s.blocks.l
def yP (s:af)(owned:List ByteArray):Int×Int:=
 if uw s.kind∧hasB owned s.mon=false then(90,s.at_)
 else cX (aJ (fun _=>vN owned) 0 (jr s.e_)) (if s.kind=3∨s.kind=4 then aJ (fun _=>pE s) 0 (jr s.e_)else(0,0))
theorem aeH {owned:Sl ByteArray}(ho:owned.l.length≤100000){l:List au}(hl:l.length≤300):T (fun n k=>Au owned l n k 0) (fun o=>match o with | .r b=>aJ (fun _=>vN owned.l) 0 l=(90,b) | .e0 _=>aJ (fun _=>vN owned.l) 0 l=(0,0)):=by
 refine T.fe (l:=l) (fun j n k=>Au owned l n k j) (fun _=>vN owned.l) (fun j a ha hj hr hx=>?_) (fun hf=>?_)
 all_goals simp only[Au]
 ·refine T.pos (by omega) (T.nat ha (T.bind (Sw ho _) fun x bN=>?_))
  subst bN
  refine T.cond (fun h=>T.pos (aW (by omega) (by omega)) (hr (by rw[vN,h];rfl))) fun h=>T.ret ?_
  have he:vN owned.l a=(90,a.at_):=by rw[vN,if_pos h]
  rw[he]at hx
  exact hx (show(90:Int)≠0 by decide)
 ·exact T.neg (by omega) (T.ret hf)
theorem aeG {s:af}{l:List au}{v:au}{i j:Nat}(hv:l[i]? =some v){b:Sl af}(hb:s.blocks.l[j]? =some b)(hl:b.l.length≤300):T (fun n k=>At s l (i:Int) (j:Int) n k 0) (fun o=>match o with | .r a=>aJ (fun _=>pD v) 0 b.l=(91,a) | .e6 _=>aJ (fun _=>pD v) 0 b.l=(0,0)):=by
 refine T.fe (l:=b.l) (fun m n k=>At s l (i:Int) (j:Int) n k m) (fun _=>pD v) (fun m a ha hj hr hx=>?_) (fun hf=>?_)
 all_goals simp only[At]
 ·refine T.nat hb (T.pos (by omega) (T.bind (P:=fun o=>o= .m (decide (a.kind=9∧a.mon≠v.mon))) ?_ fun o ho=>?_))
  ·simp only[PB]
   refine T.nat hb (T.nat ha (T.ite (fun g=>T.nat hv (T.ite (fun g2=>T.ret ?_) fun g2=>T.ret ?_)) fun g=>T.ret ?_))
   ·rw[decide_eq_false (fun h=>h.2 g2)]
   ·rw[decide_eq_true ⟨g,g2⟩]
   ·rw[decide_eq_false (fun h=>g h.1)]
  ·subst ho
   refine T.cond (fun h=>T.nat hv (T.ret ?_)) fun h=>T.pos (aW (by omega) (by omega)) (hr ?_)
   ·have he:pD v a=(91,v.at_):=by rw[pD,if_pos (of_decide_eq_true h)]
    rw[he]at hx
    exact hx (show(91:Int)≠0 by decide)
   ·rw[pD,if_neg (of_decide_eq_false h)]
 ·exact T.nat hb (T.neg (by omega) (T.ret hf))
theorem aeF {s:af}(hs:bS s=true){l:List au}{v:au}{i:Nat}(hv:l[i]? =some v):T (fun n k=>As s l (i:Int) n k 0) (fun o=>match o with | .r a=>pE s v=(91,a) | .e4 _=>pE s v=(0,0)):=by
 obtain⟨h1,_,h3⟩:=iF hs
 refine T.fe (l:=s.blocks.l) (fun m n k=>As s l (i:Int) n k m) (fun _ (b:Sl af)=>aJ (fun _=>pD v) 0 b.l) (fun m a ha hj hr hx=>?_) (fun hf=>?_)
 all_goals simp only[As]
 ·refine T.pos (by omega) (T.bind (T.dg (aeG hv ha (fY (h3 a (List.mem_of_getElem? ha))).1)) fun o ho=>?_)
  cases o with
  | r x=>have ho:aJ (fun _=>pD v) 0 a.l=(91,x):=ho;exact T.ret (show pE s v=(91,x) from ho▸hx (by rw[ho];exact(by decide:(91:Int)≠0)))
  | e6 _=>have ho:aJ (fun _=>pD v) 0 a.l=(0,0):=ho;exact T.pos (aW (by omega) (by omega)) (hr (by rw[ho]))
 ·exact T.neg (by omega) (T.ret hf)
theorem aeE {s:af}(hs:bS s=true){l:List au}(hl:l.length≤300):T (fun n k=>uh s l n k 0) (fun o=>match o with | .r a=>aJ (fun _=>pE s) 0 l=(91,a) | .e2 _=>aJ (fun _=>pE s) 0 l=(0,0)):=by
 refine T.fe (l:=l) (fun m n k=>uh s l n k m) (fun _=>pE s) (fun m a ha hj hr hx=>?_) (fun hf=>?_)
 all_goals simp only[uh]
 ·refine T.pos (by omega) (T.bind (T.dg (aeF hs ha)) fun o ho=>?_)
  cases o with
  | r x=>have ho:pE s a=(91,x):=ho;exact T.ret (show aJ _ 0 l=(91,x) from ho▸hx (by rw[ho];exact(by decide:(91:Int)≠0)))
  | e4 _=>have ho:pE s a=(0,0):=ho;exact T.pos (aW (by omega) (by omega)) (hr (by rw[ho]))
 ·exact T.neg (by omega) (T.ret hf)
theorem aeI {s:af}(hs:bS s=true)(hw:wS s≤300){owned:Sl ByteArray}(ho:owned.l.length≤100000):T (fun n _=>JH n s owned) (·=yP s owned.l):=by
 have Tf:kS s.e_≤300:=by rw[xj]at hw;omega
 have iN:(jr s.e_).length≤300:=Nat.le_trans (W3 _) Tf
 simp only[JH]
 refine T.bind (P:=fun o=>o= .m (decide (uw s.kind∧hasB owned.l s.mon=false))) ?_ fun o h=>?_
 ·simp only[PA]
  have hh:uw s.kind->T (fun n (_:Nat)=>(rS n owned s.mon).bind fun x=>bif x then some (D8.m false)else some (.m true)) (fun o=>o= .m (decide (uw s.kind∧hasB owned.l s.mon=false))):=fun g=>T.bind (Sw ho _) fun x hx=>by
   subst hx
   refine T.cond (fun h=>T.ret ?_) fun h=>T.ret ?_
   ·rw[decide_eq_false (fun h2=>by rw[h]at h2;cases h2.2)]
   ·rw[decide_eq_true ⟨g,h⟩]
  refine T.ite (fun g=>hh (.inl g)) fun g=>T.ite (fun g2=>hh (.inr (.inl g2))) fun g2=>T.ite (fun g3=>hh (.inr (.inr (.inl g3)))) fun g3=>T.ite (fun g4=>hh (.inr (.inr (.inr g4)))) fun g4=>T.ret ?_
  rw[decide_eq_false (fun h=>by unfold uw at h;omega)]
 subst h
 refine T.cond (fun h=>T.ret ?_) fun h=>T.bind (ajp _ (iF hs).2.1 Tf) fun x hx=>?_
 ·rw[yP,if_pos (of_decide_eq_true h)]
 subst hx
 rw[yP,if_neg (of_decide_eq_false h)]
 refine T.bind (T.dg (aeH ho iN)) fun o h1=>?_
 cases o with
 | r b=>exact T.ret (pH ⟨h1,by decide⟩).symm
 | e0 _=>
  rw[om h1]
  have hp:s.kind=3∨s.kind=4->T (fun n (_:Nat)=>(uh s (jr s.e_) n n 0).bind fun iv=>match iv with | .r mF=>some ((91:Int),mF) | .e2 dC=>some (0,0)) (·=if s.kind=3∨s.kind=4 then aJ (fun _=>pE s) 0 (jr s.e_)else(0,0)):=fun g=>by
   rw[if_pos g]
   refine T.bind (T.dg (aeE hs iN)) fun o h2=>?_
   cases o with
   | r b=>exact T.ret (Eq.symm h2)
   | e2 _=>exact T.ret (Eq.symm h2)
  exact T.ite (fun g=>T.ite (fun g2=>T.ret (by rw[if_neg (by omega)])) fun g2=>hp (.inr (by simpa using g2))) fun g=>hp (.inl (by simpa using g))
def rf (s:af)(owned:List ByteArray):List ByteArray:=if s.kind=7 then owned++[s.mon]else owned
def yR:af->List ByteArray->Int×Int:=af.fold fun s bs owned=>cX (yP s owned) (aJ (fun _ b=>aJ (fun _ f=>f (rf s owned)) 0 b) 0 bs)
def fi (l:List af)(owned:List ByteArray):Int×Int:=aJ (fun _ s=>yR s owned) 0 l
theorem Uo (s:af)(owned:List ByteArray):yR s owned=cX (yP s owned) (aJ (fun _ b=>fi b.l (rf s owned)) 0 s.blocks.l):=by
 rw[yR,af.fold_eq,oX (c:=fun b:List (List ByteArray->Int×Int)=>aJ (fun _ f=>f (rf s owned)) 0 b)]
 congr 2
 funext _ b
 exact oX (c:=fun f:List ByteArray->Int×Int=>f (rf s owned))
def xB (b:Sl af):Prop:=∀owned:Sl ByteArray,owned.l.length+cG b.l≤1000->T (fun n _=>kW n b owned) (·=fi b.l owned.l)
theorem af0 {s:af}(hl:s.blocks.l.length≤40)(ih:∀b∈s.blocks.l,xB b){owned:Sl ByteArray}(ho:owned.l.length+wS s≤1000):T (fun n k=>Ap (kW n) owned s n k 0) (fun o=>match o with | .r a b=>aJ (fun _ b=>fi b.l (owned.l++[s.mon])) 0 s.blocks.l=(a,b)∧a≠0 | .e2 _=>aJ (fun _ b=>fi b.l (owned.l++[s.mon])) 0 s.blocks.l=(0,0)):=by
 refine T.fe (l:=s.blocks.l) (fun m n k=>Ap (kW n) owned s n k m) (fun _ (b:Sl af)=>fi b.l (owned.l++[s.mon])) (fun m a ha hj hr hx=>?_) (fun hf=>?_)
 all_goals simp only[Ap,List.nil_append]
 ·have hm:=List.mem_of_getElem? ha
  have:=Ka hm
  refine T.pos (by omega) (T.nat ha (T.bind (ih a hm ⟨false,false,owned.l++[s.mon]⟩ (by simp;omega)) fun x bN=>?_))
  subst bN
  exact T.ite (fun h=>T.ret ⟨hx h,h⟩) fun h=>T.pos (aW (by omega) (by omega)) (hr (by simpa using h))
 ·exact T.neg (by omega) (T.ret hf)
theorem af1 {s:af}(hl:s.blocks.l.length≤40)(ih:∀b∈s.blocks.l,xB b){owned:Sl ByteArray}(ho:owned.l.length+wS s≤1000):T (fun n k=>Aq (kW n) owned s n k 0) (fun o=>match o with | .r a b=>aJ (fun _ b=>fi b.l owned.l) 0 s.blocks.l=(a,b)∧a≠0 | .e2 _=>aJ (fun _ b=>fi b.l owned.l) 0 s.blocks.l=(0,0)):=by
 refine T.fe (l:=s.blocks.l) (fun m n k=>Aq (kW n) owned s n k m) (fun _ (b:Sl af)=>fi b.l owned.l) (fun m a ha hj hr hx=>?_) (fun hf=>?_)
 all_goals simp only[Aq]
 ·have hm:=List.mem_of_getElem? ha
  have:=Ka hm
  refine T.pos (by omega) (T.nat ha (T.bind (ih a hm owned (by omega)) fun x bN=>?_))
  subst bN
  exact T.ite (fun h=>T.ret ⟨hx h,h⟩) fun h=>T.pos (aW (by omega) (by omega)) (hr (by simpa using h))
 ·exact T.neg (by omega) (T.ret hf)
theorem U4 {l:Sl af}(hb:dh l.l=true)(hw:cG l.l≤300)(ih:∀s∈l.l,∀b∈s.blocks.l,xB b):xB l:=fun owned ho=>by
 obtain⟨hl,eb⟩:=fY hb
 have hL:T (fun n k=>xd (kW n) l owned n k 0) (fun o=>match o with | .r a b _=>fi l.l owned.l=(a,b)∧a≠0 | .e0 _=>fi l.l owned.l=(0,0)):=by
  refine T.fe (l:=l.l) (fun m n k=>xd (kW n) l owned n k m) (fun _ s=>yR s owned.l) (fun m a ha hj hr hx=>?_) (fun hf=>?_)
  all_goals simp only[xd,List.nil_append]
  ·have hm:=List.mem_of_getElem? ha
   have FX:=AH hm
   refine T.pos (by omega) (T.nat ha (T.bind (aeI (eb a hm) (by omega) (by omega)) fun x bN=>?_))
   subst bN
   refine T.ite (fun g=>T.ret ?_) fun g=>?_
   ·have he:yR a owned.l=yP a owned.l:=by rw[Uo,cX,if_pos g]
    rw[he]at hx
    exact⟨hx g,g⟩
   ·have he:yR a owned.l=aJ (fun _ b=>fi b.l (rf a owned.l)) 0 a.blocks.l:=by rw[Uo,cX,if_neg g]
    rw[he]at hx hr
    refine T.ite (fun g2=>T.pos (room (by omega) (by omega)) (T.pos (room (by omega) (by simp;omega)) (T.bind (T.dg (af0 (iF (eb a hm)).1 (ih a hm) (by omega))) fun o ho=>?_))) fun g2=>T.bind (T.dg (af1 (iF (eb a hm)).1 (ih a hm) (by omega))) fun o ho=>?_
    ·have ye:rf a owned.l=owned.l++[a.mon]:=by rw[rf,if_pos g2]
     rw[ye]at hx hr
     cases o with
     | r x y=>exact T.ret ⟨show fi l.l owned.l=(x,y) from ho.1▸hx (by rw[ho.1];exact ho.2),ho.2⟩
     | e2 _=>exact T.pos (aW (by omega) (by omega)) (hr (by rw[show aJ _ 0 a.blocks.l=(0,0) from ho]))
    ·have ye:rf a owned.l=owned.l:=by rw[rf,if_neg g2]
     rw[ye]at hx hr
     cases o with
     | r x y=>exact T.ret ⟨show fi l.l owned.l=(x,y) from ho.1▸hx (by rw[ho.1];exact ho.2),ho.2⟩
     | e2 _=>exact T.pos (aW (by omega) (by omega)) (hr (by rw[show aJ _ 0 a.blocks.l=(0,0) from ho]))
  ·exact T.neg (by omega) (T.ret hf)
 refine T.n1 ?_
 simp only[kW]
 refine T.bind (T.dg hL) fun o ho=>?_
 cases o with
 | r a b s=>exact T.ret ho.1.symm
 | e0 v=>exact T.ret (Eq.symm ho)
theorem af2:∀s:af,bS s=true->wS s≤300->∀b∈s.blocks.l,xB b:=af.eZ fun s ih hb hw b hm=>by
 have h4:=(iF hb).2.2 b hm
 have h5:=Ka hm
 exact U4 h4 (by omega) fun t ht=>ih b hm t ht ((fY h4).2 t ht) (by have:=AH ht;omega)
theorem U5 (l:Sl af)(hb:dh l.l=true)(hw:cG l.l≤300):xB l:=
 U4 hb hw fun t ht=>af2 t ((fY hb).2 t ht) (by have:=AH ht;omega)
noncomputable def tt (p:aj):Int×Int:=cX (xI p) (cX (aJ (fun _ m=>aJ (fun _ (me:dW)=>fi me.body.l [m.name]) 0 m.methods.l) 0 p.aw.l) (aJ (fun _ (r:aO)=>fi r.body.l []) 0 p.aR.l))
theorem aeX {p:aj}(hb:bP p=true)(hp:dX p){i:Nat}{m:aH}(hm:p.aw.l[i]? =some m):T (fun n k=>Ao p (i:Int) n k 0) (fun o=>match o with | .r a b=>aJ (fun _ (me:dW)=>fi me.body.l [m.name]) 0 m.methods.l=(a,b)∧a≠0 | .e2 _=>aJ (fun _ (me:dW)=>fi me.body.l [m.name]) 0 m.methods.l=(0,0)):=by
 obtain⟨h1,h2,h3,h4⟩:=j5 hb
 have B1:=List.mem_of_getElem? hm
 obtain⟨g1,g2,_,_,g3⟩:=so (h3 m B1)
 have hw:=hp.w
 refine T.fe (l:=m.methods.l) (fun j n k=>Ao p (i:Int) n k j) (fun _ me=>fi me.body.l [m.name]) (fun j a ha hj hr hx=>?_) (fun hf=>?_)
 all_goals simp only[Ao]
 ·have FX:cG a.body.l≤300:=by
   have h5:=rz (f:=fun me:dW=>cG me.body.l) (List.mem_of_getElem? ha)
   have h6:=rz (f:=oE) B1
   unfold oE at h6
   unfold wP oE at hw
   omega
  refine T.nat hm (T.pos (by omega) (T.nat ha (T.bind (U5 a.body (g3 a (List.mem_of_getElem? ha)).2 FX ⟨false,true,[m.name]⟩ (by simp;omega)) fun x bN=>?_)))
  subst bN
  exact T.ite (fun h=>T.ret ⟨hx h,h⟩) fun h=>T.pos (aW (by omega) (by omega)) (hr (by simpa using h))
 ·exact T.nat hm (T.neg (by omega) (T.ret hf))
theorem aeW {p:aj}(hb:bP p=true)(hp:dX p):T (fun n k=>Am p n k 0) (fun o=>match o with | .r a b=>aJ (fun _ m=>aJ (fun _ (me:dW)=>fi me.body.l [m.name]) 0 m.methods.l) 0 p.aw.l=(a,b)∧a≠0 | .e0 _=>aJ (fun _ m=>aJ (fun _ (me:dW)=>fi me.body.l [m.name]) 0 m.methods.l) 0 p.aw.l=(0,0)):=by
 have hl:=hp.ga.1
 refine T.fe (l:=p.aw.l) (fun j n k=>Am p n k j) (fun _ (m:aH)=>aJ (fun _ (me:dW)=>fi me.body.l [m.name]) 0 m.methods.l) (fun j a ha hj hr hx=>?_) (fun hf=>?_)
 all_goals simp only[Am]
 ·refine T.pos (by omega) (T.bind (T.dg (aeX hb hp ha)) fun o ho=>?_)
  cases o with
  | r x y=>exact T.ret ⟨show aJ _ 0 p.aw.l=(x,y) from ho.1▸hx (by rw[ho.1];exact ho.2),ho.2⟩
  | e2 v=>exact T.pos (aW (by omega) (by omega)) (hr (by rw[show aJ _ 0 a.methods.l=(0,0) from ho]))
 ·exact T.neg (by omega) (T.ret hf)
theorem UY {p:aj}(hp:dX p){r:aO}(h:r∈p.aR.l):cG r.body.l≤300:=by
 have hw:=hp.w
 have:=rz (f:=fun r:aO=>cG r.body.l) h
 unfold wP at hw;omega
theorem aeV {p:aj}(hb:bP p=true)(hp:dX p):T (fun n k=>Al p n k 0) (fun o=>match o with | .r a b=>aJ (fun _ (r:aO)=>fi r.body.l []) 0 p.aR.l=(a,b)∧a≠0 | .e4 _=>aJ (fun _ (r:aO)=>fi r.body.l []) 0 p.aR.l=(0,0)):=by
 obtain⟨_,h2,_,h4⟩:=j5 hb
 refine T.fe (l:=p.aR.l) (fun j n k=>Al p n k j) (fun _ r=>fi r.body.l []) (fun j a ha hj hr hx=>?_) (fun hf=>?_)
 all_goals simp only[Al]
 ·have hm:=List.mem_of_getElem? ha
  have:=UY hp hm
  refine T.pos (by omega) (T.nat ha (T.bind (U5 a.body (h4 a hm).2 this Sl.nil (by simp[Sl.nil];omega)) fun x bN=>?_))
  subst bN
  exact T.ite (fun h=>T.ret ⟨hx h,h⟩) fun h=>T.pos (aW (by omega) (by omega)) (hr (Decidable.not_not.1 h))
 ·exact T.neg (by omega) (T.ret hf)
theorem aeY {p:aj}(hb:bP p=true)(hp:dX p):T (fun n _=>Jx n p) (·=tt p):=by
 simp only[Jx]
 refine T.bind (Z9 hp hb) fun x hx=>?_
 subst hx
 refine T.ite (fun g=>T.ret (by rw[tt,cX,if_pos g])) fun g=>T.bind (T.dg (aeW hb hp)) fun o ho=>?_
 have he:tt p=cX (aJ (fun _ m=>aJ (fun _ (me:dW)=>fi me.body.l [m.name]) 0 m.methods.l) 0 p.aw.l) (aJ (fun _ (r:aO)=>fi r.body.l []) 0 p.aR.l):=by rw[tt,cX,if_neg g]
 rw[he]
 cases o with
 | r a b=>exact T.ret (pH ho).symm
 | e0 _=>
  rw[om ho]
  refine T.bind (T.dg (aeV hb hp)) fun o ho=>?_
  cases o with
  | r a b=>exact T.ret ho.1.symm
  | e4 _=>exact T.ret (Eq.symm ho)
end Go.Vig
