/-
  Part of the proof: printed by the session's own program out of the program's form, or typed; it states no claim by itself.
-/
import Derived.Test.YtpadajnejknkeaaGreatVh
set_option linter.unusedVariables false
set_option linter.unusedSimpArgs false
set_option linter.unusedSectionVars false
set_option maxRecDepth 100000
namespace Go.Vig
open Go Go.Abs
variable [Kn]
def dw (fs:List aN):Nat:=(fs.filter fun f=>f.star).length
def nh (fs:List aN):Nat:=(fs.filter fun f=> !f.star).length
theorem Oh {fs:List aN}{j:Nat}{f:aN}(h:fs[j]? =some f):dw (fs.take (j+1))=dw (fs.take j)+(if f.star=true then 1 else 0):=by
 rw[dw,eQ h,List.filter_append,List.length_append]
 cases hs:f.star<;>simp[hs,dw]
theorem Uk {fs:List aN}{j:Nat}{f:aN}(h:fs[j]? =some f):nh (fs.take (j+1))=nh (fs.take j)+(if f.star=true then 0 else 1):=by
 rw[nh,eQ h,List.filter_append,List.length_append]
 cases hs:f.star<;>simp[hs,nh]
theorem Vv (fs:List aN):dw fs≤fs.length:=List.length_filter_le _ _
theorem Uj (fs:List aN):nh fs≤fs.length:=List.length_filter_le _ _
theorem agT {fs:List aN}(j:Nat):dw (fs.take j)≤dw fs:=by
 conv=>rhs;rw[←List.take_append_drop j fs,dw,List.filter_append,List.length_append]
 show _≤dw _+_
 omega
def ze (i:Nat)(f:aN):ah:={ role:=(i:Int),state:=if eK f 0=[]then 3 else 0}
def uI (cs:List Int)(k:Nat)(f:aN):Nat:=if f.star=true then((cs[k]?).getD 0).toNat else 1
def tP (cs:List Int):Nat->Nat->List aN->List ah
 | _,_,[]=>[]
 | i,k,f::fs=>List.replicate (uI cs k f) (ze i f)++tP cs (i+1) (if f.star=true then k+1 else k) fs
def M1 (p:aj):List Int:=(cu p).map (·.init)
def Fk (s:aT)(cs:List Int):bo×Int:=
 if cs.length≠dw s.bc.l then({},2)
 else if(cs.all fun c=>decide (0≤c))=false then({},2)
 else if(cs.all fun c=>decide (c≤40))=false∨(nh s.bc.l:Int)+cs.sum>40 then({},6)
 else({ threads:=Sl.gr (tP cs 0 0 s.bc.l),aZ:=Sl.gr (List.replicate s.p.aw.l.length lb),aB:=Sl.gr (M1 s.p)},0)
theorem acH {p:aj}(hf:dI p):T (fun n _=>JO n p) (·=M1 p):=by
 have il:=Dh hf
 simp only[JO]
 refine T.bind (GU hf) fun x hx=>?_
 subst hx
 have hL:T (fun n k=>Av (cu p) n k [] 0) (fun o=>match o with | .e0 v _=>v=M1 p):=by
  refine T.count (fun j v n k=>Av (cu p) n k v j) (cu p).length (fun j v=>v=((cu p).take j).map (·.init)) (fun j v hj hI rec=>?_) (fun v hI=>?_) 0 [] (by omega) (by simp)
  all_goals simp only[Av];subst hI
  ·have hg:(cu p)[j]? =some (cu p)[j]:=List.getElem?_eq_getElem hj
   refine T.pos (by omega) (T.nat hg (T.pos (room (by omega) (by simp;omega)) (T.pos (aW (by omega) (by omega)) (rec _ ?_))))
   rw[eQ hg,List.map_append];rfl
  ·exact T.neg (by omega) (T.ret (by rw[List.take_length];rfl))
 refine T.bind (T.dg hL) fun o ho=>?_
 cases o with
 | e0 v _=>exact T.ret ho
theorem UN {f:aN}(hl:f.aU.l.length≤1000000)(loc:Int):T (fun n _=>Ea n f loc) (·=eK f loc):=by
 have hL:T (fun n k=>xf f loc n k [] 0) (fun o=>match o with | .e0 v _=>v=eK f loc):=by
  refine T.count (fun j v n k=>xf f loc n k v j) f.aU.l.length (fun j v=>v=lz loc 0 (f.aU.l.take j)) (fun j v hj hI rec=>?_) (fun v hI=>?_) 0 [] (by omega) rfl
  all_goals simp only[xf];subst hI
  ·have hg:f.aU.l[j]? =some f.aU.l[j]:=List.getElem?_eq_getElem hj
   have hlen:=NQ (loc:=loc) (l:=f.aU.l.take j) (i:=0)
   rw[List.length_take]at hlen
   refine T.pos (by omega) (T.nat hg (T.ite (fun g=>T.pos (room (by omega) (by simp;omega)) (T.pos (aW (by omega) (by omega)) (rec _ ?_))) fun g=>T.pos (aW (by omega) (by omega)) (rec _ ?_)))
   ·rw[C2 hg,if_pos g,Nat.zero_add]
   ·rw[C2 hg,if_neg g,List.append_nil]
  ·exact T.neg (by omega) (T.ret (by rw[List.take_length];rfl))
 simp only[Ea]
 refine T.bind (T.dg hL) fun o ho=>?_
 cases o with
 | e0 v _=>exact T.ret ho
section
variable {s:aT} (hs:hG s)
include hs
theorem abE:T (fun n k=>xh s n k 0 0 0) (fun o=>match o with | .e0 a b _=>a=(dw s.bc.l:Int)∧b=(nh s.bc.l:Int)):=by
 have Mz:=hs.nf
 refine T.count (fun j (v:Int×Int) n k=>xh s n k v.1 v.2 j) s.bc.l.length (fun j v=>v=((dw (s.bc.l.take j):Int),(nh (s.bc.l.take j):Int))) (fun j v hj hI rec=>?_) (fun v hI=>?_) 0 (0,0) (by omega) (by simp[dw,nh])
 all_goals simp only[xh];subst hI
 ·have hg:s.bc.l[j]? =some s.bc.l[j]:=List.getElem?_eq_getElem hj
  have h1:=Vv (s.bc.l.take j)
  have h2:=Uj (s.bc.l.take j)
  rw[List.length_take]at h1 h2
  refine T.pos (by omega) (T.nat hg (T.ite (fun g=>T.pos (aW (by omega) (by omega)) (T.pos (aW (by omega) (by omega)) (rec ((dw (s.bc.l.take j):Int)+1,(nh (s.bc.l.take j):Int)) ?_))) fun g=>T.pos (aW (by omega) (by omega)) (T.pos (aW (by omega) (by omega)) (rec ((dw (s.bc.l.take j):Int),(nh (s.bc.l.take j):Int)+1) ?_))))
  ·rw[Oh hg,Uk hg,if_pos g,if_pos g];simp
  ·rw[Oh hg,Uk hg,if_neg g,if_neg g];simp
 ·exact T.neg (by omega) (T.ret (by rw[List.take_length];exact⟨rfl,rfl⟩))
omit hs in
theorem abB {cs:Sl Int}(hl:cs.l.length≤1000):T (fun n k=>Az cs (cs.l.length:Int) n k 0) (fun o=>match o with | .r=>(cs.l.all fun c=>decide (0≤c))=false | .e2 _=>(cs.l.all fun c=>decide (0≤c))=true):=by
 refine T.lP (l:=cs.l) (fun i n k=>Az cs (cs.l.length:Int) n k i) (fun c=>decide (0≤c)) (fun j a ha hj hr hx=>?_) (fun hf=>?_)
 all_goals simp only[Az]
 ·exact T.pos (by omega) (T.nat ha (T.ite (fun g=>T.ret (hx (decide_eq_false (by omega)))) fun g=>T.pos (aW (by omega) (by omega)) (hr (decide_eq_true (by omega)))))
 ·exact T.neg (by omega) (T.ret hf)
omit hs in
theorem abC {cs:Sl Int}(hl:cs.l.length≤1000)(h0:∀c∈cs.l,0≤c){b:Int}(hb0:0≤b)(hb:b≤1000):T (fun n k=>AA cs (cs.l.length:Int) n k b 0) (fun o=>match o with | .r=>(cs.l.all fun c=>decide (c≤40))=false | .e4 v _=>(cs.l.all fun c=>decide (c≤40))=true∧v=b+cs.l.sum):=by
 refine T.count (fun i v n k=>AA cs (cs.l.length:Int) n k v i) cs.l.length (fun j v=>(∀c∈cs.l.take j,c≤40)∧v=b+(cs.l.take j).sum∧0≤v∧v≤1000+40 * (j:Int)) (fun j v hj hI rec=>?_) (fun v hI=>?_) 0 b (by omega) ⟨by simp,by simp,by omega,by omega⟩
 all_goals simp only[AA]
 ·obtain⟨i1,i2,i3,i4⟩:=hI
  have hg:cs.l[j]? =some cs.l[j]:=List.getElem?_eq_getElem hj
  have hc:=h0 _ (List.getElem_mem hj)
  refine T.pos (by omega) (T.nat hg (T.ite (fun g=>T.ret ?_) fun g=>T.pos (aW (by omega) (by omega)) (T.pos (aW (by omega) (by omega)) (rec _ ⟨fun c BI=>((kT hg).1 BI).elim (i1 c) fun q=>by omega,?_,by omega,by omega⟩))))
  ·refine Bool.eq_false_iff.2 fun h=>?_
   have:=of_decide_eq_true (List.all_eq_true.1 h _ (List.getElem_mem hj))
   omega
  ·rw[eQ hg,List.sum_append,i2];simp;omega
 ·obtain⟨i1,i2,i3,i4⟩:=hI
  rw[List.take_length]at i1 i2
  exact T.neg (by omega) (T.ret ⟨List.all_eq_true.2 fun c hc=>decide_eq_true (i1 c hc),i2⟩)
end
theorem aaN {x:List Int}{i c:Int}(h0:0≤c)(h1:c≤40){a:List ah}(ha:a.length≤100000):T (fun n k=>AB x i c n k 0 a) (fun o=>match o with | .e8 _ v=>v=a++List.replicate c.toNat ({ role:=i,state:=3}:ah)):=by
 refine T.count (fun j v n k=>AB x i c n k j v) c.toNat (fun j v=>v=a++List.replicate j ({ role:=i,state:=3}:ah)) (fun j v hj hI rec=>?_) (fun v hI=>?_) 0 a (by omega) (by simp)
 all_goals simp only[AB];subst hI
 ·exact T.pos (by omega) (T.pos (room (by omega) (by simp;omega)) (T.pos (aW (by omega) (by omega)) (rec _ (by rw[List.replicate_succ',List.append_assoc]))))
 ·exact T.neg (by omega) (T.ret rfl)
theorem aaO {x:List Int}{i c:Int}(h0:0≤c)(h1:c≤40){a:List ah}(ha:a.length≤100000):T (fun n k=>AD x i c n k 0 a) (fun o=>match o with | .e8 _ v=>v=a++List.replicate c.toNat ({ role:=i}:ah)):=by
 refine T.count (fun j v n k=>AD x i c n k j v) c.toNat (fun j v=>v=a++List.replicate j ({ role:=i}:ah)) (fun j v hj hI rec=>?_) (fun v hI=>?_) 0 a (by omega) (by simp)
 all_goals simp only[AD];subst hI
 ·exact T.pos (by omega) (T.pos (room (by omega) (by simp;omega)) (T.pos (aW (by omega) (by omega)) (rec _ (by rw[List.replicate_succ',List.append_assoc]))))
 ·exact T.neg (by omega) (T.ret rfl)
theorem aaP {x:List Int}{i:Int}{a:List ah}(ha:a.length≤100000):T (fun n k=>AE x i n k 0 a) (fun o=>match o with | .e8 _ v=>v=a++List.replicate 1 ({ role:=i,state:=3}:ah)):=by
 refine T.count (fun j v n k=>AE x i n k j v) 1 (fun j v=>v=a++List.replicate j ({ role:=i,state:=3}:ah)) (fun j v hj hI rec=>?_) (fun v hI=>?_) 0 a (by omega) (by simp)
 all_goals simp only[AE];subst hI
 ·exact T.pos (by omega) (T.pos (room (by omega) (by simp;omega)) (T.pos (aW (by omega) (by omega)) (rec _ (by rw[List.replicate_succ',List.append_assoc]))))
 ·exact T.neg (by omega) (T.ret rfl)
theorem aaQ {x:List Int}{i:Int}{a:List ah}(ha:a.length≤100000):T (fun n k=>AF x i n k 0 a) (fun o=>match o with | .e8 _ v=>v=a++List.replicate 1 ({ role:=i}:ah)):=by
 refine T.count (fun j v n k=>AF x i n k j v) 1 (fun j v=>v=a++List.replicate j ({ role:=i}:ah)) (fun j v hj hI rec=>?_) (fun v hI=>?_) 0 a (by omega) (by simp)
 all_goals simp only[AF];subst hI
 ·exact T.pos (by omega) (T.pos (room (by omega) (by simp;omega)) (T.pos (aW (by omega) (by omega)) (rec _ (by rw[List.replicate_succ',List.append_assoc]))))
 ·exact T.neg (by omega) (T.ret rfl)
section
variable {s:aT} (hs:hG s)
include hs
theorem abD {cs:Sl Int}(hl:cs.l.length=dw s.bc.l)(h0:∀c∈cs.l,0≤c)(h1:∀c∈cs.l,c≤40){x:List Int}:T (fun n k=>pZ s cs x n k 0 0 []) (fun o=>match o with | .e6 _ _ v=>v=tP cs.l 0 0 s.bc.l):=by
 have Mz:=hs.nf
 refine T.count (fun j (v:Int×List ah) n k=>pZ s cs x n k v.1 j v.2) s.bc.l.length (fun j v=>v.1=(dw (s.bc.l.take j):Int)∧v.2.length≤40 * j∧v.2++tP cs.l j (dw (s.bc.l.take j)) (s.bc.l.drop j)=tP cs.l 0 0 s.bc.l) (fun j v hj hI rec=>?_) (fun v hI=>?_) 0 (0,[]) (by omega) ⟨rfl,by simp,rfl⟩
 all_goals simp only[pZ]
 ·obtain⟨i1,i2,i3⟩:=hI
  have hg:s.bc.l[j]? =some s.bc.l[j]:=List.getElem?_eq_getElem hj
  have bw:=(hs.ne _ (List.getElem_mem hj)).1
  have bz:=Oh hg
  have aqq:=agT (fs:=s.bc.l) (j+1)
  have aqx:=Vv s.bc.l
  rw[List.drop_eq_getElem_cons hj,tP]at i3
  have pa:∀v2:List ah,v2=v.2++List.replicate (uI cs.l (dw (s.bc.l.take j)) s.bc.l[j]) (ze j s.bc.l[j])->uI cs.l (dw (s.bc.l.take j)) s.bc.l[j]≤40->T (fun n k=>pZ s cs x n k (dw (s.bc.l.take (j+1)):Int) ((j:Int)+1) v2) (fun o=>match o with | .e6 _ _ v=>v=tP cs.l 0 0 s.bc.l):=fun v2 sS hc=>by
   refine rec ((dw (s.bc.l.take (j+1)):Int),v2) ⟨rfl,by rw[sS,List.length_append,List.length_replicate];omega,?_⟩
   rw[sS,List.append_assoc,bz]
   have:dw (s.bc.l.take j)+(if s.bc.l[j].star=true then 1 else 0)=if s.bc.l[j].star=true then dw (s.bc.l.take j)+1 else dw (s.bc.l.take j):=by split<;>rfl
   rw[this];exact i3
  refine T.pos (by omega) (T.nat hg (T.ite (fun g=>?_) fun g=>?_))
  ·rw[if_pos g]at bz
   have hk:dw (s.bc.l.take j)<cs.l.length:=by omega
   have SH:cs.l[dw (s.bc.l.take j)]? =some cs.l[dw (s.bc.l.take j)]:=List.getElem?_eq_getElem hk
   have c0:=h0 _ (List.getElem_mem hk)
   have c1:=h1 _ (List.getElem_mem hk)
   have nS:uI cs.l (dw (s.bc.l.take j)) s.bc.l[j]=(cs.l[dw (s.bc.l.take j)]).toNat:=by rw[uI,if_pos g,SH];rfl
   have vc:v.1+1=(dw (s.bc.l.take (j+1)):Int):=by rw[i1,bz];simp
   refine T.at (by omega) (a:=cs.l[dw (s.bc.l.take j)]) (by rw[i1,Int.toNat_natCast];exact SH) (T.pos (aW (by omega) (by omega)) (T.bind (UN bw 0) fun y hy=>?_))
   subst hy
   rw[vc]
   refine T.ite (fun g2=>T.bind (T.dg (aaN c0 c1 (by omega))) fun o ho=>?_) fun g2=>T.bind (T.dg (aaO c0 c1 (by omega))) fun o ho=>?_
   ·have l8:eK s.bc.l[j] 0=[]:=List.eq_nil_of_length_eq_zero (by omega)
    cases o with
    | e8 _ v2=>exact T.pos (aW (by omega) (by omega)) (pa v2 (by rw[nS,ze,if_pos l8];exact ho) (by omega))
   ·have l8:¬eK s.bc.l[j] 0=[]:=fun h=>g2 (by rw[h];rfl)
    cases o with
    | e8 _ v2=>exact T.pos (aW (by omega) (by omega)) (pa v2 (by rw[nS,ze,if_neg l8];exact ho) (by omega))
  ·rw[if_neg g]at bz
   have nS:uI cs.l (dw (s.bc.l.take j)) s.bc.l[j]=1:=by rw[uI,if_neg g]
   have vc:v.1=(dw (s.bc.l.take (j+1)):Int):=by rw[i1,bz];simp
   refine T.bind (UN bw 0) fun y hy=>?_
   subst hy
   rw[vc]
   refine T.ite (fun g2=>T.bind (T.dg (aaP (by omega))) fun o ho=>?_) fun g2=>T.bind (T.dg (aaQ (by omega))) fun o ho=>?_
   ·have l8:eK s.bc.l[j] 0=[]:=List.eq_nil_of_length_eq_zero (by omega)
    cases o with
    | e8 _ v2=>exact T.pos (aW (by omega) (by omega)) (pa v2 (by rw[nS,ze,if_pos l8];exact ho) (by omega))
   ·have l8:¬eK s.bc.l[j] 0=[]:=fun h=>g2 (by rw[h];rfl)
    cases o with
    | e8 _ v2=>exact T.pos (aW (by omega) (by omega)) (pa v2 (by rw[nS,ze,if_neg l8];exact ho) (by omega))
 ·obtain⟨i1,i2,i3⟩:=hI
  rw[List.drop_length,tP,List.append_nil]at i3
  exact T.neg (by omega) (T.ret i3)
theorem abF {x:List Int}{th:List ah}:T (fun n k=>AG s x th n k 0 []) (fun o=>match o with | .kC _ v=>v=List.replicate s.p.aw.l.length lb):=by
 have hm:=hs.ga.1
 refine T.count (fun j v n k=>AG s x th n k j v) s.p.aw.l.length (fun j v=>v=List.replicate j lb) (fun j v hj hI rec=>?_) (fun v hI=>?_) 0 [] (by omega) (by simp)
 all_goals simp only[AG];subst hI
 ·exact T.pos (by omega) (T.pos (room (by omega) (by simp;omega)) (T.pos (aW (by omega) (by omega)) (rec _ (by rw[List.replicate_succ'];rfl))))
 ·exact T.neg (by omega) (T.ret rfl)
theorem abA {cs:Sl Int}(hl:cs.l.length≤1000):T (fun n _=>Eb n s cs) (·=Fk s cs.l):=by
 have Mz:=hs.nf
 have ho:=Uj s.bc.l
 simp only[Eb]
 unfold Fk
 refine T.bind (T.dg (abE hs)) fun o h4=>?_
 cases o with
 | e0 a b _=>
  obtain⟨rfl,rfl⟩:a=_∧b=_:=h4
  refine T.ite (fun g=>T.ret ?_) fun g=>?_
  ·have g:(cs.l.length:Int)≠(dw s.bc.l:Int):=g
   rw[if_pos (by omega)]
  have g:¬(cs.l.length:Int)≠(dw s.bc.l:Int):=g
  have hlen:cs.l.length=dw s.bc.l:=by omega
  rw[if_neg (by omega),←hlen]
  refine T.bind (T.dg (abB hl)) fun o dT=>?_
  cases o with
  | r=>exact T.ret (if_pos dT).symm
  | e2 _=>
   have dT:(cs.l.all fun c=>decide (0≤c))=true:=dT
   rw[if_neg (by simp[dT])]
   have h0:∀c∈cs.l,0≤c:=fun c hc=>of_decide_eq_true (List.all_eq_true.1 dT c hc)
   refine T.bind (T.dg (abC (b:=(nh s.bc.l:Int)) hl h0 (by omega) (by omega))) fun o xZ=>?_
   cases o with
   | r=>exact T.ret (if_pos (.inl xZ)).symm
   | e4 v _=>
    obtain⟨g1,g2⟩:(cs.l.all fun c=>decide (c≤40))=true∧v=_:=xZ
    refine T.ite (fun g3=>T.ret ?_) fun g3=>?_
    ·rw[if_pos (.inr (by rw[←g2];exact g3))]
    rw[if_neg (fun h=>h.elim (fun h=>by rw[g1]at h;cases h) fun h=>g3 (by rw[g2];exact h))]
    have h1:∀c∈cs.l,c≤40:=fun c hc=>of_decide_eq_true (List.all_eq_true.1 g1 c hc)
    refine T.bind (acH hs.ga) fun y hy=>T.bind (T.dg (abD hs hlen h0 h1)) fun o L7=>?_
    cases o with
    | e6 _ _ v=>
     refine T.bind (T.dg (abF hs)) fun o h41=>?_
     cases o with
     | kC _ u=>
      refine T.ret ?_
      rw[show v=_ from L7,show u=_ from h41,hy]
end
theorem ZM (p:aj)(cs:Sl Int):T (fun n _=>HX n p cs) (fun r=>r.2.2=false∨(r.2.2=true∧bP p=true∧wP p≤300∧cs.l.length≤20∧(kd p).2.1=0∧r.1=wu p∧hG (wu p)∧r.2.1=(Fk (wu p) cs.l).1∧(Fk (wu p) cs.l).2=0∧r.2.1.threads.l.length≤12)):=by
 simp only[HX]
 refine T.bind (P:=fun o=>match o with | .m b=>b=false->bP p=true∧wP p≤300∧cs.l.length≤20) ?_ fun o ho=>?_
 ·simp only[Pj]
  refine T.bind (agH p) fun x hx=>T.cond (fun h=>T.ite (fun _=>T.ret fun h=>by cases h) fun g=>T.ret fun _=>?_) fun _=>T.ret fun h=>by cases h
  exact⟨(hx h).1,(hx h).2,by omega⟩
 ·cases o with
  | m b=>
   refine T.cond (fun _=>T.ret (.inl rfl)) fun h=>?_
   obtain⟨h1,h2,h3⟩:=(show b=false->_ from ho) h
   refine T.bind (adI (Uh h1 h2) h1) fun x hx=>?_
   by_cases gf:(kd p).2.1≠0
   ·rw[if_pos gf]at hx;subst hx
    exact T.pos gf (T.ret (.inl rfl))
   rw[if_neg gf]at hx;subst hx
   have Si:(kd p).2.1=0:=by simpa using gf
   have hs:=ah7 h1 h2 Si
   refine T.neg (fun h=>h rfl) (T.bind (abA (s:=wu p) hs (cs:=cs) (by omega)) fun y hy=>T.ite (fun g2=>T.ite (fun g3=>T.ret (.inr ⟨rfl,h1,h2,h3,Si,rfl,hs,?_,?_,?_⟩)) fun _=>T.ret (.inl rfl)) fun _=>T.ret (.inl rfl))
   ·rw[hy]
   ·rw[←hy];exact g2
   ·show y.1.threads.l.length≤12;omega
end Go.Vig
namespace Go.Vig
open Go Go.Abs
variable [Kn]
def X6 (k:bT)(wk:List Int)(t:Int)(a b:ah):Prop:=(t∈wk->a.state=1∧b.state=2∧b.loc=a.loc∧b.depth=a.depth)∧(t ∉ wk->a=b∨(k.kind=0∧t=k.cZ)∨(k.kind=2∧a.state=1∧b.left=a.left - 1))
def ur (T T1:List ah)(t:Int)(wk:List Int):Prop:=∀(i:Nat) (a b:ah),T[i]? =some a->T1[i]? =some b->((i:Int)∈wk->a.state=1∧b.state=2∧b.loc=a.loc∧b.depth=a.depth)∧((i:Int) ∉ wk->a=b∨(i:Int)=t)
theorem EY {T:List ah}{t:Int}(h0:0≤t){y:ah}:ur T (T.set t.toNat y) t []:=fun i a b ha hb=>by
 refine⟨fun h=>(by cases h),fun _=>?_⟩
 by_cases hi:t.toNat=i
 ·exact .inr (by omega)
 ·rw[List.getElem?_set,if_neg hi,ha]at hb
  cases hb;exact .inl rfl
theorem aaI {s:aT}{T:List ah}{t to:Int}{i:Nat}(hi:t.toNat≠i):(jd s T t to)[i]? =T[i]? :=by
 unfold jd
 split
 ·rw[List.getElem?_set,if_neg hi]
 ·rfl
theorem uF {s:aT}{T T1:List ah}{t to:Int}(h0:0≤t){wk:List Int}(h:ur T T1 t wk)(ht:t ∉ wk):ur T (jd s T1 t to) t wk:=fun i a b ha hb=>by
 by_cases hi:t.toNat=i
 ·have:(i:Int)=t:=by omega
  rw[this]
  exact⟨fun g=>absurd g ht,fun _=>.inr rfl⟩
 ·rw[aaI hi]at hb
  exact h i a b ha hb
theorem EW {T:List ah}{t:Int}:ur T T t []:=fun i a b ha hb=>by
 rw[ha]at hb;cases hb
 exact⟨fun h=>(by cases h),fun _=>.inl rfl⟩
theorem apJ {T:List ah}{q:Int}(h0:0≤q){i:Nat}:(gY T q)[i]? =if(i:Int)=q then(T[i]?).map Kb else T[i]? :=by
 unfold gY
 by_cases hi:(i:Int)=q
 ·rw[if_pos hi]
  have:q.toNat=i:=by omega
  rw[this]
  cases hx:T[i]? with
  | none=>simp only[Option.map_none];exact hx
  | some x=>
   simp only[Option.map_some]
   rw[List.getElem?_set,if_pos rfl,if_pos (List.getElem?_eq_some_iff.1 hx).1]
 ·rw[if_neg hi]
  split
  ·rw[List.getElem?_set,if_neg (by omega)]
  ·rfl
theorem XI {i:Nat}:∀{q:List Int}{T:List ah},(∀v∈q,0≤v)->(q.foldl gY T)[i]? =if(i:Int)∈q then(T[i]?).map Kb else T[i]?
 | [],T,_=>by simp
 | v::q,T,h=>by
  rw[List.foldl_cons,XI fun u hu=>h u (List.mem_cons_of_mem _ hu),apJ (h v List.mem_cons_self)]
  by_cases h1:(i:Int)=v
  ·have hm:(i:Int)∈v::q:=by rw[h1];exact List.mem_cons_self
   rw[if_pos hm,if_pos h1]
   split
   ·rw[Option.map_map];rfl
   ·rfl
  ·rw[if_neg h1]
   by_cases h2:(i:Int)∈q
   ·rw[if_pos h2,if_pos (List.mem_cons_of_mem _ h2)]
   ·rw[if_neg h2,if_neg fun h=>(List.mem_cons.1 h).elim h1 h2]
theorem Lk {T:List ah}{q:List Int}(h0:∀v∈q,0≤v)(hq:∀(i:Nat) (a:ah),(i:Int)∈q->T[i]? =some a->a.state=1){t:Int}:ur T (q.foldl gY T) t q:=fun i a b ha hb=>by
 rw[XI h0]at hb
 refine⟨fun g=>?_,fun g=>?_⟩
 ·rw[if_pos g,ha]at hb
  cases hb
  exact⟨hq i a g ha,rfl,rfl,rfl⟩
 ·rw[if_neg g,ha]at hb
  cases hb;exact .inl rfl
theorem PJ {s:aT}{T:List ah}{mon:Int}{i:Nat}{a:ah}(h:(i:Int)∈dH s T mon)(ha:T[i]? =some a):a.state=1:=by
 obtain⟨j,e,h1,h2,h3⟩:=PH h
 have:i=j:=by omega
 subst this
 rw[ha]at h1;cases h1
 unfold kY at h3
 rw[Bool.and_eq_true]at h3
 exact of_decide_eq_true h3.1
theorem XF {s:aT}{T:List ah}{mon v:Int}(h:v∈dH s T mon):0≤v:=by
 obtain⟨j,e,h1,h2,h3⟩:=PH h
 omega
theorem XG {s:aT}{T:List ah}{mon t:Int}{x:ah}(h0:0≤t)(hx:T[t.toNat]? =some x)(hs:x.state≠1):t ∉ dH s T mon:=fun h=>by
 refine hs (PJ (i:=t.toNat) (s:=s) (T:=T) (mon:=mon) ?_ hx)
 rwa [show((t.toNat:Nat):Int)=t by omega]
theorem abP {s:aT}{T:List ah}{L:List aE}{V:List Int}{t draw:Int}{x:ah}{i:Int}{e:aS}(h0:0≤t)(hx:T[t.toNat]? =some x)(hs:x.state≠1)(hd:0≤draw)(jQ:e.kind=7->0<(dH s T e.mon).length->draw.toNat<(dH s T e.mon).length):ur T (fa s T L V t draw x i e).T t (fa s T L V t draw x i e).wk:=by
 unfold fa
 split
 ·exact uF h0 EW (by simp)
 split
 ·exact uF h0 EW (by simp)
 split
 ·exact EY h0
 split
 ·rename_i h7
  split
  ·rename_i hl
   have o9:=jQ h7 hl
   have hm:gO (dH s T e.mon) draw∈dH s T e.mon:=by
    rw[gO,List.getElem?_eq_getElem o9]
    exact List.getElem_mem o9
   have hw:=Lk (T:=T) (q:=[gO (dH s T e.mon) draw]) (t:=t) (fun v hv=>by rw[List.mem_singleton]at hv;subst hv;exact XF hm) (fun j a hj ha=>by rw[List.mem_singleton]at hj;exact PJ (hj▸hm) ha)
   refine uF h0 hw fun h=>?_
   rw[List.mem_singleton]at h
   exact XG h0 hx hs (h▸hm)
  ·exact uF h0 EW (by simp)
 split
 ·exact uF h0 (Lk (fun v hv=>XF hv) fun j a hj ha=>PJ hj ha) (XG h0 hx hs)
 ·exact uF h0 EW (by simp)
def Qi (s:aT)(x:ah)(V V1:List Int)(i:Int):Prop:=V1=V∨(0≤i∧∃e,mT s x i=some e∧e.kind=3∧∃(j:Nat) (v:Int),V1=V.set j v)
theorem af8 {s:aT}{V:List Int}{e:aS}:∃(j:Nat) (v:Int),(fk s V e).2=V.set j v∨(fk s V e).2=V:=by
 unfold fk
 split
 ·exact⟨0,0,.inr rfl⟩
 ·split
  ·exact⟨0,0,.inr rfl⟩
  ·split
   ·exact⟨_,_,.inl rfl⟩
   ·exact⟨0,0,.inr rfl⟩
structure X5 (s:aT)(T:List ah)(V:List Int)(t:Int)(x:ah)(m:Mc):Prop where
 chg:ur T m.T t m.wk
 aB:Qi s x V m.V m.e
 jx:∃e,mT s x m.e=some e∧0≤m.e
theorem afV {s:aT}(hs:hG s){w:bo}(hw:Wd s w){t draw:Int}{x:ah}{e:aS}(h0:0≤t)(hx:w.threads.l[t.toNat]? =some x)(jz:gI s x=some e)(bz:x.state=2∨x.state=0)(hd:0≤draw)(jQ:draw<nH s w.threads.l x):X5 s w.threads.l w.aB.l t x (jn s w.threads.l w.aZ.l w.aB.l t draw x e):=by
 have nZ:=hw.ts x (List.mem_of_getElem? hx)
 obtain⟨f,j,e',hf,hj,he,BO⟩:=uT nZ (by omega)
 rw[jz]at BO;cases BO
 obtain⟨ho,FF⟩:=GC hs hw h0 hx hf hj he jz
 by_cases g:x.state=2
 ·have hr:jn s w.threads.l w.aZ.l w.aB.l t draw x e=qq s w.threads.l w.aZ.l w.aB.l t x e:=by rw[jn,if_pos g]
  rw[hr,qq]
  refine⟨uF h0 (EY h0) (by simp),.inl rfl,?_⟩
  show∃e,mT s x (gO (dA s x) 0)=some e∧0≤gO (dA s x) 0
  rw[FF]
  exact⟨e,LI hf he,by omega⟩
 have vj:x.state=0:=bz.resolve_left g
 have Fz:nH s w.threads.l x=if e.kind=9 then((dA s x).length:Int)else if e.kind=7 then(if((dH s w.threads.l e.mon).length:Int)>1 then((dH s w.threads.l e.mon).length:Int)else 1)else 1:=by
  rw[nH,if_neg (by simpa using vj),jz]
 rw[Fz]at jQ
 have FB:e.kind=9->draw<((dA s x).length:Int):=fun h=>by rwa [if_pos h]at jQ
 obtain⟨i,e2,hi,fP,sL⟩:=Rf (L:=w.aZ.l) (V:=w.aB.l) (t:=t) (e:=e) hf hj hd FB
 have kF:mT s x (eE s w.aZ.l w.aB.l t draw x e).1=some e2:=by rw[hi];exact LI hf fP
 have qG:e.from_=x.loc:=by
  obtain⟨i',e',h1,h2,h3⟩:=GD (f:=f) (loc:=x.loc) (x:=(j:Int)) (List.mem_of_getElem? hj)
  have:i'=j:=by omega
  subst this
  rw[he]at h1;cases h1;exact h3
 have Ms:e.kind=e2.kind:=hs.sk f (qB hf) e (List.mem_of_getElem? he) e2 (List.mem_of_getElem? fP) (qG.trans sL.symm)
 have Me:e2.kind=7->0<(dH s w.threads.l e2.mon).length->draw.toNat<(dH s w.threads.l e2.mon).length:=fun h7 hl=>by
  have hc:(eE s w.aZ.l w.aB.l t draw x e).1=gO (dA s x) 0:=by unfold eE;rw[if_neg (by omega),if_neg (by omega)]
  have BT:i=j:=by rw[hi,FF]at hc;omega
  rw[BT,he]at fP;cases fP
  rw[if_neg (by omega),if_pos h7]at jQ
  split at jQ<;>omega
 have cw:0≤(eE s w.aZ.l w.aB.l t draw x e).1:=by rw[hi];omega
 have eu:=fun V=>abP (L:=w.aZ.l) (V:=V) (i:=(eE s w.aZ.l w.aB.l t draw x e).1) h0 hx (by omega) hd Me
 have qH:=fun V=>(L4 (s:=s) (T:=w.threads.l) (L:=w.aZ.l) (V:=V) (t:=t) (draw:=draw) (x:=x) (i:=(eE s w.aZ.l w.aB.l t draw x e).1) (e:=e2)).2.2
 have Mo:∀V,(fa s w.threads.l w.aZ.l V t draw x (eE s w.aZ.l w.aB.l t draw x e).1 e2).e=(eE s w.aZ.l w.aB.l t draw x e).1:=fun V=>by
  unfold fa
  split
  ·rfl
  split
  ·rfl
  split
  ·rfl
  split
  ·split<;>rfl
  split<;>rfl
 have hR:jn s w.threads.l w.aZ.l w.aB.l t draw x e=(if(eE s w.aZ.l w.aB.l t draw x e).2=false then⟨(eE s w.aZ.l w.aB.l t draw x e).1,[],w.threads.l.set t.toNat (sA x),jf t w.aZ.l,w.aB.l⟩
   else if e2.kind=3 then(if(fk s w.aB.l e2).1=true then fa s w.threads.l w.aZ.l (fk s w.aB.l e2).2 t draw x (eE s w.aZ.l w.aB.l t draw x e).1 e2 else⟨(eE s w.aZ.l w.aB.l t draw x e).1,[],w.threads.l.set t.toNat (sA x),jf t w.aZ.l,(fk s w.aB.l e2).2⟩)
   else fa s w.threads.l w.aZ.l w.aB.l t draw x (eE s w.aZ.l w.aB.l t draw x e).1 e2):=by
  unfold jn
  simp only[if_neg g,kF]
 rw[hR]
 have nY:e2.kind=3->Qi s x w.aB.l (fk s w.aB.l e2).2 (eE s w.aZ.l w.aB.l t draw x e).1:=fun h3=>by
  obtain⟨j,v,h⟩:=af8 (s:=s) (V:=w.aB.l) (e:=e2)
  exact h.elim (fun h=>.inr ⟨cw,e2,kF,h3,j,v,h⟩) .inl
 split
 ·exact⟨EY h0,.inl rfl,e2,kF,cw⟩
 split
 ·rename_i h3
  split
  ·exact⟨eu _,by rw[qH,Mo];exact nY h3,by rw[Mo];exact⟨e2,kF,cw⟩⟩
  ·exact⟨EY h0,nY h3,e2,kF,cw⟩
 ·exact⟨eu _,by rw[qH];exact .inl rfl,by rw[Mo];exact⟨e2,kF,cw⟩⟩
theorem Wc:∀{l:List ah}{i j:Nat}{x:ah},l[j]? =some x->(((i+j:Nat):Int)∈iy i l↔x.state=1∧x.left≠0∧x.left - 1=0)
 | [],i,j,x,h=>by cases h
 | a::l,i,j,x,h=>by
  have fb:∀{l:List ah}{i:Nat}{v:Int},v∈iy i l->(i:Int)≤v:=by
   intro l
   induction l with
   | nil=>intro i v hv;cases hv
   | cons b l ih=>
    intro i v hv
    unfold iy at hv
    split at hv
    ·rcases List.mem_cons.1 hv with rfl | hv
     ·omega
     ·have:=ih hv;omega
    ·have:=ih hv;omega
  cases j with
  | zero=>
   simp at h;subst h
   unfold iy
   split
   ·rename_i g;simp;exact⟨g.1,g.2.1,g.2.2⟩
   ·rename_i g
    refine⟨fun hm=>?_,fun h=>absurd h g⟩
    have:=fb hm;omega
  | succ j=>
   have ih:=Wc (l:=l) (i:=i+1) (j:=j) (x:=x) (by simpa using h)
   have e:i+1+j=i+(j+1):=by omega
   rw[e]at ih
   unfold iy
   split
   ·rw[List.mem_cons]
    exact⟨fun hm=>ih.1 (hm.resolve_left (by omega)),fun h=>.inr (ih.2 h)⟩
   ·exact ih
theorem Sm {s:aT}{T:List ah}{L:List aE}{V:List Int}{t draw:Int}{x:ah}{i:Int}{e:aS}:(fa s T L V t draw x i e).wk.length≤T.length+1:=by
 have h:=Ee (s:=s) (mon:=e.mon) (l:=T) (i:=0)
 unfold fa
 split
 ·simp
 split
 ·simp
 split
 ·simp
 split
 ·split<;>simp
 split
 ·show(kr _ _ _ _).length≤_;omega
 ·simp
theorem afX {s:aT}{T:List ah}{L:List aE}{V:List Int}{t draw:Int}{x:ah}{e:aS}:(jn s T L V t draw x e).wk.length≤T.length+1:=by
 unfold jn
 split
 ·unfold qq;simp
 ·simp only
  split
  ·simp
  ·split
   ·simp
   ·split
    ·split
     ·exact Sm
     ·simp
    ·exact Sm
structure Qa (s:aT)(w:bo)(k:bT)(x:bo)(tk:fB):Prop where
 nt:x.threads.l.length=w.threads.l.length
 nv:x.aB.l.length=w.aB.l.length
 nl:x.aZ.l.length=w.aZ.l.length
 aB:x.aB.l=w.aB.l∨(k.kind=0∧0≤k.cZ∧∃y,w.threads.l[k.cZ.toNat]? =some y∧0≤tk.jx∧(∃e,mT s y tk.jx=some e∧e.kind=3)∧∃(j:Nat) (v:Int),x.aB.l=w.aB.l.set j v)
 jx:k.kind=0->0≤tk.jx->0≤k.cZ∧∃y,w.threads.l[k.cZ.toNat]? =some y∧∃e,mT s y tk.jx=some e
 th:∀(i:Nat) (a b:ah),w.threads.l[i]? =some a->x.threads.l[i]? =some b->X6 k tk.jt.l (i:Int) a b
 wd:Wd s w
 wl:tk.jt.l.length≤1000
theorem aa8 {s:aT}(hs:hG s){w:bo}{k:bT}(h:(uJ s w k).2.2=0):Qa s w k (uJ s w k).1 (uJ s w k).2.1:=by
 unfold uJ at h ⊢
 by_cases n4:n7 s w=false
 ·rw[if_pos n4]at h;cases h
 rw[if_neg n4]at h ⊢
 have hw:=XM (by simpa using n4)
 by_cases hm:s5 s w k=true
 ·rw[if_pos hm]at h ⊢
  simp only[s5,Bool.and_eq_true,decide_eq_true_eq]at hm
  obtain⟨⟨⟨g1,g2⟩,g3⟩,g4⟩:=hm
  obtain⟨h0,x,e,hx,he,bz⟩:=Ld g2
  rw[hx]at g4
  have g4:k.draw<nH s w.threads.l x:=of_decide_eq_true g4
  have qP:Dc s w k=some (jn s w.threads.l w.aZ.l w.aB.l k.cZ k.draw x e):=by simp only[Dc,hx,Option.bind_some,he,Option.map_some]
  rw[qP]
  obtain⟨l1,l2,l3⟩:=U0 (s:=s) (T:=w.threads.l) (L:=w.aZ.l) (V:=w.aB.l) (t:=k.cZ) (draw:=k.draw) (x:=x) (e:=e)
  obtain⟨r1,r2,e',r3,r4⟩:=afV hs hw h0 hx he bz g3 g4
  have hwk:=afX (s:=s) (T:=w.threads.l) (L:=w.aZ.l) (V:=w.aB.l) (t:=k.cZ) (draw:=k.draw) (x:=x) (e:=e)
  have nZ:=hw.th
  refine⟨l1,l3,l2,?_,fun _ _=>⟨h0,x,hx,e',r3⟩,fun i a b ha hb=>?_,hw,by show(jn _ _ _ _ _ _ _ _).wk.length≤_;omega⟩
  ·rcases r2 with r2 | ⟨_,e2,r5,r6,j,v,r7⟩
   ·exact .inl r2
   ·exact .inr ⟨g1,h0,x,hx,r4,⟨e2,r5,r6⟩,j,v,r7⟩
  ·obtain⟨c1,c2⟩:=r1 i a b ha hb
   exact⟨c1,fun g=>(c2 g).elim .inl fun q=>.inr (.inl ⟨g1,q⟩)⟩
 rw[if_neg hm]at h ⊢
 by_cases qS:tI w k=true
 ·rw[if_pos qS]
  simp only[tI,Bool.and_eq_true,decide_eq_true_eq]at qS
  obtain⟨⟨k1,k2,k3⟩,g3⟩:=qS
  cases hx:w.threads.l[k.cZ.toNat]? with
  | none=>rw[hx]at g3;cases g3
  | some x=>
   rw[hx]at g3
   have g3:x.state=1:=of_decide_eq_true g3
   refine⟨Eg,rfl,rfl,.inl rfl,fun h=>by omega,fun i a b ha hb=>?_,hw,by show[k.cZ].length≤_;simp⟩
   have hc:=Lk (T:=w.threads.l) (q:=[k.cZ]) (t:= -1) (fun v hv=>by rw[List.mem_singleton]at hv;omega) (fun j a hj ha=>by
    rw[List.mem_singleton]at hj
    have:k.cZ.toNat=j:=by omega
    rw[this,ha]at hx;cases hx;exact g3)
   obtain⟨c1,c2⟩:=hc i a b ha hb
   exact⟨c1,fun g=>(c2 g).elim .inl fun q=>by omega⟩
 rw[if_neg qS]at h ⊢
 by_cases hk:k={ kind:=2}
 ·rw[if_pos hk]
  refine⟨by show(w.threads.l.map jo).length=_;simp,rfl,rfl,.inl rfl,fun h=>(by rw[hk]at h;cases h),fun i a b ha hb=>?_,hw,by show(iy 0 w.threads.l).length≤_;have:=OI (l:=w.threads.l) (i:=0);have:=hw.th;omega⟩
  have hb:(w.threads.l.map jo)[i]? =some b:=hb
  rw[List.getElem?_map,ha]at hb
  cases hb
  have fF:=Wc (i:=0) ha
  rw[Nat.zero_add]at fF
  refine⟨fun g=>?_,fun g=>?_⟩
  ·obtain⟨g1,g2,g3⟩:=fF.1 g
   rw[jo,if_pos ⟨g1,g2⟩,if_pos g3]
   exact⟨g1,rfl,rfl,rfl⟩
  ·unfold jo
   by_cases c1:a.state=1∧a.left≠0
   ·rw[if_pos c1]
    by_cases c2:a.left - 1=0
    ·exact absurd (fF.2 ⟨c1.1,c1.2,c2⟩) g
    ·rw[if_neg c2]
     exact .inr (.inr ⟨by rw[hk],c1.1,rfl⟩)
   ·rw[if_neg c1];exact .inl rfl
 ·rw[if_neg hk]at h;cases h
end Go.Vig
namespace Go.Vig
open Go Go.Abs
variable [Kn]
theorem aba {s:aT}{y:ah}{i:Int}{e:aS}(h:mT s y i=some e):∃f,eW s y=some f∧f.aU.l[i.toNat]? =some e:=by
 simp only[mT,Option.bind_eq_some_iff]at h
 exact h
theorem aeR {tk:fB}{t:Int}(hl:tk.jt.l.length≤1000):T (fun n k=>tV tk t n k false 0) (fun o=>match o with | .e6 b _=>b=decide (t∈tk.jt.l)):=by
 refine T.count (fun i (v:Bool) n k=>tV tk t n k v i) tk.jt.l.length (fun j v=>v=decide (t∈tk.jt.l.take j)) (fun j v hj hI rec=>?_) (fun v hI=>?_) 0 false (by omega) (by simp)
 all_goals simp only[tV];subst hI
 ·have hg:tk.jt.l[j]? =some tk.jt.l[j]:=List.getElem?_eq_getElem hj
  refine T.pos (by omega) (T.cond (fun g=>T.pos (aW (by omega) (by omega)) (rec true ?_)) fun g=>T.nat hg (T.ite (fun g2=>T.pos (aW (by omega) (by omega)) (rec true ?_)) fun g2=>T.pos (aW (by omega) (by omega)) (rec false ?_)))
  ·have g:=of_decide_eq_true g
   exact(decide_eq_true ((kT hg).2 (.inl g))).symm
  ·exact(decide_eq_true ((kT hg).2 (.inr g2.symm))).symm
  ·have g:=of_decide_eq_false g
   exact(decide_eq_false fun h=>((kT hg).1 h).elim g fun q=>g2 q.symm).symm
 ·exact T.neg (by omega) (T.ret (by rw[List.take_length]))
section
variable {s:aT}{p:aj}{l:Sl bT}{i:Nat}{k:bT} (hk:l.l[i]? =some k) {w x:bo}{tk:fB} (hd:Qa s w k x tk)
include hk hd
theorem Ul:T (fun n m=>wG p l s (i:Int) w x tk n m 0) (fun o=>match o with | .r _ _=>False | .e4 _=>True):=by
 have nZ:=hd.wd.th
 refine T.count (fun j (_:Unit) n m=>wG p l s (i:Int) w x tk n m j) w.threads.l.length (fun _ _=>True) (fun j v hj _ rec=>?_) (fun v _=>?_) 0 () (by omega) trivial
 all_goals simp only[wG]
 ·have ha:w.threads.l[j]? =some w.threads.l[j]:=List.getElem?_eq_getElem hj
  have Mr:j<x.threads.l.length:=by rw[hd.nt];exact hj
  have hb:x.threads.l[j]? =some x.threads.l[j]:=List.getElem?_eq_getElem Mr
  obtain⟨h1,h2⟩:=hd.th j _ _ ha hb
  obtain⟨_,_,_,_,kH,gj,_⟩:=CA (hd.wd.ts _ (List.getElem_mem hj))
  refine T.pos (by omega) (T.bind (T.dg (aeR hd.wl)) fun o ho=>?_)
  cases o with
  | e6 b _=>
   have ho:b=decide ((j:Int)∈tk.jt.l):=ho
   subst ho
   refine T.nat ha (T.nat hb (T.bind (P:=(·= .m (decide ((j:Int)∈tk.jt.l)))) ?_ fun o ho=>?_))
   ·simp only[Pg]
    refine T.cond (fun g=>?_) fun g=>T.ret (by rw[g])
    obtain⟨q1,q2,q3,q4⟩:=h1 (of_decide_eq_true g)
    exact T.neg (fun h=>h q1) (T.neg (fun h=>h q2) (T.neg (fun h=>h q3) (T.neg (fun h=>h q4) (T.ret (by rw[g])))))
   subst ho
   refine T.bind (P:=(·= .m false)) ?_ fun o ho=>by subst ho;exact T.cond (fun h=>by cases h) fun _=>T.pos (aW (by omega) (by omega)) (rec () trivial)
   simp only[Ph]
   refine T.cond (fun g=>T.ret rfl) fun g=>T.ite (fun _=>T.ret rfl) fun gne=>T.nat hk ?_
   have hq:=(h2 (of_decide_eq_false g)).resolve_left gne
   refine T.ite (fun g0=>?_) fun g0=>?_
   ·rcases hq with ⟨_,q⟩ | ⟨q,_⟩
    ·exact T.neg (fun h=>h q) (T.neg (by omega) (T.neg (by omega) (T.ret rfl)))
    ·omega
   ·rcases hq with ⟨q,_⟩ | ⟨q,q2,q3⟩
    ·exact absurd q g0
    ·exact T.neg (by omega) (T.pos q (T.neg (fun h=>h q2) (T.pos (by unfold aF;omega) (T.neg (fun h=>h q3) (T.ret rfl)))))
 ·exact T.neg (by omega) (T.ret trivial)
omit hk in
theorem aeQ (hs:hG s):T (fun n m=>wF w x n m 0 0) (fun o=>match o with | .e2 c _=>c≤1∧(x.aB.l=w.aB.l->c=0)):=by
 have iN:w.aB.l.length≤100000:=by
  rw[hd.wd.vl]
  have:=Dh hs.ga
  omega
 refine T.count (fun j v n m=>wF w x n m v j) w.aB.l.length (fun j v=>0≤v∧v≤1∧(x.aB.l=w.aB.l->v=0)∧∀(m:Nat) (u:Int),x.aB.l=w.aB.l.set m u->j≤m->v=0) (fun j v hj hI rec=>?_) (fun v hI=>?_) 0 0 (by omega) ⟨by omega,by omega,fun _=>rfl,fun _ _ _ _=>rfl⟩
 all_goals simp only[wF]
 ·obtain⟨i1,i2,i3,i4⟩:=hI
  have ha:w.aB.l[j]? =some w.aB.l[j]:=List.getElem?_eq_getElem hj
  have Mr:j<x.aB.l.length:=by rw[hd.nv];exact hj
  have hb:x.aB.l[j]? =some x.aB.l[j]:=List.getElem?_eq_getElem Mr
  refine T.pos (by omega) (T.nat ha (T.nat hb (T.ite (fun g=>?_) fun g=>T.pos (aW (by omega) (by omega)) (rec v ⟨i1,i2,i3,fun m u h1 h2=>i4 m u h1 (by omega)⟩))))
  have dt:∀L,x.aB.l=L->L[j]? =some x.aB.l[j]:=fun L h=>by rw[←h];exact hb
  have hv:x.aB.l=w.aB.l∨∃(m:Nat) (u:Int),x.aB.l=w.aB.l.set m u:=hd.aB.elim .inl fun h=>by obtain⟨_,_,_,_,_,_,m,u,h⟩:=h;exact .inr ⟨m,u,h⟩
  rcases hv with hv | ⟨m,u,hv⟩
  ·have:x.aB.l[j]=w.aB.l[j]:=by
    have h2:=dt _ hv
    rw[ha]at h2
    exact(Option.some.inj h2).symm
   exact absurd this.symm g
  ·have hm:m=j:=by
    refine Decidable.byContradiction fun bw=>g ?_
    have h2:=dt _ hv
    rw[List.getElem?_set,if_neg bw,ha]at h2
    exact Option.some.inj h2
   have h0:v=0:=i4 m u hv (by omega)
   refine T.pos (aW (by omega) (by omega)) (T.pos (aW (by omega) (by omega)) (rec (v+1) ⟨by omega,by omega,fun h=>?_,fun m2 u2 h1 h2=>?_⟩))
   ·have h2:=dt _ h
    rw[ha]at h2
    exact absurd (Option.some.inj h2) g
   ·exfalso
    have h3:=dt _ h1
    rw[List.getElem?_set,if_neg (by omega),ha]at h3
    exact g (Option.some.inj h3)
 ·exact T.neg (by omega) (T.ret ⟨hI.2.1,hI.2.2.1⟩)
theorem aeP:T (fun n _=>HP l s (i:Int) w tk n) (fun o=>match o with | .m b=>x.aB.l=w.aB.l∨b=true):=by
 simp only[HP]
 have lg:k.kind=0∧0≤tk.jx∨x.aB.l=w.aB.l:=hd.aB.elim .inr fun h=>.inl ⟨h.1,by obtain⟨_,_,_,_,h,_⟩:=h;exact h⟩
 refine T.nat hk (T.ite (fun g=>T.ite (fun g2=>?_) fun g2=>T.ret ?_) fun g=>T.ret ?_)
 ·obtain⟨h0,y,hy,e,he⟩:=hd.jx g g2
  obtain⟨f,hf,qG⟩:=aba he
  refine T.at h0 hy (T.xV hf (T.at g2 qG (T.ite (fun g3=>T.ret (.inr rfl)) fun g3=>T.ret ?_)))
  refine hd.aB.elim .inl fun h=>?_
  obtain⟨_,_,y',Co,_,⟨e',sJ,hk3⟩,_⟩:=h
  rw[hy]at Co;cases Co
  rw[he]at sJ;cases sJ
  exact absurd hk3 g3
 ·exact .inl (lg.resolve_left fun h=>g2 h.2)
 ·exact .inl (lg.resolve_left fun h=>g h.1)
end
theorem aeS {s:aT}(hs:hG s){p:aj}{l:Sl bT}(hl:l.l.length≤200)(w:bo):T (fun n k=>tW p l s n k 0 w) (fun o=>match o with | .e0 _ _=>True | _=>False):=by
 refine T.count (fun j (w:bo) n k=>tW p l s n k j w) l.l.length (fun _ _=>True) (fun j w hj _ rec=>?_) (fun w _=>?_) 0 w (by omega) trivial
 all_goals simp only[tW]
 ·have hk:l.l[j]? =some l.l[j]:=List.getElem?_eq_getElem hj
  refine T.pos (by omega) (T.nat hk (T.bind (aa6 hs w _) fun r hr=>T.bind (P:=(·=r.2.2)) (by simp only[wH];exact T.ret rfl) fun e he=>?_))
  subst he
  refine T.ite (fun _=>T.pos (aW (by omega) (by omega)) (rec w trivial)) fun g=>?_
  have h0:(uJ s w l.l[j]).2.2=0:=by rw[←hr];simpa using g
  have hd:=aa8 hs h0
  rw[←hr]at hd
  refine T.neg (by rw[hd.nv];simp) (T.neg (by rw[hd.nt];simp) (T.bind (aeP hk hd) fun o ho=>?_))
  cases o with
  | m b=>
   have ho:r.1.aB.l=w.aB.l∨b=true:=ho
   refine T.bind (T.dg (aeQ hd hs)) fun o bu=>?_
   cases o with
   | e2 c _=>
    obtain⟨c1,c2⟩:c≤1∧(r.1.aB.l=w.aB.l->c=0):=bu
    refine T.neg (show¬c>1 by omega) (T.ite (fun g1=>T.cond (fun _=>T.bind (T.dg (Ul hk hd)) fun o B5=>?_) fun gb=>?_) fun _=>T.bind (T.dg (Ul hk hd)) fun o B5=>?_)
    ·cases o with
     | r _ _=>exact B5.elim
     | e4 _=>exact T.pos (aW (by omega) (by omega)) (rec r.1 trivial)
    ·exfalso
     have g1:c=1:=g1
     rcases ho with ho | ho
     ·have:=c2 ho;omega
     ·rw[show b=false from gb]at ho;cases ho
    ·cases o with
     | r _ _=>exact B5.elim
     | e4 _=>exact T.pos (aW (by omega) (by omega)) (rec r.1 trivial)
 ·exact T.neg (by omega) (T.ret trivial)
theorem aeU (hlv:Kn.lv=some true)(p:aj)(cs:Sl Int)(l:Sl bT):∃n,HO n p cs l=some true:=by
 have Mt:T (fun(_ _:Nat)=>(Kn.lv:Option Bool).bind fun x=>some x) (·=true):=by
  simp only[hlv,Option.bind_some]
  exact T.ret rfl
 have h:T (fun n _=>HO n p cs l) (·=true):=by
  simp only[HO]
  refine T.bind (ZM p cs) fun r hr=>?_
  rcases hr with hr | ⟨hr,_,_,_,_,h1,hs,_⟩
  ·exact T.cond (fun h=>by rw[hr]at h;cases h) fun _=>Mt
  ·refine T.cond (fun _=>T.ite (fun _=>Mt) fun g=>?_) fun h=>by rw[hr]at h;cases h
   rw[←h1]at hs
   refine T.bind (T.dg (aeS hs (p:=p) (by omega) r.2.1)) fun o ho=>?_
   cases o with
   | r _ _ _=>exact ho.elim
   | vQ _ _ _ _ _=>exact ho.elim
   | e0 _ _=>exact Mt
 obtain⟨n,r,hn,rfl⟩:=h.val
 exact⟨n,hn⟩
end Go.Vig
