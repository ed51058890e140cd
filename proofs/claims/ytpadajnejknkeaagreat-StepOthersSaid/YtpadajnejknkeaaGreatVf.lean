/-
  Part of the proof: printed by the session's own program out of the program's form, or typed; it states no claim by itself.
-/
import Derived.Test.YtpadajnejknkeaaGreatVe
import Derived.Test.YtpadajnejknkeaaGreatFh
import Derived.Test.YtpadajnejknkeaaGreatFi
set_option linter.unusedVariables false
set_option linter.unusedSimpArgs false
set_option linter.unusedSectionVars false
set_option maxRecDepth 100000
namespace Go.Vig
open Go Go.Abs
variable [Kn]
theorem Rh (c:Int):T (fun n _=>CG n c) (fun x=>(x=3↔q9 c=true)∧(x=4↔xO c=true)):=by
 simp only[CG]
 unfold q9 xO
 repeat' (first | refine T.ite (fun h=>?_) (fun h=>?_) | refine T.ret ?_)
 all_goals refine⟨⟨fun q=>?_,fun q=>?_⟩,⟨fun q=>?_,fun q=>?_⟩⟩
 all_goals simp only[decide_eq_true_eq]at *
 all_goals omega
theorem adk (s:ByteArray):T (fun n _=>Gb n s) (·=qb s):=by
 have hw:qb s=rV.any fun w=>decide (w=s):=rfl
 have he:rV=(match zz 0 with | some w=>w.l | none=>[]):=rfl
 simp only[zz]at he
 rw[hw,he]
 simp only[Gb,List.any_cons,List.any_nil]
 repeat' (first | refine T.ite (fun h=>?_) (fun h=>?_) | refine T.ret ?_)
 all_goals simp only[eq_comm (b:=s), *,decide_true,decide_false,Bool.true_or,Bool.or_true,Bool.or_false,Bool.false_or]
theorem acC (b:UInt8):T (fun n _=>Gc n (b.toNat:Int)) (·=lq b):=by
 simp only[Gc]
 refine T.bind (Rh _) fun x hx=>?_
 obtain⟨h3,h4⟩:=hx
 unfold lq
 refine T.ite (fun g=>T.ret ?_) fun g=>T.ite (fun g2=>T.ret ?_) fun g2=>T.ite (fun g3=>T.ret ?_) fun g3=>T.ret ?_
 ·rw[h3.1 g];rfl
 ·rw[h4.1 g2];simp
 ·rw[decide_eq_true g3];simp
 ·rw[decide_eq_false g3]
  have a1:q9 b.toNat=false:=Bool.eq_false_iff.2 fun h=>g (h3.2 h)
  have a2:xO b.toNat=false:=Bool.eq_false_iff.2 fun h=>g2 (h4.2 h)
  rw[a1,a2];rfl
theorem Bc (s:ByteArray):s.data.toList.length=s.size:=by rw[Array.length_toList];rfl
theorem aa2 {s:ByteArray}{j:Nat}{a:UInt8}(ha:s.data.toList[j]? =some a):s[j]? =some a:=by
 have hj:=(List.getElem?_eq_some_iff.1 ha).1
 rw[Bc]at hj
 rw[getElem?_pos s j hj,←ha,List.getElem?_eq_getElem (by rw[Bc];exact hj)]
 rfl
theorem T.Q3 {R:Type}{Q:R->Prop}{s:ByteArray}{j:Nat}{a:UInt8}{G:Nat->Nat->Int->Option R}(ha:s.data.toList[j]? =some a)(g:T (fun n k=>G n k (a.toNat:Int)) Q):T (fun n k=>(lR s (j:Int)).bind (G n k)) Q:=by
 have hj:=(List.getElem?_eq_some_iff.1 ha).1
 rw[Bc]at hj
 refine T.byte ⟨by omega,by omega⟩ fun b hb=>?_
 simp only[Int.toNat_natCast]at hb
 rw[aa2 ha]at hb
 cases hb
 exact g
theorem agL {s:ByteArray}(hs:s.size≤32):T (fun n _=>Gd n s 0) (fun x=>x=(s.size:Int)↔s.data.toList.all lq=true):=by
 have hl:=Bc s
 have hL:T (fun n k=>yA s n k 0) (fun o=>match o with | .e0 x=>x=(s.size:Int)↔s.data.toList.all lq=true):=by
  refine T.lP (l:=s.data.toList) (fun i n k=>yA s n k i) lq (fun j a ha hj hr hx=>?_) (fun hf=>?_)
  all_goals simp only[yA]
  ·refine T.pos (by omega) (T.Q3 ha (T.bind (acC _) fun x bN=>?_))
   subst bN
   refine T.cond (fun h=>T.pos (aW (by omega) (by omega)) (hr h)) fun h=>T.ret ?_
   show(j:Int)=_↔_
   rw[hx h]
   constructor
   ·intro h;omega
   ·intro h;cases h
  ·refine T.neg (by omega) (T.ret ?_)
   show(s.data.toList.length:Int)=_↔_
   rw[hf,hl];simp
 simp only[Gd]
 refine T.bind (T.dg hL) fun o ho=>?_
 cases o with
 | e0 x=>exact T.ret ho
theorem TB (s:ByteArray):T (fun n _=>CF n s) (·=gp s):=by
 simp only[CF]
 have hl:=Bc s
 refine T.ite (fun g=>T.ret ?_) fun g=>T.ite (fun g2=>T.ret ?_) fun g2=>?_
 ·subst g;rfl
 ·simp only[gp];rw[decide_eq_false (p:=s.size≤32) (by omega)];simp
 cases hd:s.data.toList with
 | nil=>
  exfalso
  refine g ?_
  obtain⟨⟨d⟩⟩:=s
  simp only at hd
  rw[hd]
 | cons b t=>
  have h0:s.data.toList[0]? =some b:=by rw[hd];rfl
  have cc:1≤s.size:=by rw[←hl,hd];simp
  have hn:gp s=(q9 b.toNat&&s.data.toList.all lq&& !qb s):=by
   simp only[gp]
   rw[decide_eq_true (by omega),decide_eq_true (by omega),hd];rfl
  refine T.Q3 (j:=0) h0 (T.bind (Rh _) fun x hx=>T.ite (fun g3=>T.ret ?_) fun g3=>T.bind (adk s) fun y hy=>?_)
  ·rw[hn,Bool.eq_false_iff.2 fun h=>g3 (hx.1.2 h)];rfl
  subst hy
  have aQ:=hx.1.1 (Decidable.not_not.1 g3)
  refine T.cond (fun h=>T.ret (by rw[hn,h];simp)) fun h=>T.bind (agL (by omega)) fun z hz=>T.ite (fun g4=>T.ret ?_) fun g4=>T.ret ?_
  ·rw[hn,aQ,hz.1 g4,h];rfl
  ·rw[hn,Bool.eq_false_iff.2 fun h=>g4 (hz.2 h)];simp
theorem Us (op:Int):T (fun n _=>Dy n op) (·=q7 op):=by
 simp only[Dy]
 refine T.ite (fun g=>T.ret ?_) fun g=>T.ite (fun g2=>T.ret ?_) fun g2=>T.pos ⟨by omega,by omega⟩ ?_
 ·unfold q7;rw[if_neg (by omega),if_neg (by omega),if_neg (by omega)]
 ·unfold q7;rw[if_neg (by omega),if_neg (by omega),if_neg (by omega)]
 ·obtain⟨k,rfl⟩:∃k:Nat,op=(k:Int):=⟨op.toNat,by omega⟩
  have hk:k<18:=by omega
  have:∀k:Fin 18,([(-1),0,0,0,0,1,1,1,2,2,2,2,2,2,2,2,2,2]:List Int)[k.val]? =some (q7 (k.val:Int)):=by decide
  exact T.nat (this ⟨k,hk⟩) (T.ret rfl)
theorem acQ (e:au):T (fun n _=>zf n e) (·=jR e):=by
 have Sp:T (fun n _=>Dx e n) (fun o=>o= .m (decide (e.op=1) || decide (e.op=7))):=by
  simp only[Dx]
  refine T.ite (fun g=>T.ret ?_) fun g=>T.ite (fun g2=>T.ret ?_) fun g2=>T.ret ?_
  ·rw[decide_eq_true g];rfl
  ·rw[decide_eq_true g2];simp
  ·rw[decide_eq_false g,decide_eq_false g2];rfl
 have hJ5:T (fun n _=>Hw e n) (fun o=>o= .m (!(gp e.mon&&gp e.name))):=by
  simp only[Hw]
  refine T.bind (TB _) fun x hx=>?_
  subst hx
  refine T.cond (fun h=>T.bind (TB _) fun x hx=>?_) fun h=>T.ret (by rw[h];rfl)
  subst hx
  exact T.cond (fun h2=>T.ret (by rw[h,h2];rfl)) fun h2=>T.ret (by rw[h,h2];rfl)
 have S8:∀b:Bool,(decide ((e.kids.l.length:Int)=q7 e.op)=true)->(if e.op=4 then gp e.mon&&gp e.name else decide (e.mon=E0)&&decide (e.name=E0))=true->T (fun(n _:Nat)=>if e.n_≥0 then bif (decide (e.op=1) || decide (e.op=7))then some true else if e.n_=0 then some true else some false else some false) (·=jR e):=fun _ h1 h2=>by
  refine T.ite (fun g=>T.cond (fun g2=>T.ret ?_) fun g2=>T.ite (fun g3=>T.ret ?_) fun g3=>T.ret ?_) fun g=>T.ret ?_
  ·rw[jR,h1,h2,Bool.or_assoc,g2,decide_eq_true (by omega)];simp
  ·rw[jR,h1,h2,decide_eq_true (p:=0≤e.n_) (by omega),decide_eq_true g3];rfl
  ·rw[jR,decide_eq_false g3,Bool.or_assoc,g2];simp
  ·rw[jR,decide_eq_false (p:=0≤e.n_) (by omega)];simp
 simp only[zf]
 refine T.ite (fun g=>T.bind Sp fun o ho=>?_) fun g=>T.bind Sp fun o ho=>?_
 ·subst ho
  refine T.bind (Us _) fun x hx=>?_
  subst hx
  refine T.ite (fun g2=>T.ret (by rw[jR,decide_eq_false g2];rfl)) fun g2=>T.bind hJ5 fun o ho=>?_
  subst ho
  refine T.cond (fun h=>T.ret ?_) fun h=>S8 true (decide_eq_true (Decidable.not_not.1 g2)) ?_
  ·rw[Bool.not_eq_true']at h
   rw[jR,if_pos g,h];simp
  ·rw[Bool.not_eq_false']at h
   rw[if_pos g];exact h
 ·subst ho
  refine T.bind (Us _) fun x hx=>?_
  subst hx
  refine T.ite (fun g2=>T.ret (by rw[jR,decide_eq_false g2];rfl)) fun g2=>T.ite (fun g3=>T.ite (fun g4=>S8 true (decide_eq_true (Decidable.not_not.1 g2)) ?_) fun g4=>T.ret ?_) fun g3=>T.ret ?_
  ·rw[if_neg g,decide_eq_true (p:=e.mon=E0) g3,decide_eq_true (p:=e.name=E0) g4];rfl
  ·rw[jR,if_neg g,decide_eq_false (p:=e.name=E0) g4];simp
  ·rw[jR,if_neg g,decide_eq_false (p:=e.mon=E0) g3];simp
theorem aah {l:List au}(h:∀e∈l,T (fun n _=>nF n e) (·=eA e)):T (fun n _=>qt n l) (·=l.all eA):=by
 induction l with
 | nil=>simp only[qt];exact T.ret rfl
 | cons e l ih=>
  simp only[qt]
  refine T.bind (h e List.mem_cons_self) fun x hx=>?_
  subst hx
  refine T.cond (fun g=>(ih fun e he=>h e (List.mem_cons_of_mem _ he)).mono fun r hr=>?_) fun g=>T.ret ?_
  ·rw[hr,List.all_cons,g];rfl
  ·rw[List.all_cons,g];rfl
theorem aag:∀e:au,bE e=true->T (fun n _=>nF n e) (·=eA e):=au.eZ fun e ih hb=>by
 obtain⟨h1,h2⟩:=qn hb
 simp only[Rb]
 refine T.bind (acQ e) fun x hx=>?_
 subst hx
 refine T.cond (fun g=>T.pos (by omega) ((aah fun k hk=>ih k hk (h2 k hk)).mono fun r hr=>?_)) fun g=>T.ret ?_
 ·rw[hr,F0,g];rfl
 ·rw[F0,g];rfl
theorem aam {e:au}(hb:bE e=true):T (fun n _=>Hu n e) (·=if eA e=true then 0 else 20):=by
 obtain⟨r,hr,N,hN⟩:=aag e hb
 refine⟨_,rfl,N,fun n k h1 h2=>?_⟩
 simp only[Hu,hN n k h1 h2,hr]
 cases eA e<;>rfl
theorem Gq {p:aj}(hf:dI p):T (fun n _=>vG n p) (·=cu p):=by
 have hl:=hf.1
 have hL:T (fun n k=>yJ p n k ([]:List bI) 0) (fun o=>match o with | .e0 v _=>v=cu p):=by
  refine T.count (fun j v n k=>yJ p n k v j) p.aw.l.length (fun j v=>v=(p.aw.l.take j).flatMap fun m=>m.vars.l) (fun j v hj hI rec=>?_) (fun v hI=>?_) 0 [] (by omega) (by simp)
  all_goals simp only[yJ]
  ·subst hI
   have hg:p.aw.l[j]? =some p.aw.l[j]:=List.getElem?_eq_getElem hj
   have he:((p.aw.l.take j).flatMap fun m=>m.vars.l)++p.aw.l[j].vars.l=(p.aw.l.take (j+1)).flatMap fun m=>m.vars.l:=by rw[eQ hg,List.flatMap_append,List.flatMap_cons,List.flatMap_nil,List.append_nil]
   refine T.pos (by omega) (T.nat hg (T.pos (room (by omega) ?_) (T.pos (aW (by omega) (by omega)) (rec _ he))))
   rw[he,Di]
   have:=xM hf (j+1) (by omega)
   omega
  ·subst hI
   exact T.neg (by omega) (T.ret (by rw[List.take_length];rfl))
 simp only[vG]
 refine T.bind (T.dg hL) fun o ho=>?_
 cases o with
 | e0 v i=>exact T.ret ho
theorem adY {p:aj}(hf:dI p)(s:ByteArray):T (fun n _=>Gr n p s) (·=dy p s):=by
 have hl:=hf.1
 have hL:T (fun n k=>y7 p.aw s n k 0) (fun o=>match o with | .r v=>∃i:Nat,v=(i:Int)∧ir p s=some i | .e0 _=>ir p s=none):=by
  refine T.any (l:=p.aw.l) (fun i n k=>y7 p.aw s n k i) (ln s) (fun j a ha hb hm=>?_) (fun j a ha hb rec=>?_) (fun hf=>?_)
  all_goals simp only[y7,Nt]
  ·have hj:=(List.getElem?_eq_some_iff.1 ha).1
   have dt:a.name=s:=by simpa[ln]using hb
   exact T.pos (by omega) (T.nat ha (T.bind (P:=(·=true)) (T.pos dt (T.ret rfl)) fun x hx=>T.cond (fun _=>T.ret ⟨j,rfl,(uS ha hb hm).1⟩) fun h=>by rw[hx]at h;cases h))
  ·have hj:=(List.getElem?_eq_some_iff.1 ha).1
   have dt:¬a.name=s:=by simpa[ln]using hb
   exact T.pos (by omega) (T.nat ha (T.bind (P:=(·=false)) (T.neg dt (T.ret rfl)) fun x hx=>T.cond (fun h=>by rw[hx]at h;cases h) fun _=>T.pos (aW (by omega) (by omega)) rec))
  ·exact T.neg (by omega) (T.ret (xT hf).1)
 simp only[Gr,Oc]
 refine T.bind (P:=fun x=>(∃i:Nat,x=(i:Int)∧ir p s=some i)∨(x= -1∧ir p s=none)) (T.bind (T.dg hL) fun o ho=>?_) fun x hx=>?_
 ·cases o with
  | r v=>exact T.ret (.inl ho)
  | e0 v=>exact T.ret (.inr ⟨rfl,ho⟩)
 ·rcases hx with ⟨i,rfl,hi⟩ | ⟨rfl,hi⟩
  ·refine T.pos (by omega) (T.ret ?_)
   rw[if_neg (by omega)]
   simp only[dy,hi]
  ·refine T.neg (by omega) (T.ret ?_)
   rw[if_pos (by omega)]
   simp only[dy,hi]
theorem Ns {p:aj}(hf:dI p)(mon name:ByteArray):T (fun n _=>CO n p mon name) (·=eg p mon name):=by
 have hl:=hf.1
 simp only[CO]
 refine T.bind (adY hf mon) fun x hx=>?_
 subst hx
 cases hi:ir p mon with
 | none=>
  have hp:dy p mon=(0,false):=by simp only[dy,hi]
  rw[hp]
  exact T.cond (fun h=>by cases h) fun _=>T.ret (by simp only[eg,fU,hi,Option.bind_none])
 | some i=>
  have hp:dy p mon=((i:Int),true):=by simp only[dy,hi]
  rw[hp]
  refine T.cond (fun _=>?_) (fun h=>by cases h)
  obtain⟨m,hm,hn⟩:=Gn hi
  have hil:=TQ hi
  have hb:=(hf.2 m (List.mem_of_getElem? hm)).1
  have hO:fU p mon name=(m.vars.l.findIdx? (jS name)).map (jv p i+·):=by simp only[fU,hi,Option.bind_some,hm]
  have hL:T (fun n k=>y8 m.vars name n k 0) (fun o=>match o with | .r v=>∃j:Nat,v=(j:Int)∧m.vars.l.findIdx? (jS name)=some j | .e0 _=>m.vars.l.findIdx? (jS name)=none):=by
   refine T.any (l:=m.vars.l) (fun i n k=>y8 m.vars name n k i) (jS name) (fun j a ha hb hm=>?_) (fun j a ha hb rec=>?_) (fun hf=>?_)
   all_goals simp only[y8,Nu]
   ·have hj:=(List.getElem?_eq_some_iff.1 ha).1
    have dt:a.name=name:=by simpa[jS]using hb
    exact T.pos (by omega) (T.nat ha (T.bind (P:=(·=true)) (T.pos dt (T.ret rfl)) fun x hx=>T.cond (fun _=>T.ret ⟨j,rfl,(uS ha hb hm).1⟩) fun h=>by rw[hx]at h;cases h))
   ·have hj:=(List.getElem?_eq_some_iff.1 ha).1
    have dt:¬a.name=name:=by simpa[jS]using hb
    exact T.pos (by omega) (T.nat ha (T.bind (P:=(·=false)) (T.neg dt (T.ret rfl)) fun x hx=>T.cond (fun h=>by rw[hx]at h;cases h) fun _=>T.pos (aW (by omega) (by omega)) rec))
   ·exact T.neg (by omega) (T.ret (xT hf).1)
  simp only[Od]
  refine T.nat hm (T.bind (P:=fun x=>(∃i:Nat,x=(i:Int)∧m.vars.l.findIdx? (jS name)=some i)∨(x= -1∧m.vars.l.findIdx? (jS name)=none)) (T.bind (T.dg hL) fun o ho=>?_) fun x hx=>?_)
  ·cases o with
   | r v=>exact T.ret (.inl ho)
   | e0 v=>exact T.ret (.inr ⟨rfl,ho⟩)
  ·rcases hx with ⟨j,rfl,hj⟩ | ⟨rfl,hj⟩
   ·refine T.neg (by omega) (T.pos ⟨by omega,by omega⟩ ?_)
    have htk:(p.aw.l.drop 0).take ((i:Int).toNat - 0)=p.aw.l.take i:=by simp
    have va:=(List.findIdx?_eq_some_iff_getElem.1 hj).1
    have hlen:(p.aw.l.take i).length=i:=by rw[List.length_take];omega
    have hS:T (fun n k=>yI p name (i:Int) n k (j:Int) 0) (fun o=>match o with | .e0 v _=>v=(j:Int)+jv p i):=by
     refine T.count (fun q v n k=>yI p name (i:Int) n k v q) i (fun q v=>v=(j:Int)+jv p q) (fun q v hq hI rec=>?_) (fun v hI=>?_) 0 (j:Int) (by omega) (by simp[jv])
     all_goals simp only[yI,htk]
     ·subst hI
      have S3:q<p.aw.l.length:=by omega
      have SJ:p.aw.l[q]? =some p.aw.l[q]:=List.getElem?_eq_getElem S3
      have hgt:(p.aw.l.take i)[q]? =some p.aw.l[q]:=by rw[List.getElem?_take,if_pos hq];exact SJ
      have hc:=xM hf q (by omega)
      have BH:=(hf.2 _ (List.getElem_mem S3)).1
      refine T.pos (by omega) (T.nat hgt (T.pos (aW (by omega) (by omega)) (T.pos (aW (by omega) (by omega)) (rec _ ?_))))
      rw[Lv SJ];simp;omega
     ·exact T.neg (by omega) (T.ret hI)
    refine T.bind (T.dg hS) fun o ho=>?_
    cases o with
    | e0 v _=>
     have ho:v=(j:Int)+jv p i:=ho
     refine T.ret ?_
     simp only[eg,hO,hj,Option.map_some,ho]
     simp;omega
   ·refine T.pos (by omega) (T.ret ?_)
    simp only[eg,hO,hj,Option.map_none]
end Go.Vig
namespace Go.Vig
open Go Go.Abs
variable [Kn]
def eB (a b:Int×Int):Int×Int:=if a.1≠0 then a else b
theorem R2 {e at_:Int}{a:Sl aH}{b:Sl aO}{c:Sl bI}{er:Int×Int}:T (fun n _=>zi n e at_ a b c er.1 er.2) (·=eB er (e,at_)):=by
 simp only[zi,eB]
 refine T.ite (fun g=>T.ret ?_) fun g=>T.ret ?_
 ·rw[if_neg (by simpa using g)]
 ·rw[if_pos g]
theorem M4 (a b c:Int×Int):eB (eB a b) c=eB a (eB b c):=by
 unfold eB
 by_cases h:a.1≠0
 ·simp only[if_pos h]
 ·simp only[if_neg h]
theorem F5 {a:Int×Int}:eB a (0,0)=if a.1≠0 then a else(0,0):=rfl
def tH (op:Int):dx:={ bW:=if op=4 then 0 else pq op,parts:=if op=1∨op=2∨op=3∨op=4 then 0 else j2 op}
theorem agJ {op:Int}(h0:1≤op)(h1:op≤17):T (fun n _=>HD n op) (·=tH op):=by
 simp only[HD]
 refine T.pos ⟨by omega,by omega⟩ ?_
 obtain⟨k,rfl⟩:∃k:Nat,op=(k:Int):=⟨op.toNat,by omega⟩
 obtain rfl | rfl | rfl | rfl | rfl | rfl | rfl | rfl | rfl | rfl | rfl | rfl | rfl | rfl | rfl | rfl | rfl:k=1∨k=2∨k=3∨k=4∨k=5∨k=6∨k=7∨k=8∨k=9∨k=10∨k=11∨k=12∨k=13∨k=14∨k=15∨k=16∨k=17:=by omega
 all_goals exact T.nat rfl (T.ret rfl)
def XY (p:aj)(e:au)(er:Int×Int)(r:Int×Int×Int):Prop:=r.2=eB er (bK p e).2∧(r.2.1=0->r.1=(bK p e).1)
def P9 (p:aj)(e:au):Prop:=∀er:Int×Int,(er.1=0->er.2=0)->T (fun n _=>pL n e p.aw p.aR (Sl.gr (cu p)) er.1 er.2) (XY p e er)
theorem LX {α:Type}{c:α->Int×Int}:∀{l:List α}{j:Nat}{a:α},l[j]? =some a->aJ (fun _=>c) 0 (l.take (j+1))=eB (aJ (fun _=>c) 0 (l.take j)) (if(c a).1≠0 then c a else(0,0))
 | [],j,a,h=>by cases h
 | b::l,j,a,h=>by
  have hi:∀(l:List α) (i k:Nat),aJ (fun _=>c) i l=aJ (fun _=>c) k l:=by
   intro l
   induction l with
   | nil=>intro i k;rfl
   | cons x l ih=>intro i k;simp only[aJ];rw[ih (i+1) (k+1)]
  cases j with
  | zero=>simp at h;subst h;simp[aJ,eB]
  | succ j=>
   simp only[List.take_succ_cons,aJ]
   by_cases hb:(c b).1≠0
   ·rw[if_pos hb,if_pos hb,eB,if_pos hb]
   ·rw[if_neg hb,if_neg hb,hi _ 1 0,hi _ 1 0]
    exact LX (by simpa using h)
theorem Wo {p:aj}{e:au}(h:(bK p e).2.1=0):(bK p e).2=(0,0):=by
 rw[rB]at h ⊢
 by_cases g:e.op=4
 ·rw[if_pos g]at h ⊢
  unfold mE at h ⊢
  generalize ((fU p e.mon e.name).bind fun k=>(cu p)[k]?)=o at h ⊢
  cases o with
  | none=>cases h
  | some v=>simp only;split<;>rfl
 ·rw[if_neg g]at h ⊢
  by_cases g2:(j9 p e).1≠0
  ·rw[if_pos g2]at h;exact absurd h g2
  ·rw[if_neg g2]
theorem CC {a b:Int×Int}(h:(eB a b).1=0):a.1=0∧b.1=0∧eB a b=b:=by
 unfold eB at h ⊢
 by_cases g:a.1≠0
 ·rw[if_pos g]at h;exact absurd h g
 ·rw[if_neg g]at h ⊢
  exact⟨by simpa using g,h,rfl⟩
theorem M5 {a b:Int×Int}(ha:a.1=0->a.2=0)(hb:b.1=0->b.2=0):(eB a b).1=0->(eB a b).2=0:=fun h=>by
 obtain⟨_,h2,h3⟩:=CC h
 rw[h3];exact hb h2
theorem Fh {α:Type}{c:Nat->α->Int×Int}{i:Nat}{l:List α}:(aJ c i l).1=0->(aJ c i l).2=0:=fun h=>congrArg Prod.snd (xS h)
def n8 (p:aj)(k:au):Int×Int:=(bK p k).2
theorem aap {p:aj}{e:au}(hl:e.kids.l.length≤300)(ih:∀k∈e.kids.l,P9 p k){Vo:dx}{er:Int×Int}(sK:er.1=0->er.2=0):
  T (fun n k=>wA (pL n) e p.aw p.aR (Sl.gr (cu p)) Vo n k 0 er.1 er.2 (List.replicate e.kids.l.length (0:Int))) (fun o=>match o with | .e0 _ a b v=>(a,b)=eB er (aJ (fun _=>n8 p) 0 e.kids.l)∧v.length=e.kids.l.length∧(a=0->v=e.kids.l.map fun k=>(bK p k).1)):=by
 refine T.count (fun i (v:(Int×Int)×List Int) n k=>wA (pL n) e p.aw p.aR (Sl.gr (cu p)) Vo n k i v.1.1 v.1.2 v.2) e.kids.l.length
  (fun j v=>v.1=eB er (aJ (fun _=>n8 p) 0 (e.kids.l.take j))∧v.2.length=e.kids.l.length∧(v.1.1=0->v.2.take j=(e.kids.l.take j).map fun k=>(bK p k).1)) (fun j v hj hI rec=>?_) (fun v hI=>?_) 0 (er,List.replicate e.kids.l.length 0) (by omega) ⟨?_,by simp,by simp⟩
 ·simp only[wA]
  obtain⟨i1,i2,i3⟩:=hI
  have hg:e.kids.l[j]? =some e.kids.l[j]:=List.getElem?_eq_getElem hj
  have fO:v.1.1=0->v.1.2=0:=by rw[i1];exact M5 sK Fh
  have hv:v.2[j]? =some (v.2[j]'(by omega)):=List.getElem?_eq_getElem (by omega)
  refine T.pos (by omega) (T.nat hg (T.bind (ih _ (List.getElem_mem hj) v.1 fO) fun x hx=>?_))
  obtain⟨x1,x2⟩:=hx
  refine T.pos ⟨by omega,by omega⟩ (T.nat hv (T.pos (aW (by omega) (by omega)) (rec (x.2,_) ⟨?_,by simp[i2],fun h0=>?_⟩)))
  ·have hz:(if(n8 p e.kids.l[j]).1≠0 then n8 p e.kids.l[j]else(0,0))=n8 p e.kids.l[j]:=by
    by_cases hh:(n8 p e.kids.l[j]).1≠0
    ·rw[if_pos hh]
    ·rw[if_neg hh];exact(Wo (by simpa[n8]using hh)).symm
   rw[LX hg,hz,←M4,←i1]
   exact x1
  ·have h0:x.2.1=0:=h0
   rw[x1]at h0
   obtain⟨h1,h2,h3⟩:=CC h0
   have Cn:=x2 (by rw[x1];exact h0)
   show((v.2.set (j:Int).toNat x.1).take (j+1))=_
   have sO:(j:Int).toNat=j:=by omega
   rw[sO,eQ (l:=v.2.set j x.1) (a:=x.1) (by rw[List.getElem?_set];simp;omega),eQ hg,List.map_append,←i3 h1,Cn]
   congr 1
   rw[List.take_set_of_le (by omega)]
 ·simp only[wA]
  obtain⟨i1,i2,i3⟩:=hI
  rw[List.take_length]at i1 i3
  refine T.neg (by omega) (T.ret ⟨i1,i2,fun h=>?_⟩)
  rw[←i3 h,←i2,List.take_length]
 ·show er=eB er (0,0)
  rw[F5]
  by_cases h:er.1≠0
  ·rw[if_pos h]
  ·rw[if_neg h]
   have h1:er.1=0:=by simpa using h
   exact Prod.ext h1 (sK h1)
def lp (p:aj)(e k:au):Int×Int:=if(bK p k).1≠fA p e then(70,k.at_)else(0,0)
theorem aao {p:aj}{e:au}(hl:e.kids.l.length≤300)(jB:0<e.kids.l.length->5≤e.op){er:Int×Int}{v:List Int}(hv:v.length=e.kids.l.length)(yo:er.1=0->v=(e.kids.l.map fun k=>(bK p k).1)∧∀k∈e.kids.l,(bK p k).1≠0)(sK:er.1=0->er.2=0):
  T (fun n k=>pM e p.aw p.aR (Sl.gr (cu p)) v n k 0 er.1 er.2 (tH e.op)) (fun o=>match o with | .e2 _ a b s=>(a,b)=eB er (aJ (fun _=>lp p e) 0 e.kids.l)∧s.bW=(tH e.op).bW):=by
 refine T.count (fun i (q:(Int×Int)×dx) n k=>pM e p.aw p.aR (Sl.gr (cu p)) v n k i q.1.1 q.1.2 q.2) e.kids.l.length
  (fun j q=>q.2.bW=(tH e.op).bW∧(er.1≠0->q.1=er)∧(er.1=0->q.1=aJ (fun _=>lp p e) 0 (e.kids.l.take j)∧(0<e.kids.l.length->q.2.parts=fA p e∨(j=0∧q.2.parts=0∧j2 e.op=0)))) (fun j q hj hI rec=>?_) (fun q hI=>?_) 0 (er,tH e.op) (by omega) ⟨rfl,fun _=>rfl,fun h=>⟨?_,?_⟩⟩
 ·simp only[pM]
  obtain⟨i1,i2,i3⟩:=hI
  have hg:e.kids.l[j]? =some e.kids.l[j]:=List.getElem?_eq_getElem hj
  have Tc:v[j]? =some (v[j]'(by omega)):=List.getElem?_eq_getElem (by omega)
  have xX:0<e.kids.l.length:=by omega
  have FV:er.1=0->(v[j]'(by omega))=(bK p e.kids.l[j]).1:=fun h=>by
   have:=(yo h).1
   have h2:v[j]? =some (bK p e.kids.l[j]).1:=by rw[this,List.getElem?_map,hg];rfl
   rw[Tc]at h2
   exact Option.some.inj h2
  have acz:j2 e.op=0->j=0->er.1=0->fA p e=(v[j]'(by omega)):=fun hw hj0 h=>by
   rw[FV h]
   subst hj0
   rw[fA,if_pos hw,List.head?_eq_getElem?,List.getElem?_eq_getElem xX];rfl
  have qG:=LX (c:=lp p e) hg
  refine T.pos (by omega) (T.pos ⟨by omega,by omega⟩ (T.nat Tc (T.ite (fun g=>T.ite (fun g2=>absurd rfl g2) fun _=>T.pos (aW (by omega) (by omega)) (rec (q.1,{ bW:=q.2.bW,parts:=v[j]'(by omega)}) ⟨i1,i2,fun h=>?_⟩)) fun g=>T.ite (fun g2=>T.nat hg (T.bind R2 fun x hx=>T.pos (aW (by omega) (by omega)) (rec (x,q.2) ⟨i1,fun h=>?_,fun h=>?_⟩))) fun g2=>T.pos (aW (by omega) (by omega)) (rec (q.1,q.2) ⟨i1,i2,fun h=>?_⟩))))
  ·obtain⟨a1,a2⟩:=i3 h
   have hw:(v[j]'(by omega))=fA p e:=by
    rcases a2 xX with a2 | ⟨a2,a3,a4⟩
    ·rw[g]at a2
     by_cases hz:j2 e.op=0
     ·have:fA p e≠0:=by
       rw[fA,if_pos hz,List.head?_eq_getElem?,List.getElem?_eq_getElem xX]
       exact(yo h).2 _ (List.getElem_mem xX)
      exact absurd a2.symm this
     ·rw[fA,if_neg hz]at a2;exact absurd a2.symm hz
    ·exact(acz a4 a2 h).symm
   refine⟨?_,fun _=>.inl hw⟩
   rw[qG,a1]
   have hm:lp p e e.kids.l[j]=(0,0):=by rw[lp,←FV h,hw,if_neg (by simp)]
   rw[hm,if_neg (by simp),F5]
   by_cases hh:(aJ (fun _=>lp p e) 0 (e.kids.l.take j)).1≠0
   ·rw[if_pos hh]
   ·rw[if_neg hh];exact xS (by simpa using hh)
  ·show x=er
   rw[hx,i2 h,eB,if_pos h]
  ·obtain⟨a1,a2⟩:=i3 h
   have a3:q.2.parts=fA p e:=(a2 xX).resolve_right fun⟨_,a3,_⟩=>g a3
   refine⟨?_,fun _=>.inl a3⟩
   show x=_
   have hm:lp p e e.kids.l[j]=(70,e.kids.l[j].at_):=by rw[lp,←FV h,←a3,if_pos g2]
   rw[qG,hx,a1,hm,if_pos (show(70:Int)≠0 by decide)]
  ·obtain⟨a1,a2⟩:=i3 h
   have a3:q.2.parts=fA p e:=(a2 xX).resolve_right fun⟨_,a3,_⟩=>g a3
   refine⟨?_,fun _=>.inl a3⟩
   have hm:lp p e e.kids.l[j]=(0,0):=by rw[lp,←FV h,←a3,if_neg g2]
   show q.1=_
   rw[qG,a1,hm,if_neg (by simp),F5]
   by_cases hh:(aJ (fun _=>lp p e) 0 (e.kids.l.take j)).1≠0
   ·rw[if_pos hh]
   ·rw[if_neg hh];exact xS (by simpa using hh)
 ·simp only[pM]
  obtain⟨i1,i2,i3⟩:=hI
  rw[List.take_length]at i3
  refine T.neg (by omega) (T.ret ⟨?_,i1⟩)
  show q.1=_
  by_cases h:er.1≠0
  ·rw[i2 h,eB,if_pos h]
  ·rw[(i3 (by simpa using h)).1,eB,if_neg h]
 ·show er=(0,0)
  exact Prod.ext h (sK h)
 ·intro hz
  have h5:=jB hz
  have hs:(tH e.op).parts=j2 e.op:=by show(if _ then(0:Int)else _)=_;rw[if_neg (by omega)]
  by_cases hw:j2 e.op=0
  ·exact .inr ⟨rfl,hs.trans hw,hw⟩
  ·exact .inl (by rw[hs,fA,if_neg hw])
theorem SE {e:au}(h:jR e=true):1≤e.op∧e.op≤17∧(e.op≤4->e.kids.l=[])∧(5≤e.op∧e.op≤7->e.kids.l.length=1)∧(8≤e.op->e.kids.l.length=2):=by
 simp only[jR,Bool.and_eq_true,decide_eq_true_eq]at h
 have h1:=h.1.1.1
 unfold q7 at h1
 split at h1
 ·exact⟨by omega,by omega,fun _=>List.eq_nil_of_length_eq_zero (by omega),fun _=>by omega,fun _=>by omega⟩
 ·split at h1
  ·exact⟨by omega,by omega,fun _=>by omega,fun _=>by omega,fun _=>by omega⟩
  ·split at h1
   ·exact⟨by omega,by omega,fun _=>by omega,fun _=>by omega,fun _=>by omega⟩
   ·omega
theorem Tl {e:au}(h:eA e=true):jR e=true∧∀k∈e.kids.l,eA k=true:=by
 rw[F0,Bool.and_eq_true]at h
 exact⟨h.1,List.all_eq_true.1 h.2⟩
theorem aaq {p:aj}(hf:dI p):∀e:au,bE e=true->eA e=true->P9 p e:=au.eZ fun e ih hb hs er sK=>by
 obtain⟨hl,hk⟩:=qn hb
 obtain⟨hh,ik⟩:=Tl hs
 obtain⟨o1,o2,o3,o4,o5⟩:=SE hh
 refine T.n1 ?_
 simp only[pL]
 refine T.ite (fun g=>?_) fun g=>T.bind (agJ o1 o2) fun x hx=>T.pos (Gk (by omega) (by omega)) ?_
 ·have hv:bK p e=mE p e:=by rw[rB,if_pos g]
  cases qR:fU p e.mon e.name with
  | none=>
   have il:eg p e.mon e.name=(0,false):=by simp only[eg,qR]
   have ht:bK p e=(0,61,e.at_):=by rw[hv];simp only[mE,qR,Option.bind_none]
   refine T.bind (P:=(·=(0,false))) ?_ fun x hx=>?_
   ·simp only[HC]
    refine T.bind (Ns (p:=p) hf e.mon e.name) fun y hy=>?_
    rw[il]at hy
    subst hy
    exact T.cond (fun h=>by cases h) fun _=>T.ret rfl
   subst hx
   refine T.cond (fun h=>by cases h) fun _=>T.bind R2 fun y hy=>T.ret ?_
   subst hy
   refine⟨?_,fun h=>?_⟩
   ·rw[ht]
   ·have:=(CC (b:=(61,e.at_)) h).2.1
    cases this
  | some k=>
   have il:eg p e.mon e.name=((k:Int),true):=by simp only[eg,qR]
   obtain⟨_,_,_,v,_,_,_,_,_,_,_,qH⟩:=Df qR
   have ht:bK p e=(if v.type=1 then 1 else 2,0,0):=by
    rw[hv];simp only[mE,qR,Option.bind_some,qH];split<;>rfl
   refine T.bind (P:=(·=((if v.type=1 then 1 else 2:Int),true))) ?_ fun x hx=>?_
   ·simp only[HC]
    refine T.bind (Ns (p:=p) hf e.mon e.name) fun y hy=>?_
    rw[il]at hy
    subst hy
    refine T.cond (fun _=>T.nat (l:=(Sl.gr (cu p)).l) qH (T.ite (fun g=>T.ret ?_) fun g=>T.ret ?_)) fun h=>by cases h
    ·rw[if_pos g]
    ·rw[if_neg g]
   subst hx
   refine T.cond (fun _=>T.ret ⟨?_,fun _=>?_⟩) fun h=>by cases h
   ·rw[ht,F5]
    show er=_
    by_cases h:er.1≠0
    ·rw[if_pos h]
    ·rw[if_neg h]
     have h1:er.1=0:=by simpa using h
     exact Prod.ext h1 (sK h1)
   ·rw[ht]
 ·subst hx
  refine T.bind (T.dg (aap hl (fun k BV=>ih k BV (hk k BV) (ik k BV)) sK)) fun o ho=>?_
  cases o with
  | e0 _ a b v=>
   obtain⟨h1,h2,h3⟩:(a,b)=eB er (aJ (fun _=>n8 p) 0 e.kids.l)∧v.length=e.kids.l.length∧(a=0->v=e.kids.l.map fun k=>(bK p k).1):=ho
   have fO:(a,b).1=0->(a,b).2=0:=by rw[h1];exact M5 sK Fh
   refine T.bind (T.dg (aao (er:=(a,b)) hl (fun h=>by
    by_cases h5:e.op≤4
    ·have:=o3 h5;rw[this]at h;simp at h
    ·omega) h2 (fun h=>⟨h3 h,fun k BV=>Wn ?_⟩) fO)) fun o bu=>?_
   ·rw[h1]at h
    exact sB (c:=n8 p) (CC h).2.1 BV
   ·cases o with
    | e2 _ a2 b2 s=>
     obtain⟨g1,g2⟩:(a2,b2)=eB (a,b) (aJ (fun _=>lp p e) 0 e.kids.l)∧s.bW=(tH e.op).bW:=bu
     have ht:bK p e=if(j9 p e).1≠0 then(0,j9 p e)else(pq e.op,0,0):=by rw[rB,if_neg g]
     have he:j9 p e=eB (aJ (fun _=>n8 p) 0 e.kids.l) (aJ (fun _=>lp p e) 0 e.kids.l):=rfl
     have h22:(bK p e).2=j9 p e:=by
      rw[ht]
      by_cases h:(j9 p e).1≠0
      ·rw[if_pos h]
      ·rw[if_neg h]
       have h0:(j9 p e).1=0:=by simpa using h
       refine(Prod.ext h0 ?_).symm
       rw[he]at h0 ⊢
       exact M5 Fh Fh h0
     refine T.ret ⟨?_,fun h=>?_⟩
     ·show(a2,b2)=_
      rw[g1,h1,M4,h22,he]
     ·show s.bW=_
      have h0:(eB er (eB (aJ (fun _=>n8 p) 0 e.kids.l) (aJ (fun _=>lp p e) 0 e.kids.l))).1=0:=by
       rw[←M4,←h1,←g1];exact h
      have uZ:(j9 p e).1=0:=(CC h0).2.1
      rw[g2,ht,if_neg (by simp[uZ])]
      show(if e.op=4 then(0:Int)else pq e.op)=pq e.op
      rw[if_neg g]
def Dz (p:aj)(e:au):Int×Int×Int:=if eA e=true then bK p e else(0,20,0)
theorem ais {p:aj}{e:au}(h:(bK p e).2.1≠0):(bK p e).1=0:=by
 rw[rB]at h ⊢
 by_cases g:e.op=4
 ·rw[if_pos g]at h ⊢
  unfold mE at h ⊢
  generalize ((fU p e.mon e.name).bind fun k=>(cu p)[k]?)=o at h ⊢
  cases o with
  | none=>rfl
  | some v=>simp only at h;split at h<;>exact absurd rfl h
 ·rw[if_neg g]at h ⊢
  by_cases g2:(j9 p e).1≠0
  ·rw[if_pos g2]
  ·rw[if_neg g2]at h;exact absurd rfl h
theorem aix {p:aj}(hf:dI p){e:au}(hb:bE e=true):T (fun n _=>Hz n p e) (·=Dz p e):=by
 simp only[Hz]
 refine T.bind (aam hb) fun x hx=>?_
 subst hx
 unfold Dz
 by_cases hs:eA e=true
 ·rw[if_pos hs,if_pos hs]
  refine T.neg (fun h=>h rfl) (T.bind (P:=(·=Sl.gr (cu p))) ?_ fun y hy=>?_)
  ·simp only[OS]
   refine T.bind (Gq hf) fun y hy=>T.ret ?_
   rw[hy]
  ·subst hy
   refine T.bind (aaq hf e hb hs (0,0) fun _=>rfl) fun z hz=>?_
   obtain⟨z1,z2⟩:=hz
   have z1:z.2=(bK p e).2:=by rw[z1,eB,if_neg (by simp)]
   refine T.ite (fun g=>T.ret ?_) fun g=>T.ret ?_
   ·have h1:=ais (p:=p) (e:=e) (by rw[←z1];exact g)
    exact Prod.ext h1.symm z1
   ·have h0:z.2.1=0:=by simpa using g
    have h2:=Wo (p:=p) (e:=e) (by rw[←z1];exact h0)
    exact Prod.ext (z2 h0) h2.symm
 ·rw[if_neg hs,if_neg hs]
  exact T.pos (by decide) (T.ret rfl)
end Go.Vig
