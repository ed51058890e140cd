/-
  Part of the proof: printed by the session's own program out of the program's form, or typed; it states no claim by itself.
-/
import Derived.Test.YtpadajnejknkeaaGreatVa
import Derived.Test.YtpadajnejknkeaaGreatFc
set_option linter.unusedVariables false
set_option linter.unusedSimpArgs false
set_option linter.unusedSectionVars false
set_option maxRecDepth 100000
namespace Go.Vig
open Go Go.Abs
variable [Kn]
def wS:af->Nat:=af.fold fun s bs=>1+kS s.e_+(bs.map fun b=>1+b.sum).sum
def cG (l:List af):Nat:=(l.map wS).sum
theorem xj (s:af):wS s=1+kS s.e_+(s.blocks.l.map fun b=>1+cG b.l).sum:=by
 rw[wS,af.fold_eq,List.map_map];rfl
def Left (ok:Prop)(w:Nat)(n r:Int):Prop:= -1≤r∧r≤n∧(0≤r->ok∧r+w≤n)
theorem Na {ok:Prop}{w:Nat}{n r:Int}(h: -1≤r)(h1:r≤n)(h2:¬0≤r):Left ok w n r:=⟨h,h1,fun g=>absurd g h2⟩
theorem CE {ok:Prop}{w:Nat}{n:Int}(h: -1≤n):Left ok w n (-1):=⟨by omega,h,by omega⟩
theorem afK:∀(e:au) (n:Int), -1≤n->n≤300->T (fun m _=>pX m e n) (Left (bE e=true) (kS e) n):=au.eZ fun e ih n h0 h1=>by
 refine T.n1 ?_
 simp only[pX]
 refine T.ite (fun _=>T.ret (CE h0)) fun g1=>T.ite (fun _=>T.ret (CE h0)) fun g2=>T.ite (fun _=>T.ret (CE h0)) fun g3=>T.pos (aW (by omega) (by omega)) ?_
 have hL:T (fun m k=>zE (pX m) e m k (n - 1) 0) (fun o=>match o with | .e0 r _=>Left (bE e=true) (kS e) n r):=by
  refine T.count (fun i v m k=>zE (pX m) e m k v i) e.kids.l.length (fun j v=> -1≤v∧v≤n - 1∧(0≤v->(∀x∈e.kids.l.take j,bE x=true)∧v+((e.kids.l.take j).map kS).sum≤n - 1)) (fun j v hj hI rec=>?_) (fun v hI=>?_) 0 (n - 1) (by omega) ⟨by omega,by omega,fun _=>⟨by simp,by simp⟩⟩
  all_goals simp only[zE]
  ·have hg:e.kids.l[j]? =some e.kids.l[j]:=List.getElem?_eq_getElem hj
   refine T.pos (by omega) (T.ite (fun g=>T.nat hg (T.bind (ih _ (List.getElem_mem hj) v hI.1 (by omega)) fun x hx=>T.pos (aW (by omega) (by omega)) (rec x ⟨hx.1,by have:=hx.2.1;omega,fun qW=>?_⟩))) fun g=>T.ret (Na (r:=v) hI.1 (by omega) (by omega)))
   obtain⟨h3,h4⟩:=hx.2.2 qW
   obtain⟨h5,h6⟩:=hI.2.2 g
   refine⟨fun y hy=>((kT hg).1 hy).elim (h5 y) fun q=>q▸h3,?_⟩
   rw[nr hg];omega
  ·refine T.neg (by omega) (T.ret (show Left _ _ n v from ⟨hI.1,by omega,fun g=>?_⟩))
   obtain⟨h5,h6⟩:=hI.2.2 g
   rw[List.take_length]at h5 h6
   rw[EN,Oy,decide_eq_true (by omega),decide_eq_true (by omega),decide_eq_true (by omega)]
   exact⟨by simpa using h5,by omega⟩
 refine T.bind (T.dg hL) fun o ho=>?_
 cases o with
 | e0 r v=>exact T.ret ho
def AR (l:Sl af):Prop:=∀n:Int, -1≤n->n≤300->T (fun m _=>mI m l n) (Left (dh l.l=true) (cG l.l) n)
theorem afL {l:Sl af}{i:Nat}{s:af}(hs:l.l[i]? =some s)(hl:s.blocks.l.length≤40)(ih:∀b∈s.blocks.l,AR b){n:Int}(h0: -1≤n)(h1:n≤300):
  T (fun m k=>zF (mI m) l (i:Int) m k n 0) (fun o=>match o with | .e2 r _=>Left (∀b∈s.blocks.l,dh b.l=true) (s.blocks.l.map fun b=>1+cG b.l).sum n r):=by
 refine T.count (fun j v m k=>zF (mI m) l (i:Int) m k v j) s.blocks.l.length (fun j v=> -1≤v∧v≤n∧(0≤v->(∀b∈s.blocks.l.take j,dh b.l=true)∧v+((s.blocks.l.take j).map fun b=>1+cG b.l).sum≤n)) (fun j v hj hI rec=>?_) (fun v hI=>?_) 0 n (by omega) ⟨by omega,by omega,fun _=>⟨by simp,by simp⟩⟩
 all_goals simp only[zF]
 ·have hg:s.blocks.l[j]? =some s.blocks.l[j]:=List.getElem?_eq_getElem hj
  refine T.nat hs (T.pos (by omega) (T.ite (fun g=>T.nat hg (T.pos (aW (by omega) (by omega)) (T.bind (ih _ (List.getElem_mem hj) (v - 1) (by omega) (by omega)) fun x hx=>T.pos (aW (by omega) (by omega)) (rec x ⟨hx.1,by have:=hx.2.1;omega,fun qW=>?_⟩)))) fun g=>T.ret (Na (r:=v) hI.1 hI.2.1 (by omega))))
  obtain⟨h3,h4⟩:=hx.2.2 qW
  obtain⟨h5,h6⟩:=hI.2.2 g
  refine⟨fun y hy=>((kT hg).1 hy).elim (h5 y) fun q=>q▸h3,?_⟩
  rw[nr hg];omega
 ·refine T.nat hs (T.neg (by omega) (T.ret (show Left _ _ n v from ⟨hI.1,hI.2.1,fun g=>?_⟩)))
  obtain⟨h5,h6⟩:=hI.2.2 g
  rw[List.take_length]at h5 h6
  exact⟨h5,h6⟩
theorem UO {l:Sl af}(ih:∀s∈l.l,∀b∈s.blocks.l,AR b):AR l:=fun n h0 h1=>by
 refine T.n1 ?_
 simp only[mI]
 refine T.ite (fun _=>T.ret (CE h0)) fun g0=>?_
 have hL:T (fun m k=>zG (mI m) l m k n 0) (fun o=>match o with | .r=>True | .e0 r _=>Left (dh l.l=true) (cG l.l) n r):=by
  refine T.count (fun i v m k=>zG (mI m) l m k v i) l.l.length (fun j v=> -1≤v∧v≤n∧(0≤v->(∀x∈l.l.take j,bS x=true)∧v+((l.l.take j).map wS).sum≤n)) (fun j v hj hI rec=>?_) (fun v hI=>?_) 0 n (by omega) ⟨by omega,by omega,fun _=>⟨by simp,by simp⟩⟩
  all_goals simp only[zG]
  ·have hg:l.l[j]? =some l.l[j]:=List.getElem?_eq_getElem hj
   refine T.pos (by omega) (T.ite (fun g=>T.nat hg (T.ite (fun _=>T.ret trivial) fun g1=>T.ite (fun _=>T.ret trivial) fun g2=>T.ite (fun _=>T.ret trivial) fun g3=>T.pos (aW (by omega) (by omega)) (T.bind (afK _ (v - 1) (by omega) (by omega)) fun x hx=>T.bind (T.dg (afL hg (by omega) (ih _ (List.getElem_mem hj)) hx.1 (by have:=hx.2.1;omega))) fun o ho=>?_))) fun g=>T.ret (Na (r:=v) hI.1 hI.2.1 (by omega)))
   cases o with
   | e2 r u=>
    have ho:Left _ _ x r:=ho
    refine T.pos (aW (by omega) (by omega)) (rec r ⟨ho.1,by have:=hx.2.1;have:=ho.2.1;omega,fun kI=>?_⟩)
    obtain⟨h3,h4⟩:=ho.2.2 kI
    obtain⟨h5,h6⟩:=hI.2.2 g
    obtain⟨h7,h8⟩:=hx.2.2 (by have:=ho.2.1;omega)
    have hb:bS l.l[j]=true:=by
     rw[QT,h7,decide_eq_true (by omega),decide_eq_true (by omega),decide_eq_true (by omega)]
     simpa using h3
    refine⟨fun y hy=>((kT hg).1 hy).elim (h5 y) fun q=>q▸hb,?_⟩
    rw[nr hg,xj];omega
  ·refine T.neg (by omega) (T.ret (show Left _ _ n v from ⟨hI.1,hI.2.1,fun g=>?_⟩))
   obtain⟨h5,h6⟩:=hI.2.2 g
   rw[List.take_length]at h5 h6
   refine⟨?_,h6⟩
   rw[dh,decide_eq_true (by omega)]
   simpa using h5
 refine T.bind (T.dg hL) fun o ho=>?_
 cases o with
 | r=>exact T.ret (CE h0)
 | e0 r v=>exact T.ret ho
theorem afM:∀s:af,∀b∈s.blocks.l,AR b:=af.eZ fun s ih b hb=>UO fun t ht=>ih b hb t ht
theorem UP (l:Sl af):AR l:=UO fun s _=>afM s
def oE (m:aH):Nat:=(m.methods.l.map fun me=>cG me.body.l).sum
def wP (p:aj):Nat:=(p.aw.l.map oE).sum+(p.aR.l.map fun r=>cG r.body.l).sum
theorem agD {m:aH}(hl:m.vars.l.length≤40):T (fun n k=>zH m n k 0) (fun o=>match o with | .r=>True | .e2 _=>(m.vars.l.all fun v=>decide (v.name.size≤200))=true):=by
 refine T.lP (l:=m.vars.l) (fun i n k=>zH m n k i) (fun v=>decide (v.name.size≤200)) (fun j a ha hj hr hx=>?_) (fun hf=>?_)
 all_goals simp only[zH]
 ·exact T.pos (by omega) (T.nat ha (T.ite (fun _=>T.ret trivial) fun g=>T.pos (aW (by omega) (by omega)) (hr (by simp;omega))))
 ·exact T.neg (by omega) (T.ret hf)
theorem agE {m:aH}(hl:m.methods.l.length≤40){n:Int}(h0: -1≤n)(h1:n≤300):T (fun N k=>zI m N k n 0) (fun o=>match o with | .r=>True | .e4 r _=>Left (∀me∈m.methods.l,me.name.size≤200∧dh me.body.l=true) (oE m) n r):=by
 refine T.count (fun j v N k=>zI m N k v j) m.methods.l.length (fun j v=> -1≤v∧v≤n∧(0≤v->(∀me∈m.methods.l.take j,me.name.size≤200∧dh me.body.l=true)∧v+((m.methods.l.take j).map fun me=>cG me.body.l).sum≤n)) (fun j v hj hI rec=>?_) (fun v hI=>?_) 0 n (by omega) ⟨by omega,by omega,fun _=>⟨by simp,by simp⟩⟩
 all_goals simp only[zI]
 ·have hg:m.methods.l[j]? =some m.methods.l[j]:=List.getElem?_eq_getElem hj
  refine T.pos (by omega) (T.nat hg (T.ite (fun _=>T.ret trivial) fun g=>T.bind (UP _ v hI.1 (by omega)) fun x hx=>T.pos (aW (by omega) (by omega)) (rec x ⟨hx.1,by have:=hx.2.1;omega,fun qW=>?_⟩)))
  obtain⟨h3,h4⟩:=hx.2.2 qW
  obtain⟨h5,h6⟩:=hI.2.2 (by have:=hx.2.1;omega)
  refine⟨fun y hy=>((kT hg).1 hy).elim (h5 y) fun q=>q▸⟨by omega,h3⟩,?_⟩
  rw[nr hg];omega
 ·refine T.neg (by omega) (T.ret (show Left _ _ n v from ⟨hI.1,hI.2.1,fun g=>?_⟩))
  obtain⟨h5,h6⟩:=hI.2.2 g
  rw[List.take_length]at h5 h6
  exact⟨h5,h6⟩
theorem agG {p:aj}(hl:p.aw.l.length≤20){n:Int}(h0: -1≤n)(h1:n≤300):T (fun N k=>zK p N k n 0) (fun o=>match o with | .r _=>True | .e0 r _=>Left (∀m∈p.aw.l,qp m=true) (p.aw.l.map oE).sum n r):=by
 refine T.count (fun j v N k=>zK p N k v j) p.aw.l.length (fun j v=> -1≤v∧v≤n∧(0≤v->(∀m∈p.aw.l.take j,qp m=true)∧v+((p.aw.l.take j).map oE).sum≤n)) (fun j v hj hI rec=>?_) (fun v hI=>?_) 0 n (by omega) ⟨by omega,by omega,fun _=>⟨by simp,by simp⟩⟩
 all_goals simp only[zK]
 ·have hg:p.aw.l[j]? =some p.aw.l[j]:=List.getElem?_eq_getElem hj
  refine T.pos (by omega) (T.nat hg (T.ite (fun _=>T.ret trivial) fun g=>T.ite (fun _=>T.ret trivial) fun g2=>T.ite (fun _=>T.ret trivial) fun g3=>T.bind (T.dg (agD (by omega))) fun o ho=>?_))
  cases o with
  | r=>exact T.ret trivial
  | e2 u=>
   have ho:(_:Bool)=true:=ho
   refine T.bind (T.dg (agE (by omega) hI.1 (by omega))) fun o bu=>?_
   cases o with
   | r=>exact T.ret trivial
   | e4 x u=>
    have hx:Left _ _ v x:=bu
    refine T.pos (aW (by omega) (by omega)) (rec x ⟨hx.1,by have:=hx.2.1;omega,fun qW=>?_⟩)
    obtain⟨h3,h4⟩:=hx.2.2 qW
    obtain⟨h5,h6⟩:=hI.2.2 (by have:=hx.2.1;omega)
    have hb:qp p.aw.l[j]=true:=by
     rw[qp,ho,decide_eq_true (by omega),decide_eq_true (by omega),decide_eq_true (by omega)]
     simpa using h3
    refine⟨fun y hy=>((kT hg).1 hy).elim (h5 y) fun q=>q▸hb,?_⟩
    rw[nr hg];omega
 ·refine T.neg (by omega) (T.ret (show Left _ _ n v from ⟨hI.1,hI.2.1,fun g=>?_⟩))
  obtain⟨h5,h6⟩:=hI.2.2 g
  rw[List.take_length]at h5 h6
  exact⟨h5,h6⟩
theorem agF {p:aj}(hl:p.aR.l.length≤20){n:Int}(h0: -1≤n)(h1:n≤300):T (fun N k=>zJ p N k n 0) (fun o=>match o with | .r=>True | .e6 r _=>Left (∀m∈p.aR.l,xF m=true) (p.aR.l.map fun r=>cG r.body.l).sum n r):=by
 refine T.count (fun j v N k=>zJ p N k v j) p.aR.l.length (fun j v=> -1≤v∧v≤n∧(0≤v->(∀m∈p.aR.l.take j,xF m=true)∧v+((p.aR.l.take j).map fun r=>cG r.body.l).sum≤n)) (fun j v hj hI rec=>?_) (fun v hI=>?_) 0 n (by omega) ⟨by omega,by omega,fun _=>⟨by simp,by simp⟩⟩
 all_goals simp only[zJ]
 ·have hg:p.aR.l[j]? =some p.aR.l[j]:=List.getElem?_eq_getElem hj
  refine T.pos (by omega) (T.nat hg (T.ite (fun _=>T.ret trivial) fun g=>T.bind (UP _ v hI.1 (by omega)) fun x hx=>T.pos (aW (by omega) (by omega)) (rec x ⟨hx.1,by have:=hx.2.1;omega,fun qW=>?_⟩)))
  obtain⟨h3,h4⟩:=hx.2.2 qW
  obtain⟨h5,h6⟩:=hI.2.2 (by have:=hx.2.1;omega)
  have hb:xF p.aR.l[j]=true:=by rw[xF,h3,decide_eq_true (by omega)];rfl
  refine⟨fun y hy=>((kT hg).1 hy).elim (h5 y) fun q=>q▸hb,?_⟩
  rw[nr hg];omega
 ·refine T.neg (by omega) (T.ret (show Left _ _ n v from ⟨hI.1,hI.2.1,fun g=>?_⟩))
  obtain⟨h5,h6⟩:=hI.2.2 g
  rw[List.take_length]at h5 h6
  exact⟨h5,h6⟩
theorem agH (p:aj):T (fun n _=>Ij n p 300) (fun b=>b=true->bP p=true∧wP p≤300):=by
 simp only[Ij]
 refine T.ite (fun g=>T.ret (fun h=>by cases h)) fun g=>T.ite (fun g2=>T.ret (fun h=>by cases h)) fun g2=>T.bind (T.dg (agG (by omega) (by omega) (by omega))) fun o ho=>?_
 cases o with
 | r m=>exact T.ret (fun h=>by cases h)
 | e0 r v=>
  have hx:Left _ _ 300 r:=ho
  refine T.bind (T.dg (agF (by omega) hx.1 hx.2.1)) fun o bu=>?_
  cases o with
  | r=>exact T.ret (fun h=>by cases h)
  | e6 r2 v=>
   have hy:Left _ _ r r2:=bu
   refine T.ite (fun g3=>T.ret fun _=>?_) fun _=>T.ret (fun h=>by cases h)
   obtain⟨h1,h2⟩:=hy.2.2 g3
   obtain⟨h3,h4⟩:=hx.2.2 (by have:=hy.2.1;omega)
   refine⟨?_,by unfold wP;omega⟩
   rw[bP,decide_eq_true (by omega),decide_eq_true (by omega)]
   simp only[Bool.true_and,Bool.and_eq_true,List.all_eq_true]
   exact⟨h3,h1⟩
end Go.Vig
namespace Go.Vig
open Go Go.Abs
variable [Kn]
def ln (s:ByteArray)(m:aH):Bool:=decide (m.name=s)
def ir (p:aj)(s:ByteArray):Option Nat:=p.aw.l.findIdx? (ln s)
def dy (p:aj)(s:ByteArray):Int×Bool:=match ir p s with
 | some i=>((i:Int),true)
 | none=>(0,false)
theorem Gn {p:aj}{s:ByteArray}{i:Nat}(h:ir p s=some i):∃m,p.aw.l[i]? =some m∧m.name=s:=by
 obtain⟨h1,h2,_⟩:=List.findIdx?_eq_some_iff_getElem.1 h
 exact⟨_,List.getElem?_eq_getElem h1,by simpa[ln]using h2⟩
theorem TQ {p:aj}{s:ByteArray}{i:Nat}(h:ir p s=some i):i<p.aw.l.length:=by
 obtain⟨m,h1,_⟩:=Gn h
 exact(List.getElem?_eq_some_iff.1 h1).1
def dI (p:aj):Prop:=p.aw.l.length≤20∧∀m∈p.aw.l,m.vars.l.length≤40∧m.methods.l.length≤40
theorem qA {p:aj}(h:bP p=true):dI p:=by
 obtain⟨h1,_,h2,_⟩:=j5 h
 exact⟨h1,fun m hm=>⟨(so (h2 m hm)).1,(so (h2 m hm)).2.1⟩⟩
theorem vE {p:aj}(hf:dI p)(s:ByteArray):T (fun n _=>pY n p s) (·=dy p s):=by
 have hl:=hf.1
 have hL:T (fun n k=>zS p s n k 0) (fun o=>match o with | .r v=>∃i:Nat,v=(i:Int)∧ir p s=some i | .e0 _=>ir p s=none):=by
  refine T.any (l:=p.aw.l) (fun i n k=>zS p s n k i) (ln s) (fun j a ha hb hm=>?_) (fun j a ha hb rec=>?_) (fun hf=>?_)
  all_goals simp only[zS]
  ·have hj:=(List.getElem?_eq_some_iff.1 ha).1
   exact T.pos (by omega) (T.nat ha (T.pos (by simpa[ln]using hb) (T.ret ⟨j,rfl,(uS ha hb hm).1⟩)))
  ·have hj:=(List.getElem?_eq_some_iff.1 ha).1
   exact T.pos (by omega) (T.nat ha (T.neg (by simpa[ln]using hb) (T.pos (aW (by omega) (by omega)) rec)))
  ·exact T.neg (by omega) (T.ret (xT hf).1)
 simp only[pY]
 refine T.bind (T.dg hL) fun o ho=>?_
 cases o with
 | r v=>obtain⟨i,rfl,h⟩:=ho;refine T.ret ?_;simp only[dy,h]
 | e0 v=>refine T.ret ?_;have ho:ir p s=none:=ho;simp only[dy,ho]
def isNe (s:ByteArray)(m:dW):Bool:=decide (m.name=s)
def ji (p:aj)(mon name:ByteArray):Option dW:=((ir p mon).bind fun i=>p.aw.l[i]?).bind fun m=>m.methods.l.find? (isNe name)
def nc (p:aj)(mon name:ByteArray):dW×Bool:=match ji p mon name with
 | some m=>(m,true)
 | none=>({},false)
theorem vC {p:aj}(hf:dI p)(mon name:ByteArray):T (fun n _=>rQ n p mon name) (·=nc p mon name):=by
 simp only[rQ]
 refine T.bind (vE hf mon) fun x hx=>?_
 subst hx
 cases hi:ir p mon with
 | none=>
  have hp:dy p mon=(0,false):=by simp only[dy,hi]
  rw[hp]
  exact T.cond (fun h=>by cases h) fun _=>T.ret (by simp only[nc,ji,hi];rfl)
 | some i=>
  have hp:dy p mon=((i:Int),true):=by simp only[dy,hi]
  rw[hp]
  refine T.cond (fun _=>?_) (fun h=>by cases h)
  obtain⟨m,hm,hn⟩:=Gn hi
  have hb:=(hf.2 m (List.mem_of_getElem? hm)).2
  have hO:ji p mon name=m.methods.l.find? (isNe name):=by simp only[ji,hi,Option.bind_some,hm]
  have hL:T (fun n k=>zQ p name (i:Int) n k 0) (fun o=>match o with | .r me=>m.methods.l.find? (isNe name)=some me | .e0 _=>m.methods.l.find? (isNe name)=none):=by
   refine T.any (l:=m.methods.l) (fun j n k=>zQ p name (i:Int) n k j) (isNe name) (fun j a ha hb B1=>?_) (fun j a ha hb rec=>?_) (fun hf=>?_)
   all_goals simp only[zQ]
   ·have hj:=(List.getElem?_eq_some_iff.1 ha).1
    exact T.nat hm (T.pos (by omega) (T.nat ha (T.pos (by simpa[isNe]using hb) (T.ret (uS ha hb B1).2))))
   ·have hj:=(List.getElem?_eq_some_iff.1 ha).1
    exact T.nat hm (T.pos (by omega) (T.nat ha (T.neg (by simpa[isNe]using hb) (T.pos (aW (by omega) (by omega)) rec))))
   ·exact T.nat hm (T.neg (by omega) (T.ret (xT hf).2))
  refine T.bind (T.dg hL) fun o ho=>?_
  cases o with
  | r me=>refine T.ret ?_;have ho:m.methods.l.find? (isNe name)=some me:=ho;simp only[nc,hO,ho]
  | e0 v=>refine T.ret ?_;have ho:m.methods.l.find? (isNe name)=none:=ho;simp only[nc,hO,ho]
def jS (s:ByteArray)(m:bI):Bool:=decide (m.name=s)
def jv (p:aj)(i:Nat):Nat:=((p.aw.l.take i).map fun m=>m.vars.l.length).sum
def cu (p:aj):List bI:=p.aw.l.flatMap fun m=>m.vars.l
def fU (p:aj)(mon name:ByteArray):Option Nat:=(ir p mon).bind fun i=>(p.aw.l[i]?).bind fun m=>(m.vars.l.findIdx? (jS name)).map (jv p i+·)
def eg (p:aj)(mon name:ByteArray):Int×Bool:=match fU p mon name with
 | some k=>((k:Int),true)
 | none=>(0,false)
theorem Lv {p:aj}{i:Nat}{m:aH}(h:p.aw.l[i]? =some m):jv p (i+1)=jv p i+m.vars.l.length:=nr h _
theorem xM {p:aj}(hf:dI p):∀i,i≤p.aw.l.length->jv p i≤40 * i
 | 0,_=>by simp[jv]
 | i+1,h=>by
  have hg:p.aw.l[i]? =some p.aw.l[i]:=List.getElem?_eq_getElem (by omega)
  have:=xM hf i (by omega)
  have:=(hf.2 _ (List.getElem_mem (show i<p.aw.l.length by omega))).1
  rw[Lv hg];omega
theorem Di {p:aj}{i:Nat}:((p.aw.l.take i).flatMap fun m=>m.vars.l).length=jv p i:=by
 simp[jv,List.length_flatMap]
theorem agC {p:aj}:(cu p).length=jv p p.aw.l.length:=by rw[←Di,List.take_length];rfl
theorem Dh {p:aj}(hf:dI p):(cu p).length≤800:=by
 rw[agC]
 have:=xM hf _ (Nat.le_refl _)
 have:=hf.1
 omega
theorem agB {p:aj}{i j:Nat}{m:aH}{v:bI}(h:p.aw.l[i]? =some m)(hj:m.vars.l[j]? =some v):(cu p)[jv p i+j]? =some v:=by
 have hi:=(List.getElem?_eq_some_iff.1 h).1
 have hl:=(List.getElem?_eq_some_iff.1 hj).1
 have e:cu p=((p.aw.l.take i).flatMap fun m=>m.vars.l)++(m.vars.l++((p.aw.l.drop (i+1)).flatMap fun m=>m.vars.l)):=by
  have h1:p.aw.l=p.aw.l.take i++(m::p.aw.l.drop (i+1)):=by
   have h2:=List.drop_eq_getElem_cons hi
   rw[(List.getElem?_eq_some_iff.1 h).2]at h2
   rw[←h2,List.take_append_drop]
  show p.aw.l.flatMap (fun m=>m.vars.l)=_
  conv=>lhs;rw[h1]
  rw[List.flatMap_append,List.flatMap_cons]
 rw[e,List.getElem?_append_right (by rw[Di];omega),Di,Nat.add_sub_cancel_left,List.getElem?_append_left hl]
 exact hj
theorem Df {p:aj}{mon name:ByteArray}{k:Nat}(h:fU p mon name=some k):∃i m j v,ir p mon=some i∧p.aw.l[i]? =some m∧m.name=mon∧m.vars.l.findIdx? (jS name)=some j∧m.vars.l[j]? =some v∧v.name=name∧k=jv p i+j∧(cu p)[k]? =some v:=by
 simp only[fU,Option.bind_eq_some_iff,Option.map_eq_some_iff]at h
 obtain⟨i,h1,m,h2,j,h3,h4⟩:=h
 obtain⟨g1,g2,_⟩:=List.findIdx?_eq_some_iff_getElem.1 h3
 obtain⟨m',h5,h6⟩:=Gn h1
 rw[h2]at h5;cases h5
 have hg:m.vars.l[j]? =some m.vars.l[j]:=List.getElem?_eq_getElem g1
 exact⟨i,m,j,_,h1,h2,h6,h3,hg,by simpa[jS]using g2,h4.symm,h4▸agB h2 hg⟩
theorem agz {p:aj}(hf:dI p){mon name:ByteArray}{i:Nat}{m:aH}(hm:p.aw.l[i]? =some m){c:Int}(h0:0≤c)(h1:c≤800):T (fun n k=>wU p mon name (i:Int) n k c 0) (fun o=>match o with | .r v=>m.name=mon∧∃j:Nat,m.vars.l.findIdx? (jS name)=some j∧v=c+j | .e2 v _=>v=c+m.vars.l.length∧(m.name=mon->m.vars.l.findIdx? (jS name)=none)):=by
 have hl:=(hf.2 m (List.mem_of_getElem? hm)).1
 refine T.count (fun j v n k=>wU p mon name (i:Int) n k v j) m.vars.l.length (fun j v=>v=c+(j:Int)∧(m.name=mon->∀x∈m.vars.l.take j,jS name x=false)) (fun j v hj hI rec=>?_) (fun v hI=>?_) 0 c (by omega) ⟨by omega,by simp⟩
 all_goals simp only[wU]
 ·obtain⟨rfl,hI⟩:=hI
  have hg:m.vars.l[j]? =some m.vars.l[j]:=List.getElem?_eq_getElem hj
  refine T.nat hm (T.pos (by omega) (T.ite (fun g=>T.nat hg (T.ite (fun g2=>T.ret ⟨g,j,(uS hg (by simpa[jS]using g2) (hI g)).1,rfl⟩) fun g2=>T.pos (aW (by omega) (by omega)) (T.pos (aW (by omega) (by omega)) (rec _ ⟨by omega,fun _ x hx=>((kT hg).1 hx).elim (hI g x) fun q=>?_⟩)))) fun g=>T.pos (aW (by omega) (by omega)) (T.pos (aW (by omega) (by omega)) (rec _ ⟨by omega,fun g'=>absurd g' g⟩))))
  subst q
  simpa[jS]using g2
 ·refine T.nat hm (T.neg (by omega) (T.ret ⟨hI.1,fun g=>?_⟩))
  have:=hI.2 g
  rw[List.take_length]at this
  exact(xT this).1
theorem Dg {p:aj}(hf:dI p)(mon name:ByteArray):T (fun n _=>ua n p mon name) (·=eg p mon name):=by
 have hl:=hf.1
 have hL:T (fun n k=>zT p mon name n k 0 0) (fun o=>match o with | .r v b=>(v,b)=eg p mon name | .e0 _ _=>eg p mon name=(0,false)):=by
  refine T.count (fun j v n k=>zT p mon name n k v j) p.aw.l.length (fun j v=>v=(jv p j:Int)∧∀x∈p.aw.l.take j,ln mon x=false) (fun j v hj hI rec=>?_) (fun v hI=>?_) 0 0 (by omega) ⟨by simp[jv],by simp⟩
  all_goals simp only[zT]
  ·obtain⟨rfl,hI⟩:=hI
   have hg:p.aw.l[j]? =some p.aw.l[j]:=List.getElem?_eq_getElem hj
   have hc:=xM hf j (by omega)
   refine T.pos (by omega) (T.bind (T.dg (agz hf hg (by omega) (by omega))) fun o ho=>?_)
   cases o with
   | r v=>
    obtain⟨g,i,g2,rfl⟩:=ho
    refine T.ret ?_
    have hi:=(uS hg (show ln mon p.aw.l[j]=true by simpa[ln]using g) hI).1
    simp only[eg,fU,ir,hi,Option.bind_some,hg,g2,Option.map_some]
    simp
   | e2 v u=>
    have ho:v=(jv p j:Int)+p.aw.l[j].vars.l.length∧(p.aw.l[j].name=mon->p.aw.l[j].vars.l.findIdx? (jS name)=none):=ho
    refine T.nat hg (T.ite (fun g=>T.ret ?_) fun g=>T.pos (aW (by omega) (by omega)) (rec v ⟨?_,fun x hx=>((kT hg).1 hx).elim (hI x) fun q=>?_⟩))
    ·have hi:=(uS hg (show ln mon p.aw.l[j]=true by simpa[ln]using g) hI).1
     simp only[eg,fU,ir,hi,Option.bind_some,hg,ho.2 g,Option.map_none]
    ·rw[Lv hg,ho.1];simp
    ·subst q;simpa[ln]using g
  ·refine T.neg (by omega) (T.ret ?_)
   have h:=hI.2
   rw[List.take_length]at h
   show eg p mon name=(0,false)
   simp only[eg,fU,ir,(xT h).1,Option.bind_none]
 simp only[ua]
 refine T.bind (T.dg hL) fun o ho=>?_
 cases o with
 | r v b=>exact T.ret ho
 | e0 v i=>exact T.ret ho.symm
theorem GU {p:aj}(hf:dI p):T (fun n _=>wW n p) (·=cu p):=by
 have hl:=hf.1
 have hL:T (fun n k=>zU p n k ([]:List bI) 0) (fun o=>match o with | .e0 v _=>v=cu p):=by
  refine T.count (fun j v n k=>zU p n k v j) p.aw.l.length (fun j v=>v=(p.aw.l.take j).flatMap fun m=>m.vars.l) (fun j v hj hI rec=>?_) (fun v hI=>?_) 0 [] (by omega) (by simp)
  all_goals simp only[zU]
  ·subst hI
   have hg:p.aw.l[j]? =some p.aw.l[j]:=List.getElem?_eq_getElem hj
   have he:((p.aw.l.take j).flatMap fun m=>m.vars.l)++p.aw.l[j].vars.l=(p.aw.l.take (j+1)).flatMap fun m=>m.vars.l:=by rw[eQ hg,List.flatMap_append,List.flatMap_cons,List.flatMap_nil,List.append_nil]
   refine T.pos (by omega) (T.nat hg (T.pos (room (by omega) ?_) (T.pos (aW (by omega) (by omega)) (rec _ he))))
   rw[he,Di]
   have:=xM hf (j+1) (by omega)
   omega
  ·subst hI
   exact T.neg (by omega) (T.ret (by rw[List.take_length];rfl))
 simp only[wW]
 refine T.bind (T.dg hL) fun o ho=>?_
 cases o with
 | e0 v i=>exact T.ret ho
end Go.Vig
namespace Go.Vig
open Go Go.Abs
variable [Kn]
def hP (p:aj):au->Int×Int:=au.fold fun e bs=>if e.op=4∧(eg p e.mon e.name).2=false then(61,e.at_)else aJ (fun _ x=>x) 0 bs
theorem oX {α β:Type}{f:α->β}{c:β->Int×Int}:∀{l:List α}{i:Nat},aJ (fun _=>c) i (l.map f)=aJ (fun _ a=>c (f a)) i l
 | [],_=>rfl
 | a::l,i=>by simp only[List.map_cons,aJ,oX (l:=l)]
theorem Fg (p:aj)(e:au):hP p e=if e.op=4∧(eg p e.mon e.name).2=false then(61,e.at_)else aJ (fun _=>hP p) 0 e.kids.l:=by
 rw[hP,au.fold_eq,oX (c:=fun x=>x)]
theorem abu {p:aj}{e:au}(hl:e.kids.l.length≤300)(ih:∀k∈e.kids.l,T (fun n _=>lJ n p k) (·=hP p k)):T (fun n k=>ub (lJ n) p e n k 0) (fun o=>match o with | .r a b=>aJ (fun _=>hP p) 0 e.kids.l=(a,b) | .e0 _=>aJ (fun _=>hP p) 0 e.kids.l=(0,0)):=by
 refine T.fe (l:=e.kids.l) (fun i n k=>ub (lJ n) p e n k i) (fun _=>hP p) (fun j a ha hj hr hx=>?_) (fun hf=>?_)
 all_goals simp only[ub]
 ·refine T.pos (by omega) (T.nat ha (T.bind (ih a (List.mem_of_getElem? ha)) fun x bN=>?_))
  subst bN
  exact T.ite (fun h=>T.ret (hx h)) fun h=>T.pos (aW (by omega) (by omega)) (hr (by simpa using h))
 ·exact T.neg (by omega) (T.ret hf)
theorem abt {p:aj}(hf:dI p){e:au}(hL:T (fun n k=>ub (lJ n) p e n k 0) (fun o=>match o with | .r a b=>aJ (fun _=>hP p) 0 e.kids.l=(a,b) | .e0 _=>aJ (fun _=>hP p) 0 e.kids.l=(0,0))):T (fun n k=>lJ n p e) (·=hP p e):=by
 refine T.n1 ?_
 simp only[lJ]
 refine T.ite (fun g=>T.bind (Dg hf _ _) fun x hx=>?_) fun g=>T.bind (T.dg hL) fun o ho=>?_
 ·subst hx
  refine T.cond (fun h=>T.bind (T.dg hL) fun o ho=>?_) fun h=>T.ret ?_
  ·have he:hP p e=aJ (fun _=>hP p) 0 e.kids.l:=by rw[Fg,if_neg (by rw[h];simp)]
   cases o with
   | r a b=>exact T.ret (he.trans ho).symm
   | e0 v=>exact T.ret (he.trans ho).symm
  ·rw[Fg,if_pos ⟨g,h⟩]
 ·have he:hP p e=aJ (fun _=>hP p) 0 e.kids.l:=by rw[Fg,if_neg (by simp[g])]
  cases o with
  | r a b=>exact T.ret (he.trans ho).symm
  | e0 v=>exact T.ret (he.trans ho).symm
theorem abv {p:aj}(hf:dI p):∀e:au,bE e=true->T (fun n _=>lJ n p e) (·=hP p e):=au.eZ fun e ih hb=>
 abt hf (abu (qn hb).1 fun k hk=>ih k hk ((qn hb).2 k hk))
def mg (p:aj)(s:af):Bool:=if s.kind=2 then(eg p s.mon s.name).2 else if s.kind=8 then(nc p s.mon s.name).2 else if s.kind=7∨s.kind=9∨s.kind=10∨s.kind=11 then(dy p s.mon).2 else true
def mD (p:aj):af->Int×Int:=af.fold fun s bs=>if mg p s=false then(61,s.at_)else cX (hP p s.e_) (aJ (fun _ b=>aJ (fun _ x=>x) 0 b) 0 bs)
def cU (p:aj)(l:List af):Int×Int:=aJ (fun _=>mD p) 0 l
theorem Of (p:aj)(s:af):mD p s=if mg p s=false then(61,s.at_)else cX (hP p s.e_) (aJ (fun _ b=>cU p b.l) 0 s.blocks.l):=by
 rw[mD,af.fold_eq,oX (c:=fun b=>aJ (fun _ x=>x) 0 b)]
 congr 3
 funext _ b
 exact oX (c:=fun x=>x)
theorem agN {p:aj}(hf:dI p)(s:af):T (fun n _=>IS p s n) (fun o=>o= .m (mg p s)):=by
 simp only[IS]
 refine T.ite (fun g=>T.bind (Dg hf _ _) fun x hx=>T.ret ?_) fun g=>T.ite (fun g2=>T.bind (vC hf _ _) fun x hx=>T.ret ?_) fun g2=>T.ite (fun g3=>T.bind (vE hf _) fun x hx=>T.ret ?_) fun g3=>T.ite (fun g4=>T.bind (vE hf _) fun x hx=>T.ret ?_) fun g4=>T.ite (fun g5=>T.bind (vE hf _) fun x hx=>T.ret ?_) fun g5=>T.ite (fun g6=>T.bind (vE hf _) fun x hx=>T.ret ?_) fun g6=>T.ret ?_
 all_goals
  try subst hx
  simp[mg, *]
theorem agO {p:aj}{s:af}(hl:s.blocks.l.length≤40)(ih:∀b∈s.blocks.l,T (fun n _=>jH n p b) (·=cU p b.l))(a b:Int)(BA:a=0->b=0):T (fun n k=>wZ (jH n) p s n k a b 0) (fun o=>match o with | .e3 x y _=>(x,y)=cX (a,b) (aJ (fun _ b=>cU p b.l) 0 s.blocks.l)):=by
 by_cases ha:a=0
 ·have hb:=BA ha
  subst ha;subst hb
  have he:cX (0,0) (aJ (fun _ b=>cU p b.l) 0 s.blocks.l)=aJ (fun _ b=>cU p b.l) 0 s.blocks.l:=by unfold cX;rw[if_neg (by simp)]
  rw[he]
  refine T.count (fun i (v:Int×Int) n k=>wZ (jH n) p s n k v.1 v.2 i) s.blocks.l.length (fun j v=>(v.1=0->v.2=0∧aJ (fun _ b=>cU p b.l) j (s.blocks.l.drop j)=aJ (fun _ b=>cU p b.l) 0 s.blocks.l)∧(v.1≠0->aJ (fun _ b=>cU p b.l) 0 s.blocks.l=v)) (fun j v hj hI rec=>?_) (fun v hI=>?_) 0 (0,0) (by omega) ⟨fun _=>⟨rfl,by simp⟩,fun h=>absurd rfl h⟩
  all_goals simp only[wZ]
  ·have hg:s.blocks.l[j]? =some s.blocks.l[j]:=List.getElem?_eq_getElem hj
   refine T.pos (by omega) (T.ite (fun g=>T.nat hg (T.bind (ih _ (List.getElem_mem hj)) fun x hx=>T.pos (aW (by omega) (by omega)) (rec x ?_))) fun g=>T.ret (hI.2 g).symm)
   subst hx
   have h1:=(hI.1 g).2
   rw[List.drop_eq_getElem_cons hj,aJ]at h1
   refine⟨fun h=>⟨?_,?_⟩,fun h=>?_⟩
   ·have:=xS (c:=fun _=>mD p) h
    exact congrArg Prod.snd this
   ·rw[if_neg (by simpa using h)]at h1;exact h1
   ·rw[if_pos h]at h1;exact h1.symm
  ·refine T.neg (by omega) (T.ret ?_)
   show(v.1,v.2)=_
   by_cases h:v.1=0
   ·obtain⟨h1,h2⟩:=hI.1 h
    rw[List.drop_length]at h2
    rw[←h2,h,h1];rfl
   ·exact(hI.2 h).symm
 ·have he:cX (a,b) (aJ (fun _ b=>cU p b.l) 0 s.blocks.l)=(a,b):=by unfold cX;rw[if_pos ha]
  rw[he]
  refine T.k1 ?_
  simp only[wZ]
  exact T.ite (fun _=>T.neg ha (T.ret rfl)) fun _=>T.ret rfl
theorem abw {p:aj}:∀{e:au},(hP p e).1=0->(hP p e).2=0:=fun {e} h=>by
 rw[Fg]at h ⊢
 by_cases g:e.op=4∧(eg p e.mon e.name).2=false
 ·rw[if_pos g]at h;cases h
 ·rw[if_neg g]at h ⊢
  exact congrArg Prod.snd (xS h)
theorem Vq {p:aj}(hf:dI p){l:Sl af}(hl:l.l.length≤300)(hb:∀s∈l.l,bS s=true)(ih:∀s∈l.l,∀b∈s.blocks.l,T (fun n _=>jH n p b) (·=cU p b.l)):T (fun n k=>wY (jH n) p l n k 0) (fun o=>match o with | .r a b _=>cU p l.l=(a,b) | .e0 _=>cU p l.l=(0,0)):=by
 refine T.fe (l:=l.l) (fun i n k=>wY (jH n) p l n k i) (fun _=>mD p) (fun j a ha hj hr hx=>?_) (fun hf=>?_)
 all_goals simp only[wY]
 ·obtain⟨jP,eb,Fx⟩:=iF (hb a (List.mem_of_getElem? ha))
  refine T.pos (by omega) (T.nat ha (T.bind (agN hf a) fun o ho=>?_))
  subst ho
  refine T.cond (fun g=>T.bind (abv hf _ eb) fun x bN=>T.bind (T.dg (agO jP (ih a (List.mem_of_getElem? ha)) _ _ (fun h=>?_))) fun o ho=>?_) fun g=>T.ret ?_
  ·subst bN;exact abw h
  ·subst bN
   have he:mD p a=cX (hP p a.e_) (aJ (fun _ b=>cU p b.l) 0 a.blocks.l):=by rw[Of,if_neg (fun h=>by rw[show mg p a=true from g]at h;cases h)]
   cases o with
   | e3 x y v=>
    have ho:(x,y)=mD p a:=by rw[he];exact ho
    rw[←ho]at hx hr
    exact T.ite (fun h=>T.ret (hx h)) fun h=>T.pos (aW (by omega) (by omega)) (hr (by simpa using h))
  ·have he:mD p a=(61,a.at_):=by rw[Of,if_pos g]
   rw[he]at hx
   exact hx (show(61:Int)≠0 by decide)
 ·exact T.neg (by omega) (T.ret hf)
theorem Vp {p:aj}{l:Sl af}(hL:T (fun n k=>wY (jH n) p l n k 0) (fun o=>match o with | .r a b _=>cU p l.l=(a,b) | .e0 _=>cU p l.l=(0,0))):T (fun n k=>jH n p l) (·=cU p l.l):=by
 refine T.n1 ?_
 simp only[jH]
 refine T.bind (T.dg hL) fun o ho=>?_
 cases o with
 | r a b s=>exact T.ret ho.symm
 | e0 v=>exact T.ret ho.symm
theorem agP {p:aj}(hf:dI p):∀s:af,bS s=true->∀b∈s.blocks.l,T (fun n k=>jH n p b) (·=cU p b.l):=af.eZ fun s ih hb b hm=>by
 obtain⟨_,_,h3⟩:=iF hb
 obtain⟨h4,h5⟩:=fY (h3 b hm)
 exact Vp (Vq hf h4 h5 fun t ht=>ih b hm t ht (h5 t ht))
theorem Vr {p:aj}(hf:dI p)(l:Sl af)(hb:dh l.l=true):T (fun n k=>jH n p l) (·=cU p l.l):=by
 obtain⟨h4,h5⟩:=fY hb
 exact Vp (Vq hf h4 h5 fun t ht=>agP hf t (h5 t ht))
def uL:List (ByteArray×Int)->List ByteArray->Int×Int
 | [],_=>(0,0)
 | (n,a)::l,seen=>if(seen.any fun x=>decide (x=n))=true then(60,a)else uL l (seen++[n])
def yH (m:aH):List (ByteArray×Int):=m.vars.l.map (fun v=>(v.name,v.at_))++m.methods.l.map fun v=>(v.name,v.at_)
def Np (m:aH):Int×Int:=uL (yH m) []
theorem adS {m:aH}(hl:m.vars.l.length≤40):T (fun n k=>zX m n k [] [] 0) (fun o=>match o with | .e0 a b _=>a=m.vars.l.map (·.name)∧b=m.vars.l.map (·.at_)):=by
 refine T.count (fun j (v:List ByteArray×List Int) n k=>zX m n k v.1 v.2 j) m.vars.l.length (fun j v=>v=((m.vars.l.take j).map (·.name),(m.vars.l.take j).map (·.at_))) (fun j v hj hI rec=>?_) (fun v hI=>?_) 0 ([],[]) (by omega) (by simp)
 all_goals subst hI;simp only[zX]
 ·have hg:m.vars.l[j]? =some m.vars.l[j]:=List.getElem?_eq_getElem hj
  refine T.pos (by omega) (T.nat hg (T.pos (room (by omega) (by simp;omega)) (T.pos (room (by omega) (by simp;omega)) (T.pos (aW (by omega) (by omega)) (rec (_,_) ?_)))))
  rw[eQ hg,List.map_append,List.map_append];rfl
 ·exact T.neg (by omega) (T.ret (by rw[List.take_length];exact⟨rfl,rfl⟩))
theorem adT {m:aH}(hl:m.methods.l.length≤40){a:List ByteArray}{b:List Int}(ha:a.length≤40)(hb:b.length≤40):T (fun n k=>zY m n k a b 0) (fun o=>match o with | .e2 x y _=>x=a++m.methods.l.map (·.name)∧y=b++m.methods.l.map (·.at_)):=by
 refine T.count (fun j (v:List ByteArray×List Int) n k=>zY m n k v.1 v.2 j) m.methods.l.length (fun j v=>v=(a++(m.methods.l.take j).map (·.name),b++(m.methods.l.take j).map (·.at_))) (fun j v hj hI rec=>?_) (fun v hI=>?_) 0 (a,b) (by omega) (by simp)
 all_goals subst hI;simp only[zY]
 ·have hg:m.methods.l[j]? =some m.methods.l[j]:=List.getElem?_eq_getElem hj
  refine T.pos (by omega) (T.nat hg (T.pos (room (by omega) (by simp;omega)) (T.pos (room (by omega) (by simp;omega)) (T.pos (aW (by omega) (by omega)) (rec (_,_) ?_)))))
  rw[eQ hg,List.map_append,List.map_append,List.append_assoc,List.append_assoc];rfl
 ·exact T.neg (by omega) (T.ret (by rw[List.take_length];exact⟨rfl,rfl⟩))
theorem adR {a:List ByteArray}{b:List Int}(BA:a.length=b.length)(hl:a.length≤100){i:Nat}{x:ByteArray}{y:Int}(hx:a[i]? =some x)(hy:b[i]? =some y):T (fun n k=>zW a b (i:Int) n k 0) (fun o=>match o with | .r v=>v=y∧((a.take i).any fun z=>decide (z=x))=true | .e6 _=>((a.take i).any fun z=>decide (z=x))=false):=by
 have hi:=(List.getElem?_eq_some_iff.1 hx).1
 have FT:(a.take i).length=i:=by rw[List.length_take];omega
 refine T.any (l:=a.take i) (fun j n k=>zW a b (i:Int) n k j) (fun z=>decide (z=x)) (fun j z hz hb _=>?_) (fun j z hz hb rec=>?_) (fun hf=>?_)
 all_goals simp only[zW]
 ·have hj:=(List.getElem?_eq_some_iff.1 hz).1
  have kK:a[j]? =some z:=by rw[List.getElem?_take,if_pos (by omega)]at hz;exact hz
  exact T.pos (by omega) (T.nat kK (T.nat hx (T.pos (by simpa using hb) (T.nat hy (T.ret ⟨rfl,List.any_eq_true.2 ⟨z,List.mem_of_getElem? hz,hb⟩⟩)))))
 ·have hj:=(List.getElem?_eq_some_iff.1 hz).1
  have kK:a[j]? =some z:=by rw[List.getElem?_take,if_pos (by omega)]at hz;exact hz
  exact T.pos (by omega) (T.nat kK (T.nat hx (T.neg (by simpa using hb) (T.pos (aW (by omega) (by omega)) rec))))
 ·refine T.neg (by omega) (T.ret (Bool.eq_false_iff.2 fun h=>?_))
  obtain⟨z,h1,h2⟩:=List.any_eq_true.1 h
  rw[hf z h1]at h2;cases h2
theorem adQ {L:List (ByteArray×Int)}(hl:L.length≤100):T (fun n k=>zV (L.map Prod.fst) (L.map Prod.snd) n k 0) (fun o=>match o with | .r v=>uL L []=(60,v) | .e4 _=>uL L []=(0,0)):=by
 refine T.count (fun j (_:Unit) n k=>zV (L.map Prod.fst) (L.map Prod.snd) n k j) L.length (fun j _=>uL (L.drop j) ((L.take j).map Prod.fst)=uL L []) (fun j v hj hI rec=>?_) (fun v hI=>?_) 0 () (by omega) (by simp)
 all_goals simp only[zV]
 ·have hg:L[j]? =some L[j]:=List.getElem?_eq_getElem hj
  have e1:(L.map Prod.fst)[j]? =some L[j].1:=by simp[hg]
  have e2:(L.map Prod.snd)[j]? =some L[j].2:=by simp[hg]
  rw[List.drop_eq_getElem_cons hj,show L[j]=(L[j].1,L[j].2) from rfl,uL]at hI
  refine T.pos (by simp;omega) (T.bind (T.dg (adR (by simp) (by simpa using hl) e1 e2)) fun o ho=>?_)
  cases o with
  | r v=>
   have ho:v=L[j].2∧(((L.map Prod.fst).take j).any fun z=>decide (z=L[j].1))=true:=ho
   rw[←List.map_take]at ho
   rw[if_pos ho.2]at hI
   exact T.ret (by rw[←hI,ho.1])
  | e6 v=>
   have ho:(((L.map Prod.fst).take j).any fun z=>decide (z=L[j].1))=false:=ho
   rw[←List.map_take]at ho
   rw[ho,if_neg (by decide)]at hI
   refine T.pos (aW (by omega) (by omega)) (rec () ?_)
   rw[←hI,eQ hg,List.map_append];rfl
 ·refine T.neg (by simp) (T.ret ?_)
  rw[List.drop_length]at hI
  exact hI.symm
theorem adU {m:aH}(hv:m.vars.l.length≤40)(hm:m.methods.l.length≤40):T (fun n _=>IL n m) (·=Np m):=by
 simp only[IL]
 refine T.bind (T.dg (adS hv)) fun o ho=>?_
 cases o with
 | e0 a b _=>
  obtain⟨rfl,rfl⟩:=ho
  refine T.bind (T.dg (adT hm (by simpa using hv) (by simpa using hv))) fun o ho=>?_
  cases o with
  | e2 a b _=>
   have e1:a=(yH m).map Prod.fst:=by rw[ho.1,yH,List.map_append,List.map_map,List.map_map];rfl
   have e2:b=(yH m).map Prod.snd:=by rw[ho.2,yH,List.map_append,List.map_map,List.map_map];rfl
   subst e1;subst e2
   refine T.bind (T.dg (adQ (by simp[yH];omega))) fun o ho=>?_
   cases o with
   | r v=>exact T.ret (Eq.symm ho)
   | e4 v=>exact T.ret (Eq.symm ho)
end Go.Vig
namespace Go.Vig
open Go Go.Abs
variable [Kn]
def pv (p:aj)(i:Nat)(m:aH):Int×Int:=if(dy p m.name).1≠(i:Int)then(60,m.at_)else Np m
def kn (p:aj)(i:Nat)(r:aO):Int×Int:=if((p.aR.l.take i).any fun q=>decide (q.name=r.name))=true then(60,r.at_)else if r.star=false∧(r.count<1∨r.count>8)then(6,r.at_)else(0,0)
def uD (p:aj)(c:List af->Int×Int):Int×Int:=cX (aJ (fun _ m=>aJ (fun _ me=>c me.body.l) 0 m.methods.l) 0 p.aw.l) (aJ (fun _ r=>c r.body.l) 0 p.aR.l)
def s9 (p:aj):Int×Int:=if jT p=false then(20,0)else cX (aJ (pv p) 0 p.aw.l) (cX (aJ (kn p) 0 p.aR.l) (uD p (cU p)))
theorem ad4 {p:aj}(hb:bP p=true):T (fun n k=>zP p n k 0) (fun o=>match o with | .r a b=>aJ (pv p) 0 p.aw.l=(a,b)∧a≠0 | .e0 _=>aJ (pv p) 0 p.aw.l=(0,0)):=by
 obtain⟨h1,h2,h3,h4⟩:=j5 hb
 refine T.fe (l:=p.aw.l) (fun i n k=>zP p n k i) (pv p) (fun j a ha hj hr hx=>?_) (fun hf=>?_)
 all_goals simp only[zP]
 ·obtain⟨g1,g2,_⟩:=so (h3 a (List.mem_of_getElem? ha))
  refine T.pos (by omega) (T.nat ha (T.bind (vE (qA hb) _) fun x bN=>?_))
  subst bN
  refine T.ite (fun g=>?_) fun g=>T.bind (adU g1 g2) fun x bN=>?_
  ·have he:pv p j a=(60,a.at_):=by rw[pv,if_pos g]
   rw[he]at hx
   exact T.ret ⟨hx (show(60:Int)≠0 by decide),by decide⟩
  ·subst bN
   have he:pv p j a=Np a:=by rw[pv,if_neg g]
   rw[he]at hx hr
   exact T.ite (fun h=>T.ret ⟨hx h,h⟩) fun h=>T.pos (aW (by omega) (by omega)) (hr (by simpa using h))
 ·exact T.neg (by omega) (T.ret hf)
theorem ad0 {p:aj}{i:Nat}{r:aO}(hl:p.aR.l.length≤20)(hr:p.aR.l[i]? =some r):T (fun n k=>zL p (i:Int) r n k 0) (fun o=>match o with | .r=>((p.aR.l.take i).any fun q=>decide (q.name=r.name))=true | .e4 _=>((p.aR.l.take i).any fun q=>decide (q.name=r.name))=false):=by
 have hi:=(List.getElem?_eq_some_iff.1 hr).1
 have FT:(p.aR.l.take i).length=i:=by rw[List.length_take];omega
 refine T.any (l:=p.aR.l.take i) (fun j n k=>zL p (i:Int) r n k j) (fun q=>decide (q.name=r.name)) (fun j z hz hb _=>?_) (fun j z hz hb rec=>?_) (fun hf=>?_)
 all_goals simp only[zL]
 ·have hj:=(List.getElem?_eq_some_iff.1 hz).1
  have kK:p.aR.l[j]? =some z:=by rw[List.getElem?_take,if_pos (by omega)]at hz;exact hz
  exact T.pos (by omega) (T.nat kK (T.pos (by simpa using hb) (T.ret (List.any_eq_true.2 ⟨z,List.mem_of_getElem? hz,hb⟩))))
 ·have hj:=(List.getElem?_eq_some_iff.1 hz).1
  have kK:p.aR.l[j]? =some z:=by rw[List.getElem?_take,if_pos (by omega)]at hz;exact hz
  exact T.pos (by omega) (T.nat kK (T.neg (by simpa using hb) (T.pos (aW (by omega) (by omega)) rec)))
 ·refine T.neg (by omega) (T.ret (Bool.eq_false_iff.2 fun h=>?_))
  obtain⟨z,h1,h2⟩:=List.any_eq_true.1 h
  rw[hf z h1]at h2;cases h2
theorem adZ {p:aj}(hl:p.aR.l.length≤20):T (fun n k=>wR p n k 0) (fun o=>match o with | .r a b _=>aJ (kn p) 0 p.aR.l=(a,b)∧a≠0 | .e2 _=>aJ (kn p) 0 p.aR.l=(0,0)):=by
 refine T.fe (l:=p.aR.l) (fun i n k=>wR p n k i) (kn p) (fun j a ha hj hr hx=>?_) (fun hf=>?_)
 all_goals simp only[wR]
 ·refine T.pos (by omega) (T.nat ha (T.bind (T.dg (ad0 hl ha)) fun o ho=>?_))
  cases o with
  | r=>
   have ho:(_:Bool)=true:=ho
   have he:kn p j a=(60,a.at_):=by rw[kn,if_pos ho]
   rw[he]at hx
   exact T.ret ⟨hx (show(60:Int)≠0 by decide),by decide⟩
  | e4 v=>
   have ho:(_:Bool)=false:=ho
   have h6:a.star=false∧(a.count<1∨a.count>8)->aJ (kn p) 0 p.aR.l=(6,a.at_):=fun h=>by
    have he:kn p j a=(6,a.at_):=by rw[kn,ho,if_neg (by decide),if_pos h]
    rw[he]at hx
    exact hx (show(6:Int)≠0 by decide)
   have h0:¬(a.star=false∧(a.count<1∨a.count>8))->(kn p j a).1=0:=fun h=>by rw[kn,ho,if_neg (by decide),if_neg h]
   refine T.ite (fun g=>T.pos (aW (by omega) (by omega)) (hr (h0 fun h=>by rw[g]at h;cases h.1))) fun g=>T.ite (fun g2=>T.ret ⟨h6 ⟨by simpa using g,.inl g2⟩,by decide⟩) fun g2=>T.ite (fun g3=>T.ret ⟨h6 ⟨by simpa using g,.inr g3⟩,by decide⟩) fun g3=>T.pos (aW (by omega) (by omega)) (hr (h0 fun h=>by omega))
 ·exact T.neg (by omega) (T.ret hf)
theorem ad2 {p:aj}(hb:bP p=true){i:Nat}{m:aH}(hm:p.aw.l[i]? =some m):T (fun n k=>zN p (i:Int) n k 0) (fun o=>match o with | .r a b=>aJ (fun _ me=>cU p me.body.l) 0 m.methods.l=(a,b)∧a≠0 | .e8 _=>aJ (fun _ me=>cU p me.body.l) 0 m.methods.l=(0,0)):=by
 obtain⟨h1,h2,h3,h4⟩:=j5 hb
 obtain⟨g1,g2,_,_,g3⟩:=so (h3 m (List.mem_of_getElem? hm))
 refine T.fe (l:=m.methods.l) (fun j n k=>zN p (i:Int) n k j) (fun _ me=>cU p me.body.l) (fun j a ha hj hr hx=>?_) (fun hf=>?_)
 all_goals simp only[zN]
 ·refine T.nat hm (T.pos (by omega) (T.nat ha (T.bind (Vr (qA hb) _ (g3 a (List.mem_of_getElem? ha)).2) fun x bN=>?_)))
  subst bN
  exact T.ite (fun h=>T.ret ⟨hx h,h⟩) fun h=>T.pos (aW (by omega) (by omega)) (hr (by simpa using h))
 ·exact T.nat hm (T.neg (by omega) (T.ret hf))
theorem ad1 {p:aj}(hb:bP p=true):T (fun n k=>zM p n k 0) (fun o=>match o with | .r a b=>aJ (fun _ m=>aJ (fun _ me=>cU p me.body.l) 0 m.methods.l) 0 p.aw.l=(a,b)∧a≠0 | .e6 _=>aJ (fun _ m=>aJ (fun _ me=>cU p me.body.l) 0 m.methods.l) 0 p.aw.l=(0,0)):=by
 obtain⟨h1,h2,h3,h4⟩:=j5 hb
 refine T.fe (l:=p.aw.l) (fun j n k=>zM p n k j) (fun _ m=>aJ (fun _ me=>cU p me.body.l) 0 m.methods.l) (fun j a ha hj hr hx=>?_) (fun hf=>?_)
 all_goals simp only[zM]
 ·refine T.pos (by omega) (T.bind (T.dg (ad2 hb ha)) fun o ho=>?_)
  cases o with
  | r x y=>exact T.ret ⟨by rw[←ho.1];exact hx (by rw[ho.1];exact ho.2),ho.2⟩
  | e8 v=>
   have ho:aJ (fun _ (me:dW)=>cU p me.body.l) 0 a.methods.l=(0,0):=ho
   exact T.pos (aW (by omega) (by omega)) (hr (by rw[ho]))
 ·exact T.neg (by omega) (T.ret hf)
theorem ad3 {p:aj}(hb:bP p=true):T (fun n k=>zO p n k 0) (fun o=>match o with | .r a b=>aJ (fun _ r=>cU p r.body.l) 0 p.aR.l=(a,b)∧a≠0 | .kC _=>aJ (fun _ r=>cU p r.body.l) 0 p.aR.l=(0,0)):=by
 obtain⟨h1,h2,h3,h4⟩:=j5 hb
 refine T.fe (l:=p.aR.l) (fun j n k=>zO p n k j) (fun _ r=>cU p r.body.l) (fun j a ha hj hr hx=>?_) (fun hf=>?_)
 all_goals simp only[zO]
 ·refine T.pos (by omega) (T.nat ha (T.bind (Vr (qA hb) _ (h4 a (List.mem_of_getElem? ha)).2) fun x bN=>?_))
  subst bN
  exact T.ite (fun h=>T.ret ⟨hx h,h⟩) fun h=>T.pos (aW (by omega) (by omega)) (hr (by simpa using h))
 ·exact T.neg (by omega) (T.ret hf)
theorem pH {a b:Int×Int}{x y:Int}(h:a=(x,y)∧x≠0):cX a b=(x,y):=by rw[cX,if_pos (by rw[h.1];exact h.2),h.1]
theorem om {a b:Int×Int}(h:a=(0,0)):cX a b=b:=by rw[cX,if_neg (by rw[h];simp)]
theorem aee {p:aj}(hb:bP p=true):T (fun n _=>Ix n p) (·=s9 p):=by
 obtain⟨h1,h2,h3,h4⟩:=j5 hb
 simp only[Ix]
 refine T.bind (Tr p hb) fun x hx=>?_
 subst hx
 refine T.cond (fun g=>?_) fun g=>T.ret (by rw[s9,if_pos g])
 rw[s9,if_neg (by simp[g])]
 refine T.bind (T.dg (ad4 hb)) fun o ho=>?_
 cases o with
 | r a b=>exact T.ret (pH ho).symm
 | e0 _=>
  rw[om (show aJ (pv p) 0 p.aw.l=(0,0) from ho)]
  refine T.bind (T.dg (adZ h2)) fun o ho=>?_
  cases o with
  | r a b _=>exact T.ret (pH ho).symm
  | e2 _=>
   rw[om (show aJ (kn p) 0 p.aR.l=(0,0) from ho)]
   refine T.bind (T.dg (ad1 hb)) fun o ho=>?_
   cases o with
   | r a b=>exact T.ret (pH ho).symm
   | e6 _=>
    rw[uD,om ho]
    refine T.bind (T.dg (ad3 hb)) fun o ho=>?_
    cases o with
    | r a b=>exact T.ret ho.1.symm
    | kC _=>exact T.ret (Eq.symm ho)
def j2 (op:Int):Int:=if op=5∨op=16∨op=17 then 1 else if op=10∨op=11 then 0 else 2
def pq (op:Int):Int:=if op=1∨(6≤op∧op≤9)then 2 else 1
theorem apO (op:Int):T (fun n _=>I8 n op) (·=j2 op):=by
 simp only[I8,Pw]
 refine T.bind (P:=fun o=>o= .m (decide (op=5∨op=16∨op=17))) ?_ fun o ho=>?_
 ·repeat' (first | refine T.ite (fun h=>?_) (fun h=>?_) | refine T.ret ?_)
  all_goals simp[*]
 subst ho
 unfold j2
 refine T.cond (fun h=>T.ret ?_) fun h=>?_
 ·simp only[decide_eq_true_eq]at h
  rw[if_pos h]
 simp only[decide_eq_false_iff_not]at h
 rw[if_neg h]
 refine T.ite (fun h=>T.ret ?_) fun h=>T.ite (fun h2=>T.ret ?_) fun h2=>T.ret ?_
 ·rw[if_pos (.inl h)]
 ·rw[if_pos (.inr h2)]
 ·rw[if_neg (by omega)]
theorem acV (op:Int):T (fun n _=>I3 n op) (·=pq op):=by
 simp only[I3]
 unfold pq
 refine T.ite (fun h=>T.ret ?_) fun h=>T.ite (fun h2=>T.ite (fun h3=>T.ret ?_) fun h3=>T.ret ?_) fun h2=>T.ret ?_
 ·rw[if_pos (.inl h)]
 ·rw[if_pos (.inr ⟨h2,h3⟩)]
 ·rw[if_neg (by omega)]
 ·rw[if_neg (by omega)]
def mE (p:aj)(e:au):Int×Int×Int:=match(fU p e.mon e.name).bind fun k=>(cu p)[k]? with
 | some v=>if v.type=1 then(1,0,0)else(2,0,0)
 | none=>(0,61,e.at_)
def Kc (e:au)(ts:List (au×Int×Int×Int)):Int:=if j2 e.op=0 then(ts.head?.map fun t=>t.2.1).getD 0 else j2 e.op
def No (w:Int)(t:au×Int×Int×Int):Int×Int:=if t.2.1≠w then(70,t.1.at_)else(0,0)
def Hy (e:au)(ts:List (au×Int×Int×Int)):Int×Int:=cX (aJ (fun _ t=>t.2.2) 0 ts) (aJ (fun _=>No (Kc e ts)) 0 ts)
def Wp (e:au)(er:Int×Int):Int×Int×Int:=if er.1≠0 then(0,er)else(pq e.op,0,0)
def bK (p:aj):au->Int×Int×Int:=au.fold fun e bs=>if e.op=4 then mE p e else Wp e (Hy e (e.kids.l.zip bs))
theorem XW {α β:Type}(f:α->β):∀l:List α,l.zip (l.map f)=l.map fun a=>(a,f a)
 | []=>rfl
 | a::l=>by simp[XW f l]
def fA (p:aj)(e:au):Int:=if j2 e.op=0 then(e.kids.l.head?.map fun k=>(bK p k).1).getD 0 else j2 e.op
def j9 (p:aj)(e:au):Int×Int:=cX (aJ (fun _ k=>(bK p k).2) 0 e.kids.l) (aJ (fun _ (k:au)=>if(bK p k).1≠fA p e then(70,k.at_)else(0,0)) 0 e.kids.l)
theorem ait (e:au)(g:au->Int×Int×Int)(l:List au):Hy e (l.map fun a=>(a,g a))=cX (aJ (fun _ k=>(g k).2) 0 l) (aJ (fun _ k=>No (Kc e (l.map fun a=>(a,g a))) (k,g k)) 0 l):=by
 rw[Hy,oX (c:=fun t:au×Int×Int×Int=>t.2.2),oX (c:=No _)]
theorem rB (p:aj)(e:au):bK p e=if e.op=4 then mE p e else if(j9 p e).1≠0 then(0,j9 p e)else(pq e.op,0,0):=by
 have h:bK p e=if e.op=4 then mE p e else Wp e (Hy e (e.kids.l.map fun a=>(a,bK p a))):=by
  conv=>lhs;rw[bK,au.fold_eq,XW]
  rfl
 have hw:Kc e (e.kids.l.map fun a=>(a,bK p a))=fA p e:=by
  unfold fA Kc
  split
  ·cases e.kids.l<;>rfl
  ·rfl
 rw[h,ait,hw]
 rfl
theorem aiv {p:aj}{e:au}(hl:e.kids.l.length≤300)(ih:∀k∈e.kids.l,T (fun n _=>kV n p k) (·=bK p k)):T (fun n k=>Aa (kV n) p e n k [] 0) (fun o=>match o with | .r a b=>aJ (fun _ k=>(bK p k).2) 0 e.kids.l=(a,b)∧a≠0 | .e0 v _=>aJ (fun _ k=>(bK p k).2) 0 e.kids.l=(0,0)∧v=e.kids.l.map fun k=>(bK p k).1):=by
 refine T.count (fun j v n k=>Aa (kV n) p e n k v j) e.kids.l.length (fun j v=>v=(e.kids.l.take j).map (fun k=>(bK p k).1)∧aJ (fun _ k=>(bK p k).2) j (e.kids.l.drop j)=aJ (fun _ k=>(bK p k).2) 0 e.kids.l) (fun j v hj hI rec=>?_) (fun v hI=>?_) 0 [] (by omega) ⟨by simp,by simp⟩
 all_goals simp only[Aa]
 ·obtain⟨rfl,hI⟩:=hI
  have hg:e.kids.l[j]? =some e.kids.l[j]:=List.getElem?_eq_getElem hj
  rw[List.drop_eq_getElem_cons hj,aJ]at hI
  refine T.pos (by omega) (T.nat hg (T.bind (ih _ (List.getElem_mem hj)) fun x hx=>T.ite (fun g=>T.ret ⟨?_,g⟩) fun g=>T.pos (room (by omega) (by simp;omega)) (T.pos (aW (by omega) (by omega)) (rec _ ⟨?_,?_⟩))))
  ·subst hx
   rw[if_pos g]at hI
   exact hI.symm
  ·subst hx
   rw[eQ hg,List.map_append];rfl
  ·subst hx
   rw[if_neg g]at hI
   exact hI
 ·obtain⟨rfl,hI⟩:=hI
  rw[List.drop_length]at hI
  exact T.neg (by omega) (T.ret ⟨hI.symm,by rw[List.take_length]⟩)
theorem aiw {p:aj}{e:au}(hl:e.kids.l.length≤300)(bw:∀k∈e.kids.l,(bK p k).1≠0):T (fun n k=>uc e (e.kids.l.map fun k=>(bK p k).1) n k (j2 e.op) 0) (fun o=>match o with | .r b=>aJ (fun _ (k:au)=>if(bK p k).1≠fA p e then(70,k.at_)else(0,0)) 0 e.kids.l=(70,b) | .e2 _ _=>aJ (fun _ (k:au)=>if(bK p k).1≠fA p e then(70,k.at_)else(0,0)) 0 e.kids.l=(0,0)):=by
 refine T.count (fun j v n k=>uc e (e.kids.l.map fun k=>(bK p k).1) n k v j) e.kids.l.length (fun j v=>(v=fA p e∨(v=0∧j2 e.op=0))∧aJ (fun _ (k:au)=>if(bK p k).1≠fA p e then(70,k.at_)else(0,0)) j (e.kids.l.drop j)=aJ (fun _ (k:au)=>if(bK p k).1≠fA p e then(70,k.at_)else(0,0)) 0 e.kids.l) (fun j v hj hI rec=>?_) (fun v hI=>?_) 0 _ (by omega) ⟨?_,by simp⟩
 all_goals try simp only[uc]
 ·obtain⟨hv,hI⟩:=hI
  have hg:e.kids.l[j]? =some e.kids.l[j]:=List.getElem?_eq_getElem hj
  have hk:(e.kids.l.map fun k=>(bK p k).1)[j]? =some (bK p e.kids.l[j]).1:=by simp[hg]
  have uZ:0<e.kids.l.length:=by omega
  have fE:(e.kids.l.map fun k=>(bK p k).1)[0]? =some (bK p e.kids.l[0]).1:=by simp[List.getElem?_eq_getElem uZ]
  rw[List.drop_eq_getElem_cons hj,aJ]at hI
  have yq:j2 e.op=0->fA p e=(bK p e.kids.l[0]).1:=fun h=>by
   rw[fA,if_pos h,List.head?_eq_getElem?,List.getElem?_eq_getElem uZ];rfl
  have RI:∀w,w=fA p e->T (fun n k=>if(bK p e.kids.l[j]).1≠w then(aD e.kids.l (j:Int)).bind fun HJ=>some (DZ.r HJ.at_)else if aF ((j:Int)+1)then uc e (e.kids.l.map fun k=>(bK p k).1) n k w ((j:Int)+1)else none) (fun o=>match o with | .r b=>aJ (fun _ (k:au)=>if(bK p k).1≠fA p e then(70,k.at_)else(0,0)) 0 e.kids.l=(70,b) | .e2 _ _=>aJ (fun _ (k:au)=>if(bK p k).1≠fA p e then(70,k.at_)else(0,0)) 0 e.kids.l=(0,0)):=fun w hw=>by
   subst hw
   refine T.ite (fun g=>T.nat hg (T.ret ?_)) fun g=>T.pos (aW (by omega) (by omega)) (rec _ ⟨.inl rfl,?_⟩)
   ·rw[if_pos (by rw[if_pos g];exact(by decide:(70:Int)≠0)),if_pos g]at hI
    exact hI.symm
   ·rw[if_neg (by rw[if_neg g];simp)]at hI
    exact hI
  refine T.pos (by simp;omega) (T.ite (fun g=>T.at (i:=0) (by decide) fE (T.nat hk (RI _ ?_))) fun g=>T.nat hk (RI _ ?_))
  ·rcases hv with rfl | ⟨_,hv⟩
   ·by_cases hz:j2 e.op=0
    ·exact(yq hz).symm
    ·rw[fA,if_neg hz]at g;exact absurd g hz
   ·exact(yq hv).symm
  ·rcases hv with rfl | ⟨hv,_⟩
   ·rfl
   ·exact absurd hv g
 ·obtain⟨hv,hI⟩:=hI
  rw[List.drop_length]at hI
  exact T.neg (by simp) (T.ret hI.symm)
 ·by_cases hz:j2 e.op=0
  ·exact .inr ⟨hz,hz⟩
  ·exact .inl (by rw[fA,if_neg hz])
theorem Wn {p:aj}{e:au}(h:(bK p e).2.1=0):(bK p e).1≠0:=by
 rw[rB]at h ⊢
 by_cases g:e.op=4
 ·rw[if_pos g]at h ⊢
  unfold mE at h ⊢
  generalize ((fU p e.mon e.name).bind fun k=>(cu p)[k]?)=o at h ⊢
  cases o with
  | none=>cases h
  | some v=>simp only;split<;>decide
 ·rw[if_neg g]at h ⊢
  by_cases g2:(j9 p e).1≠0
  ·rw[if_pos g2]at h;exact absurd h g2
  ·rw[if_neg g2]
   show pq e.op≠0
   unfold pq
   split<;>decide
theorem aiu {p:aj}(hf:dI p){e:au}(hl:e.kids.l.length≤300)(ih:∀k∈e.kids.l,T (fun n _=>kV n p k) (·=bK p k)):T (fun n _=>kV n p e) (·=bK p e):=by
 refine T.n1 ?_
 simp only[kV]
 refine T.ite (fun g=>T.bind (Dg hf _ _) fun x hx=>?_) fun g=>T.bind (apO _) fun w hw=>T.bind (T.dg (aiv hl ih)) fun o ho=>?_
 ·rw[rB,if_pos g]
  cases hs:fU p e.mon e.name with
  | none=>
   have he:eg p e.mon e.name=(0,false):=by simp only[eg,hs]
   rw[he]at hx
   subst hx
   exact T.cond (fun h=>by cases h) fun _=>T.ret (by simp only[mE,hs,Option.bind_none])
  | some k=>
   have he:eg p e.mon e.name=((k:Int),true):=by simp only[eg,hs]
   rw[he]at hx
   subst hx
   obtain⟨_,_,_,v,_,_,_,_,_,_,_,hv⟩:=Df hs
   refine T.cond (fun _=>T.bind (GU hf) fun y hy=>?_) fun h=>by cases h
   subst hy
   refine T.nat hv (T.ite (fun h=>T.ret ?_) fun h=>T.ret ?_)
   ·simp only[mE,hs,Option.bind_some,hv,if_pos h]
   ·simp only[mE,hs,Option.bind_some,hv,if_neg h]
 ·rw[rB,if_neg g]
  subst hw
  cases o with
  | r a b=>
   have he:j9 p e=(a,b):=pH ho
   exact T.ret (by rw[he,if_pos ho.2])
  | e0 v _=>
   obtain⟨h1,rfl⟩:aJ (fun _ k=>(bK p k).2) 0 e.kids.l=(0,0)∧v=e.kids.l.map fun k=>(bK p k).1:=ho
   have he:j9 p e=_:=om h1
   refine T.bind (T.dg (aiw hl fun k hk=>Wn (sB (c:=fun k=>(bK p k).2) (by rw[h1]) hk))) fun o ho=>?_
   cases o with
   | r b=>refine T.ret ?_;rw[he,show aJ _ 0 e.kids.l=(70,b) from ho];rfl
   | e2 _ _=>refine T.bind (acV _) fun x hx=>T.ret ?_;rw[he,show aJ _ 0 e.kids.l=(0,0) from ho,hx];rfl
theorem OP {p:aj}(hf:dI p):∀e:au,bE e=true->T (fun n _=>kV n p e) (·=bK p e):=au.eZ fun e ih hb=>
 aiu hf (qn hb).1 fun k hk=>ih k hk ((qn hb).2 k hk)
end Go.Vig
