/-
  Part of the proof: printed by the session's own program out of the program's form, or typed; it states no claim by itself.
-/
import Derived.Test.YtpadajnejknkeaaGreatBm
import Derived.Test.YtpadajnejknkeaaGreatFa
import Derived.Test.YtpadajnejknkeaaGreatFb
set_option linter.unusedVariables false
set_option linter.unusedSimpArgs false
namespace Go.Vig
open Go Go.Abs
def T {R:Type}(F:Nat->Nat->Option R)(Q:R->Prop):Prop:=∃r,Q r∧∃N,∀n k,N≤n->N≤k->F n k=some r
section
variable {A R:Type}{Q:R->Prop}
theorem T.ret {r:R}(h:Q r):T (fun _ _=>some r) Q:=⟨r,h,0,fun _ _ _ _=>rfl⟩
theorem T.bind {P:A->Prop}{F:Nat->Nat->Option A}{G:Nat->Nat->A->Option R}(h:T F P)(g:∀a,P a->T (fun n k=>G n k a) Q):T (fun n k=>(F n k).bind (G n k)) Q:=by
 obtain⟨a,ha,N,hN⟩:=h
 obtain⟨r,hr,M,hM⟩:=g a ha
 refine⟨r,hr,max N M,fun n k h1 h2=>?_⟩
 show(F n k).bind (G n k)=some r
 rw[hN n k (by omega) (by omega),Option.bind_some]
 exact hM n k (by omega) (by omega)
theorem T.mono {P:R->Prop}{F:Nat->Nat->Option R}(h:T F P)(g:∀r,P r->Q r):T F Q:=by
 obtain⟨r,hr,N,hN⟩:=h
 exact⟨r,g r hr,N,hN⟩
theorem T.ite {c:Prop}[Decidable c]{a b:Nat->Nat->Option R}(h1:c->T a Q)(h2:¬c->T b Q):T (fun n k=>if c then a n k else b n k) Q:=by
 by_cases h:c
 ·simp only[if_pos h];exact h1 h
 ·simp only[if_neg h];exact h2 h
theorem T.pos {c:Prop}[Decidable c]{a b:Nat->Nat->Option R}(h:c)(h1:T a Q):T (fun n k=>if c then a n k else b n k) Q:=T.ite (fun _=>h1) (fun g=>absurd h g)
theorem T.neg {c:Prop}[Decidable c]{a b:Nat->Nat->Option R}(h:¬c)(h1:T b Q):T (fun n k=>if c then a n k else b n k) Q:=T.ite (fun g=>absurd g h) (fun _=>h1)
theorem T.cond {c:Bool}{a b:Nat->Nat->Option R}(h1:c=true->T a Q)(h2:c=false->T b Q):T (fun n k=>bif c then a n k else b n k) Q:=by
 cases c
 ·exact h2 rfl
 ·exact h1 rfl
theorem T.get {l:List A}{i:Int}{G:Nat->Nat->A->Option R}(hi:0≤i∧i<(l.length:Int))(g:∀a,l[i.toNat]? =some a->T (fun n k=>G n k a) Q):T (fun n k=>(aD l i).bind (G n k)) Q:=by
 have h:i.toNat<l.length:=by omega
 have e:aD l i=some l[i.toNat]:=by unfold aD;rw[if_pos hi.1,List.getElem?_eq_getElem h]
 simp only[e,Option.bind_some]
 exact g _ (List.getElem?_eq_getElem h)
theorem T.at {l:List A}{i:Int}{a:A}{G:Nat->Nat->A->Option R}(h0:0≤i)(h:l[i.toNat]? =some a)(g:T (fun n k=>G n k a) Q):T (fun n k=>(aD l i).bind (G n k)) Q:=by
 have e:aD l i=some a:=by unfold aD;rw[if_pos h0,h]
 simp only[e,Option.bind_some]
 exact g
theorem T.nat {l:List A}{i:Nat}{a:A}{G:Nat->Nat->A->Option R}(h:l[i]? =some a)(g:T (fun n k=>G n k a) Q):T (fun n k=>(aD l (i:Int)).bind (G n k)) Q:=T.at (by omega) (by simpa using h) g
theorem T.byte {s:ByteArray}{i:Int}{G:Nat->Nat->Int->Option R}(hi:0≤i∧i<(s.size:Int))(g:∀b:UInt8,s[i.toNat]? =some b->T (fun n k=>G n k (b.toNat:Int)) Q):T (fun n k=>(lR s i).bind (G n k)) Q:=by
 have h:i.toNat<s.size:=by omega
 have e:lR s i=some (s[i.toNat].toNat:Int):=by unfold lR;rw[if_pos hi.1,getElem?_pos s i.toNat h];rfl
 simp only[e,Option.bind_some]
 exact g _ (getElem?_pos s i.toNat h)
theorem T.n1 {F:Nat->Nat->Option R}(h:T (fun n k=>F (n+1) k) Q):T F Q:=by
 obtain⟨r,hr,N,hN⟩:=h
 refine⟨r,hr,N+1,fun n k h1 h2=>?_⟩
 obtain⟨m,rfl⟩:∃m,n=m+1:=⟨n - 1,by omega⟩
 exact hN m k (by omega) (by omega)
theorem T.k1 {F:Nat->Nat->Option R}(h:T (fun n k=>F n (k+1)) Q):T F Q:=by
 obtain⟨r,hr,N,hN⟩:=h
 refine⟨r,hr,N+1,fun n k h1 h2=>?_⟩
 obtain⟨m,rfl⟩:∃m,k=m+1:=⟨k - 1,by omega⟩
 exact hN n m (by omega) (by omega)
theorem T.dg {F:Nat->Nat->Option R}(h:T F Q):T (fun n _=>F n n) Q:=by
 obtain⟨r,hr,N,hN⟩:=h
 exact⟨r,hr,N,fun n k h1 h2=>hN n n h1 h1⟩
theorem T.val {F:Nat->Option R}(h:T (fun n _=>F n) Q):∃n r,F n=some r∧Q r:=by
 obtain⟨r,hr,N,hN⟩:=h
 exact⟨N,r,hN N N (Nat.le_refl _) (Nat.le_refl _),hr⟩
theorem T.count {σ O:Type}{Q:O->Prop}(G:Int->σ->Nat->Nat->Option O)(len:Nat)(I:Nat->σ->Prop)
  (step:∀(j:Nat) (s:σ),j<len->I j s->(∀s',I (j+1) s'->T (G ((j:Int)+1) s') Q)->T (fun n k=>G (j:Int) s n (k+1)) Q)
  (fin:∀s,I len s->T (fun n k=>G (len:Int) s n (k+1)) Q):∀(j:Nat) (s:σ),j≤len->I j s->T (G (j:Int) s) Q:=by
 have h:∀(d j:Nat) (s:σ),j+d=len->I j s->T (G (j:Int) s) Q:=by
  intro d
  induction d with
  | zero=>
   intro j s hj hI
   obtain rfl:j=len:=by omega
   exact T.k1 (fin s hI)
  | succ d ih=>
   intro j s hj hI
   refine T.k1 (step j s (by omega) hI fun s' h'=>?_)
   have:=ih (j+1) s' (by omega) h'
   rwa [Int.natCast_succ]at this
 intro j s hj hI
 exact h (len - j) j s (by omega) hI
theorem T.any {α O:Type}{Q:O->Prop}{l:List α}(G:Int->Nat->Nat->Option O)(b:α->Bool)
  (hit:∀(j:Nat) (a:α),l[j]? =some a->b a=true->(∀x∈l.take j,b x=false)->T (fun n k=>G (j:Int) n (k+1)) Q)
  (adO:∀(j:Nat) (a:α),l[j]? =some a->b a=false->T (G ((j:Int)+1)) Q->T (fun n k=>G (j:Int) n (k+1)) Q)
  (fin:(∀a∈l,b a=false)->T (fun n k=>G (l.length:Int) n (k+1)) Q):T (G 0) Q:=by
 refine T.count (fun i (_:Unit)=>G i) l.length (fun j _=>∀x∈l.take j,b x=false) (fun j s hj hI rec=>?_) (fun s hI=>fin (by rwa [List.take_length]at hI)) 0 () (by omega) (by simp)
 have hg:l[j]? =some l[j]:=List.getElem?_eq_getElem hj
 cases hb:b l[j]with
 | true=>exact hit j _ hg hb hI
 | false=>
  refine adO j _ hg hb (rec () fun x hx=>?_)
  rw[List.take_succ_eq_append_getElem hj,List.mem_append,List.mem_singleton]at hx
  rcases hx with hx | rfl
  ·exact hI x hx
  ·exact hb
theorem T.lP {α O:Type}{Q:O->Prop}{l:List α}(G:Int->Nat->Nat->Option O)(b:α->Bool)
  (step:∀(j:Nat) (a:α),l[j]? =some a->j<l.length->(b a=true->T (G ((j:Int)+1)) Q)->(b a=false->l.all b=false)->T (fun n k=>G (j:Int) n (k+1)) Q)
  (fin:l.all b=true->T (fun n k=>G (l.length:Int) n (k+1)) Q):T (G 0) Q:=by
 refine T.any G (fun a=> !b a) (fun j a ha hb _=>?_) (fun j a ha hb rec=>?_) (fun hf=>fin (List.all_eq_true.2 fun a ha=>by simpa using hf a ha))
 ·rw[Bool.not_eq_true']at hb
  refine step j a ha (List.getElem?_eq_some_iff.1 ha).1 (fun h=>absurd (hb.symm.trans h) (by decide)) fun _=>Bool.eq_false_iff.2 fun h=>?_
  rw[List.all_eq_true.1 h a (List.mem_of_getElem? ha)]at hb;cases hb
 ·rw[Bool.not_eq_false']at hb
  exact step j a ha (List.getElem?_eq_some_iff.1 ha).1 (fun _=>rec) fun h=>absurd (hb.symm.trans h) (by decide)
def aJ {α:Type}(c:Nat->α->Int×Int):Nat->List α->Int×Int
 | _,[]=>(0,0)
 | i,a::l=>if(c i a).1≠0 then c i a else aJ c (i+1) l
theorem Fi {α:Type}{c:Nat->α->Int×Int}:∀{l:List α}{i:Nat},(aJ c i l).1=0↔∀(j:Nat) (a:α),l[j]? =some a->(c (i+j) a).1=0
 | [],i=>by simp[aJ]
 | a::l,i=>by
  unfold aJ
  constructor
  ·intro h j b hb
   by_cases h0:(c i a).1≠0
   ·rw[if_pos h0]at h;exact absurd h h0
   ·rw[if_neg h0]at h
    cases j with
    | zero=>simp at hb;subst hb;simpa using h0
    | succ j=>
     have:=Fi.1 h j b (by simpa using hb)
     rwa [show i+1+j=i+(j+1) by omega]at this
  ·intro h
   rw[if_neg (by simpa using h 0 a rfl)]
   exact Fi.2 fun j b hb=>by
    have:=h (j+1) b (by simpa using hb)
    rwa [show i+(j+1)=i+1+j by omega]at this
theorem sB {α:Type}{c:α->Int×Int}{l:List α}{i:Nat}(h:(aJ (fun _=>c) i l).1=0){a:α}(ha:a∈l):(c a).1=0:=by
 obtain⟨j,hj,rfl⟩:=List.mem_iff_getElem.1 ha
 exact Fi.1 h j _ (List.getElem?_eq_getElem hj)
theorem xS {α:Type}{c:Nat->α->Int×Int}:∀{l:List α}{i:Nat},(aJ c i l).1=0->aJ c i l=(0,0)
 | [],i,_=>rfl
 | a::l,i,h=>by
  unfold aJ at h ⊢
  by_cases h0:(c i a).1≠0
  ·rw[if_pos h0]at h;exact absurd h h0
  ·rw[if_neg h0]at h ⊢
   exact xS h
theorem T.fe {α O:Type}{Q:O->Prop}{l:List α}(G:Int->Nat->Nat->Option O)(c:Nat->α->Int×Int)
  (step:∀(j:Nat) (a:α),l[j]? =some a->j<l.length->((c j a).1=0->T (G ((j:Int)+1)) Q)->((c j a).1≠0->aJ c 0 l=c j a)->T (fun n k=>G (j:Int) n (k+1)) Q)
  (fin:aJ c 0 l=(0,0)->T (fun n k=>G (l.length:Int) n (k+1)) Q):T (G 0) Q:=by
 refine T.count (fun i (_:Unit)=>G i) l.length (fun j _=>aJ c j (l.drop j)=aJ c 0 l) (fun j s hj hI rec=>?_) (fun s hI=>fin (by rw[←hI,List.drop_length];rfl)) 0 () (by omega) (by simp)
 have hg:l[j]? =some l[j]:=List.getElem?_eq_getElem hj
 rw[List.drop_eq_getElem_cons hj,aJ]at hI
 refine step j _ hg hj (fun h=>rec () ?_) fun h=>?_
 ·rw[if_neg (by simpa using h)]at hI;exact hI
 ·rw[if_pos h]at hI;exact hI.symm
def cX (a b:Int×Int):Int×Int:=if a.1≠0 then a else b
theorem tD {a b:Int×Int}:(cX a b).1=0↔a.1=0∧b.1=0:=by
 unfold cX
 by_cases h:a.1≠0
 ·rw[if_pos h];simp[h]
 ·rw[if_neg h];simp at h;simp[h]
theorem uS {α:Type}{b:α->Bool}{l:List α}{j:Nat}{a:α}(h:l[j]? =some a)(hb:b a=true)(hm:∀x∈l.take j,b x=false):l.findIdx? b=some j∧l.find? b=some a:=by
 induction l generalizing j with
 | nil=>cases h
 | cons x l ih=>
  cases j with
  | zero=>simp at h;subst h;simp[List.findIdx?_cons,hb]
  | succ j=>
   have h0:b x=false:=hm x (by simp)
   obtain⟨h1,h2⟩:=ih (j:=j) (by simpa using h) fun y hy=>hm y (by simp[hy])
   simp[List.findIdx?_cons,h0,h1,h2,List.find?_cons]
theorem xT {α:Type}{b:α->Bool}{l:List α}(hm:∀x∈l,b x=false):l.findIdx? b=none∧l.find? b=none:=by
 refine⟨List.findIdx?_eq_none_iff.2 hm,List.find?_eq_none.2 fun x hx=>by simp[hm x hx]⟩
def walk {α σ O:Type}(step:σ->α->O ⊕ σ)(fin:σ->O):List α->σ->O
 | [],s=>fin s
 | a::l,s=>match step s a with
  | .inl o=>o
  | .inr s'=>walk step fin l s'
end
theorem eQ {α:Type}{l:List α}{j:Nat}{a:α}(h:l[j]? =some a):l.take (j+1)=l.take j++[a]:=by rw[List.take_add_one,h];rfl
theorem kT {α:Type}{l:List α}{j:Nat}{a x:α}(h:l[j]? =some a):x∈l.take (j+1)↔x∈l.take j∨x=a:=by rw[eQ h,List.mem_append,List.mem_singleton]
theorem nr {α:Type}{l:List α}{j:Nat}{a:α}(h:l[j]? =some a)(f:α->Nat):((l.take (j+1)).map f).sum=((l.take j).map f).sum+f a:=by rw[eQ h,List.map_append,List.sum_append];simp
theorem aW {n:Int}(h0: -1000000000000≤n)(h:n≤1000000000000):aF n:=by unfold aF;omega
theorem room {b n:Nat}(hb:b≤200)(h:n≤100000000000):Room b n:=by
 unfold Room
 have:=Nat.mul_le_mul h hb
 omega
theorem Gk {b n:Nat}(hb:b≤200)(h:n≤100000000000):Mk b n:=by
 unfold Mk
 have:=Nat.mul_le_mul hb h
 omega
end Go.Vig
set_option linter.unusedSectionVars false
set_option maxRecDepth 100000
namespace Go.Vig
open Go Go.Abs
variable [Kn]
def q9 (c:Int):Bool:=decide (97≤c∧c≤122∨65≤c∧c≤90)
def xO (c:Int):Bool:=decide (48≤c∧c≤57)
def lq (b:UInt8):Bool:=q9 b.toNat || xO b.toNat || decide ((b.toNat:Int)=95)
def rV:List ByteArray:=(match zz 0 with | some w=>w.l | none=>[])
def qb (s:ByteArray):Bool:=rV.any fun w=>decide (w=s)
theorem XN {s:ByteArray}:qb s=true↔s∈rV:=by simp[qb]
def gp (s:ByteArray):Bool:=decide (1≤s.size)&&decide (s.size≤32)&&(match s.data.toList with | b::_=>q9 b.toNat | []=>false)&&s.data.toList.all lq&& !qb s
theorem Nb (c:Int):T (fun n k=>DR n c) (·=q9 c):=by
 unfold q9
 simp only[DR]
 repeat' (first | refine T.ite (fun h=>?_) (fun h=>?_) | refine T.ret ?_)
 all_goals simp;omega
theorem RA (c:Int):T (fun n k=>H2 n c) (·=xO c):=by
 unfold xO
 simp only[H2]
 repeat' (first | refine T.ite (fun h=>?_) (fun h=>?_) | refine T.ret ?_)
 all_goals simp;try omega
theorem XO:rV.length=20:=rfl
theorem apS (s:ByteArray):T (fun n k=>HZ n s) (·=qb s):=by
 simp only[HZ]
 have hw:∀n,∃w,zz n=some w∧w.l=rV:=fun n=>⟨_,rfl,rfl⟩
 have hL:∀x:Sl ByteArray,x.l=rV->T (fun n k=>tX s x n k 0) (fun o=>match o with | .r=>qb s=true | .e0 _=>qb s=false):=fun x hx=>by
  refine T.any (l:=rV) (fun i n k=>tX s x n k i) (fun a=>decide (a=s)) (fun j a ha hb _=>?_) (fun j a ha hb rec=>?_) (fun hf=>?_)
  ·have hj:=(List.getElem?_eq_some_iff.1 ha).1
   simp only[tX,hx]
   refine T.pos (by omega) (T.nat ha (T.pos (by simpa using hb) (T.ret ?_)))
   obtain rfl:a=s:=by simpa using hb
   exact XN.2 (List.mem_of_getElem? ha)
  ·have hj:=(List.getElem?_eq_some_iff.1 ha).1
   rw[XO]at hj
   simp only[tX,hx,XO]
   exact T.pos (by omega) (T.nat ha (T.neg (by simpa using hb) (T.pos (aW (by omega) (by omega)) rec)))
  ·simp only[tX,hx]
   refine T.neg (by omega) (T.ret ?_)
   refine Bool.eq_false_iff.2 fun hm=>?_
   simpa using hf s (XN.1 hm)
 refine T.bind (P:=fun w=>w.l=rV) ⟨_,rfl,0,fun n k _ _=>rfl⟩ fun w hw=>T.bind (T.dg (hL w hw)) fun o ho=>?_
 cases o with
 | r=>exact T.ret ho.symm
 | e0 v=>exact T.ret ho.symm
theorem adX (s:ByteArray)(hs:s.size≤32):T (fun n k=>pV s n k 0) (fun o=>match o with | .r=>s.data.toList.all lq=false | .e0 _=>s.data.toList.all lq=true):=by
 have hl:s.data.toList.length=s.size:=by rw[Array.length_toList];rfl
 have hg:∀(j:Nat) (a:UInt8),s.data.toList[j]? =some a->s[j]? =some a:=fun j a ha=>by
  have hj:=(List.getElem?_eq_some_iff.1 ha).1
  rw[hl]at hj
  rw[getElem?_pos s j hj]
  rw[←ha,List.getElem?_eq_getElem (by rw[hl];exact hj)]
  rfl
 have hb:∀(j:Nat) (a:UInt8) {Q:zy->Prop}{G:Nat->Nat->Int->Option zy},s.data.toList[j]? =some a->T (fun n k=>G n k (a.toNat:Int)) Q->T (fun n k=>(lR s (j:Int)).bind (G n k)) Q:=fun j a Q G ha g=>by
  have hj:=(List.getElem?_eq_some_iff.1 ha).1
  refine T.byte ⟨by omega,by omega⟩ fun b hb=>?_
  have:=hg j a ha
  simp only[Int.toNat_natCast]at hb
  rw[this]at hb
  cases hb
  exact g
 refine T.any (l:=s.data.toList) (fun i n k=>pV s n k i) (fun a=> !lq a) (fun j a ha dt _=>?_) (fun j a ha dt rec=>?_) (fun hf=>?_)
 ·have hj:=(List.getElem?_eq_some_iff.1 ha).1
  simp only[pV]
  simp only[lq,Bool.not_eq_true',Bool.or_eq_false_iff,decide_eq_false_iff_not]at dt
  refine T.pos (by omega) (hb j a ha (T.bind (Nb _) fun x hx=>?_))
  subst hx
  rw[dt.1.1]
  refine hb j a ha (T.bind (RA _) fun x hx=>?_)
  subst hx
  rw[dt.1.2]
  refine hb j a ha (T.pos dt.2 (T.ret ?_))
  refine Bool.eq_false_iff.2 fun h=>?_
  have:=List.all_eq_true.1 h a (List.mem_of_getElem? ha)
  simp only[lq,dt.1.1,dt.1.2,Bool.or_false,Bool.false_or,decide_eq_true_eq]at this
  exact dt.2 this
 ·have hj:=(List.getElem?_eq_some_iff.1 ha).1
  simp only[pV]
  refine T.pos (by omega) (hb j a ha (T.bind (Nb _) fun x hx=>?_))
  subst hx
  refine T.cond (fun h=>T.pos (aW (by omega) (by omega)) rec) fun h=>?_
  refine hb j a ha (T.bind (RA _) fun x hx=>?_)
  subst hx
  refine T.cond (fun h=>T.pos (aW (by omega) (by omega)) rec) fun h2=>?_
  refine hb j a ha (T.neg (fun h3=>?_) (T.pos (aW (by omega) (by omega)) rec))
  simp[lq,h,h2,h3]at dt
 ·simp only[pV]
  refine T.neg (by omega) (T.ret ?_)
  simp only[List.all_eq_true]
  intro a ha
  have:=hf a ha
  simpa using this
theorem pw (s:ByteArray):T (fun n k=>mH n s) (·=gp s):=by
 simp only[mH]
 have hl:s.data.toList.length=s.size:=by rw[Array.length_toList];rfl
 refine T.ite (fun h=>T.ret ?_) fun h=>T.ite (fun h2=>T.ret ?_) fun h2=>?_
 ·simp only[gp];rw[decide_eq_false (by omega)];rfl
 ·simp only[gp];rw[decide_eq_false (p:=s.size≤32) (by omega)];simp
 refine T.byte ⟨by omega,by omega⟩ fun b hb=>T.bind (Nb _) fun x hx=>?_
 subst hx
 have hd:∃t,s.data.toList=b::t:=by
  have h0:0<s.size:=by omega
  rw[Int.toNat_zero,getElem?_pos s 0 h0]at hb
  cases he:s.data.toList with
  | nil=>rw[he]at hl;simp at hl;omega
  | cons a t=>
   refine⟨t,?_⟩
   congr 1
   have h1:s.data.toList[0]? =some a:=by rw[he];rfl
   have h2:s[0]=b:=Option.some.inj hb
   rw[←h2]
   have h3:s.data.toList[0]? =some (s[0]):=by rw[List.getElem?_eq_getElem (by rw[hl];exact h0)];rfl
   rw[h1]at h3
   exact Option.some.inj h3
 obtain⟨t,ht⟩:=hd
 have hn:gp s=(q9 b.toNat&&s.data.toList.all lq&& !qb s):=by
  simp only[gp]
  rw[decide_eq_true (by omega),decide_eq_true (by omega),ht];rfl
 refine T.cond (fun h3=>T.bind (T.dg (adX s (by omega))) fun o ho=>?_) fun h3=>T.ret ?_
 ·cases o with
  | r=>refine T.ret ?_;rw[hn];simp only at ho;rw[ho];simp
  | e0 v=>
   refine T.bind (apS s) fun x hx=>?_
   subst hx
   simp only at ho
   refine T.cond (fun h4=>T.ret ?_) fun h4=>T.ret ?_
   ·rw[hn,h4];simp
   ·rw[hn,h3,ho,h4];rfl
 ·rw[hn,h3];rfl
end Go.Vig
namespace Go.Abs
open Go
mutual
theorem au.eZ {P:au->Prop}(h:∀e:au,(∀k∈e.kids.l,P k)->P e):∀e:au,P e
 | ⟨a0,a1,a2,a3,⟨nl,x,l⟩,a5⟩=>h _ (au.Ct h l)
theorem au.Ct {P:au->Prop}(h:∀e:au,(∀k∈e.kids.l,P k)->P e):∀l:List au,∀k∈l,P k
 | [],k,hk=>by cases hk
 | e::l,k,hk=>(List.mem_cons.1 hk).elim (fun q=>q▸au.eZ h e) (au.Ct h l k)
end
mutual
theorem af.eZ {P:af->Prop}(h:∀s:af,(∀b∈s.blocks.l,∀t∈b.l,P t)->P s):∀s:af,P s
 | ⟨a0,a1,a2,a3,a4,⟨nl,x,l⟩,a6⟩=>h _ (af.Tj h l)
theorem af.Ct {P:af->Prop}(h:∀s:af,(∀b∈s.blocks.l,∀t∈b.l,P t)->P s):∀l:List af,∀t∈l,P t
 | [],t,ht=>by cases ht
 | s::l,t,ht=>(List.mem_cons.1 ht).elim (fun q=>q▸af.eZ h s) (af.Ct h l t)
theorem af.Tj {P:af->Prop}(h:∀s:af,(∀b∈s.blocks.l,∀t∈b.l,P t)->P s):∀l:List (Sl af),∀b∈l,∀t∈b.l,P t
 | [],b,hb=>by cases hb
 | ⟨nl,x,l⟩::bs,b,hb=>(List.mem_cons.1 hb).elim (fun q=>q▸af.Ct h l) (af.Tj h bs b)
end
mutual
def au.fold {α:Type}(f:au->List α->α):au->α
 | ⟨a0,a1,a2,a3,⟨nl,x,l⟩,a5⟩=>f ⟨a0,a1,a2,a3,⟨nl,x,l⟩,a5⟩ (au.nN f l)
def au.nN {α:Type}(f:au->List α->α):List au->List α
 | []=>[]
 | e::l=>au.fold f e::au.nN f l
end
theorem au.Bt {α:Type}(f:au->List α->α):∀l:List au,au.nN f l=l.map (au.fold f)
 | []=>by rw[au.nN,List.map_nil]
 | e::l=>by rw[au.nN,au.Bt f l,List.map_cons]
theorem au.fold_eq {α:Type}(f:au->List α->α)(e:au):au.fold f e=f e (e.kids.l.map (au.fold f)):=by
 obtain⟨a0,a1,a2,a3,⟨nl,x,l⟩,a5⟩:=e
 rw[au.fold,au.Bt]
mutual
def af.fold {α:Type}(f:af->List (List α)->α):af->α
 | ⟨a0,a1,a2,a3,a4,⟨nl,x,l⟩,a6⟩=>f ⟨a0,a1,a2,a3,a4,⟨nl,x,l⟩,a6⟩ (af.Bs f l)
def af.nN {α:Type}(f:af->List (List α)->α):List af->List α
 | []=>[]
 | s::l=>af.fold f s::af.nN f l
def af.Bs {α:Type}(f:af->List (List α)->α):List (Sl af)->List (List α)
 | []=>[]
 | ⟨nl,x,l⟩::bs=>af.nN f l::af.Bs f bs
end
theorem af.Bt {α:Type}(f:af->List (List α)->α):∀l:List af,af.nN f l=l.map (af.fold f)
 | []=>by rw[af.nN,List.map_nil]
 | e::l=>by rw[af.nN,af.Bt f l,List.map_cons]
theorem af.Sa {α:Type}(f:af->List (List α)->α):∀l:List (Sl af),af.Bs f l=l.map fun b=>b.l.map (af.fold f)
 | []=>by rw[af.Bs,List.map_nil]
 | ⟨nl,x,l⟩::bs=>by rw[af.Bs,af.Bt,af.Sa f bs,List.map_cons]
theorem af.fold_eq {α:Type}(f:af->List (List α)->α)(s:af):af.fold f s=f s (s.blocks.l.map fun b=>b.l.map (af.fold f)):=by
 obtain⟨a0,a1,a2,a3,a4,⟨nl,x,l⟩,a6⟩:=s
 rw[af.fold,af.Sa]
end Go.Abs
namespace Go.Vig
open Go Go.Abs
def bE:au->Bool:=au.fold fun e bs=>decide (e.mon.size≤200)&&decide (e.name.size≤200)&&decide (e.kids.l.length≤300)&&bs.all id
theorem EN (e:au):bE e=(decide (e.mon.size≤200)&&decide (e.name.size≤200)&&decide (e.kids.l.length≤300)&&e.kids.l.all bE):=by
 rw[bE,au.fold_eq,List.all_map];rfl
theorem qn {e:au}(h:bE e=true):e.kids.l.length≤300∧∀k∈e.kids.l,bE k=true:=by
 rw[EN]at h
 simp only[Bool.and_eq_true,decide_eq_true_eq,List.all_eq_true]at h
 exact⟨h.1.2,h.2⟩
def kS:au->Nat:=au.fold fun e bs=>1+bs.sum
theorem Oy (e:au):kS e=1+(e.kids.l.map kS).sum:=by rw[kS,au.fold_eq]
def bS:af->Bool:=af.fold fun s bs=>decide (s.mon.size≤200)&&decide (s.name.size≤200)&&decide (s.blocks.l.length≤40)&&bE s.e_&&bs.all fun b=>decide (b.length≤300)&&b.all id
def dh (l:List af):Bool:=decide (l.length≤300)&&l.all bS
theorem QT (s:af):bS s=(decide (s.mon.size≤200)&&decide (s.name.size≤200)&&decide (s.blocks.l.length≤40)&&bE s.e_&&s.blocks.l.all fun b=>dh b.l):=by
 rw[bS,af.fold_eq,List.all_map]
 congr 2
 funext b
 simp only[Function.comp,dh,List.length_map,List.all_map]
 rfl
theorem iF {s:af}(h:bS s=true):s.blocks.l.length≤40∧bE s.e_=true∧∀b∈s.blocks.l,dh b.l=true:=by
 rw[QT]at h
 simp only[Bool.and_eq_true,decide_eq_true_eq,List.all_eq_true]at h
 exact⟨h.1.1.2,h.1.2,h.2⟩
theorem fY {l:List af}(h:dh l=true):l.length≤300∧∀s∈l,bS s=true:=by
 simp only[dh,Bool.and_eq_true,decide_eq_true_eq,List.all_eq_true]at h
 exact h
def fv:af->Nat:=af.fold fun s bs=>1+(bs.map List.sum).sum
def br (l:List af):Nat:=(l.map fv).sum
theorem tO (s:af):fv s=1+(s.blocks.l.map fun b=>br b.l).sum:=by
 rw[fv,af.fold_eq,List.map_map];rfl
variable [Kn]
def q7 (op:Int):Int:=if 1≤op∧op≤4 then 0 else if 5≤op∧op≤7 then 1 else if 8≤op∧op≤17 then 2 else -1
theorem ac9 (op:Int):T (fun n k=>Is n op) (·=q7 op):=by
 unfold q7
 simp only[Is,Po,Pp]
 refine T.bind (P:=fun o=>o= .m (decide (1≤op∧op≤4))) ?_ fun o ho=>?_
 ·repeat' (first | refine T.ite (fun h=>?_) (fun h=>?_) | refine T.ret ?_)
  all_goals simp;try omega
 subst ho
 refine T.cond (fun h=>T.ret ?_) fun h=>?_
 ·simp only[decide_eq_true_eq]at h
  rw[if_pos h]
 simp only[decide_eq_false_iff_not]at h
 rw[if_neg h]
 refine T.bind (P:=fun o=>o= .m (decide (5≤op∧op≤7))) ?_ fun o ho=>?_
 ·repeat' (first | refine T.ite (fun h=>?_) (fun h=>?_) | refine T.ret ?_)
  all_goals simp;try omega
 subst ho
 refine T.cond (fun h=>T.ret ?_) fun h=>?_
 ·simp only[decide_eq_true_eq]at h
  rw[if_pos h]
 simp only[decide_eq_false_iff_not]at h
 rw[if_neg h]
 repeat' (first | refine T.ite (fun h=>?_) (fun h=>?_) | refine T.ret ?_)
 ·rw[if_pos ⟨by omega,by omega⟩]
 ·rw[if_neg (by omega)]
 ·rw[if_neg (by omega)]
def E0:ByteArray:=⟨#[]⟩
def jR (e:au):Bool:=decide ((e.kids.l.length:Int)=q7 e.op)&&decide (0≤e.n_)&&(decide (e.n_=0) || decide (e.op=1) || decide (e.op=7))&&(if e.op=4 then gp e.mon&&gp e.name else decide (e.mon=E0)&&decide (e.name=E0))
def eA:au->Bool:=au.fold fun e bs=>jR e&&bs.all id
theorem F0 (e:au):eA e=(jR e&&e.kids.l.all eA):=by rw[eA,au.fold_eq,List.all_map];rfl
def Ht (e:au):Bool:=(if e.op=4 then gp e.mon&&gp e.name else decide (e.mon=E0)&&decide (e.name=E0))&&e.kids.l.all eA
theorem acM (e:au):T (fun n k=>H3 e n) (fun o=>match o with | .r=>eA e=false | .m=>eA e=Ht e):=by
 simp only[H3,Ht]
 refine T.bind (ac9 _) fun x hx=>?_
 subst hx
 refine T.ite (fun h=>T.ret ?_) fun h=>T.ite (fun h2=>T.ret ?_) fun h2=>T.ite (fun h3=>T.ite (fun h4=>T.ite (fun h5=>T.ret ?_) fun h5=>T.ret ?_) fun h4=>T.ret ?_) fun h3=>T.ret ?_
 all_goals rw[F0,jR]
 ·simp[h]
 ·simp[show¬0≤e.n_ by omega]
 ·simp[h3,h4,h5]
 all_goals
  simp only[Decidable.not_not]at *
  simp[*,show 0≤e.n_ by omega]
theorem acN {e:au}(hl:e.kids.l.length≤300)(ih:∀k∈e.kids.l,T (fun n _=>lI n k) (·=eA k)):T (fun n k=>tY (lI n) e n k 0) (fun o=>match o with | .r=>e.kids.l.all eA=false | .e0 _=>e.kids.l.all eA=true):=by
 refine T.lP (l:=e.kids.l) (fun i n k=>tY (lI n) e n k i) eA (fun j a ha hj hr hx=>?_) (fun hf=>?_)
 all_goals simp only[tY]
 ·refine T.pos (by omega) (T.nat ha (T.bind (ih a (List.mem_of_getElem? ha)) fun x bN=>?_))
  subst bN
  exact T.cond (fun h=>T.pos (aW (by omega) (by omega)) (hr h)) fun h=>T.ret (hx h)
 ·exact T.neg (by omega) (T.ret hf)
theorem acL {e:au}(hL:T (fun n k=>tY (lI n) e n k 0) (fun o=>match o with | .r=>e.kids.l.all eA=false | .e0 _=>e.kids.l.all eA=true)):T (fun n k=>lI n e) (·=eA e):=by
 refine T.n1 ?_
 simp only[lI]
 refine T.bind (acM e) fun o ho=>?_
 cases o with
 | r=>exact T.ret ho.symm
 | m=>
  have ho:eA e=Ht e:=ho
  rw[ho,Ht]
  refine T.ite (fun h=>?_) fun h=>T.ite (fun h2=>T.ite (fun h3=>?_) fun h3=>?_) fun h2=>?_
  ·rw[if_pos h]
   refine T.bind (pw _) fun x hx=>?_
   subst hx
   refine T.cond (fun h2=>?_) fun h2=>T.ret (by rw[h2];rfl)
   refine T.bind (pw _) fun x hx=>?_
   subst hx
   refine T.cond (fun h3=>?_) fun h3=>T.ret (by rw[h2,h3];rfl)
   refine T.bind (T.dg hL) fun o ho=>?_
   cases o with
   | r=>refine T.ret ?_;simp only at ho;rw[h2,h3,ho];rfl
   | e0 v=>refine T.ret ?_;simp only at ho;rw[h2,h3,ho];rfl
  ·refine T.bind (T.dg hL) fun o ho=>?_
   cases o with
   | r=>refine T.ret ?_;simp only at ho;rw[ho];simp
   | e0 v=>refine T.ret ?_;simp only at ho;rw[ho,if_neg h,decide_eq_true (p:=e.mon=E0) h2,decide_eq_true (p:=e.name=E0) h3];rfl
  ·refine T.ret ?_;rw[if_neg h,decide_eq_false (p:=e.name=E0) h3];simp
  ·refine T.ret ?_;rw[if_neg h,decide_eq_false (p:=e.mon=E0) h2];simp
theorem acO:∀e:au,bE e=true->T (fun n k=>lI n e) (·=eA e):=au.eZ fun e ih hb=>
 acL (acN (qn hb).1 fun k hk=>ih k hk ((qn hb).2 k hk))
def E8 (e:au):Bool:=decide (e.op=0)&&decide (e.mon=E0)&&decide (e.name=E0)&&decide (e.n_=0)&&decide ((e.kids.l.length:Int)=0)
theorem abb (e:au):T (fun n k=>Ip n e) (·=E8 e):=by
 simp only[Ip]
 refine T.ite (fun h=>T.ite (fun h2=>T.ite (fun h3=>T.ite (fun h4=>T.ite (fun h5=>T.ret ?_) fun h5=>T.ret ?_) fun h4=>T.ret ?_) fun h3=>T.ret ?_) fun h2=>T.ret ?_) fun h=>T.ret ?_
 all_goals
  unfold E8 E0
  simp only[*,decide_true,decide_false,Bool.and_false,Bool.false_and,Bool.and_true]
structure Form where
 mon:Bool
 name:Bool
 n:Bool
 e:Bool
 lo:Int
 hi:Int
def sF (k:Int):Option Form:=
 if k=1 then some ⟨false,false,false,false,0,0⟩else if k=2 then some ⟨true,true,false,true,0,0⟩
 else if k=3 then some ⟨false,false,false,true,1,2⟩else if k=4 then some ⟨false,false,false,true,1,1⟩
 else if k=5 then some ⟨false,false,false,false,1,1⟩else if k=6 then some ⟨false,false,false,false,1,8⟩
 else if k=7 then some ⟨true,false,false,false,1,1⟩else if k=8 then some ⟨true,true,false,false,0,0⟩
 else if k=9 then some ⟨true,false,true,false,0,0⟩else if k=10 then some ⟨true,false,false,false,0,0⟩
 else if k=11 then some ⟨true,false,false,false,0,0⟩else none
def Qb (f:Option Form)(r:Sl Bool×Int×Int×Bool):Prop:=match f with
 | some f=>r.1.l=[f.mon,f.name,f.n,f.e]∧r.2=(f.lo,f.hi,true)
 | none=>r.2.2.2=false
theorem abN (k:Int):T (fun n _=>Iq n k) (Qb (sF k)):=by
 simp only[Iq]
 unfold sF
 repeat' (first | refine T.ite (fun h=>?_) (fun h=>?_) | refine T.ret ?_)
 all_goals simp only[*]
 all_goals first | exact⟨rfl,rfl⟩ | rfl
def xW (f:Form)(s:af):Bool:=decide (f.lo≤(s.blocks.l.length:Int))&&decide ((s.blocks.l.length:Int)≤f.hi)&&(f.mon== !decide (s.mon=E0))&&(f.name== !decide (s.name=E0))&&(!f.mon || gp s.mon)&&(!f.name || gp s.name)&&decide (0≤s.n_)&&(f.n || decide (s.n_=0))
def uW (f:Option Form)(s:af):Bool:=match f with
 | some f=>xW f s
 | none=>false
theorem acS (s:af){f:Option Form}{x:Sl Bool}{lo hi:Int}{b:Bool}(hr:Qb f (x,lo,hi,b)):T (fun n _=>H6 s x lo hi b n) (fun o=>o= .m (!uW f s)):=by
 simp only[H6]
 simp only[←show E0=(⟨#[]⟩:ByteArray) from rfl]at *
 cases f with
 | none=>
  have h:b=false:=hr
  refine T.cond (fun h2=>absurd (h.symm.trans h2) (by decide)) fun _=>T.ret rfl
 | some f=>
  obtain⟨h1,h2⟩:=hr
  simp only at h1
  cases h2
  have e0:∀{R:Type}{Q:R->Prop}{G:Nat->Nat->Bool->Option R} (i:Nat) (b:Bool),[f.mon,f.name,f.n,f.e][i]? =some b->T (fun n k=>G n k b) Q->T (fun n k=>(aD x.l (i:Int)).bind (G n k)) Q:=fun i b hb g=>by
   rw[h1];exact T.nat hb g
  refine T.cond (fun _=>?_) fun h=>absurd h (by decide)
  have tl:T (fun n (_:Nat)=>if s.n_<0 then some (zA.m true)else(aD x.l 2).bind fun v91=>bif v91 then some (.m false)else if s.n_≠0 then some (.m true)else some (.m false)) (fun o=>o=zA.m (!(decide (0≤s.n_)&&(f.n || decide (s.n_=0))))):=by
   refine T.ite (fun h=>T.ret ?_) fun h=>e0 2 f.n rfl (T.cond (fun h3=>T.ret ?_) fun h3=>T.ite (fun h4=>T.ret ?_) fun h4=>T.ret ?_)
   ·rw[decide_eq_false (p:=0≤s.n_) (by omega)];rfl
   ·rw[decide_eq_true (p:=0≤s.n_) (by omega),h3];rfl
   ·rw[decide_eq_true (p:=0≤s.n_) (by omega),h3,decide_eq_false h4];rfl
   ·rw[decide_eq_true (p:=0≤s.n_) (by omega),h3,decide_eq_true (Decidable.not_not.1 h4)];rfl
  refine T.ite (fun h3=>T.ret ?_) fun h3=>T.ite (fun h4=>T.ret ?_) fun h4=>e0 0 f.mon rfl ?_
  ·simp[uW,xW,show¬f.lo≤(s.blocks.l.length:Int) by omega]
  ·simp[uW,xW,show¬(s.blocks.l.length:Int)≤f.hi by omega]
  have hb:f.lo≤(s.blocks.l.length:Int):=by omega
  have hc:(s.blocks.l.length:Int)≤f.hi:=by omega
  refine T.ite (fun h5=>T.cond (fun h6=>T.ret ?_) fun h6=>e0 1 f.name rfl (T.ite (fun h7=>T.cond (fun h8=>T.ret ?_) fun h8=>tl.mono fun o ho=>?_) fun h7=>T.cond (fun h8=>T.bind (pw _) fun x hx=>T.cond (fun h9=>tl.mono fun o ho=>?_) fun h9=>T.ret ?_) fun h8=>T.ret ?_))
   fun h5=>T.cond (fun h6=>e0 1 f.name rfl (T.ite (fun h7=>T.cond (fun h8=>T.ret ?_) fun h8=>T.bind (pw _) fun x hx=>T.cond (fun h9=>tl.mono fun o ho=>?_) fun h9=>T.ret ?_) fun h7=>T.cond (fun h8=>T.bind (pw _) fun x hx=>T.cond (fun h9=>T.bind (pw _) fun x2 Cn=>T.cond (fun dq=>tl.mono fun o ho=>?_) fun dq=>T.ret ?_) fun h9=>T.ret ?_) fun h8=>T.ret ?_)) fun h6=>T.ret ?_
  all_goals
   try subst hx
   try subst Cn
   try subst ho
   simp only[uW,xW]
   simp[*]
def yb (s:af):Bool:=uW (sF s.kind) s&&(match sF s.kind with
 | some f=>if f.e then eA s.e_ else E8 s.e_
 | none=>false)
def m9:af->Bool:=af.fold fun s bs=>yb s&&bs.all fun b=>b.all id
def fg (l:List af):Bool:=l.all m9
theorem Cy (s:af):m9 s=(yb s&&s.blocks.l.all fun b=>fg b.l):=by
 rw[m9,af.fold_eq,List.all_map]
 congr 2
 funext b
 simp only[Function.comp,fg,List.all_map]
 rfl
end Go.Vig
namespace Go.Vig
open Go Go.Abs
variable [Kn]
theorem acT {s:af}(hl:s.blocks.l.length≤40)(ih:∀b∈s.blocks.l,T (fun n _=>iX n b) (·=fg b.l)):T (fun n k=>wM (iX n) s n k 0) (fun o=>match o with | .r=>(s.blocks.l.all fun b=>fg b.l)=false | .e2 _=>(s.blocks.l.all fun b=>fg b.l)=true):=by
 refine T.lP (l:=s.blocks.l) (fun i n k=>wM (iX n) s n k i) (fun b=>fg b.l) (fun j a ha hj hr hx=>?_) (fun hf=>?_)
 all_goals simp only[wM]
 ·refine T.pos (by omega) (T.nat ha (T.bind (ih a (List.mem_of_getElem? ha)) fun x bN=>?_))
  subst bN
  exact T.cond (fun h=>T.pos (aW (by omega) (by omega)) (hr h)) fun h=>T.ret (hx h)
 ·exact T.neg (by omega) (T.ret hf)
theorem Tq {l:Sl af}(hl:l.l.length≤300)(hb:∀s∈l.l,bS s=true)(ih:∀s∈l.l,∀b∈s.blocks.l,T (fun n _=>iX n b) (·=fg b.l)):T (fun n k=>tZ (iX n) l n k 0) (fun o=>match o with | .r _=>fg l.l=false | .e0 _=>fg l.l=true):=by
 refine T.lP (l:=l.l) (fun i n k=>tZ (iX n) l n k i) m9 (fun j a ha hj hr hx=>?_) (fun hf=>?_)
 all_goals simp only[tZ]
 ·obtain⟨jP,eb,Fx⟩:=iF (hb a (List.mem_of_getElem? ha))
  have hL:=T.dg (acT jP (ih a (List.mem_of_getElem? ha)))
  refine T.pos (by omega) (T.nat ha (T.bind (abN _) fun⟨x,lo,hi,b⟩ hf=>T.bind (acS a hf) fun o ho=>?_))
  subst ho
  refine T.cond (fun h=>T.ret (hx ?_)) fun h=>?_
  ·rw[Bool.not_eq_true']at h
   rw[Cy,yb,h];rfl
  ·rw[Bool.not_eq_false']at h
   cases Ml:sF a.kind with
   | none=>rw[Ml]at h;cases h
   | some f=>
    rw[Ml]at h hf
    obtain⟨h1,h2⟩:=hf
    simp only at h1
    have hs:m9 a=((if f.e then eA a.e_ else E8 a.e_)&&a.blocks.l.all fun b=>fg b.l):=by rw[Cy,yb,Ml,h];rfl
    refine T.at (i:=3) (a:=f.e) (by decide) (by rw[h1];rfl) ?_
    refine T.cond (fun h3=>T.bind (acO _ eb) fun y hy=>?_) fun h3=>T.bind (abb _) fun y hy=>?_
    all_goals
     subst hy
     rw[h3]at hs
     refine T.cond (fun h4=>T.bind hL fun o ho=>?_) fun h4=>T.ret (hx (by rw[hs];simp[h4]))
     cases o with
     | r=>refine T.ret (hx ?_);simp only at ho;rw[hs,ho];simp
     | e2 v=>refine T.pos (aW (by omega) (by omega)) (hr ?_);simp only at ho;rw[hs,ho];simp[h4]
 ·exact T.neg (by omega) (T.ret hf)
theorem Tp {l:Sl af}(hL:T (fun n k=>tZ (iX n) l n k 0) (fun o=>match o with | .r _=>fg l.l=false | .e0 _=>fg l.l=true)):T (fun n k=>iX n l) (·=fg l.l):=by
 refine T.n1 ?_
 simp only[iX]
 refine T.bind (T.dg hL) fun o ho=>?_
 cases o with
 | r s=>exact T.ret ho.symm
 | e0 v=>exact T.ret ho.symm
theorem acU:∀s:af,bS s=true->∀b∈s.blocks.l,T (fun n k=>iX n b) (·=fg b.l):=af.eZ fun s ih hb b hm=>by
 obtain⟨_,_,h3⟩:=iF hb
 obtain⟨h4,h5⟩:=fY (h3 b hm)
 exact Tp (Tq h4 h5 fun t ht=>ih b hm t ht (h5 t ht))
theorem F3 (l:Sl af)(hb:dh l.l=true):T (fun n k=>iX n l) (·=fg l.l):=by
 obtain⟨h4,h5⟩:=fY hb
 exact Tp (Tq h4 h5 fun t ht=>acU t (h5 t ht))
def vp (v:bI):Bool:=gp v.name&&(!decide (v.lo= -9223372036854775808)&& !decide (v.hi= -9223372036854775808)&& !decide (v.init= -9223372036854775808))&&(decide (v.type=1∧v.lo=0∧v.hi=0∧(v.init=0∨v.init=1)) || decide (v.type=2∧v.lo=0∧v.hi=0) || decide (v.type=3∧v.lo≤v.hi))
theorem acX (v:bI):T (fun n _=>Ir n v) (·=vp v):=by
 simp only[Ir]
 refine T.bind (pw _) fun x hx=>?_
 subst hx
 refine T.cond (fun hn=>?_) fun h=>T.ret (by simp[vp,h])
 unfold vp
 simp only[hn,Bool.true_and]
 repeat' (first | refine T.ite (fun h=>?_) (fun h=>?_) | refine T.ret ?_)
 all_goals
  first
  | (symm;simp only[Bool.and_eq_true,Bool.or_eq_true,Bool.not_eq_true',decide_eq_true_eq,decide_eq_false_iff_not];omega)
  | (symm;rw[Bool.eq_false_iff];simp only[ne_eq,Bool.and_eq_true,Bool.or_eq_true,Bool.not_eq_true',decide_eq_true_eq,decide_eq_false_iff_not];omega)
def sX (m:dW):Bool:=gp m.name&&fg m.body.l
def n6 (m:aH):Bool:=gp m.name&&decide (m.vars.l.length≤16)&&decide (m.methods.l.length≤16)&&m.vars.l.all vp&&m.methods.l.all sX
def q6 (r:aO):Bool:=gp r.name&&decide (0≤r.count)&&(!r.star || decide (r.count=0))&&fg r.body.l
def jT (p:aj):Bool:=decide (p.aw.l.length≤8)&&decide (p.aR.l.length≤8)&&p.aw.l.all n6&&p.aR.l.all q6
def qp (m:aH):Bool:=decide (m.vars.l.length≤40)&&decide (m.methods.l.length≤40)&&decide (m.name.size≤200)&&(m.vars.l.all fun v=>decide (v.name.size≤200))&&m.methods.l.all fun me=>decide (me.name.size≤200)&&dh me.body.l
def xF (r:aO):Bool:=decide (r.name.size≤200)&&dh r.body.l
def bP (p:aj):Bool:=decide (p.aw.l.length≤20)&&decide (p.aR.l.length≤20)&&p.aw.l.all qp&&p.aR.l.all xF
theorem so {m:aH}(h:qp m=true):m.vars.l.length≤40∧m.methods.l.length≤40∧m.name.size≤200∧(∀v∈m.vars.l,v.name.size≤200)∧∀me∈m.methods.l,me.name.size≤200∧dh me.body.l=true:=by
 simp only[qp,Bool.and_eq_true,decide_eq_true_eq,List.all_eq_true]at h
 exact⟨h.1.1.1.1,h.1.1.1.2,h.1.1.2,h.1.2,h.2⟩
theorem j5 {p:aj}(h:bP p=true):p.aw.l.length≤20∧p.aR.l.length≤20∧(∀m∈p.aw.l,qp m=true)∧∀r∈p.aR.l,r.name.size≤200∧dh r.body.l=true:=by
 simp only[bP,xF,Bool.and_eq_true,decide_eq_true_eq,List.all_eq_true]at h
 exact⟨h.1.1.1,h.1.1.2,h.1.2,h.2⟩
theorem acY {m:aH}(hl:m.vars.l.length≤40):T (fun n k=>zB m n k 0) (fun o=>match o with | .r=>m.vars.l.all vp=false | .e2 _=>m.vars.l.all vp=true):=by
 refine T.lP (l:=m.vars.l) (fun i n k=>zB m n k i) vp (fun j a ha hj hr hx=>?_) (fun hf=>?_)
 all_goals simp only[zB]
 ·refine T.pos (by omega) (T.nat ha (T.bind (acX _) fun x bN=>?_))
  subst bN
  exact T.cond (fun h=>T.pos (aW (by omega) (by omega)) (hr h)) fun h=>T.ret (hx h)
 ·exact T.neg (by omega) (T.ret hf)
theorem acZ {m:aH}(hl:m.methods.l.length≤40)(hb:∀me∈m.methods.l,dh me.body.l=true):T (fun n k=>zC m n k 0) (fun o=>match o with | .r=>m.methods.l.all sX=false | .e4 _=>m.methods.l.all sX=true):=by
 refine T.lP (l:=m.methods.l) (fun i n k=>zC m n k i) sX (fun j a ha hj hr hx=>?_) (fun hf=>?_)
 all_goals simp only[zC]
 ·refine T.pos (by omega) (T.nat ha (T.bind (pw _) fun x bN=>?_))
  subst bN
  refine T.cond (fun h=>T.bind (F3 _ (hb a (List.mem_of_getElem? ha))) fun y hy=>?_) fun h=>T.ret (hx (by simp[sX,h]))
  subst hy
  exact T.cond (fun h2=>T.pos (aW (by omega) (by omega)) (hr (by simp[sX,h,h2]))) fun h2=>T.ret (hx (by simp[sX,h2]))
 ·exact T.neg (by omega) (T.ret hf)
theorem ac1 {p:aj}(hl:p.aw.l.length≤20)(hb:∀m∈p.aw.l,qp m=true):T (fun n k=>zD p n k 0) (fun o=>match o with | .r _=>p.aw.l.all n6=false | .e0 _=>p.aw.l.all n6=true):=by
 refine T.lP (l:=p.aw.l) (fun i n k=>zD p n k i) n6 (fun j a ha hj hr hx=>?_) (fun hf=>?_)
 all_goals simp only[zD]
 ·obtain⟨h1,h2,h3,h4,h5⟩:=so (hb a (List.mem_of_getElem? ha))
  refine T.pos (by omega) (T.nat ha (T.bind (pw _) fun x bN=>?_))
  subst bN
  refine T.cond (fun h=>T.ite (fun g1=>T.ret (hx ?_)) fun g1=>T.ite (fun g2=>T.ret (hx ?_)) fun g2=>T.bind (T.dg (acY h1)) fun o ho=>?_) fun h=>T.ret (hx (by simp[n6,h]))
  ·simp[n6,show¬a.vars.l.length≤16 by omega]
  ·simp[n6,show¬a.methods.l.length≤16 by omega]
  cases o with
  | r=>refine T.ret (hx ?_);simp only at ho;simp[n6,ho]
  | e2 v=>
   simp only at ho
   refine T.bind (T.dg (acZ h2 fun me hm=>(h5 me hm).2)) fun o bu=>?_
   cases o with
   | r=>refine T.ret (hx ?_);simp only at bu;simp[n6,bu]
   | e4 v=>refine T.pos (aW (by omega) (by omega)) (hr ?_);simp only at bu;simp only[n6,h,ho,bu,decide_eq_true (show a.vars.l.length≤16 by omega),decide_eq_true (show a.methods.l.length≤16 by omega)];rfl
 ·exact T.neg (by omega) (T.ret hf)
theorem ac0 {p:aj}(hl:p.aR.l.length≤20)(hb:∀m∈p.aR.l,dh m.body.l=true):T (fun n k=>wQ p n k 0) (fun o=>match o with | .r _=>p.aR.l.all q6=false | .e6 _=>p.aR.l.all q6=true):=by
 refine T.lP (l:=p.aR.l) (fun i n k=>wQ p n k i) q6 (fun j a ha hj hr hx=>?_) (fun hf=>?_)
 all_goals simp only[wQ]
 ·refine T.pos (by omega) (T.nat ha (T.bind (pw _) fun x bN=>?_))
  subst bN
  refine T.cond (fun h=>T.ite (fun g1=>T.ret (hx ?_)) fun g1=>T.ite (fun g2=>T.ite (fun g3=>T.ret (hx ?_)) fun g3=>T.bind (F3 _ (hb a (List.mem_of_getElem? ha))) fun y hy=>?_) fun g2=>T.bind (F3 _ (hb a (List.mem_of_getElem? ha))) fun y hy=>?_) fun h=>T.ret (hx (by simp[q6,h]))
  ·simp[q6,show¬0≤a.count by omega]
  ·simp[q6,g2,g3]
  all_goals
   subst hy
   refine T.cond (fun h2=>T.pos (aW (by omega) (by omega)) (hr ?_)) fun h2=>T.ret (hx (by simp[q6,h2]))
   simp only[Decidable.not_not,Bool.not_eq_true]at *
   simp[q6,h,h2,g2, *,show 0≤a.count by omega]
 ·exact T.neg (by omega) (T.ret hf)
theorem Tr (p:aj)(hb:bP p=true):T (fun n _=>DS n p) (·=jT p):=by
 obtain⟨h1,h2,h3,h4⟩:=j5 hb
 simp only[DS]
 refine T.ite (fun g=>T.ret ?_) fun g=>T.ite (fun g2=>T.ret ?_) fun g2=>T.bind (T.dg (ac1 h1 h3)) fun o ho=>?_
 ·simp[jT,show¬p.aw.l.length≤8 by omega]
 ·simp[jT,show¬p.aR.l.length≤8 by omega]
 cases o with
 | r m=>refine T.ret ?_;simp only at ho;simp[jT,ho]
 | e0 v=>
  simp only at ho
  refine T.bind (T.dg (ac0 h2 fun r hr=>(h4 r hr).2)) fun o bu=>?_
  cases o with
  | r=>refine T.ret ?_;simp only at bu;simp[jT,bu]
  | e6 v=>refine T.ret ?_;simp only at bu;simp only[jT,ho,bu,decide_eq_true (show p.aw.l.length≤8 by omega),decide_eq_true (show p.aR.l.length≤8 by omega)];rfl
end Go.Vig
