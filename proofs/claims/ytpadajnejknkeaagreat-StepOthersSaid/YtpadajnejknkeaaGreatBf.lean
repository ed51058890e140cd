/-
  Part of the proof: printed by the session's own program out of the program's form, or typed; it states no claim by itself.
-/
import Derived.Test.YtpadajnejknkeaaGreatBe
import Derived.Laws.IdiomRangeMap
import Derived.MapKept
set_option linter.unusedVariables false
set_option linter.unusedSimpArgs false
set_option linter.unusedSectionVars false
namespace Go.Abs
open Go
variable [Fl]
variable [Gl]
section
variable {P:Program}{n0:Nat}{PR:Addr->Prop}{Γ:List (Nat×Ctx)}{e e':E}{al reg':Own->Addr->Prop}{m:M}{r:Option Nat}{k0 nt:Nat}{fr:Nat->DV}{a:Act}
theorem sU:∀{aA:List Nat}{y j:Nat},idx aA y=some j->aA[j]? =some y
 | [],y,j,h=>by simp[idx]at h
 | x::xs,y,j,h=>by
  simp only[idx]at h
  split at h
  ·rename_i hx;cases h;subst hx;rfl
  ·rw[Option.map_eq_some_iff]at h
   obtain⟨i,hi,rfl⟩:=h
   simpa using sU hi
theorem Cq:∀{aA:List Nat}{y:Nat},idx aA y=none->y ∉ aA
 | [],y,h=>by simp
 | x::xs,y,h=>by
  simp only[idx]at h
  split at h
  ·cases h
  ·rename_i hx
   rw[Option.map_eq_none_iff]at h
   simp only[List.mem_cons,not_or]
   exact⟨fun hh=>hx hh.symm,Cq h⟩
theorem yr:∀{aA:List Nat}{y j:Nat},nd aA=true->aA[j]? =some y->idx aA y=some j
 | [],y,j,_,h=>by simp at h
 | x::xs,y,0,_,h=>by simp at h;subst h;simp[idx]
 | x::xs,y,j+1,hn,h=>by
  simp only[nd,Bool.and_eq_true,Option.isNone_iff_eq_none]at hn
  have h':xs[j]? =some y:=by simpa using h
  have bw:x≠y:=fun hh=>by
   subst hh
   exact Cq hn.1 (List.mem_of_getElem? h')
  simp only[idx,if_neg bw,yr hn.2 h',Option.map_some]
structure Ey (aA:List Nat)(e e0:E):Prop where
 im:e0.im=e.im
 w:e0.w=e.w
 get:∀(j id:Nat),aA[j]? =some id->∃o o0,e.st[id]? =some o∧e0.st[j]? =some o0∧o0.ver=1∧e0.io j=e.io id
mutual
theorem RD.lj {aA:List Nat}{e e0:E}(x:Ey aA e e0){s:Addr->Prop}:∀{d d':DV}{v:Value},cV aA e.st d=some d'->RD e s d v->RD e0 s d' v
 | .un,d',_,h,.un=>by simp only[cV]at h;cases h;exact .un
 | .c _,d',_,h,.c r=>by simp only[cV]at h;cases h;exact .c (by rw[x.im,x.w];exact r)
 | .ap ..,d',_,h,.iE=>by simp only[cV]at h;cases h;exact .iE
 | .ap ..,d',_,h,.ap h1 h2 h3 h4 h5=>by simp only[cV]at h;cases h;exact .ap (by rw[x.im,x.w];exact h1) (by rw[x.im,x.w];exact h2) h3 h4 h5
 | .agg ds,d',_,h,.agg hk hr=>by
  simp only[cV,Option.map_eq_some_iff]at h
  obtain⟨cQ,h,rfl⟩:=h
  exact .agg (TH h hk) (bd.lj x h hr)
 | .aX ds,d',_,h,.aX hr=>by
  simp only[cV,Option.map_eq_some_iff]at h
  obtain⟨cQ,h,rfl⟩:=h
  exact .aX (bd.lj x h hr)
 | .ms id ver off len aV xx,d',_,h,.ms hid hl hx hv=>by
  simp only[cV]at h
  split at h
  ·rename_i j o hj ho
   cases h
   obtain⟨o',o0,g1,g2,g3,g4⟩:=x.get j id (sU hj)
   rw[ho]at g1;cases g1
   refine .ms (List.getElem?_eq_some_iff.1 g2).1 hl hx fun q hq=>?_
   rw[g2]at hq;cases hq
   rw[g3,g4]
   split
   ·rename_i kh
    exact⟨Nat.le_refl _,fun _=>(hv o ho).2 kh⟩
   ·exact⟨Nat.zero_le _,fun hh=>by cases hh⟩
  ·cases h
 | .pt id ver off,d',_,h,.pt hid hv=>by
  simp only[cV]at h
  split at h
  ·rename_i j o hj ho
   cases h
   obtain⟨o',o0,g1,g2,g3,g4⟩:=x.get j id (sU hj)
   rw[ho]at g1;cases g1
   refine .pt (List.getElem?_eq_some_iff.1 g2).1 fun q hq=>?_
   rw[g2]at hq;cases hq
   rw[g3,g4]
   split
   ·rename_i kh
    exact⟨Nat.le_refl _,fun _=>(hv o ho).2 kh⟩
   ·exact⟨Nat.zero_le _,fun hh=>by cases hh⟩
  ·cases h
 | .ia ..,d',_,h,.ia h1 h2=>by simp only[cV]at h;cases h;exact .ia (by rw[x.im,x.w];exact h1) (by rw[x.im,x.w];exact h2)
 | .fn f a b,d',_,h,.fn h1 h2=>by
  simp only[cV]at h
  split at h
  ·rename_i a' b' ha hb
   cases h
   exact .fn (bd.lj x ha h1) (bd.lj x hb h2)
  ·cases h
 | .yl _,d',_,h,.yl _=>by simp only[cV]at h;cases h
 | .er _,d',_,h,.er k=>by simp only[cV]at h;cases h;exact .er k
 | .mp ..,d',_,h,.mp .. =>by simp only[cV]at h;cases h
 | .mi ..,d',_,h,.mi .. =>by simp only[cV]at h;cases h
theorem bd.lj {aA:List Nat}{e e0:E}(x:Ey aA e e0):∀{ds cQ:List DV}{vs:List Value},eI aA e.st ds=some cQ->bd e ds vs->bd e0 cQ vs
 | [],cQ,_,h,.nil=>by simp only[eI]at h;cases h;exact .nil
 | d::ds,cQ,_,h,.cons hd hs=>by
  simp only[eI]at h
  split at h
  ·rename_i d1 uK h1 h2
   cases h
   exact .cons (RD.lj x h1 hd) (bd.lj x h2 hs)
  ·cases h
theorem TG {aA:List Nat}{st:List Ob}:∀{d d':DV},cV aA st d=some d'->bG d=true->bG d'=true
 | .un,d',h,hk=>by simp[bG]at hk
 | .c _,d',h,hk=>by simp only[cV]at h;cases h;exact hk
 | .ap ..,d',h,hk=>by simp only[cV]at h;cases h;exact hk
 | .agg _,d',h,hk=>by simp[bG]at hk
 | .aX _,d',h,hk=>by simp[bG]at hk
 | .ms ..,d',h,hk=>by
  simp only[cV]at h
  split at h
  ·cases h;rfl
  ·cases h
 | .pt ..,d',h,hk=>by
  simp only[cV]at h
  split at h
  ·cases h;rfl
  ·cases h
 | .ia ..,d',h,hk=>by simp[bG]at hk
 | .fn ..,d',h,hk=>by
  simp only[cV]at h
  split at h
  ·cases h;rfl
  ·cases h
 | .yl _,d',h,hk=>by simp only[cV]at h;cases h
 | .er _,d',h,hk=>by simp[bG]at hk
 | .mi ..,d',h,hk=>by simp[bG]at hk
 | .mp ..,d',h,hk=>by first | (simp only[cV]at h;cases h;done) | (simp only[dm]at h;cases h;done)
theorem TH {aA:List Nat}{st:List Ob}:∀{ds cQ:List DV},eI aA st ds=some cQ->ds.all bG=true->cQ.all bG=true
 | [],cQ,h,_=>by simp only[eI]at h;cases h;rfl
 | d::ds,cQ,h,hk=>by
  simp only[eI]at h
  simp only[List.all_cons,Bool.and_eq_true]at hk
  split at h
  ·rename_i d1 uK h1 h2
   cases h
   simp only[List.all_cons,Bool.and_eq_true]
   exact⟨TG h1 hk.1,TH h2 hk.2⟩
  ·cases h
end
theorem Ng {aA:List Nat}{st:List Ob}:∀{ds cQ:List DV},eI aA st ds=some cQ->cQ.length=ds.length∧∀(i:Nat) d',cQ[i]? =some d'->∃d,ds[i]? =some d∧cV aA st d=some d'
 | [],cQ,h=>by simp only[eI]at h;cases h;exact⟨rfl,by simp⟩
 | d::ds,cQ,h=>by
  simp only[eI]at h
  split at h
  ·rename_i d1 uK h1 h2
   cases h
   obtain⟨g1,g2⟩:=Ng h2
   refine⟨by simp[g1],fun i d' hd=>?_⟩
   cases i with
   | zero=>simp at hd;subst hd;exact⟨d,rfl,h1⟩
   | succ i=>simpa using g2 i d' (by simpa using hd)
  ·cases h
theorem Gf {all:List Nat}{st:List Ob}:∀{ids:List Nat}{os:List Ob},kL all st ids=some os->os.length=ids.length∧∀(j id:Nat),ids[j]? =some id->∃o cs,st[id]? =some o∧o.ver≠0∧eI all st o.cs=some cs∧os[j]? =some ⟨1,cs⟩
 | [],os,h=>by simp only[kL]at h;cases h;exact⟨rfl,by simp⟩
 | id::ids,os,h=>by
  simp only[kL]at h
  split at h
  ·rename_i o ho
   split at h
   ·cases h
   ·rename_i hv
    split at h
    ·rename_i cs os' h1 h2
     cases h
     obtain⟨g1,g2⟩:=Gf h2
     refine⟨by simp[g1],fun j cr hj=>?_⟩
     cases j with
     | zero=>simp at hj;subst hj;exact⟨o,cs,ho,hv,h1,rfl⟩
     | succ j=>simpa using g2 j cr (by simpa using hj)
    ·cases h
  ·cases h
structure KG (aA vs:List Nat)(e1 e2:E):Prop where
 im:∀a,e1.im a->e2.im a
 w:e2.w=e1.w
 get:∀(j id v:Nat),aA[j]? =some id->vs[j]? =some v->v≠0∧∃o1 o2,e1.st[j]? =some o1∧1≤o1.ver∧e2.st[id]? =some o2∧o2.ver=v+(o1.ver - 1)∧e2.io id=e1.io j
mutual
theorem RD.ni {aA vs:List Nat}{e1 e2:E}(x:KG aA vs e1 e2){s:Addr->Prop}:∀{d d':DV}{v:Value},dm aA vs d=some d'->RD e1 s d v->RD e2 s d' v
 | .un,d',_,h,.un=>by simp only[dm]at h;cases h;exact .un
 | .c _,d',_,h,.c r=>by simp only[dm]at h;cases h;exact .c (r.mono x.im fun _ _=>by rw[x.w])
 | .ap ..,d',_,h,.iE=>by simp only[dm]at h;cases h;exact .iE
 | .ap ..,d',_,h,.ap h1 h2 h3 h4 h5=>by simp only[dm]at h;cases h;exact .ap (h1.mono x.im fun _ _=>by rw[x.w]) (fun i v hv=>⟨by rw[x.w];exact(h2 i v hv).1,x.im _ (h2 i v hv).2⟩) h3 h4 h5
 | .agg ds,d',_,h,.agg hk hr=>by
  simp only[dm,Option.map_eq_some_iff]at h
  obtain⟨cQ,h,rfl⟩:=h
  exact .agg (QW h hk) (bd.ni x h hr)
 | .aX ds,d',_,h,.aX hr=>by
  simp only[dm,Option.map_eq_some_iff]at h
  obtain⟨cQ,h,rfl⟩:=h
  exact .aX (bd.ni x h hr)
 | .ms j ver off len aV xx,d',_,h,.ms hid hl hx hv=>by
  simp only[dm]at h
  split at h
  ·rename_i id v hj Ck
   cases h
   obtain⟨g0,o1,o2,g1,g2,g3,g4,g5⟩:=x.get j id v hj Ck
   obtain⟨p1,p2⟩:=hv o1 g1
   refine .ms (List.getElem?_eq_some_iff.1 g3).1 hl hx fun q hq=>?_
   rw[g3]at hq;cases hq
   rw[g4,g5]
   split
   ·exact⟨Nat.zero_le _,fun hh=>by omega⟩
   ·exact⟨by omega,fun hh=>p2 (by omega)⟩
  ·cases h
 | .pt j ver off,d',_,h,.pt hid hv=>by
  simp only[dm]at h
  split at h
  ·rename_i id v hj Ck
   cases h
   obtain⟨g0,o1,o2,g1,g2,g3,g4,g5⟩:=x.get j id v hj Ck
   obtain⟨p1,p2⟩:=hv o1 g1
   refine .pt (List.getElem?_eq_some_iff.1 g3).1 fun q hq=>?_
   rw[g3]at hq;cases hq
   rw[g4,g5]
   split
   ·exact⟨Nat.zero_le _,fun hh=>by omega⟩
   ·exact⟨by omega,fun hh=>p2 (by omega)⟩
  ·cases h
 | .ia ..,d',_,h,.ia h1 h2=>by simp only[dm]at h;cases h;exact .ia (h1.mono x.im fun _ _=>by rw[x.w]) (fun i v hv=>⟨by rw[x.w];exact(h2 i v hv).1,x.im _ (h2 i v hv).2⟩)
 | .fn f a b,d',_,h,.fn h1 h2=>by
  simp only[dm]at h
  split at h
  ·rename_i a' b' ha hb
   cases h
   exact .fn (bd.ni x ha h1) (bd.ni x hb h2)
  ·cases h
 | .yl _,d',_,h,.yl _=>by simp only[dm]at h;cases h
 | .er _,d',_,h,.er k=>by simp only[dm]at h;cases h;exact .er k
 | .mp ..,d',_,h,.mp .. =>by simp only[dm]at h;cases h
 | .mi ..,d',_,h,.mi .. =>by simp only[dm]at h;cases h
theorem bd.ni {aA vs:List Nat}{e1 e2:E}(x:KG aA vs e1 e2):∀{ds cQ:List DV}{us:List Value},eN aA vs ds=some cQ->bd e1 ds us->bd e2 cQ us
 | [],cQ,_,h,.nil=>by simp only[eN]at h;cases h;exact .nil
 | d::ds,cQ,_,h,.cons hd hs=>by
  simp only[eN]at h
  split at h
  ·rename_i d1 uK h1 h2
   cases h
   exact .cons (RD.ni x h1 hd) (bd.ni x h2 hs)
  ·cases h
theorem QV {aA vs:List Nat}:∀{d d':DV},dm aA vs d=some d'->bG d=true->bG d'=true
 | .un,d',h,hk=>by simp[bG]at hk
 | .c _,d',h,hk=>by simp only[dm]at h;cases h;exact hk
 | .ap ..,d',h,hk=>by simp only[dm]at h;cases h;exact hk
 | .agg _,d',h,hk=>by simp[bG]at hk
 | .aX _,d',h,hk=>by simp[bG]at hk
 | .ms ..,d',h,hk=>by
  simp only[dm]at h
  split at h
  ·cases h;rfl
  ·cases h
 | .pt ..,d',h,hk=>by
  simp only[dm]at h
  split at h
  ·cases h;rfl
  ·cases h
 | .ia ..,d',h,hk=>by simp[bG]at hk
 | .fn ..,d',h,hk=>by
  simp only[dm]at h
  split at h
  ·cases h;rfl
  ·cases h
 | .yl _,d',h,hk=>by simp only[dm]at h;cases h
 | .er _,d',h,hk=>by simp[bG]at hk
 | .mi ..,d',h,hk=>by simp[bG]at hk
 | .mp ..,d',h,hk=>by first | (simp only[cV]at h;cases h;done) | (simp only[dm]at h;cases h;done)
theorem QW {aA vs:List Nat}:∀{ds cQ:List DV},eN aA vs ds=some cQ->ds.all bG=true->cQ.all bG=true
 | [],cQ,h,_=>by simp only[eN]at h;cases h;rfl
 | d::ds,cQ,h,hk=>by
  simp only[eN]at h
  simp only[List.all_cons,Bool.and_eq_true]at hk
  split at h
  ·rename_i d1 uK h1 h2
   cases h
   simp only[List.all_cons,Bool.and_eq_true]
   exact⟨QV h1 hk.1,QW h2 hk.2⟩
  ·cases h
end
theorem K8 {aA vs:List Nat}:∀{ds cQ:List DV},eN aA vs ds=some cQ->cQ.length=ds.length∧∀(i:Nat) d',cQ[i]? =some d'->∃d,ds[i]? =some d∧dm aA vs d=some d'
 | [],cQ,h=>by simp only[eN]at h;cases h;exact⟨rfl,by simp⟩
 | d::ds,cQ,h=>by
  simp only[eN]at h
  split at h
  ·rename_i d1 uK h1 h2
   cases h
   obtain⟨g1,g2⟩:=K8 h2
   refine⟨by simp[g1],fun i d' hd=>?_⟩
   cases i with
   | zero=>simp at hd;subst hd;exact⟨d,rfl,h1⟩
   | succ i=>simpa using g2 i d' (by simpa using hd)
  ·cases h
theorem ajq {st:List Ob}{aA:List Nat}{j id:Nat}{o:Ob}(h:aA[j]? =some id)(ho:st[id]? =some o):(gC st aA)[j]? =some o.ver:=by
 simp[gC,h,ho]
theorem Uw {aA vs:List Nat}:∀{ids ws:List Nat}{os st st':List Ob},jD aA vs ids ws os st=some st'->nd ids=true->(∀id∈ids,id<st.length)->
  st'.length=st.length∧(∀id,id ∉ ids->st'[id]? =st[id]?)∧∀(j id:Nat),ids[j]? =some id->∃v o cs,ws[j]? =some v∧os[j]? =some o∧eN aA vs o.cs=some cs∧st'[id]? =some ⟨v+(o.ver - 1),cs⟩
 | [],[],os,st,st',h,_,_=>by
  simp only[jD]at h
  cases h;exact⟨rfl,fun _ _=>rfl,by simp⟩
 | [],w::ws,os,st,st',h,_,_=>by simp[jD]at h
 | id::ids,[],os,st,st',h,_,_=>by simp[jD]at h
 | id::ids,v::ws,[],st,st',h,_,_=>by simp[jD]at h
 | id::ids,v::ws,o::os,st,st',h,hn,aQ=>by
  simp only[jD]at h
  split at h
  ·rename_i cs cO
   have SX:=hn
   simp only[nd,Bool.and_eq_true,Option.isNone_iff_eq_none]at hn
   obtain⟨g1,g2,g3⟩:=Uw h hn.2 (fun x hx=>by simpa using aQ x (by simp[hx]))
   have vd:=Cq hn.1
   refine⟨by simpa using g1,fun x hx=>?_,fun j x hj=>?_⟩
   ·simp only[List.mem_cons,not_or]at hx
    rw[g2 x hx.2,List.getElem?_set_ne (Ne.symm hx.1)]
   ·cases j with
    | zero=>
     simp at hj;subst hj
     refine⟨v,o,cs,rfl,rfl,cO,?_⟩
     rw[g2 _ vd]
     simp[aQ id (by simp)]
    | succ j=>simpa using g3 j x (by simpa using hj)
  ·cases h
def yZ (k:Nat)(e:E)(al:Own->Addr->Prop):Addr->Prop:=fun a=>e.im a∨∃id,k≤id∧al (.ob id) a
theorem aaz {k:Nat}:∀{n:Nat}{st:List Ob}{d:DV}{c:CV},dY k n st d=some c->bG d=true->nI c=true
 | 0,_,_,_,h,_=>by simp[dY]at h
 | n+1,st,d,c,h,hk=>by
  cases d with
  | c v=>simp only[dY]at h;cases h;exact hk
  | ap nl cs len aV=>simp only[dY]at h;cases h;rfl
  | ms id ver off len aV x=>
   simp only[dY]at h
   split at h
   ·cases h
   ·split at h
    ·rw[Option.bind_eq_some_iff]at h
     obtain⟨ds,_,h⟩:=h
     rw[Option.map_eq_some_iff]at h
     obtain⟨cs,_,rfl⟩:=h
     rfl
    ·cases h
  | agg ds=>simp[bG]at hk
  | _=>simp[dY]at h
theorem Lq {k:Nat}(mi:MI n0 PR e al):∀(n:Nat) {d:DV}{c:CV}{v:Value}{s:Addr->Prop},dY k n e.st d=some c->RD e s d v->RC (yZ k e al) e.w c v
 | 0,_,_,_,_,h,_=>by simp[dY]at h
 | n+1,d,c,v,s,h,hr=>by
  have up:∀{c:CV}{v:Value},RC e.im e.w c v->RC (yZ k e al) e.w c v:=fun h=>h.mono (fun _ h=>.inl h) (fun _ _=>rfl)
  have go:∀{ds:List DV}{cs:List CV}{vs:List Value},fN (dY k n e.st) ds=some cs->ds.all bG=true->j4 e ds vs->bh (yZ k e al) e.w cs vs:=fun {ds}=>by
   induction ds with
   | nil=>intro cs vs h _ hr;simp only[fN]at h;cases h;cases hr;exact .nil
   | cons d ds ih=>
    intro cs vs h hk hr
    simp only[fN]at h
    simp only[List.all_cons,Bool.and_eq_true]at hk
    split at h
    ·rename_i c e9 h1 h2
     cases h
     cases hr with
     | cons a b=>exact .cons (aaz h1 hk.1) (Lq mi n h1 a) (ih h2 hk.2 b)
    ·cases h
  cases d with
  | c v=>simp only[dY]at h;cases h;cases hr with | c hr=>exact up hr
  | ap nl cs len aV=>
   simp only[dY]at h;cases h
   have:=hr.bx (s':=s)
   simp only[Abs.bx]at this
   cases this with | c hr=>exact up hr
  | agg ds=>
   simp only[dY]at h
   rw[Option.map_eq_some_iff]at h
   obtain⟨cs,cO,rfl⟩:=h
   cases hr with
   | agg hk hr=>exact .agg (go cO hk hr.w)
  | ms id ver off len aV x=>
   simp only[dY]at h
   split at h
   ·cases h
   ·rename_i aqn
    split at h
    ·rename_i o ho
     rw[Option.bind_eq_some_iff]at h
     obtain⟨ds,gh,h⟩:=h
     rw[Option.map_eq_some_iff]at h
     obtain⟨cs,cO,rfl⟩:=h
     obtain⟨g1,rfl⟩:=mY ho
     obtain⟨vs,hl,eH,kJ,hk⟩:=mi.cells g1 gh
     cases hr with
     | ms hid hle hx hv=>
      rename_i a cap
      obtain⟨q1,q2⟩:=(hv o g1).2 rfl
      refine .sl (go cO hk kJ) (fun i v hi=>?_) hle hx
      have aQ:i<vs.length:=(List.getElem?_eq_some_iff.1 hi).1
      have BZ:len * aV≤cap * aV:=Nat.mul_le_mul_right _ hle
      rcases q1 with q1 | q1
      ·rw[q1]at BZ;omega
      ·subst q1
       refine⟨eH i v hi,.inr ⟨id,by omega,?_⟩⟩
       rw[mP]
       exact mi.own id o g1 _ (by omega)
    ·cases h
  | _=>simp[dY]at h
theorem Rj {k:Nat}(mi:MI n0 PR e al){n:Nat}:∀{ds:List DV}{cs:List CV}{vs:List Value}{e2:E},fN (dY k n e.st) ds=some cs->bd e ds vs->e2.im=yZ k e al->e2.w=e.w->bd e2 (cs.map .c) vs
 | [],cs,_,e2,h,.nil,_,_=>by simp only[fN]at h;cases h;exact .nil
 | d::ds,cs,_,e2,h,.cons a b,h1,h2=>by
  simp only[fN]at h
  split at h
  ·rename_i c e9 hc cO
   cases h
   refine .cons (.c ?_) (Rj mi cO b h1 h2)
   rw[h1,h2];exact Lq mi n hc a
  ·cases h
theorem aaB {k:Nat}(mi:MI n0 PR e al){d d':DV}{v:Value}{s:Addr->Prop}(h:kB k e.st d=some d')(hr:RD e s d v){e2:E}(h1:e2.im=yZ k e al)(h2:e2.w=e.w):RD e2 s d' v:=by
 have up:∀{c:CV}{v:Value},RC e.im e.w c v->RC e2.im e2.w c v:=fun h=>by rw[h1,h2];exact h.mono (fun _ h=>.inl h) (fun _ _=>rfl)
 have OT:∀{c:List CV}{v:List Value},bh e.im e.w c v->bh e2.im e2.w c v:=fun h=>by rw[h1,h2];exact h.mono (fun _ h=>.inl h) (fun _ _=>rfl)
 have other:∀{d d':DV},(dY k 9 e.st d).map .c=some d'->RD e s d v->RD e2 s d' v:=fun {d d'} h hr=>by
  rw[Option.map_eq_some_iff]at h
  obtain⟨c,hc,rfl⟩:=h
  refine .c ?_
  rw[h1,h2];exact Lq mi 9 hc hr
 cases d with
 | c v=>simp only[kB]at h;cases h;cases hr with | c hr=>exact .c (up hr)
 | ap nl cs len aV=>
  simp only[kB]at h;cases h
  cases hr with
  | iE=>exact .iE
  | ap hr hc hl hn hs=>exact .ap (OT hr) (fun i v hv=>⟨by rw[h2];exact(hc i v hv).1,by rw[h1];exact .inl (hc i v hv).2⟩) hl hn hs
 | aX ds=>
  simp only[kB]at h
  rw[Option.map_eq_some_iff]at h
  obtain⟨cs,cO,rfl⟩:=h
  cases hr with
  | aX hr=>exact .aX (Rj mi cO hr h1 h2)
 | _=>exact other (by simpa only[kB]using h) hr
theorem aaA {k:Nat}{st:List Ob}{d d1 d2:DV}{aA vs:List Nat}(h:kB k st d=some d1)(h2:dm aA vs d1=some d2):d2=d1:=by
 have ach:∀(cs:List CV) cQ,eN aA vs (cs.map .c)=some cQ->cQ=cs.map .c:=fun cs=>by
  induction cs with
  | nil=>intro cQ h;simp only[List.map_nil,eN]at h;cases h;rfl
  | cons c cs ih=>
   intro cQ h
   simp only[List.map_cons,eN,dm]at h
   split at h
   ·rename_i d1 uK h1 h2
    cases h1;cases h
    rw[ih _ h2];rfl
   ·cases h
 cases d with
 | c v=>simp only[kB]at h;cases h;simp only[dm]at h2;cases h2;rfl
 | ap nl cs len aV=>simp only[kB]at h;cases h;simp only[dm]at h2;cases h2;rfl
 | aX ds=>
  simp only[kB,Option.map_eq_some_iff]at h
  obtain⟨cs,cO,rfl⟩:=h
  simp only[dm,Option.map_eq_some_iff]at h2
  obtain⟨cQ,h3,rfl⟩:=h2
  rw[ach _ _ h3]
 | _=>
  simp only[kB,Option.map_eq_some_iff]at h
  obtain⟨c,hc,rfl⟩:=h
  simp only[dm]at h2;cases h2;rfl
theorem St.aeD (s:St n0 PR Γ e al m)(bt:iD al){aA:List Nat}(ig:nd aA=true){st0:List Ob}(vj:kL aA m.st aA=some st0):
  let yT:Own->Prop:=fun p=>match p with | .ob id=>id∈aA | .cell id _=>id∈aA | _=>False
  let nB:Addr->Prop:=fun x=>PR x∨∃p,al p x∧¬yT p
  let rn:Own->Addr->Prop:=fun p x=>match p with
   | .ob j=>∃id,aA[j]? =some id∧al (.ob id) x
   | .cell j i=>∃id,aA[j]? =some id∧al (.cell id i) x
   | _=>False
  let e0:E:={ e with st:=st0,io:=fun j=>match aA[j]? with | some id=>e.io id | none=>⟨0,0,0⟩,la:=[]}
  Ey aA e e0∧St n0 nB [] e0 rn ⟨st0,[]⟩∧
  (∀d m1 d1 os d2 m2 en w',nL aA.length d m1.st=some (d1,os)->xG aA m d1 os=some (d2,m2)->lN n0 nB [] e0 d m1 en w'->
   ∃v e' reg',en= .returned v∧e'.w=w'∧St n0 PR Γ e' reg' m2∧To n0 PR Γ e e'∧RD e' (reg' .res) d2 v∧∀t x,al (.slot t) x->reg' (.slot t) x):=by
 intro yT nB rn e0
 have mi:=s.mi
 obtain⟨ace,u6⟩:=Gf vj
 have lj:Ey aA e e0:=⟨rfl,rfl,fun j id hj=>by
  obtain⟨o,cs,h1,h2,h3,h4⟩:=u6 j id hj
  exact⟨o,⟨1,cs⟩,by rw[s.st];exact h1,h4,rfl,by simp only[e0,hj]⟩⟩
 have GL:∀j o,st0[j]? =some o->∃id,aA[j]? =some id:=fun j o h=>by
  have:j<aA.length:=by rw[←ace];exact(List.getElem?_eq_some_iff.1 h).1
  exact⟨_,List.getElem?_eq_getElem this⟩
 have inj:∀j j' id:Nat,aA[j]? =some id->aA[j']? =some id->j=j':=fun j j' id h h'=>by
  have h1:=yr ig h
  rw[yr ig h']at h1;cases h1;rfl
 have up0:∀p a,rn p a->∃q,al q a∧yT q:=fun p a h=>by
  cases p with
  | ob j=>obtain⟨id,h1,h2⟩:=h;exact⟨_,h2,List.mem_of_getElem? h1⟩
  | cell j i=>obtain⟨id,h1,h2⟩:=h;exact⟨_,h2,List.mem_of_getElem? h1⟩
  | _=>exact h.elim
 have Ut:∀(id:Nat) (o:Ob),e0.st[id]? =some o->o.mp.k=none:=fun j o ho=>by
  obtain⟨id,hj⟩:=GL j o ho
  obtain⟨o',cs,_,_,_,g4⟩:=u6 j id hj
  have ho:st0[j]? =some o:=ho
  rw[ho]at g4;cases g4;rfl
 refine⟨lj,⟨rfl,rfl,by simp[e0],⟨mi.eY,fun a ha hp=>?_,fun a hp=>?_,mi.dz,fun p a hp=>?_,fun p q a h1 h2=>?_,fun j o ho=>?_,fun j o ho i hi=>?_,fun j o ho i d hd=>?_⟩,⟨⟨s.gi.gl.im,s.gi.gl.ok⟩,gG.void Ut,by simp,by simp⟩⟩,?_⟩
 ·rcases hp with hp | ⟨t,ht,_⟩
  ·exact mi.gm a ha hp
  ·exact(mi.ok _ _ ht).2.2.2.1 ha
 ·rcases hp with hp | ⟨t,ht,_⟩
  ·exact mi.dN a hp
  ·exact mi.bC ht
 ·obtain⟨q,hq,hpk⟩:=up0 p a hp
  obtain⟨h1,h2,h3,h4,h5⟩:=mi.ok q a hq
  refine⟨h1,h2,h3,h4,fun hh=>?_⟩
  rcases hh with hh | ⟨q',Ca,pc⟩
  ·exact h5 hh
  ·rw[mi.cE _ _ _ Ca hq]at pc;exact pc hpk
 ·cases p with
  | ob j=>
   obtain⟨id,g1,g2⟩:=h1
   cases q with
   | ob j'=>
    obtain⟨cr,mW,nO⟩:=h2
    have:=mi.cE _ _ _ g2 nO
    injection this with this;subst this
    rw[inj j j' id g1 mW]
   | cell j' i'=>obtain⟨cr,mW,nO⟩:=h2;have:=mi.cE _ _ _ g2 nO;cases this
   | _=>exact h2.elim
  | cell j i=>
   obtain⟨id,g1,g2⟩:=h1
   cases q with
   | ob j'=>obtain⟨cr,mW,nO⟩:=h2;have:=mi.cE _ _ _ g2 nO;cases this
   | cell j' i'=>
    obtain⟨cr,mW,nO⟩:=h2
    have:=mi.cE _ _ _ g2 nO
    injection this with this aif;subst this;subst aif
    rw[inj j j' id g1 mW]
   | _=>exact h2.elim
  | _=>exact h1.elim
 ·obtain⟨id,hj⟩:=GL j o ho
  obtain⟨o',cs,g1,g2,g3,g4⟩:=u6 j id hj
  have ho:st0[j]? =some o:=ho
  rw[ho]at g4;cases g4
  simp only[e0,hj]
  rw[(Ng g3).1]
  exact mi.ext id o' (by rw[s.st];exact g1)
 ·obtain⟨id,hj⟩:=GL j o ho
  obtain⟨o',cs,g1,g2,g3,g4⟩:=u6 j id hj
  simp only[e0,hj]at hi ⊢
  exact⟨id,hj,mi.own id o' (by rw[s.st];exact g1) i hi⟩
 ·obtain⟨id,hj⟩:=GL j o ho
  obtain⟨o',cs,g1,g2,g3,g4⟩:=u6 j id hj
  have ho:st0[j]? =some o:=ho
  rw[ho]at g4;cases g4
  obtain⟨d0,BK,hl⟩:=(Ng g3).2 i d hd
  obtain⟨k1,v,k2,k3⟩:=mi.cell id o' (by rw[s.st];exact g1) i d0 BK
  refine⟨TG hl k1,v,by simp only[e0,hj];exact k2,(RD.lj lj (by rw[s.st];exact hl) k3).fV fun a ha=>⟨id,hj,ha⟩⟩
 ·intro d m1 d1 os d2 m2 en w' jg hZ hb
  cases en with
  | panicked c=>exact hb.elim
  | outgrown=>exact hb.elim
  | returned v=>
   obtain⟨e1,dK,rfl,s1,iL,to,cR⟩:=hb
   have cz:=s1.mi
   unfold nL at jg
   split at jg
   case isFalse=>cases jg
   rename_i ec
   simp only[Bool.and_eq_true,decide_eq_true_eq]at ec
   obtain⟨aqk,hk⟩:=ec
   unfold xG at hZ
   split at hZ
   case h_2=>cases hZ
   rename_i d2' cf o8 ve
   cases hZ
   have hos:os=m1.st.take aA.length:=by
    split at jg
    ·cases jg;rfl
    ·rw[Option.map_eq_some_iff]at jg
     obtain⟨_,_,hh⟩:=jg
     cases hh;rfl
   have aQ:∀id∈aA,id<m.st.length:=fun id hid=>by
    obtain⟨j,hj⟩:=List.getElem?_of_mem hid
    obtain⟨o,cs,g1,_⟩:=u6 j id hj
    exact(List.getElem?_eq_some_iff.1 g1).1
   obtain⟨m6,nW,acq⟩:=Uw ve ig aQ
   have hX:∀r,¬(X [] e0.la r∨MB e0 r):=fun r h=>h.elim (fun h=>by obtain⟨_,_,h,_⟩:=h;simp at h) (fun h=>by obtain⟨id,o,h1,h2,_⟩:=h;exact h2 (Ut id o h1))
   have nb:cS n0 PR (fun _=>False) e.w e1.w:=⟨to.bp.os,to.bp.tape,to.bp.output,to.bp.size,to.bp.bC,fun a ha=>to.bp.pr a (.inl ha),fun r o h1 h2 h3=>to.bp.obj r o h1 h2 (hX r),to.bp.dr⟩
   have bC:∀p a,al p a->¬yT p->n0≤a.block∧(∃v,e1.w.cell? a=some v)∧e1.w.frozen? a=false∧¬e1.im a∧¬PR a:=fun t a h pc=>by
    obtain⟨h1,⟨v,h2⟩,h3,h4,h5⟩:=mi.ok _ _ h
    obtain⟨k1,k2⟩:=to.bp.pr a (.inr ⟨t,h,pc⟩)
    exact⟨h1,⟨v,k1.trans h2⟩,k2.trans h3,fun hi=>cz.gm a hi (.inr ⟨t,h,pc⟩),h5⟩
   have sep:∀p q a,al p a->¬yT p->¬dK q a:=fun p q a h1 pc h2=>(cz.ok q a h2).2.2.2.2 (.inr ⟨p,h1,pc⟩)
   let e2:E:={ im:=yZ aA.length e1 dK,w:=e1.w,st:=cf,io:=fun g=>match idx aA g with | some j=>e1.io j | none=>e.io g,la:=e.la}
   let dO:Own->Addr->Prop:=fun p x=>match p with
    | .res=>dK .res x
    | .slot t=>al (.slot t) x
    | .ob g=>match idx aA g with | some j=>dK (.ob j) x | none=>al (.ob g) x
    | .cell g i=>match idx aA g with | some j=>dK (.cell j i) x | none=>al (.cell g i) x
   have eX:∀p a,dO p a->(al p a∧¬yT p∧p≠ .res)∨
     (∃p',dK p' a∧((p= .res∧p'= .res)∨(∃g j,p= .ob g∧aA[j]? =some g∧p'= .ob j)∨(∃g j i,p= .cell g i∧aA[j]? =some g∧p'= .cell j i))):=fun p a h=>by
    cases p with
    | res=>exact .inr ⟨_,h,.inl ⟨rfl,rfl⟩⟩
    | slot t=>exact .inl ⟨h,fun h=>h,by simp⟩
    | ob g=>
     simp only[dO]at h
     split at h
     ·rename_i j hj;exact .inr ⟨_,h,.inr (.inl ⟨g,j,rfl,sU hj,rfl⟩)⟩
     ·rename_i hj;exact .inl ⟨h,Cq hj,by simp⟩
    | cell g i=>
     simp only[dO]at h
     split at h
     ·rename_i j hj;exact .inr ⟨_,h,.inr (.inr ⟨g,j,i,rfl,sU hj,rfl⟩)⟩
     ·rename_i hj;exact .inl ⟨h,Cq hj,by simp⟩
   have pair:∀(j id:Nat),aA[j]? =some id->∃o o1 cs,e.st[id]? =some o∧o.ver≠0∧e1.st[j]? =some o1∧1≤o1.ver∧(o1.ver=1->e1.io j=e.io id)∧eN aA (gC m.st aA) o1.cs=some cs∧cf[id]? =some ⟨o.ver+(o1.ver - 1),cs⟩∧(gC m.st aA)[j]? =some o.ver:=fun j id hj=>by
    obtain⟨o,cs0,g1,g2,g3,g4⟩:=u6 j id hj
    obtain⟨v,o1,cs,p1,p2,p3,p4⟩:=acq j id hj
    have hv:=ajq hj g1
    rw[hv]at p1;cases p1
    have l9:e1.st[j]? =some o1:=by
     rw[hos,List.getElem?_take_of_lt (List.getElem?_eq_some_iff.1 hj).1]at p2
     rw[s1.st];exact p2
    obtain⟨q1,q2⟩:=to.ext.ver j ⟨1,cs0⟩ o1 g4 l9
    refine⟨o,o1,cs,by rw[s.st];exact g1,g2,l9,q1,fun h=>?_,p3,p4,hv⟩
    rw[q2 h.symm];simp only[e0,hj]
   have qI:∀(j id:Nat),aA[j]? =some id->e2.io id=e1.io j:=fun j id hj=>by simp only[e2,yr ig hj]
   have FH:∀id,id ∉ aA->e2.io id=e.io id:=fun id hn=>by
    cases hi:idx aA id with
    | none=>simp only[e2,hi]
    | some j=>exact absurd (List.mem_of_getElem? (sU hi)) hn
   have hx:Ext e e2:=by
    refine⟨fun a ha=>.inl (to.ext.im a ha),fun a ha=>to.ext.cell a ha,by show e.st.length≤cf.length;rw[m6,s.st];exact Nat.le_refl _,fun id o o' h1 h2=>?_,fun k l h=>h⟩
    have h2:cf[id]? =some o':=h2
    by_cases hid:id∈aA
    ·obtain⟨j,hj⟩:=List.getElem?_of_mem hid
     obtain⟨o3,o1,cs,p1,p2,p3,p4,p5,p6,p7,p8⟩:=pair j id hj
     rw[h1]at p1;cases p1
     rw[h2]at p7;cases p7
     refine⟨by simp,fun hv=>?_⟩
     rw[qI j id hj]
     exact p5 (by simp at hv;omega)
    ·rw[nW id hid,←s.st,h1]at h2
     cases h2
     exact⟨Nat.le_refl _,fun _=>FH id hid⟩
   have nn:fX e e2:=fun id o' ho hk=>by
    have ho:cf[id]? =some o':=ho
    by_cases hid:id∈aA
    ·obtain⟨j,hj⟩:=List.getElem?_of_mem hid
     obtain⟨o3,o1,cs,p1,p2,p3,p4,p5,p6,p7,p8⟩:=pair j id hj
     rw[ho]at p7;cases p7
     exact absurd rfl hk
    ·rw[nW id hid,←s.st]at ho
     exact⟨o',ho,rfl,rfl⟩
   have ni:KG aA (gC m.st aA) e1 e2:=⟨fun a ha=>.inl ha,rfl,fun j id v' hj fS=>by
    obtain⟨o3,o1,cs,p1,p2,p3,p4,p5,p6,p7,p8⟩:=pair j id hj
    rw[fS]at p8;cases p8
    exact⟨p2,o1,_,p3,p4,p7,rfl,qI j id hj⟩⟩
   have MH:RD e2 (dO .res) d2 v:=by
    split at jg
    ·cases jg;exact RD.ni ni o8 cR
    ·rw[Option.map_eq_some_iff]at jg
     obtain⟨d1',fO,hh⟩:=jg
     cases hh
     rw[aaA fO o8]
     exact aaB cz (by rw[s1.st];exact fO) cR rfl rfl
   refine⟨v,e2,dO,rfl,rfl,⟨rfl,s.la,fun l hl=>⟨(s.lt l hl).1,Nat.lt_of_lt_of_le (s.lt l hl).2 nb.size⟩,⟨fun a ha=>?_,fun a ha hp=>?_,fun a hp=>cz.dN a (.inl hp),cz.dz,fun p a hp=>?_,fun p q a h1 h2=>?_,fun id o ho=>?_,fun id o ho i hi=>?_,fun id o ho i d hd=>?_⟩,s.gi.bp hx nb nn⟩,
    To.C1 hx nb nn,MH,fun t x h=>h⟩
   ·rcases ha with ha | ⟨id,_,ha⟩
    ·exact cz.eY a ha
    ·exact cz.bC ha
   ·rcases ha with ha | ⟨id,_,ha⟩
    ·exact cz.gm a ha (.inl hp)
    ·exact(cz.ok _ a ha).2.2.2.2 (.inl hp)
   ·rcases eX p a hp with ⟨h,pc,_⟩ | ⟨p',h,cF⟩
    ·obtain⟨h1,h2,h3,h4,h5⟩:=bC p a h pc
     refine⟨h1,h2,h3,fun hh=>?_,h5⟩
     rcases hh with hh | ⟨id,_,hh⟩
     ·exact h4 hh
     ·exact sep _ _ _ h pc hh
    ·obtain⟨h1,h2,h3,h4,h5⟩:=cz.ok _ a h
     refine⟨h1,h2,h3,fun hh=>?_,fun hh=>h5 (.inl hh)⟩
     rcases hh with hh | ⟨id,cw,hh⟩
     ·exact h4 hh
     ·have heq:=cz.cE _ _ _ h hh
      subst heq
      rcases cF with ⟨_,hA⟩ | ⟨g,j,_,hj,hA⟩ | ⟨g,j,i,_,_,hA⟩
      ·cases hA
      ·injection hA with hA
       have:=(List.getElem?_eq_some_iff.1 hj).1
       omega
      ·cases hA
   ·rcases eX p a h1 with ⟨g1,FL,_⟩ | ⟨p',g1,cF⟩<;>rcases eX q a h2 with ⟨g2,B4,_⟩ | ⟨q',g2,Ca⟩
    ·exact mi.cE _ _ a g1 g2
    ·exact absurd g2 (sep _ _ _ g1 FL)
    ·exact absurd g1 (sep _ _ _ g2 B4)
    ·have heq:=cz.cE _ _ a g1 g2
     subst heq
     rcases cF with ⟨rfl,hA⟩ | ⟨j,x,rfl,hj,hA⟩ | ⟨j,x,i,rfl,hj,hA⟩<;>rcases Ca with ⟨rfl,hB⟩ | ⟨j',x',rfl,cC,hB⟩ | ⟨j',x',i',rfl,cC,hB⟩<;>rw[hA]at hB<;>first | rfl | (cases hB;done) | skip
     ·injection hB with hB
      subst hB
      rw[hj]at cC;cases cC;rfl
     ·injection hB with hB hC
      subst hB;subst hC
      rw[hj]at cC;cases cC;rfl
   ·have ho:cf[id]? =some o:=ho
    by_cases hid:id∈aA
    ·obtain⟨j,hj⟩:=List.getElem?_of_mem hid
     obtain⟨o3,o1,cs,p1,p2,p3,p4,p5,p6,p7,p8⟩:=pair j id hj
     rw[ho]at p7;cases p7
     rw[qI j id hj]
     show cs.length≤_
     rw[(K8 p6).1];exact cz.ext j o1 p3
    ·rw[nW id hid,←s.st]at ho
     rw[FH id hid];exact mi.ext id o ho
   ·have ho:cf[id]? =some o:=ho
    by_cases hid:id∈aA
    ·obtain⟨j,hj⟩:=List.getElem?_of_mem hid
     obtain⟨o3,o1,cs,p1,p2,p3,p4,p5,p6,p7,p8⟩:=pair j id hj
     rw[qI j id hj]at hi ⊢
     simp only[dO,yr ig hj]
     exact cz.own j o1 p3 i hi
    ·rw[nW id hid,←s.st]at ho
     rw[FH id hid]at hi ⊢
     cases u9:idx aA id with
     | some j=>exact absurd (List.mem_of_getElem? (sU u9)) hid
     | none=>simp only[dO,u9];exact mi.own id o ho i hi
   ·have ho:cf[id]? =some o:=ho
    by_cases hid:id∈aA
    ·obtain⟨j,hj⟩:=List.getElem?_of_mem hid
     obtain⟨o3,o1,cs,p1,p2,p3,p4,p5,p6,p7,p8⟩:=pair j id hj
     rw[ho]at p7;cases p7
     obtain⟨d0,BK,Sy⟩:=(K8 p6).2 i d hd
     obtain⟨k1,v,k2,k3⟩:=cz.cell j o1 p3 i d0 BK
     rw[qI j id hj]
     exact⟨QV Sy k1,v,k2,(RD.ni ni Sy k3).fV fun a ha=>by simp only[dO,yr ig hj];exact ha⟩
    ·rw[nW id hid,←s.st]at ho
     rw[FH id hid]
     obtain⟨k1,v,k2,k3⟩:=mi.cell id o ho i d hd
     have aQ:i<(e.io id).ext:=Nat.lt_of_lt_of_le (List.getElem?_eq_some_iff.1 hd).1 (mi.ext id o ho)
     refine⟨k1,v,(to.bp.pr _ (.inr ⟨_,mi.own id o ho i aQ,hid⟩)).1.trans k2,k3.mono hx fun a ha=>?_⟩
     cases u9:idx aA id with
     | some j=>exact absurd (List.mem_of_getElem? (sU u9)) hid
     | none=>simp only[dO,u9];exact ha
end
end Go.Abs
namespace Go.Abs
open Go Go.MapKept
variable [Fl]
variable [Gl]
section
variable {P:Program}{n0:Nat}{PR:Addr->Prop}{Γ:List (Nat×Ctx)}{e e':E}{al reg':Own->Addr->Prop}{fr:Nat->DV}{tm:Array Value}{df:List Deferred}
theorem tw {w:World}{l:Nat}{o o':Obj}(h:w.heap[l]? =some o)(h1:mf o=false)(h2:mf o'=false)(a:Addr):(w.putObj l o').cell? a=w.cell? a∧(w.putObj l o').frozen? a=w.frozen? a:=by
 by_cases hb:a.block=l
 ·have aQ:l<w.heap.size:=(Array.getElem?_eq_some_iff.1 h).1
  have hn:(w.putObj l o').heap[a.block]? =some o':=by rw[hb];exact World.putObj_heap_same aQ
  have ho:w.heap[a.block]? =some o:=by rw[hb];exact h
  constructor
  ·unfold World.cell?
   rw[hn,ho]
   cases o<;>cases o'<;>first | rfl | (simp[mf]at h1;done) | (simp[mf]at h2;done)
  ·unfold World.frozen?
   rw[hn,ho]
   cases o<;>cases o'<;>first | rfl | (simp[mf]at h1;done) | (simp[mf]at h2;done)
 ·have:=World.putObj_heap_other (w:=w) (r:=l) (o:=o') hb
  exact⟨World.cell?_of_block this,World.frozen?_of_block this⟩
theorem NY {w:World}{l:Nat}{o o':Obj}(h:w.heap[l]? =some o)(h1:mf o=false)(h2:mf o'=false)(hn:n0≤l):cS n0 PR (fun r=>r=l) w (w.putObj l o'):=
 ⟨rfl,rfl,rfl,by simp,fun r hr=>World.putObj_heap_other (by omega),fun a _=>tw h h1 h2 a,fun r x hr _ hx=>by rw[World.putObj_heap_other hx];exact hr,fun _=>Nat.le_refl _⟩
theorem Mh (w:World)(o:Obj):(w.alloc o).heap[w.heap.size]? =some o:=by
 simp only[World.alloc,Array.getElem?_push]
 simp
theorem MI.mk' (m:MI n0 PR e al){id:Nat}{ob ob':Ob}(ho:e.st[id]? =some ob)(cO:ob'.cs=[]){f':Fp}(hf:f'.ext=0∨f'=e.io id){w':World}(cc:e.w.heap.size≤w'.heap.size)
  (hc:∀a:Addr,a.block<e.w.heap.size->w'.cell? a=e.w.cell? a∧w'.frozen? a=e.w.frozen? a) (hv:ob.ver≤ob'.ver∧(ob.ver=ob'.ver->f'=e.io id)):
  MI n0 PR { e with w:=w',st:=e.st.set id ob',io:=eh e.io id f'} al∧Ext e { e with w:=w',st:=e.st.set id ob',io:=eh e.io id f'}:=by
 have hx:Ext e { e with w:=w',st:=e.st.set id ob',io:=eh e.io id f'}:=by
  refine Ext.vM ho rfl (fun _ h=>h) (fun a ha=>(hc a (m.eY a ha)).1) (fun j hj=>fw _ _ hj) ⟨hv.1,fun h=>?_⟩ (fun _ _ h=>h)
  show eh e.io id f' id=e.io id
  rw[fJ];exact hv.2 h
 have get:∀j x,(e.st.set id ob')[j]? =some x->(j=id∧x=ob')∨(j≠id∧e.st[j]? =some x):=fun j x hj=>by
  by_cases bM:j=id
  ·subst bM
   rw[jy ho]at hj;cases hj
   exact .inl ⟨rfl,rfl⟩
  ·rw[ke (Ne.symm bM)]at hj
   exact .inr ⟨bM,hj⟩
 refine⟨⟨fun a ha=>Nat.lt_of_lt_of_le (m.eY a ha) cc,m.gm,fun a ha=>Nat.lt_of_lt_of_le (m.dN a ha) cc,Nat.le_trans m.dz cc,fun p a hp=>?_,m.cE,fun j x hj=>?_,fun j x hj i hi=>?_,fun j x hj i d hd=>?_⟩,hx⟩
 ·obtain⟨h1,⟨v,h2⟩,h3,h4,h5⟩:=m.ok p a hp
  obtain⟨k1,k2⟩:=hc a (m.bC hp)
  exact⟨h1,⟨v,k1.trans h2⟩,k2.trans h3,h4,h5⟩
 ·rcases get j x hj with ⟨rfl,rfl⟩ | ⟨bw,cC⟩
  ·rw[cO];exact Nat.zero_le _
  ·simp only[fw _ _ bw];exact m.ext j x cC
 ·rcases get j x hj with ⟨rfl,rfl⟩ | ⟨bw,cC⟩
  ·simp only[fJ]at hi ⊢
   rcases hf with hf | hf
   ·omega
   ·rw[hf]at hi ⊢;exact m.own _ ob ho i hi
  ·simp only[fw _ _ bw]at hi ⊢
   exact m.own j x cC i hi
 ·rcases get j x hj with ⟨rfl,rfl⟩ | ⟨bw,cC⟩
  ·rw[cO]at hd;simp at hd
  ·obtain⟨h1,v,h2,h3⟩:=m.cell j x cC i d hd
   simp only[fw _ _ bw]
   exact⟨h1,v,(hc _ (World.block_lt_of_cell? _ _ h2)).1.trans h2,h3.mono hx fun _ h=>h⟩
theorem gG.mk' (mp:gG n0 e){id:Nat}{ob ob':Ob}(ho:e.st[id]? =some ob){f':Fp}{w':World}(x:Ext e { e with w:=w',st:=e.st.set id ob',io:=eh e.io id f'}){k:MK}(hk:ob'.mp.k=some k)(hn:n0≤f'.b)
  (cb:k7 { e with w:=w',st:=e.st.set id ob',io:=eh e.io id f'} f'.b k) (bw:∀(j:Nat) (o:Ob),j≠id->e.st[j]? =some o->o.mp.k≠none->(e.io j).b≠f'.b)
  (hh:∀(r:Nat) (o2:Obj),r≠f'.b->e.w.heap[r]? =some o2->w'.heap[r]? =some o2)
  (hit:ob'.ver=ob.ver->ob.mp.k≠none∧∀xs c,e.w.heap[(e.io id).b]? =some (.map ⟨xs⟩ c)->∃fM c',w'.heap[(e.io id).b]? =some (.map ⟨fM⟩ c')∧sd xs c fM c') (hvr:ob.ver≤ob'.ver):gG n0 { e with w:=w',st:=e.st.set id ob',io:=eh e.io id f'}:=by
 have get:∀j x,(e.st.set id ob')[j]? =some x->(j=id∧x=ob')∨(j≠id∧e.st[j]? =some x):=fun j x hj=>by
  by_cases bM:j=id
  ·subst bM
   rw[jy ho]at hj;cases hj
   exact .inl ⟨rfl,rfl⟩
  ·rw[ke (Ne.symm bM)]at hj
   exact .inr ⟨bM,hj⟩
 refine⟨fun j o k' h1 h2=>?_,fun j j' o o' h1 h2 h3 h4 h5=>?_⟩
 ·rcases get j o h1 with ⟨rfl,rfl⟩ | ⟨hj,mZ⟩
  ·rw[hk]at h2;cases h2
   simp only[fJ];exact⟨hn,cb⟩
  ·obtain⟨q1,q2⟩:=mp.at_ j o k' mZ h2
   simp only[fw _ _ hj]
   refine⟨q1,q2.to x rfl (fun o2 bu=>hh _ _ (bw j o hj mZ (by rw[h2];simp)) bu) fun cj fh n cur left _ r hr u' ff hv m4=>?_⟩
   rcases get cj u' ff with ⟨rfl,rfl⟩ | ⟨hm,hu⟩
   ·have hle:fh≤ob.ver:=by
     cases hr with
     | mp _ hq=>exact(hq ob ho).1
    have yp:u'.ver=ob.ver:=by omega
    obtain⟨t1,t2⟩:=hit yp
    have MG:=hr.Gp ho (yp.symm.trans hv)
    exact⟨ob,ho,yp.symm.trans hv,t1,fun xs c hx=>by rw[MG]at hx ⊢;exact t2 xs c hx⟩
   ·have MG:=hr.Gp hu hv
    exact⟨u',hu,hv,m4,fun xs c hx=>⟨xs,c,hh _ _ (by rw[MG];exact bw cj u' hm hu m4) hx,sd.refl ..⟩⟩
 ·rcases get j o h1 with ⟨rfl,rfl⟩ | ⟨hj,mZ⟩<;>rcases get j' o' h3 with ⟨rfl,rfl⟩ | ⟨cC,Bx⟩
  ·rfl
  ·simp only[fJ,fw _ _ cC]at h5
   exact absurd h5.symm (bw j' o' cC Bx h4)
  ·simp only[fJ,fw _ _ hj]at h5
   exact absurd h5 (bw j o hj mZ h2)
  ·simp only[fw _ _ hj,fw _ _ cC]at h5
   exact mp.inj j j' o o' mZ h2 Bx h4 h5
theorem MB.mk' {id:Nat}{ob ob':Ob}(ho:e.st[id]? =some ob){f':Fp}{w':World}{r:Nat}(h:MB { e with w:=w',st:=e.st.set id ob',io:=eh e.io id f'} r):MB e r∨r=f'.b:=by
 obtain⟨j,o,h1,h2,h3⟩:=h
 by_cases bM:j=id
 ·subst bM
  simp only[fJ]at h3
  exact .inr h3.symm
 ·have h1:(e.st.set id ob')[j]? =some o:=h1
  rw[ke (Ne.symm bM)]at h1
  simp only[fw _ _ bM]at h3
  exact .inl ⟨j,o,h1,h2,h3⟩
structure oJ (P:Program)(n0:Nat)(PR:Addr->Prop)(e:E)(al:Own->Addr->Prop)(o:Oper)(a:Act)(r:Out)(v:Value)(e':E):Prop where
 run:eU P o a e.w v e'.w
 st:(e'.st,e'.la)=(za e.st r.set,e.la)
 mi:MI n0 PR e' al
 mp:gG n0 e'
 ext:Ext e e'
 bp:cS n0 PR (MB e) e.w e'.w
 maps:∀r,MB e' r->MB e r∨e.w.heap.size≤r
 res:∀s,RD e' s r.d v
 drop:r.drop=[]
theorem oJ.same {o:Oper}{a:Act}{d:DV}{v:Value}(m:MI n0 PR e al)(mp:gG n0 e)(h:(execOp a.eval o).run P e.w= .ok (.value v) e.w)(r:∀s,RD e s d v):oJ P n0 PR e al o a { d} v e:=
 ⟨.inl h,rfl,m,mp,Ext.refl e,cS.refl ..,fun _ h=>.inl h,r,rfl⟩
theorem M7 (m:MI n0 PR e al)(mp:gG n0 e){o:Oper}{a:Act}{id:Nat}{k:MK}{x:Nat×Ob}{b:Obj}{v:Value}{d:DV}(hl:kj e.st id k=some x)(hb:mf b=false)
  (dJ:(execOp a.eval o).run P e.w= .ok (.value v) (e.w.alloc b))
  (cb:∀e':E,Ext e e'->e'.w=e.w.alloc b->k7 e' e.w.heap.size k) (hd:∀e':E,e'.st=e.st.set id x.2->(e'.io id).b=e.w.heap.size->∀s,RD e' s d v):
  ∃e',oJ P n0 PR e al o a { d,set:=some x} v e':=by
 unfold kj at hl
 split at hl
 ·rename_i ob ho
  cases hl
  have hv:ob.ver<(vD (ob.ver+1) k).ver:=Nat.lt_succ_self _
  obtain⟨m2,x2⟩:=m.mk' (ob':=vD (ob.ver+1) k) (f':=⟨e.w.heap.size,0,0⟩) (w':=e.w.alloc b) ho rfl (.inl rfl) (by simp)
   (fun a ha=>⟨World.cell?_alloc_lt _ _ _ ha,World.frozen?_alloc_old _ _ _ (by omega)⟩) ⟨Nat.le_of_lt hv,fun h=>by omega⟩
  refine⟨_,.inl dJ,rfl,m2,mp.mk' ho x2 (k:=k) rfl m.dz (cb _ x2 rfl) (fun j o2 hj h1 h2 hh=>?_) (fun r o2 hr h=>?_) (fun h=>by omega) (Nat.le_of_lt hv),x2,sn b m.dz m.dN _,fun r hr=>?_,hd _ rfl (by simp only[fJ]),rfl⟩
  ·obtain⟨_,o3,h3,_⟩:=mp.obj ⟨j,o2,h1,h2,rfl⟩
   have:=(Array.getElem?_eq_some_iff.1 h3).1
   simp only at hh;omega
  ·rw[heap_alloc _ _ _ (Array.getElem?_eq_some_iff.1 h).1];exact h
  ·rcases MB.mk' ho hr with h | h
   ·exact .inl h
   ·exact .inr (by simp only at h;omega)
 ·cases hl
theorem aeC {d:TypeDesc}{k:Value}(h:GB d k=true):IsKey d k:=by
 cases d<;>cases k<;>first | (simp[GB]at h;done) | trivial | skip
 simpa[GB,IsKey]using h
theorem QU (a b:ByteArray):(a.toList==b.toList)=(a==b):=by
 rw[Bool.eq_iff_iff,MapKept.bytes_beq,beq_iff_eq]
 refine⟨fun hh=>?_,fun h=>by rw[h]⟩
 have h':a.data.toList=b.data.toList:=by rw[←ByteArray.toList_eq,←ByteArray.toList_eq,hh]
 cases a;cases b
 simp only[ByteArray.mk.injEq]at h' ⊢
 exact Array.toList_inj.1 h'
theorem U1 (d:TypeDesc)(a b:Value):nn d a b=Instr.sameNow d a b:=by
 cases d<;>cases a<;>cases b<;>first | rfl | simp only[nn,Instr.sameNow,QU]
theorem afZ {d:TypeDesc}{a b:Value}(h:nn d a b=some true):b=a:=by
 cases d<;>cases a<;>cases b<;>simp[nn]at h
 ·exact congrArg _ h.symm
 ·obtain⟨rfl,rfl⟩:=h;rfl
 ·rename_i x y
  have:=QU x y
  have h2:(x==y)=true:=by rw[←this];simpa using h
  rw[(MapKept.bytes_beq _ _).1 h2]
theorem Bo {d:TypeDesc}{k:Value}:∀{es:List (DV×DV)}{xs:List MapEntry}{i:Nat}{r:Option (Nat×DV)},sC d k es i=some r->MR e es xs->
  match r with
  | none=>Instr.findNow d k xs i=some none
  | some (j,v)=>∃x,Instr.findNow d k xs i=some (some (j,x.val))∧i≤j∧xs[j - i]? =some x∧RD e (fun _=>False) v x.val∧x.key=k
 | [],_,i,r,h,.nil=>by simp only[sC]at h;cases h;rfl
 | (dk,v)::es,x::xs,i,r,h,.cons hk hv hs=>by
  cases dk with
  | c cv=>
   cases cv with
   | sc k'=>
    cases hk with
    | c hk=>
     cases hk
     simp only[sC]at h
     cases ik:nn d k x.key with
     | none=>rw[ik]at h;cases h
     | some b=>
      rw[ik]at h
      cases b with
      | true=>
       cases h
       refine⟨x,?_,Nat.le_refl _,by simp,hv,afZ ik⟩
       simp only[Instr.findNow,←U1,ik]
      | false=>
       have:=Bo h hs
       have qT:Instr.findNow d k (x::xs) i=Instr.findNow d k xs (i+1):=by simp only[Instr.findNow,←U1,ik]
       cases r with
       | none=>simp only at this ⊢;rw[qT];exact this
       | some p=>
        obtain⟨j,v'⟩:=p
        simp only at this ⊢
        obtain⟨y,h1,h2,h3,h4,h5⟩:=this
        refine⟨y,by rw[qT];exact h1,by omega,?_,h4,h5⟩
        rw[show j - i=(j - (i+1))+1 by omega];simpa using h3
   | _=>simp[sC]at h
  | _=>simp[sC]at h
theorem MR.set {k v:DV}{y:MapEntry}(hk:RD e (fun _=>False) k y.key)(hv:RD e (fun _=>False) v y.val):∀{es:List (DV×DV)}{xs:List MapEntry} (j:Nat),MR e es xs->MR e (es.set j (k,v)) (xs.set j y)
 | _,_,_,.nil=>.nil
 | _,_,0,.cons _ _ c=>.cons hk hv c
 | _,_,j+1,.cons a b c=>.cons a b (c.set hk hv j)
theorem MR.push {k v:DV}{y:MapEntry}(hk:RD e (fun _=>False) k y.key)(hv:RD e (fun _=>False) v y.val):∀{es:List (DV×DV)}{xs:List MapEntry},MR e es xs->MR e (es++[(k,v)]) (xs++[y])
 | _,_,.nil=>.cons hk hv .nil
 | _,_,.cons a b c=>.cons a b (c.push hk hv)
theorem o7 {st:List Ob}{id ver:Nat}{k:MK}(h:mX st id ver=some k):∃o,st[id]? =some o∧o.ver=ver∧o.mp.k=some k:=by
 unfold mX at h
 split at h
 ·rename_i o ho
  split at h
  ·exact⟨o,ho,by assumption,h⟩
  ·cases h
 ·cases h
theorem Nl {t:TypeId}{i:DV}{d:TypeDesc}{et:TypeId}{k:Value}(h:yE P t i=some (d,et,k)):∃kt,P.underlying t=some (.map kt et)∧P.underlying kt=some d∧i= .c (.sc k)∧IsKey d k:=by
 unfold yE at h
 split at h
 ·rename_i kt et' k' h1
  split at h
  ·rename_i d' h2
   split at h
   ·rename_i h3
    cases h
    exact⟨kt,h1,h2,rfl,aeC h3⟩
   ·cases h
  ·cases h
 ·cases h
theorem XV {t:TypeId}{z:DV}(h:zeroV P t=some z)(w:World):∃v:Value,(zeroValue t).run P w= .ok v w∧∀s,RD e s z v:=by
 unfold zeroV at h
 split at h
 ·rename_i i hi
  rw[Option.map_eq_some_iff]at h
  obtain⟨zv,hz,rfl⟩:=h
  exact⟨zv,by simp[zeroValue,typeInfo,hi,hz],fun s=>NL zv⟩
 ·cases h
theorem RD.vF {s:Addr->Prop}{id ver:Nat}{v:Value}{o:Ob}(h:RD e s (.mp id ver) v)(ho:e.st[id]? =some o)(hv:o.ver=ver):v= .map (some (e.io id).b):=by
 cases h with
 | mp _ hh=>rw[(hh o ho).2 hv.symm]
theorem adz (mp:gG n0 e){t:TypeId}{x i d:DV}{ok:Bool}{vx vi:Value}{sx si:Addr->Prop}(h:yC P e.st t x i ok=some d)(rx:RD e sx x vx)(ri:RD e si i vi):∃v,(Instr.lookup t vx vi ok).run P e.w= .ok v e.w∧∀s,RD e s d v:=by
 unfold yC at h
 split at h
 ·rename_i dd et k id ver hm
  obtain⟨kt,ht,hk,rfl,sN⟩:=Nl hm
  split at h
  ·rename_i es hg
   obtain⟨o,ho,hv,dE⟩:=o7 hg
   have qV:=rx.vF ho hv
   subst qV
   obtain⟨_,xs,c,hb,hr,_⟩:=mp.at_ id o _ ho dE
   have Cj:vi=k:=by cases ri with | c ri=>cases ri;rfl
   subst Cj
   split at h
   ·rename_i j dv hf
    have:=Bo hf hr
    simp only at this
    obtain⟨y,h1,_,_,h4,_⟩:=this
    cases h
    refine⟨_,by simp[Instr.lookup,run_underlying ht,MapKept.run_getObj_map hb,run_checkKey hk sN,run_findKey hk h1,Result.andThen];rfl,fun s=>?_⟩
    cases ok with
    | true=>exact .aX (.cons h4 (.cons (.c (.sc rfl)) .nil))
    | false=>exact h4.fV (fun _ h=>h.elim)
   ·rename_i hf
    have:=Bo hf hr
    simp only at this
    rw[Option.map_eq_some_iff]at h
    obtain⟨z,hz,rfl⟩:=h
    obtain⟨zv,MT,Cp⟩:=XV (e:=e) hz e.w
    refine⟨_,by simp[Instr.lookup,run_underlying ht,MapKept.run_getObj_map hb,run_checkKey hk sN,run_findKey hk this,MT,Result.andThen];rfl,fun s=>?_⟩
    cases ok with
    | true=>exact .aX (.cons (Cp _) (.cons (.c (.sc rfl)) .nil))
    | false=>exact Cp s
   ·cases h
  ·cases h
 ·rename_i dd et k hm
  obtain⟨kt,ht,hk,rfl,sN⟩:=Nl hm
  have qV:vx= .map none:=by cases rx with | c rx=>cases rx;rfl
  subst qV
  have Cj:vi=k:=by cases ri with | c ri=>cases ri;rfl
  subst Cj
  rw[Option.map_eq_some_iff]at h
  obtain⟨z,hz,rfl⟩:=h
  obtain⟨zv,MT,Cp⟩:=XV (e:=e) hz e.w
  have h1:Instr.findNow dd vi [] 0=some none:=rfl
  refine⟨_,by simp[Instr.lookup,run_underlying ht,run_checkKey hk sN,run_findKey hk h1,MT,Result.andThen];rfl,fun s=>?_⟩
  cases ok with
  | true=>exact .aX (.cons (Cp _) (.cons (.c (.sc rfl)) .nil))
  | false=>exact Cp s
 ·cases h
theorem Nc {α:Type}:∀{l:List α}{j:Nat}{a:α},l[j]? =some a->l.set j a=l
 | [],_,_,h=>by simp at h
 | x::l,0,a,h=>by simp at h;simp[h]
 | x::l,j+1,a,h=>by simp only[List.set_cons_succ];rw[Nc (by simpa using h)]
theorem UA (m:MI n0 PR e al)(mp:gG n0 e){o:Oper}{a:Act}{t:TypeId}{x i y:DV}{vx vi vy:Value}{sx si:Addr->Prop}{p:Nat×Ob}(h:tv P e.st t x i y=some p)(rx:RD e sx x vx)(ri:RD e si i vi)(ry:∀s,RD e s y vy)
  (dJ:∀w',(Instr.mapUpdate t vx vi vy).run P e.w= .ok () w'->(execOp a.eval o).run P e.w= .ok .skip w'):∃v e',oJ P n0 PR e al o a { d:=.un,set:=some p} v e':=by
 unfold tv at h
 split at h
 ·rename_i dd et k id ver hm
  obtain⟨kt,ht,hk,rfl,sN⟩:=Nl hm
  split at h
  ·rename_i es hg
   obtain⟨ob,ho,hv,dE⟩:=o7 hg
   have qV:=rx.vF ho hv
   subst qV
   obtain⟨hn,xs,c,hb,hr,nR⟩:=mp.at_ id ob _ ho dE
   have Cj:vi=k:=by cases ri with | c ri=>cases ri;rfl
   subst Cj
   have SN:∀s,RD e s (.c (.sc vi)) vi:=fun s=>by cases ri with | c ri=>exact .c ri
   have key:∀(Bk:List (DV×DV)) (fM:List MapEntry) (c':Nat),MR e Bk fM->P8 fM c'->sd xs c fM c'->(Instr.mapUpdate t (.map (some (e.io id).b)) vi vy).run P e.w= .ok () (e.w.putObj (e.io id).b (.map ⟨fM⟩ c'))->
     ∃v e',oJ P n0 PR e al o a { d:=.un,set:=some (id,vD ver (.map Bk))} v e':=fun Bk fM c' fc ab0 yd hrn=>by
    have aQ:(e.io id).b<e.w.heap.size:=(Array.getElem?_eq_some_iff.1 hb).1
    obtain⟨m2,x2⟩:=m.mk' (ob':=vD ver (.map Bk)) (f':=e.io id) (w':=e.w.putObj (e.io id).b (.map ⟨fM⟩ c')) ho rfl (.inr rfl) (by simp)
     (fun a _=>tw hb rfl rfl a) ⟨by rw[hv];exact Nat.le_refl _,fun _=>rfl⟩
    refine⟨undef,_,.inr ⟨dJ _ hrn,rfl⟩,rfl,m2,mp.mk' ho x2 (k:=.map Bk) rfl hn ⟨fM,c',World.putObj_heap_same aQ,fc.mono x2,ab0⟩ (fun j o2 hj h1 h2 hh=>?_) (fun r o2 bw h=>?_) (fun _=>⟨by rw[dE];simp,fun ys d hy=>by rw[hb]at hy;cases hy;exact⟨fM,c',World.putObj_heap_same aQ,yd⟩⟩) (by rw[hv];exact Nat.le_refl _),x2,?_,fun r hr=>?_,fun s=>.un,rfl⟩
    ·exact hj (mp.inj j id o2 ob h1 h2 ho (by rw[dE];simp) hh)
    ·rw[World.putObj_heap_other bw];exact h
    ·exact(NY hb rfl rfl hn).fV fun r hr=>⟨id,ob,ho,by rw[dE];simp,hr.symm⟩
    ·rcases MB.mk' ho hr with h | h
     ·exact .inl h
     ·exact .inl ⟨id,ob,ho,by rw[dE];simp,h.symm⟩
   split at h
   ·rename_i j dv hf
    have:=Bo hf hr
    simp only at this
    obtain⟨z,h1,_,h3,h4,h5⟩:=this
    simp only[Nat.sub_zero]at h3
    cases h
    subst h5
    refine key _ (xs.set j { z with val:=vy}) c (MR.set (y:={ z with val:=vy}) (SN _) (ry _) j hr) ⟨fun y hy=>?_,?_⟩ (.inl ⟨?_,rfl⟩) ?_
    ·rcases List.mem_or_eq_of_mem_set hy with hy | hy
     ·exact nR.1 y hy
     ·subst hy;exact nR.1 z (List.mem_of_getElem? h3)
    ·rw[show(xs.set j { z with val:=vy}).map (·.born)=xs.map (·.born) from ?_]
     ·exact nR.2
     ·rw[List.map_set];exact Nc (by rw[List.getElem?_map,h3];rfl)
    ·rw[List.map_set];exact Nc (by rw[List.getElem?_map,h3];rfl)
    have aci:xs.modify j (fun e=>{ key:=z.key,val:=vy,born:=e.born})=xs.set j { z with val:=vy}:=by
     apply List.ext_getElem?
     intro n
     rw[List.getElem?_modify]
     simp only[List.getElem?_set]
     by_cases hn:j=n
     ·subst hn
      have aQ:=(List.getElem?_eq_some_iff.1 h3).1
      have hz:xs[j]=z:=by rw[List.getElem?_eq_getElem aQ]at h3;cases h3;rfl
      simp[h3,aQ,hz]
     ·simp[hn]
    simp[Instr.mapUpdate,run_underlying ht,MapKept.run_getObj_map hb,run_checkKey hk sN,run_findKey hk h1,h3,run_keyThatStays sN,MapKept.run_setObj_map _ hb,Result.andThen,aci,World.putObj]
   ·rename_i hf
    have:=Bo hf hr
    simp only at this
    cases h
    refine key _ (xs++[{ key:=vi,val:=vy,born:=c}]) (c+1) (MR.push (SN _) (ry _) hr) ⟨fun y hy=>?_,?_⟩ (.inr (by simp)) ?_
    ·rcases List.mem_append.1 hy with hy | hy
     ·have:=nR.1 y hy;omega
     ·simp only[List.mem_singleton]at hy;subst hy;exact Nat.lt_succ_self _
    ·rw[List.map_append,List.nodup_append]
     refine⟨nR.2,by simp,fun a ha b dt=>?_⟩
     obtain⟨y,hy,rfl⟩:=List.mem_map.1 ha
     simp only[List.map_cons,List.map_nil,List.mem_singleton]at dt
     have:=nR.1 y hy;omega
    simp[Instr.mapUpdate,run_underlying ht,MapKept.run_getObj_map hb,run_checkKey hk sN,run_findKey hk this,MapKept.run_setObj_map _ hb,Result.andThen,World.putObj]
   ·cases h
  ·cases h
 ·cases h
theorem MR.length {es:List (DV×DV)}{xs:List MapEntry}(h:MR e es xs):es.length=xs.length:=by
 induction h with
 | nil=>rfl
 | cons _ _ _ ih=>simp[ih]
theorem MR.get:∀{es:List (DV×DV)}{xs:List MapEntry},MR e es xs->∀{j:Nat}{k v:DV},es[j]? =some (k,v)->∃x,xs[j]? =some x∧RD e (fun _=>False) k x.key∧RD e (fun _=>False) v x.val
 | _,_,.nil,j,k,v,h=>by simp at h
 | _,_,.cons a b c,0,k,v,h=>by simp at h;obtain⟨rfl,rfl⟩:=h;exact⟨_,rfl,a,b⟩
 | _,_,.cons a b c,j+1,k,v,h=>by
  obtain⟨x,h1,h2,h3⟩:=MR.get c (j:=j) (by simpa using h)
  exact⟨x,by simpa using h1,h2,h3⟩
theorem afU {P:Program}{w:World}{ty:TypeId}{b r since fu c:Nat}{seen:Array Nat}{xs:List MapEntry}(hb:w.heap[b]? =some (.mapIter (some r) since seen fu))(hr:w.heap[r]? =some (.map ⟨xs⟩ c))(hold:∀x∈xs,x.born<since)(hsc:since≤fu)
  (gJ:∀x∈xs,seen.contains x.born=true):(Instr.next (.pointer (some ⟨b,0,none⟩)) false ty).run P w= .ok (.tuple #[.bool false]) w:=by
 have sM:(getObj b).run P w= .ok (.mapIter (some r) since seen fu) w:=by simp[getObj,Sem.run,hb]
 have hl:(⟨xs⟩:Array MapEntry).filter (fun e=> !seen.contains e.born)=#[]:=by
  rw[Array.filter_eq_empty_iff]
  intro x hx
  have:=gJ x (by simpa using hx)
  rw[this];decide
 simp only[Instr.next,Sem.run_bind,sM,Result.andThen_ok,MapKept.run_getObj_map hr,next_test_false seen ⟨xs⟩ since fu (by simpa using hold) hsc,Bool.false_eq_true,if_false,hl]
 simp[choose,Sem.run,Question.forced,Result.andThen]
theorem adK (m:MI n0 PR e al)(mp:gG n0 e)(hf:∀t,RD e (al (.slot t)) (fr t) (tm.getD t undef)){o:Oper}{c:Site}{r:Out}(h:aI P c o.op fr e.st=some r)(lg:F2 o.op=true):
  ∃v e',oJ P n0 PR e al o ⟨tm,df⟩ r v e':=by
 have bB:∀x s,RD e s (ev fr x) ((⟨tm,df⟩:Act).eval x):=fun x s=>oW hf x
 cases ho:o.op with
 | makeMap t rs=>
  rw[ho]at h
  cases rs with
  | some v=>simp[aI]at h
  | none=>
   simp only[aI,Option.map_eq_some_iff]at h
   obtain⟨x,hx,rfl⟩:=h
   refine⟨.map (some e.w.heap.size),?_⟩
   have hid:x.1=c.id:=by unfold kj at hx;split at hx<;>cases hx<;>rfl
   have aQ:∃ob,e.st[c.id]? =some ob:=by unfold kj at hx;split at hx<;>first | exact⟨_,by assumption⟩ | cases hx
   obtain⟨ob,ew⟩:=aQ
   refine M7 m mp hx (b:=.map #[] 0) rfl (by simp[execOp,ho,Instr.makeMap]) (fun e' _ hw=>⟨[],0,by rw[hw];exact Mh _ _,.nil,by simp,by simp⟩) (fun e' bz hb s=>?_)
   refine .mp (by rw[bz];simp;exact(List.getElem?_eq_some_iff.1 ew).1) fun o2 bu=>?_
   rw[bz,jy ew]at bu;cases bu
   exact⟨Nat.le_refl _,fun _=>hb.symm⟩
 | lookup t x i ok=>
  rw[ho]at h
  simp only[aI]at h
  obtain⟨d,hd,rfl⟩:=cn h
  obtain⟨v,hv,hr⟩:=adz mp hd (bB x (fun _=>False)) (bB i (fun _=>False))
  exact⟨v,e,oJ.same m mp (by simp[execOp,ho,hv]) hr⟩
 | mapUpdate t x i y=>
  rw[ho]at h
  simp only[aI,Option.map_eq_some_iff]at h
  obtain⟨p,hp,rfl⟩:=h
  exact UA m mp hp (bB x (fun _=>False)) (bB i (fun _=>False)) (bB y) fun w' hw=>by simp[execOp,ho,hw]
 | insert t x i y=>
  rw[ho]at h
  simp only[aI,Option.map_eq_some_iff]at h
  obtain⟨p,hp,rfl⟩:=h
  exact UA m mp hp (bB x (fun _=>False)) (bB i (fun _=>False)) (bB y) fun w' hw=>by simp[execOp,ho,hw]
 | range t x=>
  rw[ho]at h
  simp only[aI,vq]at h
  have hx:=bB x (fun _=>False)
  split at h
  ·rename_i cj fh gN
   rw[gN]at hx
   generalize cM:(⟨tm,df⟩:Act).eval x=ax at hx
   split at h
   ·rename_i hT
    split at h
    ·rename_i hg
     obtain⟨ob,ew,hv,dE⟩:=o7 hg
     have qV:=hx.vF ew hv
     obtain⟨_,xs,cl,hb,hr,_⟩:=mp.at_ cj ob _ ew dE
     cases hr
     rw[Option.map_eq_some_iff]at h
     obtain⟨p,hp,rfl⟩:=h
     unfold M3 at hT
     split at hT
     ·rename_i kt et ht
      subst qV
      have aQ:∃ob,e.st[c.id]? =some ob:=by unfold kj at hp;split at hp<;>first | exact⟨_,by assumption⟩ | cases hp
      obtain⟨ob0,B7⟩:=aQ
      refine⟨.pointer (some ⟨e.w.heap.size,0,none⟩),M7 m mp hp (b:=.mapIter (some (e.io cj).b) cl #[] cl) rfl ?_ (fun e' x' hw=>⟨(e.io cj).b,cl,by rw[hw];exact Mh _ _,hx.mono x' fun _ h=>h⟩) (fun e' bz BG s=>?_)⟩
      ·simp[execOp,ho,cM,Instr.range,run_underlying ht,MapKept.run_getObj_map hb,Result.andThen]
      ·refine .mi (by rw[bz];simp;exact(List.getElem?_eq_some_iff.1 B7).1) fun o2 bu=>?_
       rw[bz,jy B7]at bu;cases bu
       exact⟨Nat.le_refl _,fun _=>BG.symm⟩
     ·cases hT
    ·rename_i x0 es0 hg
     obtain⟨ob,ew,hv,dE⟩:=o7 hg
     have qV:=hx.vF ew hv
     obtain⟨_,xs,cl,hb,hr,nR⟩:=mp.at_ cj ob _ ew dE
     have hlen:=hr.length
     simp only[List.length_cons]at hlen
     rw[Option.map_eq_some_iff]at h
     obtain⟨p,hp,rfl⟩:=h
     unfold M3 at hT
     split at hT
     ·rename_i kt et ht
      subst qV
      have aQ:∃ob,e.st[c.id]? =some ob:=by unfold kj at hp;split at hp<;>first | exact⟨_,by assumption⟩ | cases hp
      obtain⟨ob0,B7⟩:=aQ
      refine⟨.pointer (some ⟨e.w.heap.size,0,none⟩),M7 m mp hp (b:=.mapIter (some (e.io cj).b) cl #[] cl) rfl ?_ (fun e' x' hw=>⟨(e.io cj).b,cl,#[],cl,by rw[hw];exact Mh _ _,hx.mono x' fun _ h=>h,fun o' _ _ _=>⟨xs,cl,?_,by simp only[List.length_cons];omega,fun _=>⟨rfl,rfl,fun j y hy=>?_,fun j hj=>?_,List.nodup_range,fun j hj=>by cases hj⟩⟩⟩) (fun e' bz BG s=>?_)⟩
      ·simp[execOp,ho,cM,Instr.range,run_underlying ht,MapKept.run_getObj_map hb,Result.andThen]
      ·rw[hw,heap_alloc _ _ _ (Array.getElem?_eq_some_iff.1 hb).1];exact hb
      ·have:=(List.getElem?_eq_some_iff.1 hy).1
       simp;omega
      ·simp at hj;omega
      ·refine .mi (by rw[bz];simp;exact(List.getElem?_eq_some_iff.1 B7).1) fun o2 bu=>?_
       rw[bz,jy B7]at bu;cases bu
       exact⟨Nat.le_refl _,fun _=>BG.symm⟩
     ·cases hT
    ·cases h
   ·cases h
  ·cases h
 | next x m9=>
  rw[ho]at h
  cases m9 with
  | true=>simp[aI]at h
  | false=>
   simp only[aI]at h
   obtain⟨d,hd,rfl⟩:=cn h
   unfold CP at hd
   have hx:=bB x (fun _=>False)
   split at hd
   ·rename_i id ver cj fh gN
    rw[gN]at hx
    generalize cM:(⟨tm,df⟩:Act).eval x=ax at hx
    split at hd
    ·rename_i mh s8 kG nT
     split at hd
     ·rename_i hc
      obtain⟨rfl,rfl⟩:=hc
      cases hd
      obtain⟨o1,h1,h2,h3⟩:=o7 kG
      obtain⟨o2,g1,g2,g3⟩:=o7 nT
      obtain⟨_,r,cl,hb,hr⟩:=mp.at_ id o1 _ h1 h3
      have eX:=hr.vF g1 g2
      cases eX
      obtain⟨_,xs,Ln,eb,yi,_⟩:=mp.at_ mh o2 _ g1 g3
      cases yi
      cases hx with
      | mi _ hv=>
       have:=(hv o1 h1).2 h2.symm
       subst this
       refine⟨_,e,oJ.same m mp (v:=.tuple #[.bool false]) ?_ (fun s=>.aX (.cons (.c (.sc rfl)) .nil))⟩
       have sM:(getObj (e.io id).b).run P e.w= .ok (.mapIter (some (e.io mh).b) cl #[] cl) e.w:=by simp[getObj,Sem.run,hb]
       simp[execOp,ho,cM,Instr.next,sM,MapKept.run_getObj_map eb,Result.andThen,choose,Sem.run,Question.forced]
     ·cases hd
    ·rename_i mh s8 n cur es kG nT
     split at hd
     ·rename_i hc
      obtain⟨rfl,rfl,hn⟩:=hc
      cases hd
      obtain⟨o1,h1,h2,h3⟩:=o7 kG
      obtain⟨o2,g1,g2,g3⟩:=o7 nT
      obtain⟨_,r,since,seen,fu,hb,hr,hit⟩:=mp.at_ id o1 _ h1 h3
      have eX:=hr.vF g1 g2
      cases eX
      obtain⟨_,xs,Ln,eb,yi,nR⟩:=mp.at_ mh o2 _ g1 g3
      obtain⟨ys,d,k1,k2,k3⟩:=hit o2 g1 g2 (by rw[g3];simp)
      rw[eb]at k1;cases k1
      have ok:=k3 (by rw[←yi.length];exact hn)
      cases hx with
      | mi _ hv=>
       have:=(hv o1 h1).2 h2.symm
       subst this
       refine⟨_,e,oJ.same m mp (v:=.tuple #[.bool false]) ?_ (fun s=>.aX (.cons (.c (.sc rfl)) .nil))⟩
       have:=afU (P:=P) (w:=e.w) (ty:=o.type) hb eb (fun x hx=>by rw[ok.since];exact nR.1 x hx) (by rw[ok.since,ok.fu];exact Nat.le_refl _) (fun x hx=>by
        obtain⟨j,hj⟩:=List.getElem?_of_mem hx
        cases hc:seen.contains x.born with
        | true=>rfl
        | false=>exact absurd ((ok.TA j x hj).1 hc) (by simp))
       simp[execOp,ho,cM,this]
     ·cases hd
    ·cases hd
   ·cases hd
 | entry x=>
  rw[ho]at h
  simp only[aI]at h
  obtain⟨d,hd,rfl⟩:=cn h
  unfold Bi at hd
  have hx:=bB x (fun _=>False)
  split at hd
  ·rename_i id ver cj fh gN
   rw[gN]at hx
   generalize cM:(⟨tm,df⟩:Act).eval x=ax at hx
   split at hd
   ·rename_i mh s8 n j left es kG nT
    split at hd
    ·rename_i hc
     obtain⟨rfl,rfl,hn⟩:=hc
     rw[Option.map_eq_some_iff]at hd
     obtain⟨⟨k,v⟩,hj,rfl⟩:=hd
     obtain⟨o1,h1,h2,h3⟩:=o7 kG
     obtain⟨o2,g1,g2,g3⟩:=o7 nT
     obtain⟨_,r,since,seen,fu,hb,hr,hit⟩:=mp.at_ id o1 _ h1 h3
     have eX:=hr.vF g1 g2
     cases eX
     obtain⟨_,xs,Ln,eb,yi,nR⟩:=mp.at_ mh o2 _ g1 g3
     obtain⟨ys,d,k1,k2,k3⟩:=hit o2 g1 g2 (by rw[g3];simp)
     rw[eb]at k1;cases k1
     have ok:=k3 (by rw[←yi.length];exact hn)
     obtain⟨y,hy,hs⟩:=ok.Rv j rfl
     obtain⟨y',Co,hk,hv⟩:=yi.get hj
     rw[hy]at Co;cases Co
     cases hx with
     | mi _ hvv=>
      have:=(hvv o1 h1).2 h2.symm
      subst this
      refine⟨_,e,oJ.same m mp (v:=.tuple #[y.key,y.val]) ?_ (fun s=>.aX (.cons hk (.cons hv .nil)))⟩
      have sM:(getObj (e.io id).b).run P e.w= .ok (.mapIter (some (e.io mh).b) since seen fu) e.w:=by simp[getObj,Sem.run,hb]
      have hf:(⟨xs⟩:Array MapEntry).find? (·.born==y.born)=some y:=by rw[←Array.find?_toList];exact find_born y xs nR.2 (List.mem_of_getElem? hy)
      have fO:(Ln != fu)=false:=by rw[ok.fu];simp
      simp only[execOp,ho,cM,Instr.entry,Sem.run_bind,sM,Result.andThen_ok,hs,MapKept.run_getObj_map eb,fO,Bool.false_eq_true,if_false,hf]
      simp
    ·cases hd
   ·cases hd
  ·cases hd
 | _=>rw[ho]at lg;cases lg
end
end Go.Abs
