/-
  Part of the proof: printed by the session's own program out of the program's form, or typed; it states no claim by itself.
-/
import Derived.Test.YtpadajnejknkeaaGreatFa
import Derived.Test.YtpadajnejknkeaaGreatFg
set_option linter.unusedVariables false
set_option linter.unusedSimpArgs false
set_option maxRecDepth 100000
set_option maxHeartbeats 1000000
namespace Go.Vig
open Go Go.Abs Go.Proofs
variable [Kn]
def iQ (st:List Ob)(o:Ob):List Ob:=(st++List.replicate 1 (⟨0,[]⟩:Ob)).set (st.length+0) o
set_option linter.unusedSectionVars false
theorem NW (st:List Ob)(o:Ob):iQ st o=st++[o]:=by simp[iQ,List.set_append]
theorem yU (st:List Ob)(o o':Ob):(iQ st o).set (st.length+0) o'=st++[o']:=by rw[NW];simp[List.set_append]
theorem NV (st:List Ob)(o:Ob):(iQ st o)[st.length+0]? =some o:=by rw[NW];simp
theorem vt (st:List Ob)(cs:List DV):((lay (st++List.replicate 1 ⟨0,[]⟩) (st.length+0) cs).map fun e=>({ d:=.pt (st.length+0) e.2.ver 0,set:=some e}:Out))=some { d:=.pt (st.length+0) 1 0,set:=some (st.length+0,⟨1,cs⟩)}:=by
 have h:(st++List.replicate 1 (⟨0,[]⟩:Ob))[st.length+0]? =some ⟨0,[]⟩:=by simp
 unfold lay;rw[h];rfl
theorem Ox {P:Program}{st:List Ob}{t:TypeId}{id ver:Nat}{cs vs:List DV}{v:DV}(h:st[id]? =some ⟨ver,cs⟩)(hv:cellsOf v=some vs)(hk:cJ P t=some vs.length)(hl:cs.length=vs.length)(nz:List (Nat×Nat))(hz:nz=[])(l:List Tmp):
  (((gS P st t (.pt id ver 0) v).map fun e=>({ d:=.aX [],set:=some e,drop:=l}:Out)).map (mj nz))=some { d:=.aX [],set:=some (id,⟨ver,vs⟩),drop:=l}:=by
 subst hz
 have hs:cT cs 0 vs=vs:=by
  apply List.ext_getElem?
  intro i
  by_cases hi:i<vs.length
  ·have:=N3 cs 0 vs i (by omega) hi
   rw[Nat.zero_add]at this
   rw[this]
  ·rw[N5 cs 0 vs i (by omega),List.getElem?_eq_none (by omega),List.getElem?_eq_none (by omega)]
 simp only[gS,hv,hk,ld h rfl]
 rw[if_pos ⟨trivial,by omega⟩,hs]
 rfl
mutual
def nF (n:Nat):au->Option Bool
 | ⟨a0,a1,a2,a3,⟨nl,x,l⟩,a5⟩=>(zf n ⟨a0,a1,a2,a3,⟨nl,x,l⟩,a5⟩).bind fun b=>bif b then(if l.length≤1000000 then qt n l else none)else some false
def qt (n:Nat):List au->Option Bool
 | []=>some true
 | e::l=>(nF n e).bind fun b=>bif b then qt n l else some false
end
theorem Rb (n:Nat)(e:au):nF n e=(zf n e).bind fun b=>bif b then(if e.kids.l.length≤1000000 then qt n e.kids.l else none)else some false:=by
 obtain⟨a0,a1,a2,a3,⟨nl,x,l⟩,a5⟩:=e
 rw[nF]
def Hu (n:Nat)(e:au):Option Int:=(nF n e).map fun b=>bif b then 0 else 20
abbrev r9:Nat->DV:=fl [(2,.pt 1 1 0),(5,.fn 167 [] [.pt 2 1 0])]
noncomputable abbrev XX:Ctx:=GG 120 10 r9 #[6] (sub nD [1,0,1,0,0]) (sub nD [1,0,1,0,1])
noncomputable abbrev G0:List (Nat×Ctx):=[(0,XX)]
def hH:List DV:=[aa 0,.c (.sc (.string .empty)),.c (.sc (.string .empty)),aa 0,.c (.sl true true [] 0),aa 0]
theorem afS {n:Nat}{x:au}{b:Bool}(h:zf n x=some b){st:List Ob}(h1:st[1]? =some ⟨1,[aa 0]⟩):∃st':List Ob,X.Round G0 0 [.c (.agg (EncX.ae x))] ⟨st,[.normal]⟩ (dB b) ⟨st',[if b then .normal else .ret]⟩∧st'=(if b then st else st.set 1 ⟨1,[aa 20]⟩)++[⟨1,(EncX.ae x).map DV.c⟩]:=by
 have hp:=aiq h
 have hL:1<st.length:=(List.getElem?_eq_some_iff.1 h1).1
 have bz:(iQ st ⟨1,hH⟩)[st.length+0]? =some ⟨1,hH⟩:=NV _ _
 have ik:((iQ st ⟨1,hH⟩).set (st.length+0) ⟨1,(EncX.ae x).map DV.c⟩)[st.length+0]? =some ⟨1,(EncX.ae x).map DV.c⟩:=by rw[yU];simp
 have vf:((iQ st ⟨1,hH⟩).set (st.length+0) ⟨1,(EncX.ae x).map DV.c⟩)[1]? =some ⟨1,[aa 0]⟩:=by rw[yU,List.getElem?_append_left hL];exact h1
 have sI:∀(ex:Ex) (st':List Ob) (fr':Nat->DV),X.Go 120 10 [] (.seq (sub nD [1,0,1,0,0]) (sub nD [1,0,1,0,1])) ⟨np (fun t=>bx (r9 t)) [(6,.c (.agg (EncX.ae x)))],⟨st,[.normal]⟩⟩ ex ⟨fr',⟨st',[.normal]⟩⟩->uR ex=b->X.Round G0 0 [.c (.agg (EncX.ae x))] ⟨st,[.normal]⟩ (dB b) ⟨st',[ex]⟩:=fun ex st' fr' hg hb=>by
  have:=Sys.afR (X:=X) (Γ:=[]) (f:=120) (nt:=10) (ps:=#[6]) (asg:=sub nD [1,0,1,0,0]) (body:=sub nD [1,0,1,0,1]) (fr:=r9) (j:=0) (args:=[.c (.agg (EncX.ae x))]) (st:=st) (st':=st') (pd:=[.normal]) (pd':=[.normal]) (ex:=ex) (fr':=fr') (b:=b) (fun y hy=>by cases hy) rfl rfl rfl rfl hg hb
  exact this
 have Ce:=Ox (P:=X.P) (t:=63) bz (v:=.c (.agg (EncX.ae x))) (vs:=(EncX.ae x).map DV.c) rfl (by kernel_rfl) rfl [] rfl [6]
 have qL:val (iq X.P ((iQ st ⟨1,hH⟩).set (st.length+0) ⟨1,(EncX.ae x).map DV.c⟩) 63 (.pt (st.length+0) 1 0))=some { d:=.c (.agg (EncX.ae x))}:=yB (ld ik rfl) (by kernel_rfl)
 cases b with
 | true=>
  refine⟨_,sI .normal ((iQ st ⟨1,hH⟩).set (st.length+0) ⟨1,(EncX.ae x).map DV.c⟩) (fl [(2,.pt 1 1 0),(9,dB false)]) ?_ rfl,?_⟩
  ·exact Sys.go [((2,0),.op { d:=.pt (st.length+0) 1 0,set:=some (st.length+0,⟨1,hH⟩)}),((2,1),.op { d:=.aX [],set:=some (st.length+0,⟨1,(EncX.ae x).map DV.c⟩),drop:=[6]}),((3,0),.op { d:=.c (.agg (EncX.ae x))}),((3,1),.call (dB true) ⟨[],[]⟩)] (And.intro (vt st hH) (And.intro Ce (And.intro qL hp))) (by kernel_rfl)
  ·rw[yU];rfl
 | false=>
  have ym:=Ox (P:=X.P) (t:=41) vf (v:=aa 20) (vs:=[aa 20]) rfl (by kernel_rfl) rfl [] rfl []
  refine⟨_,sI .ret (((iQ st ⟨1,hH⟩).set (st.length+0) ⟨1,(EncX.ae x).map DV.c⟩).set 1 ⟨1,[aa 20]⟩) (fl []) ?_ rfl,?_⟩
  ·exact Sys.go [((2,0),.op { d:=.pt (st.length+0) 1 0,set:=some (st.length+0,⟨1,hH⟩)}),((2,1),.op { d:=.aX [],set:=some (st.length+0,⟨1,(EncX.ae x).map DV.c⟩),drop:=[6]}),((3,0),.op { d:=.c (.agg (EncX.ae x))}),((3,1),.call (dB false) ⟨[],[]⟩),((4,0),.op { d:=.aX [],set:=some (1,⟨1,[aa 20]⟩)})] (And.intro (vt st hH) (And.intro Ce (And.intro qL (And.intro hp ym)))) (by kernel_rfl)
  ·rw[yU,List.set_append_left _ _ hL];rfl
structure Wk (st:List Ob):Prop where
 o1:st[1]? =some ⟨1,[aa 0]⟩
 o3:st[3]? =some ⟨1,[.yl 0]⟩
 o4:st[4]? =some ⟨1,[.fn 168 [] [.pt 3 1 0,.pt 4 1 0]]⟩
theorem Wk.add {st:List Ob}(w:Wk st)(o:Ob):Wk (st++[o]):=
 ⟨by rw[List.getElem?_append_left (List.getElem?_eq_some_iff.1 w.o1).1];exact w.o1,by rw[List.getElem?_append_left (List.getElem?_eq_some_iff.1 w.o3).1];exact w.o3,by rw[List.getElem?_append_left (List.getElem?_eq_some_iff.1 w.o4).1];exact w.o4⟩
def AT (b:Bool)(st':List Ob):Prop:=if b then Wk st' else st'[1]? =some ⟨1,[aa 20]⟩
abbrev lX (b:Bool):Ex:=if b then .normal else .ret
def KF (l:Sl au)(i:Int):Nat->DV:=fl [(2,.pt 4 1 0),(12,.c (aq l)),(13,aa (l.l.length:Int)),(14,aa i)]
def KE (b:Bool)(l:Sl au)(i:Int):Nat->DV:=if b then fl [(2,.pt 4 1 0),(12,.c (aq l)),(13,aa (l.l.length:Int)),(14,aa i),(15,dB false)]else fl [(4,dB false)]
theorem ac7 {l:Sl au}(hl:l.l.length≤1000000){i:Int}{x:au}{b:Bool}{st:List Ob}(w:Wk st)(hx:aD l.l i=some x)
  (hr:∀{st:List Ob},Wk st->∃st',X.eU G0 168 [.c (.agg (EncX.ae x)),.pt 3 1 0,.pt 4 1 0] ⟨st,[.normal]⟩ (dB b) ⟨st',[lX b]⟩∧AT b st'):
  ∃st',X.Go 168 23 G0 (sub qm [1,1,0,1,0,0]) ⟨KF l i,⟨st,[.normal]⟩⟩ (lX b) ⟨if b then KF l (i+1)else fl [(4,dB false)],⟨st',[lX b]⟩⟩∧AT b st':=by
 have hb:=Qr hx
 have hg:=bJ hx
 have bz:(iQ st ⟨1,hH⟩)[st.length+0]? =some ⟨1,hH⟩:=NV _ _
 have ik:((iQ st ⟨1,hH⟩).set (st.length+0) ⟨1,(EncX.ae x).map DV.c⟩)[st.length+0]? =some ⟨1,(EncX.ae x).map DV.c⟩:=by rw[yU];simp
 have w2:Wk ((iQ st ⟨1,hH⟩).set (st.length+0) ⟨1,(EncX.ae x).map DV.c⟩):=by rw[yU];exact w.add _
 have Ce:=Ox (P:=X.P) (t:=63) bz (v:=.c (.agg (EncX.ae x))) (vs:=(EncX.ae x).map DV.c) rfl (by kernel_rfl) rfl [] rfl [17]
 have BW:val (iq X.P ((iQ st ⟨1,hH⟩).set (st.length+0) ⟨1,(EncX.ae x).map DV.c⟩) 185 (.pt 4 1 0))=some { d:=.fn 168 [] [.pt 3 1 0,.pt 4 1 0]}:=yB (ld w2.o4 rfl) (by kernel_rfl)
 have qL:val (iq X.P ((iQ st ⟨1,hH⟩).set (st.length+0) ⟨1,(EncX.ae x).map DV.c⟩) 63 (.pt (st.length+0) 1 0))=some { d:=.c (.agg (EncX.ae x))}:=yB (ld ik rfl) (by kernel_rfl)
 obtain⟨st',h1,h2⟩:=hr w2
 have qS:=GV 0 6 (by decide) hg
 refine⟨st',?_,h2⟩
 cases b with
 | true=>
  exact Sys.go [((4,0),.b true),((5,0),.ix),((5,1),.agg (EncX.ae x)),((5,2),.op { d:=.pt (st.length+0) 1 0,set:=some (st.length+0,⟨1,hH⟩)}),((5,3),.op { d:=.aX [],set:=some (st.length+0,⟨1,(EncX.ae x).map DV.c⟩),drop:=[17]}),((6,0),.op { d:=.fn 168 [] [.pt 3 1 0,.pt 4 1 0]}),((6,1),.op { d:=.c (.agg (EncX.ae x))}),((6,2),.call (dB true) ⟨st',[.normal]⟩),((8,0),.n)]
   (And.intro hb.2 (And.intro hb (And.intro qS (And.intro (vt st hH) (And.intro Ce (And.intro BW (And.intro qL (And.intro h1 (show aF (i+1) by unfold aF;omega))))))))) (by kernel_rfl)
 | false=>
  exact Sys.go [((4,0),.b true),((5,0),.ix),((5,1),.agg (EncX.ae x)),((5,2),.op { d:=.pt (st.length+0) 1 0,set:=some (st.length+0,⟨1,hH⟩)}),((5,3),.op { d:=.aX [],set:=some (st.length+0,⟨1,(EncX.ae x).map DV.c⟩),drop:=[17]}),((6,0),.op { d:=.fn 168 [] [.pt 3 1 0,.pt 4 1 0]}),((6,1),.op { d:=.c (.agg (EncX.ae x))}),((6,2),.call (dB false) ⟨st',[.ret]⟩)]
   (And.intro hb.2 (And.intro hb (And.intro qS (And.intro (vt st hH) (And.intro Ce (And.intro BW (And.intro qL h1))))))) (by kernel_rfl)
theorem ac8 {l:Sl au}{i:Int}(hi:¬i<(l.l.length:Int)){st:List Ob}:X.Go 168 23 G0 (sub qm [1,1,0,1,0,0]) ⟨KF l i,⟨st,[.normal]⟩⟩ (.exit 0) ⟨KE true l i,⟨st,[.normal]⟩⟩:=
 Sys.go [((4,0),.b false)] hi (by kernel_rfl)
def EB (e:au)(b:Bool):Prop:=∀{st:List Ob},Wk st->∃st',X.eU G0 168 [.c (.agg (EncX.ae e)),.pt 3 1 0,.pt 4 1 0] ⟨st,[.normal]⟩ (dB b) ⟨st',[lX b]⟩∧AT b st'
theorem Tt {n:Nat}{l:Sl au}(hl:l.l.length≤1000000):∀(rest:List au) (j:Nat) (i:Int) {b:Bool},(j:Int)=i->l.l.drop j=rest->(∀e∈rest,∀{b},nF n e=some b->EB e b)->qt n rest=some b->∀{st:List Ob},Wk st->∀s,km (X.an.rs 168 4) s=⟨KF l i,⟨st,[.normal]⟩⟩->
  ∃(i':Int) (st':List Ob),X.Loop 168 23 G0 (sub qm [1,1,0,1,0,0]) s.m.st.length s (if b then .exit 0 else .ret) ⟨KE b l i',⟨st',[lX b]⟩⟩∧AT b st'
 | [],j,i,b,hi,hd,hr,h,st,w,s,hs=>by
  have hj:l.l.length≤j:=List.drop_eq_nil_iff.1 hd
  simp only[qt,Option.some.injEq]at h
  subst h
  refine⟨i,st,Sys.Loop.exit hs (ac8 (by omega)) (by simp),w⟩
 | e::rest,j,i,b,hi,hd,hr,h,st,w,s,hs=>by
  have hj:j<l.l.length:=by
   by_cases hc:j<l.l.length
   ·exact hc
   ·rw[List.drop_eq_nil_of_le (by omega)]at hd;cases hd
  have he:l.l[j]? =some e:=by
   have:=congrArg (·[0]?) hd
   simpa using this
  have hx:aD l.l i=some e:=by rw[←hi,YI];exact he
  have o8:l.l.drop (j+1)=rest:=by rw[List.drop_eq_getElem_cons hj]at hd;exact(List.cons.inj hd).2
  simp only[qt]at h
  obtain⟨b0,h0,h1⟩:=Option.bind_eq_some_iff.1 h
  obtain⟨cP,hg,hw⟩:=ac7 hl w hx (hr e List.mem_cons_self h0)
  cases b0 with
  | false=>
   simp only[cond_false,Option.some.injEq]at h1
   subst h1
   exact⟨i,cP,Sys.Loop.exit hs hg (by simp[lX]),hw⟩
  | true=>
   simp only[cond_true]at h1
   have ik:km (X.an.rs 168 4) ⟨KF l (i+1),⟨cP,[.normal]⟩⟩=⟨KF l (i+1),⟨cP,[.normal]⟩⟩:=by kernel_rfl
   obtain⟨i',st',h2,h3⟩:=Tt hl rest (j+1) (i+1) (b:=b) (by omega) o8 (fun x hx=>hr x (List.mem_cons_of_mem _ hx)) h1 hw _ ik
   refine⟨i',st',?_,h3⟩
   have hm:∀m m':Nat,X.Loop 168 23 G0 (sub qm [1,1,0,1,0,0]) m ⟨KF l (i+1),⟨cP,[.normal]⟩⟩ (if b then .exit 0 else .ret) ⟨KE b l i',⟨st',[lX b]⟩⟩->X.Loop 168 23 G0 (sub qm [1,1,0,1,0,0]) m' ⟨KF l (i+1),⟨cP,[.normal]⟩⟩ (if b then .exit 0 else .ret) ⟨KE b l i',⟨st',[lX b]⟩⟩:=fun m m' hh=>by
    have hc:X.an.cut 168 (ep (sub qm [1,1,0,1,0,0]))=none:=by kernel_rfl
    have sQ:∀(body:S->Option (Ex×S)) (n:Nat) (s:S),n9 body none m n s=n9 body none m' n s:=fun body n=>by
     induction n with
     | zero=>intro s;rfl
     | succ n ih=>
      intro s
      simp only[n9,ss]
      split
      ·exact ih _
      ·rfl
    obtain⟨k0,n0,hh⟩:=hh
    refine⟨k0,n0,fun k hk n hn=>?_⟩
    have:=hh k hk n hn
    rw[hc]at this ⊢
    rw[←sQ];exact this
   exact Sys.Loop.step (s2:=⟨KF l (i+1),⟨cP,[.normal]⟩⟩) hs hg (by kernel_rfl) (hm _ _ h2)
theorem apM {n:Nat}(e:au){b:Bool}(h:nF n e=some b)(hr:∀x∈e.kids.l,∀{b},nF n x=some b->EB x b):EB e b:=fun {st} w=>by
 rw[Rb]at h
 obtain⟨b0,h0,h1⟩:=Option.bind_eq_some_iff.1 h
 have ik:(iQ st ⟨1,(EncX.ae e).map DV.c⟩)[st.length+0]? =some ⟨1,(EncX.ae e).map DV.c⟩:=NV _ _
 have w2:Wk (iQ st ⟨1,(EncX.ae e).map DV.c⟩):=by rw[NW];exact w.add _
 have qJ:val (iq X.P (iQ st ⟨1,(EncX.ae e).map DV.c⟩) 185 (.pt 3 1 0))=some { d:=.yl 0}:=yB (ld w2.o3 rfl) (by kernel_rfl)
 have qL:val (iq X.P (iQ st ⟨1,(EncX.ae e).map DV.c⟩) 63 (.pt (st.length+0) 1 0))=some { d:=.c (.agg (EncX.ae e))}:=yB (ld ik rfl) (by kernel_rfl)
 obtain⟨cP,cR,ym⟩:=afS h0 w2.o1
 cases b0 with
 | false=>
  simp only[cond_false,Option.some.injEq]at h1
  subst h1
  refine⟨cP,?_,?_⟩
  ·refine Sys.call (fn:=Tryz.f168) (c:=qm) (ex:=.ret) (s:=⟨fl [(4,dB false)],⟨cP,[.ret]⟩⟩) ?_ (by kernel_rfl) (by kernel_rfl) rfl (by kernel_rfl) rfl
   exact Sys.go [((0,0),.op { d:=.pt (st.length+0) 1 0,set:=some (st.length+0,⟨1,(EncX.ae e).map DV.c⟩)}),((1,0),.op { d:=.yl 0}),((1,1),.op { d:=.c (.agg (EncX.ae e))}),((1,2),.call (dB false) ⟨cP,[.ret]⟩)]
    (And.intro (vt st ((EncX.ae e).map DV.c)) (And.intro qJ (And.intro qL cR))) (by kernel_rfl)
  ·show cP[1]? =some ⟨1,[aa 20]⟩
   rw[ym]
   have hL:1<(iQ st ⟨1,(EncX.ae e).map DV.c⟩).length:=(List.getElem?_eq_some_iff.1 w2.o1).1
   simp only[Bool.false_eq_true,if_false]
   rw[List.getElem?_append_left (by simpa using hL),List.getElem?_set,if_pos rfl,if_pos hL]
 | true=>
  simp only[cond_true]at h1
  split at h1
  case isFalse=>cases h1
  rename_i hl
  simp only[if_true]at ym
  have w3:Wk cP:=by rw[ym];exact w2.add _
  have hk:cP[st.length+0]? =some ⟨1,(EncX.ae e).map DV.c⟩:=by
   rw[ym,List.getElem?_append_left (List.getElem?_eq_some_iff.1 ik).1];exact ik
  have SQ:val (iq X.P cP 61 (.pt (st.length+0) 1 4))=some { d:=.c (aq e.kids)}:=yB (ld hk rfl) (by kernel_rfl)
  obtain⟨i',cf,h2,h3⟩:=Tt (n:=n) (l:=e.kids) hl e.kids.l 0 0 (b:=b) rfl rfl (fun x hx=>hr x hx) h1 w3 ⟨KF e.kids 0,⟨cP,[.normal]⟩⟩ (by kernel_rfl)
  refine⟨cf,?_,h3⟩
  have eu:=Sys.Loop.go h2
  cases b with
  | true=>
   refine Sys.call (fn:=Tryz.f168) (c:=qm) (ex:=.ret) (s:=⟨fl [(4,dB true)],⟨cf,[.normal]⟩⟩) ?_ (by kernel_rfl) (by kernel_rfl) rfl (by kernel_rfl) rfl
   exact Sys.go [((0,0),.op { d:=.pt (st.length+0) 1 0,set:=some (st.length+0,⟨1,(EncX.ae e).map DV.c⟩)}),((1,0),.op { d:=.yl 0}),((1,1),.op { d:=.c (.agg (EncX.ae e))}),((1,2),.call (dB true) ⟨cP,[.normal]⟩),((3,1),.op { d:=.c (aq e.kids)}),((4,1000),.code (.exit 0) ⟨KE true e.kids i',⟨cf,[.normal]⟩⟩)]
    (And.intro (vt st ((EncX.ae e).map DV.c)) (And.intro qJ (And.intro qL (And.intro cR (And.intro SQ eu))))) (by kernel_rfl)
  | false=>
   refine Sys.call (fn:=Tryz.f168) (c:=qm) (ex:=.ret) (s:=⟨fl [(4,dB false)],⟨cf,[.ret]⟩⟩) ?_ (by kernel_rfl) (by kernel_rfl) rfl (by kernel_rfl) rfl
   exact Sys.go [((0,0),.op { d:=.pt (st.length+0) 1 0,set:=some (st.length+0,⟨1,(EncX.ae e).map DV.c⟩)}),((1,0),.op { d:=.yl 0}),((1,1),.op { d:=.c (.agg (EncX.ae e))}),((1,2),.call (dB true) ⟨cP,[.normal]⟩),((3,1),.op { d:=.c (aq e.kids)}),((4,1000),.code .ret ⟨KE false e.kids i',⟨cf,[.ret]⟩⟩)]
    (And.intro (vt st ((EncX.ae e).map DV.c)) (And.intro qJ (And.intro qL (And.intro cR (And.intro SQ eu))))) (by kernel_rfl)
theorem XJ {n:Nat}(e:au):∀{b:Bool},nF n e=some b->EB e b:=fun {b} h=>apM e h fun x hx=>XJ x
termination_by SizeOf.sizeOf e
decreasing_by
 obtain⟨a0,a1,a2,a3,⟨nl,xx,l⟩,a5⟩:=e
 have h1:x∈l:=hx
 have:=List.sizeOf_lt_of_mem h1
 simp;omega
theorem Qq {st:List Ob}{o:Ob}(h:st[1]? =some o):∃a tl,st=a::o::tl:=by
 match st,h with
 | a::b::tl,h=>exact⟨a,tl,by simp at h;rw[h]⟩
 | [a],h=>simp at h
 | [],h=>simp at h
theorem Yf {n:Nat}{e:au}{b:Bool}(h:nF n e=some b):∃st',X.eU G0 167 [.yl 0,.pt 2 1 0] ⟨[⟨1,(EncX.ae e).map DV.c⟩,⟨1,[aa 0]⟩,⟨1,(EncX.ae e).map DV.c⟩],[.normal]⟩ (.aX []) ⟨st',[lX b]⟩∧AT b st':=by
 obtain⟨st',h1,h2⟩:=XJ e h (st:=[⟨1,(EncX.ae e).map DV.c⟩,⟨1,[aa 0]⟩,⟨1,(EncX.ae e).map DV.c⟩,⟨1,[.yl 0]⟩,⟨1,[.fn 168 [] [.pt 3 1 0,.pt 4 1 0]]⟩]) ⟨rfl,rfl,rfl⟩
 refine⟨st',?_,h2⟩
 refine Sys.call (fn:=Tryz.f167) (c:=Zd) (ex:=.normal) (s:=⟨fl [],⟨st',[lX b]⟩⟩) ?_ (by kernel_rfl) (by kernel_rfl) rfl (by kernel_rfl) rfl
 exact Sys.go [((3,2),.call (dB b) ⟨st',[lX b]⟩)] h1 (by kernel_rfl)
theorem Qk (e:au):X.eU [] 145 [.c (.agg (EncX.ae e))] ⟨[],[]⟩ (.fn 167 [] [.pt 0 1 0]) ⟨bm [.x 1 ((EncX.ae e).map DV.c)],[]⟩:=fK 4 YV wK
theorem aik {n:Nat}{e:au}{r:Int}(h:Hu n e=some r):X.bg 120 [.c (.agg (EncX.ae e))] (aa r):=by
 obtain⟨b,hb,rfl⟩:=Option.map_eq_some_iff.1 h
 obtain⟨st',h1,h2⟩:=Yf hb
 have eu:X.Go 120 10 [] (sub nD [1,0,1,0]) ⟨r9,⟨[⟨1,(EncX.ae e).map DV.c⟩,⟨1,[aa 0]⟩,⟨1,(EncX.ae e).map DV.c⟩],[]⟩⟩ (lX b) ⟨r9,⟨st',[lX b]⟩⟩:=
  Sys.afc (X:=X) (Γ:=[]) (f:=120) (nt:=10) (ps:=#[6]) (asg:=sub nD [1,0,1,0,0]) (body:=sub nD [1,0,1,0,1]) (fr:=r9) (g:=.tmp 5) (h:=167) (xs:=[]) (ys:=[.pt 2 1 0]) (d:=.aX []) (pd:=[]) (by kernel_rfl) rfl (by kernel_rfl) h1 rfl (by kernel_rfl)
 cases b with
 | true=>
  obtain⟨a,tl,rfl⟩:=Qq (Wk.o1 h2)
  exact fC 10 nD<|wt (1,1) (.A5 (.fn 167 [] [.pt 0 1 0]) [.x 1 ((EncX.ae e).map DV.c)]) (Qk e)<|wt (3,1000) (.code .normal ⟨r9,⟨a::⟨1,[aa 0]⟩::tl,[.normal]⟩⟩) eu<|wC
 | false=>
  obtain⟨a,tl,rfl⟩:=Qq h2
  exact fC 10 nD<|wt (1,1) (.A5 (.fn 167 [] [.pt 0 1 0]) [.x 1 ((EncX.ae e).map DV.c)]) (Qk e)<|wt (3,1000) (.code .ret ⟨r9,⟨a::⟨1,[aa 20]⟩::tl,[.ret]⟩⟩) eu<|wC
end Go.Vig
namespace Go.Vig
open Go Go.Abs Go.Proofs
variable [Kn]
def pJ (n:Nat)(p0:aT)(p1:ah):Option aS:=
 (aD p0.bc.l p1.role).bind fun v9=>
 (nq n p0 p1).bind fun x=>
 (aD x 0).bind fun bV=>
 (aD v9.aU.l bV).bind fun bF=>
 some bF
theorem vU {n:Nat}{p0:aT}{p1:ah}{r:aS}(h:pJ n p0 p1=some r):X.bg 59 [.c (.agg (EncX.ae p0)),.c (.agg (EncX.ae p1))] (.c (.agg (EncX.ae r))):=by
 refine fC 19 ZA ?_
 refine wg h fun v9 h0 h=>wx (1,4) h0<|wl (1,6) 3 h0 rfl<|wc (1,9) h (fun _=>tK) fun x h=>wg h fun bV h2 h=>wx (1,10) h2<|wl (1,11) 0 h2 rfl<|wg h fun bF h3 h=>wx (1,12) h3<|wa (1,13) h3<|?_
 cases h
 exact wC
def pK (n:Nat):Option aE:=
 some ({ owner:=(-1)}:aE)
theorem Dm {n:Nat}{r:aE}(h:pK n=some r):X.bg 60 [] (.c (.agg (EncX.ae r))):=by
 refine fC 2 ZB ?_
 cases h
 exact wC
def zc (n:Nat)(p0:aT)(p1:bo)(p2:Int):Option Bool:=
 if p2<0 then
  some false
 else if p2≥(p1.threads.l.length:Int)then
  some false
 else(aD p1.threads.l p2).bind fun v21=>
 if v21.state=2 then
  (pJ n p0 v21).bind fun x=>
  (aD p1.aZ.l x.mon).bind fun ck=>
  (pK n).bind fun aC=>
  if ck=aC then
   some true
  else some false
 else if v21.state=0 then
  (pJ n p0 v21).bind fun av=>
  if av.kind≠4 then
   some true
  else(aD p1.aZ.l av.mon).bind fun rL=>
  (pK n).bind fun aK=>
  if rL=aK then
   some true
  else if rL.owner=p2 then
   some true
  else some false
 else some false
theorem Om {n:Nat}{p0:aT}{p1:bo}{p2:Int}{r:Bool}(h:zc n p0 p1 p2=some r):X.bg 30 [.c (.agg (EncX.ae p0)),.c (.agg (EncX.ae p1)),aa p2] (dB r):=by
 refine fC 66 Zs ?_
 refine wi (1,1) h (fun h0 h=>?_) fun h0 h=>?_
 ·cases h
  exact wC
 ·refine wi (1,7) h (fun h1 h=>?_) fun h1 h=>?_
  ·cases h
   exact wC
  ·refine wg h fun v21 h2 h=>wx (3,3) h2<|wa (3,4) h2<|wi (5,0) h (fun h3 h=>?_) fun h3 h=>?_
   ·refine wc (6,4) h (fun _=>vU) fun x h=>wg h fun ck h5 h=>wx (6,6) h5<|wa (6,7) h5<|wc (6,8) h (fun _=>Dm) fun aC h=>wI h (fun h7 h=>?_) fun h7 h=>?_
    ·refine wt (6,9) (.op { d:=dB true}) (yX (sa ck aC) h7)<|?_
     cases h
     exact wC
    ·refine wt (6,9) (.op { d:=dB false}) (yW (sa ck aC) h7)<|?_
     cases h
     exact wC
   ·refine wi (7,0) h (fun h4 h=>?_) fun h4 h=>?_
    ·refine wc (8,2) h (fun _=>vU) fun av h=>wi (9,2) h (fun h6 h=>?_) fun h6 h=>?_
     ·cases h
      exact wC
     ·refine wg h fun rL h7 h=>wx (9,8) h7<|wa (9,9) h7<|wc (9,10) h (fun _=>Dm) fun aK h=>wI h (fun h9 h=>?_) fun h9 h=>?_
      ·refine wt (9,11) (.op { d:=dB true}) (yX (sa rL aK) h9)<|?_
       cases h
       exact wC
      ·refine wt (9,11) (.op { d:=dB false}) (yW (sa rL aK) h9)<|wx (9,18) h7<|wl (9,20) 0 h7 rfl<|wi (9,22) h (fun dq h=>?_) fun dq h=>?_
       ·cases h
        exact wC
       ·cases h
        exact wC
    ·cases h
     exact wC
inductive Hn where
 | m (kq:Bool)
def ahV:Hn->Ex
 | .m _=>.normal
def ahU (p0:aT)(p2:Int)(bV:ah):Hn->(Nat->DV)->List Ob->S
 | .m kq,F,G=>⟨fs F [2,3,6,7,10,11,12,27] [(2,aa p2),(3,.pt 0 1 0),(27,dB kq)],⟨sl G 3 [(0,⟨1,(EncX.ae p0).map DV.c⟩),(2,⟨1,(EncX.ae bV).map DV.c⟩)],[]⟩⟩
def Ow (p0:aT)(p2:Int)(bV:ah)(n:Nat):Option Hn:=
 if bV.state=1 then
  (pJ n p0 bV).bind fun x=>
  if x.mon=p2 then
   some (.m true)
  else some (.m false)
 else some (.m false)
theorem ahT (p0:aT)(p2:Int)(bV:ah)(n:Nat)(o:Hn)(h:Ow p0 p2 bV n=some o):X.JF 45 34 (sub xE [1,0,1,0,0,1,1,0,0,1,0]) [2,3,6,7,8,10,11,12] 3 [(2,aa p2),(3,.pt 0 1 0),(8,.pt 2 1 0)] [(0,⟨1,(EncX.ae p0).map DV.c⟩),(2,⟨1,(EncX.ae bV).map DV.c⟩)] (ahV o) (ahU p0 p2 bV o):=by
 intro F G;refine Sys.dZ (w0 ?_)
 refine wi (4,2) h (fun h0 h=>?_) fun h0 h=>?_
 ·refine wc (4,6) h (fun _=>vU) fun x h=>wi (4,9) h (fun h2 h=>?_) fun h2 h=>?_
  ·cases h
   exact wJ
  ·cases h
   exact wJ
 ·cases h
  exact wJ
inductive Ho where
 | e0 (v6:List Int) (v12:Int)
def ahY:Ho->Ex
 | .e0 _ _=>(.exit 0)
def ahX (p0:aT)(p1:bo)(p2:Int):Ho->S
 | .e0 v6 v12=>⟨fl [(2,aa p2),(3,.pt 0 1 0),(6,aP v6),(10,.c (aq p1.threads)),(11,aa (p1.threads.l.length:Int)),(12,aa v12),(13,dB false)],⟨[⟨1,(EncX.ae p0).map DV.c⟩,⟨1,(EncX.ae p1).map DV.c⟩],[]⟩⟩
def we (p0:aT)(p1:bo)(p2:Int)(n:Nat):Nat->List Int->Int->Option Ho
 | 0,_,_=>none
 | k+1,v6,v12=>
  if v12<(p1.threads.l.length:Int)then
   (aD p1.threads.l v12).bind fun bV=>
   (Ow p0 p2 bV n).bind fun az=>match az with
   | .m kq=>
    bif kq then
     if Room 8 (v6++([v12]:List Int)).length then if aF (v12+1)then we p0 p1 p2 n k (v6++([v12]:List Int)) (v12+1)
     else none
     else none
    else if aF (v12+1)then we p0 p1 p2 n k v6 (v12+1)
    else none
  else some (.e0 v6 v12)
theorem ahW (p0:aT)(p1:bo)(p2:Int)(n:Nat):∀(k:Nat) (v6:List Int) (v12:Int) (o:Ho),we p0 p1 p2 n k v6 v12=some o->X.LH 45 34 2 (sub xE [1,0,1,0,0]) 2 ⟨fl [(2,aa p2),(3,.pt 0 1 0),(6,aP v6),(10,.c (aq p1.threads)),(11,aa (p1.threads.l.length:Int)),(12,aa v12)],⟨[⟨1,(EncX.ae p0).map DV.c⟩,⟨1,(EncX.ae p1).map DV.c⟩],[]⟩⟩ (ahY o) (ahX p0 p1 p2 o):=by
 intro k;induction k with
 | zero=>intro _ _ _ h;exact nomatch h
 | succ k ih=>
  intro v6 v12 o h s hs
  refine Sys.bj hs (w0 ?_)
  refine wi (2,0) h (fun h0 h=>?_) fun h0 h=>?_
  ·refine wg h fun bV h1 h=>wx (3,1) h1<|wa (3,2) h1<|wg h fun az h2 h=>?_
   have h2:=ahT _ _ _ _ _ h2
   cases az with
   | m kq=>
    refine wV 4 [1,1,0,0,1,0] h2<|?_
    cases kq
    ·exact wn (6,0) h fun h4 h=>wN 2 [] (ih v6 (v12+1) _ h)
    ·exact wq h fun h4 h=>dG (5,3) h4<|wn (6,0) h fun h5 h=>wN 2 [] (ih (v6++([v12]:List Int)) (v12+1) _ h)
  ·cases h
   exact wX
def Dq (n:Nat)(p0:aT)(p1:bo)(p2:Int):Option (List Int):=
 (we p0 p1 p2 n n ([]:List Int) 0).bind fun aY=>match aY with
 | .e0 bX ow=>
  some bX
theorem VP {n:Nat}{p0:aT}{p1:bo}{p2:Int}{r:List Int}(h:Dq n p0 p1 p2=some r):X.bg 45 [.c (.agg (EncX.ae p0)),.c (.agg (EncX.ae p1)),aa p2] (aP r):=by
 refine fC 34 xE ?_
 refine wg h fun aY h0 h=>?_
 have h0:=ahW _ _ _ _ _ _ _ _ h0
 cases aY with
 | e0 bX ow=>
  refine wo [1,0,1,0] h0<|?_
  cases h
  exact wC
def Dl (n:Nat)(p0:aT)(p1:bo)(p2:Int):Option Int:=
 (aD p1.threads.l p2).bind fun v12=>
 if v12.state≠0 then
  some 1
 else(pJ n p0 v12).bind fun x=>
 if x.kind=9 then
  (nq n p0 v12).bind fun aC=>
  some (aC.length:Int)
 else if x.kind=7 then
  (Dq n p0 p1 x.mon).bind fun av=>
  some (if(av.length:Int)>1 then(av.length:Int)else 1)
 else some 1
theorem VA {n:Nat}{p0:aT}{p1:bo}{p2 r:Int}(h:Dl n p0 p1 p2=some r):X.bg 31 [.c (.agg (EncX.ae p0)),.c (.agg (EncX.ae p1)),aa p2] (aa r):=by
 refine fC 37 Zt ?_
 refine wg h fun v12 h0 h=>wx (1,3) h0<|wa (1,4) h0<|wi (2,2) h (fun h1 h=>?_) fun h1 h=>?_
 ·cases h
  exact wC
 ·refine wc (4,2) h (fun _=>vU) fun x h=>wi (6,0) h (fun h3 h=>?_) fun h3 h=>?_
  ·refine wc (7,2) h (fun _=>tK) fun aC h=>?_
   cases h
   exact wC
  ·refine wi (8,0) h (fun h4 h=>?_) fun h4 h=>?_
   ·refine wc (9,4) h (fun _=>VP) fun av h=>?_
    cases h
    exact wC
   ·cases h
    exact wC
def VI (ai:Sl aH)(ak:Sl aO)(ao:Sl aN)(aL o3:List Int)(ef mo:Nat):List DV:=[.c (aq ai),.c (aq ak),.c (aq ao),.ms 1 1 0 ef 5 true,.ms 2 1 0 mo 2 true,.ms 3 1 0 o3.length 1 true,aP aL]
def G8 (n:Nat)(p1 p2:Int)(ai:Sl aH)(ak:Sl aO)(ao:Sl aN)(aL:List Int)(o1:List ah)(o2:List aE)(o3:List Int)(ef mo:Nat):Option (List ah):=
 if 0≤p1∧p1<(ef:Int)then(aD o1 p1).bind fun w1=>
 (nq n ({ p:=({ aw:=ai,aR:=ak}:aj),bc:=ao}:aT) ({ ({ w1 with loc:=p2}:ah)with state:=0}:ah)).bind fun x=>
 if(x.length:Int)=0 then
  some (o1.set p1.toNat ({ ({ ({ w1 with loc:=p2}:ah)with state:=0}:ah)with state:=3}:ah))
 else some (o1.set p1.toNat ({ ({ w1 with loc:=p2}:ah)with state:=0}:ah))
 else none
theorem ahi {n:Nat}{p1 p2:Int}{ai:Sl aH}{ak:Sl aO}{ao:Sl aN}{aL:List Int}{o1:List ah}{o2:List aE}{o3:List Int}{ef mo:Nat}{r:List ah}(h:G8 n p1 p2 ai ak ao aL o1 o2 o3 ef mo=some r):X.cD 66 [.pt 0 1 0,aa p1,aa p2] (bm [.x 1 (VI ai ak ao aL o3 ef mo),.l 1 o1,.l 1 o2,.l 1 o3]) (.aX []) (bm [.x 1 (VI ai ak ao aL o3 ef mo),.l 1 r,.l 1 o2,.l 1 o3]):=by
 refine fL 34 EJ ?_
 refine wq h fun h0 h=>wt (0,6) .ix h0<|wg h fun w1 h1 h=>wt (1,5) (.st (bl (o1.set p1.toNat ({ w1 with loc:=p2}:ah)))) (And.intro (rfl:(1:Nat)=1) (iI 1 [aa p2] ({ w1 with loc:=p2}:ah) (bJ h1) rfl (Nat.le_of_ble_eq_true rfl)))<|wt (1,8) (.st (bl (o1.set p1.toNat ({ ({ w1 with loc:=p2}:ah)with state:=0}:ah)))) (And.intro (rfl:(1:Nat)=1) (j7 (a:=({ w1 with loc:=p2}:ah)) 2 [aa 0] ({ ({ w1 with loc:=p2}:ah)with state:=0}:ah) (bJ h1) rfl (Nat.le_of_ble_eq_true rfl)))<|wt (2,6) (.agg (EncX.ae ({ ({ w1 with loc:=p2}:ah)with state:=0}:ah))) (And.intro (rfl:(1:Nat)=1) (nK 0 5 (by decide) (sG (b:=({ ({ w1 with loc:=p2}:ah)with state:=0}:ah)) (bJ h1))))<|wc (2,7) h (fun _=>tK) fun x h=>wi (2,9) h (fun h3 h=>?_) fun h3 h=>?_
 ·refine wt (3,3) (.st (bl (o1.set p1.toNat ({ ({ ({ w1 with loc:=p2}:ah)with state:=0}:ah)with state:=3}:ah)))) (And.intro (rfl:(1:Nat)=1) (j7 (a:=({ ({ w1 with loc:=p2}:ah)with state:=0}:ah)) 2 [aa 3] ({ ({ ({ w1 with loc:=p2}:ah)with state:=0}:ah)with state:=3}:ah) (bJ h1) rfl (Nat.le_of_ble_eq_true rfl)))<|?_
  cases h
  exact wL []
 ·cases h
  exact wL []
def VB (ai:Sl aH)(ak:Sl aO)(ao:Sl aN)(aL:List Int)(o1:List ah)(o2:List aE)(o3:List Int):List DV:=[.c (aq ai),.c (aq ak),.c (aq ao),.ms 1 1 0 o1.length 5 true,.ms 2 1 0 o2.length 2 true,.ms 3 1 0 o3.length 1 true,aP aL]
def G5 (n:Nat)(p1:Int)(ai:Sl aH)(ak:Sl aO)(ao:Sl aN)(aL:List Int)(o1:List ah)(o2:List aE)(o3:List Int):Option (Int×List ah×List aE):=
 (aD o1 p1).bind fun bq=>
 (nq n ({ p:=({ aw:=ai,aR:=ak}:aj),bc:=ao}:aT) bq).bind fun x=>
 (aD x 0).bind fun jZ=>
 (pJ n ({ p:=({ aw:=ai,aR:=ak}:aj),bc:=ao}:aT) bq).bind fun aC=>
 (aD o2 aC.mon).bind fun v46=>
 (G8 n p1 aC.a8 ai ak ao aL (o1.set p1.toNat ({ bq with depth:=0}:ah)) (o2.set aC.mon.toNat ({ owner:=p1,depth:=bq.depth}:aE)) o3 o1.length o2.length).bind fun y1=>
 some (jZ,y1,(o2.set aC.mon.toNat ({ owner:=p1,depth:=bq.depth}:aE)))
theorem ahd {n:Nat}{p1:Int}{ai:Sl aH}{ak:Sl aO}{ao:Sl aN}{aL:List Int}{o1:List ah}{o2:List aE}{o3:List Int}{r:Int×List ah×List aE}(h:G5 n p1 ai ak ao aL o1 o2 o3=some r):X.cD 62 [.pt 0 1 0,aa p1] (bm [.x 1 (VB ai ak ao aL o1 o2 o3),.l 1 o1,.l 1 o2,.l 1 o3]) (aa r.1) (bm [.x 1 (VB ai ak ao aL o1 o2 o3),.l 1 r.2.1,.l 1 r.2.2,.l 1 o3]):=by
 refine fL 56 ZD ?_
 refine wg h fun bq h0 h=>wx (1,6) h0<|wt (2,6) (.agg (EncX.ae bq)) (And.intro (rfl:(1:Nat)=1) (nK 0 5 (by decide) (bJ h0)))<|wc (2,7) h (fun _=>tK) fun x h=>wg h fun jZ h2 h=>wx (2,8) h2<|wl (2,9) 0 h2 rfl<|wt (3,6) (.agg (EncX.ae bq)) (And.intro (rfl:(1:Nat)=1) (nK 0 5 (by decide) (bJ h0)))<|wc (3,7) h (fun _=>vU) fun aC h=>wt (4,11) (.cell (bb bq.depth)) (And.intro (rfl:(1:Nat)=1) (jw 4 (c:=bb bq.depth) rfl (bJ h0)))<|wg h fun v46 h4 h=>wx (4,13) h4<|wt (4,14) (.st (bl (o2.set aC.mon.toNat ({ owner:=p1,depth:=bq.depth}:aE)))) (And.intro (rfl:(1:Nat)=1) (iI 0 [aa p1,aa bq.depth] ({ owner:=p1,depth:=bq.depth}:aE) (bJ h4) rfl (Nat.le_of_ble_eq_true rfl)))<|wt (5,3) (.st (bl (o1.set p1.toNat ({ bq with depth:=0}:ah)))) (And.intro (rfl:(1:Nat)=1) (iI 4 [aa 0] ({ bq with depth:=0}:ah) (bJ h0) rfl (Nat.le_of_ble_eq_true rfl)))<|wy (6,4) h (fun _=>ahi) fun y1 h=>?_
 cases h
 exact wL []
def OS (n:Nat)(p0:aj):Option (Sl bI):=
 (vG n p0).bind fun x=>
 some (Sl.gr x)
theorem aiQ {n:Nat}{p0:aj}{r:Sl bI}(h:OS n p0=some r):X.eU [] 121 [.c (.agg (EncX.ae p0))] ⟨[],[]⟩ (.pt 1 1 0) ⟨(bm [.x 1 [.c (aq p0.aw),.c (aq p0.aR)],.x 1 [.c (aq p0.aw),.c (aq p0.aR),.c (aq r),aa 0,aa 0]]),[]⟩:=by
 refine fK 8 YQ ?_
 refine wc (1,2) h (fun _=>Gu) fun x h=>?_
 cases h
 exact wK
def Nt (n:Nat)(p0:aH)(ai:ByteArray):Option Bool:=
 if p0.name=ai then
  some true
 else some false
theorem ad5 {n:Nat}{p0:aH}{ai:ByteArray}{r:Bool}(h:Nt n p0 ai=some r):X.cD 172 [.c (.agg (EncX.ae p0)),.pt 0 1 0] (bm [.x 1 [.c (.sc (.string ai))]]) (dB r) (bm [.x 1 [.c (.sc (.string ai))]]):=by
 refine fL 8 Zg ?_
 refine wI h (fun h0 h=>?_) fun h0 h=>?_
 ·refine wt (1,3) (.op { d:=dB true}) (dM h0)<|?_
  cases h
  exact wL []
 ·refine wt (1,3) (.op { d:=dB false}) (dL h0)<|?_
  cases h
  exact wL []
inductive GQ where
 | r (v4:Int)
 | e0 (v8:Int)
def agp:GQ->Ex
 | .r _=>.ret
 | .e0 _=>(.exit 0)
def ago (p0:Sl aH)(ai:ByteArray):GQ->(Nat->DV)->List Ob->S
 | .r v4,F,G=>⟨fs F [4] [(4,aa v4)],⟨sl G 1 [(0,⟨1,[.c (.sc (.string ai))]⟩)],[]⟩⟩
 | .e0 v8,F,G=>⟨fs F [0,1,7,8,9] [(0,.c (aq p0)),(1,.fn 172 [] [.pt 0 1 0]),(7,aa (p0.l.length:Int)),(8,aa v8),(9,dB false)],⟨sl G 1 [(0,⟨1,[.c (.sc (.string ai))]⟩)],[]⟩⟩
def y7 (p0:Sl aH)(ai:ByteArray)(n:Nat):Nat->Int->Option GQ
 | 0,_=>none
 | k+1,v8=>
  if v8<(p0.l.length:Int)then
   (aD p0.l v8).bind fun bq=>
   (Nt n bq ai).bind fun x=>
   bif x then
    some (.r v8)
   else if aF (v8+1)then y7 p0 ai n k (v8+1)
   else none
  else some (.e0 v8)
theorem agn (p0:Sl aH)(ai:ByteArray)(n:Nat):∀(k:Nat) (v8:Int) (o:GQ),y7 p0 ai n k v8=some o->X.LF 171 19 2 (sub QC [1,0,1,0,0]) 1 [(0,.c (aq p0)),(1,.fn 172 [] [.pt 0 1 0]),(7,aa (p0.l.length:Int)),(8,aa v8)] [(0,⟨1,[.c (.sc (.string ai))]⟩)] (agp o) (ago p0 ai o):=by
 intro k;induction k with
 | zero=>intro _ _ h;exact nomatch h
 | succ k ih=>
  intro v8 o h F G s hs
  refine Sys.bj hs (w0 ?_)
  refine wi (2,0) h (fun h0 h=>?_) fun h0 h=>?_
  ·refine wg h fun bq h1 h=>wx (4,3) h1<|wa (4,4) h1<|wy (4,5) h (fun _=>ad5) fun x h=>?_
   cases x
   ·exact wn (6,0) h fun h4 h=>wN 2 [] (ih (v8+1) _ h F G)
   ·cases h
    exact wX
  ·cases h
   exact wX
def Oc (n:Nat)(p0:Sl aH)(ai:ByteArray):Option Int:=
 (y7 p0 ai n n 0).bind fun az=>match az with
 | .r v4=>
  some v4
 | .e0 dC=>
  some (-1)
theorem agq {n:Nat}{p0:Sl aH}{ai:ByteArray}{r:Int}(h:Oc n p0 ai=some r):X.cD 171 [.c (aq p0),.fn 172 [] [.pt 0 1 0]] (bm [.x 1 [.c (.sc (.string ai))]]) (aa r) (bm [.x 1 [.c (.sc (.string ai))]]):=by
 refine fL 19 QC ?_
 refine wg h fun az h0 h=>?_
 have h0:=agn _ _ _ _ _ _ h0
 cases az with
 | r v4=>
  refine wO [1,0,1,0] h0<|?_
  cases h
  exact wL []
 | e0 dC=>
  refine wO [1,0,1,0] h0<|?_
  cases h
  exact wL []
def Gr (n:Nat)(p0:aj)(p1:ByteArray):Option (Int×Bool):=
 (Oc n p0.aw p1).bind fun x=>
 if x≥0 then
  some ((if 0>x then 0 else x),true)
 else some ((if 0>x then 0 else x),false)
theorem ad6 {n:Nat}{p0:aj}{p1:ByteArray}{r:Int×Bool}(h:Gr n p0 p1=some r):X.bg 150 [.c (.agg (EncX.ae p0)),.c (.sc (.string p1))] (.aX [aa r.1,dB r.2]):=by
 refine fC 15 Y0 ?_
 refine wy (1,3) h (fun _=>agq) fun x h=>wi (2,3) h (fun h1 h=>?_) fun h1 h=>?_
 ·cases h
  exact wC
 ·cases h
  exact wC
def Nu (n:Nat)(p0:bI)(ai:ByteArray):Option Bool:=
 if p0.name=ai then
  some true
 else some false
theorem ad7 {n:Nat}{p0:bI}{ai:ByteArray}{r:Bool}(h:Nu n p0 ai=some r):X.cD 152 [.c (.agg (EncX.ae p0)),.pt 0 1 0] (bm [.x 1 [.c (.sc (.string ai))]]) (dB r) (bm [.x 1 [.c (.sc (.string ai))]]):=by
 refine fL 8 Y1 ?_
 refine wI h (fun h0 h=>?_) fun h0 h=>?_
 ·refine wt (1,3) (.op { d:=dB true}) (dM h0)<|?_
  cases h
  exact wL []
 ·refine wt (1,3) (.op { d:=dB false}) (dL h0)<|?_
  cases h
  exact wL []
inductive GR where
 | r (v4:Int)
 | e0 (v8:Int)
def agt:GR->Ex
 | .r _=>.ret
 | .e0 _=>(.exit 0)
def ags (p0:Sl bI)(ai:ByteArray):GR->(Nat->DV)->List Ob->S
 | .r v4,F,G=>⟨fs F [4] [(4,aa v4)],⟨sl G 1 [(0,⟨1,[.c (.sc (.string ai))]⟩)],[]⟩⟩
 | .e0 v8,F,G=>⟨fs F [0,1,7,8,9] [(0,.c (aq p0)),(1,.fn 152 [] [.pt 0 1 0]),(7,aa (p0.l.length:Int)),(8,aa v8),(9,dB false)],⟨sl G 1 [(0,⟨1,[.c (.sc (.string ai))]⟩)],[]⟩⟩
def y8 (p0:Sl bI)(ai:ByteArray)(n:Nat):Nat->Int->Option GR
 | 0,_=>none
 | k+1,v8=>
  if v8<(p0.l.length:Int)then
   (aD p0.l v8).bind fun bq=>
   (Nu n bq ai).bind fun x=>
   bif x then
    some (.r v8)
   else if aF (v8+1)then y8 p0 ai n k (v8+1)
   else none
  else some (.e0 v8)
theorem agr (p0:Sl bI)(ai:ByteArray)(n:Nat):∀(k:Nat) (v8:Int) (o:GR),y8 p0 ai n k v8=some o->X.LF 151 19 2 (sub QA [1,0,1,0,0]) 1 [(0,.c (aq p0)),(1,.fn 152 [] [.pt 0 1 0]),(7,aa (p0.l.length:Int)),(8,aa v8)] [(0,⟨1,[.c (.sc (.string ai))]⟩)] (agt o) (ags p0 ai o):=by
 intro k;induction k with
 | zero=>intro _ _ h;exact nomatch h
 | succ k ih=>
  intro v8 o h F G s hs
  refine Sys.bj hs (w0 ?_)
  refine wi (2,0) h (fun h0 h=>?_) fun h0 h=>?_
  ·refine wg h fun bq h1 h=>wx (4,3) h1<|wa (4,4) h1<|wy (4,5) h (fun _=>ad7) fun x h=>?_
   cases x
   ·exact wn (6,0) h fun h4 h=>wN 2 [] (ih (v8+1) _ h F G)
   ·cases h
    exact wX
  ·cases h
   exact wX
def Od (n:Nat)(p0:Sl bI)(ai:ByteArray):Option Int:=
 (y8 p0 ai n n 0).bind fun az=>match az with
 | .r v4=>
  some v4
 | .e0 dC=>
  some (-1)
theorem agu {n:Nat}{p0:Sl bI}{ai:ByteArray}{r:Int}(h:Od n p0 ai=some r):X.cD 151 [.c (aq p0),.fn 152 [] [.pt 0 1 0]] (bm [.x 1 [.c (.sc (.string ai))]]) (aa r) (bm [.x 1 [.c (.sc (.string ai))]]):=by
 refine fL 19 QA ?_
 refine wg h fun az h0 h=>?_
 have h0:=agr _ _ _ _ _ _ h0
 cases az with
 | r v4=>
  refine wO [1,0,1,0] h0<|?_
  cases h
  exact wL []
 | e0 dC=>
  refine wO [1,0,1,0] h0<|?_
  cases h
  exact wL []
inductive Gs where
 | e0 (v10 jG:Int)
def aea:Gs->Ex
 | .e0 _ _=>(.exit 0)
def ad9 (p0:aj)(p2:ByteArray)(x:Int):Gs->S
 | .e0 v10 jG=>⟨fl [(10,aa v10),(34,.c (.sl p0.aw.nl (p0.aw.x&&x.toNat==p0.aw.l.length) (cells ((p0.aw.l.drop 0).take (x.toNat - 0))) (((p0.aw.l.drop 0).take (x.toNat - 0)).length))),(35,aa (((p0.aw.l.drop 0).take (x.toNat - 0)).length:Int)),(36,aa jG),(37,dB false)],⟨[⟨1,(EncX.ae p0).map DV.c⟩,⟨1,[.c (.sc (.string p2))]⟩],[]⟩⟩
def yI (p0:aj)(p2:ByteArray)(x:Int)(n:Nat):Nat->Int->Int->Option Gs
 | 0,_,_=>none
 | k+1,v10,jG=>
  if jG<(((p0.aw.l.drop 0).take (x.toNat - 0)).length:Int)then
   (aD ((p0.aw.l.drop 0).take (x.toNat - 0)) jG).bind fun gw=>
   if aF (v10+(gw.vars.l.length:Int))then if aF (jG+1)then yI p0 p2 x n k (v10+(gw.vars.l.length:Int)) (jG+1)
   else none
   else none
  else some (.e0 v10 jG)
theorem ad8 (p0:aj)(p2:ByteArray)(x:Int)(n:Nat):∀(k:Nat) (v10:Int) (jG:Int) (o:Gs),yI p0 p2 x n k v10 jG=some o->X.LH 123 47 8 (sub Qt [1,1,1,1,1,0,1,0,0]) 2 ⟨fl [(10,aa v10),(34,.c (.sl p0.aw.nl (p0.aw.x&&x.toNat==p0.aw.l.length) (cells ((p0.aw.l.drop 0).take (x.toNat - 0))) (((p0.aw.l.drop 0).take (x.toNat - 0)).length))),(35,aa (((p0.aw.l.drop 0).take (x.toNat - 0)).length:Int)),(36,aa jG)],⟨[⟨1,(EncX.ae p0).map DV.c⟩,⟨1,[.c (.sc (.string p2))]⟩],[]⟩⟩ (aea o) (ad9 p0 p2 x o):=by
 intro k;induction k with
 | zero=>intro _ _ _ h;exact nomatch h
 | succ k ih=>
  intro v10 jG o h s hs
  refine Sys.bj hs (w0 ?_)
  refine wi (8,0) h (fun h0 h=>?_) fun h0 h=>?_
  ·exact wg h fun gw h1 h=>wx (9,0) h1<|wa (9,1) h1<|wn (10,4) h fun h2 h=>wn (11,0) h fun h3 h=>wN 8 [] (ih (v10+(gw.vars.l.length:Int)) (jG+1) _ h)
  ·cases h
   exact wX
def CO (n:Nat)(p0:aj)(p1 p2:ByteArray):Option (Int×Bool):=
 (Gr n p0 p1).bind fun(x,aC)=>
 bif aC then
  (aD p0.aw.l x).bind fun v24=>
  (Od n v24.vars p2).bind fun av=>
  if av<0 then
   some (0,false)
  else if 0≤x∧x≤(p0.aw.l.length:Int)then(yI p0 p2 x n n av 0).bind fun az=>match az with
  | .e0 cB ai2=>
   some (cB,true)
  else none
 else some (0,false)
theorem TU {n:Nat}{p0:aj}{p1 p2:ByteArray}{r:Int×Bool}(h:CO n p0 p1 p2=some r):X.bg 123 [.c (.agg (EncX.ae p0)),.c (.sc (.string p1)),.c (.sc (.string p2))] (.aX [aa r.1,dB r.2]):=by
 refine fC 47 Qt ?_
 refine wc (1,2) h (fun _=>ad6) ?_
 rintro⟨x,aC⟩ h
 cases aC
 ·cases h
  exact wC
 ·refine wg h fun v24 h2 h=>wx (4,3) h2<|wl (4,5) 1 h2 rfl<|wy (4,7) h (fun _=>agu) fun av h=>wi (5,1) h (fun h4 h=>?_) fun h4 h=>?_
  ·cases h
   exact wC
  ·refine wq h fun h5 h=>wt (7,3) (.Vj 0 x.toNat (cells ((p0.aw.l.drop 0).take (x.toNat - 0))) ((p0.aw.l.drop 0).take (x.toNat - 0)).length) (And.intro (agd h5) (aal (agc h5)))<|wg h fun az h6 h=>?_
   have h6:=ad8 _ _ _ _ _ _ _ _ h6
   cases az with
   | e0 cB ai2=>
    refine wo [1,1,1,1,1,0,1,0] h6<|?_
    cases h
    exact wC
def HC (n:Nat)(p1 p2:ByteArray)(ai:Sl aH)(ak:Sl aO)(ao:Sl bI)(aM bU:Int):Option (Int×Bool):=
 (CO n ({ aw:=ai,aR:=ak}:aj) p1 p2).bind fun(x,aC)=>
 bif aC then
  (aD ao.l x).bind fun kq=>
  if kq.type=1 then
   some (1,true)
  else some (2,true)
 else some (0,false)
theorem aiP {n:Nat}{p1 p2:ByteArray}{ai:Sl aH}{ak:Sl aO}{ao:Sl bI}{aM bU:Int}{r:Int×Bool}(h:HC n p1 p2 ai ak ao aM bU=some r):X.cD 147 [.pt 0 1 0,.c (.sc (.string p1)),.c (.sc (.string p2))] (bm [.x 1 [.c (aq ai),.c (aq ak),.c (aq ao),aa aM,aa bU]]) (.aX [aa r.1,dB r.2]) (bm [.x 1 [.c (aq ai),.c (aq ak),.c (aq ao),aa aM,aa bU]]):=by
 refine fL 31 YW ?_
 refine wc (1,6) h (fun _=>TU) ?_
 rintro⟨x,aC⟩ h
 cases aC
 ·cases h
  exact wL []
 ·refine wg h fun kq h2 h=>wx (4,5) h2<|wl (4,7) 1 h2 rfl<|wi (4,8) h (fun h3 h=>?_) fun h3 h=>?_
  ·cases h
   exact wL []
  ·cases h
   exact wL []
def zi (n:Nat)(p1 p2:Int)(ai:Sl aH)(ak:Sl aO)(ao:Sl bI)(aM bU:Int):Option (Int×Int):=
 if aM=0 then
  some (p1,p2)
 else some (aM,bU)
theorem OR {n:Nat}{p1 p2:Int}{ai:Sl aH}{ak:Sl aO}{ao:Sl bI}{aM bU:Int}{r:Int×Int}(h:zi n p1 p2 ai ak ao aM bU=some r):X.cD 148 [.pt 0 1 0,aa p1,aa p2] (bm [.x 1 [.c (aq ai),.c (aq ak),.c (aq ao),aa aM,aa bU]]) (.aX []) (bm [.x 1 [.c (aq ai),.c (aq ak),.c (aq ao),aa r.1,aa r.2]]):=by
 refine fL 19 YX ?_
 refine wi (0,4) h (fun h0 h=>?_) fun h0 h=>?_
 ·cases h
  exact wL []
 ·cases h
  exact wL []
def HD (n:Nat)(p0:Int):Option dx:=
 if 0≤p0∧p0<(18:Int)then(aD ([({}:dx),({ bW:=2}:dx),({ bW:=1}:dx),({ bW:=1}:dx),({}:dx),({ bW:=1,parts:=1}:dx),({ bW:=2,parts:=2}:dx),({ bW:=2,parts:=2}:dx),({ bW:=2,parts:=2}:dx),({ bW:=2,parts:=2}:dx),({ bW:=1}:dx),({ bW:=1}:dx),({ bW:=1,parts:=2}:dx),({ bW:=1,parts:=2}:dx),({ bW:=1,parts:=2}:dx),({ bW:=1,parts:=2}:dx),({ bW:=1,parts:=1}:dx),({ bW:=1,parts:=1}:dx)]:List dx) p0).bind fun w1=>
 some w1
 else none
theorem aiR {n:Nat}{p0:Int}{r:dx}(h:HD n p0=some r):X.bg 149 [aa p0] (.c (.agg (EncX.ae r))):=by
 refine fC 24 YY ?_
 refine wq h fun h0 h=>wt (2,1) .ix h0<|wg h fun w1 h1 h=>wt (2,2) (.agg (EncX.ae w1)) (And.intro (rfl:(1:Nat)=1) (nK 0 2 (by decide) (bJ h1)))<|?_
 cases h
 exact wC
def aiM (ai:Sl aH)(ak:Sl aO)(ao:Sl bI)(te ti:Int):List DV:=[.c (aq ai),.c (aq ak),.c (aq ao),aa te,aa ti]
def aiN (ai:Sl aH)(ak:Sl aO)(ao:Sl bI)(ml mn:Int):List DV:=[.c (aq ai),.c (aq ak),.c (aq ao),aa ml,aa mn]
abbrev OQ:=au->Sl aH->Sl aO->Sl bI->Int->Int->Option (Int×Int×Int)
def Wq (f:OQ):Prop:=∀(p1:au) (ai:Sl aH) (ak:Sl aO) (ao:Sl bI) (aM:Int) (bU:Int) (r:Int×Int×Int),f p1 ai ak ao aM bU=some r->X.cD 122 [.pt 0 1 0,.c (.agg (EncX.ae p1))] (bm [.x 1 [.c (aq ai),.c (aq ak),.c (aq ao),aa aM,aa bU]]) (aa r.1) (bm [.x 1 [.c (aq ai),.c (aq ak),.c (aq ao),aa r.2.1,aa r.2.2]])
inductive HB where
 | e0 (iU CY kP:Int) (o3:List Int)
def aiK:HB->Ex
 | .e0 _ _ _ _=>(.exit 0)
def aiJ (p1:au)(ai:Sl aH)(ak:Sl aO)(ao:Sl bI)(av:dx):HB->S
 | .e0 iU CY kP o3=>⟨fl [(0,.pt 0 1 0),(3,.pt 1 1 0),(7,.pt 2 1 0),(8,.ms 3 1 0 p1.kids.l.length 1 true),(40,.c (aq p1.kids)),(41,aa (p1.kids.l.length:Int)),(42,aa iU),(43,dB false)],⟨[⟨1,[.c (aq ai),.c (aq ak),.c (aq ao),aa CY,aa kP]⟩,⟨1,(EncX.ae p1).map DV.c⟩,⟨1,(EncX.ae av).map DV.c⟩,⟨1,bl o3⟩],[]⟩⟩
def wA (C4:OQ)(p1:au)(ai:Sl aH)(ak:Sl aO)(ao:Sl bI)(av:dx)(n:Nat):Nat->Int->Int->Int->List Int->Option HB
 | 0,_,_,_,_=>none
 | k+1,iU,te,ti,o3=>
  if iU<(p1.kids.l.length:Int)then
   (aD p1.kids.l iU).bind fun tR=>
   (C4 tR ai ak ao te ti).bind fun(aK,gE,lM)=>
   if 0≤iU∧iU<(p1.kids.l.length:Int)then(aD o3 iU).bind fun w3=>
   if aF (iU+1)then wA C4 p1 ai ak ao av n k (iU+1) gE lM (o3.set iU.toNat aK)
   else none
   else none
  else some (.e0 iU te ti o3)
theorem aiI (C4:OQ)(p1:au)(ai:Sl aH)(ak:Sl aO)(ao:Sl bI)(av:dx)(Kx:Wq C4)(n:Nat):∀(k:Nat) (iU:Int) (te:Int) (ti:Int) (o3:List Int) (o:HB),wA C4 p1 ai ak ao av n k iU te ti o3=some o->X.LH 122 81 9 (sub KV [1,1,1,1,0,1,0,0]) 4 ⟨fl [(0,.pt 0 1 0),(3,.pt 1 1 0),(7,.pt 2 1 0),(8,.ms 3 1 0 p1.kids.l.length 1 true),(40,.c (aq p1.kids)),(41,aa (p1.kids.l.length:Int)),(42,aa iU)],⟨[⟨1,(aiM ai ak ao te ti)⟩,⟨1,(EncX.ae p1).map DV.c⟩,⟨1,(EncX.ae av).map DV.c⟩,⟨1,bl o3⟩],[]⟩⟩ (aiK o) (aiJ p1 ai ak ao av o):=by
 intro k;induction k with
 | zero=>intro _ _ _ _ _ h;exact nomatch h
 | succ k ih=>
  intro iU te ti o3 o h s hs
  refine Sys.bj hs (w0 ?_)
  refine wi (9,0) h (fun h0 h=>?_) fun h0 h=>?_
  ·refine wg h fun tR h1 h=>wx (10,1) h1<|wa (10,2) h1<|wy (11,4) h (fun _=>Kx _ _ _ _ _ _ _) ?_
   rintro⟨aK,gE,lM⟩ h
   exact wq h fun h3 h=>wt (11,5) .ix h3<|wg h fun w3 h4 h=>wt (11,6) (.st (bl (o3.set iU.toNat aK))) (And.intro (rfl:(1:Nat)=1) (iI 0 [aa aK] aK (bJ h4) rfl (Nat.le_of_ble_eq_true rfl)))<|wn (12,0) h fun h5 h=>wN 9 [.z,.z,.z,.l 1 (o3.set iU.toNat aK)] (ih (iU+1) gE lM (o3.set iU.toNat aK) _ h)
  ·cases h
   exact wX
inductive HA where
 | e2 (dF CY kP:Int) (o2:dx)
def aiH:HA->Ex
 | .e2 _ _ _ _=>(.exit 2)
def aiG (p1:au)(ai:Sl aH)(ak:Sl aO)(ao:Sl bI)(cI:List Int):HA->(Nat->DV)->List Ob->S
 | .e2 dF CY kP o2,F,G=>⟨fs F [0,3,7,54,55,56,57] [(0,.pt 0 1 0),(3,.pt 1 1 0),(7,.pt 2 1 0),(54,.ms 3 1 0 p1.kids.l.length 1 true),(55,aa (p1.kids.l.length:Int)),(56,aa dF),(57,dB false)],⟨sl G 4 [(0,⟨1,[.c (aq ai),.c (aq ak),.c (aq ao),aa CY,aa kP]⟩),(1,⟨1,(EncX.ae p1).map DV.c⟩),(2,⟨1,(EncX.ae o2).map DV.c⟩),(3,⟨1,bl cI⟩)],[]⟩⟩
def pM (p1:au)(ai:Sl aH)(ak:Sl aO)(ao:Sl bI)(cI:List Int)(n:Nat):Nat->Int->Int->Int->dx->Option HA
 | 0,_,_,_,_=>none
 | k+1,dF,ml,mn,o2=>
  if dF<(p1.kids.l.length:Int)then
   if 0≤dF∧dF<(p1.kids.l.length:Int)then(aD cI dF).bind fun p9=>
   if o2.parts=0 then
    if p9≠p9 then
     (aD p1.kids.l dF).bind fun nu=>
     (zi n 70 nu.at_ ai ak ao ml mn).bind fun(j3,oH)=>
     if aF (dF+1)then pM p1 ai ak ao cI n k (dF+1) j3 oH ({ bW:=o2.bW,parts:=p9}:dx)
     else none
    else if aF (dF+1)then pM p1 ai ak ao cI n k (dF+1) ml mn ({ bW:=o2.bW,parts:=p9}:dx)
    else none
   else if p9≠o2.parts then
    (aD p1.kids.l dF).bind fun WY=>
    (zi n 70 WY.at_ ai ak ao ml mn).bind fun(k5,mL)=>
    if aF (dF+1)then pM p1 ai ak ao cI n k (dF+1) k5 mL o2
    else none
   else if aF (dF+1)then pM p1 ai ak ao cI n k (dF+1) ml mn o2
   else none
   else none
  else some (.e2 dF ml mn o2)
theorem aiF (p1:au)(ai:Sl aH)(ak:Sl aO)(ao:Sl bI)(cI:List Int)(n:Nat):∀(k:Nat) (dF:Int) (ml:Int) (mn:Int) (o2:dx) (o:HA),pM p1 ai ak ao cI n k dF ml mn o2=some o->X.LF 122 81 14 (sub KV [1,1,1,1,1,0,1,0,0]) 4 [(0,.pt 0 1 0),(3,.pt 1 1 0),(7,.pt 2 1 0),(54,.ms 3 1 0 p1.kids.l.length 1 true),(55,aa (p1.kids.l.length:Int)),(56,aa dF)] [(0,⟨1,(aiN ai ak ao ml mn)⟩),(1,⟨1,(EncX.ae p1).map DV.c⟩),(2,⟨1,(EncX.ae o2).map DV.c⟩),(3,⟨1,bl cI⟩)] (aiH o) (aiG p1 ai ak ao cI o):=by
 intro k;induction k with
 | zero=>intro _ _ _ _ _ h;exact nomatch h
 | succ k ih=>
  intro dF ml mn o2 o h F G s hs
  refine Sys.bj hs (w0 ?_)
  refine wi (14,0) h (fun h0 h=>?_) fun h0 h=>?_
  ·refine wq h fun h1 h=>wt (15,1) .ix h1<|wg h fun p9 h2 h=>wt (15,2) (.cell (bb p9)) (And.intro (rfl:(1:Nat)=1) (jw 0 (c:=bb p9) rfl (bJ h2)))<|wi (16,2) h (fun h3 h=>?_) fun h3 h=>?_
   ·refine wi (18,3) h (fun h4 h=>?_) fun h4 h=>?_
    ·refine wg h fun nu h5 h=>wx (19,4) h5<|wl (19,6) 5 h5 rfl<|wy (19,7) h (fun _=>OR) ?_
     rintro⟨j3,oH⟩ h
     exact wn (20,0) h fun h7 h=>wN 14 [] (ih (dF+1) j3 oH ({ bW:=o2.bW,parts:=p9}:dx) _ h F G)
    ·exact wn (20,0) h fun h5 h=>wN 14 [] (ih (dF+1) ml mn ({ bW:=o2.bW,parts:=p9}:dx) _ h F G)
   ·refine wi (18,3) h (fun h4 h=>?_) fun h4 h=>?_
    ·refine wg h fun WY h5 h=>wx (19,4) h5<|wl (19,6) 5 h5 rfl<|wy (19,7) h (fun _=>OR) ?_
     rintro⟨k5,mL⟩ h
     exact wn (20,0) h fun h7 h=>wN 14 [] (ih (dF+1) k5 mL o2 _ h F G)
    ·exact wn (20,0) h fun h5 h=>wN 14 [] (ih (dF+1) ml mn o2 _ h F G)
  ·cases h
   exact wX
def pL:Nat->au->Sl aH->Sl aO->Sl bI->Int->Int->Option (Int×Int×Int)
 | 0,_,_,_,_,_,_=>none
 | n+1,p1,ai,ak,ao,aM,bU=>
  if p1.op=4 then
   (HC n p1.mon p1.name ai ak ao aM bU).bind fun(x,aC)=>
   bif aC then
    some (x,aM,bU)
   else(zi n 61 p1.at_ ai ak ao aM bU).bind fun(y0,ek)=>
   some (x,y0,ek)
  else(HD n p1.op).bind fun av=>
  if Mk 8 p1.kids.l.length then(wA (pL n) p1 ai ak ao av n n 0 aM bU (List.replicate p1.kids.l.length (0:Int))).bind fun az=>match az with
  | .e0 ai4 T8 tf cI=>
   (pM p1 ai ak ao cI n n 0 T8 tf av).bind fun aY=>match aY with
   | .e2 HI T9 jU iP=>
    some (iP.bW,T9,jU)
  else none
theorem aiL:∀n:Nat,Wq (pL n):=by
 intro n
 induction n with
 | zero=>
  refine ?_
  ·intro p1 ai ak ao aM bU r h;unfold pL at h;cases h
 | succ n ih=>
  have Kx:=ih
  refine ?_
  ·intro p1 ai ak ao aM bU r h
   unfold pL at h
   refine fL 81 KV ?_
   refine wi (1,2) h (fun h0 h=>?_) fun h0 h=>?_
   ·refine wy (2,5) h (fun _=>aiP) ?_
    rintro⟨x,aC⟩ h
    cases aC
    ·refine wy (4,3) h (fun _=>OR) ?_
     rintro⟨y0,ek⟩ h
     cases h
     exact wL []
    ·cases h
     exact wL []
   ·refine wc (6,2) h (fun _=>aiR) fun av h=>wq h fun h2 h=>wt (7,3) (.mk (bl (List.replicate p1.kids.l.length (0:Int))) true) (Gm (0:Int) h2)<|wg h fun az h3 h=>?_
    have h3:=aiI _ _ _ _ _ _ Kx _ _ _ _ _ _ _ h3
    cases az with
    | e0 ai4 T8 tf cI=>
     refine wo [1,1,1,1,0,1,0] h3<|wg h fun aY h4 h=>?_
     have h4:=aiF _ _ _ _ _ _ _ _ _ _ _ _ h4
     cases aY with
     | e2 HI T9 jU iP=>
      refine wO [1,1,1,1,1,0,1,0] h4<|?_
      cases h
      exact wL []
theorem aiO {n:Nat}{p1:au}{ai:Sl aH}{ak:Sl aO}{ao:Sl bI}{aM bU:Int}{r:Int×Int×Int}(h:pL n p1 ai ak ao aM bU=some r):X.cD 122 [.pt 0 1 0,.c (.agg (EncX.ae p1))] (bm [.x 1 [.c (aq ai),.c (aq ak),.c (aq ao),aa aM,aa bU]]) (aa r.1) (bm [.x 1 [.c (aq ai),.c (aq ak),.c (aq ao),aa r.2.1,aa r.2.2]]):=aiL n p1 ai ak ao aM bU r h
def Hz (n:Nat)(p0:aj)(p1:au):Option (Int×Int×Int):=
 (Hu n p1).bind fun x=>
 if x≠0 then
  some (0,x,0)
 else(OS n p0).bind fun y1=>
 (pL n p1 p0.aw p0.aR y1 0 0).bind fun(aC,y0,ek)=>
 if y0≠0 then
  some (0,y0,ek)
 else some (aC,0,0)
theorem aiE {n:Nat}{p0:aj}{p1:au}{r:Int×Int×Int}(h:Hz n p0 p1=some r):X.bg 100 [.c (.agg (EncX.ae p0)),.c (.agg (EncX.ae p1))] (.aX [aa r.1,aa r.2.1,aa r.2.2]):=by
 refine fC 34 YL ?_
 refine wg h ?_
 rintro x g0 h
 have h0:=aik g0
 refine wt (1,1) (.call (aa x) ⟨[],[]⟩) h0<|wi (2,1) h (fun h1 h=>?_) fun h1 h=>?_
 ·cases h
  exact wC
 ·refine wk (4,1) h (fun _=>aiQ) fun y1 h=>wy (5,2) h (fun _=>aiO) ?_
  rintro⟨aC,y0,ek⟩ h
  refine wi (6,4) h (fun h4 h=>?_) fun h4 h=>?_
  ·cases h
   exact wC
  ·cases h
   exact wC
def jq (n:Nat)(p0:Bool):Option Int:=
 bif p0 then
  some 1
 else some 0
theorem lH {n:Nat}{p0:Bool}{r:Int}(h:jq n p0=some r):X.bg 153 [dB p0] (aa r):=by
 refine fC 4 Y2 ?_
 cases p0
 ·cases h
  exact wC
 ·cases h
  exact wC
def CT (n:Nat)(p0:Int):Option (Int×Bool):=
 if p0=(-9223372036854775808)then
  some (0,false)
 else some ((Go.IntKind.i64.wrap (0 - p0)),true)
theorem aes {n:Nat}{p0:Int}{r:Int×Bool}(h:CT n p0=some r):X.bg 155 [aa p0] (.aX [aa r.1,dB r.2]):=by
 refine fC 8 Y4 ?_
 refine wi (1,1) h (fun h0 h=>?_) fun h0 h=>?_
 ·cases h
  exact wC
 ·cases h
  exact wC
def zw (n:Nat)(p1:Int)(p2:Bool)(ai:Sl aH)(ak:Sl aO)(aM:Bool)(o1:List Int):Option (Int×Bool):=
 bif p2 then
  some (p1,aM)
 else some (0,true)
theorem Pd {n:Nat}{p1:Int}{p2:Bool}{ai:Sl aH}{ak:Sl aO}{aM:Bool}{o1:List Int}{r:Int×Bool}(h:zw n p1 p2 ai ak aM o1=some r):X.cD 154 [.pt 0 1 0,aa p1,dB p2] (bm [.x 1 [.c (aq ai),.c (aq ak),.ms 1 1 0 o1.length 1 true,dB aM],.l 1 o1]) (aa r.1) (bm [.x 1 [.c (aq ai),.c (aq ak),.ms 1 1 0 o1.length 1 true,dB r.2],.l 1 o1]):=by
 refine fL 13 Y3 ?_
 cases p2
 ·cases h
  exact wL []
 ·cases h
  exact wL []
def CW (n:Nat)(p0:Int):Option Int:=
 if p0<0 then
  some (Go.IntKind.u64.wrap (0 - (Go.IntKind.u64.wrap p0)))
 else some (Go.IntKind.u64.wrap p0)
theorem TZ {n:Nat}{p0 r:Int}(h:CW n p0=some r):X.bg 174 [aa p0] (.c (.sc (.int .u64 r))):=by
 refine fC 10 Zi ?_
 refine wi (1,1) h (fun h0 h=>?_) fun h0 h=>?_
 ·cases h
  exact wC
 ·cases h
  exact wC
def K7 (n:Nat)(p0 p1:Int):Option (Int×Int):=
 some ((Go.IntKind.u64.wrap ((Go.IntKind.u64.wrap ((Go.IntKind.u64.wrap ((Int.fdiv p0 (2 ^ (min 32 Go.IntKind.u64.bits))) * (Int.fdiv p1 (2 ^ (min 32 Go.IntKind.u64.bits)))))+(Int.fdiv (Go.IntKind.u64.wrap ((Go.IntKind.u64.wrap ((Int.fdiv p0 (2 ^ (min 32 Go.IntKind.u64.bits))) * (Go.IntKind.u64.wrap (BitVec.ofInt Go.IntKind.u64.bits p1&&& BitVec.ofInt Go.IntKind.u64.bits 4294967295).toNat)))+(Int.fdiv (Go.IntKind.u64.wrap ((Go.IntKind.u64.wrap (BitVec.ofInt Go.IntKind.u64.bits p0&&& BitVec.ofInt Go.IntKind.u64.bits 4294967295).toNat) * (Go.IntKind.u64.wrap (BitVec.ofInt Go.IntKind.u64.bits p1&&& BitVec.ofInt Go.IntKind.u64.bits 4294967295).toNat))) (2 ^ (min 32 Go.IntKind.u64.bits))))) (2 ^ (min 32 Go.IntKind.u64.bits)))))+(Int.fdiv (Go.IntKind.u64.wrap ((Go.IntKind.u64.wrap (BitVec.ofInt Go.IntKind.u64.bits (Go.IntKind.u64.wrap ((Go.IntKind.u64.wrap ((Int.fdiv p0 (2 ^ (min 32 Go.IntKind.u64.bits))) * (Go.IntKind.u64.wrap (BitVec.ofInt Go.IntKind.u64.bits p1&&& BitVec.ofInt Go.IntKind.u64.bits 4294967295).toNat)))+(Int.fdiv (Go.IntKind.u64.wrap ((Go.IntKind.u64.wrap (BitVec.ofInt Go.IntKind.u64.bits p0&&& BitVec.ofInt Go.IntKind.u64.bits 4294967295).toNat) * (Go.IntKind.u64.wrap (BitVec.ofInt Go.IntKind.u64.bits p1&&& BitVec.ofInt Go.IntKind.u64.bits 4294967295).toNat))) (2 ^ (min 32 Go.IntKind.u64.bits)))))&&& BitVec.ofInt Go.IntKind.u64.bits 4294967295).toNat)+(Go.IntKind.u64.wrap ((Go.IntKind.u64.wrap (BitVec.ofInt Go.IntKind.u64.bits p0&&& BitVec.ofInt Go.IntKind.u64.bits 4294967295).toNat) * (Int.fdiv p1 (2 ^ (min 32 Go.IntKind.u64.bits))))))) (2 ^ (min 32 Go.IntKind.u64.bits))))),(Go.IntKind.u64.wrap (p0 * p1)))
theorem ZR {n:Nat}{p0 p1:Int}{r:Int×Int}(h:K7 n p0 p1=some r):X.bg 173 [.c (.sc (.int .u64 p0)),.c (.sc (.int .u64 p1))] (.aX [.c (.sc (.int .u64 r.1)),.c (.sc (.int .u64 r.2))]):=by
 refine fC 51 Zh ?_
 cases h
 exact wC
inductive Gx where
 | m (v8:Bool)
def aen:Gx->Ex
 | .m _=>.normal
def aem (p0 p1:Int):Gx->(Nat->DV)->List Ob->S
 | .m v8,F,G=>⟨fs F [6,7,8] [(8,dB v8)],⟨sl G 0 [],[]⟩⟩
def NA (p0 p1:Int)(n:Nat):Option Gx:=
 if p0<0 then
  if p1<0 then
   some (.m false)
  else some (.m true)
 else if p1<0 then
  some (.m true)
 else some (.m false)
theorem ael (p0 p1:Int)(n:Nat)(o:Gx)(h:NA p0 p1 n=some o):X.JF 156 44 (sub K0 [1,1,0]) [0,1,6,7] 0 [(0,aa p0),(1,aa p1)] [] (aen o) (aem p0 p1 o):=by
 intro F G;refine Sys.dZ (w0 ?_)
 refine wi (2,1) h (fun h0 h=>?_) fun h0 h=>?_
 ·refine wi (2,3) h (fun h1 h=>?_) fun h1 h=>?_
  ·refine wt (2,4) (.op { d:=dB false}) (j6 (P:=X.P) (t:=4) true true (by kernel_rfl) (by kernel_rfl))<|?_
   cases h
   exact wJ
  ·refine wt (2,4) (.op { d:=dB true}) (j6 (P:=X.P) (t:=4) true false (by kernel_rfl) (by kernel_rfl))<|?_
   cases h
   exact wJ
 ·refine wi (2,3) h (fun h1 h=>?_) fun h1 h=>?_
  ·refine wt (2,4) (.op { d:=dB true}) (j6 (P:=X.P) (t:=4) false true (by kernel_rfl) (by kernel_rfl))<|?_
   cases h
   exact wJ
  ·refine wt (2,4) (.op { d:=dB false}) (j6 (P:=X.P) (t:=4) false false (by kernel_rfl) (by kernel_rfl))<|?_
   cases h
   exact wJ
inductive Gy where
 | m (DJ bZ:Bool)
def aeq:Gy->Ex
 | .m _ _=>.normal
def aep (av aK:Int)(v8:Bool):Gy->(Nat->DV)->List Ob->S
 | .m DJ bZ,F,G=>⟨fs F [7,8,22] [(7,.c (.sc (.int .u64 aK))),(8,dB DJ),(22,dB bZ)],⟨sl G 0 [],[]⟩⟩
def NB (av aK:Int)(v8:Bool)(n:Nat):Option Gy:=
 if av≠0 then
  some (.m v8 true)
 else if aK>9223372036854775808 then
  some (.m v8 true)
 else if aK=9223372036854775808 then
  bif v8 then
   some (.m true false)
  else some (.m false true)
 else some (.m v8 false)
theorem aeo (av aK:Int)(v8:Bool)(n:Nat)(o:Gy)(h:NB av aK v8 n=some o):X.JF 156 44 (sub K0 [1,1,1,0,0,0]) [6,7,8] 0 [(6,.c (.sc (.int .u64 av))),(7,.c (.sc (.int .u64 aK))),(8,dB v8)] [] (aeq o) (aep av aK v8 o):=by
 intro F G;refine Sys.dZ (w0 ?_)
 refine wi (3,1) h (fun h0 h=>?_) fun h0 h=>?_
 ·cases h
  exact wJ
 ·refine wi (3,4) h (fun h1 h=>?_) fun h1 h=>?_
  ·cases h
   exact wJ
  ·refine wi (3,8) h (fun h2 h=>?_) fun h2 h=>?_
   ·cases v8
    ·cases h
     exact wJ
    ·cases h
     exact wJ
   ·cases h
    exact wJ
def CS (n:Nat)(p0 p1:Int):Option (Int×Bool):=
 (CW n p0).bind fun x=>
 (CW n p1).bind fun aC=>
 (K7 n x aC).bind fun(av,aK)=>
 (NA p0 p1 n).bind fun az=>match az with
 | .m v8=>
  (NB av aK v8 n).bind fun aY=>match aY with
  | .m dC bZ=>
   bif bZ then
    some (0,false)
   else bif dC then
    some ((Go.IntKind.i64.wrap (Go.IntKind.u64.wrap (0 - aK))),true)
   else some ((Go.IntKind.i64.wrap aK),true)
theorem aer {n:Nat}{p0 p1:Int}{r:Int×Bool}(h:CS n p0 p1=some r):X.bg 156 [aa p0,aa p1] (.aX [aa r.1,dB r.2]):=by
 refine fC 44 K0 ?_
 refine wc (1,1) h (fun _=>TZ) fun x h=>wc (1,3) h (fun _=>TZ) fun aC h=>wc (1,4) h (fun _=>ZR) ?_
 rintro⟨av,aK⟩ h
 refine wg h fun az h3 h=>?_
 have h3:=ael _ _ _ _ h3
 cases az with
 | m v8=>
  refine wV 2 [1,1,0] h3<|wg h fun aY h4 h=>?_
  have h4:=aeo _ _ _ _ _ h4
  cases aY with
  | m dC bZ=>
   refine wV 3 [1,1,1,0,0,0] h4<|?_
   cases bZ
   ·cases dC
    ·cases h
     exact wC
    ·cases h
     exact wC
   ·cases h
    exact wC
def CQ (n:Nat)(p0 p1:Int):Option (Int×Bool):=
 if(Go.IntKind.i64.wrap (BitVec.ofInt Go.IntKind.i64.bits (Go.IntKind.i64.wrap (BitVec.ofInt Go.IntKind.i64.bits p0 ^^^ BitVec.ofInt Go.IntKind.i64.bits (Go.IntKind.i64.wrap (p0+p1))).toNat)&&& BitVec.ofInt Go.IntKind.i64.bits (Go.IntKind.i64.wrap (BitVec.ofInt Go.IntKind.i64.bits p1 ^^^ BitVec.ofInt Go.IntKind.i64.bits (Go.IntKind.i64.wrap (p0+p1))).toNat)).toNat)<0 then
  some (0,false)
 else some ((Go.IntKind.i64.wrap (p0+p1)),true)
theorem aek {n:Nat}{p0 p1:Int}{r:Int×Bool}(h:CQ n p0 p1=some r):X.bg 175 [aa p0,aa p1] (.aX [aa r.1,dB r.2]):=by
 refine fC 19 Zj ?_
 refine wi (2,7) h (fun h0 h=>?_) fun h0 h=>?_
 ·cases h
  exact wC
 ·cases h
  exact wC
def CU (n:Nat)(p0 p1:Int):Option (Int×Bool):=
 if(Go.IntKind.i64.wrap (BitVec.ofInt Go.IntKind.i64.bits (Go.IntKind.i64.wrap (BitVec.ofInt Go.IntKind.i64.bits p0 ^^^ BitVec.ofInt Go.IntKind.i64.bits p1).toNat)&&& BitVec.ofInt Go.IntKind.i64.bits (Go.IntKind.i64.wrap (BitVec.ofInt Go.IntKind.i64.bits p0 ^^^ BitVec.ofInt Go.IntKind.i64.bits (Go.IntKind.i64.wrap (p0 - p1))).toNat)).toNat)<0 then
  some (0,false)
 else some ((Go.IntKind.i64.wrap (p0 - p1)),true)
theorem aet {n:Nat}{p0 p1:Int}{r:Int×Bool}(h:CU n p0 p1=some r):X.bg 176 [aa p0,aa p1] (.aX [aa r.1,dB r.2]):=by
 refine fC 19 Zk ?_
 refine wi (2,7) h (fun h0 h=>?_) fun h0 h=>?_
 ·cases h
  exact wC
 ·cases h
  exact wC
def HK (n:Nat)(p0 p1 p2:Int):Option (Int×Bool):=
 if p0=8 then
  (CQ n p1 p2).bind fun(x,aC)=>
  some (x,aC)
 else if p0=9 then
  (CU n p1 p2).bind fun(av,aK)=>
  some (av,aK)
 else if p0=10 then
  if p1=p2 then
   (jq n true).bind fun aG=>
   some (aG,true)
  else(jq n false).bind fun ba=>
  some (ba,true)
 else if p0=11 then
  if p1≠p2 then
   (jq n true).bind fun ca=>
   some (ca,true)
  else(jq n false).bind fun cm=>
  some (cm,true)
 else if p0=12 then
  if p1<p2 then
   (jq n true).bind fun dV=>
   some (dV,true)
  else(jq n false).bind fun eS=>
  some (eS,true)
 else if p0=13 then
  if p1≤p2 then
   (jq n true).bind fun iY=>
   some (iY,true)
  else(jq n false).bind fun ku=>
  some (ku,true)
 else if p0=14 then
  if p1>p2 then
   (jq n true).bind fun iB=>
   some (iB,true)
  else(jq n false).bind fun iZ=>
  some (iZ,true)
 else if p1≥p2 then
  (jq n true).bind fun ny=>
  some (ny,true)
 else(jq n false).bind fun oG=>
 some (oG,true)
theorem ai8 {n:Nat}{p0 p1 p2:Int}{r:Int×Bool}(h:HK n p0 p1 p2=some r):X.bg 158 [aa p0,aa p1,aa p2] (.aX [aa r.1,dB r.2]):=by
 refine fC 57 Y6 ?_
 refine wi (2,0) h (fun h0 h=>?_) fun h0 h=>?_
 ·refine wc (3,2) h (fun _=>aek) ?_
  rintro⟨x,aC⟩ h
  cases h
  exact wC
 ·refine wi (4,0) h (fun h1 h=>?_) fun h1 h=>?_
  ·refine wc (5,2) h (fun _=>aet) ?_
   rintro⟨av,aK⟩ h
   cases h
   exact wC
  ·refine wi (6,0) h (fun h2 h=>?_) fun h2 h=>?_
   ·refine wi (7,2) h (fun h3 h=>?_) fun h3 h=>?_
    ·refine wc (7,3) h (fun _=>lH) fun aG h=>?_
     cases h
     exact wC
    ·refine wc (7,3) h (fun _=>lH) fun ba h=>?_
     cases h
     exact wC
   ·refine wi (8,0) h (fun h3 h=>?_) fun h3 h=>?_
    ·refine wi (9,2) h (fun h4 h=>?_) fun h4 h=>?_
     ·refine wc (9,3) h (fun _=>lH) fun ca h=>?_
      cases h
      exact wC
     ·refine wc (9,3) h (fun _=>lH) fun cm h=>?_
      cases h
      exact wC
    ·refine wi (10,0) h (fun h4 h=>?_) fun h4 h=>?_
     ·refine wi (11,2) h (fun h5 h=>?_) fun h5 h=>?_
      ·refine wc (11,3) h (fun _=>lH) fun dV h=>?_
       cases h
       exact wC
      ·refine wc (11,3) h (fun _=>lH) fun eS h=>?_
       cases h
       exact wC
     ·refine wi (12,0) h (fun h5 h=>?_) fun h5 h=>?_
      ·refine wi (13,2) h (fun h6 h=>?_) fun h6 h=>?_
       ·refine wc (13,3) h (fun _=>lH) fun iY h=>?_
        cases h
        exact wC
       ·refine wc (13,3) h (fun _=>lH) fun ku h=>?_
        cases h
        exact wC
      ·refine wi (14,0) h (fun h6 h=>?_) fun h6 h=>?_
       ·refine wi (15,2) h (fun h7 h=>?_) fun h7 h=>?_
        ·refine wc (15,3) h (fun _=>lH) fun iB h=>?_
         cases h
         exact wC
        ·refine wc (15,3) h (fun _=>lH) fun iZ h=>?_
         cases h
         exact wC
       ·refine wi (16,2) h (fun h7 h=>?_) fun h7 h=>?_
        ·refine wc (16,3) h (fun _=>lH) fun ny h=>?_
         cases h
         exact wC
        ·refine wc (16,3) h (fun _=>lH) fun oG h=>?_
         cases h
         exact wC
end Go.Vig
