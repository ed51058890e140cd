/-
  Part of the proof: printed by the session's own program out of the program's form, or typed; it states no claim by itself.
-/
import Derived.Test.YtpadajnejknkeaaGreatBb
set_option linter.unusedVariables false
set_option linter.unusedSectionVars false
namespace Go.Abs
open Go
variable [Fl]
def za (st:List Ob):Option (Nat×Ob)->List Ob
 | some (id,o)=>st.set id o
 | none=>st
def eU (P:Program)(o:Oper)(a:Act)(w:World)(v:Value)(w':World):Prop:=
 (execOp a.eval o).run P w= .ok (.value v) w'∨((execOp a.eval o).run P w= .ok .skip w'∧v=undef)
structure e7 (P:Program)(n0:Nat)(PR:Addr->Prop)(e:E)(al:Own->Addr->Prop)(o:Oper)(a:Act)(r:Out)(v:Value)(e':E)(reg':Own->Addr->Prop):Prop where
 run:eU P o a e.w v e'.w
 st:(e'.st,e'.la)=(za e.st r.set,e.la)
 mi:MI n0 PR e' reg'
 ext:Ext e e'
 bp:cS n0 PR (fun _=>False) e.w e'.w
 res:RD e' (reg' .res) r.d v
 slot:∀t,t ∉ r.drop->∀x,al (.slot t) x->reg' (.slot t) x
section
variable {P:Program}{n0:Nat}{PR:Addr->Prop}{e:E}{al:Own->Addr->Prop}{fr:Nat->DV}{tm:Array Value}{df:List Deferred}
theorem k9 (m:MI n0 PR e al){o:Oper}{a:Act}{d:DV}{sm:Sem Value}(hg:kx P e sm d)(hx:execOp a.eval o=do pure (.value (←sm))):
  ∃v e' reg',e7 P n0 PR e al o a { d} v e' reg':=by
 obtain⟨u,hu,hr⟩:=hg
 exact⟨u,e,al,.inl (by rw[hx];simp[hu]),rfl,m,Ext.refl e,cS.refl ..,hr _,fun _ _ _ h=>h⟩
theorem cn {d:Option DV}{r:Out}(h:val d=some r):∃x,d=some x∧r={ d:=x}:=by
 unfold val at h
 rw[Option.map_eq_some_iff]at h
 obtain⟨x,hx,rfl⟩:=h
 exact⟨x,hx,rfl⟩
theorem Sj {sm:Sem Value}{d:DV}{v:Value}(h:sm.run P e.w= .ok v e.w)(r:∀s,RD e s d v):kx P e sm d:=⟨v,h,r⟩
theorem RO.of {fr:Nat->DV}{a:Act}(h:∀x,∃s,RD e s (ev fr x) (a.eval x))(x:Option Operand):RO e (x.map (ev fr)) (x.map a.eval):=by
 cases x with
 | none=>trivial
 | some x=>exact h x
theorem uQ {fr:Nat->DV}{a:Act}(h:∀x s,RD e s (ev fr x) (a.eval x)):∀(xs:List Operand),bd e (ka fr xs) (xs.map a.eval)
 | []=>.nil
 | x::xs=>.cons (h x _) (uQ h xs)
theorem vr {st:List Ob}{id:Nat}{ds:List DV}{x:Nat×Ob}(hl:lay st id ds=some x):x=(id,⟨x.2.ver,ds⟩)∧id<st.length∧∃o0,st[id]? =some o0∧o0.ver<x.2.ver:=by
 unfold lay at hl
 split at hl
 ·rename_i o0 ho
  cases hl
  exact⟨rfl,(List.getElem?_eq_some_iff.1 ho).1,o0,ho,Nat.lt_succ_self _⟩
 ·cases hl
theorem LG (m:MI n0 PR e al){o:Oper}{a:Act}{id:Nat}{ds:List DV}{x:Nat×Ob}{us:List Value}{T:TypeId}{d:DV}{v:Value}(hl:lay e.st id ds=some x)(hr:bd e ds us)(hk:ds.all bG=true)
  (dJ:(execOp a.eval o).run P e.w= .ok (.value v) (e.w.alloc (.cells ⟨us⟩ T)))
  (hd:∀e':E,e'.st=e.st.set id ⟨x.2.ver,ds⟩->e'.io id=⟨e.w.heap.size,0,us.length⟩->∀s,RD e' s d v):∃v e' reg',e7 P n0 PR e al o a { d,set:=some x} v e' reg':=by
 obtain⟨hx,aQ,o0,ho,hv⟩:=vr hl
 obtain⟨h1,h2⟩:=m.NK (o':=⟨x.2.ver,ds⟩) ho hv us T (fun _ _ h=>h) hr hk
 refine⟨v,_,_,.inl dJ,?_,h1,h2,sn _ m.dz m.dN _,hd _ rfl (fJ _ _ _) _,fun t _ x hx=>hx⟩
 rw[hx];rfl
theorem Uv {e':E}{id ver:Nat}{ds:List DV}{n k:Nat}(h0:id<e'.st.length)(h1:e'.st[id]? =some ⟨ver,ds⟩)(h2:e'.io id=⟨n,0,k⟩)(s:Addr->Prop):RD e' s (.pt id ver 0) (.pointer (some ⟨n,0,none⟩)):=
 .pt h0 fun o ho=>by rw[h1]at ho;cases ho;exact⟨Nat.le_refl _,fun _=>by rw[h2];rfl⟩
theorem Nq {e':E}{id ver:Nat}{ds:List DV}{n k len cap aV:Nat}{x:Bool}(h0:id<e'.st.length)(h1:e'.st[id]? =some ⟨ver,ds⟩)(h2:e'.io id=⟨n,0,k⟩)(hl:len≤cap)(hx:x=true->cap=len)(hk:cap * aV≤k)(s:Addr->Prop):
  RD e' s (.ms id ver 0 len aV x) (.slice (some ⟨n,0,none⟩) len cap):=
 .ms h0 hl hx fun o ho=>by rw[h1]at ho;cases ho;exact⟨Nat.le_refl _,fun _=>⟨.inr (by rw[h2];rfl),by rw[h2];simpa using hk⟩⟩
theorem De {st:List Ob}{id:Nat}{o:Ob}(h:id<st.length):(st.set id o)[id]? =some o:=by simp[h]
theorem NC {s:Addr->Prop}{d:DV}{v:Value}(aV:Nat)(h:RD e s d v):RD e s (kO aV d) v:=by
 unfold kO
 split
 ·cases h with
  | c h=>
   cases h with
   | nil=>exact .iE
 ·exact h
theorem aeu {s:Addr->Prop}{d:DV}{v:Value}(nz:List (Nat×Nat))(h:RD e s d v):RD e s (CX nz d) v:=by
 unfold CX
 split
 ·exact NC _ h
 ·exact h
theorem T2 (aV:Nat){d:DV}(h:bG d=true):bG (kO aV d)=true:=by
 unfold kO
 split
 ·rfl
 ·exact h
theorem T4:∀(nz:List (Nat×Nat)) (cs:List DV),(gq nz cs).length=cs.length
 | [],_=>rfl
 | (i,aV)::nz,cs=>by
  simp only[gq]
  rw[T4 nz]
  cases cs[i]? <;>simp
theorem aev (e e':Nat)(d:DV):kO e (kO e' d)=kO e' d∨kO e (kO e' d)=kO e d:=by
 by_cases h:d= .c (.sl true true [] 0)
 ·subst h;exact .inl rfl
 ·have:kO e' d=d:=by
   unfold kO
   split
   ·exact absurd rfl h
   ·rfl
  exact .inr (by rw[this])
theorem T3:∀(nz:List (Nat×Nat)) (cs:List DV) (i:Nat) (d:DV),(gq nz cs)[i]? =some d->∃d0,cs[i]? =some d0∧(d=d0∨∃aV,d=kO aV d0)
 | [],cs,i,d,h=>⟨d,h,.inl rfl⟩
 | (j,aV)::nz,cs,i,d,h=>by
  simp only[gq]at h
  obtain⟨d1,h1,hc⟩:=T3 nz _ i d h
  cases hj:cs[j]? with
  | none=>rw[hj]at h1;exact⟨d1,h1,hc⟩
  | some dj=>
   rw[hj]at h1
   simp only[List.getElem?_set]at h1
   split at h1
   ·rename_i bM
    subst bM
    split at h1
    ·cases h1
     refine⟨dj,hj,?_⟩
     rcases hc with rfl | ⟨e2,rfl⟩
     ·exact .inr ⟨aV,rfl⟩
     ·rcases aev e2 aV dj with h2 | h2
      ·exact .inr ⟨aV,h2⟩
      ·exact .inr ⟨e2,h2⟩
    ·cases h1
   ·exact⟨d1,h1,hc⟩
theorem Gz:∀(nz:List (Nat×Nat)) {ds:List DV}{vs:List Value},bd e ds vs->ds.all bG=true->bd e (gq nz ds) vs∧(gq nz ds).all bG=true
 | [],ds,vs,h,hk=>⟨h,hk⟩
 | (i,aV)::nz,ds,vs,h,hk=>by
  simp only[gq]
  cases hd:ds[i]? with
  | none=>exact Gz nz h hk
  | some d=>
   obtain⟨v,hv,hr⟩:=h.get hd
   have hi:i<ds.length:=(List.getElem?_eq_some_iff.1 hd).1
   refine Gz nz (bd.C0 (by simp[h.length]) fun j c u hc hu=>?_) ?_
   ·rw[List.getElem?_set]at hc
    split at hc
    ·rename_i BT
     subst BT
     cases hc
     rw[hv]at hu;cases hu
     exact NC aV hr
    ·obtain⟨w,hw,fc⟩:=h.get hc
     rw[hw]at hu;cases hu;exact fc
   ·rw[List.all_eq_true]at hk ⊢
    intro c hc
    rcases List.mem_or_eq_of_mem_set hc with hc | rfl
    ·exact hk c hc
    ·exact T2 aV (hk d (List.mem_of_getElem? hd))
theorem Yi (m:MI n0 PR e al){o:Oper}{t:TypeId}(ho:o.op= .alloc t){a:Act}{id:Nat}{nz:List (Nat×Nat)}{r:Out}(h:((rZ P t).bind fun cs=>(lay e.st id (gq nz cs)).map fun x=>({ d:=.pt id x.2.ver 0,set:=some x}:Out))=some r):
  ∃v e' reg',e7 P n0 PR e al o a r v e' reg':=by
 rw[Option.bind_eq_some_iff]at h
 obtain⟨cs,cO,h⟩:=h
 rw[Option.map_eq_some_iff]at h
 obtain⟨x,hx,rfl⟩:=h
 obtain⟨z,hz,⟨vs,hv,hr⟩,hk⟩:=AN (e:=e) cO e.w
 obtain⟨_,aQ,_⟩:=vr hx
 obtain⟨hr,hk⟩:=Gz nz hr hk
 refine LG m hx hr hk (T:=t) (v:=.pointer (some ⟨e.w.heap.size,0,none⟩)) ?_ (fun e' h1 h2 s=>Uv (by rw[h1];simpa using aQ) (by rw[h1];exact De aQ) h2 s)
 simp[execOp,ho,Instr.alloc,hz,newVar,newRow,hv]
theorem ZU (m:MI n0 PR e al){o:Oper}{t:TypeId}{x:Operand}(ho:o.op= .box t x){a:Act}(bB:∀x s,RD e s (ev fr x) (a.eval x)){id:Nat}{nz:List (Nat×Nat)}{r:Out}
  (h:((cellsOf (ev fr x)).bind fun cs=>(lay e.st id (gq nz cs)).map fun x=>({ d:=.pt id x.2.ver 0,set:=some x}:Out))=some r):∃v e' reg',e7 P n0 PR e al o a r v e' reg':=by
 rw[Option.bind_eq_some_iff]at h
 obtain⟨cs,cO,h⟩:=h
 rw[Option.map_eq_some_iff]at h
 obtain⟨y,hy,rfl⟩:=h
 obtain⟨hk,us,hu,hr⟩:=Lg (Bl fr x) cO (bB x (fun _=>False))
 obtain⟨_,aQ,_⟩:=vr hy
 obtain⟨hr,hk⟩:=Gz nz hr hk
 refine LG m hy hr hk (T:=t) (v:=.pointer (some ⟨e.w.heap.size,0,none⟩)) ?_ (fun e' h1 h2 s=>Uv (by rw[h1];simpa using aQ) (by rw[h1];exact De aQ) h2 s)
 simp[execOp,ho,Instr.box,newVar,newRow,hu]
theorem Da {z:List DV}{zv:List Value}(h:bd e z zv)(n:Nat):bd e (jV n z) (List.replicate n zv).flatten:=by
 unfold jV
 induction n with
 | zero=>exact .nil
 | succ n ih=>simp only[List.replicate_succ,List.flatten_cons];exact h.append ih
theorem GH {z:List DV}(h:z.all bG=true)(n:Nat):(jV n z).all bG=true:=by
 unfold jV
 rw[List.all_eq_true]at h ⊢
 intro x hx
 obtain⟨l,hl,hx⟩:=List.mem_flatten.1 hx
 rw[(List.mem_replicate.1 hl).2]at hx
 exact h x hx
theorem L1 (zv:List Value)(n:Nat):∀i,i<n * zv.length->(List.replicate n zv).flatten[i]? =some (zv[i % zv.length]!):=by
 induction n with
 | zero=>intro i hi;simp at hi
 | succ n ih=>
  intro i hi
  simp only[List.replicate_succ,List.flatten_cons]
  rcases Nat.lt_or_ge i zv.length with h | h
  ·rw[List.getElem?_append_left h,Nat.mod_eq_of_lt h];simp[h]
  ·rw[List.getElem?_append_right h,ih (i - zv.length) (by rw[Nat.add_mul]at hi;omega),Nat.mod_eq_sub_mod h]
theorem P7 (zv:List Value)(k n:Nat)(hl:zv.length=k):((Array.range (n * k)).map (fun x=>(⟨zv⟩:Array Value)[x % (⟨zv⟩:Array Value).size]!))=⟨(List.replicate n zv).flatten⟩:=by
 apply Array.ext'
 apply List.ext_getElem?
 intro i
 simp only[Array.toList_map,Array.toList_range,List.getElem?_map]
 rcases Nat.lt_or_ge i (n * k)with h | h
 ·rw[List.getElem?_range h,L1 zv n i (by rw[hl];exact h)]
  simp
 ·rw[List.getElem?_eq_none (by simpa using h),List.getElem?_eq_none (by simp[hl];exact h)]
  rfl
theorem ZW (m:MI n0 PR e al){o:Oper}{t:TypeId}{ps:Array (Nat×Operand)}(ho:o.op= .build t ps){a:Act}(bB:∀x s,RD e s (ev fr x) (a.eval x)){c:Site}{r:Out}
  (h:aI P c (.build t ps) fr e.st=some r):∃v e' reg',e7 P n0 PR e al o a r v e' reg':=by
 have pe:=qk.of (fr:=fr) (a:=a) (fun x=>⟨_,bB x (fun _=>False)⟩) ps.toList
 simp only[aI]at h
 split at h
 ·rename_i fs z hu hz
  split at h
  ·rename_i gJ
   obtain⟨x,hx,rfl⟩:=cn h
   rw[Option.map_eq_some_iff]at hx
   obtain⟨cs,cO,rfl⟩:=hx
   obtain⟨zv,qX,⟨vs,hv,hr⟩,gM⟩:=AN (e:=e) hz e.w
   obtain⟨m5,ws,hw,kJ⟩:=Fj pe cO gM hr
   have cc:∀f∈fs.toList,∃k,cJ P f.type=some k:=fun f hf=>by
    have:=(List.all_eq_true.1 gJ) f hf
    exact Option.isSome_iff_exists.1 this
   obtain⟨pl,p1,p2,p3⟩:=adJ (w:=e.w) cc
   have qM:(fun(i:Nat)=>(fs[i]?).bind fun(fd:Field)=>(cJ P fd.type).map fun k=>(fd.offset,k))=fun i=>(⟨pl⟩:Array (Nat×Nat))[i]? :=by
    funext i
    cases hf:fs[i]? with
    | none=>
     have:pl.length≤i:=by rw[p2];simpa using hf
     simp[this]
    | some fd=>
     obtain⟨k,hk⟩:=cc fd (by have:=Array.mem_of_getElem? hf;simpa using this)
     have:=p3 i fd k (by simpa using hf) hk
     simp[hk,this]
   rw[qM]at hw
   refine k9 m (sm:=Instr.build t (ps.map fun(i,x)=>(i,a.eval x))) (Sj (v:=.agg ⟨ws⟩) ?_ fun s=>Gj m5 kJ.w) (by simp[execOp,ho])
   have vn:Instr.fill (fun i=>(⟨pl⟩:Array (Nat×Nat))[i]?) ⟨vs⟩ (ps.map fun(i,x)=>(i,a.eval x)).toList=some ⟨ws⟩:=by simpa using hw
   simp only[Instr.build,Sem.run_bind,qX,Result.andThen_ok,run_underlying hu,hv,Array.mapM_eq_mapM_toList,Sem.run_map,p1]
   rw[show(pl.toArray)=⟨pl⟩ from rfl,vn]
   rfl
  ·cases h
 ·rename_i n el z hu hz
  split at h
  ·rename_i k hk
   obtain⟨x,hx,rfl⟩:=cn h
   rw[Option.map_eq_some_iff]at hx
   obtain⟨cs,cO,rfl⟩:=hx
   obtain⟨zv,qX,⟨vs,hv,hr⟩,gM⟩:=AN (e:=e) hz e.w
   obtain⟨m5,ws,hw,kJ⟩:=Fj pe cO gM hr
   refine k9 m (sm:=Instr.build t (ps.map fun(i,x)=>(i,a.eval x))) (Sj (v:=.agg ⟨ws⟩) ?_ fun s=>Gj m5 kJ.w) (by simp[execOp,ho])
   have vn:Instr.fill (fun i=>some (i * k,k)) ⟨vs⟩ (ps.map fun(i,x)=>(i,a.eval x)).toList=some ⟨ws⟩:=by simpa using hw
   simp only[Instr.build,Sem.run_bind,qX,Result.andThen_ok,run_underlying hu,fp hk,hv,vn,Sem.run_pure]
  ·cases h
 ·cases h
theorem ZV (m:MI n0 PR e al)(bt:∀a,¬al .res a){o:Oper}{t:TypeId}{n:Nat}{ps:Array (Nat×Operand)}(ho:o.op= .buildSlice t n ps){a:Act}(bB:∀x s,RD e s (ev fr x) (a.eval x)){c:Site}{r:Out}
  (h:aI P c (.buildSlice t n ps) fr e.st=some r):∃v e' reg',e7 P n0 PR e al o a r v e' reg':=by
 have pe:=qk.of (fr:=fr) (a:=a) (fun x=>⟨_,bB x (fun _=>False)⟩) ps.toList
 simp only[aI]at h
 split at h
 ·rename_i el hu
  split at h
  ·rename_i k z hk hz
   split at h
   ·cases h
   ·rename_i ec
    obtain⟨zv,qX,⟨zs,hv,hr⟩,gM⟩:=AN (e:=e) hz e.w
    have mc:zs.length=k:=by rw[←hr.length];omega
    split at h
    ·cases h
    ·rename_i cs cO
     obtain⟨m5,ws,hw,kJ⟩:=Fj pe cO (GH gM n) (Da hr n)
     have Cm:ws.length=n * k:=by
      have h1:=kJ.length
      have:cs.length=(jV n z).length:=by
       have key:∀(ps:List (Nat×DV)) (c0 r:List DV) (pl:Nat->Option (Nat×Nat)),oY pl c0 ps=some r->r.length=c0.length:=fun ps=>by
        induction ps with
        | nil=>intro c0 r pl hh;simp only[oY]at hh;cases hh;rfl
        | cons p ps ih=>
         intro c0 r pl hh
         obtain⟨i,d⟩:=p
         simp only[oY]at hh
         split at hh
         ·split at hh
          ·rw[ih _ _ _ hh,N4]
          ·cases hh
         ·cases hh
       exact key _ _ _ _ cO
      rw[←h1,this]
      have h3:=(Da hr n).length
      rw[h3]
      simp[mc]
     have dJ:(execOp a.eval o).run P e.w= .ok (.value (.slice (some ⟨e.w.heap.size,0,none⟩) n n)) (e.w.alloc (.cells ⟨ws⟩ el)):=by
      have vn:Instr.fill (fun i=>some (i * k,k)) ⟨(List.replicate n zs).flatten⟩ (ps.map fun(i,x)=>(i,a.eval x)).toList=some ⟨ws⟩:=by simpa using hw
      have hle:¬(n * k>2 ^ 24):=by omega
      simp only[execOp,ho,Sem.run_bind,Instr.buildSlice,run_underlying hu,Result.andThen_ok,fp hk,if_neg hle,Sem.run_pure]
      by_cases h0:n * k=0
      ·have FY:(List.replicate n zs).flatten=[]:=by
        apply List.eq_nil_of_length_eq_zero
        simp[mc,h0]
       rw[FY]at vn
       have MS:(Array.map (fun x=>(#[]:Array Value)[x % (#[]:Array Value).size]!) (Array.range (n * k)))=⟨[]⟩:=by simp[h0]
       rw[if_pos h0]
       simp only[Sem.run_bind,Sem.run_pure,Result.andThen_ok,MS,vn]
       simp[newRow]
      ·rw[if_neg h0]
       simp only[Sem.run_bind,qX,Result.andThen_ok,Sem.run_pure,hv,P7 zs k n mc,vn]
       simp[newRow]
     split at h
     ·rw[Option.map_eq_some_iff]at h
      obtain⟨x,hx,rfl⟩:=h
      obtain⟨_,aQ,_⟩:=vr hx
      exact LG m hx kJ m5 (T:=el) dJ (fun e' h1 h2 s=>Nq (by rw[h1];simpa using aQ) (by rw[h1];exact De aQ) h2 (Nat.le_refl _) (fun _=>rfl) (by omega) s)
     ·rw[Option.map_eq_some_iff]at h
      obtain⟨cv,Md,rfl⟩:=h
      obtain⟨h1,h2⟩:=m.MY bt ws el ws.length
      refine⟨_,{ e with w:=e.w.alloc (.cells ⟨ws⟩ el),im:=fun a=>e.im a∨∃i,i<ws.length∧a=⟨e.w.heap.size,i,none⟩},_,.inl dJ,rfl,h1,h2,sn _ m.dz m.dN _,?_,fun t _ x hx=>hx⟩
      have qN:bh e.im e.w cv ws:=uG Md m5 kJ.w
      have eH:∀(i:Nat) v,ws[i]? =some v->(e.w.alloc (.cells ⟨ws⟩ el)).cell? ⟨e.w.heap.size,0+i,none⟩=some v∧(e.im ⟨e.w.heap.size,0+i,none⟩∨∃i',i'<ws.length∧(⟨e.w.heap.size,0+i,none⟩:Addr)=⟨e.w.heap.size,i',none⟩):=fun i v hv=>by
       have aQ:i<ws.length:=(List.getElem?_eq_some_iff.1 hv).1
       rw[Nat.zero_add]
       exact⟨by rw[uv];exact hv,.inr ⟨i,aQ,rfl⟩⟩
      show RD _ _ (if c.nz.isEmpty=true then _ else _) _
      by_cases FN:c.nz.isEmpty=true
      ·rw[if_pos FN]
       refine .c (.sl (qN.mono h2.im h2.cell) (fun i v hv=>?_) (Nat.le_refl _) (fun _=>rfl))
       rw[CN]
       exact eH i v hv
      ·rw[if_neg FN]
       exact .ap (qN.mono h2.im h2.cell) eH (Nat.le_refl _) (by rw[qN.length];omega) (fun i h1 h2=>by omega)
  ·cases h
 ·cases h
theorem adH (m:MI n0 PR e al)(bt:∀a,¬al .res a){o:Oper}{t:TypeId}{l cp:Operand}(ho:o.op= .makeSlice t l cp){a:Act}(bB:∀x s,RD e s (ev fr x) (a.eval x)){c:Site}{r:Out}
  (h:aI P c (.makeSlice t l cp) fr e.st=some r):∃v e' reg',e7 P n0 PR e al o a r v e' reg':=by
 simp only[aI]at h
 split at h
 ·rename_i el hu
  split at h
  ·rename_i i z l' je hi hz hl nS
   split at h
   ·rename_i ec
    obtain⟨c1,c2,c3,c4,c5⟩:=ec
    obtain⟨kl,iN⟩:=Cv hl (bB l (fun _=>False))
    obtain⟨kc,hvc⟩:=Cv nS (bB cp (fun _=>False))
    obtain⟨zv,qX,⟨zs,hv,hr⟩,gM⟩:=AN (e:=e) hz e.w
    have mc:zs.length=i.size:=by rw[←hr.length];exact c5
    have cc:cJ P el=some i.size:=by simp[cJ,hi]
    have w1:IntKind.i64.wrap l'=l':=by simp[IntKind.wrap_i64];omega
    have w2:IntKind.i64.wrap je=je:=by simp[IntKind.wrap_i64];omega
    have dJ:(execOp a.eval o).run P e.w= .ok (.value (.slice (some ⟨e.w.heap.size,0,none⟩) l'.toNat je.toNat)) (e.w.alloc (.cells ⟨(List.replicate je.toNat zs).flatten⟩ el)):=by
     simp only[execOp,ho,Sem.run_bind,Instr.makeSlice,run_underlying hu,Result.andThen_ok,iN,hvc,asInt,asIntOf,Sem.run_pure,typeInfo,run_program,hi,w1,w2]
     have t1:¬((decide (je<0) || decide ((i.bytes:Int) * je>2 ^ 48) || decide (l'<0) || decide (l'>je))=true):=by simp;omega
     rw[if_neg t1]
     simp only[Sem.run_bind,run_askRoom,Result.andThen_ok,fp cc]
     by_cases h0:je.toNat * i.size=0
     ·rw[if_pos h0]
      have FY:(List.replicate je.toNat zs).flatten=[]:=by
       apply List.eq_nil_of_length_eq_zero
       simp[mc,h0]
      have MS:(Array.map (fun x=>(#[]:Array Value)[x % (#[]:Array Value).size]!) (Array.range (je.toNat * i.size)))=⟨[]⟩:=by simp[h0]
      simp only[Sem.run_bind,Sem.run_pure,Result.andThen_ok,MS,FY]
      simp[newRow]
     ·rw[if_neg h0]
      simp only[Sem.run_bind,qX,Result.andThen_ok,Sem.run_pure,hv,P7 zs i.size je.toNat mc]
      simp[newRow]
    have B9:∀(j:Nat) v,(List.replicate l'.toNat zs).flatten[j]? =some v->(List.replicate je.toNat zs).flatten[j]? =some v:=fun j v hj=>by
     have SU:j<l'.toNat * zs.length:=by have:=(List.getElem?_eq_some_iff.1 hj).1;simpa using this
     rw[L1 zs _ j SU]at hj
     rw[L1 zs _ j (Nat.lt_of_lt_of_le SU (Nat.mul_le_mul_right _ (by omega)))];exact hj
    split at h
    ·split at h
     ·rename_i BY
      rw[Option.map_eq_some_iff]at h
      obtain⟨cv,Md,rfl⟩:=h
      obtain⟨g1,g2⟩:=m.MY bt (List.replicate je.toNat zs).flatten el (List.replicate je.toNat zs).flatten.length
      refine⟨_,{ e with w:=e.w.alloc (.cells ⟨(List.replicate je.toNat zs).flatten⟩ el),im:=fun a=>e.im a∨∃i,i<(List.replicate je.toNat zs).flatten.length∧a=⟨e.w.heap.size,i,none⟩},_,.inl dJ,rfl,g1,g2,sn _ m.dz m.dN _,?_,fun t _ x hx=>hx⟩
      subst BY
      have qN:bh e.im e.w cv (List.replicate l'.toNat zs).flatten:=uG Md (GH gM _) (Da hr _).w
      refine .c (.sl (qN.mono g2.im g2.cell) (fun i v hv=>?_) (Nat.le_refl _) (fun _=>rfl))
      rw[CN,Nat.zero_add]
      exact⟨by rw[uv];exact hv,.inr ⟨i,(List.getElem?_eq_some_iff.1 hv).1,rfl⟩⟩
     ·cases h
    rw[Option.map_eq_some_iff]at h
    obtain⟨x,hx,rfl⟩:=h
    obtain⟨bN,aQ,o0,MA,yo⟩:=vr hx
    obtain⟨g1,g2⟩:=m.NK (o':=⟨x.2.ver,jV l'.toNat z⟩) MA yo (List.replicate je.toNat zs).flatten el B9 (Da hr _) (GH gM _)
    refine⟨_,_,_,.inl dJ,(by rw[bN];rfl),g1,g2,sn _ m.dz m.dN _,?_,fun t _ x hx=>hx⟩
    refine Nq (ds:=jV l'.toNat z) (n:=e.w.heap.size) (k:=(List.replicate je.toNat zs).flatten.length) (by simpa using aQ) (De aQ) (fJ _ _ _) (by omega) (fun hh=>by simp at hh;omega) (by simp[mc]) _
   ·cases h
  ·cases h
 ·cases h
end
end Go.Abs
namespace Go.Abs
open Go
variable [Fl]
section
variable {P:Program}{n0:Nat}{PR:Addr->Prop}{e:E}{al:Own->Addr->Prop}{fr:Nat->DV}{tm:Array Value}{df:List Deferred}
theorem YJ {f:Fp}{i j:Nat}(h:f.at i=f.at j):i=j:=by unfold Fp.at at h;injection h with _ h _;omega
theorem MI.write (m:MI n0 PR e al){id:Nat}{o:Ob}(ho:e.st[id]? =some o){off:Nat}{ds:List DV}{us:List Value}(hl:ds.length=us.length)(hk:ds.all bG=true)(acm:off+ds.length≤o.cs.length)
  {w':World} (hw:Wr e.w w' (fun a=>∃j,j<us.length∧a=(e.io id).at (off+j))) (eH:∀(j:Nat) v,us[j]? =some v->w'.cell? ((e.io id).at (off+j))=some v)
  {q:Own->Addr->Prop} (qa:∀p a,q p a->∃p',al p' a) (qd:∀p p' a,q p a->q p' a->p=p') (qo:∀j a,al (.ob j) a->q (.ob j) a)
  (qc:∀j i a,¬(j=id∧off≤i∧i<off+ds.length)->al (.cell j i) a->q (.cell j i) a)
  (hr:∀(i:Nat) d v,ds[i]? =some d->us[i]? =some v->RD e (q (.cell id (off+i))) d v):
  MI n0 PR { e with w:=w',st:=e.st.set id ⟨o.ver,cT o.cs off ds⟩,io:=eh e.io id (e.io id)} q∧Ext e { e with w:=w',st:=e.st.set id ⟨o.ver,cT o.cs off ds⟩,io:=eh e.io id (e.io id)}:=by
 have BN:=m.ext id o ho
 refine m.obj ho hw (fun a ⟨j,hj,ha⟩=>by rw[ha];exact m.own id o ho _ (by omega)) (fun a ⟨j,hj,ha⟩=>by rw[ha];exact⟨us[j],eH j _ (List.getElem?_eq_getElem hj)⟩) qa qd (fun j hj a=>qo j a) (fun j hj i a=>qc j i a (fun h=>hj h.1))
  (fun i hi=>qo id _ (m.own id o ho i hi)) (by rw[N4];exact BN) ⟨Nat.le_refl _,fun _=>rfl⟩ (fun i d hd=>?_)
 by_cases hin:off≤i∧i<off+ds.length
 ·obtain⟨j,rfl⟩:∃j,i=off+j:=⟨i - off,by omega⟩
  have hj:j<ds.length:=by omega
  have SD:ds[j]? =some d:=by rw[←N3 o.cs off ds j acm hj];exact hd
  have Ta:us[j]? =some (us[j]'(by omega)):=List.getElem?_eq_getElem (by omega)
  exact⟨(List.all_eq_true.1 hk) d (List.mem_of_getElem? SD),_,eH j _ Ta,hr j d _ SD Ta⟩
 ·have eO:o.cs[i]? =some d:=by rw[←N5 o.cs off ds i (by omega)];exact hd
  obtain⟨h1,v,h2,h3⟩:=m.cell id o ho i d eO
  refine⟨h1,v,(hw.cell _ ?_).trans h2,h3.fV (fun a ha=>qc id i a (fun h=>hin h.2) ha)⟩
  rintro⟨j,hj,hh⟩
  have:=YJ hh
  omega
theorem ah3 {t:TypeId}{f:Fp}{off k:Nat}{v:Value}{us:List Value}{w:World}(cc:cJ P t=some k)(hv:v.cells=⟨us⟩)(hl:us.length=k)(h1:∀u∈us,u.oneCell'=true)
  (h2:∀j,j<us.length->(∃v,w.cell? (f.at (off+j))=some v)∧w.frozen? (f.at (off+j))=false):
  ∃w',(Instr.storeAt t (.pointer (some (f.at off))) v).run P w= .ok () w'∧Wr w w' (fun a=>∃j,j<us.length∧a=f.at (off+j))∧∀(j:Nat) u,us[j]? =some u->w'.cell? (f.at (off+j))=some u:=by
 obtain⟨w',r1,r2,r3⟩:=zd (P:=P) f.b (f.off+off) us 0 w h1 (fun j hj=>by have:=h2 j hj;simpa[Fp.at,Nat.add_assoc]using this)
 refine⟨w',?_,by simpa[Fp.at,Nat.add_assoc]using r2,fun j u hu=>by have:=r3 j u hu;simpa[Fp.at,Nat.add_assoc]using this⟩
 have bw:¬((⟨us⟩:Array Value).size≠k):=by simp[hl]
 simp only[Instr.storeAt,Instr.sureAddr,pure_bind,storeVar,Sem.run_bind,fp cc,Result.andThen_ok,hv,if_neg bw]
 exact r1
theorem Hp {st:List Ob}{t:TypeId}{x v:DV}{y:Nat×Ob}(h:gS P st t x v=some y):
  ∃id ver off vs k o,x= .pt id ver off∧cellsOf v=some vs∧cJ P t=some k∧st[id]? =some o∧o.ver=ver∧vs.length=k∧off+k≤o.cs.length∧y=(id,⟨ver,cT o.cs off vs⟩):=by
 unfold gS at h
 split at h
 ·rename_i id ver off vs k hc hs
  split at h
  ·rename_i o ho
   split at h
   ·rename_i hh
    cases h
    obtain⟨h1,h2⟩:=mY ho
    exact⟨id,ver,off,vs,k,o,rfl,hc,hs,h1,h2,hh.1,hh.2,rfl⟩
   ·cases h
  ·cases h
 ·cases h
theorem ah5 (m:MI n0 PR e al){o:Oper}{t:TypeId}{x y:Operand}(ho:o.op= .store t x y)(hf:∀t,RD e (al (.slot t)) (fr t) (tm.getD t undef)){c:Site}{r:Out}
  (h:(if c.mv then(gS P e.st t (ev fr x) (raw fr y)).map fun e=>({ d:=.aX [],set:=some e,drop:=iz y}:Out)else(gS P e.st t (ev fr x) (ev fr y)).map fun e=>({ d:=.aX [],set:=some e}:Out))=some r):∃v e' reg',e7 P n0 PR e al o ⟨tm,df⟩ r v e' reg':=by
 have bB:∀x s,RD e s (ev fr x) ((⟨tm,df⟩:Act).eval x):=fun x s=>oW hf x
 have main:∀(d:DV) (yy:Nat×Ob) (drop:List Tmp) (q:Own->Addr->Prop),gS P e.st t (ev fr x) d=some yy->∀(ds:List DV) (us:List Value),cellsOf d=some ds->ds.all bG=true->((⟨tm,df⟩:Act).eval y).cells=⟨us⟩->ds.length=us.length->(∀u∈us,u.oneCell'=true)->
   (∀p a,q p a->∃p',al p' a)->(∀p p' a,q p a->q p' a->p=p')->(∀j a,al (.ob j) a->q (.ob j) a)->
   (∀id off,ev fr x= .pt id yy.2.ver off->(∀j i a,¬(j=id∧off≤i∧i<off+ds.length)->al (.cell j i) a->q (.cell j i) a)∧(∀(i:Nat) d v,ds[i]? =some d->us[i]? =some v->RD e (q (.cell id (off+i))) d v))->
   (∀t,t ∉ drop->∀a,al (.slot t) a->q (.slot t) a)->∃v e' reg',e7 P n0 PR e al o ⟨tm,df⟩ { d:=.aX [],set:=some yy,drop} v e' reg':=by
  intro d yy drop q hs ds us hc hk hv hl h1 qa qd qo qx qs
  obtain⟨id,ver,off,vs,k,ob,hx,ib,cc,ew,kh,iN,hle,rfl⟩:=Hp hs
  rw[hc]at ib;cases ib
  obtain⟨qc,hr⟩:=qx id off hx
  have mb:=bB x (fun _=>False)
  rw[hx]at mb
  generalize cM:(⟨tm,df⟩:Act).eval x=ax at mb
  cases mb with
  | pt hid fS=>
   have ha:=(fS ob ew).2 kh.symm
   have BN:=m.ext id ob ew
   obtain⟨w',r1,r2,r3⟩:=ah3 (P:=P) (t:=t) (f:=e.io id) (off:=off) (w:=e.w) cc hv (by omega) h1 (fun j hj=>by
    have:=m.ok _ _ (m.own id ob ew (off+j) (by omega))
    exact⟨this.2.1,this.2.2.1⟩)
   obtain⟨g1,g2⟩:=m.write ew hl hk (by omega) r2 r3 qa qd qo qc hr
   subst kh
   refine⟨undef,_,q,.inr ⟨?_,rfl⟩,rfl,g1,g2,r2.bp (fun a ⟨j,hj,ha⟩=>?_) _,.aX .nil,qs⟩
   ·simp only[execOp,ho,Sem.run_bind,cM,ha,r1,Result.andThen_ok,Sem.run_pure]
   ·have:=m.ok _ _ (m.own id ob ew (off+j) (by omega))
    rw[ha]
    exact⟨this.1,this.2.2.2.2⟩
 have plain:∀(d:DV) (yy:Nat×Ob) (drop:List Tmp),bx d=d->(∀s,RD e s d ((⟨tm,df⟩:Act).eval y))->gS P e.st t (ev fr x) d=some yy->∃v e' reg',e7 P n0 PR e al o ⟨tm,df⟩ { d:=.aX [],set:=some yy,drop} v e' reg':=by
  intro d yy drop qM hd hs
  obtain⟨id,ver,off,vs,k,ob,hx,hc,cc,ew,kh,iN,hle,hyy⟩:=Hp hs
  obtain⟨hk,us,hu,hr⟩:=Lg qM hc (hd (fun _=>False))
  refine main d yy drop (fun p a=>match p with | .cell j i=>¬(j=id∧off≤i∧i<off+vs.length)∧al p a | _=>al p a) hs vs us hc hk hu hr.length (hr.one hk) ?_ ?_ (fun j a h=>h) ?_ (fun t _ a h=>h)
  ·intro p a h
   cases p<;>first | exact⟨_,h⟩ | exact⟨_,h.2⟩
  ·intro p p' a h1 h2
   have key:∀p,(match p with | .cell j i=>¬(j=id∧off≤i∧i<off+vs.length)∧al p a | _=>al p a)->al p a:=fun p h=>by cases p<;>first | exact h | exact h.2
   exact m.cE p p' a (key p h1) (key p' h2)
  ·intro cr aeB bN
   rw[hx]at bN
   injection bN with e1 e2 e3
   subst e1;subst e3
   exact⟨fun j i a hn ha=>⟨hn,ha⟩,fun i d v h1 h2=>by
    obtain⟨v',fS,fc⟩:=hr.get h1
    rw[h2]at fS;cases fS
    exact fc.fV (fun _ h=>h.elim)⟩
 split at h
 ·rw[Option.map_eq_some_iff]at h
  obtain⟨yy,hs,rfl⟩:=h
  cases y with
  | tmp ty=>
   simp only[raw]at hs ⊢
   by_cases qM:bx (fr ty)=fr ty
   ·exact plain (fr ty) yy _ qM (fun s=>(hf ty).plain qM) hs
   ·-- Dw aqD right aqj to Dw cell
    obtain⟨id,ver,off,vs,k,ob,hx,hc,cc,ew,kh,iN,hle,hyy⟩:=Hp hs
    have nP:∃nl cs len aV,fr ty= .ap nl cs len aV:=by
     cases sL:fr ty<;>simp[sL,Abs.bx]at qM
     exact⟨_,_,_,_,rfl⟩
    obtain⟨nl,cs,len,aV,nP⟩:=nP
    have Ck:vs=[fr ty]:=by rw[nP]at hc ⊢;simp[cellsOf,bG]at hc;exact hc.symm
    subst Ck
    have FO:((⟨tm,df⟩:Act).eval (.tmp ty)).oneCell'=true:=NO (by rw[nP];rfl) (hf ty)
    refine main (fr ty) yy [ty] (fun p a=>match p with | .cell j i=>if j=id∧i=off then al (.slot ty) a else al p a | .slot u=>u≠ty∧al p a | _=>al p a) hs [fr ty] [(⟨tm,df⟩:Act).eval (.tmp ty)] hc (by rw[nP];rfl) (Lj FO) rfl
     (by simpa using FO) ?_ ?_ (fun j a h=>h) ?_ ?_
    ·intro p a h
     cases p with
     | cell j i=>simp only at h;split at h<;>exact⟨_,h⟩
     | slot u=>exact⟨_,h.2⟩
     | _=>exact⟨_,h⟩
    ·intro p p' a h1 h2
     have key:∀p,(match p with | .cell j i=>if j=id∧i=off then al (.slot ty) a else al p a | .slot u=>u≠ty∧al p a | _=>al p a)->(p= .cell id off∧al (.slot ty) a)∨(p≠ .slot ty∧al p a):=fun p h=>by
      cases p with
      | cell j i=>
       simp only at h
       split at h
       ·rename_i hh;exact .inl ⟨by rw[hh.1,hh.2],h⟩
       ·exact .inr ⟨by simp,h⟩
      | slot u=>exact .inr ⟨fun hh=>h.1 (by injection hh),h.2⟩
      | ob j=>exact .inr ⟨by simp,h⟩
      | res=>exact .inr ⟨by simp,h⟩
     rcases key p h1 with ⟨g1,g2⟩ | ⟨g1,g2⟩<;>rcases key p' h2 with ⟨g3,g4⟩ | ⟨g3,g4⟩
     ·rw[g1,g3]
     ·exact absurd (m.cE _ _ a g2 g4).symm g3
     ·exact absurd (m.cE _ _ a g4 g2).symm g1
     ·exact m.cE _ _ a g2 g4
    ·intro cr aeB bN
     rw[hx]at bN
     injection bN with e1 e2 e3
     subst e1;subst e3
     refine⟨fun j i a hn ha=>?_,fun i d v h1 h2=>?_⟩
     ·have:¬(j=id∧i=off):=fun hh=>hn ⟨hh.1,by omega,by simp;omega⟩
      simp only[if_neg this];exact ha
     ·cases i with
      | zero=>
       simp at h1 h2
       subst h1;subst h2
       simp only[Nat.add_zero,and_self,if_true]
       exact hf ty
      | succ i=>simp at h1
    ·intro u hu a ha
     exact⟨fun hh=>hu (by simp[hh]),ha⟩
  | _=>exact plain _ yy _ (Bl fr _) (fun s=>bB _ s) hs
 ·rw[Option.map_eq_some_iff]at h
  obtain⟨yy,hs,rfl⟩:=h
  exact plain _ yy _ (Bl fr y) (fun s=>bB y s) hs
theorem adw (m:MI n0 PR e al)(bt:∀a,¬al .res a){o:Oper}{t:TypeId}{x:Operand}(ho:o.op= .load t x){a:Act}(bB:∀x s,RD e s (ev fr x) (a.eval x)){c:Site}{r:Out}
  (h:aI P c (.load t x) fr e.st=some r):∃v e' reg',e7 P n0 PR e al o a r v e' reg':=by
 simp only[aI]at h
 split at h
 ·split at h
  ·rename_i id ver off hx abX
   split at h
   ·rename_i ob ew
    rw[Option.map_eq_some_iff]at h
    obtain⟨d,hd,rfl⟩:=h
    obtain⟨h1,h2⟩:=mY ew
    subst h2
    have mb:=bB x (fun _=>False)
    rw[hx]at mb
    generalize cM:a.eval x=ax at mb
    cases mb with
    | pt hid hv=>
     have ha:=(hv ob h1).2 rfl
     obtain⟨hk,v,eH,hr⟩:=m.cell id ob h1 off d hd
     have aQ:off<ob.cs.length:=(List.getElem?_eq_some_iff.1 hd).1
     let q:Own->Addr->Prop:=fun p a=>match p with | .res=>al (.cell id off) a | .cell j i=>¬(j=id∧i=off)∧al p a | _=>al p a
     have key:∀p a,q p a->(p= .res∧al (.cell id off) a)∨(p≠ .cell id off∧p≠ .res∧al p a):=fun p a h=>by
      cases p with
      | res=>exact .inl ⟨rfl,h⟩
      | cell j i=>exact .inr ⟨fun hh=>h.1 (by injection hh with e1 e2;exact⟨e1,e2⟩),by simp,h.2⟩
      | slot u=>exact .inr ⟨by simp,by simp,h⟩
      | ob j=>exact .inr ⟨by simp,by simp,h⟩
     obtain⟨g1,g2⟩:=m.obj (o':=⟨ob.ver,ob.cs.set off (bx d)⟩) (f':=e.io id) (w':=e.w) (S:=fun _=>False) h1 (Wr.refl _ _) (fun a h=>h.elim) (fun a h=>h.elim) (q:=q)
      (fun p a h=>by rcases key p a h with ⟨_,h⟩ | ⟨_,_,h⟩<;>exact⟨_,h⟩)
      (fun p p' a h1 h2=>by
       rcases key p a h1 with ⟨g1,g2⟩ | ⟨g1,mW,g2⟩<;>rcases key p' a h2 with ⟨g3,g4⟩ | ⟨g3,L3,g4⟩
       ·rw[g1,g3]
       ·exact absurd (m.cE _ _ a g2 g4).symm g3
       ·exact absurd (m.cE _ _ a g4 g2).symm g1
       ·exact m.cE _ _ a g2 g4)
      (fun j _ a h=>h) (fun j hj i a h=>⟨fun hh=>hj hh.1,h⟩) (fun i hi=>m.own id ob h1 i hi) (by simpa using m.ext id ob h1) ⟨Nat.le_refl _,fun _=>rfl⟩
      (fun i d' eO=>by
       by_cases hi:i=off
       ·subst hi
        have:d'=bx d:=by simp only at eO;rw[List.getElem?_set_self aQ]at eO;cases eO;rfl
        subst this
        exact⟨Wt hk,v,eH,hr.bx⟩
       ·have o8:ob.cs[i]? =some d':=by simp only at eO;rw[List.getElem?_set_ne (by omega)]at eO;exact eO
        obtain⟨k1,v',k2,k3⟩:=m.cell id ob h1 i d' o8
        exact⟨k1,v',k2,k3.fV fun a ha=>⟨fun hh=>hi hh.2,ha⟩⟩)
     refine⟨v,_,q,.inl ?_,rfl,g1,g2,cS.refl ..,(hr.mono g2 (fun a ha=>ha)),fun t _ a h=>h⟩
     simp only[execOp,ho,Sem.run_bind,cM,ha,Instr.loadAt,Instr.sureAddr,pure_bind,Nd abX eH,Result.andThen_ok,Sem.run_pure]
   ·cases h
  ·cases h
 ·obtain⟨d,hd,rfl⟩:=cn h
  obtain⟨u,hu,_⟩:=Nf m (s':=fun _=>False) hd (bB x (fun _=>False))
  refine k9 m (sm:=Instr.loadAt t (a.eval x)) ⟨u,hu,fun s=>?_⟩ (by simp[execOp,ho])
  obtain⟨u',ff,fc⟩:=Nf m (s':=s) hd (bB x (fun _=>False))
  rw[hu]at ff
  injection ff with e1 e2
  rw[e1];exact fc
end
end Go.Abs
namespace Go.Abs
open Go
variable [Fl]
section
variable {P:Program}{n0:Nat}{PR:Addr->Prop}{e:E}{al:Own->Addr->Prop}{fr:Nat->DV}{tm:Array Value}{df:List Deferred}
theorem sD {size n:Nat}{a:Addr}{l c:Nat}{us:List Value}{w:World}(hl:us.length=n * size)(h:∀(j:Nat) v,us[j]? =some v->w.cell? (a.add j)=some v):
 (Builtin.firstCells size n (.slice (some a) l c)).run P w= .ok ⟨us⟩ w:=run_firstCells_some w size n a l c us hl h
theorem Bg (m:MI n0 PR e al){aV n:Nat}{y:DV}{ys:List DV}{v:Value}{s:Addr->Prop}(h:gH e.st aV y=some (n,ys))(r:RD e s y v):
  ∃us,us.length=n * aV∧j4 e ys us∧ys.all bG=true∧(∀w,(Builtin.lenOf v).run P w= .ok n w)∧(∀w:World,(∀a,w.cell? a=e.w.cell? a)->(Builtin.firstCells aV n v).run P w= .ok ⟨us⟩ w)∧
   (∀w:World,∀k,k≤n->(∀a,w.cell? a=e.w.cell? a)->(Builtin.firstCells aV k v).run P w= .ok ⟨us.take (k * aV)⟩ w):=by
 unfold gH at h
 split at h
 ·rename_i nl x cs len
  split at h
  ·rename_i hl
   cases h
   cases r with
   | c r=>cases r with
    | nil=>exact⟨[],by simp,.nil,rfl,fun w=>rfl,fun w _=>rfl,fun w k hk _=>by simp[Builtin.firstCells]⟩
    | sl hr hc hle hx=>
     rename_i us a cap
     have fR:us.length=n * aV:=by rw[←hr.length];exact hl
     refine⟨us,fR,hr.CM.w,?_,fun w=>rfl,fun w hw=>sD fR fun j v hv=>by rw[hw];exact(hc j v hv).1,fun w k hk hw=>sD ?_ fun j v hv=>?_⟩
     ·rw[List.all_eq_true]
      intro d hd
      obtain⟨c,BI,rfl⟩:=List.mem_map.1 hd
      obtain⟨_,hj⟩:=List.getElem?_of_mem BI
      exact hr.ok hj
     ·simp only[List.length_take,fR]
      have:=Nat.mul_le_mul_right aV hk
      omega
     ·rw[hw]
      have aQ:j<k * aV:=by have:=(List.getElem?_eq_some_iff.1 hv).1;simp at this;omega
      rw[List.getElem?_take_of_lt aQ]at hv
      exact(hc j v hv).1
  ·cases h
 ·rename_i id ver off len ez x
  split at h
  ·rename_i o ho
   split at h
   ·rename_i he
    rw[Option.map_eq_some_iff]at h
    obtain⟨ds,gh,hh⟩:=h
    cases hh
    subst he
    obtain⟨h1,h2⟩:=mY ho
    obtain⟨us,fR,eH,hr,hk⟩:=m.cells h1 gh
    cases r with
    | ms hid hl hx hv=>
     rename_i a cap
     obtain⟨q1,q2⟩:=(hv o h1).2 h2.symm
     have SB:∀(j:Nat) v,us[j]? =some v->e.w.cell? (a.add j)=some v:=fun j v hj=>by
      rcases q1 with q1 | q1
      ·have:j<us.length:=(List.getElem?_eq_some_iff.1 hj).1
       have:n=0:=by omega
       subst this
       omega
      ·rw[q1];exact eH j v hj
     refine⟨us,fR,hr,hk,fun w=>rfl,fun w hw=>sD fR fun j v hj=>by rw[hw];exact SB j v hj,fun w k hkn hw=>sD ?_ fun j v hj=>?_⟩
     ·simp only[List.length_take,fR]
      have:=Nat.mul_le_mul_right ez hkn
      omega
     ·rw[hw]
      have aQ:j<k * ez:=by have:=(List.getElem?_eq_some_iff.1 hj).1;simp at this;omega
      rw[List.getElem?_take_of_lt aQ]at hj
      exact SB j v hj
   ·cases h
  ·cases h
 ·cases h
theorem aqd {i:TypeInfo}(h:mM i=true):∃z,i.zero=some z∧z.cells.size=i.size:=by
 unfold mM at h
 split at h
 ·rename_i z hz;exact⟨z,hz,by simpa using h⟩
 ·cases h
theorem KM {t t2 el qw ty:TypeId}{i:TypeInfo}(hu:P.underlying t=some (.slice el))(dp:P.underlying t2=some (.slice qw))(hi:P.info? el=some i)(hz:mM i=true){ts:Array TypeId}(h0:ts[0]? =some t)(h1:ts[1]? =some t2)
  {base:Option Addr}{sLen sCap n:Nat}{x:Value}{olds news:List Value} (w:World) (hn:(Builtin.lenOf x).run P w= .ok n w) (ho:(Builtin.firstCells i.size sLen (.slice base sLen sCap)).run P w.drew= .ok ⟨olds⟩ w.drew)
  (hx:(Builtin.firstCells i.size n x).run P w.drew= .ok ⟨news⟩ w.drew) (hg:sCap<sLen+n) (hr:roomy (sLen+n) i.bytes=true) (qK:olds.length=sLen * i.size) (hln:news.length=n * i.size):
  ∃cap rest,sLen+n≤cap∧(olds++news++rest).length=cap * i.size∧
   (Builtin.append_ ts ty #[.slice base sLen sCap,x]).run P w= .ok (.slice (some ⟨w.heap.size,0,none⟩) (sLen+n) cap) (w.drew.alloc (.cells ⟨olds++news++rest⟩ el)):=by
 obtain⟨z,hzz,hzs⟩:=aqd hz
 simp only[roomy,Bool.and_eq_true,decide_eq_true_eq]at hr
 have aqm:=growslice_fits hg hr.1
 have hc:¬(sLen+n≤sCap):=by omega
 have h63:¬(((sLen+n:Nat):Int)>9223372036854775807∧(False∨i.bytes=0)):=by omega
 have h48:¬(Builtin.nextslicecap (sLen+n) sCap * i.bytes>2 ^ 48):=by omega
 refine⟨grownCap w (sLen+n) sCap el,(Builtin.zeroCells z.cells (grownCap w (sLen+n) sCap el - (sLen+n))).toList,?_,?_,?_⟩
 ·simp[grownCap,Question.cut]
 ·have cw:sLen+n≤grownCap w (sLen+n) sCap el:=by simp[grownCap,Question.cut]
  simp only[List.length_append,qK,hln,Builtin.zeroCells,Array.toList_map,Array.toList_range,List.length_map,List.length_range,hzs]
  rw[←Nat.add_mul,←Nat.add_mul]
  congr 1
  omega
 ·have abS:¬(9223372036854775807<((sLen:Int)+(n:Int))):=by omega
  have abR:¬(281474976710656<Builtin.nextslicecap (sLen+n) sCap * i.bytes):=by omega
  simp[Builtin.append_,h0,h1,run_underlying hu,run_underlying dp,sizeOf,typeInfo,zeroValue,hi,hzz,hn,hc,abS,abR,Question.forced,ho,hx,newRow,grownCap]
  congr 2
  apply Array.ext'
  simp
end
end Go.Abs
set_option linter.unusedSimpArgs false
namespace Go.Abs
open Go
variable [Fl]
section
variable {P:Program}{n0:Nat}{PR:Addr->Prop}{e:E}{al:Own->Addr->Prop}{fr:Nat->DV}{tm:Array Value}{df:List Deferred}
theorem Qo {t t2 el qw ty:TypeId}{k:Nat}(hu:P.underlying t=some (.slice el))(dp:P.underlying t2=some (.slice qw))(hk:cJ P el=some k){ts:Array TypeId}(h0:ts[0]? =some t)(h1:ts[1]? =some t2)
  {a:Addr}{sLen sCap n:Nat}{x:Value}{news:List Value}{w w':World} (hn:(Builtin.lenOf x).run P w= .ok n w) (hx:(Builtin.firstCells k n x).run P w= .ok ⟨news⟩ w) (hg:sLen+n≤sCap)
  (hs:(storeCells (a.add (sLen * k)) news).run P w= .ok () w'):(Builtin.append_ ts ty #[.slice (some a) sLen sCap,x]).run P w= .ok (.slice (some a) (sLen+n) sCap) w':=by
 simp[Builtin.append_,h0,h1,run_underlying hu,run_underlying dp,fp hk,hn,hg,hx,hs]
theorem EC {t t2 el qw ty:TypeId}{k:Nat}(hu:P.underlying t=some (.slice el))(dp:P.underlying t2=some (.slice qw))(hk:cJ P el=some k){ts:Array TypeId}(h0:ts[0]? =some t)(h1:ts[1]? =some t2)
  {b:Option Addr}{sLen sCap:Nat}{x:Value}{w:World} (hn:(Builtin.lenOf x).run P w= .ok 0 w) (hx:(Builtin.firstCells k 0 x).run P w= .ok ⟨[]⟩ w) (hg:sLen≤sCap):(Builtin.append_ ts ty #[.slice b sLen sCap,x]).run P w= .ok (.slice b sLen sCap) w:=by
 cases b<;>simp[Builtin.append_,h0,h1,run_underlying hu,run_underlying dp,fp hk,hn,hg,hx,storeCells]
theorem ql {o:Oper}{k:Call}(ho:o.op= .call k)(hb:k.callee= .builtin .append){x y:Operand}(ha:k.args.toList=[x,y])(a:Act){v:Value}{w w':World}
  (h:(Builtin.append_ k.argTypes o.type #[a.eval x,a.eval y]).run P w= .ok v w'):(execOp a.eval o).run P w= .ok (.value v) w':=by
 have eG:k.args=#[x,y]:=by apply Array.ext';simpa using ha
 have hm:k.args.map a.eval=#[a.eval x,a.eval y]:=by rw[eG];simp
 simp[execOp,ho,resolve,hb,invoke,builtin,hm,h]
theorem Fu (m:MI n0 PR e al)(bt:∀a,¬al .res a){o:Oper}{k:Call}(ho:o.op= .call k)(hb:k.callee= .builtin .append){x y:Operand}(ha:k.args.toList=[x,y]){a:Act}{t t2 el qw:TypeId}(h0:k.argTypes[0]? =some t)(h1:k.argTypes[1]? =some t2)
  (hu:P.underlying t=some (.slice el)) (dp:P.underlying t2=some (.slice qw)) {i:TypeInfo} (hi:P.info? el=some i) (hz:mM i=true) {n:Nat}{ys:List DV}{nJ cs:List CV}{s:Addr->Prop}
  (lZ:gH e.st i.size (ev fr y)=some (n,ys)) (fO:lS ys=some nJ) (ry:RD e s (ev fr y) (a.eval y)) {base:Option Addr}{sLen sCap:Nat} (hx:a.eval x= .slice base sLen sCap) {olds:List Value} (ro:bh e.im e.w cs olds)
  (B8:∀w:World,(∀a,w.cell? a=e.w.cell? a)->(Builtin.firstCells i.size sLen (.slice base sLen sCap)).run P w= .ok ⟨olds⟩ w) (qK:cs.length=sLen * i.size) (hg:sCap<sLen+n) (hr:roomy (sLen+n) i.bytes=true) (drop:List Tmp):
  ∃v e' reg',e7 P n0 PR e al o a { d:=.ap false (cs++nJ) (sLen+n) i.size,drop} v e' reg':=by
 obtain⟨us,fR,pg,gM,hlen,m3,_⟩:=Bg (P:=P) m lZ ry
 have SP:olds.length=sLen * i.size:=by rw[←ro.length];exact qK
 obtain⟨cap,rest,gK,B0,dJ⟩:=KM (P:=P) (ty:=o.type) hu dp hi hz h0 h1 e.w (hlen e.w) (B8 e.w.drew fun _=>rfl) (m3 e.w.drew fun _=>rfl) hg hr SP fR
 obtain⟨d1,d2⟩:=m.drew
 have Cb:bh e.im e.w nJ us:=uG fO gM pg
 have BB:bh e.im e.w (cs++nJ) (olds++us):=ro.append Cb
 obtain⟨g1,g2⟩:=d1.MY bt (olds++us++rest) el ((sLen+n) * i.size)
 refine⟨_,_,_,.inl (ql ho hb ha a (by rw[hx];exact dJ)),(by rfl),g1,d2.trans g2,(E7 _ _).trans (sn (w:=e.w.drew) _ m.dz m.dN _),?_,fun t _ x hx=>hx⟩
 have yc:(olds++us).length=(sLen+n) * i.size:=by simp[SP,fR,Nat.add_mul]
 refine .ap (BB.mono (d2.trans g2).im (d2.trans g2).cell) (fun j v hv=>?_) gK (by rw[←yc,BB.length]) (fun j h1 h2=>⟨j,h1,by rw[B0];exact h2,by simp⟩)
 have aQ:j<(olds++us).length:=(List.getElem?_eq_some_iff.1 hv).1
 rw[Nat.zero_add]
 exact⟨by show(e.w.drew.alloc _).cell? _=_;rw[show e.w.heap.size=e.w.drew.heap.size from rfl,uv,List.getElem?_append_left aQ];exact hv,.inr ⟨j,by omega,rfl⟩⟩
theorem YF (m:MI n0 PR e al)(bt:∀a,¬al .res a){o:Oper}{k:Call}(ho:o.op= .call k)(hb:k.callee= .builtin .append){x y:Operand}(ha:k.args.toList=[x,y])(hf:∀t,RD e (al (.slot t)) (fr t) (tm.getD t undef))
  {t t2:TypeId} (h0:k.argTypes[0]? =some t) (h1:k.argTypes[1]? =some t2) {d:DV} (h:oM P e.st t t2 (raw fr x) (ev fr y)=some d):
  ∃v e' reg',e7 P n0 PR e al o ⟨tm,df⟩ { d,drop:=match raw fr x with | .ap .. =>iz x | _=>[]} v e' reg':=by
 have bB:∀x s,RD e s (ev fr x) ((⟨tm,df⟩:Act).eval x):=fun x s=>oW hf x
 unfold oM at h
 split at h
 ·rename_i el qw hu dp
  split at h
  ·cases h
  ·rename_i i hi
   split at h
   ·cases h
   ·rename_i hz
    have kK:mM i=true:=by simpa using hz
    have hk:cJ P el=some i.size:=by simp[cJ,hi]
    split at h
    ·cases h
    ·rename_i n ys lZ
     split at h
     ·cases h
     ·rename_i nJ fO
      have ry:=bB y (fun _=>False)
      obtain⟨us,fR,pg,gM,hlen,m3,_⟩:=Bg (P:=P) m lZ ry
      have Cb:bh e.im e.w nJ us:=uG fO gM pg
      cases kg:raw fr x with
      | ap nl cs len aV=>
       simp only[kg]at h
       obtain⟨tx,rfl⟩:∃tx,x= .tmp tx:=by
        cases x with
        | tmp tx=>exact⟨tx,rfl⟩
        | const v=>have hh:=Bl fr (.const v);simp only[raw]at kg;rw[kg]at hh;cases hh
        | global v=>simp only[raw]at kg;cases kg
        | func v=>simp only[raw]at kg;cases kg
       simp only[raw]at kg
       have rx:=hf tx
       rw[kg]at rx
       have sT:(⟨tm,df⟩:Act).eval (.tmp tx)=tm.getD tx undef:=rfl
       generalize cM:tm.getD tx undef=ax at rx
       split at h
       ·split at h
        ·rename_i u5 ec
         obtain⟨pf,ya⟩:=ec
         cases h
         cases rx with
         | iE=>
          simp only[Nat.zero_add,List.nil_append]
          by_cases hn:n=0
          ·subst hn
           have po:us=[]:=by apply List.eq_nil_of_length_eq_zero;simpa using fR
           subst po
           have ab2:nJ=[]:=by cases Cb;rfl
           subst ab2
           refine⟨_,e,al,.inl (ql ho hb ha _ (by rw[sT,cM];exact EC (P:=P) hu dp hk h0 h1 (hlen e.w) (m3 e.w fun _=>rfl) (Nat.le_refl _))),rfl,m,Ext.refl e,cS.refl ..,?_,fun _ _ _ h=>h⟩
           exact .iE
          ·have:=Fu (fr:=fr) (x:=.tmp tx) m bt ho hb ha (a:=⟨tm,df⟩) h0 h1 hu dp hi kK lZ fO ry (base:=none) (sLen:=0) (sCap:=0) (by rw[sT,cM]) (olds:=[]) (cs:=[]) .nil (fun w _=>by simp[Builtin.firstCells]) (by simp) (by omega) (by simpa using pf) (iz (.tmp tx))
           have ab8:(n==0)=false:=by simpa using hn
           simpa[ab8]using this
         | ap hr hc hl hn hs=>
          rename_i vs b off cap
          have ab6:aV=i.size:=by simpa using u5
          subst ab6
          have iN:vs.length=len * i.size:=by rw[←hr.length];exact hn
          simp only[Bool.false_and]
          by_cases hg:len+n≤cap
          ·-- in place
           have dE:∀j,j<us.length->al (.slot tx) ⟨b,off+len * i.size+j,none⟩:=fun j hj=>by
            rw[Nat.add_assoc]
            refine hs (len * i.size+j) (by omega) ?_
            have:(len+n) * i.size≤cap * i.size:=Nat.mul_le_mul_right _ hg
            rw[Nat.add_mul]at this
            omega
           obtain⟨w',r1,r2,r3⟩:=zd (P:=P) b (off+len * i.size) us 0 e.w (by
             have:=Cb.one
             exact this) (fun j hj=>by
            rw[Nat.zero_add]
            have:=m.ok _ _ (dE j hj)
            exact⟨this.2.1,this.2.2.1⟩)
           simp only[Nat.zero_add]at r2 r3
           obtain⟨g1,g2⟩:=m.acB bt (t:=tx) r2 (fun a ⟨j,hj,hh⟩=>by rw[hh];exact dE j hj)
           refine⟨_,_,_,.inl (ql ho hb ha _ (by rw[sT,cM];exact Qo (P:=P) (w':=w') hu dp hk h0 h1 (hlen e.w) (m3 e.w fun _=>rfl) hg (by rw[CN];exact r1))),(by rfl),g1,g2,r2.bp (fun a ⟨j,hj,hh⟩=>?_) _,?_,?_⟩
           ·have:=m.ok _ _ (dE j hj)
            rw[hh];exact⟨this.1,this.2.2.2.2⟩
           ·have BB:bh e.im e.w (cs++nJ) (vs++us):=hr.append Cb
            refine .ap (BB.mono g2.im g2.cell) (fun j v hv=>?_) hg (by rw[BB.length];simp[iN,fR,Nat.add_mul]) (fun j SM Mq=>?_)
            ·rcases Nat.lt_or_ge j vs.length with aQ | cw
             ·rw[List.getElem?_append_left aQ]at hv
              obtain⟨c1,c2⟩:=hc j v hv
              exact⟨(g2.cell _ c2).trans c1,g2.im _ c2⟩
             ·rw[List.getElem?_append_right cw]at hv
              have aQ:j - vs.length<us.length:=(List.getElem?_eq_some_iff.1 hv).1
              have u1:=r3 _ v hv
              rw[show off+len * i.size+(j - vs.length)=off+j by omega]at u1
              exact⟨u1,.inr ⟨j - vs.length,aQ,by rw[show off+len * i.size+(j - vs.length)=off+j by omega]⟩⟩
            ·rw[Nat.add_mul]at SM
             refine⟨hs j (by omega) Mq,?_⟩
             rintro⟨j',cC,hh⟩
             injection hh with _ hh _
             omega
           ·intro u ff a haa
            refine⟨fun hh=>ff ?_,haa⟩
            simp[raw,kg,iz,hh]
          ·have:=Fu (fr:=fr) (x:=.tmp tx) m bt ho hb ha (a:=⟨tm,df⟩) h0 h1 hu dp hi kK lZ fO ry (base:=some ⟨b,off,none⟩) (sLen:=len) (sCap:=cap) (by rw[sT,cM]) hr
            (fun w hw=>sD iN fun j v hj=>by rw[hw,CN];exact(hc j v hj).1) hn (by omega) pf (iz (.tmp tx))
           exact this
        ·cases h
       ·cases h
      | c cv=>
       simp only[kg]at h
       have rx:RD e (fun _=>False) (.c cv) ((⟨tm,df⟩:Act).eval x):=by
        cases x with
        | tmp tx=>
         simp only[raw]at kg
         have:=hf tx
         rw[kg]at this
         exact this.plain rfl
        | _=>
         simp only[raw]at kg
         rw[←kg];exact bB _ _
       generalize cM:(⟨tm,df⟩:Act).eval x=ax at rx
       cases rx with
       | c rx=>
        cases rx with
        | nil=>
         rename_i xx
         cases xx
         ·simp at h
         ·simp only at h
          split at h
          ·rename_i ec
           obtain⟨pf,_⟩:=ec
           cases h
           split
           ·rename_i hn
            subst hn
            have po:us=[]:=by apply List.eq_nil_of_length_eq_zero;simpa using fR
            subst po
            exact⟨_,e,al,.inl (ql ho hb ha _ (by rw[cM];exact EC (P:=P) hu dp hk h0 h1 (hlen e.w) (m3 e.w fun _=>rfl) (Nat.le_refl _))),rfl,m,Ext.refl e,cS.refl ..,.c .nil,fun _ _ _ h=>h⟩
           ·rename_i hn
            exact Fu (fr:=fr) (x:=x) m bt ho hb ha (a:=⟨tm,df⟩) h0 h1 hu dp hi kK lZ fO ry (base:=none) (sLen:=0) (sCap:=0) cM (olds:=[]) (cs:=[]) .nil (fun w _=>by simp[Builtin.firstCells]) (by simp) (by omega) pf []
          ·cases h
        | sl hr hc hl hx=>
         rename_i xx cs vs b len cap
         cases xx
         ·simp at h
         ·have gK:cap=len:=hx rfl
          subst gK
          simp only at h
          split at h
          ·rename_i ec
           obtain⟨pf,ya⟩:=ec
           cases h
           have iN:vs.length=cap * i.size:=by rw[←hr.length];exact ya
           split
           ·rename_i hn
            subst hn
            have po:us=[]:=by apply List.eq_nil_of_length_eq_zero;simpa using fR
            subst po
            exact⟨_,e,al,.inl (ql ho hb ha _ (by rw[cM];exact EC (P:=P) hu dp hk h0 h1 (hlen e.w) (m3 e.w fun _=>rfl) (Nat.le_refl _))),rfl,m,Ext.refl e,cS.refl ..,.c (.sl hr hc hl hx),fun _ _ _ h=>h⟩
           ·rename_i hn
            exact Fu (fr:=fr) (x:=x) m bt ho hb ha (a:=⟨tm,df⟩) h0 h1 hu dp hi kK lZ fO ry (base:=some b) (sLen:=cap) (sCap:=cap) cM hr
             (fun w hw=>sD iN fun j v hj=>by rw[hw];exact(hc j v hj).1) ya (by omega) pf []
          ·cases h
        | sc hs=>simp at h
        | agg hs=>simp at h
      | _=>simp[kg]at h
 ·cases h
end
end Go.Abs
