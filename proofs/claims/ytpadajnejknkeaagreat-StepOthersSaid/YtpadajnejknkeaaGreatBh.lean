/-
  Part of the proof: printed by the session's own program out of the program's form, or typed; it states no claim by itself.
-/
import Derived.Test.YtpadajnejknkeaaGreatBg
import Derived.LoopNIn
set_option linter.unusedVariables false
set_option linter.unusedSimpArgs false
set_option linter.unusedSectionVars false
namespace Go.Abs
open Go
variable [Fl]
variable [Gl]
section
variable {P:Program}
theorem yw {st:List Ob}{id:Nat}{cs:List DV}{x:Nat×Ob}(h:lay st id cs=some x):x.1=id:=by
 rw[(vr h).1]
theorem M8 {st:List Ob}{id:Nat}{k:MK}{x:Nat×Ob}(h:kj st id k=some x):x.1=id:=by
 unfold kj at h
 split at h
 ·cases h;rfl
 ·cases h
theorem UB {st:List Ob}{t:TypeId}{x i y:DV}{z:Nat×Ob}(h:tv P st t x i y=some z):z.1∈refsOf x:=by
 unfold tv at h
 split at h
 ·split at h
  ·split at h
   ·cases h;simp[refsOf]
   ·cases h;simp[refsOf]
   ·cases h
  ·cases h
 ·cases h
theorem Sf {st:List Ob}{x:DV}{r:Out}(h:mV st x=some r){id:Nat}{o:Ob}(hs:r.set=some (id,o)):(id,true)∈(refsOf x).map fun i=>(i,true):=by
 unfold mV at h
 split at h
 ·split at h
  ·split at h
   ·cases h
    simp only at hs;cases hs
    simp[refsOf]
   ·cases h
  ·cases h
 ·cases h
theorem T7 {nz:List (Nat×Nat)}{r:Out}{id:Nat}{o:Ob}(h:(mj nz r).set=some (id,o)):∃o',r.set=some (id,o'):=by
 unfold mj at h
 split at h
 ·exact⟨o,h⟩
 ·simp only[Option.map_eq_some_iff]at h
  obtain⟨⟨i,o'⟩,h1,h2⟩:=h
  cases h2
  exact⟨o',h1⟩
theorem T5 (nz:List (Nat×Nat))(r:Out):(mj nz r).drop=r.drop:=by
 unfold mj
 split<;>rfl
theorem aeM {c:Site}{op:Op}{fr:Nat->DV}{st:List Ob}{r:Out}(h:aI P c op fr st=some r){id:Nat}{o:Ob}(hs:r.set=some (id,o)):(id,true)∈bA c op fr:=by
 cases op with
 | alloc t=>
  simp only[aI,Option.bind_eq_some_iff,Option.map_eq_some_iff]at h
  obtain⟨_,_,x,hx,rfl⟩:=h
  simp only at hs;cases hs
  have:=yw hx;simp only at this;subst this
  simp[bA]
 | box t x=>
  simp only[aI,Option.bind_eq_some_iff,Option.map_eq_some_iff]at h
  obtain⟨_,_,x,hx,rfl⟩:=h
  simp only at hs;cases hs
  have:=yw hx;simp only at this;subst this
  simp[bA]
 | makeSlice t x y=>
  simp only[aI]at h
  split at h
  ·split at h
   ·split at h
    ·split at h
     ·split at h
      ·rw[Option.map_eq_some_iff]at h
       obtain⟨_,_,rfl⟩:=h
       cases hs
      ·cases h
     ·rw[Option.map_eq_some_iff]at h
      obtain⟨x,hx,rfl⟩:=h
      simp only at hs;cases hs
      have:=yw hx;simp only at this;subst this
      simp[bA]
    ·cases h
   ·cases h
  ·cases h
 | buildSlice t n ps=>
  simp only[aI]at h
  split at h
  ·split at h
   ·split at h
    ·cases h
    ·split at h
     ·cases h
     ·split at h
      ·rename_i ho
       rw[Option.map_eq_some_iff]at h
       obtain⟨x,hx,rfl⟩:=h
       simp only at hs;cases hs
       have:=yw hx;simp only at this;subst this
       simp[bA,ho]
      ·rw[Option.map_eq_some_iff]at h
       obtain⟨x,hx,rfl⟩:=h
       cases hs
   ·cases h
  ·cases h
 | load t x=>
  simp only[aI]at h
  split at h
  ·rename_i hm
   split at h
   ·rename_i cr ver off h1 h2
    split at h
    ·rw[Option.map_eq_some_iff]at h
     obtain⟨y,hy,rfl⟩:=h
     simp only at hs;cases hs
     simp[bA,h1,refsOf,hm]
    ·cases h
   ·cases h
  ·obtain⟨_,_,rfl⟩:=cn h
   cases hs
 | store t x y=>
  have key:∀{v:DV}{z:Nat×Ob},gS P st t (ev fr x) v=some z->(z.1,true)∈bA c (.store t x y) fr:=fun hz=>by
   obtain⟨cr,ver,off,vs,k,o',hx,_,_,_,_,_,_,rfl⟩:=Hp hz
   simp[bA,hx,refsOf]
  simp only[aI]at h
  split at h
  ·simp only[Option.map_eq_some_iff]at h
   obtain⟨r0,⟨z,hz,rfl⟩,rfl⟩:=h
   obtain⟨o',hs⟩:=T7 hs
   simp only at hs;cases hs
   exact key hz
  ·simp only[Option.map_eq_some_iff]at h
   obtain⟨r0,⟨z,hz,rfl⟩,rfl⟩:=h
   obtain⟨o',hs⟩:=T7 hs
   simp only at hs;cases hs
   exact key hz
 | call k=>
  cases hk:k.callee with
  | builtin b=>
   simp only[aI,hk]at h
   split at h
   ·obtain⟨_,_,rfl⟩:=cn h;cases hs
   ·obtain⟨_,_,rfl⟩:=cn h;cases hs
   ·obtain⟨_,_,rfl⟩:=cn h;cases hs
   ·rename_i x y hl
    split at h
    ·split at h
     ·rename_i ho
      simp only[bA,hk,hl,ho,if_true]
      unfold mN at h
      split at h
      ·split at h
       ·cases h
       ·split at h
        ·cases h
        ·split at h
         ·cases h
         ·split at h
          ·split at h
           ·rw[Option.map_eq_some_iff]at h
            obtain⟨z,hz,rfl⟩:=h
            simp only at hs;cases hs
            have:=yw hz;simp only at this;subst this
            simp
           ·cases h
          ·split at h
           ·rename_i cr ver off len aV hx
            split at h
            ·split at h
             ·rw[Option.map_eq_some_iff]at h
              obtain⟨_,_,rfl⟩:=h
              simp only at hs;cases hs
              simp[hx,refsOf]
             ·cases h
            ·cases h
           ·split at h
            ·rw[Option.map_eq_some_iff]at h
             obtain⟨z,hz,rfl⟩:=h
             simp only at hs;cases hs
             have:=yw hz;simp only at this;subst this
             simp
            ·cases h
           ·cases h
      ·cases h
     ·rw[Option.map_eq_some_iff]at h
      obtain⟨_,_,rfl⟩:=h
      cases hs
    ·cases h
   ·rename_i x y hl
    split at h
    ·simp only[bA,hk,hl]
     unfold mR at h
     split at h
     ·rename_i el cr ver off len aV xx hu hx
      split at h
      ·split at h
       ·split at h
        ·cases h
         simp only at hs;cases hs
         simp[hx,refsOf]
        ·cases h
       ·cases h
      ·cases h
     ·cases h
    ·cases h
   ·rename_i x hl
    split at h
    ·simp only[bA,hk,hl]
     unfold oP at h
     split at h
     ·rename_i el cr ver off len aV xx hu hx
      split at h
      ·split at h
       ·cases h
        simp only at hs;cases hs
        simp[hx,refsOf]
       ·cases h
      ·cases h
     ·cases h
    ·cases h
   ·cases h
  | _=>simp[aI,hk]at h
 | move x=>
  simp only[aI]at h
  split at h
  ·cases h;cases hs
  ·split at h
   ·rename_i hz
    simp only[bA,hz,if_true]
    exact Sf h hs
   ·cases h;cases hs
 | assign x=>
  simp only[aI]at h
  split at h
  ·cases h;cases hs
  ·split at h
   ·rename_i hz
    simp only[bA,hz,if_true]
    exact Sf h hs
   ·cases h;cases hs
 | pick b x y=>simp only[aI]at h;split at h<;>cases h;cases hs
 | nilCheck x=>simp only[aI]at h;split at h<;>cases h<;>cases hs
 | makeFunc fn xs ys=>cases fn<;>simp[aI]at h;subst h;cases hs
 | build t ps=>
  simp only[aI]at h
  split at h
  ·split at h
   ·obtain⟨_,_,rfl⟩:=cn h;cases hs
   ·cases h
  ·split at h
   ·obtain⟨_,_,rfl⟩:=cn h;cases hs
   ·cases h
  ·cases h
 | extract x i=>
  simp only[aI]at h
  split at h
  ·obtain⟨_,_,rfl⟩:=cn h;cases hs
  ·cases h
 | binOp op t x y u=>obtain⟨_,_,rfl⟩:=cn h;cases hs
 | unOp op t x=>obtain⟨_,_,rfl⟩:=cn h;cases hs
 | convert a b x=>obtain⟨_,_,rfl⟩:=cn h;cases hs
 | slice t x lo hi mx=>obtain⟨_,_,rfl⟩:=cn h;cases hs
 | fieldAddr t x f=>obtain⟨_,_,rfl⟩:=cn h;cases hs
 | field t x f=>obtain⟨_,_,rfl⟩:=cn h;cases hs
 | indexAddr t x y=>obtain⟨_,_,rfl⟩:=cn h;cases hs
 | index t x y=>obtain⟨_,_,rfl⟩:=cn h;cases hs
 | makeMap t rs=>
  cases rs with
  | some v=>simp[aI]at h
  | none=>
   simp only[aI,Option.map_eq_some_iff]at h
   obtain⟨x,hx,rfl⟩:=h
   simp only at hs;cases hs
   have:=M8 hx;simp only at this;subst this
   simp[bA]
 | lookup t x i ok=>obtain⟨_,_,rfl⟩:=cn h;cases hs
 | mapUpdate t x i y=>
  simp only[aI,Option.map_eq_some_iff]at h
  obtain⟨z,hz,rfl⟩:=h
  simp only at hs;cases hs
  have:=UB hz
  simp only[bA,List.mem_map];exact⟨id,this,rfl⟩
 | insert t x i y=>
  simp only[aI,Option.map_eq_some_iff]at h
  obtain⟨z,hz,rfl⟩:=h
  simp only at hs;cases hs
  have:=UB hz
  simp only[bA,List.mem_map];exact⟨id,this,rfl⟩
 | range t x=>
  simp only[aI]at h
  unfold vq at h
  split at h
  ·split at h
   ·split at h
    ·rw[Option.map_eq_some_iff]at h
     obtain⟨z,hz,rfl⟩:=h
     simp only at hs;cases hs
     have:=M8 hz;simp only at this;subst this
     simp[bA]
    ·rw[Option.map_eq_some_iff]at h
     obtain⟨z,hz,rfl⟩:=h
     simp only at hs;cases hs
     have:=M8 hz;simp only at this;subst this
     simp[bA]
    ·cases h
   ·cases h
  ·cases h
 | next x b=>
  cases b with
  | false=>obtain⟨_,_,rfl⟩:=cn h;cases hs
  | true=>simp[aI]at h
 | entry x=>obtain⟨_,_,rfl⟩:=cn h;cases hs
 | _=>simp[aI]at h
theorem aeK {c:Site}{op:Op}{fr:Nat->DV}{st:List Ob}{r:Out}(h:aI P c op fr st=some r):∀t∈r.drop,t∈xQ c op:=by
 have fz:∀{x:DV}{r:Out},mV st x=some r->r.drop=[]:=fun {x r} h=>by
  unfold mV at h
  split at h
  ·split at h
   ·split at h
    ·cases h;rfl
    ·cases h
   ·cases h
  ·cases h
 cases op with
 | move x=>
  simp only[aI]at h
  split at h
  ·rename_i hm;cases h;simp[xQ,hm]
  ·split at h
   ·rw[fz h];simp
   ·cases h;simp
 | assign x=>
  simp only[aI]at h
  split at h
  ·rename_i hm;cases h;simp[xQ,hm]
  ·split at h
   ·rw[fz h];simp
   ·cases h;simp
 | store t x y=>
  simp only[aI]at h
  split at h
  ·rename_i hm
   simp only[Option.map_eq_some_iff]at h
   obtain⟨r0,⟨z,hz,rfl⟩,rfl⟩:=h
   rw[T5]
   simp[xQ,hm]
  ·simp only[Option.map_eq_some_iff]at h
   obtain⟨r0,⟨z,hz,rfl⟩,rfl⟩:=h
   rw[T5]
   simp
 | alloc t=>
  simp only[aI,Option.bind_eq_some_iff,Option.map_eq_some_iff]at h
  obtain⟨_,_,x,hx,rfl⟩:=h
  simp
 | box t x=>
  simp only[aI,Option.bind_eq_some_iff,Option.map_eq_some_iff]at h
  obtain⟨_,_,x,hx,rfl⟩:=h
  simp
 | makeSlice t x y=>
  simp only[aI]at h
  split at h
  ·split at h
   ·split at h
    ·split at h
     ·split at h
      ·rw[Option.map_eq_some_iff]at h
       obtain⟨_,_,rfl⟩:=h
       simp
      ·cases h
     ·rw[Option.map_eq_some_iff]at h
      obtain⟨x,hx,rfl⟩:=h
      simp
    ·cases h
   ·cases h
  ·cases h
 | buildSlice t n ps=>
  simp only[aI]at h
  split at h
  ·split at h
   ·split at h
    ·cases h
    ·split at h
     ·cases h
     ·split at h
      ·rw[Option.map_eq_some_iff]at h
       obtain⟨x,hx,rfl⟩:=h
       simp
      ·rw[Option.map_eq_some_iff]at h
       obtain⟨x,hx,rfl⟩:=h
       simp
   ·cases h
  ·cases h
 | load t x=>
  simp only[aI]at h
  split at h
  ·split at h
   ·split at h
    ·rw[Option.map_eq_some_iff]at h
     obtain⟨y,hy,rfl⟩:=h
     simp
    ·cases h
   ·cases h
  ·obtain⟨_,_,rfl⟩:=cn h
   simp
 | call k=>
  cases hk:k.callee with
  | builtin b=>
   simp only[aI,hk]at h
   split at h
   ·obtain⟨_,_,rfl⟩:=cn h;simp
   ·obtain⟨_,_,rfl⟩:=cn h;simp
   ·obtain⟨_,_,rfl⟩:=cn h;simp
   ·rename_i x y hl
    split at h
    ·split at h
     ·unfold mN at h
      split at h
      ·split at h
       ·cases h
       ·split at h
        ·cases h
        ·split at h
         ·cases h
         ·split at h
          ·split at h
           ·rw[Option.map_eq_some_iff]at h
            obtain⟨z,hz,rfl⟩:=h
            simp
           ·cases h
          ·split at h
           ·split at h
            ·split at h
             ·rw[Option.map_eq_some_iff]at h
              obtain⟨_,_,rfl⟩:=h
              simp
             ·cases h
            ·cases h
           ·split at h
            ·rw[Option.map_eq_some_iff]at h
             obtain⟨z,hz,rfl⟩:=h
             simp
            ·cases h
           ·cases h
      ·cases h
     ·rename_i ho
      rw[Option.map_eq_some_iff]at h
      obtain⟨_,_,rfl⟩:=h
      intro t ht
      simp only[xQ,hk,hl]
      rw[if_neg ho]
      simp only at ht
      split at ht
      ·exact ht
      ·simp at ht
    ·cases h
   ·rename_i x y hl
    split at h
    ·unfold mR at h
     split at h
     ·split at h
      ·split at h
       ·split at h
        ·cases h;simp
        ·cases h
       ·cases h
      ·cases h
     ·cases h
    ·cases h
   ·rename_i x hl
    split at h
    ·unfold oP at h
     split at h
     ·split at h
      ·split at h
       ·cases h;simp
       ·cases h
      ·cases h
     ·cases h
    ·cases h
   ·cases h
  | _=>simp[aI,hk]at h
 | pick b x y=>simp only[aI]at h;split at h<;>cases h;simp
 | nilCheck x=>simp only[aI]at h;split at h<;>cases h<;>simp
 | makeFunc fn xs ys=>cases fn<;>simp[aI]at h;subst h;simp
 | build t ps=>
  simp only[aI]at h
  split at h
  ·split at h
   ·obtain⟨_,_,rfl⟩:=cn h;simp
   ·cases h
  ·split at h
   ·obtain⟨_,_,rfl⟩:=cn h;simp
   ·cases h
  ·cases h
 | extract x i=>
  simp only[aI]at h
  split at h
  ·obtain⟨_,_,rfl⟩:=cn h;simp
  ·cases h
 | binOp op t x y u=>obtain⟨_,_,rfl⟩:=cn h;simp
 | unOp op t x=>obtain⟨_,_,rfl⟩:=cn h;simp
 | convert a b x=>obtain⟨_,_,rfl⟩:=cn h;simp
 | slice t x lo hi mx=>obtain⟨_,_,rfl⟩:=cn h;simp
 | fieldAddr t x f=>obtain⟨_,_,rfl⟩:=cn h;simp
 | field t x f=>obtain⟨_,_,rfl⟩:=cn h;simp
 | indexAddr t x y=>obtain⟨_,_,rfl⟩:=cn h;simp
 | index t x y=>obtain⟨_,_,rfl⟩:=cn h;simp
 | makeMap t rs=>
  cases rs with
  | some v=>simp[aI]at h
  | none=>
   simp only[aI,Option.map_eq_some_iff]at h
   obtain⟨x,hx,rfl⟩:=h
   simp
 | lookup t x i ok=>obtain⟨_,_,rfl⟩:=cn h;simp
 | mapUpdate t x i y=>
  simp only[aI,Option.map_eq_some_iff]at h
  obtain⟨z,hz,rfl⟩:=h
  simp
 | insert t x i y=>
  simp only[aI,Option.map_eq_some_iff]at h
  obtain⟨z,hz,rfl⟩:=h
  simp
 | range t x=>
  simp only[aI]at h
  unfold vq at h
  split at h
  ·split at h
   ·split at h
    ·rw[Option.map_eq_some_iff]at h
     obtain⟨z,hz,rfl⟩:=h
     simp
    ·rw[Option.map_eq_some_iff]at h
     obtain⟨z,hz,rfl⟩:=h
     simp
    ·cases h
   ·cases h
  ·cases h
 | next x b=>
  cases b with
  | false=>obtain⟨_,_,rfl⟩:=cn h;simp
  | true=>simp[aI]at h
 | entry x=>obtain⟨_,_,rfl⟩:=cn h;simp
 | _=>simp[aI]at h
def oS (g:de)(i:Nat):Option Tmp:=(g.ops[i]?).bind (·.dst)
def lC (P:Program)(rec:Rec)(g:de)(i:Nat)(fr:Nat->DV)(m:M):Option (DV×List Tmp×M):=
 match g.ops[i]? with
 | none=>some (.un,[],m)
 | some o=>
  if !qv g.nt o.dst then none else
  match oF g.ops o fr with
  | none=>none
  | some false=>some (.aX [],[],m)
  | some true=>
   match cK fr o.op with
   | some (.fn f xs ys,args)=>(jb P rec g.Γ (g.site i).own (g.site i).lc m f (xs++args++ys)).map fun(d,m)=>(d,[],m)
   | some (.yl j,args)=>(rec.round g.Γ j args m).map fun(d,m)=>(d,[],m)
   | some _=>none
   | none=>(aI P (g.site i) o.op fr m.st).map fun r=>(r.d,r.drop,eD m r.set)
def trans (fr:Nat->DV)(dst:Option Tmp)(d:DV)(drop:List Tmp):Nat->DV:=put (mS fr drop) dst d
theorem Wh {fr:Nat->DV}{dst:Option Tmp}{d:DV}{drop:List Tmp}{t:Nat}:trans fr dst d drop t=if dst=some t then d else if t∈drop then bx (fr t)else fr t:=by
 unfold trans
 by_cases h:dst=some t
 ·subst h;simp[put,lD]
 ·rw[Uz h,if_neg h]
  by_cases hm:t∈drop
  ·rw[RB hm,if_pos hm]
  ·rw[RE hm,if_neg hm]
theorem GX {rec:Rec}{g:de}{i:Nat}{s:S}:rq P rec g i s=(lC P rec g i s.fr s.m).map fun(d,drop,m)=>⟨trans s.fr (oS g i) d drop,m⟩:=by
 unfold rq lC oS
 cases ho:g.ops[i]? with
 | none=>rfl
 | some o=>
  simp only
  split
  ·rfl
  ·cases hw:oF g.ops o s.fr with
   | none=>rfl
   | some b=>
    cases b with
    | false=>rfl
    | true=>
     simp only[Option.bind_some]
     cases hc:cK s.fr o.op with
     | some x=>
      obtain⟨d,args⟩:=x
      cases d<;>first | rfl | (simp only[Option.map_map];rfl)
     | none=>simp only[Option.map_map];rfl
def looks (g:de)(i:Nat):List Tmp:=match g.ops[i]? with | some o=>CI g.ops o | none=>[]
def ou (g:de)(i:Nat):List Tmp:=match g.ops[i]? with | some o=>wz (g.site i) o | none=>[]
theorem Vw {rec:Rec}{g:de}{i:Nat}{fr:Nat->DV}{m m':M}{d:DV}{drop:List Tmp}(h:lC P rec g i fr m=some (d,drop,m')):(∀t,oS g i=some t->t∈ou g i)∧∀t∈drop,t∈ou g i:=by
 unfold lC at h
 unfold oS ou
 cases ho:g.ops[i]? with
 | none=>rw[ho]at h;cases h;exact⟨by simp,by simp⟩
 | some o=>
  rw[ho]at h
  simp only at h ⊢
  refine⟨fun t ht=>by simp at ht;simp[wz,ht],?_⟩
  split at h
  ·cases h
  ·split at h
   ·cases h
   ·cases h;simp
   ·split at h
    ·rw[Option.map_eq_some_iff]at h
     obtain⟨x,_,hh⟩:=h
     cases hh;simp
    ·rw[Option.map_eq_some_iff]at h
     obtain⟨x,_,hh⟩:=h
     cases hh;simp
    ·cases h
    ·rw[Option.map_eq_some_iff]at h
     obtain⟨x,hx,hh⟩:=h
     cases hh
     intro t ht
     exact List.mem_append_right _ (aeK hx t ht)
theorem apN {ops:Array Oper}{o:Oper}{fr fr':Nat->DV}(h:xA (CI ops o) fr fr'):oF ops o fr=oF ops o fr':=by
 unfold oF
 cases hg:o.guard with
 | none=>rfl
 | some p=>
  obtain⟨j,want⟩:=p
  simp only
  cases hd:(ops[j]?).bind (·.dst)with
  | none=>rfl
  | some t=>
   simp only
   rw[h t (by unfold CI;rw[hg];simp[hd])]
theorem VL {rec:Rec}{g:de}{i:Nat}{fr fr':Nat->DV}(h:xA (looks g i) fr fr')(m:M):lC P rec g i fr m=lC P rec g i fr' m∧k8 rec g i fr=k8 rec g i fr':=by
 unfold looks at h
 unfold lC k8
 cases ho:g.ops[i]? with
 | none=>exact⟨rfl,rfl⟩
 | some o=>
  rw[ho]at h
  simp only at h ⊢
  have hw:=apN h
  have du:=fun st=>aeO (P:=P) (c:=g.site i) (op:=o.op) (fr:=fr) (fr':=fr') (fun t ht=>h t (List.mem_append_left _ ht)) st
  rw[hw,(du m.st).2.2,(du m.st).1,(du m.st).2.1]
  exact⟨rfl,rfl⟩
def gQ (m:M)(l:List (Nat×Ob)):M:={ m with st:=l.foldl (fun st x=>st.set x.1 x.2) m.st}
theorem Vb (m:M)(o:Option (Nat×Ob)):gQ m o.toList=eD m o:=by
 cases o with
 | none=>rfl
 | some x=>rfl
def X2 (P:Program)(rec:Rec)(g:de)(i:Nat)(fr:Nat->DV)(A:List (Nat×Bool)):Prop:=
 ∀m:M,(lC P rec g i fr m=none∧∀m':M,(∀p∈A,m.st[p.1]? =m'.st[p.1]?)->lC P rec g i fr m'=none)∨
  ∃d drop set,(∀id o,(id,o)∈set->(id,true)∈A)∧∀m':M,(∀p∈A,m.st[p.1]? =m'.st[p.1]?)->lC P rec g i fr m'=some (d,drop,gQ m' set)
theorem ZZ {rec:Rec}{Γ:List (Nat×Ctx)}{lc:Option (List Nat)}{m:M}{f:FuncId}{args:List DV}(hp:rec.nj f=none)(h:args.all isClosed=true):jb P rec Γ false lc m f args=(if enters P f then(match rec.call [] f args ⟨[],[]⟩with | some (d,m')=>eF m'.st d | none=>none)else none).map fun d=>(d,m):=by
 unfold jb
 cases enters P f with
 | false=>rfl
 | true=>
  simp only[hp,h,Bool.not_true,Bool.false_eq_true,if_false,if_true]
  cases rec.call [] f args ⟨[],[]⟩with
  | none=>rfl
  | some x=>rfl
theorem MU:∀{aA:List Nat}{id j:Nat},idx aA id=some j->id∈aA
 | [],_,_,h=>by cases h
 | x::xs,id,j,h=>by
  unfold idx at h
  by_cases hx:x=id
  ·simp[hx]
  ·rw[if_neg hx]at h
   cases hi:idx xs id with
   | none=>rw[hi]at h;cases h
   | some k=>exact List.mem_cons_of_mem _ (MU hi)
mutual
theorem adx {aA:List Nat}{st st':List Ob}(h:∀id∈aA,st[id]? =st'[id]?):∀d:DV,cV aA st d=cV aA st' d
 | .ms id ver off len aV x=>by
  unfold cV
  cases hi:idx aA id with
  | none=>rfl
  | some j=>rw[h id (MU hi)]
 | .pt id ver off=>by
  unfold cV
  cases hi:idx aA id with
  | none=>rfl
  | some j=>rw[h id (MU hi)]
 | .agg ds=>by unfold cV;rw[vv h ds]
 | .aX ds=>by unfold cV;rw[vv h ds]
 | .fn f a b=>by unfold cV;rw[vv h a,vv h b]
 | .yl _=>by unfold cV;rfl
 | .er _=>by unfold cV;rfl
 | .mp .. =>by unfold cV;rfl
 | .mi .. =>by unfold cV;rfl
 | .un=>by unfold cV;rfl
 | .c v=>by unfold cV;rfl
 | .ap nl cs len aV=>by unfold cV;rfl
 | .ia cs off=>by unfold cV;rfl
theorem vv {aA:List Nat}{st st':List Ob}(h:∀id∈aA,st[id]? =st'[id]?):∀ds:List DV,eI aA st ds=eI aA st' ds
 | []=>by unfold eI;rfl
 | d::ds=>by unfold eI;rw[adx h d,vv h ds]
end
theorem TI {aA:List Nat}{st st':List Ob}(h:∀id∈aA,st[id]? =st'[id]?):∀ids:List Nat,(∀id∈ids,id∈aA)->kL aA st ids=kL aA st' ids
 | [],_=>by unfold kL;rfl
 | id::ids,hi=>by
  unfold kL
  rw[h id (hi id (by simp)),TI h ids (fun x hx=>hi x (by simp[hx]))]
  cases st'[id]? with
  | none=>rfl
  | some o=>simp only[vv h o.cs]
def kR (aA vs:List Nat):List Nat->List Nat->List Ob->Option (List (Nat×Ob))
 | [],[],_=>some []
 | id::ids,v::ws,o::os=>match eN aA vs o.cs with
  | some cs=>(kR aA vs ids ws os).map fun l=>(id,⟨v+(o.ver - 1),cs⟩)::l
  | none=>none
 | _,_,_=>none
theorem Ux {aA vs:List Nat}:∀(ids ws:List Nat) (os:List Ob) (st:List Ob),jD aA vs ids ws os st=(kR aA vs ids ws os).map fun l=>l.foldl (fun st x=>st.set x.1 x.2) st
 | [],[],_,st=>by simp[jD,kR]
 | [],w::ws,os,st=>by simp[jD,kR]
 | id::ids,[],os,st=>by simp[jD,kR]
 | id::ids,w::ws,[],st=>by simp[jD,kR]
 | id::ids,w::ws,o::os,st=>by
  simp only[jD,kR]
  cases eN aA vs o.cs with
  | none=>rfl
  | some cs=>
   simp only[Ux ids ws os,Option.map_map]
   rfl
theorem UD {aA vs:List Nat}:∀{ids ws:List Nat}{os:List Ob}{l:List (Nat×Ob)},kR aA vs ids ws os=some l->∀id o,(id,o)∈l->id∈ids
 | [],[],_,l,h,id,o,hm=>by simp[kR]at h;subst h;cases hm
 | [],w::ws,os,l,h,id,o,hm=>by simp[kR]at h
 | x::ids,[],os,l,h,id,o,hm=>by simp[kR]at h
 | x::ids,w::ws,[],l,h,id,o,hm=>by simp[kR]at h
 | x::ids,w::ws,y::os,l,h,id,o,hm=>by
  simp only[kR]at h
  cases hb:eN aA vs y.cs with
  | none=>rw[hb]at h;cases h
  | some cs=>
   rw[hb]at h
   simp only[Option.map_eq_some_iff]at h
   obtain⟨l',h1,rfl⟩:=h
   rcases List.mem_cons.1 hm with hm | hm
   ·cases hm;simp
   ·exact List.mem_cons_of_mem _ (UD h1 id o hm)
def tG (rec:Rec)(aA:List Nat)(f:FuncId)(args:List DV)(m:M):Option (DV×List (Nat×Ob)):=
 if !nd aA then none else
 match kL aA m.st aA,eI aA m.st args with
 | some st0,some ky=>
  match rec.call [] f ky ⟨st0,[]⟩with
  | some (d,m1)=>match nL aA.length d m1.st with
   | some (d,os)=>match dm aA (gC m.st aA) d,kR aA (gC m.st aA) aA (gC m.st aA) os with
    | some d,some l=>some (d,l)
    | _,_=>none
   | none=>none
  | none=>none
 | _,_=>none
theorem ady (rec:Rec)(aA:List Nat)(f:FuncId)(args:List DV)(m:M):vz rec aA m f args=(tG rec aA f args m).map fun x=>(x.1,gQ m x.2):=by
 unfold vz tG
 by_cases hn:nd aA=true
 case neg=>rw[if_pos (by simpa using hn),if_pos (by simpa using hn)];rfl
 rw[if_neg (by simpa using hn),if_neg (by simpa using hn)]
 cases kL aA m.st aA with
 | none=>rfl
 | some st0=>
  cases eI aA m.st args with
  | none=>rfl
  | some ky=>
   simp only
   cases rec.call [] f ky ⟨st0,[]⟩with
   | none=>rfl
   | some x=>
    obtain⟨d,m1⟩:=x
    simp only
    cases nL aA.length d m1.st with
    | none=>rfl
    | some y=>
     obtain⟨d2,os⟩:=y
     simp only[xG,Ux]
     cases dm aA (gC m.st aA) d2 with
     | none=>rfl
     | some d3=>
      cases kR aA (gC m.st aA) aA (gC m.st aA) os with
      | none=>rfl
      | some l=>rfl
theorem Vm (rec:Rec)(aA:List Nat)(f:FuncId)(args:List DV){m m':M}(h:∀id∈aA,m.st[id]? =m'.st[id]?):tG rec aA f args m=tG rec aA f args m':=by
 unfold tG
 have h2:gC m.st aA=gC m'.st aA:=by
  unfold gC
  exact List.map_congr_left fun id hid=>by rw[h id hid]
 rw[TI h aA (fun _ hx=>hx),h2,vv h args]
theorem agI {rec:Rec}{aA:List Nat}{f:FuncId}{args:List DV}{m:M}{r:DV×List (Nat×Ob)}(h:tG rec aA f args m=some r):∀id o,(id,o)∈r.2->id∈aA:=by
 unfold tG at h
 split at h
 ·cases h
 split at h
 ·split at h
  ·split at h
   ·split at h
    ·rename_i hl
     cases h
     exact UD hl
    ·cases h
   ·cases h
  ·cases h
 ·cases h
theorem Gg {rec:Rec}(ey:∀f p,rec.nj f=some p->jL P f p){g:de}{i:Nat}{fr:Nat->DV}{A:List (Nat×Bool)}(h:k8 rec g i fr=some A):X2 P rec g i fr A:=by
 intro m
 unfold k8 at h
 unfold lC
 cases ho:g.ops[i]? with
 | none=>exact .inr ⟨.un,[],[],by simp,fun m' _=>rfl⟩
 | some o=>
  rw[ho]at h
  simp only at h ⊢
  by_cases hd:qv g.nt o.dst=true
  ·simp only[hd,Bool.not_true,Bool.false_eq_true,if_false]
   cases hw:oF g.ops o fr with
   | none=>exact .inl ⟨rfl,fun m' _=>rfl⟩
   | some b=>
    cases b with
    | false=>exact .inr ⟨.aX [],[],[],by simp,fun m' _=>rfl⟩
    | true=>
     rw[hw]at h
     simp only at h ⊢
     cases hc:cK fr o.op with
     | some x=>
      obtain⟨d,args⟩:=x
      rw[hc]at h
      cases d with
      | fn f xs ys=>
       simp only at h ⊢
       cases hp:rec.nj f with
       | some p=>
        rw[hp]at h
        cases h
        have S1:=ey f p hp
        simp only[jb,hp]
        cases enters P f with
        | false=>exact .inl ⟨rfl,fun m' _=>rfl⟩
        | true=>
         simp only[Bool.not_true,Bool.false_eq_true,if_false]
         have Cc:∀m':M,(∀q∈((xs++args++ys).flatMap refsOf).map (fun i=>(i,true)),m.st[q.1]? =m'.st[q.1]?)->p m.st (xs++args++ys)=p m'.st (xs++args++ys):=fun m' hm=>
          S1.same _ _ _ fun id hid=>hm (id,true) (List.mem_map.2 ⟨id,hid,rfl⟩)
         cases hr:p m.st (xs++args++ys)with
         | none=>exact .inl ⟨rfl,fun m' hm=>by rw[←Cc m' hm,hr];rfl⟩
         | some r=>
          refine .inr ⟨r.d,[],r.set.toList,fun id o hs=>List.mem_map.2 ⟨id,S1.set _ _ _ hr id o (by simpa using hs),rfl⟩,fun m' hm=>?_⟩
          rw[←Cc m' hm,hr,Vb];rfl
       | none=>
        rw[hp]at h
        simp only at h
        split at h
        ·rename_i hh
         cases h
         have m8:(g.site i).own=false:=by simpa using hh.2
         rw[m8]
         simp only[ZZ hp hh.1]
         generalize (if enters P f=true then(match rec.call [] f (xs++args++ys) ⟨[],[]⟩with | some (d,m')=>eF m'.st d | none=>none)else none)=res
         cases res with
         | none=>exact .inl ⟨rfl,fun m' _=>rfl⟩
         | some d=>exact .inr ⟨d,[],[],by simp,fun m' _=>by simp[gQ]⟩
        ·split at h
         ·rename_i aA fO BY
          cases h
          have u3:∀m':M,jb P rec g.Γ (g.site i).own (g.site i).lc m' f (xs++args++ys)=if enters P f=true then vz rec aA m' f (xs++args++ys)else none:=fun m'=>by
           unfold jb
           cases enters P f with
           | false=>rfl
           | true=>simp only[hp,fO,BY,Bool.not_true,Bool.false_eq_true,if_false,if_true]
          simp only[u3]
          cases enters P f with
          | false=>exact .inl ⟨rfl,fun m' _=>rfl⟩
          | true=>
           simp only[if_true,ady]
           have sH:∀m':M,(∀p∈aA.map (fun id=>(id,true)),m.st[p.1]? =m'.st[p.1]?)->∀id∈aA,m.st[id]? =m'.st[id]? :=fun m' hm id hid=>hm (id,true) (List.mem_map.2 ⟨id,hid,rfl⟩)
           cases l9:tG rec aA f (xs++args++ys) m with
           | none=>exact .inl ⟨rfl,fun m' hm=>by rw[←Vm rec aA f _ (sH m' hm),l9];rfl⟩
           | some r=>exact .inr ⟨r.1,[],r.2,fun cr o hs=>List.mem_map.2 ⟨cr,agI l9 cr o hs,rfl⟩,fun m' hm=>by rw[←Vm rec aA f _ (sH m' hm),l9];rfl⟩
         ·cases h
      | _=>simp at h
     | none=>
      rw[hc]at h
      cases h
      simp only
      cases hr:aI P (g.site i) o.op fr m.st with
      | none=>exact .inl ⟨rfl,fun m' hm=>by rw[←Ui hm,hr];rfl⟩
      | some r=>
       refine .inr ⟨r.d,r.drop,r.set.toList,fun id o hs=>aeM hr (by simpa using hs),fun m' hm=>?_⟩
       rw[←Ui hm,hr,Vb]
       simp
  ·have eO:qv g.nt o.dst=false:=by simpa using hd
   simp only[eO,Bool.not_false,if_true]
   exact .inl (by simp)
end
end Go.Abs
namespace Go.Abs
open Go
variable [Fl]
variable [Gl]
section
variable {P:Program}{rec:Rec}{g:de}{A:Nat->Option (List (Nat×Bool))}{fin:S}
inductive Good (P:Program)(rec:Rec)(g:de)(A:Nat->Option (List (Nat×Bool)))(fin:S):List Nat->S->Prop
 | nil:Good P rec g A fin [] fin
 | cons {i:Nat}{is:List Nat}{s s':S} (ha:k8 rec g i s.fr=A i) (h:rq P rec g i s=some s') (t:Good P rec g A fin is s'):Good P rec g A fin (i::is) s
structure Lo (rec:Rec)(g:de)(A:Nat->Option (List (Nat×Bool)))(j i:Nat):Prop where
 look:∀t∈ou g j,t ∉ looks g i
 TK:∀t∈ou g i,t ∉ looks g j
 dst:∀t∈ou g j,t ∉ ou g i
 acc:(∀fr,k8 rec g j fr=some [])∨(∀fr,k8 rec g i fr=some [])∨∃X Y,A j=some X∧A i=some Y∧qu (some X) (some Y)=true
theorem U2 {ts:List Tmp}{fr:Nat->DV}{dst:Option Tmp}{d:DV}{drop:List Tmp}(h:∀t,dst=some t->t ∉ ts)(h2:∀t∈drop,t ∉ ts):xA ts (trans fr dst d drop) fr:=fun t ht=>by
 rw[Wh,if_neg (fun hh=>h t hh ht),if_neg (fun hh=>h2 t hh ht)]
theorem aij {fr:Nat->DV}{x y:Option Tmp}{c d:DV}{p q S T:List Tmp}(hx:∀t,x=some t->t∈S)(hp:∀t∈p,t∈S)(hy:∀t,y=some t->t∈T)(hq:∀t∈q,t∈T)(hd:∀t∈S,t ∉ T):
  trans (trans fr x c p) y d q=trans (trans fr y d q) x c p:=by
 funext t
 simp only[Wh]
 by_cases hS:t∈S
 ·have hT:=hd t hS
  rw[if_neg (fun hh=>hT (hy t hh)),if_neg (fun hh=>hT (hq t hh)),if_neg (fun hh=>hT (hy t hh)),if_neg (fun hh=>hT (hq t hh))]
 ·rw[if_neg (fun hh=>hS (hx t hh)),if_neg (fun hh=>hS (hp t hh)),if_neg (fun hh=>hS (hx t hh)),if_neg (fun hh=>hS (hp t hh))]
theorem af6 {m:M}{set:Option (Nat×Ob)}{k:Nat}(h:∀id o,set=some (id,o)->id≠k):(eD m set).st[k]? =m.st[k]? :=by
 cases set with
 | none=>rfl
 | some x=>obtain⟨id,o⟩:=x;simp only[eD];rw[List.getElem?_set_ne (h id o rfl)]
theorem af5 {m:M}{x y:Option (Nat×Ob)}(h:∀i o j p,x=some (i,o)->y=some (j,p)->i≠j):eD (eD m x) y=eD (eD m y) x:=by
 cases x with
 | none=>cases y<;>rfl
 | some x=>
  obtain⟨i,o⟩:=x
  cases y with
  | none=>rfl
  | some y=>obtain⟨j,p⟩:=y;simp only[eD];rw[List.set_comm _ _ (h i o j p rfl rfl)]
theorem N6 {k:Nat}:∀{set:List (Nat×Ob)}{m:M},(∀id o,(id,o)∈set->id≠k)->(gQ m set).st[k]? =m.st[k]?
 | [],m,_=>rfl
 | (id,o)::l,m,h=>by
  have e:=N6 (set:=l) (m:=eD m (some (id,o))) (fun i o' hm=>h i o' (List.mem_cons_of_mem _ hm))
  have e2:(eD m (some (id,o))).st[k]? =m.st[k]? :=af6 fun i o' hs=>by cases hs;exact h id o (by simp)
  exact e.trans e2
theorem Va:∀{y:List (Nat×Ob)}{m:M}{i:Nat}{o:Ob},(∀j p,(j,p)∈y->i≠j)->gQ (eD m (some (i,o))) y=eD (gQ m y) (some (i,o))
 | [],m,i,o,_=>rfl
 | (j,p)::l,m,i,o,h=>by
  have e:eD (eD m (some (i,o))) (some (j,p))=eD (eD m (some (j,p))) (some (i,o)):=af5 fun a b c d h1 h2=>by cases h1;cases h2;exact h j p (by simp)
  have e2:=Va (y:=l) (m:=eD m (some (j,p))) (i:=i) (o:=o) (fun a b hm=>h a b (List.mem_cons_of_mem _ hm))
  show gQ (eD (eD m (some (i,o))) (some (j,p))) l=_
  rw[e,e2];rfl
theorem U9:∀{x y:List (Nat×Ob)}{m:M},(∀i o j p,(i,o)∈x->(j,p)∈y->i≠j)->gQ (gQ m x) y=gQ (gQ m y) x
 | [],y,m,_=>rfl
 | (i,o)::l,y,m,h=>by
  have e:=U9 (x:=l) (y:=y) (m:=eD m (some (i,o))) (fun a b c d h1 h2=>h a b c d (List.mem_cons_of_mem _ h1) h2)
  have e2:=Va (y:=y) (m:=m) (i:=i) (o:=o) (fun j p hm=>h i o j p (by simp) hm)
  show gQ (gQ (eD m (some (i,o))) l) y=gQ (eD (gQ m y) (some (i,o))) l
  rw[e,e2]
theorem Ly {X Y:List (Nat×Bool)}(h:qu (some X) (some Y)=true){x y:Nat×Bool}(hx:x∈X)(hy:y∈Y)(hw:x.2=true∨y.2=true):x.1≠y.1:=by
 simp only[qu]at h
 have:=(List.all_eq_true.1 ((List.all_eq_true.1 h) x hx)) y hy
 rcases hw with hw | hw<;>simp[hw]at this<;>exact this
theorem Good.swap (ey:∀f p,rec.nj f=some p->jL P f p){j i:Nat}{β:List Nat}{s:S}(hl:Lo rec g A j i)(h:Good P rec g A fin (j::i::β) s):Good P rec g A fin (i::j::β) s:=by
 cases h with
 | cons Sv hj h=>
  rename_i s1
  cases h with
  | cons Fw hi t=>
   rename_i s2
   rw[GX,Option.map_eq_some_iff]at hj
   obtain⟨⟨dj,pj,m1⟩,ej,rfl⟩:=hj
   rw[GX,Option.map_eq_some_iff]at hi
   obtain⟨⟨di,pi,m2⟩,ei,rfl⟩:=hi
   simp only at Fw ei t
   obtain⟨We,Wf⟩:=Vw ej
   obtain⟨Wa,Wb⟩:=Vw ei
   have hsi:xA (looks g i) (trans s.fr (oS g j) dj pj) s.fr:=U2 (fun t ht=>hl.look t (We t ht)) (fun t ht=>hl.look t (Wf t ht))
   obtain⟨q1,q2⟩:=VL (P:=P) (rec:=rec) hsi m1
   rw[q1]at ei;rw[q2]at Fw
   have mem:∃yD,lC P rec g i s.fr s.m=some (di,pi,yD)∧lC P rec g j s.fr yD=some (dj,pj,m2):=by
    rcases hl.acc with hq | hq | ⟨X,Y,hX,hY,hc⟩
    ·rcases Gg (rec:=rec) (P:=P) ey (hq s.fr) s.m with ⟨h0,_⟩ | ⟨d,p,set,h1,h2⟩
     ·rw[h0]at ej;cases ej
     ·have nY:set=[]:=by
       cases set with
       | nil=>rfl
       | cons x l=>have:=h1 x.1 x.2 (by simp);simp at this
      subst nY
      have e1:=h2 s.m (by simp)
      rw[ej]at e1
      injection e1 with e1
      injection e1 with e1 e2
      injection e2 with e2 e3
      have Bf:m1=s.m:=e3
      subst e1;subst e2;subst Bf
      exact⟨m2,ei,h2 m2 (by simp)⟩
    ·rcases Gg (rec:=rec) (P:=P) ey (hq s.fr) m1 with ⟨h0,_⟩ | ⟨d,p,set,h1,h2⟩
     ·rw[h0]at ei;cases ei
     ·have nY:set=[]:=by
       cases set with
       | nil=>rfl
       | cons x l=>have:=h1 x.1 x.2 (by simp);simp at this
      subst nY
      have e1:=h2 m1 (by simp)
      rw[ei]at e1
      injection e1 with e1
      injection e1 with e1 e2
      injection e2 with e2 e3
      have Bf:m2=m1:=e3
      subst e1;subst e2;subst Bf
      exact⟨s.m,h2 s.m (by simp),ej⟩
    ·rcases Gg (rec:=rec) (P:=P) ey (Sv.trans hX) s.m with ⟨h0,_⟩ | ⟨d,p,sj,h1,h2⟩
     ·rw[h0]at ej;cases ej
     ·have e1:=h2 s.m (fun _ _=>rfl)
      rw[ej]at e1
      injection e1 with e1
      injection e1 with e1 e2
      injection e2 with e2 e3
      subst e1;subst e2;subst e3
      rcases Gg (rec:=rec) (P:=P) ey (Fw.trans hY) (gQ s.m sj)with ⟨h0,_⟩ | ⟨d',p',si,h3,h4⟩
      ·rw[h0]at ei;cases ei
      ·have e3:=h4 (gQ s.m sj) (fun _ _=>rfl)
       rw[ei]at e3
       injection e3 with e3
       injection e3 with e3 e4
       injection e4 with e4 e5
       subst e3;subst e4;subst e5
       have Ye:∀p∈Y,(gQ s.m sj).st[p.1]? =s.m.st[p.1]? :=fun p hp=>N6 fun id o hs=>Ly hc (h1 id o hs) hp (.inl rfl)
       have Yd:∀p∈X,s.m.st[p.1]? =(gQ s.m si).st[p.1]? :=fun p hp=>(N6 fun id o hs=>(Ly hc hp (h3 id o hs) (.inr rfl)).symm).symm
       refine⟨gQ s.m si,h4 s.m Ye,?_⟩
       rw[h2 (gQ s.m si) Yd,U9 fun i o j p hi hj=>(Ly hc (h1 j p hj) (h3 i o hi) (.inl rfl)).symm]
   obtain⟨yD,f1,f3⟩:=mem
   have MM:xA (looks g j) (trans s.fr (oS g i) di pi) s.fr:=U2 (fun t ht=>hl.TK t (Wa t ht)) (fun t ht=>hl.TK t (Wb t ht))
   obtain⟨q4,q5⟩:=VL (P:=P) (rec:=rec) MM yD
   refine .cons Fw (s':=⟨trans s.fr (oS g i) di pi,yD⟩) (by rw[GX,f1];rfl) (.cons (by rw[q5];exact Sv) (s':=⟨trans (trans s.fr (oS g i) di pi) (oS g j) dj pj,m2⟩) ?_ ?_)
   ·rw[GX]
    show(lC P rec g j (trans s.fr (oS g i) di pi) yD).map _=_
    rw[q4,f3];rfl
   ·rw[←aij We Wf Wa Wb hl.dst];exact t
theorem Good.Q2 (ey:∀f p,rec.nj f=some p->jL P f p){i:Nat}{β:List Nat}:∀{α:List Nat}{s:S},(∀j∈α,Lo rec g A j i)->Good P rec g A fin (α++i::β) s->Good P rec g A fin (i::(α++β)) s
 | [],s,_,h=>h
 | j::α,s,hl,h=>by
  cases h with
  | cons ha hj t=>exact Good.swap ey (hl j (by simp)) (.cons ha hj (Good.Q2 ey (fun k hk=>hl k (by simp[hk])) t))
theorem ahZ (is:List Nat):∀(s:S) (as:List (Option (List (Nat×Bool)))),wh P rec g is s=some (fin,as)->as.length=is.length∧∀B,(∀(k:Nat) i,is[k]? =some i->as[k]? =some (B i))->Good P rec g B fin is s:=by
 induction is with
 | nil=>intro s as h;simp only[wh]at h;cases h;exact⟨rfl,fun B _=>.nil⟩
 | cons i is ih=>
  intro s as h
  simp only[wh]at h
  split at h
  ·skip
   ·rename_i s' hs
    rw[Option.map_eq_some_iff]at h
    obtain⟨⟨r,YH⟩,h1,h2⟩:=h
    cases h2
    obtain⟨h3,h4⟩:=ih s' YH h1
    refine⟨by simp[h3],fun B hB=>.cons (by have:=hB 0 i rfl;simpa using this) hs (h4 B fun k i' hk=>by have:=hB (k+1) i' (by simpa using hk);simpa using this)⟩
  ·cases h
def Down (ops:Array Oper)(L:Nat->Prop):Prop:=∀(k:Nat) o,ops[k]? =some o->L k->∀e∈o.after,Region.binds .any e=true->L e.on
theorem TN {acc:List Nat}{j:Nat}:∀{es:List Edge},(vB acc es).testBit j=true->∃e∈es,j=e.on∨(acc.getD e.on 0).testBit j=true
 | [],h=>by simp[vB]at h
 | e::es,h=>by
  simp only[vB,Nat.testBit_or,Bool.or_eq_true,Nat.one_shiftLeft,Nat.testBit_two_pow,decide_eq_true_eq]at h
  rcases h with (h | h) | h
  ·exact⟨e,by simp,.inl h.symm⟩
  ·exact⟨e,by simp,.inr h⟩
  ·obtain⟨e',h1,h2⟩:=TN h
   exact⟨e',by simp[h1],h2⟩
theorem ae4 {ops:Array Oper}{L:Nat->Prop}(hL:Down ops L):∀(i:Nat) (o:Oper),ops[i]? =some o->(∀e∈o.after,Region.binds .any e=true->L e.on)->∀j,((NU ops).getD i 0).testBit j=true->L j:=by
 let f:List Nat->Oper->List Nat:=fun acc o=>acc++[vB acc (o.after.toList.filter fun e=>Region.binds .any e)]
 have key:∀(l:List Oper) (acc:List Nat),(∀k (o:Oper),l[k]? =some o->ops[acc.length+k]? =some o)->
   (∀k (o:Oper),k<acc.length->ops[k]? =some o->(∀e∈o.after,Region.binds .any e=true->L e.on)->∀j,(acc.getD k 0).testBit j=true->L j)->
   (∀k (o:Oper),k<acc.length+l.length->ops[k]? =some o->(∀e∈o.after,Region.binds .any e=true->L e.on)->∀j,((l.foldl f acc).getD k 0).testBit j=true->L j):=fun l=>by
  induction l with
  | nil=>intro acc _ h k o hk;exact h k o (by simpa using hk)
  | cons x l ih=>
   intro acc h0 h k o hk
   simp only[List.foldl_cons]
   refine ih (f acc x) (fun k o hk=>?_) (fun k o hk ho gJ j hj=>?_) k o (by simp[f]at hk ⊢;omega)
   ·have:=h0 (k+1) o (by simpa using hk)
    simp only[f,List.length_append,List.length_cons,List.length_nil]
    rw[show acc.length+(0+1)+k=acc.length+(k+1) by omega];exact this
   ·simp only[f,List.length_append,List.length_cons,List.length_nil]at hk
    rcases Nat.lt_or_ge k acc.length with aQ | cw
    ·have:(f acc x).getD k 0=acc.getD k 0:=by simp[f,List.getElem?_append_left aQ]
     rw[this]at hj
     exact h k o aQ ho gJ j hj
    ·have hke:k=acc.length:=by omega
     subst hke
     have hxo:x=o:=by have:=h0 0 x rfl;rw[Nat.add_zero,ho]at this;cases this;rfl
     subst hxo
     have:(f acc x).getD acc.length 0=vB acc (x.after.toList.filter fun e=>Region.binds .any e):=by simp[f]
     rw[this]at hj
     obtain⟨e,he,hj⟩:=TN hj
     rw[List.mem_filter]at he
     have Sq:=gJ e (by simpa using he.1) he.2
     rcases hj with rfl | hj
     ·exact Sq
     ·rcases Nat.lt_or_ge e.on acc.length with h1 | h1
      ·have aQ:e.on<ops.size:=by
        have:=(Array.getElem?_eq_some_iff.1 ho).1
        omega
       have du:ops[e.on]? =some ops[e.on]:=Array.getElem?_eq_getElem aQ
       exact h e.on _ h1 du (hL e.on _ du Sq) j hj
      ·simp[h1]at hj
 intro i o ho gJ j hj
 refine key ops.toList [] (fun k o hk=>by simpa using hk) (fun k o hk=>by simp at hk) i o ?_ ho gJ j hj
 have:=(Array.getElem?_eq_some_iff.1 ho).1
 simpa using this
theorem UI {i:Nat}{o:Oper}(ho:g.ops[i]? =some o)(h:rm (g.site i) o.op=true)(fr:Nat->DV):k8 rec g i fr=some []:=by
 unfold k8
 rw[ho]
 simp only
 split
 ·have hc:cK fr o.op=none:=by
   unfold cK
   split
   ·rename_i k hk
    split
    ·rename_i gx hg
     rw[hk]at h
     unfold rm at h
     split at h<;>simp_all
    ·rfl
   ·rfl
  rw[hc]
  simp only
  unfold rm at h
  split at h<;>simp_all [bA]
 ·rfl
end
end Go.Abs
namespace Go.Abs
open Go
variable [Fl]
variable [Gl]
section
variable {P:Program}{n0:Nat}{PR:Addr->Prop}{Γ:List (Nat×Ctx)}{e e':E}{al reg':Own->Addr->Prop}{m:M}{r:Option Nat}{k0 nt:Nat}{fr:Nat->DV}{a:Act}{rec:Rec}{g:de}{A:Nat->Option (List (Nat×Bool))}{fin:S}
theorem adu {as:List (Option (List (Nat×Bool)))}(hA:∀i,A i=as.getD i none)(h1:xP g=true)(h2:(CK g).all (fun(j,i)=>qu (as.getD j none) (as.getD i none))=true){j i:Nat}{oi oj:Oper}(hi:g.ops[i]? =some oi)(hj:g.ops[j]? =some oj)
  (bM:j<i) (hn:¬((NU g.ops).getD i 0).testBit j=true):Lo rec g A j i:=by
 have fF:(j,i)∈Gi g.ops:=by
  unfold Gi
  refine List.mem_flatMap.2 ⟨i,by have:=(Array.getElem?_eq_some_iff.1 hi).1;simpa using this,List.mem_map.2 ⟨j,List.mem_filter.2 ⟨by simpa using bM,?_⟩,rfl⟩⟩
  simpa using hn
 simp only[xP,E6,Bool.and_eq_true]at h1
 have nP:=List.all_eq_true.1 h1.2 (j,i) fF
 simp only[hi,hj]at nP
 simp only[Ql,Bool.and_eq_true,aii]at nP
 refine⟨fun t ht hl=>?_,fun t ht hl=>?_,fun t ht FT=>?_,?_⟩
 ·simp only[ou,hj]at ht
  have:=List.all_eq_true.1 nP.1 t ht
  simp only[looks,hi]at hl
  simp[hl]at this
 ·simp only[ou,hi]at ht
  have:=List.all_eq_true.1 nP.2 t ht
  simp only[looks,hj]at hl
  simp[hl]at this
 ·simp only[ou,hj]at ht
  simp only[ou,hi]at FT
  have:=List.all_eq_true.1 nP.1 t ht
  simp[FT]at this
 ·by_cases qj:rm (g.site j) oj.op=true
  ·exact .inl fun fr=>UI hj qj fr
  ·by_cases qi:rm (g.site i) oi.op=true
   ·exact .inr (.inl fun fr=>UI hi qi fr)
   ·have acf:(j,i)∈CK g:=by
     unfold CK Nh
     refine List.mem_filter.2 ⟨fF,?_⟩
     simp only[hi,hj]
     simp[qi,qj,afb]
    have hc:=List.all_eq_true.1 h2 (j,i) acf
    simp only at hc
    rw[←hA,←hA]at hc
    cases hX:A j with
    | none=>rw[hX]at hc;simp[qu]at hc
    | some X=>
     cases hY:A i with
     | none=>rw[hX,hY]at hc;simp[qu]at hc
     | some Y=>rw[hX,hY]at hc;exact .inr (.inr ⟨X,Y,rfl,rfl,hc⟩)
theorem abO {l:Array Bool}{i:Nat}(hi:i<l.size)(h:¬l.getD i true=false):l.getD i false=true:=by
 simp[Array.getD_eq_getD_getElem?,hi]at *
 exact h
theorem Sh {l:Array Bool}{i:Nat}(h:l.getD i false=true):¬l.getD i true=false:=by
 rcases Nat.lt_or_ge i l.size with aQ | cw
 ·simp[Array.getD_eq_getD_getElem?,aQ]at *;exact h
 ·simp[Array.getD_eq_getD_getElem?,Array.getElem?_eq_none cw]at *
theorem Yv (hc:oI P rec)(cR:sg P rec){as:List (Option (List (Nat×Bool)))}(hA:∀i,A i=as.getD i none)(h1:xP g=true)(h2:(CK g).all (fun(j,i)=>qu (as.getD j none) (as.getD i none))=true)
  (hΓ:g.Γ=Γ) (yg:g.nt=nt) (Q:Exit->Act->World->Prop) (n:Nat):∀(fuel:Nat) (ρ:List Nat) (s4:Array Bool) (s:S) (a:Act) (e:E) (al:Own->Addr->Prop),ρ.length=fuel->ρ.Pairwise (·<·)->s4.size=g.ops.size->
   (∀i,s4.getD i true=false↔i∈ρ)->Down g.ops (fun k=>k ∉ ρ)->(∀i∈ρ,i<g.ops.size)->Good P rec g A fin ρ s->St n0 PR Γ e al s.m->iD al->Fr r k0 nt Γ e al s.fr a->Next n0 PR Γ r k0 nt e fin (fun a w=>Q .normal a w)->
   wpAnyIn (kb r) n P .any g.ops Q fuel s4 a e.w:=by
 intro fuel
 induction fuel with
 | zero=>
  intro ρ s4 s a e al hl hp hs sP hd hb hg st bt hf hK
  have:ρ=[]:=List.eq_nil_of_length_eq_zero hl
  subst this
  refine⟨?_,?_⟩
  ·rw[List.eq_nil_iff_forall_not_mem]
   intro j hj
   have:=(sP j).1 (mem_ready.1 hj).1
   simp at this
  ·cases hg
   exact hK a e al st bt hf (To.refl ..)
 | succ fuel ih=>
  intro ρ s4 s a e al hl hp hs sP hd hb hg st bt hf hK
  refine⟨fun h0=>?_,fun i hi=>?_⟩
  ·-- Dw least one is ready
   cases ρ with
   | nil=>simp at hl
   | cons i0 ρ=>
    exfalso
    have aQ:i0<g.ops.size:=hb i0 (by simp)
    have ho:g.ops[i0]? =some g.ops[i0]:=Array.getElem?_eq_getElem aQ
    have:i0∈Region.ready .any g.ops s4:=by
     refine mem_ready.2 ⟨(sP i0).2 (by simp),_,ho,fun ed kF nQ=>?_⟩
     simp only[xP,E6,Bool.and_eq_true]at h1
     have hz:(g.ops[i0],i0)∈g.ops.toList.zipIdx:=by
      rw[List.mem_zipIdx_iff_getElem?]
      simp
     have:=List.all_eq_true.1 h1.1 _ hz
     simp only at this
     have:=List.all_eq_true.1 this ed (by simpa using kF)
     simp only[nQ,Bool.not_true,Bool.false_or,decide_eq_true_eq]at this
     refine abO (by omega) fun hh=>?_
     have hm:=(sP ed.on).1 hh
     rcases List.mem_cons.1 hm with hm | hm
     ·omega
     ·have:=(List.pairwise_cons.1 hp).1 _ hm;omega
    rw[h0]at this
    cases this
  ·obtain⟨hun,o,ho,gJ⟩:=mem_ready.1 hi
   have hm:i∈ρ:=(sP i).1 hun
   obtain⟨α,β,rfl⟩:=List.append_of_mem hm
   have hpw:=hp
   rw[List.pairwise_append]at hp
   obtain⟨jh,ij,S0⟩:=hp
   rw[List.pairwise_cons]at ij
   have Th:∀j∈α,j<i:=fun j hj=>S0 j hj i (by simp)
   have qK:∀j∈α,Lo rec g A j i:=fun j hj=>by
    have acb:j<g.ops.size:=hb j (by simp[hj])
    have hoj:g.ops[j]? =some g.ops[j]:=Array.getElem?_eq_getElem acb
    refine adu hA h1 h2 ho hoj (Th j hj) fun hpj=>?_
    have:=ae4 hd i o ho (fun ed kF nQ fF=>Sh (gJ ed kF nQ) ((sP _).2 fF)) j hpj
    exact this (by simp[hj])
   have dt:=Good.Q2 hc.nj qK hg
   cases dt with
   | cons hac bz t=>
    rename_i s1
    refine VM hc cR bz hΓ yg st bt hf (K:=wpAnyIn (kb r) n P .any g.ops Q fuel (s4.setIfInBounds i true)) (fun a' e' reg' st' yk l6 to=>?_) Q n
    have vd:∀j,j∈α++β↔(j∈α++i::β∧j≠i):=fun j=>by
     constructor
     ·intro hj
      rcases List.mem_append.1 hj with hj | hj
      ·exact⟨by simp[hj],by have:=Th j hj;omega⟩
      ·exact⟨by simp[hj],by have:=ij.1 j hj;omega⟩
     ·rintro⟨hj,bw⟩
      rcases List.mem_append.1 hj with hj | hj
      ·simp[hj]
      ·rcases List.mem_cons.1 hj with hj | hj
       ·exact absurd hj bw
       ·simp[hj]
    have aca:i<s4.size:=by rw[hs];exact hb i (by simp)
    refine ih (α++β) _ s1 a' e' reg' (by simp at hl ⊢;omega) ?_ (by simpa using hs) (fun j=>?_) (fun k ok dE hk ed kF nQ fF=>?_) (fun j hj=>hb j ((vd j).1 hj).1) t st' yk l6 (fun a2 e2 dO x1 x2 x3 x4=>hK a2 e2 dO x1 x2 x3 (to.trans st.gi x4))
    ·exact List.pairwise_append.2 ⟨jh,ij.2,fun x hx y hy=>S0 x hx y (by simp[hy])⟩
    ·rw[vd]
     by_cases bM:j=i
     ·subst bM
      simp[Array.getD_eq_getD_getElem?,aca]
     ·rw[getD_set_ne true (Ne.symm bM),sP]
      simp[bM]
    ·by_cases FI:k=i
     ·subst FI
      rw[ho]at dE;cases dE
      exact Sh (gJ ed kF nQ) ((sP _).2 ((vd _).1 fF).1)
     ·exact hd k ok dE (fun hh=>hk ((vd k).2 ⟨hh,FI⟩)) ed kF nQ ((vd _).1 fF).1
theorem VQ (hc:oI P rec)(cR:sg P rec)(hΓ:g.Γ=Γ)(yg:g.nt=nt)(Q:Exit->Act->World->Prop)(n:Nat):∀(is:List Nat) (s s':S) (a:Act) (e:E) (al:Own->Addr->Prop),wj P rec g is s=some s'->St n0 PR Γ e al s.m->iD al->Fr r k0 nt Γ e al s.fr a->
  Next n0 PR Γ r k0 nt e s' (fun a w=>Q .normal a w)->wpOpsIn (kb r) n P g.ops Q is a e.w
 | [],s,s',a,e,al,h,st,bt,hf,hK=>by
  simp only[wj]at h;cases h
  exact hK a e al st bt hf (To.refl ..)
 | i::is,s,s',a,e,al,h,st,bt,hf,hK=>by
  simp only[wj]at h
  split at h
  ·rename_i s1 hs
   rw[wpOpsIn_cons]
   exact VM hc cR hs hΓ yg st bt hf (fun a' e' reg' st' yk l6 to=>VQ hc cR hΓ yg Q n is s1 s' a' e' reg' h st' yk l6 (fun a2 e2 dO x1 x2 x3 x4=>hK a2 e2 dO x1 x2 x3 (to.trans st.gi x4))) Q n
  ·cases h
theorem abi (st:St n0 PR Γ e al m)(bt:iD al)(hf:Fr r k0 nt Γ e al fr a)(k:Nat):∃e',e'.w=e.w∧St n0 PR Γ e' al { m with st:=m.st++List.replicate k ⟨0,[]⟩}∧Fr r k0 nt Γ e' al fr a∧To n0 PR Γ e e':=by
 let e':E:={ e with st:=e.st++List.replicate k ⟨0,[]⟩,io:=fun j=>if j<e.st.length then e.io j else⟨0,0,0⟩}
 have fb:∀id,id<e.st.length->e'.st[id]? =e.st[id]? ∧e'.io id=e.io id:=fun id h=>⟨List.getElem?_append_left h,by simp[e',h]⟩
 have pb:∀id o,e.st.length≤id->e'.st[id]? =some o->o=⟨0,[]⟩∧e'.io id=⟨0,0,0⟩:=fun id o h ho=>by
  refine⟨?_,by simp[e',Nat.not_lt.2 h]⟩
  have ho:(e.st++List.replicate k (⟨0,[]⟩:Ob))[id]? =some o:=ho
  rw[List.getElem?_append_right h]at ho
  exact(List.mem_replicate.1 (List.mem_of_getElem? ho)).2
 have hx:Ext e e':=by
  refine⟨fun _ h=>h,fun _ _=>rfl,by simp[e'],fun id o o' h1 h2=>?_,fun _ _ h=>h⟩
  have aQ:=(List.getElem?_eq_some_iff.1 h1).1
  obtain⟨q1,q2⟩:=fb id aQ
  rw[q1,h1]at h2
  cases h2
  exact⟨Nat.le_refl _,fun _=>q2⟩
 have same:fX e e':=fun id o ho hk=>by
  rcases Nat.lt_or_ge id e.st.length with aQ | cw
  ·exact⟨o,by rw[←(fb id aQ).1];exact ho,rfl,rfl⟩
  ·obtain⟨rfl,_⟩:=pb id o cw ho
   exact absurd rfl hk
 have to:To n0 PR Γ e e':=To.C1 hx (cS.refl ..) same
 have mi:=st.mi
 refine⟨e',rfl,⟨by simp[e',st.st],st.la,st.lt,⟨mi.eY,mi.gm,mi.dN,mi.dz,mi.ok,mi.cE,?_,?_,?_⟩,st.gi.to hx same (fun _ _ _ h=>h) (fun _ _ _ h=>h)⟩,⟨fun t=>(hf.rd t).mono hx (fun _ h=>h),hf.nt,hf.df,hf.ro⟩,to⟩
 ·intro id o ho
  rcases Nat.lt_or_ge id e.st.length with aQ | cw
  ·obtain⟨q1,q2⟩:=fb id aQ
   rw[q1]at ho;rw[q2];exact mi.ext id o ho
  ·obtain⟨rfl,q2⟩:=pb id o cw ho
   rw[q2];exact Nat.le_refl _
 ·intro id o ho i hi
  rcases Nat.lt_or_ge id e.st.length with aQ | cw
  ·obtain⟨q1,q2⟩:=fb id aQ
   rw[q1]at ho;rw[q2]at hi ⊢;exact mi.own id o ho i hi
  ·obtain⟨rfl,q2⟩:=pb id o cw ho
   rw[q2]at hi;simp at hi
 ·intro id o ho i d hd
  rcases Nat.lt_or_ge id e.st.length with aQ | cw
  ·obtain⟨q1,q2⟩:=fb id aQ
   rw[q1]at ho;rw[q2]
   obtain⟨k1,v,k2,k3⟩:=mi.cell id o ho i d hd
   exact⟨k1,v,k2,k3.mono hx (fun _ h=>h)⟩
  ·obtain⟨rfl,q2⟩:=pb id o cw ho
   simp at hd
theorem UT {l:List Nat}(hf:Fr r k0 nt Γ e al fr a):Fr r k0 nt Γ e al (tC l fr) a:=
 ⟨fun t=>by rw[US];split;exact hf.rd t;exact .un,hf.nt,hf.df,hf.ro⟩
theorem Ty {K:Act->World->Prop}{s:S}(h:Next n0 PR Γ r k0 nt e (vu g s) K):Next n0 PR Γ r k0 nt e s K:=by
 intro a' e' reg' h1 h2 h3 h4
 refine h a' e' reg' ?_ h2 ?_ h4
 ·unfold vu;split<;>exact h1
 ·unfold vu;split
  ·exact UT h3
  ·exact h3
theorem RM (g:de)(s:S):mU g s={ s with m:={ s.m with st:=s.m.st++List.replicate (g.an.n g.f g.cd) ⟨0,[]⟩}}:=by
 unfold mU
 cases g.an.n g.f g.cd with
 | zero=>simp
 | succ n=>rfl
theorem afI (hm:P.follows .mixedOrders=true)(hc:oI P rec)(cR:sg P rec){an:An}{f cd:Nat}{ops:Array Oper}{draw:Bool}{s s':S}(h:yY P rec an f nt Γ cd ops draw s=some s')(st:St n0 PR Γ e al s.m)(bt:iD al)(hf:Fr r k0 nt Γ e al s.fr a)
  {Q:Exit->Act->World->Prop} (hK:Next n0 PR Γ r k0 nt e s' (fun a w=>Q .normal a w)) (n:Nat):(Code.region cd ops draw).wpIn (kb r) n P Q a e.w:=by
 simp only[yY]at h
 generalize hg:({ an:=an,f:=f,nt:=nt,cd:=cd,ops:=ops,base:=s.m.st.length,Γ:=Γ}:de)=g at h
 have eu:g.ops=ops:=by rw[←hg]
 have SK:g.Γ=Γ:=by rw[←hg]
 have SI:g.nt=nt:=by rw[←hg]
 obtain⟨e1,Td,agM,ab7,eM⟩:=abi st bt hf (g.an.n g.f g.cd)
 have cP:St n0 PR Γ e1 al (mU g s).m:=by rw[RM];exact agM
 have ic:Fr r k0 nt Γ e1 al (mU g s).fr a:=by rw[RM];exact ab7
 split at h
 ·rename_i Mf
  subst Mf
  split at h
  ·rename_i gh
   split at h
   ·rename_i s1 as bz
    split at h
    ·rename_i nS
     cases h
     refine wpIn_region_any hm ?_
     obtain⟨hlen,ab9⟩:=ahZ _ _ _ bz
     obtain⟨d1,d2⟩:=cP.mi.drew
     let e2:E:={ e1 with w:=e1.w.drew}
     have iS:To n0 PR Γ e1 e2:=To.C1 d2 (E7 _ _) (fX.of_eq rfl)
     have cf:St n0 PR Γ e2 al (mU g s).m:=⟨cP.st,cP.la,cP.lt,d1,cP.gi.to d2 (fX.of_eq rfl) (fun _ _ _ h=>h) (fun _ _ _ h=>h)⟩
     have qF:Fr r k0 nt Γ e2 al (mU g s).fr a:=⟨fun t=>(ic.rd t).mono d2 (fun _ h=>h),ic.nt,ic.df,ic.ro⟩
     have:=Yv (A:=fun i=>as.getD i none) (fin:=s1) hc cR (fun _=>rfl) gh nS SK SI Q n ops.size (List.range ops.size) (Array.replicate ops.size false) (mU g s) a e2 al (by simp) List.pairwise_lt_range (by simp[eu])
      (fun i=>by
       rcases Nat.lt_or_ge i ops.size with aQ | cw
       ·simp[Array.getD_eq_getD_getElem?,aQ]
       ·simp[Array.getD_eq_getD_getElem?,Nat.not_lt.2 cw])
      (fun k o ho hk=>absurd (by have:=(Array.getElem?_eq_some_iff.1 ho).1;rw[eu]at this;simpa using this) hk) (fun i hi=>by rw[eu];simpa using hi)
      (ab9 _ fun k i hk=>by
       have aQ:k<(List.range ops.size).length:=(List.getElem?_eq_some_iff.1 hk).1
       have FI:k=i:=by simp at aQ;simp[aQ]at hk;exact hk
       subst FI
       rw[←hlen]at aQ
       simp[aQ])
      cf bt qF (Ty (g:=g) fun a' e' reg' x1 x2 x3 x4=>hK a' e' reg' x1 x2 x3 ((eM.trans st.gi iS).trans st.gi x4))
     rw[eu]at this
     rw[←Td]
     exact this
    ·cases h
   ·cases h
  ·cases h
 ·rename_i Mf
  have hdf:draw=false:=by simpa using Mf
  subst hdf
  rw[Option.map_eq_some_iff]at h
  obtain⟨s1,bz,rfl⟩:=h
  refine wpIn_region ?_
  have:=VQ hc cR SK SI Q n (List.range ops.size) (mU g s) s1 a e1 al bz cP bt ic (Ty (g:=g) fun a' e' reg' x1 x2 x3 x4=>hK a' e' reg' x1 x2 x3 (eM.trans st.gi x4))
  rw[eu]at this
  rw[←Td]
  exact this
end
end Go.Abs
namespace Go.Abs
open Go
variable [Fl]
variable [Gl]
section
variable {P:Program}{n0:Nat}{PR:Addr->Prop}{Γ:List (Nat×Ctx)}{e e':E}{al reg':Own->Addr->Prop}{m:M}{r:Option Nat}{k0 nt:Nat}{fr:Nat->DV}{a:Act}{rec:Rec}
theorem MI.world (mi:MI n0 PR e al){w':World}(hs:e.w.heap.size≤w'.heap.size)(hc:∀a,a.block<e.w.heap.size->w'.cell? a=e.w.cell? a∧w'.frozen? a=e.w.frozen? a){la':List Nat}(m7:∀(k l:Nat),e.la[k]? =some l->la'[k]? =some l):
  MI n0 PR { e with w:=w',la:=la'} al∧Ext e { e with w:=w',la:=la'}:=by
 have hx:Ext e { e with w:=w',la:=la'}:=⟨fun _ h=>h,fun a ha=>(hc a (mi.eY a ha)).1,Nat.le_refl _,fun id o o' h1 h2=>by simp only at h2;rw[h1]at h2;cases h2;exact⟨Nat.le_refl _,fun _=>rfl⟩,m7⟩
 refine⟨⟨fun a ha=>Nat.lt_of_lt_of_le (mi.eY a ha) hs,mi.gm,fun a ha=>Nat.lt_of_lt_of_le (mi.dN a ha) hs,Nat.le_trans mi.dz hs,fun p a hp=>?_,mi.cE,mi.ext,mi.own,fun id o ho i d hd=>?_⟩,hx⟩
 ·obtain⟨h1,⟨v,h2⟩,h3,h4,h5⟩:=mi.ok p a hp
  obtain⟨k1,k2⟩:=hc a (mi.bC hp)
  exact⟨h1,⟨v,k1.trans h2⟩,k2.trans h3,h4,h5⟩
 ·obtain⟨h1,v,h2,h3⟩:=mi.cell id o ho i d hd
  exact⟨h1,v,(hc _ (World.block_lt_of_cell? _ _ h2)).1.trans h2,h3.mono hx (fun _ h=>h)⟩
theorem aa1 {l:Option (List Nat)}{mm:Nat}{s s':S}{e0:E}{vO:List Ex}(h:ss l mm s=some s')(st:St n0 PR Γ e al s.m)(hf:Fr r k0 nt Γ e al s.fr a)(g0:GI n0 e0 Γ vO)(hle:e0.st.length≤mm)(to:To n0 PR Γ e0 e):
  ∃e',e'.w=e.w∧St n0 PR Γ e' al s'.m∧Fr r k0 nt Γ e' al s'.fr a∧To n0 PR Γ e0 e':=by
 unfold ss at h
 split at h
 ·cases h;exact⟨e,rfl,st,hf,to⟩
 ·rename_i l
  split at h
  ·rename_i ec
   cases h
   simp only[Bool.and_eq_true]at ec
   obtain⟨h1,h2⟩:=Rw ec.2 st g0 hle to
   refine⟨jM e mm,rfl,h1,⟨fun t=>?_,hf.nt,hf.df,hf.ro⟩,h2⟩
   show RD (jM e mm) _ (tC l s.fr t) _
   rw[US]
   split
   ·rename_i ht
    exact(hf.rd t).cut (List.all_eq_true.1 ec.1 t (by simpa using ht))
   ·exact .un
  ·cases h
theorem To.size (t:To n0 PR Γ e e'):e.w.heap.size≤e'.w.heap.size:=t.bp.size
def Qh (n0:Nat)(PR:Addr->Prop)(Γ:List (Nat×Ctx))(r:Option Nat)(k0 nt:Nat)(e:E)(ex:Ex)(s':S)(Q:Exit->Act->World->Prop):Prop:=Next n0 PR Γ r k0 nt e s' (fun a w=>Q (R1 ex) a w)
def Kw (P:Program)(rec:Rec)(an:An)(f nt:Nat)(Γ:List (Nat×Ctx))(k:Nat)(c:Code):Prop:=
 ∀(s s':S) (ex:Ex),cq P rec an f nt Γ k c s=some (ex,s')->∀n0 PR r k0 e al a Q n,St n0 PR Γ e al s.m->iD al->Fr r k0 nt Γ e al s.fr a->k0≤e.w.heap.size->Qh n0 PR Γ r k0 nt e ex s' Q->c.wpIn (kb r) n P Q a e.w
theorem UQ {s:S}{rs:Option (List Nat)}(hf:Fr r k0 nt Γ e al s.fr a):Fr r k0 nt Γ e al (km rs s).fr a:=by
 cases rs with
 | none=>exact hf
 | some l=>exact UT hf
theorem UR {s:S}{rs:Option (List Nat)}:(km rs s).m=s.m:=by cases rs<;>rfl
theorem TL {an:An}{f k:Nat}{c:Code}(ih:Kw P rec an f nt Γ k c){l:Option (List Nat)}{mm:Nat}{e0:E}{vO:List Ex}(g0:GI n0 e0 Γ vO)(hle:e0.st.length≤mm){rs:Option (List Nat)}{ex:Ex}{s':S}{Q:Exit->Act->World->Prop}(hK:Qh n0 PR Γ r k0 nt e0 ex s' Q)(n:Nat):
  ∀(fuel:Nat) (s:S) (a:Act) (e:E) (al:Own->Addr->Prop),n9 (fun s=>cq P rec an f nt Γ k c (km rs s)) l mm fuel s=some (ex,s')->St n0 PR Γ e al s.m->iD al->Fr r k0 nt Γ e al s.fr a->k0≤e.w.heap.size->To n0 PR Γ e0 e->
   Code.roundsIn (kb r) n P c Q fuel a e.w
 | 0,s,a,e,al,h,_,_,_,_,_=>by simp[n9]at h
 | fuel+1,s,a,e,al,h,st,bt,hf,fE,to=>by
  simp only[n9]at h
  rw[roundsIn_succ]
  split at h
  ·rename_i s1 vf
   split at h
   ·rename_i s2 ik
    refine ih _ s1 .normal vf n0 PR r k0 e al a _ n (by rw[UR];exact st) bt (UQ hf) fE fun a' e1 dK cP ma ic eM=>?_
    obtain⟨e2,hw,cf,qF,iS⟩:=aa1 ik cP ic g0 hle (to.trans g0 eM)
    show Code.roundsIn (kb r) n P c Q fuel a' e1.w
    rw[←hw]
    exact TL ih g0 hle hK n fuel s2 a' e2 dK h cf ma qF (by rw[hw];exact Nat.le_trans fE eM.size) iS
   ·cases h
  ·rename_i bw
   cases ex with
   | normal=>exact absurd h (bw s')
   | _=>
    refine ih _ s' _ h n0 PR r k0 e al a _ n (by rw[UR];exact st) bt (UQ hf) fE fun a' e1 dK cP ma ic eM=>?_
    exact hK a' e1 dK cP ma ic (to.trans g0 eM)
end
end Go.Abs
