/-
  Part of the proof: printed by the session's own program out of the program's form, or typed; it states no claim by itself.
-/
import Derived.Test.YtpadajnejknkeaaGreatBl
import Derived.Handed
import Derived.WideShapes
import Derived.Shelf.Vars
import Derived.Test.YtpadajnejknkeaaGreatTy
import Derived.Test.YtpadajnejknkeaaGreatRows
import Derived.OpenShut
import Derived.ProofKit
import Derived.WalkKit
set_option linter.unusedVariables false
set_option linter.unusedSimpArgs false
set_option linter.unusedSectionVars false
namespace Go.Abs
open Go Go.ChangeShapes Go.WideShapes Go.ChangeAt Go.RowKit
variable [Fl]
section
variable {H:Type}{enc:TypeId×Value->H}{P:Program}{w:World}{base:Nat}{sp:Nat->Bool}{held:Bool}
end
end Go.Abs
namespace Go.Abs
open Go Go.ChangeShapes Go.WideShapes Go.ChangeAt Go.RowKit
variable [Fl]
section
variable {P:Program}{w:World}{base:Nat}
def dc (P:Program)(w:World)(base F:Nat)(t:TypeId)(α:Type)[Enc α]:Prop:=
 ∀(H:Type) (enc:TypeId×Value->H) (sp:Nat->Bool) (held:Bool) (fuel:Nat) (vs:List Value) (x:DataW H×List MemPlace),fuel≤F->DataW.trod enc P w base sp held fuel t vs=some x->∃a:α,bh (bC w) w (Enc.enc a) vs
theorem dc.le {F F':Nat}{t:TypeId}{α:Type}[Enc α](h:dc P w base F t α)(hl:F'≤F):dc P w base F' t α:=fun H enc sp held fuel vs x hf=>h H enc sp held fuel vs x (Nat.le_trans hf hl)
theorem NZ {t:TypeId}{α:Type}[Enc α]:dc P w base 0 t α:=fun H enc sp held fuel vs x hF h=>by
 have:fuel=0:=by omega
 subst this
 simp[DataW.trod]at h
theorem jm {F:Nat}{t:TypeId}(ht:P.underlying t=some (.int .i64)):dc P w base F t Int:=fun H enc sp held fuel vs x _ h=>by
 obtain⟨v,c,rfl,h1,h2,h3⟩:=afC ht H enc sp held fuel vs x h
 obtain⟨n,rfl,_⟩:=acJ h3
 exact⟨n,.cons h2 h1 .nil⟩
theorem tB {F:Nat}{t:TypeId}(ht:P.underlying t=some .string):dc P w base F t ByteArray:=fun H enc sp held fuel vs x _ h=>by
 obtain⟨v,c,rfl,h1,h2,s,rfl,_⟩:=afD ht H enc sp held fuel vs x h
 exact⟨s,.cons h2 h1 .nil⟩
theorem afv {F:Nat}{t:TypeId}(ht:P.underlying t=some .bool):dc P w base F t Bool:=fun H enc sp held fuel vs x _ h=>by
 cases fuel with
 | zero=>simp[DataW.trod]at h
 | succ fuel=>
  unfold DataW.trod at h
  rw[ht]at h
  split at h<;>first | (rename_i hh;cases hh;done) | skip
  all_goals (try (rename_i hh;injection hh with hh;done))
  ·exact⟨_,.cons rfl (.sc rfl) .nil⟩
  all_goals (first | (cases h;done) | (simp at h;done))
theorem pF {F:Nat}{t e:TypeId}{α:Type}[Enc α](ht:P.underlying t=some (.slice e))(hc:P.cellsOf e=Enc.sz α)(hq:dc P w base F e α):dc P w base (F+1) t (Sl α):=by
 intro H enc sp held fuel vs x hF h
 rcases DataW.trod_slice ht h with ⟨rfl,_⟩ | ⟨a,len,cap,elems,rest,n,rfl,rfl,_,_,hle,gK,lZ,BQ,_,_⟩
 ·exact⟨⟨true,true,[]⟩,.cons rfl .nil .nil⟩
 ·have hp:∀m,m≤len->∃(l:List α) (us:List Value),l.length=m∧bh (bC w) w (cells l) us∧us.length=m * Enc.sz α∧(∀i v,us[i]? =some v->w.cell? (a.add i)=some v):=by
   intro m
   induction m with
   | zero=>intro _;exact⟨[],[],rfl,.nil,by simp,by simp⟩
   | succ m ih=>
    intro hm
    obtain⟨l,us,h1,h2,h3,h4⟩:=ih (by omega)
    have hg:=BQ m (by omega)
    have aQ:m<elems.length:=by omega
    rw[List.getElem?_eq_getElem aQ,Option.bind_eq_some_iff]at hg
    obtain⟨OU,po,Cf⟩:=hg
    rw[hc]at po
    obtain⟨b,g1⟩:=hq H enc sp held n OU _ (by omega) Cf
    obtain⟨l1,l2⟩:=aak po
    refine⟨l++[b],us++OU,by simp[h1],?_,by simp[h3,l1,Nat.succ_mul],fun i v hv=>?_⟩
    ·have:cells (l++[b])=cells l++Enc.enc b:=by simp[cells]
     rw[this];exact bh.KL h2 g1
    ·rcases Nat.lt_or_ge i us.length with aQ | cw
     ·rw[List.getElem?_append_left aQ]at hv;exact h4 i v hv
     ·rw[List.getElem?_append_right cw]at hv
      have:=l2 _ v hv
      rw[add_add]at this
      have e:m * Enc.sz α+(i - us.length)=i:=by omega
      rw[e]at this
      exact this
  obtain⟨l,us,h1,h2,h3,h4⟩:=hp len (Nat.le_refl _)
  refine⟨⟨false,decide (cap=len),l⟩,.cons rfl ?_ .nil⟩
  show RC (bC w) w (.sl false (decide (cap=len)) (cells l) l.length) _
  rw[h1]
  exact .sl h2 (fun i v hv=>⟨h4 i v hv,World.block_lt_of_cell? _ _ (h4 i v hv)⟩) hle (fun hx=>by simpa using hx)
def yS (P:Program):Nat->List Field->List (TypeId×Nat)->Bool
 | _,[],[]=>true
 | i,f::fs,(t,n)::l=>f.offset==i&&f.type==t&&P.cellsOf t==n&&yS P (i+n) fs l
 | _,_,_=>false
def KH {H:Type}(enc:TypeId×Value->H)(P:Program)(w:World)(base:Nat)(sp:Nat->Bool)(held:Bool)(m:Nat):List (TypeId×Nat)->List Value->Prop
 | [],vs=>vs=[]
 | (t,n)::l,vs=>(∃x,DataW.trod enc P w base sp held m t (vs.take n)=some x)∧KH enc P w base sp held m l (vs.drop n)
def Ds:List (TypeId×Nat)->Nat
 | []=>0
 | (_,n)::l=>n+Ds l
theorem Ur {H:Type}{enc:TypeId×Value->H}{sp:Nat->Bool}{held:Bool}{m:Nat}{vs:List Value}:∀{fs:List Field}{l:List (TypeId×Nat)}{i:Nat},yS P i fs l=true->vs.length=i+Ds l->
  (∀(j:Nat) (f:Field),fs[j]? =some f->∃x,DataW.trod enc P w base sp held m f.type ((vs.drop f.offset).take (P.cellsOf f.type))=some x)->KH enc P w base sp held m l (vs.drop i)
 | [],[],i,_,hl,_=>by
  show vs.drop i=[]
  exact List.drop_eq_nil_of_le (by simp[Ds]at hl;omega)
 | f::fs,(t,n)::l,i,h,hl,hg=>by
  simp only[yS,Bool.and_eq_true,beq_iff_eq]at h
  obtain⟨⟨⟨h1,h2⟩,h3⟩,h4⟩:=h
  have h0:=hg 0 f rfl
  rw[h1,h2,h3]at h0
  refine⟨h0,?_⟩
  rw[List.drop_drop]
  exact Ur h4 (by simp[Ds]at hl;omega) fun j f hf=>hg (j+1) f (by simpa using hf)
 | [],_::_,_,h,_,_=>by simp[yS]at h
 | _::_,[],_,h,_,_=>by simp[yS]at h
theorem tN {H:Type}{enc:TypeId×Value->H}{sp:Nat->Bool}{held:Bool}{fuel:Nat}{t:TypeId}{fs:Array Field}{l:List (TypeId×Nat)}{vs:List Value}{x:DataW H×List MemPlace}(ht:P.underlying t=some (.struct fs))(hp:yS P 0 fs.toList l=true)(hn:P.cellsOf t=Ds l)
  (h:DataW.trod enc P w base sp held fuel t vs=some x):∃m,fuel=m+1∧KH enc P w base sp held m l vs:=by
 obtain⟨xs,m,rfl,_,hl,hxl,BQ⟩:=DataW.trod_struct ht h
 refine⟨m,rfl,?_⟩
 have:=Ur (enc:=enc) (w:=w) (base:=base) (sp:=sp) (held:=held) (m:=m) (vs:=vs) hp (by omega) (fun j f hf=>by
  have l6:fs[j]? =some f:=by rw[←Array.getElem?_toList];exact hf
  have hj:j<xs.length:=by rw[hxl];exact(Array.getElem?_eq_some_iff.1 l6).1
  exact⟨_,(BQ j f l6).trans (List.getElem?_eq_getElem hj)⟩)
 simpa using this
theorem bh.parts {im:Addr->Prop}{n:Nat}{cs e9:List CV}{vs:List Value}(h:bh im w cs (vs.take n))(h':bh im w e9 (vs.drop n)):bh im w (cs++e9) vs:=by
 have:=bh.KL h h'
 rwa [List.take_append_drop]at this
theorem bh.tc {im:Addr->Prop}{vs:List Value}(h:vs=[]):bh im w [] vs:=by subst h;exact .nil
theorem afu {t:TypeId}{α:Type}[Enc α](hq:∀F,dc P w base F t α){H:Type}{enc:TypeId×Value->H}{sp:Nat->Bool}{held:Bool}{vs:Array Value}{d:DataW H}{ps:List MemPlace}(h:DataW.Trod enc P w base sp held t (.agg vs) d ps):∃a:α,RC (bC w) w (.agg (Enc.enc a)) (.agg vs):=by
 obtain⟨fuel,hf⟩:=h
 obtain⟨a,h1⟩:=hq fuel H enc sp held fuel _ _ (Nat.le_refl _) hf
 exact⟨a,by cases vs;exact .agg h1⟩
theorem UM {t:TypeId}{α:Type}[Enc α](hs:Enc.sz α=1)(hq:∀F,dc P w base F t α){H:Type}{enc:TypeId×Value->H}{sp:Nat->Bool}{held:Bool}{v:Value}{d:DataW H}{ps:List MemPlace}(h:DataW.Trod enc P w base sp held t v d ps)(hv:v.oneCell'=true):∃(a:α) (c:CV),Enc.enc a=[c]∧RC (bC w) w c v:=by
 obtain⟨fuel,hf⟩:=h
 obtain⟨a,h1⟩:=hq fuel H enc sp held fuel _ _ (Nat.le_refl _) hf
 rw[Lj hv]at h1
 have hl:(Enc.enc a).length=1:=(Enc.len a).trans hs
 obtain⟨c,hc⟩:=List.length_eq_one_iff.1 hl
 rw[hc]at h1
 cases h1 with
 | cons _ h _=>exact⟨a,c,hc,h⟩
end
end Go.Abs
set_option maxRecDepth 100000
namespace Go.Proofs.YtpadajnejknkeaaGreat
open Go Go.Abs Go.Proofs Go.ChangeShapes Go.WideShapes Go.ChangeAt Go.RowKit
theorem own:ownKnob Tryz.prog.godebug=none:=by kernel_rfl
theorem laidOut:laidOutB Tryz.prog=true:=by kernel_rfl
theorem afq {w:World}{base:Nat}(F:Nat)(ih:∀G,G<F->dc Tryz.prog w base G 63 au):dc Tryz.prog w base F 63 au:=fun H enc sp held fuel vs x hF h=>by
 obtain⟨m,rfl,⟨x0,h0⟩,⟨x1,h1⟩,⟨x2,h2⟩,⟨x3,h3⟩,⟨x4,h4⟩,⟨x5,h5⟩,hz⟩:=tN (l:=[(3,1),(9,1),(9,1),(2,1),(61,1),(3,1)]) Tryz.underlying63 (by kernel_rfl) (by kernel_rfl) h
 obtain⟨a0,r0⟩:=(jm Tryz.underlying3) H enc sp held m _ _ (Nat.le_refl _) h0
 obtain⟨a1,r1⟩:=(tB Tryz.underlying9) H enc sp held m _ _ (Nat.le_refl _) h1
 obtain⟨a2,r2⟩:=(tB Tryz.underlying9) H enc sp held m _ _ (Nat.le_refl _) h2
 obtain⟨a3,r3⟩:=(jm Tryz.underlying2) H enc sp held m _ _ (Nat.le_refl _) h3
 have il:dc Tryz.prog w base m 61 (Sl au):=by
  cases m with
  | zero=>exact NZ
  | succ m=>exact pF Tryz.underlying61 (by kernel_rfl) (ih m (by omega))
 obtain⟨a4,r4⟩:=il H enc sp held m _ _ (Nat.le_refl _) h4
 obtain⟨a5,r5⟩:=(jm Tryz.underlying3) H enc sp held m _ _ (Nat.le_refl _) h5
 obtain⟨nl,xx,l⟩:=a4
 refine⟨⟨a0,a1,a2,a3,⟨nl,xx,l⟩,a5⟩,?_⟩
 have hr:=bh.parts r0 (bh.parts r1 (bh.parts r2 (bh.parts r3 (bh.parts r4 (bh.parts r5 (bh.tc hz))))))
 simpa[Enc.enc,au.lV,au.uM,aq,List.append_assoc]using hr
theorem afp {w:World}{base:Nat}(F:Nat):dc Tryz.prog w base F 63 au:=by
 induction F using Nat.strongRecOn with
 | ind F ih=>exact afq F ih
theorem afe {w:World}{base:Nat}(F:Nat):dc Tryz.prog w base F 101 bI:=fun H enc sp held fuel vs x hF h=>by
 obtain⟨m,rfl,⟨x0,h0⟩,⟨x1,h1⟩,⟨x2,h2⟩,⟨x3,h3⟩,⟨x4,h4⟩,⟨x5,h5⟩,hz⟩:=tN (l:=[(9,1),(3,1),(2,1),(2,1),(2,1),(3,1)]) Tryz.underlying101 (by kernel_rfl) (by kernel_rfl) h
 obtain⟨a0,r0⟩:=(tB Tryz.underlying9) H enc sp held m _ _ (Nat.le_refl _) h0
 obtain⟨a1,r1⟩:=(jm Tryz.underlying3) H enc sp held m _ _ (Nat.le_refl _) h1
 obtain⟨a2,r2⟩:=(jm Tryz.underlying2) H enc sp held m _ _ (Nat.le_refl _) h2
 obtain⟨a3,r3⟩:=(jm Tryz.underlying2) H enc sp held m _ _ (Nat.le_refl _) h3
 obtain⟨a4,r4⟩:=(jm Tryz.underlying2) H enc sp held m _ _ (Nat.le_refl _) h4
 obtain⟨a5,r5⟩:=(jm Tryz.underlying3) H enc sp held m _ _ (Nat.le_refl _) h5
 refine⟨⟨a0,a1,a2,a3,a4,a5⟩,?_⟩
 have hr:=bh.parts r0 (bh.parts r1 (bh.parts r2 (bh.parts r3 (bh.parts r4 (bh.parts r5 (bh.tc hz))))))
 simpa[Enc.enc,List.append_assoc]using hr
theorem afw {w:World}{base:Nat}(F:Nat):dc Tryz.prog w base F 101 bI:=afe F
theorem afi {w:World}{base:Nat}(F:Nat)(ih:∀G,G<F->dc Tryz.prog w base G 123 af):dc Tryz.prog w base F 123 af:=fun H enc sp held fuel vs x hF h=>by
 obtain⟨m,rfl,⟨x0,h0⟩,⟨x1,h1⟩,⟨x2,h2⟩,⟨x3,h3⟩,⟨x4,h4⟩,⟨x5,h5⟩,⟨x6,h6⟩,hz⟩:=tN (l:=[(3,1),(9,1),(9,1),(2,1),(63,6),(121,1),(3,1)]) Tryz.underlying123 (by kernel_rfl) (by kernel_rfl) h
 obtain⟨a0,r0⟩:=(jm Tryz.underlying3) H enc sp held m _ _ (Nat.le_refl _) h0
 obtain⟨a1,r1⟩:=(tB Tryz.underlying9) H enc sp held m _ _ (Nat.le_refl _) h1
 obtain⟨a2,r2⟩:=(tB Tryz.underlying9) H enc sp held m _ _ (Nat.le_refl _) h2
 obtain⟨a3,r3⟩:=(jm Tryz.underlying2) H enc sp held m _ _ (Nat.le_refl _) h3
 obtain⟨a4,r4⟩:=(afp _) H enc sp held m _ _ (Nat.le_refl _) h4
 have il:dc Tryz.prog w base m 121 (Sl (Sl af)):=by
  cases m with
  | zero=>exact NZ
  | succ m=>
   refine pF Tryz.underlying121 (by kernel_rfl) ?_
   cases m with
   | zero=>exact NZ
   | succ m=>exact pF Tryz.underlying102 (by kernel_rfl) (ih m (by omega))
 obtain⟨a5,r5⟩:=il H enc sp held m _ _ (Nat.le_refl _) h5
 obtain⟨a6,r6⟩:=(jm Tryz.underlying3) H enc sp held m _ _ (Nat.le_refl _) h6
 obtain⟨nl,xx,l⟩:=a5
 refine⟨⟨a0,a1,a2,a3,a4,⟨nl,xx,l⟩,a6⟩,?_⟩
 have hr:=bh.parts r0 (bh.parts r1 (bh.parts r2 (bh.parts r3 (bh.parts r4 (bh.parts r5 (bh.parts r6 (bh.tc hz)))))))
 simpa[Enc.enc,af.lV,af.LK,aq,List.append_assoc]using hr
theorem afh {w:World}{base:Nat}(F:Nat):dc Tryz.prog w base F 123 af:=by
 induction F using Nat.strongRecOn with
 | ind F ih=>exact afi F ih
theorem afz {w:World}{base:Nat}(F:Nat):dc Tryz.prog w base F 123 af:=afh F
theorem UL {w:World}{base:Nat}(F:Nat):dc Tryz.prog w base F 102 (Sl af):=(pF Tryz.underlying102 (by kernel_rfl) (afz F)).le (Nat.le_succ F)
theorem aff {w:World}{base:Nat}(F:Nat):dc Tryz.prog w base F 104 dW:=fun H enc sp held fuel vs x hF h=>by
 obtain⟨m,rfl,⟨x0,h0⟩,⟨x1,h1⟩,⟨x2,h2⟩,hz⟩:=tN (l:=[(9,1),(102,1),(3,1)]) Tryz.underlying104 (by kernel_rfl) (by kernel_rfl) h
 obtain⟨a0,r0⟩:=(tB Tryz.underlying9) H enc sp held m _ _ (Nat.le_refl _) h0
 obtain⟨a1,r1⟩:=(UL _) H enc sp held m _ _ (Nat.le_refl _) h1
 obtain⟨a2,r2⟩:=(jm Tryz.underlying3) H enc sp held m _ _ (Nat.le_refl _) h2
 refine⟨⟨a0,a1,a2⟩,?_⟩
 have hr:=bh.parts r0 (bh.parts r1 (bh.parts r2 (bh.tc hz)))
 simpa[Enc.enc,List.append_assoc]using hr
theorem afx {w:World}{base:Nat}(F:Nat):dc Tryz.prog w base F 104 dW:=aff F
theorem afr {w:World}{base:Nat}(F:Nat):dc Tryz.prog w base F 96 (Sl bI):=(pF Tryz.underlying96 (by kernel_rfl) (afw F)).le (Nat.le_succ F)
theorem afs {w:World}{base:Nat}(F:Nat):dc Tryz.prog w base F 97 (Sl dW):=(pF Tryz.underlying97 (by kernel_rfl) (afx F)).le (Nat.le_succ F)
theorem aft {w:World}{base:Nat}(F:Nat):dc Tryz.prog w base F 99 aH:=fun H enc sp held fuel vs x hF h=>by
 obtain⟨m,rfl,⟨x0,h0⟩,⟨x1,h1⟩,⟨x2,h2⟩,⟨x3,h3⟩,hz⟩:=tN (l:=[(9,1),(96,1),(97,1),(3,1)]) Tryz.underlying99 (by kernel_rfl) (by kernel_rfl) h
 obtain⟨a0,r0⟩:=(tB Tryz.underlying9) H enc sp held m _ _ (Nat.le_refl _) h0
 obtain⟨a1,r1⟩:=(afr _) H enc sp held m _ _ (Nat.le_refl _) h1
 obtain⟨a2,r2⟩:=(afs _) H enc sp held m _ _ (Nat.le_refl _) h2
 obtain⟨a3,r3⟩:=(jm Tryz.underlying3) H enc sp held m _ _ (Nat.le_refl _) h3
 refine⟨⟨a0,a1,a2,a3⟩,?_⟩
 have hr:=bh.parts r0 (bh.parts r1 (bh.parts r2 (bh.parts r3 (bh.tc hz))))
 simpa[Enc.enc,List.append_assoc]using hr
theorem afB {w:World}{base:Nat}(F:Nat):dc Tryz.prog w base F 99 aH:=aft F
theorem afg {w:World}{base:Nat}(F:Nat):dc Tryz.prog w base F 107 aO:=fun H enc sp held fuel vs x hF h=>by
 obtain⟨m,rfl,⟨x0,h0⟩,⟨x1,h1⟩,⟨x2,h2⟩,⟨x3,h3⟩,⟨x4,h4⟩,hz⟩:=tN (l:=[(9,1),(4,1),(2,1),(102,1),(3,1)]) Tryz.underlying107 (by kernel_rfl) (by kernel_rfl) h
 obtain⟨a0,r0⟩:=(tB Tryz.underlying9) H enc sp held m _ _ (Nat.le_refl _) h0
 obtain⟨a1,r1⟩:=(afv Tryz.underlying4) H enc sp held m _ _ (Nat.le_refl _) h1
 obtain⟨a2,r2⟩:=(jm Tryz.underlying2) H enc sp held m _ _ (Nat.le_refl _) h2
 obtain⟨a3,r3⟩:=(UL _) H enc sp held m _ _ (Nat.le_refl _) h3
 obtain⟨a4,r4⟩:=(jm Tryz.underlying3) H enc sp held m _ _ (Nat.le_refl _) h4
 refine⟨⟨a0,a1,a2,a3,a4⟩,?_⟩
 have hr:=bh.parts r0 (bh.parts r1 (bh.parts r2 (bh.parts r3 (bh.parts r4 (bh.tc hz)))))
 simpa[Enc.enc,List.append_assoc]using hr
theorem afy {w:World}{base:Nat}(F:Nat):dc Tryz.prog w base F 107 aO:=afg F
theorem afj {w:World}{base:Nat}(F:Nat):dc Tryz.prog w base F 22 (Sl aH):=(pF Tryz.underlying22 (by kernel_rfl) (afB F)).le (Nat.le_succ F)
theorem afk {w:World}{base:Nat}(F:Nat):dc Tryz.prog w base F 23 (Sl aO):=(pF Tryz.underlying23 (by kernel_rfl) (afy F)).le (Nat.le_succ F)
theorem afl {w:World}{base:Nat}(F:Nat):dc Tryz.prog w base F 25 aj:=fun H enc sp held fuel vs x hF h=>by
 obtain⟨m,rfl,⟨x0,h0⟩,⟨x1,h1⟩,hz⟩:=tN (l:=[(22,1),(23,1)]) Tryz.underlying25 (by kernel_rfl) (by kernel_rfl) h
 obtain⟨a0,r0⟩:=(afj _) H enc sp held m _ _ (Nat.le_refl _) h0
 obtain⟨a1,r1⟩:=(afk _) H enc sp held m _ _ (Nat.le_refl _) h1
 refine⟨⟨a0,a1⟩,?_⟩
 have hr:=bh.parts r0 (bh.parts r1 (bh.tc hz))
 simpa[Enc.enc,List.append_assoc]using hr
theorem afo {w:World}{base:Nat}(F:Nat):dc Tryz.prog w base F 45 bT:=fun H enc sp held fuel vs x hF h=>by
 obtain⟨m,rfl,⟨x0,h0⟩,⟨x1,h1⟩,⟨x2,h2⟩,hz⟩:=tN (l:=[(3,1),(3,1),(3,1)]) Tryz.underlying45 (by kernel_rfl) (by kernel_rfl) h
 obtain⟨a0,r0⟩:=(jm Tryz.underlying3) H enc sp held m _ _ (Nat.le_refl _) h0
 obtain⟨a1,r1⟩:=(jm Tryz.underlying3) H enc sp held m _ _ (Nat.le_refl _) h1
 obtain⟨a2,r2⟩:=(jm Tryz.underlying3) H enc sp held m _ _ (Nat.le_refl _) h2
 refine⟨⟨a0,a1,a2⟩,?_⟩
 have hr:=bh.parts r0 (bh.parts r1 (bh.parts r2 (bh.tc hz)))
 simpa[Enc.enc,List.append_assoc]using hr
theorem afA {w:World}{base:Nat}(F:Nat):dc Tryz.prog w base F 45 bT:=afo F
theorem afm {w:World}{base:Nat}(F:Nat):dc Tryz.prog w base F 26 (Sl Int):=(pF Tryz.underlying26 (by kernel_rfl) (jm (F:=F) Tryz.underlying3)).le (Nat.le_succ F)
theorem afn {w:World}{base:Nat}(F:Nat):dc Tryz.prog w base F 27 (Sl bT):=(pF Tryz.underlying27 (by kernel_rfl) (afA F)).le (Nat.le_succ F)
end Go.Proofs.YtpadajnejknkeaaGreat
