/-
  StepOthers: for every program, choices and picks the call of the law returns true, and what it was handed reads behind it as before. No condition.
-/
import Derived.Test.YtpadajnejknkeaaGreatFk
import Derived.Test.YtpadajnejknkeaaGreatRk
import Derived.Test.YtpadajnejknkeaaGreatVi
set_option linter.unusedVariables false
set_option maxRecDepth 100000
namespace Go.Proofs.YtpadajnejknkeaaGreat
open Go Go.Abs Go.Vig Go.Proofs Go.ChangeShapes Go.WideShapes Go.ChangeAt Go.RowKit
theorem aeT (p:aj)(cs:Sl Int)(l:Sl bT):∃k:Kn,(∀g q,(@X k).pr g=some q->jL Tryz.prog g q)∧(@X k).bg 5 [.c (.agg (EncX.ae p)),.c (aq cs),.c (aq l)] (dB true):=by
 letI:=F6
 obtain⟨n,h⟩:=aeU rfl p cs l
 exact⟨F6,ae5,ajL h⟩
theorem agU (os:Os)(started:os.Started)(H:Type)(enc:TypeId×Value->H):
  ReturnsInHanded {} Tryz.checked os 5 .any (Rows.stepOthersSpec.pre6 enc Tryz.prog Tryz.f5 Rows.stepOthersRow.domain false) (Rows.stepOthersSpec.post enc Tryz.prog Tryz.f5 false true false false):=by
 refine returnsInHanded_of_change_sized (C:=Tryz.checked) own started (by kernel_rfl) Tryz.func5
  (ChangeSpec.witness6 (enc:=enc) (C:=Tryz.checked) false ⟨#[],#[.agg #[.slice none 0 0,.slice none 0 0],.slice none 0 0,.slice none 0 0],[]⟩ 8 (by kernel_rfl) (by kernel_rfl) (by kernel_rfl) (by kernel_rfl)) ?_
 intro W base args ds gs before acy hW aql aqy _
 have iM:∀(j:Nat) t v,Tryz.f5.params[j]? =some t->args[j]? =some v->Value.okWide Tryz.prog W .any base t v:=acy
 have L8:=hW
 obtain⟨p,q,hA0,hV,rfl,SG,ig⟩:=hW
 have hA:DataW.TrodAll enc Tryz.prog W 0 (fun _=>true) true Tryz.f5.params.toList args.toList ds p:=hA0
 rw[Tryz.params5]at hA iM
 obtain⟨v0,vs0,d0,ds0,p0,q0,eG,rfl,rfl,h0,r0⟩:=trodAll_cons hA
 obtain⟨v1,vs1,d1,uK,p1,q1,rfl,rfl,rfl,h1,r1⟩:=trodAll_cons r0
 obtain⟨v2,vs2,d2,ds2,p2,q2,rfl,rfl,rfl,h2,r2⟩:=trodAll_cons r1
 obtain⟨rfl,rfl,rfl⟩:=trodAll_nil r2
 obtain rfl:args=#[v0,v1,v2]:=by cases args;simp_all
 obtain⟨rfl,rfl⟩:=trodVars_none hV
 obtain⟨a0,rfl,_⟩:=okWide_struct Tryz.underlying25 (iM 0 25 v0 rfl rfl)
 obtain⟨pr,rc0⟩:=afu (α:=aj) afl h0
 obtain⟨a1,aqz,aqf,rfl⟩:=okWide_slice Tryz.underlying26 (iM 1 26 v1 rfl rfl)
 obtain⟨cs,c1,ec1,rc1⟩:=UM (α:=Sl Int) rfl afm h1 rfl
 cases ec1
 obtain⟨a2,aqA,aqg,rfl⟩:=okWide_slice Tryz.underlying27 (iM 2 27 v2 rfl rfl)
 obtain⟨l,c2,ec2,rc2⟩:=UM (α:=Sl bT) rfl afn h2 rfl
 cases ec2
 obtain⟨k,ey,dJ⟩:=aeT pr cs l
 rw[EncX.eq]at dJ
 refine(ade (X:=@X k) mixed ey ⟨fun _ h=>h.elim,trivial⟩ dJ (.cons (.c rc0) (.cons (.c rc1) (.cons (.c rc2) .nil)))).mono fun en W' ⟨he,hk⟩=>?_
 exact⟨_,he,ae3 (P:=Tryz.prog) (f:=Tryz.f5) (s:=Rows.stepOthersSpec) laidOut (by rw[Tryz.params5];intro t ht;simp at ht;rcases ht with rfl | rfl | rfl<;>exact⟨by kernel_rfl,of_decide_eq_true (by kernel_rfl)⟩) rfl Tryz.underlying4 rfl rfl L8 hk⟩
theorem stepOthers_holds:Rows.StepOthersSaid:=
 OpenClaim.holds_of_wide 5 Tryz.f5 rfl rfl rfl rfl rfl rfl rfl ⟨rfl,rfl,rfl,rfl,rfl⟩ rfl rfl rfl rfl rfl (by kernel_rfl) Tryz.func5 (by kernel_rfl)
  (of_decide_eq_true (by kernel_rfl)) (by unfold Func.isWrapper;first | (rw[if_pos (by decide+kernel)];kernel_rfl) | (rw[if_neg (by decide+kernel)];exact⟨rfl,rfl⟩))
  (fun os started H enc _=>agU os started H enc)
end Go.Proofs.YtpadajnejknkeaaGreat
