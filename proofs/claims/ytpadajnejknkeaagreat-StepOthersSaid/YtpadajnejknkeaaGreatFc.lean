/-
-/
import Derived.Test.YtpadajnejknkeaaGreatFb
set_option linter.unusedVariables false
set_option linter.unusedSimpArgs false
set_option maxRecDepth 100000
set_option maxHeartbeats 1000000
namespace Go.Vig
open Go Go.Abs Go.Proofs
variable [Kn]
inductive IH where
 | r (v6:Int)
 | e2 (DJ v10:Int)
def alC:IH->Ex
 | .r _=>.ret
 | .e2 _ _=>(.exit 2)
def alB (p0:aj)(p1 p2:ByteArray)(v9:Int):IH->(Nat->DV)->List Ob->S
 | .r v6,F,G=>⟨fs F [6,7] [(6,aa v6),(7,dB true)],⟨sl G 1 [(0,⟨1,(EncX.ae p0).map DV.c⟩)],[]⟩⟩
 | .e2 DJ v10,F,G=>⟨fs F [1,2,3,8,9,10,26] [(1,.c (.sc (.string p1))),(2,.c (.sc (.string p2))),(3,.pt 0 1 0),(8,aa DJ),(9,aa v9),(10,aa v10),(26,dB false)],⟨sl G 1 [(0,⟨1,(EncX.ae p0).map DV.c⟩)],[]⟩⟩
def wU (p0:aj)(p1 p2:ByteArray)(v9:Int)(n:Nat):Nat->Int->Int->Option IH
 | 0,_,_=>none
 | k+1,nw,v10=>
  (aD p0.aw.l v9).bind fun bZ=>
  if v10<(bZ.vars.l.length:Int)then
   if bZ.name=p1 then
    (aD bZ.vars.l v10).bind fun tR=>
    if tR.name=p2 then
     some (.r nw)
    else if aF (nw+1)then if aF (v10+1)then wU p0 p1 p2 v9 n k (nw+1) (v10+1)
    else none
    else none
   else if aF (nw+1)then if aF (v10+1)then wU p0 p1 p2 v9 n k (nw+1) (v10+1)
   else none
   else none
  else some (.e2 nw v10)
theorem alA (p0:aj)(p1 p2:ByteArray)(v9:Int)(n:Nat):∀(k:Nat) (nw:Int) (v10:Int) (o:IH),wU p0 p1 p2 v9 n k nw v10=some o->X.LF 104 62 6 (sub KR [1,1,0,1,0,0,1,0,0,0,1,0,0]) 1 [(1,.c (.sc (.string p1))),(2,.c (.sc (.string p2))),(3,.pt 0 1 0),(8,aa nw),(9,aa v9),(10,aa v10)] [(0,⟨1,(EncX.ae p0).map DV.c⟩)] (alC o) (alB p0 p1 p2 v9 o):=by
 intro k;induction k with
 | zero=>intro _ _ _ h;exact nomatch h
 | succ k ih=>
  intro nw v10 o h F G s hs
  refine Sys.bj hs (w0 ?_)
  refine wg h fun bZ h0 h=>wx (6,4) h0<|wl (6,6) 1 h0 rfl<|wi (6,8) h (fun h1 h=>?_) fun h1 h=>?_
  ·refine wx (8,3) h0<|wl (8,5) 0 h0 rfl<|wI h (fun h2 h=>?_) fun h2 h=>?_
   ·refine wt (8,7) (.op { d:=dB true}) (dM h2)<|wx (8,12) h0<|wl (8,14) 1 h0 rfl<|wg h fun tR h3 h=>wx (8,16) h3<|wl (8,18) 0 h3 rfl<|wI h (fun h4 h=>?_) fun h4 h=>?_
    ·refine wt (8,20) (.op { d:=dB true}) (dM h4)<|?_
     cases h
     exact wX
    ·exact wt (8,20) (.op { d:=dB false}) (dL h4)<|wn (10,1) h fun h5 h=>wn (7,1) h fun h6 h=>wN 6 [] (ih (nw+1) (v10+1) _ h F G)
   ·exact wt (8,7) (.op { d:=dB false}) (dL h2)<|wn (10,1) h fun h3 h=>wn (7,1) h fun h4 h=>wN 6 [] (ih (nw+1) (v10+1) _ h F G)
  ·cases h
   exact wX
inductive IG where
 | r (v6:Int) (v7:Bool)
 | e0 (v8 v9:Int)
def alz:IG->Ex
 | .r _ _=>.ret
 | .e0 _ _=>(.exit 0)
def aly (p0:aj)(p1 p2:ByteArray):IG->(Nat->DV)->List Ob->S
 | .r v6 v7,F,G=>⟨fs F [6,7] [(6,aa v6),(7,dB v7)],⟨sl G 1 [(0,⟨1,(EncX.ae p0).map DV.c⟩)],[]⟩⟩
 | .e0 v8 v9,F,G=>⟨fs F [1,2,3,8,9,15] [(1,.c (.sc (.string p1))),(2,.c (.sc (.string p2))),(3,.pt 0 1 0),(8,aa v8),(9,aa v9),(15,dB false)],⟨sl G 1 [(0,⟨1,(EncX.ae p0).map DV.c⟩)],[]⟩⟩
def zT (p0:aj)(p1 p2:ByteArray)(n:Nat):Nat->Int->Int->Option IG
 | 0,_,_=>none
 | k+1,v8,v9=>
  if v9<(p0.aw.l.length:Int)then
   (wU p0 p1 p2 v9 n n v8 0).bind fun az=>match az with
   | .r v6=>
    some (.r v6 true)
   | .e2 dC cB=>
    (aD p0.aw.l v9).bind fun rN=>
    if rN.name=p1 then
     some (.r 0 false)
    else if aF (v9+1)then zT p0 p1 p2 n k dC (v9+1)
    else none
  else some (.e0 v8 v9)
theorem alx (p0:aj)(p1 p2:ByteArray)(n:Nat):∀(k:Nat) (v8:Int) (v9:Int) (o:IG),zT p0 p1 p2 n k v8 v9=some o->X.LF 104 62 3 (sub KR [1,1,0,1,0,0]) 1 [(1,.c (.sc (.string p1))),(2,.c (.sc (.string p2))),(3,.pt 0 1 0),(8,aa v8),(9,aa v9)] [(0,⟨1,(EncX.ae p0).map DV.c⟩)] (alz o) (aly p0 p1 p2 o):=by
 intro k;induction k with
 | zero=>intro _ _ _ h;exact nomatch h
 | succ k ih=>
  intro v8 v9 o h F G s hs
  refine Sys.bj hs (w0 ?_)
  refine wi (3,4) h (fun h0 h=>?_) fun h0 h=>?_
  ·refine wg h fun az h1 h=>?_
   have h1:=alA _ _ _ _ _ _ _ _ _ h1
   cases az with
   | r v6=>
    refine wO [1,0,0,0,1,0] h1<|?_
    cases h
    exact wX
   | e2 dC cB=>
    refine wO [1,0,0,0,1,0] h1<|wg h fun rN h2 h=>wx (11,3) h2<|wl (11,5) 0 h2 rfl<|wI h (fun h3 h=>?_) fun h3 h=>?_
    ·refine wt (11,7) (.op { d:=dB true}) (dM h3)<|?_
     cases h
     exact wX
    ·exact wt (11,7) (.op { d:=dB false}) (dL h3)<|wn (4,1) h fun h4 h=>wN 3 [] (ih dC (v9+1) _ h F G)
  ·cases h
   exact wX
def ua (n:Nat)(p0:aj)(p1 p2:ByteArray):Option (Int×Bool):=
 (zT p0 p1 p2 n n 0 0).bind fun aY=>match aY with
 | .r bX v7=>
  some (bX,v7)
 | .e0 DN gB=>
  some (0,false)
theorem DX {n:Nat}{p0:aj}{p1 p2:ByteArray}{r:Int×Bool}(h:ua n p0 p1 p2=some r):X.bg 104 [.c (.agg (EncX.ae p0)),.c (.sc (.string p1)),.c (.sc (.string p2))] (.aX [aa r.1,dB r.2]):=by
 refine fC 62 KR ?_
 refine wg h fun aY h0 h=>?_
 have h0:=alx _ _ _ _ _ _ _ _ h0
 cases aY with
 | r bX v7=>
  refine wO [1,1,0,1,0] h0<|?_
  cases h
  exact wC
 | e0 DN gB=>
  refine wO [1,1,0,1,0] h0<|?_
  cases h
  exact wC
def Xf:List DV:=[.c (.sc (.string (⟨#[]⟩:ByteArray))),.c (.sl true true [] 0),aa 0]
inductive IE where
 | r (o1:dW)
 | e0 (v10:Int)
def als:IE->Ex
 | .r _=>.ret
 | .e0 _=>(.exit 0)
def alr (p0:aj)(p2:ByteArray)(x:Int):IE->(Nat->DV)->List Ob->S
 | .r o1,F,G=>⟨fs F [6,7] [(6,.pt 1 1 0),(7,dB true)],⟨sl G 2 [(0,⟨1,(EncX.ae p0).map DV.c⟩),(1,⟨1,(EncX.ae o1).map DV.c⟩)],[]⟩⟩
 | .e0 v10,F,G=>⟨fs F [2,3,6,8,10,28] [(2,.c (.sc (.string p2))),(3,.pt 0 1 0),(6,.pt 1 1 0),(8,aa x),(10,aa v10),(28,dB false)],⟨sl G 2 [(0,⟨1,(EncX.ae p0).map DV.c⟩),(1,⟨1,Xf⟩)],[]⟩⟩
def zQ (p0:aj)(p2:ByteArray)(x:Int)(n:Nat):Nat->Int->Option IE
 | 0,_=>none
 | k+1,v10=>
  (aD p0.aw.l x).bind fun v24=>
  if v10<(v24.methods.l.length:Int)then
   (aD v24.methods.l v10).bind fun gw=>
   if gw.name=p2 then
    some (.r gw)
   else if aF (v10+1)then zQ p0 p2 x n k (v10+1)
   else none
  else some (.e0 v10)
theorem alq (p0:aj)(p2:ByteArray)(x:Int)(n:Nat):∀(k:Nat) (v10:Int) (o:IE),zQ p0 p2 x n k v10=some o->X.LF 135 53 5 (sub Qw [1,1,1,0,1,0,0]) 2 [(2,.c (.sc (.string p2))),(3,.pt 0 1 0),(6,.pt 1 1 0),(8,aa x),(10,aa v10)] [(0,⟨1,(EncX.ae p0).map DV.c⟩),(1,⟨1,Xf⟩)] (als o) (alr p0 p2 x o):=by
 intro k;induction k with
 | zero=>intro _ _ h;exact nomatch h
 | succ k ih=>
  intro v10 o h F G s hs
  refine Sys.bj hs (w0 ?_)
  refine wg h fun v24 h0 h=>wx (5,4) h0<|wl (5,6) 2 h0 rfl<|wi (5,8) h (fun h1 h=>?_) fun h1 h=>?_
  ·refine wx (7,3) h0<|wl (7,5) 2 h0 rfl<|wg h fun gw h2 h=>wx (7,7) h2<|wl (7,9) 0 h2 rfl<|wI h (fun h3 h=>?_) fun h3 h=>?_
   ·refine wt (7,11) (.op { d:=dB true}) (dM h3)<|wx (8,3) h0<|wl (8,5) 2 h0 rfl<|wx (8,7) h2<|wa (8,8) h2<|?_
    cases h
    exact wX
   ·exact wt (7,11) (.op { d:=dB false}) (dL h3)<|wn (6,1) h fun h4 h=>wN 5 [] (ih (v10+1) _ h F G)
  ·cases h
   exact wX
def rQ (n:Nat)(p0:aj)(p1 p2:ByteArray):Option (dW×Bool):=
 (pY n p0 p1).bind fun(x,aC)=>
 bif aC then
  (zQ p0 p2 x n n 0).bind fun az=>match az with
  | .r o1=>
   some (o1,true)
  | .e0 cB=>
   some (({}:dW),false)
 else some (({}:dW),false)
theorem zR {n:Nat}{p0:aj}{p1 p2:ByteArray}{r:dW×Bool}(h:rQ n p0 p1 p2=some r):X.bg 135 [.c (.agg (EncX.ae p0)),.c (.sc (.string p1)),.c (.sc (.string p2))] (.aX [.c (.agg (EncX.ae r.1)),dB r.2]):=by
 refine fC 53 Qw ?_
 refine wc (1,2) h (fun _=>wT) ?_
 rintro⟨x,aC⟩ h
 cases aC
 ·cases h
  exact wC
 ·refine wg h fun az h2 h=>?_
  have h2:=alq _ _ _ _ _ _ _ h2
  cases az with
  | r o1=>
   refine wO [1,1,1,0,1,0] h2<|?_
   cases h
   exact wC
  | e0 cB=>
   refine wO [1,1,1,0,1,0] h2<|?_
   cases h
   exact wC
abbrev Pq:=aj->au->Option (Int×Int)
def Xg (f:Pq):Prop:=∀(p0:aj) (p1:au) (r:Int×Int),f p0 p1=some r->X.bg 178 [.c (.agg (EncX.ae p0)),.c (.agg (EncX.ae p1))] (.aX [aa r.1,aa r.2])
inductive IK where
 | r (v4 v5:Int)
 | e0 (v8:Int)
def alH:IK->Ex
 | .r _ _=>.ret
 | .e0 _=>(.exit 0)
def alG (p0:aj)(p1:au):IK->(Nat->DV)->List Ob->S
 | .r v4 v5,F,G=>⟨fs F [4,5] [(4,aa v4),(5,aa v5)],⟨sl G 2 [(0,⟨1,(EncX.ae p0).map DV.c⟩),(1,⟨1,(EncX.ae p1).map DV.c⟩)],[]⟩⟩
 | .e0 v8,F,G=>⟨fs F [2,3,8,31] [(2,.pt 0 1 0),(3,.pt 1 1 0),(8,aa v8),(31,dB false)],⟨sl G 2 [(0,⟨1,(EncX.ae p0).map DV.c⟩),(1,⟨1,(EncX.ae p1).map DV.c⟩)],[]⟩⟩
def ub (C7:Pq)(p0:aj)(p1:au)(n:Nat):Nat->Int->Option IK
 | 0,_=>none
 | k+1,v8=>
  if v8<(p1.kids.l.length:Int)then
   (aD p1.kids.l v8).bind fun rJ=>
   (C7 p0 rJ).bind fun(av,aK)=>
   if av≠0 then
    some (.r av aK)
   else if aF (v8+1)then ub C7 p0 p1 n k (v8+1)
   else none
  else some (.e0 v8)
theorem Xh (C7:Pq)(p0:aj)(p1:au)(Eu:Xg C7)(n:Nat):∀(k:Nat) (v8:Int) (o:IK),ub C7 p0 p1 n k v8=some o->X.LF 178 48 6 (sub QD [1,1,0,1,0,0]) 2 [(2,.pt 0 1 0),(3,.pt 1 1 0),(8,aa v8)] [(0,⟨1,(EncX.ae p0).map DV.c⟩),(1,⟨1,(EncX.ae p1).map DV.c⟩)] (alH o) (alG p0 p1 o):=by
 intro k;induction k with
 | zero=>intro _ _ h;exact nomatch h
 | succ k ih=>
  intro v8 o h F G s hs
  refine Sys.bj hs (w0 ?_)
  refine wi (6,4) h (fun h0 h=>?_) fun h0 h=>?_
  ·refine wg h fun rJ h1 h=>wx (8,4) h1<|wa (8,5) h1<|wc (8,6) h (fun _=>Eu _ _ _) ?_
   rintro⟨av,aK⟩ h
   refine wi (9,1) h (fun h3 h=>?_) fun h3 h=>?_
   ·cases h
    exact wX
   ·exact wn (7,1) h fun h4 h=>wN 6 [] (ih (v8+1) _ h F G)
  ·cases h
   exact wX
def lJ:Nat->aj->au->Option (Int×Int)
 | 0,_,_=>none
 | n+1,p0,p1=>
  if p1.op=4 then
   (ua n p0 p1.mon p1.name).bind fun(x,aC)=>
   bif aC then
    (ub (lJ n) p0 p1 n n 0).bind fun az=>match az with
    | .r v4 v5=>
     some (v4,v5)
    | .e0 dC=>
     some (0,0)
   else some (61,p1.at_)
  else(ub (lJ n) p0 p1 n n 0).bind fun aY=>match aY with
  | .r dU cN=>
   some (dU,cN)
  | .e0 DN=>
   some (0,0)
theorem alI:∀n:Nat,Xg (lJ n):=by
 intro n
 induction n with
 | zero=>
  refine ?_
  ·intro p0 p1 r h;unfold lJ at h;cases h
 | succ n ih=>
  have Eu:=ih
  refine ?_
  ·intro p0 p1 r h
   unfold lJ at h
   refine fC 48 QD ?_
   refine wi (1,2) h (fun h0 h=>?_) fun h0 h=>?_
   ·refine wc (2,5) h (fun _=>DX) ?_
    rintro⟨x,aC⟩ h
    cases aC
    ·cases h
     exact wC
    ·refine wg h fun az h3 h=>?_
     have h3:=Xh _ _ _ Eu _ _ _ _ h3
     cases az with
     | r v4 v5=>
      refine wO [1,1,0,1,0] h3<|?_
      cases h
      exact wC
     | e0 dC=>
      refine wO [1,1,0,1,0] h3<|?_
      cases h
      exact wC
   ·refine wg h fun aY h1 h=>?_
    have h1:=Xh _ _ _ Eu _ _ _ _ h1
    cases aY with
    | r dU cN=>
     refine wO [1,1,0,1,0] h1<|?_
     cases h
     exact wC
    | e0 DN=>
     refine wO [1,1,0,1,0] h1<|?_
     cases h
     exact wC
theorem alJ {n:Nat}{p0:aj}{p1:au}{r:Int×Int}(h:lJ n p0 p1=some r):X.bg 178 [.c (.agg (EncX.ae p0)),.c (.agg (EncX.ae p1))] (.aX [aa r.1,aa r.2]):=alI n p0 p1 r h
abbrev DY:=aj->Sl af->Option (Int×Int)
def Pr (f:DY):Prop:=∀(p0:aj) (p1:Sl af) (r:Int×Int),f p0 p1=some r->X.bg 163 [.c (.agg (EncX.ae p0)),.c (aq p1)] (.aX [aa r.1,aa r.2])
inductive IT where
 | m (v8:Bool)
def alZ:IT->Ex
 | .m _=>.normal
def alY (p0:aj)(v20:af):IT->(Nat->DV)->List Ob->S
 | .m v8,F,G=>⟨fs F [1,2,6,7,8] [(2,.pt 0 1 0),(7,.pt 1 1 0),(8,dB v8)],⟨sl G 2 [(0,⟨1,(EncX.ae p0).map DV.c⟩),(1,⟨1,(EncX.ae v20).map DV.c⟩)],[]⟩⟩
def IS (p0:aj)(v20:af)(n:Nat):Option IT:=
 if v20.kind=2 then
  (ua n p0 v20.mon v20.name).bind fun(x,aC)=>
  some (.m aC)
 else if v20.kind=8 then
  (rQ n p0 v20.mon v20.name).bind fun(av,aK)=>
  some (.m aK)
 else if v20.kind=7 then
  (pY n p0 v20.mon).bind fun(aG,ba)=>
  some (.m ba)
 else if v20.kind=9 then
  (pY n p0 v20.mon).bind fun(ca,cm)=>
  some (.m cm)
 else if v20.kind=10 then
  (pY n p0 v20.mon).bind fun(dV,eS)=>
  some (.m eS)
 else if v20.kind=11 then
  (pY n p0 v20.mon).bind fun(iY,ku)=>
  some (.m ku)
 else some (.m true)
theorem alX (p0:aj)(v20:af)(n:Nat)(o:IT)(h:IS p0 v20 n=some o):X.JF 163 94 (sub EG [1,0,1,0,0,1,0,0,1,1,0]) [1,2,6,7] 2 [(2,.pt 0 1 0),(7,.pt 1 1 0)] [(0,⟨1,(EncX.ae p0).map DV.c⟩),(1,⟨1,(EncX.ae v20).map DV.c⟩)] (alZ o) (alY p0 v20 o):=by
 intro F G;refine Sys.dZ (w0 ?_)
 refine wi (8,0) h (fun h0 h=>?_) fun h0 h=>?_
 ·refine wc (9,5) h (fun _=>DX) ?_
  rintro⟨x,aC⟩ h
  cases h
  exact wJ
 ·refine wi (10,0) h (fun h1 h=>?_) fun h1 h=>?_
  ·refine wc (11,5) h (fun _=>zR) ?_
   rintro⟨av,aK⟩ h
   cases h
   exact wJ
  ·refine wi (12,0) h (fun h2 h=>?_) fun h2 h=>?_
   ·refine wc (16,3) h (fun _=>wT) ?_
    rintro⟨aG,ba⟩ h
    cases h
    exact wJ
   ·refine wi (13,0) h (fun h3 h=>?_) fun h3 h=>?_
    ·refine wc (16,3) h (fun _=>wT) ?_
     rintro⟨ca,cm⟩ h
     cases h
     exact wJ
    ·refine wi (14,0) h (fun h4 h=>?_) fun h4 h=>?_
     ·refine wc (16,3) h (fun _=>wT) ?_
      rintro⟨dV,eS⟩ h
      cases h
      exact wJ
     ·refine wi (15,0) h (fun h5 h=>?_) fun h5 h=>?_
      ·refine wc (16,3) h (fun _=>wT) ?_
       rintro⟨iY,ku⟩ h
       cases h
       exact wJ
      ·cases h
       exact wJ
inductive IU where
 | e3 (v9 v10 v11:Int)
def al2:IU->Ex
 | .e3 _ _ _=>(.exit 3)
def al1 (p0:aj)(v20:af):IU->(Nat->DV)->List Ob->S
 | .e3 v9 v10 v11,F,G=>⟨fs F [1,2,6,7,9,10,11,77] [(2,.pt 0 1 0),(7,.pt 1 1 0),(9,aa v9),(10,aa v10),(11,aa v11),(77,dB false)],⟨sl G 2 [(0,⟨1,(EncX.ae p0).map DV.c⟩),(1,⟨1,(EncX.ae v20).map DV.c⟩)],[]⟩⟩
def wZ (oe:DY)(p0:aj)(v20:af)(n:Nat):Nat->Int->Int->Int->Option IU
 | 0,_,_,_=>none
 | k+1,v9,v10,v11=>
  if v11<(v20.blocks.l.length:Int)then
   if v9=0 then
    (aD v20.blocks.l v11).bind fun v85=>
    (oe p0 v85).bind fun(ny,oG)=>
    if aF (v11+1)then wZ oe p0 v20 n k ny oG (v11+1)
    else none
   else some (.e3 v9 v10 v11)
  else some (.e3 v9 v10 v11)
theorem al0 (oe:DY)(p0:aj)(v20:af)(AQ:Pr oe)(n:Nat):∀(k:Nat) (v9:Int) (v10:Int) (v11:Int) (o:IU),wZ oe p0 v20 n k v9 v10 v11=some o->X.LF 163 94 21 (sub EG [1,0,1,0,0,1,0,0,1,1,1,1,1,0,1,0,0]) 2 [(2,.pt 0 1 0),(7,.pt 1 1 0),(9,aa v9),(10,aa v10),(11,aa v11)] [(0,⟨1,(EncX.ae p0).map DV.c⟩),(1,⟨1,(EncX.ae v20).map DV.c⟩)] (al2 o) (al1 p0 v20 o):=by
 intro k;induction k with
 | zero=>intro _ _ _ _ h;exact nomatch h
 | succ k ih=>
  intro v9 v10 v11 o h F G s hs
  refine Sys.bj hs (w0 ?_)
  refine wi (21,4) h (fun h0 h=>?_) fun h0 h=>?_
  ·refine wi (21,7) h (fun h1 h=>?_) fun h1 h=>?_
   ·refine wg h fun v85 h2 h=>wx (23,4) h2<|wl (23,5) 0 h2 rfl<|wc (23,6) h (fun _=>AQ _ _ _) ?_
    rintro⟨ny,oG⟩ h
    exact wn (22,1) h fun h4 h=>wN 21 [] (ih ny oG (v11+1) _ h F G)
   ·cases h
    exact wX
  ·cases h
   exact wX
inductive IV where
 | r (v4 v5:Int) (o1:af)
 | e0 (v6:Int)
def al5:IV->Ex
 | .r _ _ _=>.ret
 | .e0 _=>(.exit 0)
def al4 (p0:aj)(p1:Sl af):IV->S
 | .r v4 v5 o1=>⟨fl [(4,aa v4),(5,aa v5)],⟨[⟨1,(EncX.ae p0).map DV.c⟩,⟨1,(EncX.ae o1).map DV.c⟩],[]⟩⟩
 | .e0 v6=>⟨fl [(1,.c (aq p1)),(2,.pt 0 1 0),(6,aa v6),(15,dB false)],⟨[⟨1,(EncX.ae p0).map DV.c⟩],[]⟩⟩
def wY (oe:DY)(p0:aj)(p1:Sl af)(n:Nat):Nat->Int->Option IV
 | 0,_=>none
 | k+1,v6=>
  if v6<(p1.l.length:Int)then
   (aD p1.l v6).bind fun v20=>
   (IS p0 v20 n).bind fun az=>match az with
   | .m v8=>
    bif v8 then
     (lJ n p0 v20.e_).bind fun(iB,iZ)=>
     (wZ oe p0 v20 n n iB iZ 0).bind fun aY=>match aY with
     | .e3 gB cB ov=>
      if gB≠0 then
       some (.r gB cB v20)
      else if aF (v6+1)then wY oe p0 p1 n k (v6+1)
      else none
    else some (.r 61 v20.at_ v20)
  else some (.e0 v6)
theorem al3 (oe:DY)(p0:aj)(p1:Sl af)(AQ:Pr oe)(n:Nat):∀(k:Nat) (v6:Int) (o:IV),wY oe p0 p1 n k v6=some o->X.LH 163 94 2 (sub EG [1,0,1,0,0]) 1 ⟨fl [(1,.c (aq p1)),(2,.pt 0 1 0),(6,aa v6)],⟨[⟨1,(EncX.ae p0).map DV.c⟩],[]⟩⟩ (al5 o) (al4 p0 p1 o):=by
 intro k;induction k with
 | zero=>intro _ _ h;exact nomatch h
 | succ k ih=>
  intro v6 o h s hs
  refine Sys.bj hs (w0 ?_)
  refine wi (2,3) h (fun h0 h=>?_) fun h0 h=>?_
  ·refine wg h fun v20 h1 h=>wx (4,2) h1<|wa (4,3) h1<|wg h fun az h2 h=>?_
   have h2:=alX _ _ _ _ h2
   cases az with
   | m v8=>
    refine wV 206003 [1,0,0,1,1,0] h2<|?_
    cases v8
    ·cases h
     exact wX
    ·refine wc (19,3) h (fun _=>alJ) ?_
     rintro⟨iB,iZ⟩ h
     refine wg h fun aY h5 h=>?_
     have h5:=al0 _ _ _ AQ _ _ _ _ _ _ h5
     cases aY with
     | e3 gB cB ov=>
      refine wO [1,0,0,1,1,1,1,1,0,1,0] h5<|wi (24,1) h (fun h6 h=>?_) fun h6 h=>?_
      ·cases h
       exact wX
      ·exact wn (3,1) h fun h7 h=>wN 2 [] (ih (v6+1) _ h)
  ·cases h
   exact wX
def jH:Nat->aj->Sl af->Option (Int×Int)
 | 0,_,_=>none
 | n+1,p0,p1=>
  (wY (jH n) p0 p1 n n 0).bind fun bD=>match bD with
  | .r v4 v5 o1=>
   some (v4,v5)
  | .e0 bX=>
   some (0,0)
theorem al6:∀n:Nat,Pr (jH n):=by
 intro n
 induction n with
 | zero=>
  refine ?_
  ·intro p0 p1 r h;unfold jH at h;cases h
 | succ n ih=>
  have AQ:=ih
  refine ?_
  ·intro p0 p1 r h
   unfold jH at h
   refine fC 94 EG ?_
   refine wg h fun bD h0 h=>?_
   have h0:=al3 _ _ _ AQ _ _ _ _ h0
   cases bD with
   | r v4 v5 o1=>
    refine wo [1,0,1,0] h0<|?_
    cases h
    exact wC
   | e0 bX=>
    refine wo [1,0,1,0] h0<|?_
    cases h
    exact wC
theorem Xi {n:Nat}{p0:aj}{p1:Sl af}{r:Int×Int}(h:jH n p0 p1=some r):X.bg 163 [.c (.agg (EncX.ae p0)),.c (aq p1)] (.aX [aa r.1,aa r.2]):=al6 n p0 p1 r h
inductive ID where
 | r (v2 v3:Int)
 | e0 (v4:Int)
def alo:ID->Ex
 | .r _ _=>.ret
 | .e0 _=>(.exit 0)
def aln (p0:aj):ID->(Nat->DV)->List Ob->S
 | .r v2 v3,F,G=>⟨fs F [2,3] [(2,aa v2),(3,aa v3)],⟨sl G 1 [(0,⟨1,(EncX.ae p0).map DV.c⟩)],[]⟩⟩
 | .e0 v4,F,G=>⟨fs F [1,4,26] [(1,.pt 0 1 0),(4,aa v4),(26,dB false)],⟨sl G 1 [(0,⟨1,(EncX.ae p0).map DV.c⟩)],[]⟩⟩
def zP (p0:aj)(n:Nat):Nat->Int->Option ID
 | 0,_=>none
 | k+1,v4=>
  if v4<(p0.aw.l.length:Int)then
   (aD p0.aw.l v4).bind fun jF=>
   (pY n p0 jF.name).bind fun(aC,av)=>
   if aC≠v4 then
    some (.r 60 jF.at_)
   else(IL n jF).bind fun(aK,aG)=>
   if aK≠0 then
    some (.r aK aG)
   else if aF (v4+1)then zP p0 n k (v4+1)
   else none
  else some (.e0 v4)
theorem alm (p0:aj)(n:Nat):∀(k:Nat) (v4:Int) (o:ID),zP p0 n k v4=some o->X.LF 133 164 4 (sub uz [1,1,0,1,0,0]) 1 [(1,.pt 0 1 0),(4,aa v4)] [(0,⟨1,(EncX.ae p0).map DV.c⟩)] (alo o) (aln p0 o):=by
 intro k;induction k with
 | zero=>intro _ _ h;exact nomatch h
 | succ k ih=>
  intro v4 o h F G s hs
  refine Sys.bj hs (w0 ?_)
  refine wi (4,4) h (fun h0 h=>?_) fun h0 h=>?_
  ·refine wg h fun jF h1 h=>wx (6,4) h1<|wl (6,6) 0 h1 rfl<|wc (6,7) h (fun _=>wT) ?_
   rintro⟨aC,av⟩ h
   refine wi (7,2) h (fun h3 h=>?_) fun h3 h=>?_
   ·refine wx (8,3) h1<|wl (8,5) 3 h1 rfl<|?_
    cases h
    exact wX
   ·refine wx (9,3) h1<|wa (9,4) h1<|wc (9,5) h (fun _=>alW) ?_
    rintro⟨aK,aG⟩ h
    refine wi (10,1) h (fun h5 h=>?_) fun h5 h=>?_
    ·cases h
     exact wX
    ·exact wn (5,1) h fun h6 h=>wN 4 [] (ih (v4+1) _ h F G)
  ·cases h
   exact wX
inductive Iz where
 | r
 | e4 (v11:Int)
def alb:Iz->Ex
 | .r=>.ret
 | .e4 _=>(.exit 4)
def ala (p0:aj)(v9:Int)(v72:aO):Iz->(Nat->DV)->List Ob->S
 | .r,F,G=>⟨fs F [2,3] [(2,aa 60),(3,aa v72.at_)],⟨sl G 2 [(0,⟨1,(EncX.ae p0).map DV.c⟩),(1,⟨1,(EncX.ae v72).map DV.c⟩)],[]⟩⟩
 | .e4 v11,F,G=>⟨fs F [1,9,10,11,76] [(1,.pt 0 1 0),(9,aa v9),(10,.pt 1 1 0),(11,aa v11),(76,dB false)],⟨sl G 2 [(0,⟨1,(EncX.ae p0).map DV.c⟩),(1,⟨1,(EncX.ae v72).map DV.c⟩)],[]⟩⟩
def zL (p0:aj)(v9:Int)(v72:aO)(n:Nat):Nat->Int->Option Iz
 | 0,_=>none
 | k+1,v11=>
  if v11<v9 then
   (aD p0.aR.l v11).bind fun DL=>
   if DL.name=v72.name then
    some (.r)
   else if aF (v11+1)then zL p0 v9 v72 n k (v11+1)
   else none
  else some (.e4 v11)
theorem ak9 (p0:aj)(v9:Int)(v72:aO)(n:Nat):∀(k:Nat) (v11:Int) (o:Iz),zL p0 v9 v72 n k v11=some o->X.LF 133 164 17 (sub uz [1,1,1,0,1,0,0,1,0,0,1,0,1,0,0]) 2 [(1,.pt 0 1 0),(9,aa v9),(10,.pt 1 1 0),(11,aa v11)] [(0,⟨1,(EncX.ae p0).map DV.c⟩),(1,⟨1,(EncX.ae v72).map DV.c⟩)] (alb o) (ala p0 v9 v72 o):=by
 intro k;induction k with
 | zero=>intro _ _ h;exact nomatch h
 | succ k ih=>
  intro v11 o h F G s hs
  refine Sys.bj hs (w0 ?_)
  refine wi (17,2) h (fun h0 h=>?_) fun h0 h=>?_
  ·refine wg h fun DL h1 h=>wx (19,3) h1<|wl (19,5) 0 h1 rfl<|wI h (fun h2 h=>?_) fun h2 h=>?_
   ·refine wt (19,8) (.op { d:=dB true}) (dM h2)<|?_
    cases h
    exact wX
   ·exact wt (19,8) (.op { d:=dB false}) (dL h2)<|wn (18,1) h fun h3 h=>wN 17 [] (ih (v11+1) _ h F G)
  ·cases h
   exact wX
inductive Iy where
 | r (v2 v3:Int) (o1:aO)
 | e2 (v9:Int)
def ak8:Iy->Ex
 | .r _ _ _=>.ret
 | .e2 _=>(.exit 2)
def ak7 (p0:aj):Iy->S
 | .r v2 v3 o1=>⟨fl [(2,aa v2),(3,aa v3)],⟨[⟨1,(EncX.ae p0).map DV.c⟩,⟨1,(EncX.ae o1).map DV.c⟩],[]⟩⟩
 | .e2 v9=>⟨fl [(1,.pt 0 1 0),(9,aa v9),(66,dB false)],⟨[⟨1,(EncX.ae p0).map DV.c⟩],[]⟩⟩
def wR (p0:aj)(n:Nat):Nat->Int->Option Iy
 | 0,_=>none
 | k+1,v9=>
  if v9<(p0.aR.l.length:Int)then
   (aD p0.aR.l v9).bind fun v72=>
   (zL p0 v9 v72 n n 0).bind fun aY=>match aY with
   | .r=>
    some (.r 60 v72.at_ v72)
   | .e4 ov=>
    if v72.star=true then
     if aF (v9+1)then wR p0 n k (v9+1)
     else none
    else if v72.count<1 then
     some (.r 6 v72.at_ v72)
    else if v72.count>8 then
     some (.r 6 v72.at_ v72)
    else if aF (v9+1)then wR p0 n k (v9+1)
    else none
  else some (.e2 v9)
theorem ak6 (p0:aj)(n:Nat):∀(k:Nat) (v9:Int) (o:Iy),wR p0 n k v9=some o->X.LH 133 164 13 (sub uz [1,1,1,0,1,0,0]) 1 ⟨fl [(1,.pt 0 1 0),(9,aa v9)],⟨[⟨1,(EncX.ae p0).map DV.c⟩],[]⟩⟩ (ak8 o) (ak7 p0 o):=by
 intro k;induction k with
 | zero=>intro _ _ h;exact nomatch h
 | succ k ih=>
  intro v9 o h s hs
  refine Sys.bj hs (w0 ?_)
  refine wi (13,4) h (fun h0 h=>?_) fun h0 h=>?_
  ·refine wg h fun v72 h1 h=>wx (15,3) h1<|wa (15,4) h1<|wg h fun aY h2 h=>?_
   have h2:=ak9 _ _ _ _ _ _ _ h2
   cases aY with
   | r=>
    refine wO [1,0,0,1,0,1,0] h2<|?_
    cases h
    exact wX
   | e4 ov=>
    refine wO [1,0,0,1,0,1,0] h2<|wI h (fun h3 h=>?_) fun h3 h=>?_
    ·exact wt (21,1) (.op { d:=dB true}) (kz h3)<|wn (14,1) h fun h4 h=>wN 13 [] (ih (v9+1) _ h)
    ·refine wt (21,1) (.op { d:=dB false}) (kz (eq_false_of_ne_true h3))<|wi (21,6) h (fun h4 h=>?_) fun h4 h=>?_
     ·cases h
      exact wX
     ·refine wi (21,10) h (fun h5 h=>?_) fun h5 h=>?_
      ·cases h
       exact wX
      ·exact wn (14,1) h fun h6 h=>wN 13 [] (ih (v9+1) _ h)
  ·cases h
   exact wX
inductive IB where
 | r (v2 v3:Int)
 | e8 (bf:Int)
def alh:IB->Ex
 | .r _ _=>.ret
 | .e8 _=>(.exit 8)
def alg (p0:aj)(v12:Int):IB->(Nat->DV)->List Ob->S
 | .r v2 v3,F,G=>⟨fs F [2,3] [(2,aa v2),(3,aa v3)],⟨sl G 1 [(0,⟨1,(EncX.ae p0).map DV.c⟩)],[]⟩⟩
 | .e8 bf,F,G=>⟨fs F [1,12,13,120] [(1,.pt 0 1 0),(12,aa v12),(13,aa bf),(120,dB false)],⟨sl G 1 [(0,⟨1,(EncX.ae p0).map DV.c⟩)],[]⟩⟩
def zN (p0:aj)(v12:Int)(n:Nat):Nat->Int->Option IB
 | 0,_=>none
 | k+1,bf=>
  (aD p0.aw.l v12).bind fun OW=>
  if bf<(OW.methods.l.length:Int)then
   (aD OW.methods.l bf).bind fun DB=>
   (jH n p0 DB.body).bind fun(ba,ca)=>
   if ba≠0 then
    some (.r ba ca)
   else if aF (bf+1)then zN p0 v12 n k (bf+1)
   else none
  else some (.e8 bf)
theorem alf (p0:aj)(v12:Int)(n:Nat):∀(k:Nat) (bf:Int) (o:IB),zN p0 v12 n k bf=some o->X.LF 133 164 27 (sub uz [1,1,1,1,0,1,0,0,1,0,0,1,0,0]) 1 [(1,.pt 0 1 0),(12,aa v12),(13,aa bf)] [(0,⟨1,(EncX.ae p0).map DV.c⟩)] (alh o) (alg p0 v12 o):=by
 intro k;induction k with
 | zero=>intro _ _ h;exact nomatch h
 | succ k ih=>
  intro bf o h F G s hs
  refine Sys.bj hs (w0 ?_)
  refine wg h fun OW h0 h=>wx (27,4) h0<|wl (27,6) 2 h0 rfl<|wi (27,8) h (fun h1 h=>?_) fun h1 h=>?_
  ·refine wx (29,4) h0<|wl (29,6) 2 h0 rfl<|wg h fun DB h2 h=>wx (29,8) h2<|wl (29,10) 1 h2 rfl<|wc (29,11) h (fun _=>Xi) ?_
   rintro⟨ba,ca⟩ h
   refine wi (30,1) h (fun h4 h=>?_) fun h4 h=>?_
   ·cases h
    exact wX
   ·exact wn (28,1) h fun h5 h=>wN 27 [] (ih (bf+1) _ h F G)
  ·cases h
   exact wX
inductive IA where
 | r (v2 v3:Int)
 | e6 (v12:Int)
def ale:IA->Ex
 | .r _ _=>.ret
 | .e6 _=>(.exit 6)
def ald (p0:aj):IA->(Nat->DV)->List Ob->S
 | .r v2 v3,F,G=>⟨fs F [2,3] [(2,aa v2),(3,aa v3)],⟨sl G 1 [(0,⟨1,(EncX.ae p0).map DV.c⟩)],[]⟩⟩
 | .e6 v12,F,G=>⟨fs F [1,12,109] [(1,.pt 0 1 0),(12,aa v12),(109,dB false)],⟨sl G 1 [(0,⟨1,(EncX.ae p0).map DV.c⟩)],[]⟩⟩
def zM (p0:aj)(n:Nat):Nat->Int->Option IA
 | 0,_=>none
 | k+1,v12=>
  if v12<(p0.aw.l.length:Int)then
   (zN p0 v12 n n 0).bind fun c9=>match c9 with
   | .r tQ iT=>
    some (.r tQ iT)
   | .e8 OX=>
    if aF (v12+1)then zM p0 n k (v12+1)
    else none
  else some (.e6 v12)
theorem alc (p0:aj)(n:Nat):∀(k:Nat) (v12:Int) (o:IA),zM p0 n k v12=some o->X.LF 133 164 24 (sub uz [1,1,1,1,0,1,0,0]) 1 [(1,.pt 0 1 0),(12,aa v12)] [(0,⟨1,(EncX.ae p0).map DV.c⟩)] (ale o) (ald p0 o):=by
 intro k;induction k with
 | zero=>intro _ _ h;exact nomatch h
 | succ k ih=>
  intro v12 o h F G s hs
  refine Sys.bj hs (w0 ?_)
  refine wi (24,4) h (fun h0 h=>?_) fun h0 h=>?_
  ·refine wg h fun c9 h1 h=>?_
   have h1:=alf _ _ _ _ _ _ h1
   cases c9 with
   | r tQ iT=>
    refine wO [1,0,0,1,0] h1<|?_
    cases h
    exact wX
   | e8 OX=>
    exact wO [1,0,0,1,0] h1<|wn (25,1) h fun h2 h=>wN 24 [] (ih (v12+1) _ h F G)
  ·cases h
   exact wX
inductive IC where
 | r (v2 v3:Int)
 | kC (bH:Int)
def alk:IC->Ex
 | .r _ _=>.ret
 | .kC _=>(.exit 10)
def alj (p0:aj):IC->(Nat->DV)->List Ob->S
 | .r v2 v3,F,G=>⟨fs F [2,3] [(2,aa v2),(3,aa v3)],⟨sl G 1 [(0,⟨1,(EncX.ae p0).map DV.c⟩)],[]⟩⟩
 | .kC bH,F,G=>⟨fs F [1,16,146] [(1,.pt 0 1 0),(16,aa bH),(146,dB false)],⟨sl G 1 [(0,⟨1,(EncX.ae p0).map DV.c⟩)],[]⟩⟩
def zO (p0:aj)(n:Nat):Nat->Int->Option IC
 | 0,_=>none
 | k+1,bH=>
  if bH<(p0.aR.l.length:Int)then
   (aD p0.aR.l bH).bind fun v154=>
   (jH n p0 v154.body).bind fun(cm,dV)=>
   if cm≠0 then
    some (.r cm dV)
   else if aF (bH+1)then zO p0 n k (bH+1)
   else none
  else some (.kC bH)
theorem ali (p0:aj)(n:Nat):∀(k:Nat) (bH:Int) (o:IC),zO p0 n k bH=some o->X.LF 133 164 33 (sub uz [1,1,1,1,1,0,1,0,0]) 1 [(1,.pt 0 1 0),(16,aa bH)] [(0,⟨1,(EncX.ae p0).map DV.c⟩)] (alk o) (alj p0 o):=by
 intro k;induction k with
 | zero=>intro _ _ h;exact nomatch h
 | succ k ih=>
  intro bH o h F G s hs
  refine Sys.bj hs (w0 ?_)
  refine wi (33,4) h (fun h0 h=>?_) fun h0 h=>?_
  ·refine wg h fun v154 h1 h=>wx (35,4) h1<|wl (35,6) 3 h1 rfl<|wc (35,7) h (fun _=>Xi) ?_
   rintro⟨cm,dV⟩ h
   refine wi (36,1) h (fun h3 h=>?_) fun h3 h=>?_
   ·cases h
    exact wX
   ·exact wn (34,1) h fun h4 h=>wN 33 [] (ih (bH+1) _ h F G)
  ·cases h
   exact wX
def Ix (n:Nat)(p0:aj):Option (Int×Int):=
 (DS n p0).bind fun x=>
 bif x then
  (zP p0 n n 0).bind fun az=>match az with
  | .r v2 v3=>
   some (v2,v3)
  | .e0 dU=>
   (wR p0 n n 0).bind fun bD=>match bD with
   | .r lF c7 o1=>
    some (lF,c7)
   | .e2 gB=>
    (zM p0 n n 0).bind fun gv=>match gv with
    | .r WH rK=>
     some (WH,rK)
    | .e6 ow=>
     (zO p0 n n 0).bind fun iv=>match iv with
     | .r WI WJ=>
      some (WI,WJ)
     | .kC DD=>
      some (0,0)
 else some (20,0)
theorem alp {n:Nat}{p0:aj}{r:Int×Int}(h:Ix n p0=some r):X.bg 133 [.c (.agg (EncX.ae p0))] (.aX [aa r.1,aa r.2]):=by
 refine fC 164 uz ?_
 refine wc (1,1) h (fun _=>Xc) fun x h=>?_
 cases x
 ·cases h
  exact wC
 ·refine wg h fun az h2 h=>?_
  have h2:=alm _ _ _ _ _ h2
  cases az with
  | r v2 v3=>
   refine wO [1,1,0,1,0] h2<|?_
   cases h
   exact wC
  | e0 dU=>
   refine wO [1,1,0,1,0] h2<|wg h fun bD h3 h=>?_
   have h3:=ak6 _ _ _ _ _ h3
   cases bD with
   | r lF c7 o1=>
    refine wo [1,1,1,0,1,0] h3<|?_
    cases h
    exact wC
   | e2 gB=>
    refine wo [1,1,1,0,1,0] h3<|wg h fun gv h4 h=>?_
    have h4:=alc _ _ _ _ _ h4
    cases gv with
    | r WH rK=>
     refine wO [1,1,1,1,0,1,0] h4<|?_
     cases h
     exact wC
    | e6 ow=>
     refine wO [1,1,1,1,0,1,0] h4<|wg h fun iv h5 h=>?_
     have h5:=ali _ _ _ _ _ h5
     cases iv with
     | r WI WJ=>
      refine wO [1,1,1,1,1,0,1,0] h5<|?_
      cases h
      exact wC
     | kC DD=>
      refine wO [1,1,1,1,1,0,1,0] h5<|?_
      cases h
      exact wC
inductive II where
 | e0 (v3:List bI) (v4:Int)
def alF:II->Ex
 | .e0 _ _=>(.exit 0)
def alE (p0:aj):II->(Nat->DV)->List Ob->S
 | .e0 v3 v4,F,G=>⟨fs F [1,3,4,9] [(1,.pt 0 1 0),(3,aP v3),(4,aa v4),(9,dB false)],⟨sl G 1 [(0,⟨1,(EncX.ae p0).map DV.c⟩)],[]⟩⟩
def zU (p0:aj)(n:Nat):Nat->List bI->Int->Option II
 | 0,_,_=>none
 | k+1,v3,v4=>
  if v4<(p0.aw.l.length:Int)then
   (aD p0.aw.l v4).bind fun bH=>
   if Room 56 (v3++bH.vars.l).length then if aF (v4+1)then zU p0 n k (v3++bH.vars.l) (v4+1)
   else none
   else none
  else some (.e0 v3 v4)
theorem alD (p0:aj)(n:Nat):∀(k:Nat) (v3:List bI) (v4:Int) (o:II),zU p0 n k v3 v4=some o->X.LF 67 21 3 (sub QM [1,1,0,1,0,0]) 1 [(1,.pt 0 1 0),(3,aP v3),(4,aa v4)] [(0,⟨1,(EncX.ae p0).map DV.c⟩)] (alF o) (alE p0 o):=by
 intro k;induction k with
 | zero=>intro _ _ _ h;exact nomatch h
 | succ k ih=>
  intro v3 v4 o h F G s hs
  refine Sys.bj hs (w0 ?_)
  refine wi (3,4) h (fun h0 h=>?_) fun h0 h=>?_
  ·exact wg h fun bH h1 h=>wx (5,4) h1<|wl (5,6) 1 h1 rfl<|wq h fun h2 h=>PG (5,7) h2<|wn (4,1) h fun h3 h=>wN 3 [] (ih (v3++bH.vars.l) (v4+1) _ h F G)
  ·cases h
   exact wX
def wW (n:Nat)(p0:aj):Option (List bI):=
 (zU p0 n n ([]:List bI) 0).bind fun az=>match az with
 | .e0 c7 dU=>
  some c7
theorem IJ {n:Nat}{p0:aj}{r:List bI}(h:wW n p0=some r):X.bg 67 [.c (.agg (EncX.ae p0))] (aP r):=by
 refine fC 21 QM ?_
 refine wg h fun az h0 h=>?_
 have h0:=alD _ _ _ _ _ _ h0
 cases az with
 | e0 c7 dU=>
  refine wO [1,1,0,1,0] h0<|?_
  cases h
  exact wC
inductive I9 where
 | m (v3:Bool)
def amG:I9->Ex
 | .m _=>.normal
def amF (p0:Int):I9->(Nat->DV)->List Ob->S
 | .m v3,F,G=>⟨fs F [0,3] [(0,aa p0),(3,dB v3)],⟨sl G 0 [],[]⟩⟩
def Pw (p0:Int)(n:Nat):Option I9:=
 if p0=5 then
  some (.m true)
 else if p0=16 then
  some (.m true)
 else if p0=17 then
  some (.m true)
 else some (.m false)
theorem amE (p0:Int)(n:Nat)(o:I9)(h:Pw p0 n=some o):X.JF 128 21 (sub Qv [1,0,0,0]) [0] 0 [(0,aa p0)] [] (amG o) (amF p0 o):=by
 intro F G;refine Sys.dZ (w0 ?_)
 refine wi (1,1) h (fun h0 h=>?_) fun h0 h=>?_
 ·cases h
  exact wJ
 ·refine wi (1,4) h (fun h1 h=>?_) fun h1 h=>?_
  ·cases h
   exact wJ
  ·refine wi (1,8) h (fun h2 h=>?_) fun h2 h=>?_
   ·cases h
    exact wJ
   ·cases h
    exact wJ
def I8 (n:Nat)(p0:Int):Option Int:=
 (Pw p0 n).bind fun az=>match az with
 | .m v3=>
  bif v3 then
   some 1
  else if p0=10 then
   some 0
  else if p0=11 then
   some 0
  else some 2
theorem amH {n:Nat}{p0 r:Int}(h:I8 n p0=some r):X.bg 128 [aa p0] (aa r):=by
 refine fC 21 Qv ?_
 refine wg h fun az h0 h=>?_
 have h0:=amE _ _ _ h0
 cases az with
 | m v3=>
  refine wV 1 [1,0,0,0] h0<|?_
  cases v3
  ·refine wi (3,1) h (fun h2 h=>?_) fun h2 h=>?_
   ·cases h
    exact wC
   ·refine wi (3,4) h (fun h3 h=>?_) fun h3 h=>?_
    ·cases h
     exact wC
    ·cases h
     exact wC
  ·cases h
   exact wC
def I3 (n:Nat)(p0:Int):Option Int:=
 if p0=1 then
  some 2
 else if p0≥6 then
  if p0≤9 then
   some 2
  else some 1
 else some 1
theorem amu {n:Nat}{p0 r:Int}(h:I3 n p0=some r):X.bg 129 [aa p0] (aa r):=by
 refine fC 13 YS ?_
 refine wi (1,1) h (fun h0 h=>?_) fun h0 h=>?_
 ·cases h
  exact wC
 ·refine wi (1,4) h (fun h1 h=>?_) fun h1 h=>?_
  ·refine wi (1,7) h (fun h2 h=>?_) fun h2 h=>?_
   ·cases h
    exact wC
   ·cases h
    exact wC
  ·cases h
   exact wC
abbrev Pt:=aj->au->Option (Int×Int×Int)
def Xj (f:Pt):Prop:=∀(p0:aj) (p1:au) (r:Int×Int×Int),f p0 p1=some r->X.bg 103 [.c (.agg (EncX.ae p0)),.c (.agg (EncX.ae p1))] (.aX [aa r.1,aa r.2.1,aa r.2.2])
inductive I2 where
 | r (v5 v6:Int)
 | e0 (v10:List Int) (v11:Int)
def amp:I2->Ex
 | .r _ _=>.ret
 | .e0 _ _=>(.exit 0)
def amo (p0:aj)(p1:au):I2->(Nat->DV)->List Ob->S
 | .r v5 v6,F,G=>⟨fs F [4,5,6] [(4,aa 0),(5,aa v5),(6,aa v6)],⟨sl G 2 [(0,⟨1,(EncX.ae p0).map DV.c⟩),(1,⟨1,(EncX.ae p1).map DV.c⟩)],[]⟩⟩
 | .e0 v10 v11,F,G=>⟨fs F [2,3,9,10,11,46] [(2,.pt 0 1 0),(3,.pt 1 1 0),(10,aP v10),(11,aa v11),(46,dB false)],⟨sl G 2 [(0,⟨1,(EncX.ae p0).map DV.c⟩),(1,⟨1,(EncX.ae p1).map DV.c⟩)],[]⟩⟩
def Aa (C8:Pt)(p0:aj)(p1:au)(n:Nat):Nat->List Int->Int->Option I2
 | 0,_,_=>none
 | k+1,v10,v11=>
  if v11<(p1.kids.l.length:Int)then
   (aD p1.kids.l v11).bind fun rM=>
   (C8 p0 rM).bind fun(aG,ba,ca)=>
   if ba≠0 then
    some (.r ba ca)
   else if Room 8 (v10++([aG]:List Int)).length then if aF (v11+1)then Aa C8 p0 p1 n k (v10++([aG]:List Int)) (v11+1)
   else none
   else none
  else some (.e0 v10 v11)
theorem amn (C8:Pt)(p0:aj)(p1:au)(KC:Xj C8)(n:Nat):∀(k:Nat) (v10:List Int) (v11:Int) (o:I2),Aa C8 p0 p1 n k v10 v11=some o->X.LF 103 94 11 (sub KQ [1,1,1,1,0,1,0,0]) 2 [(2,.pt 0 1 0),(3,.pt 1 1 0),(10,aP v10),(11,aa v11)] [(0,⟨1,(EncX.ae p0).map DV.c⟩),(1,⟨1,(EncX.ae p1).map DV.c⟩)] (amp o) (amo p0 p1 o):=by
 intro k;induction k with
 | zero=>intro _ _ _ h;exact nomatch h
 | succ k ih=>
  intro v10 v11 o h F G s hs
  refine Sys.bj hs (w0 ?_)
  refine wi (11,4) h (fun h0 h=>?_) fun h0 h=>?_
  ·refine wg h fun rM h1 h=>wx (13,4) h1<|wa (13,5) h1<|wc (13,6) h (fun _=>KC _ _ _) ?_
   rintro⟨aG,ba,ca⟩ h
   refine wi (14,1) h (fun h3 h=>?_) fun h3 h=>?_
   ·cases h
    exact wX
   ·exact wq h fun h4 h=>dG (16,3) h4<|wn (12,1) h fun h5 h=>wN 11 [] (ih (v10++([aG]:List Int)) (v11+1) _ h F G)
  ·cases h
   exact wX
inductive DZ where
 | r (v6:Int)
 | e2 (v9 bV:Int)
def ams:DZ->Ex
 | .r _=>.ret
 | .e2 _ _=>(.exit 2)
def amr (p1:au)(cB:List Int):DZ->(Nat->DV)->List Ob->S
 | .r v6,F,G=>⟨fs F [4,5,6] [(4,aa 0),(5,aa 70),(6,aa v6)],⟨sl G 2 [(1,⟨1,(EncX.ae p1).map DV.c⟩)],[]⟩⟩
 | .e2 v9 bV,F,G=>⟨fs F [3,9,10,15,71] [(3,.pt 1 1 0),(9,aa v9),(10,aP cB),(15,aa bV),(71,dB false)],⟨sl G 2 [(1,⟨1,(EncX.ae p1).map DV.c⟩)],[]⟩⟩
def uc (p1:au)(cB:List Int)(n:Nat):Nat->Int->Int->Option DZ
 | 0,_,_=>none
 | k+1,v9,bV=>
  if bV<(cB.length:Int)then
   if v9=0 then
    (aD cB 0).bind fun wB=>
    (aD cB bV).bind fun DK=>
    if DK≠wB then
     (aD p1.kids.l bV).bind fun HJ=>
     some (.r HJ.at_)
    else if aF (bV+1)then uc p1 cB n k wB (bV+1)
    else none
   else(aD cB bV).bind fun WZ=>
   if WZ≠v9 then
    (aD p1.kids.l bV).bind fun W0=>
    some (.r W0.at_)
   else if aF (bV+1)then uc p1 cB n k v9 (bV+1)
   else none
  else some (.e2 v9 bV)
theorem amq (p1:au)(cB:List Int)(n:Nat):∀(k:Nat) (v9:Int) (bV:Int) (o:DZ),uc p1 cB n k v9 bV=some o->X.LF 103 94 18 (sub KQ [1,1,1,1,1,0,1,0,0]) 2 [(3,.pt 1 1 0),(9,aa v9),(10,aP cB),(15,aa bV)] [(1,⟨1,(EncX.ae p1).map DV.c⟩)] (ams o) (amr p1 cB o):=by
 intro k;induction k with
 | zero=>intro _ _ _ h;exact nomatch h
 | succ k ih=>
  intro v9 bV o h F G s hs
  refine Sys.bj hs (w0 ?_)
  refine wi (18,3) h (fun h0 h=>?_) fun h0 h=>?_
  ·refine wi (20,1) h (fun h1 h=>?_) fun h1 h=>?_
   ·refine wg h fun wB h2 h=>wx (21,1) h2<|wl (21,2) 0 h2 rfl<|wg h fun DK h3 h=>wx (22,2) h3<|wl (22,3) 0 h3 rfl<|wi (22,5) h (fun h4 h=>?_) fun h4 h=>?_
    ·refine wg h fun HJ h5 h=>wx (23,3) h5<|wl (23,5) 5 h5 rfl<|?_
     cases h
     exact wX
    ·exact wn (19,1) h fun h5 h=>wN 18 [] (ih wB (bV+1) _ h F G)
   ·refine wg h fun WZ h2 h=>wx (22,2) h2<|wl (22,3) 0 h2 rfl<|wi (22,5) h (fun h3 h=>?_) fun h3 h=>?_
    ·refine wg h fun W0 h4 h=>wx (23,3) h4<|wl (23,5) 5 h4 rfl<|?_
     cases h
     exact wX
    ·exact wn (19,1) h fun h4 h=>wN 18 [] (ih v9 (bV+1) _ h F G)
  ·cases h
   exact wX
def kV:Nat->aj->au->Option (Int×Int×Int)
 | 0,_,_=>none
 | n+1,p0,p1=>
  if p1.op=4 then
   (ua n p0 p1.mon p1.name).bind fun(x,aC)=>
   bif aC then
    (wW n p0).bind fun av=>
    (aD av x).bind fun rI=>
    if rI.type=1 then
     some (1,0,0)
    else some (2,0,0)
   else some (0,61,p1.at_)
  else(I8 n p1.op).bind fun aK=>
  (Aa (kV n) p0 p1 n n ([]:List Int) 0).bind fun az=>match az with
  | .r v5 v6=>
   some (0,v5,v6)
  | .e0 cB ov=>
   (uc p1 cB n n aK 0).bind fun aY=>match aY with
   | .r bX=>
    some (0,70,bX)
   | .e2 gB DC=>
    (I3 n p1.op).bind fun cm=>
    some (cm,0,0)
theorem amt:∀n:Nat,Xj (kV n):=by
 intro n
 induction n with
 | zero=>
  refine ?_
  ·intro p0 p1 r h;unfold kV at h;cases h
 | succ n ih=>
  have KC:=ih
  refine ?_
  ·intro p0 p1 r h
   unfold kV at h
   refine fC 94 KQ ?_
   refine wi (1,2) h (fun h0 h=>?_) fun h0 h=>?_
   ·refine wc (2,5) h (fun _=>DX) ?_
    rintro⟨x,aC⟩ h
    cases aC
    ·cases h
     exact wC
    ·refine wc (5,1) h (fun _=>IJ) fun av h=>wg h fun rI h4 h=>wx (5,3) h4<|wl (5,5) 1 h4 rfl<|wi (5,6) h (fun h5 h=>?_) fun h5 h=>?_
     ·cases h
      exact wC
     ·cases h
      exact wC
   ·refine wc (8,2) h (fun _=>amH) fun aK h=>wg h fun az h2 h=>?_
    have h2:=amn _ _ _ KC _ _ _ _ _ h2
    cases az with
    | r v5 v6=>
     refine wO [1,1,1,1,0,1,0] h2<|?_
     cases h
     exact wC
    | e0 cB ov=>
     refine wO [1,1,1,1,0,1,0] h2<|wg h fun aY h3 h=>?_
     have h3:=amq _ _ _ _ _ _ _ h3
     cases aY with
     | r bX=>
      refine wO [1,1,1,1,1,0,1,0] h3<|?_
      cases h
      exact wC
     | e2 gB DC=>
      refine wO [1,1,1,1,1,0,1,0] h3<|wc (24,2) h (fun _=>amu) fun cm h=>?_
      cases h
      exact wC
theorem Pu {n:Nat}{p0:aj}{p1:au}{r:Int×Int×Int}(h:kV n p0 p1=some r):X.bg 103 [.c (.agg (EncX.ae p0)),.c (.agg (EncX.ae p1))] (.aX [aa r.1,aa r.2.1,aa r.2.2]):=amt n p0 p1 r h
end Go.Vig
