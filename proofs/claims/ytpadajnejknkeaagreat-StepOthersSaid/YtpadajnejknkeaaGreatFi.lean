/-
-/
import Derived.Test.YtpadajnejknkeaaGreatFh
set_option linter.unusedVariables false
set_option linter.unusedSimpArgs false
set_option maxRecDepth 100000
set_option maxHeartbeats 1000000
namespace Go.Vig
open Go Go.Abs Go.Proofs
variable [Kn]
def W2 (tp:Int)(gu jC:ByteArray)(tq:Int)(rj:Sl au)(tr:Int):List DV:=[aa tp,.c (.sc (.string gu)),.c (.sc (.string jC)),aa tq,.c (aq rj),aa tr]
abbrev aje:=au->Sl aH->Sl aO->Bool->List Int->Option (Int×Bool)
def ajd (f:aje):Prop:=∀(p1:au) (ai:Sl aH) (ak:Sl aO) (aM:Bool) (o1:List Int) (r:Int×Bool),f p1 ai ak aM o1=some r->X.cD 124 [.pt 0 1 0,.c (.agg (EncX.ae p1))] (bm [.x 1 [.c (aq ai),.c (aq ak),.ms 1 1 0 o1.length 1 true,dB aM],.l 1 o1]) (aa r.1) (bm [.x 1 [.c (aq ai),.c (aq ak),.ms 1 1 0 o1.length 1 true,dB r.2],.l 1 o1])
abbrev aji:=Int->ByteArray->ByteArray->Int->Sl au->Int->Sl aH->Sl aO->Bool->List Int->Option (Int×Bool)
def ajh (f:aji):Prop:=∀(tp:Int) (gu:ByteArray) (jC:ByteArray) (tq:Int) (rj:Sl au) (tr:Int) (gP:Sl aH) (iu:Sl aO) (mu:Bool) (o3:List Int) (r:Int×Bool),f tp gu jC tq rj tr gP iu mu o3=some r->X.cD 157 [.pt 0 1 0,.pt 1 1 0] (bm [.x 1 [.pt 2 1 0],.x 1 (W2 tp gu jC tq rj tr),.x 1 [.c (aq gP),.c (aq iu),.ms 3 1 0 o3.length 1 true,dB mu],.l 1 o3]) (aa r.1) (bm [.x 1 [.pt 2 1 0],.x 1 (W2 tp gu jC tq rj tr),.x 1 [.c (aq gP),.c (aq iu),.ms 3 1 0 o3.length 1 true,dB r.2],.l 1 o3])
abbrev ajg:=au->Sl aH->Sl aO->Bool->List Int->Option (Int×Bool)
def ajf (f:ajg):Prop:=∀(p1:au) (ai:Sl aH) (ak:Sl aO) (aM:Bool) (o1:List Int) (r:Int×Bool),f p1 ai ak aM o1=some r->X.cD 125 [.pt 0 1 0,.c (.agg (EncX.ae p1))] (bm [.x 1 [.c (aq ai),.c (aq ak),.ms 1 1 0 o1.length 1 true,dB aM],.l 1 o1]) (aa r.1) (bm [.x 1 [.c (aq ai),.c (aq ak),.ms 1 1 0 o1.length 1 true,dB r.2],.l 1 o1])
abbrev aja:=au->Sl aH->Sl aO->Bool->List Int->Option (Int×Bool)
def ai9 (f:aja):Prop:=∀(p1:au) (ai:Sl aH) (ak:Sl aO) (aM:Bool) (o1:List Int) (r:Int×Bool),f p1 ai ak aM o1=some r->X.cD 101 [.pt 0 1 0,.c (.agg (EncX.ae p1))] (bm [.x 1 [.c (aq ai),.c (aq ak),.ms 1 1 0 o1.length 1 true,dB aM],.l 1 o1]) (aa r.1) (bm [.x 1 [.c (aq ai),.c (aq ak),.ms 1 1 0 o1.length 1 true,dB r.2],.l 1 o1])
inductive HL where
 | m (v20:Bool)
def ajl:HL->Ex
 | .m _=>.normal
def ajk (p1:au)(x:Int):HL->(Nat->DV)->List Ob->S
 | .m v20,F,G=>⟨fs F [2,3,5,6,20] [(3,.pt 3 1 0),(5,aa x),(20,dB v20)],⟨sl G 4 [(3,⟨1,(EncX.ae p1).map DV.c⟩)],[]⟩⟩
def Pe (p1:au)(x:Int)(n:Nat):Option HL:=
 if p1.op=16 then
  if x=0 then
   some (.m true)
  else some (.m false)
 else some (.m false)
theorem ajj (p1:au)(x:Int)(n:Nat)(o:HL)(h:Pe p1 x n=some o):X.JF 125 62 (sub KW [1,1,1,0,0,1,1,0]) [2,3,5,6,15] 4 [(3,.pt 3 1 0),(5,aa x)] [(3,⟨1,(EncX.ae p1).map DV.c⟩)] (ajl o) (ajk p1 x o):=by
 intro F G;refine Sys.dZ (w0 ?_)
 refine wi (5,2) h (fun h0 h=>?_) fun h0 h=>?_
 ·refine wi (5,5) h (fun h1 h=>?_) fun h1 h=>?_
  ·cases h
   exact wJ
  ·cases h
   exact wJ
 ·cases h
  exact wJ
inductive HM where
 | m (v28:Bool)
def ajo:HM->Ex
 | .m _=>.normal
def ajn (p1:au)(x:Int):HM->(Nat->DV)->List Ob->S
 | .m v28,F,G=>⟨fs F [2,3,5,6,28] [(3,.pt 3 1 0),(5,aa x),(28,dB v28)],⟨sl G 4 [(3,⟨1,(EncX.ae p1).map DV.c⟩)],[]⟩⟩
def Pf (p1:au)(x:Int)(n:Nat):Option HM:=
 if p1.op=17 then
  if x≠0 then
   some (.m true)
  else some (.m false)
 else some (.m false)
theorem ajm (p1:au)(x:Int)(n:Nat)(o:HM)(h:Pf p1 x n=some o):X.JF 125 62 (sub KW [1,1,1,0,0,1,1,1,1,0]) [2,3,5,6,20] 4 [(3,.pt 3 1 0),(5,aa x)] [(3,⟨1,(EncX.ae p1).map DV.c⟩)] (ajo o) (ajn p1 x o):=by
 intro F G;refine Sys.dZ (w0 ?_)
 refine wi (7,2) h (fun h0 h=>?_) fun h0 h=>?_
 ·refine wi (7,5) h (fun h1 h=>?_) fun h1 h=>?_
  ·cases h
   exact wJ
  ·cases h
   exact wJ
 ·cases h
  exact wJ
mutual
def rP:Nat->au->Sl aH->Sl aO->Bool->List Int->Option (Int×Bool)
 | 0,_,_,_,_,_=>none
 | n+1,p1,ai,ak,aM,o1=>
  (aD p1.kids.l 0).bind fun v9=>
  ((pU n) v9 ai ak aM o1).bind fun(x,y0)=>
  bif y0 then
   some (0,true)
  else if p1.op=5 then
   if x=0 then
    (jq n true).bind fun aC=>
    some (aC,false)
   else(jq n false).bind fun av=>
   some (av,false)
  else if p1.op=6 then
   (CT n x).bind fun(aK,aG)=>
   (zw n aK aG ai ak false o1).bind fun(ba,ek)=>
   some (ba,ek)
  else(CS n p1.n_ x).bind fun(ca,cm)=>
  (zw n ca cm ai ak false o1).bind fun(dV,gE)=>
  some (dV,gE)
def tU:Nat->Int->ByteArray->ByteArray->Int->Sl au->Int->Sl aH->Sl aO->Bool->List Int->Option (Int×Bool)
 | 0,_,_,_,_,_,_,_,_,_,_=>none
 | n+1,tp,gu,jC,tq,rj,tr,gP,iu,mu,o3=>
  (aD rj.l 1).bind fun v6=>
  ((pU n) v6 gP iu mu o3).bind fun(x,y0)=>
  some (x,y0)
def zx:Nat->au->Sl aH->Sl aO->Bool->List Int->Option (Int×Bool)
 | 0,_,_,_,_,_=>none
 | n+1,p1,ai,ak,aM,o1=>
  (aD p1.kids.l 0).bind fun v11=>
  ((pU n) v11 ai ak aM o1).bind fun(x,y0)=>
  bif y0 then
   some (0,true)
  else(Pe p1 x n).bind fun az=>match az with
  | .m v20=>
   bif v20 then
    some (0,false)
   else(Pf p1 x n).bind fun aY=>match aY with
   | .m v28=>
    bif v28 then
     some (1,false)
    else if p1.op=16 then
     ((tU n) p1.op p1.mon p1.name p1.n_ p1.kids p1.at_ ai ak false o1).bind fun(aC,y2)=>
     some (aC,y2)
    else if p1.op=17 then
     ((tU n) p1.op p1.mon p1.name p1.n_ p1.kids p1.at_ ai ak false o1).bind fun(av,En)=>
     some (av,En)
    else((tU n) p1.op p1.mon p1.name p1.n_ p1.kids p1.at_ ai ak false o1).bind fun(aK,P6)=>
    bif P6 then
     some (0,true)
    else(HK n p1.op x aK).bind fun(aG,ba)=>
    (zw n aG ba ai ak false o1).bind fun(ca,ek)=>
    some (ca,ek)
def pU:Nat->au->Sl aH->Sl aO->Bool->List Int->Option (Int×Bool)
 | 0,_,_,_,_,_=>none
 | n+1,p1,ai,ak,aM,o1=>
  if p1.op=1 then
   some (p1.n_,aM)
  else if p1.op=2 then
   some (1,aM)
  else if p1.op=3 then
   some (0,aM)
  else if p1.op=4 then
   (CO n ({ aw:=ai,aR:=ak}:aj) p1.mon p1.name).bind fun(x,aC)=>
   (aD o1 x).bind fun jG=>
   some (jG,aM)
  else if p1.op=5 then
   ((rP n) p1 ai ak aM o1).bind fun(av,y0)=>
   some (av,y0)
  else if p1.op=6 then
   ((rP n) p1 ai ak aM o1).bind fun(aK,ek)=>
   some (aK,ek)
  else if p1.op=7 then
   ((rP n) p1 ai ak aM o1).bind fun(aG,gE)=>
   some (aG,gE)
  else((zx n) p1 ai ak aM o1).bind fun(ba,lM)=>
  some (ba,lM)
end
theorem ajb:∀n:Nat,ajd (rP n)∧ajh (tU n)∧ajf (zx n)∧ai9 (pU n):=by
 intro n
 induction n with
 | zero=>
  refine⟨?_,?_,?_,?_⟩
  ·intro p1 ai ak aM o1 r h;unfold rP at h;cases h
  ·intro tp gu jC tq rj tr gP iu mu o3 r h;unfold tU at h;cases h
  ·intro p1 ai ak aM o1 r h;unfold zx at h;cases h
  ·intro p1 ai ak aM o1 r h;unfold pU at h;cases h
 | succ n ih=>
  obtain⟨Kz,KA,X0,Ky⟩:=ih
  refine⟨?_,?_,?_,?_⟩
  ·intro p1 ai ak aM o1 r h
   unfold rP at h
   refine fL 42 YR ?_
   refine wg h fun v9 h0 h=>wx (1,3) h0<|wa (1,4) h0<|wy (1,5) h (fun _=>Ky _ _ _ _ _ _) ?_
   rintro⟨x,y0⟩ h
   cases y0
   ·refine wi (4,2) h (fun h3 h=>?_) fun h3 h=>?_
    ·refine wi (5,1) h (fun h4 h=>?_) fun h4 h=>?_
     ·refine wc (5,2) h (fun _=>lH) fun aC h=>?_
      cases h
      exact wL []
     ·refine wc (5,2) h (fun _=>lH) fun av h=>?_
      cases h
      exact wL []
    ·refine wi (6,2) h (fun h4 h=>?_) fun h4 h=>?_
     ·refine wc (7,2) h (fun _=>aes) ?_
      rintro⟨aK,aG⟩ h
      refine wy (7,5) h (fun _=>Pd) ?_
      rintro⟨ba,ek⟩ h
      cases h
      exact wL []
     ·refine wc (8,4) h (fun _=>aer) ?_
      rintro⟨ca,cm⟩ h
      refine wy (8,7) h (fun _=>Pd) ?_
      rintro⟨dV,gE⟩ h
      cases h
      exact wL []
   ·cases h
    exact wL []
  ·intro tp gu jC tq rj tr gP iu mu o3 r h
   unfold tU at h
   refine fL 9 Y5 ?_
   refine wg h fun v6 h0 h=>wx (1,3) h0<|wa (1,4) h0<|wy (1,5) h (fun _=>Ky _ _ _ _ _ _) ?_
   rintro⟨x,y0⟩ h
   cases h
   exact wL []
  ·intro p1 ai ak aM o1 r h
   unfold zx at h
   refine fL 62 KW ?_
   refine wg h fun v11 h0 h=>wx (1,3) h0<|wa (1,4) h0<|wy (1,5) h (fun _=>Ky _ _ _ _ _ _) ?_
   rintro⟨x,y0⟩ h
   cases y0
   ·refine wg h fun az h3 h=>?_
    have h3:=ajj _ _ _ _ h3
    cases az with
    | m v20=>
     refine wV 5 [1,1,1,0,0,1,1,0] h3<|?_
     cases v20
     ·refine wg h fun aY h5 h=>?_
      have h5:=ajm _ _ _ _ h5
      cases aY with
      | m v28=>
       refine wV 7 [1,1,1,0,0,1,1,1,1,0] h5<|?_
       cases v28
       ·refine wi (9,2) h (fun h7 h=>?_) fun h7 h=>?_
        ·refine wy (10,1) h (fun _=>KA _ _ _ _ _ _ _ _ _ _ _) ?_
         rintro⟨aC,y2⟩ h
         cases h
         exact wL []
        ·refine wi (9,6) h (fun h8 h=>?_) fun h8 h=>?_
         ·refine wy (10,1) h (fun _=>KA _ _ _ _ _ _ _ _ _ _ _) ?_
          rintro⟨av,En⟩ h
          cases h
          exact wL []
         ·refine wy (11,1) h (fun _=>KA _ _ _ _ _ _ _ _ _ _ _) ?_
          rintro⟨aK,P6⟩ h
          cases P6
          ·refine wc (14,5) h (fun _=>ai8) ?_
           rintro⟨aG,ba⟩ h
           refine wy (14,8) h (fun _=>Pd) ?_
           rintro⟨ca,ek⟩ h
           cases h
           exact wL []
          ·cases h
           exact wL []
       ·cases h
        exact wL []
     ·cases h
      exact wL []
   ·cases h
    exact wL []
  ·intro p1 ai ak aM o1 r h
   unfold pU at h
   refine fL 48 YM ?_
   refine wi (2,0) h (fun h0 h=>?_) fun h0 h=>?_
   ·cases h
    exact wL []
   ·refine wi (4,0) h (fun h1 h=>?_) fun h1 h=>?_
    ·cases h
     exact wL []
    ·refine wi (6,0) h (fun h2 h=>?_) fun h2 h=>?_
     ·cases h
      exact wL []
     ·refine wi (8,0) h (fun h3 h=>?_) fun h3 h=>?_
      ·refine wc (9,8) h (fun _=>TU) ?_
       rintro⟨x,aC⟩ h
       refine wg h fun jG h5 h=>wx (10,5) h5<|wt (10,6) (.cell (bb jG)) (And.intro (rfl:(1:Nat)=1) (jw 0 (c:=bb jG) rfl (bJ h5)))<|?_
       cases h
       exact wL []
      ·refine wi (11,0) h (fun h4 h=>?_) fun h4 h=>?_
       ·refine wy (14,2) h (fun _=>Kz _ _ _ _ _ _) ?_
        rintro⟨av,y0⟩ h
        cases h
        exact wL []
       ·refine wi (12,0) h (fun h5 h=>?_) fun h5 h=>?_
        ·refine wy (14,2) h (fun _=>Kz _ _ _ _ _ _) ?_
         rintro⟨aK,ek⟩ h
         cases h
         exact wL []
        ·refine wi (13,0) h (fun h6 h=>?_) fun h6 h=>?_
         ·refine wy (14,2) h (fun _=>Kz _ _ _ _ _ _) ?_
          rintro⟨aG,gE⟩ h
          cases h
          exact wL []
         ·refine wy (15,2) h (fun _=>X0 _ _ _ _ _ _) ?_
          rintro⟨ba,lM⟩ h
          cases h
          exact wL []
theorem ajc {n:Nat}{p1:au}{ai:Sl aH}{ak:Sl aO}{aM:Bool}{o1:List Int}{r:Int×Bool}(h:pU n p1 ai ak aM o1=some r):X.cD 101 [.pt 0 1 0,.c (.agg (EncX.ae p1))] (bm [.x 1 [.c (aq ai),.c (aq ak),.ms 1 1 0 o1.length 1 true,dB aM],.l 1 o1]) (aa r.1) (bm [.x 1 [.c (aq ai),.c (aq ak),.ms 1 1 0 o1.length 1 true,dB r.2],.l 1 o1]):=(ajb n).2.2.2 p1 ai ak aM o1 r h
def DP (n:Nat)(p0:aj)(p1:au)(o0:List Int):Option (Int×Int):=
 (Hz n p0 p1).bind fun(x,aC,av)=>
 if aC≠0 then
  some (0,aC)
 else(vG n p0).bind fun aK=>
 if(o0.length:Int)≠(aK.length:Int)then
  some (0,2)
 else(pU n p1 p0.aw p0.aR false o0).bind fun(aG,y0)=>
 bif y0 then
  some (0,110)
 else some (aG,0)
theorem W1 {n:Nat}{p0:aj}{p1:au}{o0:List Int}{r:Int×Int}(h:DP n p0 p1 o0=some r):X.cD 87 [.c (.agg (EncX.ae p0)),.c (.agg (EncX.ae p1)),.ms 0 1 0 o0.length 1 true] (bm [.l 1 o0]) (.aX [aa r.1,aa r.2]) (bm [.l 1 o0]):=by
 refine fL 41 ZI ?_
 refine wc (1,2) h (fun _=>aiE) ?_
 rintro⟨x,aC,av⟩ h
 refine wi (2,1) h (fun h1 h=>?_) fun h1 h=>?_
 ·cases h
  exact wL []
 ·refine wc (4,3) h (fun _=>Gu) fun aK h=>wi (4,5) h (fun h3 h=>?_) fun h3 h=>?_
  ·cases h
   exact wL []
  ·refine wy (7,2) h (fun _=>ajc) ?_
   rintro⟨aG,y0⟩ h
   cases y0
   ·cases h
    exact wL []
   ·cases h
    exact wL []
def VJ (ai:Sl aH)(ak:Sl aO)(ao:Sl aN)(aL:List Int)(o1:List ah)(o2:List aE)(o3:List Int):List DV:=[.c (aq ai),.c (aq ak),.c (aq ao),.ms 1 1 0 o1.length 5 true,.ms 2 1 0 o2.length 2 true,.ms 3 1 0 o3.length 1 true,aP aL]
def Hb (n:Nat)(p1:Int)(p2:aS)(ai:Sl aH)(ak:Sl aO)(ao:Sl aN)(aL:List Int)(o1:List ah)(o2:List aE)(o3:List Int):Option Bool:=
 if p2.kind=5 then
  (aD o2 p2.mon).bind fun jZ=>
  if jZ.owner≠p1 then
   some true
  else some false
 else if p2.kind=6 then
  (aD o2 p2.mon).bind fun HF=>
  if HF.owner≠p1 then
   some true
  else some false
 else if p2.kind=7 then
  (aD o2 p2.mon).bind fun HG=>
  if HG.owner≠p1 then
   some true
  else some false
 else if p2.kind=8 then
  (aD o2 p2.mon).bind fun HH=>
  if HH.owner≠p1 then
   some true
  else some false
 else some false
theorem ahn {n:Nat}{p1:Int}{p2:aS}{ai:Sl aH}{ak:Sl aO}{ao:Sl aN}{aL:List Int}{o1:List ah}{o2:List aE}{o3:List Int}{r:Bool}(h:Hb n p1 p2 ai ak ao aL o1 o2 o3=some r):X.cD 88 [.pt 0 1 0,aa p1,.c (.agg (EncX.ae p2))] (bm [.x 1 (VJ ai ak ao aL o1 o2 o3),.l 1 o1,.l 1 o2,.l 1 o3]) (dB r) (bm [.x 1 (VJ ai ak ao aL o1 o2 o3),.l 1 o1,.l 1 o2,.l 1 o3]):=by
 refine fL 28 ZJ ?_
 refine wi (2,0) h (fun h0 h=>?_) fun h0 h=>?_
 ·refine wg h fun jZ h1 h=>wx (6,7) h1<|wt (6,9) (.cell (bb jZ.owner)) (And.intro (rfl:(1:Nat)=1) (jw 0 (c:=bb jZ.owner) rfl (bJ h1)))<|wi (6,11) h (fun h2 h=>?_) fun h2 h=>?_
  ·cases h
   exact wL []
  ·cases h
   exact wL []
 ·refine wi (3,0) h (fun h1 h=>?_) fun h1 h=>?_
  ·refine wg h fun HF h2 h=>wx (6,7) h2<|wt (6,9) (.cell (bb HF.owner)) (And.intro (rfl:(1:Nat)=1) (jw 0 (c:=bb HF.owner) rfl (bJ h2)))<|wi (6,11) h (fun h3 h=>?_) fun h3 h=>?_
   ·cases h
    exact wL []
   ·cases h
    exact wL []
  ·refine wi (4,0) h (fun h2 h=>?_) fun h2 h=>?_
   ·refine wg h fun HG h3 h=>wx (6,7) h3<|wt (6,9) (.cell (bb HG.owner)) (And.intro (rfl:(1:Nat)=1) (jw 0 (c:=bb HG.owner) rfl (bJ h3)))<|wi (6,11) h (fun h4 h=>?_) fun h4 h=>?_
    ·cases h
     exact wL []
    ·cases h
     exact wL []
   ·refine wi (5,0) h (fun h3 h=>?_) fun h3 h=>?_
    ·refine wg h fun HH h4 h=>wx (6,7) h4<|wt (6,9) (.cell (bb HH.owner)) (And.intro (rfl:(1:Nat)=1) (jw 0 (c:=bb HH.owner) rfl (bJ h4)))<|wi (6,11) h (fun h5 h=>?_) fun h5 h=>?_
     ·cases h
      exact wL []
     ·cases h
      exact wL []
    ·cases h
     exact wL []
def VC (ai:Sl aH)(ak:Sl aO)(ao:Sl aN)(aL:List Int)(o1:List ah)(o2:List aE)(o3:List Int):List DV:=[.c (aq ai),.c (aq ak),.c (aq ao),.ms 1 1 0 o1.length 5 true,.ms 2 1 0 o2.length 2 true,.ms 3 1 0 o3.length 1 true,aP aL]
inductive G7 where
 | m (nu:Bool)
def ahg:G7->Ex
 | .m _=>.normal
def ahf (x:List Int)(av aK:Int):G7->(Nat->DV)->List Ob->S
 | .m nu,F,G=>⟨fs F [8,11,74] [(8,aP x),(11,aa aK),(74,dB nu)],⟨sl G 5 [],[]⟩⟩
def Oo (x:List Int)(av aK:Int)(n:Nat):Option G7:=
 if aK=0 then
  if av=0 then
   if(x.length:Int)>1 then
    some (.m true)
   else some (.m false)
  else some (.m false)
 else some (.m false)
theorem ahe (x:List Int)(av aK:Int)(n:Nat)(o:G7)(h:Oo x av aK n=some o):X.JF 63 91 (sub QK [1,1,1,0,1,0,1,1,1,0,1,0,0]) [8,10,11] 5 [(8,aP x),(10,aa av),(11,aa aK)] [] (ahg o) (ahf x av aK o):=by
 intro F G;refine Sys.dZ (w0 ?_)
 refine wi (8,1) h (fun h0 h=>?_) fun h0 h=>?_
 ·refine wi (8,4) h (fun h1 h=>?_) fun h1 h=>?_
  ·refine wi (8,9) h (fun h2 h=>?_) fun h2 h=>?_
   ·cases h
    exact wJ
   ·cases h
    exact wJ
  ·cases h
   exact wJ
 ·cases h
  exact wJ
def G6 (n:Nat)(p1 p2:Int)(ai:Sl aH)(ak:Sl aO)(ao:Sl aN)(aL:List Int)(o1:List ah)(o2:List aE)(o3:List Int):Option (Int×Bool):=
 (aD o1 p1).bind fun bZ=>
 (nq n ({ p:=({ aw:=ai,aR:=ak}:aj),bc:=ao}:aT) bZ).bind fun x=>
 (pJ n ({ p:=({ aw:=ai,aR:=ak}:aj),bc:=ao}:aT) bZ).bind fun aC=>
 if aC.kind=9 then
  (aD x p2).bind fun WN=>
  some (WN,true)
 else if aC.kind=2 then
  (DP n ({ aw:=ai,aR:=ak}:aj) aC.e_ o3).bind fun(av,aK)=>
  (Oo x av aK n).bind fun az=>match az with
  | .m nu=>
   bif nu then
    (aD x 1).bind fun v76=>
    some (v76,true)
   else(aD x 0).bind fun wE=>
   if aK=0 then
    some (wE,true)
   else some (wE,false)
 else(aD x 0).bind fun tT=>
 (Hb n p1 aC ai ak ao aL o1 o2 o3).bind fun aG=>
 bif aG then
  some (tT,false)
 else some (tT,true)
theorem ahh {n:Nat}{p1 p2:Int}{ai:Sl aH}{ak:Sl aO}{ao:Sl aN}{aL:List Int}{o1:List ah}{o2:List aE}{o3:List Int}{r:Int×Bool}(h:G6 n p1 p2 ai ak ao aL o1 o2 o3=some r):X.cD 63 [.pt 0 1 0,aa p1,aa p2] (bm [.x 1 (VC ai ak ao aL o1 o2 o3),.l 1 o1,.l 1 o2,.l 1 o3]) (.aX [aa r.1,dB r.2]) (bm [.x 1 (VC ai ak ao aL o1 o2 o3),.l 1 o1,.l 1 o2,.l 1 o3]):=by
 refine fL 91 QK ?_
 refine wg h fun bZ h0 h=>wx (1,10) h0<|wt (1,11) (.agg (EncX.ae bZ)) (And.intro (rfl:(1:Nat)=1) (nK 0 5 (by decide) (bJ h0)))<|wc (1,12) h (fun _=>tK) fun x h=>wx (2,10) h0<|wt (2,11) (.agg (EncX.ae bZ)) (And.intro (rfl:(1:Nat)=1) (nK 0 5 (by decide) (bJ h0)))<|wc (2,12) h (fun _=>vU) fun aC h=>wi (4,0) h (fun h3 h=>?_) fun h3 h=>?_
 ·refine wg h fun WN h4 h=>wx (5,2) h4<|wl (5,3) 0 h4 rfl<|?_
  cases h
  exact wL []
 ·refine wi (6,0) h (fun h4 h=>?_) fun h4 h=>?_
  ·refine wy (7,12) h (fun _=>W1) ?_
   rintro⟨av,aK⟩ h
   refine wg h fun az h6 h=>?_
   have h6:=ahe _ _ _ _ _ h6
   cases az with
   | m nu=>
    refine wV 8 [1,1,1,0,1,0,1,1,1,0,1,0,0] h6<|?_
    cases nu
    ·refine wg h fun wE h8 h=>wx (10,1) h8<|wl (10,2) 0 h8 rfl<|wi (10,4) h (fun h9 h=>?_) fun h9 h=>?_
     ·cases h
      exact wL []
     ·cases h
      exact wL []
    ·refine wg h fun v76 h8 h=>wx (9,1) h8<|wl (9,2) 0 h8 rfl<|?_
     cases h
     exact wL []
  ·refine wg h fun tT h5 h=>wx (11,1) h5<|wl (11,2) 0 h5 rfl<|wy (11,6) h (fun _=>ahn) fun aG h=>?_
   cases aG
   ·cases h
    exact wL []
   ·cases h
    exact wL []
def VK (ai:Sl aH)(ak:Sl aO)(ao:Sl aN)(aL:List Int)(o1:List ah)(o2:List aE)(o3:List Int):List DV:=[.c (aq ai),.c (aq ak),.c (aq ao),.ms 1 1 0 o1.length 5 true,.ms 2 1 0 o2.length 2 true,.ms 3 1 0 o3.length 1 true,aP aL]
def Hf (n:Nat)(p1:aS)(ai:Sl aH)(ak:Sl aO)(ao:Sl aN)(aL:List Int)(o1:List ah)(o2:List aE)(o3:List Int):Option (Bool×List Int):=
 (DP n ({ aw:=ai,aR:=ak}:aj) p1.e_ o3).bind fun(x,aC)=>
 if aC≠0 then
  some (false,o3)
 else(vG n ({ aw:=ai,aR:=ak}:aj)).bind fun av=>
 (aD av p1.var).bind fun jF=>
 (CR n jF x).bind fun aK=>
 bif aK then
  (aD o3 p1.var).bind fun pQ=>
  some (true,(o3.set p1.var.toNat x))
 else some (false,o3)
theorem ahx {n:Nat}{p1:aS}{ai:Sl aH}{ak:Sl aO}{ao:Sl aN}{aL:List Int}{o1:List ah}{o2:List aE}{o3:List Int}{r:Bool×List Int}(h:Hf n p1 ai ak ao aL o1 o2 o3=some r):X.cD 64 [.pt 0 1 0,.c (.agg (EncX.ae p1))] (bm [.x 1 (VK ai ak ao aL o1 o2 o3),.l 1 o1,.l 1 o2,.l 1 o3]) (dB r.1) (bm [.x 1 (VK ai ak ao aL o1 o2 o3),.l 1 o1,.l 1 o2,.l 1 r.2]):=by
 refine fL 49 ZE ?_
 refine wy (1,12) h (fun _=>W1) ?_
 rintro⟨x,aC⟩ h
 refine wi (2,1) h (fun h1 h=>?_) fun h1 h=>?_
 ·cases h
  exact wL []
 ·refine wc (2,8) h (fun _=>Gu) fun av h=>wg h fun jF h3 h=>wx (2,11) h3<|wa (2,12) h3<|wc (2,14) h (fun _=>TY) fun aK h=>?_
  cases aK
  ·cases h
   exact wL []
  ·refine wg h fun pQ h6 h=>wx (4,8) h6<|wt (4,9) (.st (bl (o3.set p1.var.toNat x))) (And.intro (rfl:(1:Nat)=1) (iI 0 [aa x] x (bJ h6) rfl (Nat.le_of_ble_eq_true rfl)))<|?_
   cases h
   exact wL []
def Ha (ai:Sl aH)(ak:Sl aO)(ao:Sl aN)(aL:List Int)(o1:List ah)(o2:List aE)(cA:Nat):List DV:=[.c (aq ai),.c (aq ak),.c (aq ao),.ms 1 1 0 o1.length 5 true,.ms 2 1 0 o2.length 2 true,.ms 3 1 0 cA 1 true,aP aL]
inductive G9 where
 | e0 (v20:Int) (Ua:List aE)
def ahl:G9->Ex
 | .e0 _ _=>(.exit 0)
def ahk (p1:Int)(ai:Sl aH)(ak:Sl aO)(ao:Sl aN)(aL:List Int)(o1:List ah)(o2:List aE)(o3:List Int)(cA:Nat)(v12:ah):G9->S
 | .e0 v20 Ua=>⟨fl [(0,.pt 0 1 0),(1,aa p1),(18,.ms 2 1 0 o2.length 2 true),(19,aa (o2.length:Int)),(20,aa v20),(21,dB false)],⟨[⟨1,(Ha ai ak ao aL o1 o2 cA)⟩,⟨1,bl (o1.set p1.toNat ({ v12 with state:=4}:ah))⟩,⟨1,bl Ua⟩,⟨1,bl o3⟩],[]⟩⟩
def vX (p1:Int)(ai:Sl aH)(ak:Sl aO)(ao:Sl aN)(aL:List Int)(o1:List ah)(o2:List aE)(o3:List Int)(cA:Nat)(v12:ah)(n:Nat):Nat->Int->List aE->Option G9
 | 0,_,_=>none
 | k+1,v20,iP=>
  if v20<(o2.length:Int)then
   if 0≤v20∧v20<(o2.length:Int)then(aD iP v20).bind fun w2=>
   if w2.owner=p1 then
    (pK n).bind fun x=>
    if aF (v20+1)then vX p1 ai ak ao aL o1 o2 o3 cA v12 n k (v20+1) (iP.set v20.toNat x)
    else none
   else if aF (v20+1)then vX p1 ai ak ao aL o1 o2 o3 cA v12 n k (v20+1) iP
   else none
   else none
  else some (.e0 v20 iP)
theorem ahj (p1:Int)(ai:Sl aH)(ak:Sl aO)(ao:Sl aN)(aL:List Int)(o1:List ah)(o2:List aE)(o3:List Int)(cA:Nat)(v12:ah)(n:Nat):∀(k:Nat) (v20:Int) (iP:List aE) (o:G9),vX p1 ai ak ao aL o1 o2 o3 cA v12 n k v20 iP=some o->X.LH 65 38 2 (sub QL [1,1,0,0]) 4 ⟨fl [(0,.pt 0 1 0),(1,aa p1),(18,.ms 2 1 0 o2.length 2 true),(19,aa (o2.length:Int)),(20,aa v20)],⟨[⟨1,(Ha ai ak ao aL o1 o2 cA)⟩,⟨1,bl (o1.set p1.toNat ({ v12 with state:=4}:ah))⟩,⟨1,bl iP⟩,⟨1,bl o3⟩],[]⟩⟩ (ahl o) (ahk p1 ai ak ao aL o1 o2 o3 cA v12 o):=by
 intro k;induction k with
 | zero=>intro _ _ _ h;exact nomatch h
 | succ k ih=>
  intro v20 iP o h s hs
  refine Sys.bj hs (w0 ?_)
  refine wi (2,0) h (fun h0 h=>?_) fun h0 h=>?_
  ·refine wq h fun h1 h=>wt (3,1) .ix h1<|wg h fun w2 h2 h=>wt (3,2) (.agg (EncX.ae w2)) (And.intro (rfl:(1:Nat)=1) (nK 0 2 (by decide) (bJ h2)))<|wi (4,3) h (fun h3 h=>?_) fun h3 h=>?_
   ·exact wc (5,6) h (fun _=>Dm) fun x h=>wt (5,7) .ix h1<|wt (5,8) (.st (bl (iP.set v20.toNat x))) (And.intro (rfl:(1:Nat)=1) (iI 0 [aa x.owner,aa x.depth] x (bJ h2) rfl (Nat.le_of_ble_eq_true rfl)))<|wn (6,0) h fun h5 h=>wN 2 [.z,.l 1 (o1.set p1.toNat ({ v12 with state:=4}:ah)),.l 1 (iP.set v20.toNat x),.l 1 o3] (ih (v20+1) (iP.set v20.toNat x) _ h)
   ·exact wn (6,0) h fun h4 h=>wN 2 [.z,.l 1 (o1.set p1.toNat ({ v12 with state:=4}:ah)),.l 1 iP,.l 1 o3] (ih (v20+1) iP _ h)
  ·cases h
   exact wX
def Dn (n:Nat)(p1:Int)(ai:Sl aH)(ak:Sl aO)(ao:Sl aN)(aL:List Int)(o1:List ah)(o2:List aE)(o3:List Int)(cA:Nat):Option (List ah×List aE):=
 (aD o1 p1).bind fun v12=>
 (vX p1 ai ak ao aL o1 o2 o3 cA v12 n n 0 o2).bind fun az=>match az with
 | .e0 lE mu=>
  some ((o1.set p1.toNat ({ v12 with state:=4}:ah)),mu)
theorem ahm {n:Nat}{p1:Int}{ai:Sl aH}{ak:Sl aO}{ao:Sl aN}{aL:List Int}{o1:List ah}{o2:List aE}{o3:List Int}{cA:Nat}{r:List ah×List aE}(h:Dn n p1 ai ak ao aL o1 o2 o3 cA=some r):X.cD 65 [.pt 0 1 0,aa p1] (bm [.x 1 (Ha ai ak ao aL o1 o2 cA),.l 1 o1,.l 1 o2,.l 1 o3]) (.aX []) (bm [.x 1 (Ha ai ak ao aL o1 o2 cA),.l 1 r.1,.l 1 r.2,.l 1 o3]):=by
 refine fL 38 QL ?_
 refine wg h fun v12 h0 h=>wx (0,6) h0<|wt (0,8) (.st (bl (o1.set p1.toNat ({ v12 with state:=4}:ah)))) (And.intro (rfl:(1:Nat)=1) (iI 2 [aa 4] ({ v12 with state:=4}:ah) (bJ h0) rfl (Nat.le_of_ble_eq_true rfl)))<|wg h fun az h1 h=>?_
 have h1:=ahj _ _ _ _ _ _ _ _ _ _ _ _ _ _ _ h1
 cases az with
 | e0 lE mu=>
  refine wo [1,1,0] h1<|?_
  cases h
  exact wL []
def VD (ai:Sl aH)(ak:Sl aO)(ao:Sl aN)(aL:List Int)(o1:List ah)(mo cA:Nat):List DV:=[.c (aq ai),.c (aq ak),.c (aq ao),.ms 1 1 0 o1.length 5 true,.ms 2 1 0 mo 2 true,.ms 3 1 0 cA 1 true,aP aL]
def ru (n:Nat)(p1 p2:Int)(ai:Sl aH)(ak:Sl aO)(ao:Sl aN)(aL:List Int)(o1:List ah)(o2:List aE)(o3:List Int)(mo cA:Nat):Option (List ah):=
 (aD o1 p1).bind fun bf=>
 (nq n ({ p:=({ aw:=ai,aR:=ak}:aj),bc:=ao}:aT) ({ ({ bf with loc:=p2}:ah)with state:=0}:ah)).bind fun x=>
 if(x.length:Int)=0 then
  some (o1.set p1.toNat ({ ({ ({ bf with loc:=p2}:ah)with state:=0}:ah)with state:=3}:ah))
 else some (o1.set p1.toNat ({ ({ bf with loc:=p2}:ah)with state:=0}:ah))
theorem Oq {n:Nat}{p1 p2:Int}{ai:Sl aH}{ak:Sl aO}{ao:Sl aN}{aL:List Int}{o1:List ah}{o2:List aE}{o3:List Int}{mo cA:Nat}{r:List ah}(h:ru n p1 p2 ai ak ao aL o1 o2 o3 mo cA=some r):X.cD 66 [.pt 0 1 0,aa p1,aa p2] (bm [.x 1 (VD ai ak ao aL o1 mo cA),.l 1 o1,.l 1 o2,.l 1 o3]) (.aX []) (bm [.x 1 (VD ai ak ao aL o1 mo cA),.l 1 r,.l 1 o2,.l 1 o3]):=by
 refine fL 34 EJ ?_
 refine wg h fun bf h0 h=>wx (0,6) h0<|wt (1,5) (.st (bl (o1.set p1.toNat ({ bf with loc:=p2}:ah)))) (And.intro (rfl:(1:Nat)=1) (iI 1 [aa p2] ({ bf with loc:=p2}:ah) (bJ h0) rfl (Nat.le_of_ble_eq_true rfl)))<|wt (1,8) (.st (bl (o1.set p1.toNat ({ ({ bf with loc:=p2}:ah)with state:=0}:ah)))) (And.intro (rfl:(1:Nat)=1) (j7 (a:=({ bf with loc:=p2}:ah)) 2 [aa 0] ({ ({ bf with loc:=p2}:ah)with state:=0}:ah) (bJ h0) rfl (Nat.le_of_ble_eq_true rfl)))<|wt (2,6) (.agg (EncX.ae ({ ({ bf with loc:=p2}:ah)with state:=0}:ah))) (And.intro (rfl:(1:Nat)=1) (nK 0 5 (by decide) (sG (b:=({ ({ bf with loc:=p2}:ah)with state:=0}:ah)) (bJ h0))))<|wc (2,7) h (fun _=>tK) fun x h=>wi (2,9) h (fun h2 h=>?_) fun h2 h=>?_
 ·refine wt (3,3) (.st (bl (o1.set p1.toNat ({ ({ ({ bf with loc:=p2}:ah)with state:=0}:ah)with state:=3}:ah)))) (And.intro (rfl:(1:Nat)=1) (j7 (a:=({ ({ bf with loc:=p2}:ah)with state:=0}:ah)) 2 [aa 3] ({ ({ ({ bf with loc:=p2}:ah)with state:=0}:ah)with state:=3}:ah) (bJ h0) rfl (Nat.le_of_ble_eq_true rfl)))<|?_
  cases h
  exact wL []
 ·cases h
  exact wL []
def VN (o0:List ah)(o1:List aE)(kQ:Nat):List DV:=[.ms 0 1 0 o0.length 5 true,.ms 1 1 0 o1.length 2 true,.ms 2 1 0 kQ 1 true]
inductive Hl where
 | m (kq:Bool)
def ahP:Hl->Ex
 | .m _=>.normal
def ahO (p0:aT)(p2:Int)(bV:ah):Hl->(Nat->DV)->List Ob->S
 | .m kq,F,G=>⟨fs F [2,3,6,7,10,11,12,27] [(2,aa p2),(3,.pt 3 1 0),(27,dB kq)],⟨sl G 6 [(3,⟨1,(EncX.ae p0).map DV.c⟩),(5,⟨1,(EncX.ae bV).map DV.c⟩)],[]⟩⟩
def Ov (p0:aT)(p2:Int)(bV:ah)(n:Nat):Option Hl:=
 if bV.state=1 then
  (pJ n p0 bV).bind fun x=>
  if x.mon=p2 then
   some (.m true)
  else some (.m false)
 else some (.m false)
theorem ahN (p0:aT)(p2:Int)(bV:ah)(n:Nat)(o:Hl)(h:Ov p0 p2 bV n=some o):X.JF 45 34 (sub xE [1,0,1,0,0,1,1,0,0,1,0]) [2,3,6,7,8,10,11,12] 6 [(2,aa p2),(3,.pt 3 1 0),(8,.pt 5 1 0)] [(3,⟨1,(EncX.ae p0).map DV.c⟩),(5,⟨1,(EncX.ae bV).map DV.c⟩)] (ahP o) (ahO p0 p2 bV o):=by
 intro F G;refine Sys.dZ (w0 ?_)
 refine wi (4,2) h (fun h0 h=>?_) fun h0 h=>?_
 ·refine wc (4,6) h (fun _=>vU) fun x h=>wi (4,9) h (fun h2 h=>?_) fun h2 h=>?_
  ·cases h
   exact wJ
  ·cases h
   exact wJ
 ·cases h
  exact wJ
inductive Hm where
 | e0 (v6:List Int) (v12:Int)
def ahS:Hm->Ex
 | .e0 _ _=>(.exit 0)
def ahR (p0:aT)(p2:Int)(o0:List ah)(o1:List aE)(o2:List Int)(kQ:Nat):Hm->S
 | .e0 v6 v12=>⟨fl [(2,aa p2),(3,.pt 3 1 0),(6,aP v6),(10,.ms 0 1 0 o0.length 5 true),(11,aa (o0.length:Int)),(12,aa v12),(13,dB false)],⟨[⟨1,bl o0⟩,⟨1,bl o1⟩,⟨1,bl o2⟩,⟨1,(EncX.ae p0).map DV.c⟩,⟨1,(VN o0 o1 kQ)⟩],[]⟩⟩
def wb (p0:aT)(p2:Int)(o0:List ah)(o1:List aE)(o2:List Int)(kQ n:Nat):Nat->List Int->Int->Option Hm
 | 0,_,_=>none
 | k+1,v6,v12=>
  if v12<(o0.length:Int)then
   (aD o0 v12).bind fun bV=>
   (Ov p0 p2 bV n).bind fun az=>match az with
   | .m kq=>
    bif kq then
     if Room 8 (v6++([v12]:List Int)).length then if aF (v12+1)then wb p0 p2 o0 o1 o2 kQ n k (v6++([v12]:List Int)) (v12+1)
     else none
     else none
    else if aF (v12+1)then wb p0 p2 o0 o1 o2 kQ n k v6 (v12+1)
    else none
  else some (.e0 v6 v12)
theorem ahQ (p0:aT)(p2:Int)(o0:List ah)(o1:List aE)(o2:List Int)(kQ n:Nat):∀(k:Nat) (v6:List Int) (v12:Int) (o:Hm),wb p0 p2 o0 o1 o2 kQ n k v6 v12=some o->X.LH 45 34 2 (sub xE [1,0,1,0,0]) 5 ⟨fl [(2,aa p2),(3,.pt 3 1 0),(6,aP v6),(10,.ms 0 1 0 o0.length 5 true),(11,aa (o0.length:Int)),(12,aa v12)],⟨[⟨1,bl o0⟩,⟨1,bl o1⟩,⟨1,bl o2⟩,⟨1,(EncX.ae p0).map DV.c⟩,⟨1,(VN o0 o1 kQ)⟩],[]⟩⟩ (ahS o) (ahR p0 p2 o0 o1 o2 kQ o):=by
 intro k;induction k with
 | zero=>intro _ _ _ h;exact nomatch h
 | succ k ih=>
  intro v6 v12 o h s hs
  refine Sys.bj hs (w0 ?_)
  refine wi (2,0) h (fun h0 h=>?_) fun h0 h=>?_
  ·refine wg h fun bV h1 h=>wx (3,1) h1<|wt (3,2) (.agg (EncX.ae bV)) (And.intro (rfl:(1:Nat)=1) (nK 0 5 (by decide) (bJ h1)))<|wg h fun az h2 h=>?_
   have h2:=ahN _ _ _ _ _ h2
   cases az with
   | m kq=>
    refine wV 4 [1,1,0,0,1,0] h2<|?_
    cases kq
    ·exact wn (6,0) h fun h4 h=>wN 2 [.l 1 o0,.l 1 o1,.l 1 o2] (ih v6 (v12+1) _ h)
    ·exact wq h fun h4 h=>dG (5,3) h4<|wn (6,0) h fun h5 h=>wN 2 [.l 1 o0,.l 1 o1,.l 1 o2] (ih (v6++([v12]:List Int)) (v12+1) _ h)
  ·cases h
   exact wX
def vZ (n:Nat)(p0:aT)(p2:Int)(o0:List ah)(o1:List aE)(o2:List Int)(kQ:Nat):Option (List Int):=
 (wb p0 p2 o0 o1 o2 kQ n n ([]:List Int) 0).bind fun aY=>match aY with
 | .e0 bX ow=>
  some bX
theorem VO {n:Nat}{p0:aT}{p2:Int}{o0:List ah}{o1:List aE}{o2:List Int}{kQ:Nat}{r:List Int}(h:vZ n p0 p2 o0 o1 o2 kQ=some r):X.cD 45 [.c (.agg (EncX.ae p0)),.agg [.ms 0 1 0 o0.length 5 true,.ms 1 1 0 o1.length 2 true,.ms 2 1 0 kQ 1 true],aa p2] (bm [.l 1 o0,.l 1 o1,.l 1 o2]) (aP r) (bm [.l 1 o0,.l 1 o1,.l 1 o2]):=by
 refine fL 34 xE ?_
 refine wg h fun aY h0 h=>?_
 have h0:=ahQ _ _ _ _ _ _ _ _ _ _ _ h0
 cases aY with
 | e0 bX ow=>
  refine wo [1,0,1,0] h0<|?_
  cases h
  exact wL []
def ahL (ai:Sl aH)(ak:Sl aO)(ao:Sl aN)(aL:List Int)(o1:List ah)(o2:List aE)(cA:Nat):List DV:=[.c (aq ai),.c (aq ak),.c (aq ao),.ms 1 1 0 o1.length 5 true,.ms 2 1 0 o2.length 2 true,.ms 3 1 0 cA 1 true,aP aL]
def Dp (n:Nat)(p1:Int)(ai:Sl aH)(ak:Sl aO)(ao:Sl aN)(aL:List Int)(o1:List ah)(o2:List aE)(o3:List Int)(cA:Nat):Option (List Int×List ah):=
 (aD o1 p1).bind fun bH=>
 if 0≤p1∧p1<(o1.length:Int)then if Room 8 (aL++([p1]:List Int)).length then some ((aL++([p1]:List Int)),(o1.set p1.toNat ({ ({ bH with state:=2}:ah)with left:=0}:ah)))
 else none
 else none
theorem ahM {n:Nat}{p1:Int}{ai:Sl aH}{ak:Sl aO}{ao:Sl aN}{aL:List Int}{o1:List ah}{o2:List aE}{o3:List Int}{cA:Nat}{r:List Int×List ah}(h:Dp n p1 ai ak ao aL o1 o2 o3 cA=some r):X.cD 33 [.pt 0 1 0,aa p1] (bm [.x 1 (ahL ai ak ao aL o1 o2 cA),.l 1 o1,.l 1 o2,.l 1 o3]) (.aX []) (bm [.x 1 [.c (aq ai),.c (aq ak),.c (aq ao),.ms 1 1 0 o1.length 5 true,.ms 2 1 0 o2.length 2 true,.ms 3 1 0 cA 1 true,aP r.1],.l 1 r.2,.l 1 o2,.l 1 o3]):=by
 refine fL 30 EH ?_
 refine wg h fun bH h0 h=>wx (0,12) h0<|wt (0,14) (.st (bl (o1.set p1.toNat ({ bH with state:=2}:ah)))) (And.intro (rfl:(1:Nat)=1) (iI 2 [aa 2] ({ bH with state:=2}:ah) (bJ h0) rfl (Nat.le_of_ble_eq_true rfl)))<|wq h fun h1 h=>wt (0,15) .ix h1<|wt (0,17) (.st (bl (o1.set p1.toNat ({ ({ bH with state:=2}:ah)with left:=0}:ah)))) (And.intro (rfl:(1:Nat)=1) (j7 (a:=({ bH with state:=2}:ah)) 3 [aa 0] ({ ({ bH with state:=2}:ah)with left:=0}:ah) (bJ h0) rfl (Nat.le_of_ble_eq_true rfl)))<|wq h fun h2 h=>dG (1,7) h2<|?_
 cases h
 exact wL []
def VE (ai:Sl aH)(ak:Sl aO)(ao:Sl aN)(aL:List Int)(o2:List aE)(ef cA:Nat):List DV:=[.c (aq ai),.c (aq ak),.c (aq ao),.ms 1 1 0 ef 5 true,.ms 2 1 0 o2.length 2 true,.ms 3 1 0 cA 1 true,aP aL]
def vV (n:Nat)(p1 p2:Int)(ai:Sl aH)(ak:Sl aO)(ao:Sl aN)(aL:List Int)(o1:List ah)(o2:List aE)(o3:List Int)(ef cA:Nat):Option (List ah):=
 if 0≤p1∧p1<(ef:Int)then(aD o1 p1).bind fun w1=>
 (nq n ({ p:=({ aw:=ai,aR:=ak}:aj),bc:=ao}:aT) ({ ({ w1 with loc:=p2}:ah)with state:=0}:ah)).bind fun x=>
 if(x.length:Int)=0 then
  some (o1.set p1.toNat ({ ({ ({ w1 with loc:=p2}:ah)with state:=0}:ah)with state:=3}:ah))
 else some (o1.set p1.toNat ({ ({ w1 with loc:=p2}:ah)with state:=0}:ah))
 else none
theorem VF {n:Nat}{p1 p2:Int}{ai:Sl aH}{ak:Sl aO}{ao:Sl aN}{aL:List Int}{o1:List ah}{o2:List aE}{o3:List Int}{ef cA:Nat}{r:List ah}(h:vV n p1 p2 ai ak ao aL o1 o2 o3 ef cA=some r):X.cD 66 [.pt 0 1 0,aa p1,aa p2] (bm [.x 1 (VE ai ak ao aL o2 ef cA),.l 1 o1,.l 1 o2,.l 1 o3]) (.aX []) (bm [.x 1 (VE ai ak ao aL o2 ef cA),.l 1 r,.l 1 o2,.l 1 o3]):=by
 refine fL 34 EJ ?_
 refine wq h fun h0 h=>wt (0,6) .ix h0<|wg h fun w1 h1 h=>wt (1,5) (.st (bl (o1.set p1.toNat ({ w1 with loc:=p2}:ah)))) (And.intro (rfl:(1:Nat)=1) (iI 1 [aa p2] ({ w1 with loc:=p2}:ah) (bJ h1) rfl (Nat.le_of_ble_eq_true rfl)))<|wt (1,8) (.st (bl (o1.set p1.toNat ({ ({ w1 with loc:=p2}:ah)with state:=0}:ah)))) (And.intro (rfl:(1:Nat)=1) (j7 (a:=({ w1 with loc:=p2}:ah)) 2 [aa 0] ({ ({ w1 with loc:=p2}:ah)with state:=0}:ah) (bJ h1) rfl (Nat.le_of_ble_eq_true rfl)))<|wt (2,6) (.agg (EncX.ae ({ ({ w1 with loc:=p2}:ah)with state:=0}:ah))) (And.intro (rfl:(1:Nat)=1) (nK 0 5 (by decide) (sG (b:=({ ({ w1 with loc:=p2}:ah)with state:=0}:ah)) (bJ h1))))<|wc (2,7) h (fun _=>tK) fun x h=>wi (2,9) h (fun h3 h=>?_) fun h3 h=>?_
 ·refine wt (3,3) (.st (bl (o1.set p1.toNat ({ ({ ({ w1 with loc:=p2}:ah)with state:=0}:ah)with state:=3}:ah)))) (And.intro (rfl:(1:Nat)=1) (j7 (a:=({ ({ w1 with loc:=p2}:ah)with state:=0}:ah)) 2 [aa 3] ({ ({ ({ w1 with loc:=p2}:ah)with state:=0}:ah)with state:=3}:ah) (bJ h1) rfl (Nat.le_of_ble_eq_true rfl)))<|?_
  cases h
  exact wL []
 ·cases h
  exact wL []
def VG (ai:Sl aH)(ak:Sl aO)(ao:Sl aN)(aL:List Int)(o1:List ah)(o2:List aE)(cA:Nat):List DV:=[.c (aq ai),.c (aq ak),.c (aq ao),.ms 1 1 0 o1.length 5 true,.ms 2 1 0 o2.length 2 true,.ms 3 1 0 cA 1 true,aP aL]
def vW (n:Nat)(p1 p2:Int)(ai:Sl aH)(ak:Sl aO)(ao:Sl aN)(aL:List Int)(o1:List ah)(o2:List aE)(o3:List Int)(cA:Nat):Option (List ah):=
 (aD o1 p1).bind fun bf=>
 (nq n ({ p:=({ aw:=ai,aR:=ak}:aj),bc:=ao}:aT) ({ ({ bf with loc:=p2}:ah)with state:=0}:ah)).bind fun x=>
 if(x.length:Int)=0 then
  some (o1.set p1.toNat ({ ({ ({ bf with loc:=p2}:ah)with state:=0}:ah)with state:=3}:ah))
 else some (o1.set p1.toNat ({ ({ bf with loc:=p2}:ah)with state:=0}:ah))
theorem VH {n:Nat}{p1 p2:Int}{ai:Sl aH}{ak:Sl aO}{ao:Sl aN}{aL:List Int}{o1:List ah}{o2:List aE}{o3:List Int}{cA:Nat}{r:List ah}(h:vW n p1 p2 ai ak ao aL o1 o2 o3 cA=some r):X.cD 66 [.pt 0 1 0,aa p1,aa p2] (bm [.x 1 (VG ai ak ao aL o1 o2 cA),.l 1 o1,.l 1 o2,.l 1 o3]) (.aX []) (bm [.x 1 (VG ai ak ao aL o1 o2 cA),.l 1 r,.l 1 o2,.l 1 o3]):=by
 refine fL 34 EJ ?_
 refine wg h fun bf h0 h=>wx (0,6) h0<|wt (1,5) (.st (bl (o1.set p1.toNat ({ bf with loc:=p2}:ah)))) (And.intro (rfl:(1:Nat)=1) (iI 1 [aa p2] ({ bf with loc:=p2}:ah) (bJ h0) rfl (Nat.le_of_ble_eq_true rfl)))<|wt (1,8) (.st (bl (o1.set p1.toNat ({ ({ bf with loc:=p2}:ah)with state:=0}:ah)))) (And.intro (rfl:(1:Nat)=1) (j7 (a:=({ bf with loc:=p2}:ah)) 2 [aa 0] ({ ({ bf with loc:=p2}:ah)with state:=0}:ah) (bJ h0) rfl (Nat.le_of_ble_eq_true rfl)))<|wt (2,6) (.agg (EncX.ae ({ ({ bf with loc:=p2}:ah)with state:=0}:ah))) (And.intro (rfl:(1:Nat)=1) (nK 0 5 (by decide) (sG (b:=({ ({ bf with loc:=p2}:ah)with state:=0}:ah)) (bJ h0))))<|wc (2,7) h (fun _=>tK) fun x h=>wi (2,9) h (fun h2 h=>?_) fun h2 h=>?_
 ·refine wt (3,3) (.st (bl (o1.set p1.toNat ({ ({ ({ bf with loc:=p2}:ah)with state:=0}:ah)with state:=3}:ah)))) (And.intro (rfl:(1:Nat)=1) (j7 (a:=({ ({ bf with loc:=p2}:ah)with state:=0}:ah)) 2 [aa 3] ({ ({ ({ bf with loc:=p2}:ah)with state:=0}:ah)with state:=3}:ah) (bJ h0) rfl (Nat.le_of_ble_eq_true rfl)))<|?_
  cases h
  exact wL []
 ·cases h
  exact wL []
def ahF (ai:Sl aH)(ak:Sl aO)(ao:Sl aN)(aL:List Int)(o2:List aE)(ef cA:Nat):List DV:=[.c (aq ai),.c (aq ak),.c (aq ao),.ms 1 1 0 ef 5 true,.ms 2 1 0 o2.length 2 true,.ms 3 1 0 cA 1 true,aP aL]
def Hi (n:Nat)(p1:Int)(ai:Sl aH)(ak:Sl aO)(ao:Sl aN)(aL:List Int)(o1:List ah)(o2:List aE)(o3:List Int)(ef cA:Nat):Option (List Int×List ah):=
 if 0≤p1∧p1<(ef:Int)then(aD o1 p1).bind fun w1=>
 if Room 8 (aL++([p1]:List Int)).length then some ((aL++([p1]:List Int)),(o1.set p1.toNat ({ ({ w1 with state:=2}:ah)with left:=0}:ah)))
 else none
 else none
theorem ahG {n:Nat}{p1:Int}{ai:Sl aH}{ak:Sl aO}{ao:Sl aN}{aL:List Int}{o1:List ah}{o2:List aE}{o3:List Int}{ef cA:Nat}{r:List Int×List ah}(h:Hi n p1 ai ak ao aL o1 o2 o3 ef cA=some r):X.cD 33 [.pt 0 1 0,aa p1] (bm [.x 1 (ahF ai ak ao aL o2 ef cA),.l 1 o1,.l 1 o2,.l 1 o3]) (.aX []) (bm [.x 1 [.c (aq ai),.c (aq ak),.c (aq ao),.ms 1 1 0 ef 5 true,.ms 2 1 0 o2.length 2 true,.ms 3 1 0 cA 1 true,aP r.1],.l 1 r.2,.l 1 o2,.l 1 o3]):=by
 refine fL 30 EH ?_
 refine wq h fun h0 h=>wt (0,12) .ix h0<|wg h fun w1 h1 h=>wt (0,14) (.st (bl (o1.set p1.toNat ({ w1 with state:=2}:ah)))) (And.intro (rfl:(1:Nat)=1) (iI 2 [aa 2] ({ w1 with state:=2}:ah) (bJ h1) rfl (Nat.le_of_ble_eq_true rfl)))<|wt (0,15) .ix h0<|wt (0,17) (.st (bl (o1.set p1.toNat ({ ({ w1 with state:=2}:ah)with left:=0}:ah)))) (And.intro (rfl:(1:Nat)=1) (j7 (a:=({ w1 with state:=2}:ah)) 3 [aa 0] ({ ({ w1 with state:=2}:ah)with left:=0}:ah) (bJ h1) rfl (Nat.le_of_ble_eq_true rfl)))<|wq h fun h2 h=>dG (1,7) h2<|?_
 cases h
 exact wL []
end Go.Vig
