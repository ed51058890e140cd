/-
-/
import Derived.Test.YtpadajnejknkeaaGreatFc
set_option linter.unusedVariables false
set_option linter.unusedSimpArgs false
set_option maxRecDepth 100000
set_option maxHeartbeats 1000000
namespace Go.Vig
open Go Go.Abs Go.Proofs
variable [Kn]
abbrev D0:=aj->Sl af->Option (Int×Int)
def Pv (f:D0):Prop:=∀(p0:aj) (p1:Sl af) (r:Int×Int),f p0 p1=some r->X.bg 134 [.c (.agg (EncX.ae p0)),.c (aq p1)] (.aX [aa r.1,aa r.2])
inductive I5 where
 | r (v4 v5:Int)
 | m
 | kN
def amx:I5->Ex
 | .r _ _=>.ret
 | .m=>.normal
 | .kN=>.normal
def amw (p0:aj)(da:af):I5->(Nat->DV)->List Ob->S
 | .r v4 v5,F,G=>⟨fs F [4,5] [(4,aa v4),(5,aa v5)],⟨sl G 2 [(0,⟨1,(EncX.ae p0).map DV.c⟩),(1,⟨1,(EncX.ae da).map DV.c⟩)],[]⟩⟩
 | .m,F,G=>⟨fs F [1,2,6,7,73] [(2,.pt 0 1 0),(7,.pt 1 1 0),(73,dB false)],⟨sl G 2 [(0,⟨1,(EncX.ae p0).map DV.c⟩),(1,⟨1,(EncX.ae da).map DV.c⟩)],[]⟩⟩
 | .kN,F,G=>⟨fs F [1,2,6,7,39] [(2,.pt 0 1 0),(7,.pt 1 1 0),(39,dB false)],⟨sl G 2 [(0,⟨1,(EncX.ae p0).map DV.c⟩),(1,⟨1,(EncX.ae da).map DV.c⟩)],[]⟩⟩
def I4 (p0:aj)(da:af)(n:Nat):Option I5:=
 if da.kind=2 then
  (kV n p0 da.e_).bind fun(x,aC,av)=>
  if aC≠0 then
   some (.r aC av)
  else(ua n p0 da.mon da.name).bind fun(aK,aG)=>
  (wW n p0).bind fun ba=>
  (aD ba aK).bind fun WU=>
  if WU.type≠1 then
   if x≠2 then
    some (.r 70 da.e_.at_)
   else some (.m)
  else if x≠1 then
   some (.r 70 da.e_.at_)
  else some (.m)
 else if da.kind=3 then
  (kV n p0 da.e_).bind fun(ca,cm,dV)=>
  if cm≠0 then
   some (.r cm dV)
  else if ca≠1 then
   some (.r 70 da.e_.at_)
  else some (.m)
 else if da.kind=4 then
  (kV n p0 da.e_).bind fun(eS,iY,ku)=>
  if iY≠0 then
   some (.r iY ku)
  else if eS≠1 then
   some (.r 70 da.e_.at_)
  else some (.m)
 else some (.kN)
theorem amv (p0:aj)(da:af)(n:Nat)(o:I5)(h:I4 p0 da n=some o):X.JF 134 98 (sub ED [1,0,1,0,0,1,0,0,1,0]) [1,2,6,7] 2 [(2,.pt 0 1 0),(7,.pt 1 1 0)] [(0,⟨1,(EncX.ae p0).map DV.c⟩),(1,⟨1,(EncX.ae da).map DV.c⟩)] (amx o) (amw p0 da o):=by
 intro F G;refine Sys.dZ (w0 ?_)
 refine wi (5,2) h (fun h0 h=>?_) fun h0 h=>?_
 ·refine wc (6,3) h (fun _=>Pu) ?_
  rintro⟨x,aC,av⟩ h
  refine wi (7,1) h (fun h2 h=>?_) fun h2 h=>?_
  ·cases h
   exact wJ
  ·refine wt (10,2) (.b true) h0<|wc (11,5) h (fun _=>DX) ?_
   rintro⟨aK,aG⟩ h
   refine wc (12,1) h (fun _=>IJ) fun ba h=>wg h fun WU h5 h=>wx (12,3) h5<|wl (12,5) 1 h5 rfl<|wi (12,6) h (fun h6 h=>?_) fun h6 h=>?_
   ·refine wi (14,2) h (fun h7 h=>?_) fun h7 h=>?_
    ·cases h
     exact wJ
    ·cases h
     exact wJ
   ·refine wi (14,2) h (fun h7 h=>?_) fun h7 h=>?_
    ·cases h
     exact wJ
    ·cases h
     exact wJ
 ·refine wi (5,6) h (fun h1 h=>?_) fun h1 h=>?_
  ·refine wc (6,3) h (fun _=>Pu) ?_
   rintro⟨ca,cm,dV⟩ h
   refine wi (7,1) h (fun h3 h=>?_) fun h3 h=>?_
   ·cases h
    exact wJ
   ·refine wt (10,2) (.b false) h0<|wi (14,2) h (fun h4 h=>?_) fun h4 h=>?_
    ·cases h
     exact wJ
    ·cases h
     exact wJ
  ·refine wi (5,11) h (fun h2 h=>?_) fun h2 h=>?_
   ·refine wc (6,3) h (fun _=>Pu) ?_
    rintro⟨eS,iY,ku⟩ h
    refine wi (7,1) h (fun h4 h=>?_) fun h4 h=>?_
    ·cases h
     exact wJ
    ·refine wt (10,2) (.b false) h0<|wi (14,2) h (fun h5 h=>?_) fun h5 h=>?_
     ·cases h
      exact wJ
     ·cases h
      exact wJ
   ·cases h
    exact wJ
inductive I6 where
 | r (v4 v5:Int)
 | e2 (bq:Int)
def amz:I6->Ex
 | .r _ _=>.ret
 | .e2 _=>(.exit 2)
def amy (p0:aj)(da:af):I6->(Nat->DV)->List Ob->S
 | .r v4 v5,F,G=>⟨fs F [4,5] [(4,aa v4),(5,aa v5)],⟨sl G 2 [(0,⟨1,(EncX.ae p0).map DV.c⟩),(1,⟨1,(EncX.ae da).map DV.c⟩)],[]⟩⟩
 | .e2 bq,F,G=>⟨fs F [1,2,6,7,14,81] [(2,.pt 0 1 0),(7,.pt 1 1 0),(14,aa bq),(81,dB false)],⟨sl G 2 [(0,⟨1,(EncX.ae p0).map DV.c⟩),(1,⟨1,(EncX.ae da).map DV.c⟩)],[]⟩⟩
def w5 (mA:D0)(p0:aj)(da:af)(n:Nat):Nat->Int->Option I6
 | 0,_=>none
 | k+1,bq=>
  if bq<(da.blocks.l.length:Int)then
   (aD da.blocks.l bq).bind fun DM=>
   (mA p0 DM).bind fun(iB,iZ)=>
   if iB≠0 then
    some (.r iB iZ)
   else if aF (bq+1)then w5 mA p0 da n k (bq+1)
   else none
  else some (.e2 bq)
theorem Xk (mA:D0)(p0:aj)(da:af)(xv:Pv mA)(n:Nat):∀(k:Nat) (bq:Int) (o:I6),w5 mA p0 da n k bq=some o->X.LF 134 98 17 (sub ED [1,0,1,0,0,1,0,0,1,1,1,0,0]) 2 [(2,.pt 0 1 0),(7,.pt 1 1 0),(14,aa bq)] [(0,⟨1,(EncX.ae p0).map DV.c⟩),(1,⟨1,(EncX.ae da).map DV.c⟩)] (amz o) (amy p0 da o):=by
 intro k;induction k with
 | zero=>intro _ _ h;exact nomatch h
 | succ k ih=>
  intro bq o h F G s hs
  refine Sys.bj hs (w0 ?_)
  refine wi (17,4) h (fun h0 h=>?_) fun h0 h=>?_
  ·refine wg h fun DM h1 h=>wx (19,4) h1<|wl (19,5) 0 h1 rfl<|wc (19,6) h (fun _=>xv _ _ _) ?_
   rintro⟨iB,iZ⟩ h
   refine wi (20,1) h (fun h3 h=>?_) fun h3 h=>?_
   ·cases h
    exact wX
   ·exact wn (18,1) h fun h4 h=>wN 17 [] (ih (bq+1) _ h F G)
  ·cases h
   exact wX
inductive I7 where
 | r (v4 v5:Int) (o1:af)
 | e0 (v6:Int)
def amC:I7->Ex
 | .r _ _ _=>.ret
 | .e0 _=>(.exit 0)
def amB (p0:aj)(p1:Sl af):I7->S
 | .r v4 v5 o1=>⟨fl [(4,aa v4),(5,aa v5)],⟨[⟨1,(EncX.ae p0).map DV.c⟩,⟨1,(EncX.ae o1).map DV.c⟩],[]⟩⟩
 | .e0 v6=>⟨fl [(1,.c (aq p1)),(2,.pt 0 1 0),(6,aa v6),(20,dB false)],⟨[⟨1,(EncX.ae p0).map DV.c⟩],[]⟩⟩
def ud (mA:D0)(p0:aj)(p1:Sl af)(n:Nat):Nat->Int->Option I7
 | 0,_=>none
 | k+1,v6=>
  if v6<(p1.l.length:Int)then
   (aD p1.l v6).bind fun da=>
   (I4 p0 da n).bind fun az=>match az with
   | .r v4 v5=>
    some (.r v4 v5 da)
   | .m=>
    (w5 mA p0 da n n 0).bind fun aY=>match aY with
    | .r dU cN=>
     some (.r dU cN da)
    | .e2 OY=>
     if aF (v6+1)then ud mA p0 p1 n k (v6+1)
     else none
   | .kN=>
    (w5 mA p0 da n n 0).bind fun bD=>match bD with
    | .r dR db=>
     some (.r dR db da)
    | .e2 aiV=>
     if aF (v6+1)then ud mA p0 p1 n k (v6+1)
     else none
  else some (.e0 v6)
theorem amA (mA:D0)(p0:aj)(p1:Sl af)(xv:Pv mA)(n:Nat):∀(k:Nat) (v6:Int) (o:I7),ud mA p0 p1 n k v6=some o->X.LH 134 98 2 (sub ED [1,0,1,0,0]) 1 ⟨fl [(1,.c (aq p1)),(2,.pt 0 1 0),(6,aa v6)],⟨[⟨1,(EncX.ae p0).map DV.c⟩],[]⟩⟩ (amC o) (amB p0 p1 o):=by
 intro k;induction k with
 | zero=>intro _ _ h;exact nomatch h
 | succ k ih=>
  intro v6 o h s hs
  refine Sys.bj hs (w0 ?_)
  refine wi (2,3) h (fun h0 h=>?_) fun h0 h=>?_
  ·refine wg h fun da h1 h=>wx (4,2) h1<|wa (4,3) h1<|wg h fun az h2 h=>?_
   have h2:=amv _ _ _ _ h2
   cases az with
   | r v4 v5=>
    refine wV 205003 [1,0,0,1,0] h2<|?_
    cases h
    exact wX
   | m=>
    refine wV 205003 [1,0,0,1,0] h2<|wg h fun aY h3 h=>?_
    have h3:=Xk _ _ _ xv _ _ _ _ h3
    cases aY with
    | r dU cN=>
     refine wO [1,0,0,1,1,1,0] h3<|?_
     cases h
     exact wX
    | e2 OY=>
     exact wO [1,0,0,1,1,1,0] h3<|wn (3,1) h fun h4 h=>wN 2 [] (ih (v6+1) _ h)
   | kN=>
    refine wV 205003 [1,0,0,1,0] h2<|wg h fun bD h3 h=>?_
    have h3:=Xk _ _ _ xv _ _ _ _ h3
    cases bD with
    | r dR db=>
     refine wO [1,0,0,1,1,1,0] h3<|?_
     cases h
     exact wX
    | e2 aiV=>
     exact wO [1,0,0,1,1,1,0] h3<|wn (3,1) h fun h4 h=>wN 2 [] (ih (v6+1) _ h)
  ·cases h
   exact wX
def jI:Nat->aj->Sl af->Option (Int×Int)
 | 0,_,_=>none
 | n+1,p0,p1=>
  (ud (jI n) p0 p1 n n 0).bind fun c9=>match c9 with
  | .r WO mF o1=>
   some (WO,mF)
  | .e0 bX=>
   some (0,0)
theorem amD:∀n:Nat,Pv (jI n):=by
 intro n
 induction n with
 | zero=>
  refine ?_
  ·intro p0 p1 r h;unfold jI at h;cases h
 | succ n ih=>
  have xv:=ih
  refine ?_
  ·intro p0 p1 r h
   unfold jI at h
   refine fC 98 ED ?_
   refine wg h fun c9 h0 h=>?_
   have h0:=amA _ _ _ xv _ _ _ _ h0
   cases c9 with
   | r WO mF o1=>
    refine wo [1,0,1,0] h0<|?_
    cases h
    exact wC
   | e0 bX=>
    refine wo [1,0,1,0] h0<|?_
    cases h
    exact wC
theorem Xl {n:Nat}{p0:aj}{p1:Sl af}{r:Int×Int}(h:jI n p0 p1=some r):X.bg 134 [.c (.agg (EncX.ae p0)),.c (aq p1)] (.aX [aa r.1,aa r.2]):=amD n p0 p1 r h
inductive IX where
 | m (zq:Bool)
def al9:IX->Ex
 | .m _=>.normal
def al8 (av:List bI)(v7:Int):IX->(Nat->DV)->List Ob->S
 | .m zq,F,G=>⟨fs F [1,6,7,63] [(6,aP av),(7,aa v7),(63,dB zq)],⟨sl G 1 [],[]⟩⟩
def Ps (av:List bI)(v7:Int)(n:Nat):Option IX:=
 (aD av v7).bind fun jF=>
 if jF.type=3 then
  if jF.init<jF.lo then
   some (.m true)
  else if jF.init>jF.hi then
   some (.m true)
  else some (.m false)
 else some (.m false)
theorem al7 (av:List bI)(v7:Int)(n:Nat)(o:IX)(h:Ps av v7 n=some o):X.JF 110 128 (sub xD [1,1,1,1,0,1,0,0,1,0,0,0]) [1,6,7,29] 1 [(6,aP av),(7,aa v7)] [] (al9 o) (al8 av v7 o):=by
 intro F G;refine Sys.dZ (w0 ?_)
 refine wg h fun jF h0 h=>wx (8,2) h0<|wl (8,4) 1 h0 rfl<|wi (8,5) h (fun h1 h=>?_) fun h1 h=>?_
 ·refine wx (8,9) h0<|wl (8,11) 4 h0 rfl<|wx (8,14) h0<|wl (8,16) 2 h0 rfl<|wi (8,17) h (fun h2 h=>?_) fun h2 h=>?_
  ·cases h
   exact wJ
  ·refine wx (8,21) h0<|wl (8,23) 4 h0 rfl<|wx (8,26) h0<|wl (8,28) 3 h0 rfl<|wi (8,29) h (fun h3 h=>?_) fun h3 h=>?_
   ·cases h
    exact wJ
   ·cases h
    exact wJ
 ·cases h
  exact wJ
inductive I1 where
 | r (v3:Int)
 | e0 (v7:Int)
def aml:I1->Ex
 | .r _=>.ret
 | .e0 _=>(.exit 0)
def amk (av:List bI):I1->(Nat->DV)->List Ob->S
 | .r v3,F,G=>⟨fs F [2,3] [(2,aa 71),(3,aa v3)],⟨sl G 1 [],[]⟩⟩
 | .e0 v7,F,G=>⟨fs F [1,6,7,29] [(6,aP av),(7,aa v7),(29,dB false)],⟨sl G 1 [],[]⟩⟩
def z8 (av:List bI)(n:Nat):Nat->Int->Option I1
 | 0,_=>none
 | k+1,v7=>
  if v7<(av.length:Int)then
   (Ps av v7 n).bind fun az=>match az with
   | .m zq=>
    bif zq then
     (aD av v7).bind fun rO=>
     some (.r rO.at_)
    else if aF (v7+1)then z8 av n k (v7+1)
    else none
  else some (.e0 v7)
theorem amj (av:List bI)(n:Nat):∀(k:Nat) (v7:Int) (o:I1),z8 av n k v7=some o->X.LF 110 128 6 (sub xD [1,1,1,1,0,1,0,0]) 1 [(6,aP av),(7,aa v7)] [] (aml o) (amk av o):=by
 intro k;induction k with
 | zero=>intro _ _ h;exact nomatch h
 | succ k ih=>
  intro v7 o h F G s hs
  refine Sys.bj hs (w0 ?_)
  refine wi (6,3) h (fun h0 h=>?_) fun h0 h=>?_
  ·refine wg h fun az h1 h=>?_
   have h1:=al7 _ _ _ _ h1
   cases az with
   | m zq=>
    refine wV 8 [1,0,0,0] h1<|?_
    cases zq
    ·exact wn (7,1) h fun h3 h=>wN 6 [] (ih (v7+1) _ h F G)
    ·refine wg h fun rO h3 h=>wx (9,2) h3<|wl (9,4) 5 h3 rfl<|?_
     cases h
     exact wX
  ·cases h
   exact wX
inductive IZ where
 | r (v2 v3:Int)
 | e4 (v9:Int)
def amf:IZ->Ex
 | .r _ _=>.ret
 | .e4 _=>(.exit 4)
def ame (p0:aj)(v8:Int):IZ->(Nat->DV)->List Ob->S
 | .r v2 v3,F,G=>⟨fs F [2,3] [(2,aa v2),(3,aa v3)],⟨sl G 1 [(0,⟨1,(EncX.ae p0).map DV.c⟩)],[]⟩⟩
 | .e4 v9,F,G=>⟨fs F [1,8,9,84] [(1,.pt 0 1 0),(8,aa v8),(9,aa v9),(84,dB false)],⟨sl G 1 [(0,⟨1,(EncX.ae p0).map DV.c⟩)],[]⟩⟩
def z6 (p0:aj)(v8:Int)(n:Nat):Nat->Int->Option IZ
 | 0,_=>none
 | k+1,v9=>
  (aD p0.aw.l v8).bind fun O7=>
  if v9<(O7.methods.l.length:Int)then
   (aD O7.methods.l v9).bind fun kU=>
   (jI n p0 kU.body).bind fun(aK,aG)=>
   if aK≠0 then
    some (.r aK aG)
   else if aF (v9+1)then z6 p0 v8 n k (v9+1)
   else none
  else some (.e4 v9)
theorem amd (p0:aj)(v8:Int)(n:Nat):∀(k:Nat) (v9:Int) (o:IZ),z6 p0 v8 n k v9=some o->X.LF 110 128 14 (sub xD [1,1,1,1,1,0,1,0,0,1,0,0,1,0,0]) 1 [(1,.pt 0 1 0),(8,aa v8),(9,aa v9)] [(0,⟨1,(EncX.ae p0).map DV.c⟩)] (amf o) (ame p0 v8 o):=by
 intro k;induction k with
 | zero=>intro _ _ h;exact nomatch h
 | succ k ih=>
  intro v9 o h F G s hs
  refine Sys.bj hs (w0 ?_)
  refine wg h fun O7 h0 h=>wx (14,4) h0<|wl (14,6) 2 h0 rfl<|wi (14,8) h (fun h1 h=>?_) fun h1 h=>?_
  ·refine wx (16,4) h0<|wl (16,6) 2 h0 rfl<|wg h fun kU h2 h=>wx (16,8) h2<|wl (16,10) 1 h2 rfl<|wc (16,11) h (fun _=>Xl) ?_
   rintro⟨aK,aG⟩ h
   refine wi (17,1) h (fun h4 h=>?_) fun h4 h=>?_
   ·cases h
    exact wX
   ·exact wn (15,1) h fun h5 h=>wN 14 [] (ih (v9+1) _ h F G)
  ·cases h
   exact wX
inductive IY where
 | r (v2 v3:Int)
 | e2 (v8:Int)
def amc:IY->Ex
 | .r _ _=>.ret
 | .e2 _=>(.exit 2)
def amb (p0:aj):IY->(Nat->DV)->List Ob->S
 | .r v2 v3,F,G=>⟨fs F [2,3] [(2,aa v2),(3,aa v3)],⟨sl G 1 [(0,⟨1,(EncX.ae p0).map DV.c⟩)],[]⟩⟩
 | .e2 v8,F,G=>⟨fs F [1,8,73] [(1,.pt 0 1 0),(8,aa v8),(73,dB false)],⟨sl G 1 [(0,⟨1,(EncX.ae p0).map DV.c⟩)],[]⟩⟩
def zZ (p0:aj)(n:Nat):Nat->Int->Option IY
 | 0,_=>none
 | k+1,v8=>
  if v8<(p0.aw.l.length:Int)then
   (z6 p0 v8 n n 0).bind fun bD=>match bD with
   | .r v2 c7=>
    some (.r v2 c7)
   | .e4 gB=>
    if aF (v8+1)then zZ p0 n k (v8+1)
    else none
  else some (.e2 v8)
theorem ama (p0:aj)(n:Nat):∀(k:Nat) (v8:Int) (o:IY),zZ p0 n k v8=some o->X.LF 110 128 11 (sub xD [1,1,1,1,1,0,1,0,0]) 1 [(1,.pt 0 1 0),(8,aa v8)] [(0,⟨1,(EncX.ae p0).map DV.c⟩)] (amc o) (amb p0 o):=by
 intro k;induction k with
 | zero=>intro _ _ h;exact nomatch h
 | succ k ih=>
  intro v8 o h F G s hs
  refine Sys.bj hs (w0 ?_)
  refine wi (11,4) h (fun h0 h=>?_) fun h0 h=>?_
  ·refine wg h fun bD h1 h=>?_
   have h1:=amd _ _ _ _ _ _ h1
   cases bD with
   | r v2 c7=>
    refine wO [1,0,0,1,0] h1<|?_
    cases h
    exact wX
   | e4 gB=>
    exact wO [1,0,0,1,0] h1<|wn (12,1) h fun h2 h=>wN 11 [] (ih (v8+1) _ h F G)
  ·cases h
   exact wX
inductive I0 where
 | r (v2 v3:Int)
 | e6 (v12:Int)
def ami:I0->Ex
 | .r _ _=>.ret
 | .e6 _=>(.exit 6)
def amh (p0:aj):I0->(Nat->DV)->List Ob->S
 | .r v2 v3,F,G=>⟨fs F [2,3] [(2,aa v2),(3,aa v3)],⟨sl G 1 [(0,⟨1,(EncX.ae p0).map DV.c⟩)],[]⟩⟩
 | .e6 v12,F,G=>⟨fs F [1,12,110] [(1,.pt 0 1 0),(12,aa v12),(110,dB false)],⟨sl G 1 [(0,⟨1,(EncX.ae p0).map DV.c⟩)],[]⟩⟩
def z7 (p0:aj)(n:Nat):Nat->Int->Option I0
 | 0,_=>none
 | k+1,v12=>
  if v12<(p0.aR.l.length:Int)then
   (aD p0.aR.l v12).bind fun Wx=>
   (jI n p0 Wx.body).bind fun(ba,ca)=>
   if ba≠0 then
    some (.r ba ca)
   else if aF (v12+1)then z7 p0 n k (v12+1)
   else none
  else some (.e6 v12)
theorem amg (p0:aj)(n:Nat):∀(k:Nat) (v12:Int) (o:I0),z7 p0 n k v12=some o->X.LF 110 128 20 (sub xD [1,1,1,1,1,1,0,1,0,0]) 1 [(1,.pt 0 1 0),(12,aa v12)] [(0,⟨1,(EncX.ae p0).map DV.c⟩)] (ami o) (amh p0 o):=by
 intro k;induction k with
 | zero=>intro _ _ h;exact nomatch h
 | succ k ih=>
  intro v12 o h F G s hs
  refine Sys.bj hs (w0 ?_)
  refine wi (20,4) h (fun h0 h=>?_) fun h0 h=>?_
  ·refine wg h fun Wx h1 h=>wx (22,4) h1<|wl (22,6) 3 h1 rfl<|wc (22,7) h (fun _=>Xl) ?_
   rintro⟨ba,ca⟩ h
   refine wi (23,1) h (fun h3 h=>?_) fun h3 h=>?_
   ·cases h
    exact wX
   ·exact wn (21,1) h fun h4 h=>wN 20 [] (ih (v12+1) _ h F G)
  ·cases h
   exact wX
def IW (n:Nat)(p0:aj):Option (Int×Int):=
 (Ix n p0).bind fun(x,aC)=>
 if x≠0 then
  some (x,aC)
 else(wW n p0).bind fun av=>
 (z8 av n n 0).bind fun aY=>match aY with
 | .r v3=>
  some (71,v3)
 | .e0 iW=>
  (zZ p0 n n 0).bind fun c9=>match c9 with
  | .r lF iT=>
   some (lF,iT)
  | .e2 dC=>
   (z7 p0 n n 0).bind fun gv=>match gv with
   | .r tQ rK=>
    some (tQ,rK)
   | .e6 ow=>
    some (0,0)
theorem amm {n:Nat}{p0:aj}{r:Int×Int}(h:IW n p0=some r):X.bg 110 [.c (.agg (EncX.ae p0))] (.aX [aa r.1,aa r.2]):=by
 refine fC 128 xD ?_
 refine wc (1,1) h (fun _=>alp) ?_
 rintro⟨x,aC⟩ h
 refine wi (2,1) h (fun h1 h=>?_) fun h1 h=>?_
 ·cases h
  exact wC
 ·refine wc (4,1) h (fun _=>IJ) fun av h=>wg h fun aY h3 h=>?_
  have h3:=amj _ _ _ _ _ h3
  cases aY with
  | r v3=>
   refine wO [1,1,1,1,0,1,0] h3<|?_
   cases h
   exact wC
  | e0 iW=>
   refine wO [1,1,1,1,0,1,0] h3<|wg h fun c9 h4 h=>?_
   have h4:=ama _ _ _ _ _ h4
   cases c9 with
   | r lF iT=>
    refine wO [1,1,1,1,1,0,1,0] h4<|?_
    cases h
    exact wC
   | e2 dC=>
    refine wO [1,1,1,1,1,0,1,0] h4<|wg h fun gv h5 h=>?_
    have h5:=amg _ _ _ _ _ h5
    cases gv with
    | r tQ rK=>
     refine wO [1,1,1,1,1,1,0,1,0] h5<|?_
     cases h
     exact wC
    | e6 ow=>
     refine wO [1,1,1,1,1,1,0,1,0] h5<|?_
     cases h
     exact wC
inductive Js where
 | r
 | e0 (v5:Int)
def anv:Js->Ex
 | .r=>.ret
 | .e0 _=>(.exit 0)
def anu (p0:Sl a7)(p1:a7):Js->(Nat->DV)->List Ob->S
 | .r,F,G=>⟨fs F [4] [(4,dB true)],⟨sl G 1 [(0,⟨1,(EncX.ae p1).map DV.c⟩)],[]⟩⟩
 | .e0 v5,F,G=>⟨fs F [0,3,5,9] [(0,.c (aq p0)),(3,.pt 0 1 0),(5,aa v5),(9,dB false)],⟨sl G 1 [(0,⟨1,(EncX.ae p1).map DV.c⟩)],[]⟩⟩
def Aj (p0:Sl a7)(p1:a7)(n:Nat):Nat->Int->Option Js
 | 0,_=>none
 | k+1,v5=>
  if v5<(p0.l.length:Int)then
   (aD p0.l v5).bind fun bq=>
   if bq=p1 then
    some (.r)
   else if aF (v5+1)then Aj p0 p1 n k (v5+1)
   else none
  else some (.e0 v5)
theorem ant (p0:Sl a7)(p1:a7)(n:Nat):∀(k:Nat) (v5:Int) (o:Js),Aj p0 p1 n k v5=some o->X.LF 136 18 2 (sub Qx [1,0,1,0,0]) 1 [(0,.c (aq p0)),(3,.pt 0 1 0),(5,aa v5)] [(0,⟨1,(EncX.ae p1).map DV.c⟩)] (anv o) (anu p0 p1 o):=by
 intro k;induction k with
 | zero=>intro _ _ h;exact nomatch h
 | succ k ih=>
  intro v5 o h F G s hs
  refine Sys.bj hs (w0 ?_)
  refine wi (2,3) h (fun h0 h=>?_) fun h0 h=>?_
  ·refine wg h fun bq h1 h=>wx (4,2) h1<|wa (4,3) h1<|wI h (fun h2 h=>?_) fun h2 h=>?_
   ·refine wt (4,5) (.op { d:=dB true}) (yX (Qd bq p1) h2)<|?_
    cases h
    exact wX
   ·exact wt (4,5) (.op { d:=dB false}) (yW (Qd bq p1) h2)<|wn (3,1) h fun h3 h=>wN 2 [] (ih (v5+1) _ h F G)
  ·cases h
   exact wX
def uf (n:Nat)(p0:Sl a7)(p1:a7):Option Bool:=
 (Aj p0 p1 n n 0).bind fun az=>match az with
 | .r=>
  some true
 | .e0 cN=>
  some false
theorem D3 {n:Nat}{p0:Sl a7}{p1:a7}{r:Bool}(h:uf n p0 p1=some r):X.bg 136 [.c (aq p0),.c (.agg (EncX.ae p1))] (dB r):=by
 refine fC 18 Qx ?_
 refine wg h fun az h0 h=>?_
 have h0:=ant _ _ _ _ _ _ h0
 cases az with
 | r=>
  refine wO [1,0,1,0] h0<|?_
  cases h
  exact wC
 | e0 cN=>
  refine wO [1,0,1,0] h0<|?_
  cases h
  exact wC
abbrev w6:=Sl af->Option (List a7)
def Ja (f:w6):Prop:=∀(p0:Sl af) (r:List a7),f p0=some r->X.bg 138 [.c (aq p0)] (aP r)
inductive Jb where
 | m (o0:a7)
 | vA (lG:List a7) (o0:a7)
 | kN
def amK:Jb->Ex
 | .m _=>.normal
 | .vA _ _=>.normal
 | .kN=>.normal
def amJ (p0:Sl af)(v3:List a7)(v4:Int):Jb->(Nat->DV)->List Ob->S
 | .m o0,F,G=>⟨fs F [0,3,4,5,35] [(0,.c (aq p0)),(3,aP v3),(4,aa v4),(5,.pt 0 1 0),(35,dB false)],⟨sl G 1 [(0,⟨1,(EncX.ae o0).map DV.c⟩)],[]⟩⟩
 | .vA lG o0,F,G=>⟨fs F [0,3,4] [(0,.c (aq p0)),(3,aP lG),(4,aa v4)],⟨sl G 1 [(0,⟨1,(EncX.ae o0).map DV.c⟩)],[]⟩⟩
 | .kN,F,G=>⟨fs F [0,3,4,20] [(0,.c (aq p0)),(3,aP v3),(4,aa v4),(20,dB false)],⟨sl G 0 [],[]⟩⟩
def Px (p0:Sl af)(v3:List a7)(v4:Int)(n:Nat):Option Jb:=
 (aD p0.l v4).bind fun bF=>
 if bF.kind=8 then
  (uf n (Sl.gr v3) ({ mon:=bF.mon,name:=bF.name}:a7)).bind fun x=>
  bif x then
   some (.m ({ mon:=bF.mon,name:=bF.name}:a7))
  else if Room 32 (v3++([({ mon:=bF.mon,name:=bF.name}:a7)]:List a7)).length then some (.vA (v3++([({ mon:=bF.mon,name:=bF.name}:a7)]:List a7)) ({ mon:=bF.mon,name:=bF.name}:a7))
  else none
 else some (.kN)
theorem amI (p0:Sl af)(v3:List a7)(v4:Int)(n:Nat)(o:Jb)(h:Px p0 v3 v4 n=some o):X.JF 138 80 (sub uA [1,1,0,1,0,0,1,0,0,0]) [0,3,4,12] 0 [(0,.c (aq p0)),(3,aP v3),(4,aa v4)] [] (amK o) (amJ p0 v3 v4 o):=by
 intro F G;refine Sys.dZ (w0 ?_)
 refine wg h fun bF h0 h=>wx (5,2) h0<|wl (5,4) 0 h0 rfl<|wi (5,5) h (fun h1 h=>?_) fun h1 h=>?_
 ·refine wx (6,2) h0<|wl (6,4) 1 h0 rfl<|wx (6,7) h0<|wl (6,9) 2 h0 rfl<|wc (7,2) h (fun _=>D3) fun x h=>?_
  cases x
  ·refine wq h fun h4 h=>dG (8,3) h4<|?_
   cases h
   exact wJ
  ·cases h
   exact wJ
 ·cases h
  exact wJ
inductive Je where
 | e4 (lG:List a7) (v8:Int)
def amS:Je->Ex
 | .e4 _ _=>(.exit 4)
def amR (aC:List a7):Je->(Nat->DV)->List Ob->S
 | .e4 lG v8,F,G=>⟨fs F [0,3,4,6,7,8,62] [(3,aP lG),(7,aP aC),(8,aa v8),(62,dB false)],⟨sl G 1 [],[]⟩⟩
def w8 (aC:List a7)(n:Nat):Nat->List a7->Int->Option Je
 | 0,_,_=>none
 | k+1,oz,v8=>
  if v8<(aC.length:Int)then
   (aD aC v8).bind fun tS=>
   (uf n (Sl.gr oz) tS).bind fun av=>
   bif av then
    if aF (v8+1)then w8 aC n k oz (v8+1)
    else none
   else if Room 32 (oz++([tS]:List a7)).length then if aF (v8+1)then w8 aC n k (oz++([tS]:List a7)) (v8+1)
   else none
   else none
  else some (.e4 oz v8)
theorem amQ (aC:List a7)(n:Nat):∀(k:Nat) (oz:List a7) (v8:Int) (o:Je),w8 aC n k oz v8=some o->X.LF 138 80 14 (sub uA [1,1,0,1,0,0,1,0,0,1,1,0,0,1,0,0,1,1,0,0]) 1 [(3,aP oz),(7,aP aC),(8,aa v8)] [] (amS o) (amR aC o):=by
 intro k;induction k with
 | zero=>intro _ _ _ h;exact nomatch h
 | succ k ih=>
  intro oz v8 o h F G s hs
  refine Sys.bj hs (w0 ?_)
  refine wi (14,3) h (fun h0 h=>?_) fun h0 h=>?_
  ·refine wg h fun tS h1 h=>wx (16,3) h1<|wa (16,4) h1<|wc (16,5) h (fun _=>D3) fun av h=>?_
   cases av
   ·exact wx (17,3) h1<|wa (17,4) h1<|wq h fun h4 h=>dG (17,6) h4<|wn (15,1) h fun h5 h=>wN 14 [] (ih (oz++([tS]:List a7)) (v8+1) _ h F G)
   ·exact wn (15,1) h fun h4 h=>wN 14 [] (ih oz (v8+1) _ h F G)
  ·cases h
   exact wX
inductive Jc where
 | e2 (lG:List a7) (v6:Int)
def amM:Jc->Ex
 | .e2 _ _=>(.exit 2)
def amL (p0:Sl af)(v4:Int):Jc->(Nat->DV)->List Ob->S
 | .e2 lG v6,F,G=>⟨fs F [0,3,4,6,47] [(0,.c (aq p0)),(3,aP lG),(4,aa v4),(6,aa v6),(47,dB false)],⟨sl G 1 [],[]⟩⟩
def w7 (iw:w6)(p0:Sl af)(v4:Int)(n:Nat):Nat->List a7->Int->Option Jc
 | 0,_,_=>none
 | k+1,zm,v6=>
  (aD p0.l v4).bind fun O4=>
  if v6<(O4.blocks.l.length:Int)then
   (aD O4.blocks.l v6).bind fun dF=>
   (iw dF).bind fun aC=>
   (w8 aC n n zm 0).bind fun aY=>match aY with
   | .e4 iT dC=>
    if aF (v6+1)then w7 iw p0 v4 n k iT (v6+1)
    else none
  else some (.e2 zm v6)
theorem Xm (iw:w6)(p0:Sl af)(v4:Int)(qg:Ja iw)(n:Nat):∀(k:Nat) (zm:List a7) (v6:Int) (o:Jc),w7 iw p0 v4 n k zm v6=some o->X.LF 138 80 10 (sub uA [1,1,0,1,0,0,1,0,0,1,1,0,0]) 1 [(0,.c (aq p0)),(3,aP zm),(4,aa v4),(6,aa v6)] [] (amM o) (amL p0 v4 o):=by
 intro k;induction k with
 | zero=>intro _ _ _ h;exact nomatch h
 | succ k ih=>
  intro zm v6 o h F G s hs
  refine Sys.bj hs (w0 ?_)
  refine wg h fun O4 h0 h=>wx (10,3) h0<|wl (10,5) 10 h0 rfl<|wi (10,7) h (fun h1 h=>?_) fun h1 h=>?_
  ·refine wx (12,2) h0<|wl (12,4) 10 h0 rfl<|wg h fun dF h2 h=>wx (12,6) h2<|wl (12,7) 0 h2 rfl<|wc (12,8) h (fun _=>qg _ _) fun aC h=>wg h fun aY h4 h=>?_
   have h4:=amQ _ _ _ _ _ _ h4
   cases aY with
   | e4 iT dC=>
    exact wO [1,0,0,1,1,0] h4<|wn (11,1) h fun h5 h=>wN 10 [] (ih iT (v6+1) _ h F G)
  ·cases h
   exact wX
inductive Jf where
 | e4 (lG:List a7) (v8:Int)
def amV:Jf->Ex
 | .e4 _ _=>(.exit 4)
def amU (ba:List a7):Jf->(Nat->DV)->List Ob->S
 | .e4 lG v8,F,G=>⟨fs F [0,3,4,6,7,8,62] [(3,aP lG),(7,aP ba),(8,aa v8),(62,dB false)],⟨sl G 0 [],[]⟩⟩
def w9 (ba:List a7)(n:Nat):Nat->List a7->Int->Option Jf
 | 0,_,_=>none
 | k+1,oA,mG=>
  if mG<(ba.length:Int)then
   (aD ba mG).bind fun DH=>
   (uf n (Sl.gr oA) DH).bind fun ca=>
   bif ca then
    if aF (mG+1)then w9 ba n k oA (mG+1)
    else none
   else if Room 32 (oA++([DH]:List a7)).length then if aF (mG+1)then w9 ba n k (oA++([DH]:List a7)) (mG+1)
   else none
   else none
  else some (.e4 oA mG)
theorem amT (ba:List a7)(n:Nat):∀(k:Nat) (oA:List a7) (mG:Int) (o:Jf),w9 ba n k oA mG=some o->X.LF 138 80 14 (sub uA [1,1,0,1,0,0,1,0,0,1,1,0,0,1,0,0,1,1,0,0]) 0 [(3,aP oA),(7,aP ba),(8,aa mG)] [] (amV o) (amU ba o):=by
 intro k;induction k with
 | zero=>intro _ _ _ h;exact nomatch h
 | succ k ih=>
  intro oA mG o h F G s hs
  refine Sys.bj hs (w0 ?_)
  refine wi (14,3) h (fun h0 h=>?_) fun h0 h=>?_
  ·refine wg h fun DH h1 h=>wx (16,3) h1<|wa (16,4) h1<|wc (16,5) h (fun _=>D3) fun ca h=>?_
   cases ca
   ·exact wx (17,3) h1<|wa (17,4) h1<|wq h fun h4 h=>dG (17,6) h4<|wn (15,1) h fun h5 h=>wN 14 [] (ih (oA++([DH]:List a7)) (mG+1) _ h F G)
   ·exact wn (15,1) h fun h4 h=>wN 14 [] (ih oA (mG+1) _ h F G)
  ·cases h
   exact wX
inductive Jd where
 | e2 (lG:List a7) (v6:Int)
def amP:Jd->Ex
 | .e2 _ _=>(.exit 2)
def amO (p0:Sl af)(v4:Int):Jd->(Nat->DV)->List Ob->S
 | .e2 lG v6,F,G=>⟨fs F [0,3,4,6,47] [(0,.c (aq p0)),(3,aP lG),(4,aa v4),(6,aa v6),(47,dB false)],⟨sl G 0 [],[]⟩⟩
def Ab (iw:w6)(p0:Sl af)(v4:Int)(n:Nat):Nat->List a7->Int->Option Jd
 | 0,_,_=>none
 | k+1,zn,pT=>
  (aD p0.l v4).bind fun O5=>
  if pT<(O5.blocks.l.length:Int)then
   (aD O5.blocks.l pT).bind fun WQ=>
   (iw WQ).bind fun ba=>
   (w9 ba n n zn 0).bind fun iv=>match iv with
   | .e4 O2 ai7=>
    if aF (pT+1)then Ab iw p0 v4 n k O2 (pT+1)
    else none
  else some (.e2 zn pT)
theorem amN (iw:w6)(p0:Sl af)(v4:Int)(qg:Ja iw)(n:Nat):∀(k:Nat) (zn:List a7) (pT:Int) (o:Jd),Ab iw p0 v4 n k zn pT=some o->X.LF 138 80 10 (sub uA [1,1,0,1,0,0,1,0,0,1,1,0,0]) 0 [(0,.c (aq p0)),(3,aP zn),(4,aa v4),(6,aa pT)] [] (amP o) (amO p0 v4 o):=by
 intro k;induction k with
 | zero=>intro _ _ _ h;exact nomatch h
 | succ k ih=>
  intro zn pT o h F G s hs
  refine Sys.bj hs (w0 ?_)
  refine wg h fun O5 h0 h=>wx (10,3) h0<|wl (10,5) 10 h0 rfl<|wi (10,7) h (fun h1 h=>?_) fun h1 h=>?_
  ·refine wx (12,2) h0<|wl (12,4) 10 h0 rfl<|wg h fun WQ h2 h=>wx (12,6) h2<|wl (12,7) 0 h2 rfl<|wc (12,8) h (fun _=>qg _ _) fun ba h=>wg h fun iv h4 h=>?_
   have h4:=amT _ _ _ _ _ _ h4
   cases iv with
   | e4 O2 ai7=>
    exact wO [1,0,0,1,1,0] h4<|wn (11,1) h fun h5 h=>wN 10 [] (ih O2 (pT+1) _ h F G)
  ·cases h
   exact wX
inductive Jg where
 | e0 (v3:List a7) (v4:Int)
def amY:Jg->Ex
 | .e0 _ _=>(.exit 0)
def amX (p0:Sl af):Jg->S
 | .e0 v3 v4=>⟨fl [(0,.c (aq p0)),(3,aP v3),(4,aa v4),(12,dB false)],⟨[],[]⟩⟩
def rR (iw:w6)(p0:Sl af)(n:Nat):Nat->List a7->Int->Option Jg
 | 0,_,_=>none
 | k+1,v3,v4=>
  if v4<(p0.l.length:Int)then
   (Px p0 v3 v4 n).bind fun az=>match az with
   | .m o0=>
    (w7 iw p0 v4 n n v3 0).bind fun bD=>match bD with
    | .e2 rK bX=>
     if aF (v4+1)then rR iw p0 n k rK (v4+1)
     else none
   | .vA c7 ao=>
    (w7 iw p0 v4 n n c7 0).bind fun gv=>match gv with
    | .e2 O1 ai5=>
     if aF (v4+1)then rR iw p0 n k O1 (v4+1)
     else none
   | .kN=>
    (Ab iw p0 v4 n n v3 0).bind fun vK=>match vK with
    | .e2 O3 ai6=>
     if aF (v4+1)then rR iw p0 n k O3 (v4+1)
     else none
  else some (.e0 v3 v4)
theorem amW (iw:w6)(p0:Sl af)(qg:Ja iw)(n:Nat):∀(k:Nat) (v3:List a7) (v4:Int) (o:Jg),rR iw p0 n k v3 v4=some o->X.LH 138 80 3 (sub uA [1,1,0,1,0,0]) 0 ⟨fl [(0,.c (aq p0)),(3,aP v3),(4,aa v4)],⟨[],[]⟩⟩ (amY o) (amX p0 o):=by
 intro k;induction k with
 | zero=>intro _ _ _ h;exact nomatch h
 | succ k ih=>
  intro v3 v4 o h s hs
  refine Sys.bj hs (w0 ?_)
  refine wi (3,3) h (fun h0 h=>?_) fun h0 h=>?_
  ·refine wg h fun az h1 h=>?_
   have h1:=amI _ _ _ _ _ h1
   cases az with
   | m o0=>
    refine wV 205003 [1,0,0,0] h1<|wg h fun bD h2 h=>?_
    have h2:=Xm _ _ _ qg _ _ _ _ _ h2
    cases bD with
    | e2 rK bX=>
     exact wO [1,0,0,1,1,0] h2<|wn (4,1) h fun h3 h=>wN 3 [] (ih rK (v4+1) _ h)
   | vA c7 ao=>
    refine wV 205003 [1,0,0,0] h1<|wg h fun gv h2 h=>?_
    have h2:=Xm _ _ _ qg _ _ _ _ _ h2
    cases gv with
    | e2 O1 ai5=>
     exact wO [1,0,0,1,1,0] h2<|wn (4,1) h fun h3 h=>wN 3 [] (ih O1 (v4+1) _ h)
   | kN=>
    refine wV 205003 [1,0,0,0] h1<|wg h fun vK h2 h=>?_
    have h2:=amN _ _ _ qg _ _ _ _ _ h2
    cases vK with
    | e2 O3 ai6=>
     exact wO [1,0,0,1,1,0] h2<|wn (4,1) h fun h3 h=>wN 3 [] (ih O3 (v4+1) _ h)
  ·cases h
   exact wX
def gV:Nat->Sl af->Option (List a7)
 | 0,_=>none
 | n+1,p0=>
  (rR (gV n) p0 n n ([]:List a7) 0).bind fun vL=>match vL with
  | .e0 WK dU=>
   some WK
theorem amZ:∀n:Nat,Ja (gV n):=by
 intro n
 induction n with
 | zero=>
  refine ?_
  ·intro p0 r h;unfold gV at h;cases h
 | succ n ih=>
  have qg:=ih
  refine ?_
  ·intro p0 r h
   unfold gV at h
   refine fC 80 uA ?_
   refine wg h fun vL h0 h=>?_
   have h0:=amW _ _ qg _ _ _ _ _ h0
   cases vL with
   | e0 WK dU=>
    refine wo [1,1,0,1,0] h0<|?_
    cases h
    exact wC
theorem Py {n:Nat}{p0:Sl af}{r:List a7}(h:gV n p0=some r):X.bg 138 [.c (aq p0)] (aP r):=amZ n p0 r h
inductive Ju where
 | e2 (oB:List a7) (v10:Int)
def anC:Ju->Ex
 | .e2 _ _=>(.exit 2)
def anB (av:List a7):Ju->(Nat->DV)->List Ob->S
 | .e2 oB v10,F,G=>⟨fs F [2,5,6,9,10,41] [(5,nC oB),(9,aP av),(10,aa v10),(41,dB false)],⟨sl G 2 [],[]⟩⟩
def xb (av:List a7)(n:Nat):Nat->List a7->Int->Option Ju
 | 0,_,_=>none
 | k+1,iV,v10=>
  if v10<(av.length:Int)then
   (aD av v10).bind fun gz=>
   (uf n (⟨false,false,iV⟩:Sl a7) gz).bind fun aK=>
   bif aK then
    if aF (v10+1)then xb av n k iV (v10+1)
    else none
   else if Room 32 (iV++([gz]:List a7)).length then if aF (v10+1)then xb av n k (iV++([gz]:List a7)) (v10+1)
   else none
   else none
  else some (.e2 iV v10)
theorem anA (av:List a7)(n:Nat):∀(k:Nat) (iV:List a7) (v10:Int) (o:Ju),xb av n k iV v10=some o->X.LF 137 59 8 (sub KY [1,1,0,1,0,0,1,0,0,1,1,1,0,0]) 2 [(5,nC iV),(9,aP av),(10,aa v10)] [] (anC o) (anB av o):=by
 intro k;induction k with
 | zero=>intro _ _ _ h;exact nomatch h
 | succ k ih=>
  intro iV v10 o h F G s hs
  refine Sys.bj hs (w0 ?_)
  refine wi (8,3) h (fun h0 h=>?_) fun h0 h=>?_
  ·refine wg h fun gz h1 h=>wx (10,3) h1<|wa (10,4) h1<|wc (10,5) h (fun _=>D3) fun aK h=>?_
   cases aK
   ·exact wx (11,3) h1<|wa (11,4) h1<|wq h fun h4 h=>XC (11,6) h4<|wn (9,1) h fun h5 h=>wN 8 [] (ih (iV++([gz]:List a7)) (v10+1) _ h F G)
   ·exact wn (9,1) h fun h4 h=>wN 8 [] (ih iV (v10+1) _ h F G)
  ·cases h
   exact wX
inductive Jt where
 | e0 (v5:List a7) (v6:Int)
def anz:Jt->Ex
 | .e0 _ _=>(.exit 0)
def anx (p0:aj):Jt->S
 | .e0 v5 v6=>⟨fl [(2,.pt 0 1 0),(5,nC v5),(6,aa v6),(17,dB false)],⟨[⟨1,(EncX.ae p0).map DV.c⟩],[]⟩⟩
def D5 (p0:aj)(n:Nat):Nat->List a7->Int->Option Jt
 | 0,_,_=>none
 | k+1,v5,v6=>
  if v6<(v5.length:Int)then
   (aD v5 v6).bind fun v24=>
   (rQ n p0 v24.mon v24.name).bind fun(x,aC)=>
   (gV n x.body).bind fun av=>
   (xb av n n v5 0).bind fun az=>match az with
   | .e2 cN cB=>
    if aF (v6+1)then D5 p0 n k cN (v6+1)
    else none
  else some (.e0 v5 v6)
theorem anw (p0:aj)(n:Nat):∀(k:Nat) (v5:List a7) (v6:Int) (o:Jt),D5 p0 n k v5 v6=some o->X.LH 137 59 3 (sub KY [1,1,0,1,0,0]) 1 ⟨fl [(2,.pt 0 1 0),(5,nC v5),(6,aa v6)],⟨[⟨1,(EncX.ae p0).map DV.c⟩],[]⟩⟩ (anz o) (anx p0 o):=by
 intro k;induction k with
 | zero=>intro _ _ _ h;exact nomatch h
 | succ k ih=>
  intro v5 v6 o h s hs
  refine Sys.bj hs (w0 ?_)
  refine wi (3,3) h (fun h0 h=>?_) fun h0 h=>?_
  ·refine wg h fun v24 h1 h=>wx (5,3) h1<|wl (5,5) 0 h1 rfl<|wx (5,8) h1<|wl (5,10) 1 h1 rfl<|wc (5,11) h (fun _=>zR) ?_
   rintro⟨x,aC⟩ h
   refine wc (6,2) h (fun _=>Py) fun av h=>wg h fun az h4 h=>?_
   have h4:=anA _ _ _ _ _ _ h4
   cases az with
   | e2 cN cB=>
    exact wO [1,0,0,1,1,1,0] h4<|wn (4,1) h fun h5 h=>wN 3 [] (ih cN (v6+1) _ h)
  ·cases h
   exact wX
def D4 (n:Nat)(p0:aj)(p1:Sl a7):Option (List a7):=
 if Room 32 (([]:List a7)++p1.l).length then(D5 p0 n n (([]:List a7)++p1.l) 0).bind fun aY=>match aY with
 | .e0 db bX=>
  some db
 else none
theorem Xp {n:Nat}{p0:aj}{p1:Sl a7}{r:List a7}(h:D4 n p0 p1=some r):X.bg 137 [.c (.agg (EncX.ae p0)),.c (aq p1)] (nC r):=by
 refine fC 59 KY ?_
 refine wq h fun h0 h=>XD (1,2) h0<|wg h fun aY h1 h=>?_
 have h1:=anw _ _ _ _ _ _ h1
 cases aY with
 | e0 db bX=>
  refine wo [1,1,0,1,0] h1<|?_
  cases h
  exact wC
def D2 (n:Nat)(p0:aj)(p1:a7):Option Bool:=
 (rQ n p0 p1.mon p1.name).bind fun(x,aC)=>
 (gV n x.body).bind fun av=>
 (D4 n p0 (Sl.gr av)).bind fun aK=>
 (uf n (⟨false,false,aK⟩:Sl a7) p1).bind fun aG=>
 some aG
theorem Xo {n:Nat}{p0:aj}{p1:a7}{r:Bool}(h:D2 n p0 p1=some r):X.bg 111 [.c (.agg (EncX.ae p0)),.c (.agg (EncX.ae p1))] (dB r):=by
 refine fC 23 YN ?_
 refine wc (1,5) h (fun _=>zR) ?_
 rintro⟨x,aC⟩ h
 refine wc (2,3) h (fun _=>Py) fun av h=>wc (2,4) h (fun _=>Xp) fun aK h=>wc (2,6) h (fun _=>D3) fun aG h=>?_
 cases h
 exact wC
abbrev xa:=aj->Sl af->Option Int
def Jo (f:xa):Prop:=∀(p0:aj) (p1:Sl af) (r:Int),f p0 p1=some r->X.bg 141 [.c (.agg (EncX.ae p0)),.c (aq p1)] (aa r)
inductive Jp where
 | e2 (oB v9:Int)
def ank:Jp->Ex
 | .e2 _ _=>(.exit 2)
def anj (p0:aj)(p1:Sl af)(v6:Int):Jp->(Nat->DV)->List Ob->S
 | .e2 oB v9,F,G=>⟨fs F [1,2,5,6,9,60] [(1,.c (aq p1)),(2,.pt 0 1 0),(5,aa oB),(6,aa v6),(9,aa v9),(60,dB false)],⟨sl G 2 [(0,⟨1,(EncX.ae p0).map DV.c⟩)],[]⟩⟩
def Ah (iR:xa)(p0:aj)(p1:Sl af)(v6:Int)(n:Nat):Nat->Int->Int->Option Jp
 | 0,_,_=>none
 | k+1,pR,v9=>
  (aD p1.l v6).bind fun bR=>
  if v9<(bR.blocks.l.length:Int)then
   if pR≤400 then
    (aD bR.blocks.l v9).bind fun zr=>
    (iR p0 zr).bind fun aK=>
    if aF (pR+aK)then if aF (v9+1)then Ah iR p0 p1 v6 n k (pR+aK) (v9+1)
    else none
    else none
   else some (.e2 pR v9)
  else some (.e2 pR v9)
theorem ani (iR:xa)(p0:aj)(p1:Sl af)(v6:Int)(qh:Jo iR)(n:Nat):∀(k:Nat) (pR:Int) (v9:Int) (o:Jp),Ah iR p0 p1 v6 n k pR v9=some o->X.LF 141 76 10 (sub EF [1,1,0,1,0,0,1,0,0,1,1,1,0,0]) 2 [(1,.c (aq p1)),(2,.pt 0 1 0),(5,aa pR),(6,aa v6),(9,aa v9)] [(0,⟨1,(EncX.ae p0).map DV.c⟩)] (ank o) (anj p0 p1 v6 o):=by
 intro k;induction k with
 | zero=>intro _ _ _ h;exact nomatch h
 | succ k ih=>
  intro pR v9 o h F G s hs
  refine Sys.bj hs (w0 ?_)
  refine wg h fun bR h0 h=>wx (10,3) h0<|wl (10,5) 10 h0 rfl<|wi (10,7) h (fun h1 h=>?_) fun h1 h=>?_
  ·refine wi (10,10) h (fun h2 h=>?_) fun h2 h=>?_
   ·exact wx (12,4) h0<|wl (12,6) 10 h0 rfl<|wg h fun zr h3 h=>wx (12,8) h3<|wl (12,9) 0 h3 rfl<|wc (12,10) h (fun _=>qh _ _ _) fun aK h=>wn (12,11) h fun h5 h=>wn (11,1) h fun h6 h=>wN 10 [] (ih (pR+aK) (v9+1) _ h F G)
   ·cases h
    exact wX
  ·cases h
   exact wX
inductive Jq where
 | e2 (oB v9:Int)
def ann:Jq->Ex
 | .e2 _ _=>(.exit 2)
def anm (p0:aj)(p1:Sl af)(v6:Int):Jq->(Nat->DV)->List Ob->S
 | .e2 oB v9,F,G=>⟨fs F [1,2,5,6,9,60] [(1,.c (aq p1)),(2,.pt 0 1 0),(5,aa oB),(6,aa v6),(9,aa v9),(60,dB false)],⟨sl G 1 [(0,⟨1,(EncX.ae p0).map DV.c⟩)],[]⟩⟩
def Ai (iR:xa)(p0:aj)(p1:Sl af)(v6:Int)(n:Nat):Nat->Int->Int->Option Jq
 | 0,_,_=>none
 | k+1,pS,oC=>
  (aD p1.l v6).bind fun O6=>
  if oC<(O6.blocks.l.length:Int)then
   if pS≤400 then
    (aD O6.blocks.l oC).bind fun WW=>
    (iR p0 WW).bind fun aG=>
    if aF (pS+aG)then if aF (oC+1)then Ai iR p0 p1 v6 n k (pS+aG) (oC+1)
    else none
    else none
   else some (.e2 pS oC)
  else some (.e2 pS oC)
theorem anl (iR:xa)(p0:aj)(p1:Sl af)(v6:Int)(qh:Jo iR)(n:Nat):∀(k:Nat) (pS:Int) (oC:Int) (o:Jq),Ai iR p0 p1 v6 n k pS oC=some o->X.LF 141 76 10 (sub EF [1,1,0,1,0,0,1,0,0,1,1,1,0,0]) 1 [(1,.c (aq p1)),(2,.pt 0 1 0),(5,aa pS),(6,aa v6),(9,aa oC)] [(0,⟨1,(EncX.ae p0).map DV.c⟩)] (ann o) (anm p0 p1 v6 o):=by
 intro k;induction k with
 | zero=>intro _ _ _ h;exact nomatch h
 | succ k ih=>
  intro pS oC o h F G s hs
  refine Sys.bj hs (w0 ?_)
  refine wg h fun O6 h0 h=>wx (10,3) h0<|wl (10,5) 10 h0 rfl<|wi (10,7) h (fun h1 h=>?_) fun h1 h=>?_
  ·refine wi (10,10) h (fun h2 h=>?_) fun h2 h=>?_
   ·exact wx (12,4) h0<|wl (12,6) 10 h0 rfl<|wg h fun WW h3 h=>wx (12,8) h3<|wl (12,9) 0 h3 rfl<|wc (12,10) h (fun _=>qh _ _ _) fun aG h=>wn (12,11) h fun h5 h=>wn (11,1) h fun h6 h=>wN 10 [] (ih (pS+aG) (oC+1) _ h F G)
   ·cases h
    exact wX
  ·cases h
   exact wX
inductive Jr where
 | e0 (v5 v6:Int)
def anq:Jr->Ex
 | .e0 _ _=>(.exit 0)
def anp (p0:aj)(p1:Sl af):Jr->S
 | .e0 v5 v6=>⟨fl [(1,.c (aq p1)),(2,.pt 0 1 0),(5,aa v5),(6,aa v6),(17,dB false)],⟨[⟨1,(EncX.ae p0).map DV.c⟩],[]⟩⟩
def ue (iR:xa)(p0:aj)(p1:Sl af)(n:Nat):Nat->Int->Int->Option Jr
 | 0,_,_=>none
 | k+1,v5,v6=>
  if v6<(p1.l.length:Int)then
   if v5≤400 then
    if aF (v5+1)then(aD p1.l v6).bind fun v24=>
    if v24.kind=8 then
     (rQ n p0 v24.mon v24.name).bind fun(x,aC)=>
     (iR p0 x.body).bind fun av=>
     if aF ((v5+1)+av)then(Ah iR p0 p1 v6 n n ((v5+1)+av) 0).bind fun az=>match az with
     | .e2 cN gB=>
      if aF (v6+1)then ue iR p0 p1 n k cN (v6+1)
      else none
     else none
    else(Ai iR p0 p1 v6 n n (v5+1) 0).bind fun aY=>match aY with
    | .e2 db Pc=>
     if aF (v6+1)then ue iR p0 p1 n k db (v6+1)
     else none
    else none
   else some (.e0 v5 v6)
  else some (.e0 v5 v6)
theorem ano (iR:xa)(p0:aj)(p1:Sl af)(qh:Jo iR)(n:Nat):∀(k:Nat) (v5:Int) (v6:Int) (o:Jr),ue iR p0 p1 n k v5 v6=some o->X.LH 141 76 3 (sub EF [1,1,0,1,0,0]) 1 ⟨fl [(1,.c (aq p1)),(2,.pt 0 1 0),(5,aa v5),(6,aa v6)],⟨[⟨1,(EncX.ae p0).map DV.c⟩],[]⟩⟩ (anq o) (anp p0 p1 o):=by
 intro k;induction k with
 | zero=>intro _ _ _ h;exact nomatch h
 | succ k ih=>
  intro v5 v6 o h s hs
  refine Sys.bj hs (w0 ?_)
  refine wi (3,3) h (fun h0 h=>?_) fun h0 h=>?_
  ·refine wi (3,6) h (fun h1 h=>?_) fun h1 h=>?_
   ·refine wn (5,1) h fun h2 h=>wg h fun v24 h3 h=>wx (6,2) h3<|wl (6,4) 0 h3 rfl<|wi (6,5) h (fun h4 h=>?_) fun h4 h=>?_
    ·refine wx (7,3) h3<|wl (7,5) 1 h3 rfl<|wx (7,8) h3<|wl (7,10) 2 h3 rfl<|wc (7,11) h (fun _=>zR) ?_
     rintro⟨x,aC⟩ h
     refine wc (8,4) h (fun _=>qh _ _ _) fun av h=>wn (8,5) h fun h7 h=>wg h fun az h8 h=>?_
     have h8:=ani _ _ _ _ qh _ _ _ _ _ h8
     cases az with
     | e2 cN gB=>
      exact wO [1,0,0,1,1,1,0] h8<|wn (4,1) h fun h9 h=>wN 3 [] (ih cN (v6+1) _ h)
    ·refine wg h fun aY h5 h=>?_
     have h5:=anl _ _ _ _ qh _ _ _ _ _ h5
     cases aY with
     | e2 db Pc=>
      exact wO [1,0,0,1,1,1,0] h5<|wn (4,1) h fun h6 h=>wN 3 [] (ih db (v6+1) _ h)
   ·cases h
    exact wX
  ·cases h
   exact wX
def fy:Nat->aj->Sl af->Option Int
 | 0,_,_=>none
 | n+1,p0,p1=>
  (ue (fy n) p0 p1 n n 0 0).bind fun bD=>match bD with
  | .e0 mF bX=>
   some mF
theorem anr:∀n:Nat,Jo (fy n):=by
 intro n
 induction n with
 | zero=>
  refine ?_
  ·intro p0 p1 r h;unfold fy at h;cases h
 | succ n ih=>
  have qh:=ih
  refine ?_
  ·intro p0 p1 r h
   unfold fy at h
   refine fC 76 EF ?_
   refine wg h fun bD h0 h=>?_
   have h0:=ano _ _ _ qh _ _ _ _ _ h0
   cases bD with
   | e0 mF bX=>
    refine wo [1,1,0,1,0] h0<|?_
    cases h
    exact wC
theorem ans {n:Nat}{p0:aj}{p1:Sl af}{r:Int}(h:fy n p0 p1=some r):X.bg 141 [.c (.agg (EncX.ae p0)),.c (aq p1)] (aa r):=anr n p0 p1 r h
inductive Jm where
 | r (o1:dW)
 | e0 (v7:Int)
def ang:Jm->Ex
 | .r _=>.ret
 | .e0 _=>(.exit 0)
def anf (p0:aj)(p1:Sl af)(aK:List a7):Jm->S
 | .r o1=>⟨fl [(4,aa 0),(5,aa 61)],⟨[⟨1,(EncX.ae p0).map DV.c⟩,⟨1,(EncX.ae o1).map DV.c⟩],[]⟩⟩
 | .e0 v7=>⟨fl [(1,.c (aq p1)),(2,.pt 0 1 0),(6,nC aK),(7,aa v7),(27,dB false)],⟨[⟨1,(EncX.ae p0).map DV.c⟩],[]⟩⟩
def Ag (p0:aj)(p1:Sl af)(aK:List a7)(n:Nat):Nat->Int->Option Jm
 | 0,_=>none
 | k+1,v7=>
  if v7<(aK.length:Int)then
   (aD aK v7).bind fun jF=>
   (rQ n p0 jF.mon jF.name).bind fun(aG,ba)=>
   bif ba then
    if aF (v7+1)then Ag p0 p1 aK n k (v7+1)
    else none
   else some (.r aG)
  else some (.e0 v7)
theorem ane (p0:aj)(p1:Sl af)(aK:List a7)(n:Nat):∀(k:Nat) (v7:Int) (o:Jm),Ag p0 p1 aK n k v7=some o->X.LH 112 65 5 (sub KS [1,1,1,0,1,0,0]) 1 ⟨fl [(1,.c (aq p1)),(2,.pt 0 1 0),(6,nC aK),(7,aa v7)],⟨[⟨1,(EncX.ae p0).map DV.c⟩],[]⟩⟩ (ang o) (anf p0 p1 aK o):=by
 intro k;induction k with
 | zero=>intro _ _ h;exact nomatch h
 | succ k ih=>
  intro v7 o h s hs
  refine Sys.bj hs (w0 ?_)
  refine wi (5,3) h (fun h0 h=>?_) fun h0 h=>?_
  ·refine wg h fun jF h1 h=>wx (7,3) h1<|wl (7,5) 0 h1 rfl<|wx (7,8) h1<|wl (7,10) 1 h1 rfl<|wc (7,11) h (fun _=>zR) ?_
   rintro⟨aG,ba⟩ h
   cases ba
   ·cases h
    exact wX
   ·exact wn (6,1) h fun h4 h=>wN 5 [] (ih (v7+1) _ h)
  ·cases h
   exact wX
inductive Jl where
 | r
 | e2 (v10:Int)
def anc:Jl->Ex
 | .r=>.ret
 | .e2 _=>(.exit 2)
def anb (p0:aj)(aK:List a7):Jl->(Nat->DV)->List Ob->S
 | .r,F,G=>⟨fs F [4,5] [(4,aa 0),(5,aa 80)],⟨sl G 1 [(0,⟨1,(EncX.ae p0).map DV.c⟩)],[]⟩⟩
 | .e2 v10,F,G=>⟨fs F [1,2,6,10,50] [(2,.pt 0 1 0),(6,nC aK),(10,aa v10),(50,dB false)],⟨sl G 1 [(0,⟨1,(EncX.ae p0).map DV.c⟩)],[]⟩⟩
def Af (p0:aj)(aK:List a7)(n:Nat):Nat->Int->Option Jl
 | 0,_=>none
 | k+1,v10=>
  if v10<(aK.length:Int)then
   (aD aK v10).bind fun dF=>
   (D2 n p0 dF).bind fun ca=>
   bif ca then
    some (.r)
   else if aF (v10+1)then Af p0 aK n k (v10+1)
   else none
  else some (.e2 v10)
theorem ana (p0:aj)(aK:List a7)(n:Nat):∀(k:Nat) (v10:Int) (o:Jl),Af p0 aK n k v10=some o->X.LF 112 65 11 (sub KS [1,1,1,1,0,1,0,0]) 1 [(2,.pt 0 1 0),(6,nC aK),(10,aa v10)] [(0,⟨1,(EncX.ae p0).map DV.c⟩)] (anc o) (anb p0 aK o):=by
 intro k;induction k with
 | zero=>intro _ _ h;exact nomatch h
 | succ k ih=>
  intro v10 o h F G s hs
  refine Sys.bj hs (w0 ?_)
  refine wi (11,3) h (fun h0 h=>?_) fun h0 h=>?_
  ·refine wg h fun dF h1 h=>wx (13,3) h1<|wa (13,4) h1<|wc (13,5) h (fun _=>Xo) fun ca h=>?_
   cases ca
   ·exact wn (12,1) h fun h4 h=>wN 11 [] (ih (v10+1) _ h F G)
   ·cases h
    exact wX
  ·cases h
   exact wX
def D1 (n:Nat)(p0:aj)(p1:Sl af):Option (Int×Int):=
 (DS n p0).bind fun x=>
 bif x then
  (iX n p1).bind fun aC=>
  bif aC then
   (gV n p1).bind fun av=>
   (D4 n p0 (Sl.gr av)).bind fun aK=>
   (Ag p0 p1 aK n n 0).bind fun az=>match az with
   | .r o1=>
    some (0,61)
   | .e0 iW=>
    (Af p0 aK n n 0).bind fun aY=>match aY with
    | .r=>
     some (0,80)
    | .e2 cB=>
     (fy n p0 p1).bind fun cm=>
     if cm>400 then
      some (0,81)
     else some (cm,0)
  else some (0,20)
 else some (0,20)
theorem Xn {n:Nat}{p0:aj}{p1:Sl af}{r:Int×Int}(h:D1 n p0 p1=some r):X.bg 112 [.c (.agg (EncX.ae p0)),.c (aq p1)] (.aX [aa r.1,aa r.2]):=by
 refine fC 65 KS ?_
 refine wc (1,1) h (fun _=>Xc) fun x h=>?_
 cases x
 ·cases h
  exact wC
 ·refine wc (1,5) h (fun _=>H9) fun aC h=>?_
  cases aC
  ·cases h
   exact wC
  ·refine wc (3,2) h (fun _=>Py) fun av h=>wc (3,3) h (fun _=>Xp) fun aK h=>wg h fun az h6 h=>?_
   have h6:=ane _ _ _ _ _ _ _ h6
   cases az with
   | r o1=>
    refine wo [1,1,1,0,1,0] h6<|?_
    cases h
    exact wC
   | e0 iW=>
    refine wo [1,1,1,0,1,0] h6<|wg h fun aY h7 h=>?_
    have h7:=ana _ _ _ _ _ _ h7
    cases aY with
    | r=>
     refine wO [1,1,1,1,0,1,0] h7<|?_
     cases h
     exact wC
    | e2 cB=>
     refine wO [1,1,1,1,0,1,0] h7<|wc (15,2) h (fun _=>ans) fun cm h=>wi (16,1) h (fun h9 h=>?_) fun h9 h=>?_
     ·cases h
      exact wC
     ·cases h
      exact wC
end Go.Vig
