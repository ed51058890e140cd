/-
-/
import Derived.Test.YtpadajnejknkeaaGreatFi
set_option linter.unusedVariables false
set_option linter.unusedSimpArgs false
set_option maxRecDepth 100000
set_option maxHeartbeats 1000000
namespace Go.Vig
open Go Go.Abs Go.Proofs
variable [Kn]
def Ou (ai:Sl aH)(ak:Sl aO)(ao:Sl aN)(aL:List Int)(o1:List ah)(o2:List aE)(o3:List Int):List DV:=[.c (aq ai),.c (aq ak),.c (aq ao),.ms 1 1 0 o1.length 5 true,.ms 2 1 0 o2.length 2 true,.ms 3 1 0 o3.length 1 true,aP aL]
def ahu (ai:Sl aH)(ak:Sl aO)(ao:Sl aN)(o1:List ah)(o2:List aE)(o3 tn:List Int):List DV:=[.c (aq ai),.c (aq ak),.c (aq ao),.ms 1 1 0 o1.length 5 true,.ms 2 1 0 o2.length 2 true,.ms 3 1 0 o3.length 1 true,aP tn]
def ahv (ai:Sl aH)(ak:Sl aO)(ao:Sl aN)(o1:List ah)(o2:List aE)(o3 jj:List Int):List DV:=[.c (aq ai),.c (aq ak),.c (aq ao),.ms 1 1 0 o1.length 5 true,.ms 2 1 0 o2.length 2 true,.ms 3 1 0 o3.length 1 true,aP jj]
inductive Hd where
 | m (rO:Bool) (Ud:List Int)
def ahq:Hd->Ex
 | .m _ _=>.normal
def ahp (ai:Sl aH)(ak:Sl aO)(ao:Sl aN)(aL:List Int)(o1:List ah)(o2:List aE)(o3:List Int)(av:Bool)(bR:aS):Hd->(Nat->DV)->List Ob->S
 | .m rO Ud,F,G=>⟨fs F [0,1,2,7,9,66] [(0,.pt 0 1 0),(9,.pt 4 1 0),(66,dB rO)],⟨sl G 5 [(0,⟨1,(Ou ai ak ao aL o1 o2 o3)⟩),(1,⟨1,bl o1⟩),(2,⟨1,bl o2⟩),(3,⟨1,bl Ud⟩),(4,⟨1,(EncX.ae bR).map DV.c⟩)],[]⟩⟩
def Ot (ai:Sl aH)(ak:Sl aO)(ao:Sl aN)(aL:List Int)(o1:List ah)(o2:List aE)(o3:List Int)(av:Bool)(bR:aS)(n:Nat):Option Hd:=
 bif av then
  if bR.kind=3 then
   (Hf n bR ai ak ao aL o1 o2 o3).bind fun(aK,y3)=>
   bif aK then
    some (.m false y3)
   else some (.m true y3)
  else some (.m false o3)
 else some (.m true o3)
theorem aho (ai:Sl aH)(ak:Sl aO)(ao:Sl aN)(aL:List Int)(o1:List ah)(o2:List aE)(o3:List Int)(av:Bool)(bR:aS)(n:Nat)(o:Hd)(h:Ot ai ak ao aL o1 o2 o3 av bR n=some o):X.JF 32 224 (sub K2 [1,1,1,1,0,0]) [0,1,2,7,8,9] 5 [(0,.pt 0 1 0),(8,dB av),(9,.pt 4 1 0)] [(0,⟨1,(Ou ai ak ao aL o1 o2 o3)⟩),(1,⟨1,bl o1⟩),(2,⟨1,bl o2⟩),(3,⟨1,bl o3⟩),(4,⟨1,(EncX.ae bR).map DV.c⟩)] (ahq o) (ahp ai ak ao aL o1 o2 o3 av bR o):=by
 intro F G;refine Sys.dZ (w0 ?_)
 cases av
 ·cases h
  exact wJ
 ·refine wi (5,5) h (fun h1 h=>?_) fun h1 h=>?_
  ·refine wy (5,9) h (fun _=>ahx) ?_
   rintro⟨aK,y3⟩ h
   cases aK
   ·cases h
    exact wJ
   ·cases h
    exact wJ
  ·cases h
   exact wJ
inductive He where
 | e1 (v210:Int) (jj:List Int) (vI:List ah)
def aht:He->Ex
 | .e1 _ _ _=>(.exit 1)
def ahs (ai:Sl aH)(ak:Sl aO)(ao:Sl aN)(o1:List ah)(o2:List aE)(o3 cI cm:List Int):He->(Nat->DV)->List Ob->S
 | .e1 v210 jj vI,F,G=>⟨fs F [0,1,7,9,208,209,210,211] [(0,.pt 0 1 0),(208,aP cm),(209,aa (cm.length:Int)),(210,aa v210),(211,dB false)],⟨sl G 5 [(0,⟨1,(ahv ai ak ao o1 o2 o3 jj)⟩),(1,⟨1,bl vI⟩),(2,⟨1,bl o2⟩),(3,⟨1,bl cI⟩)],[]⟩⟩
def vY (ai:Sl aH)(ak:Sl aO)(ao:Sl aN)(o1:List ah)(o2:List aE)(o3 cI cm:List Int)(n:Nat):Nat->Int->List Int->List ah->Option He
 | 0,_,_,_=>none
 | k+1,v210,tn,yL=>
  if v210<(cm.length:Int)then
   (aD cm v210).bind fun v212=>
   (Hi n v212 ai ak ao tn yL o2 cI o1.length o3.length).bind fun(ek,P5)=>
   if aF (v210+1)then vY ai ak ao o1 o2 o3 cI cm n k (v210+1) ek P5
   else none
  else some (.e1 v210 tn yL)
theorem ahr (ai:Sl aH)(ak:Sl aO)(ao:Sl aN)(o1:List ah)(o2:List aE)(o3 cI cm:List Int)(n:Nat):∀(k:Nat) (v210:Int) (tn:List Int) (yL:List ah) (o:He),vY ai ak ao o1 o2 o3 cI cm n k v210 tn yL=some o->X.LF 32 224 27 (sub K2 [1,1,1,1,1,0,1,0,1,1,1,1,1,1,1,1,1,0,1,0,0]) 5 [(0,.pt 0 1 0),(208,aP cm),(209,aa (cm.length:Int)),(210,aa v210)] [(0,⟨1,(ahu ai ak ao o1 o2 o3 tn)⟩),(1,⟨1,bl yL⟩),(2,⟨1,bl o2⟩),(3,⟨1,bl cI⟩)] (aht o) (ahs ai ak ao o1 o2 o3 cI cm o):=by
 intro k;induction k with
 | zero=>intro _ _ _ _ h;exact nomatch h
 | succ k ih=>
  intro v210 tn yL o h F G s hs
  refine Sys.bj hs (w0 ?_)
  refine wi (27,0) h (fun h0 h=>?_) fun h0 h=>?_
  ·refine wg h fun v212 h1 h=>wx (28,0) h1<|wl (28,1) 0 h1 rfl<|wy (29,2) h (fun _=>ahG) ?_
   rintro⟨ek,P5⟩ h
   exact wn (30,0) h fun h3 h=>wN 27 [] (ih (v210+1) ek P5 _ h F G)
  ·cases h
   exact wX
def Hc (n:Nat)(p1 p2:Int)(ai:Sl aH)(ak:Sl aO)(ao:Sl aN)(aL:List Int)(o1:List ah)(o2:List aE)(o3:List Int):Option (Int×List Int×List ah×List aE×List Int):=
 (aD o1 p1).bind fun v20=>
 if v20.state=2 then
  (G5 n p1 ai ak ao aL o1 o2 o3).bind fun(x,y1,y2)=>
  some (x,aL,y1,y2,o3)
 else(G6 n p1 p2 ai ak ao aL o1 o2 o3).bind fun(aC,av)=>
 (aD ao.l v20.role).bind fun pQ=>
 (aD pQ.aU.l aC).bind fun bR=>
 (Ot ai ak ao aL o1 o2 o3 av bR n).bind fun az=>match az with
 | .m rO cI=>
  bif rO then
   (Dn n p1 ai ak ao aL o1 o2 cI o3.length).bind fun(xr,En)=>
   some (aC,aL,xr,En,cI)
  else if bR.kind=4 then
   (aD o2 bR.mon).bind fun gA=>
   if 0≤bR.mon∧bR.mon<(o2.length:Int)then if aF ((({ gA with owner:=p1}:aE).depth)+1)then(ru n p1 bR.a8 ai ak ao aL o1 (o2.set bR.mon.toNat ({ ({ gA with owner:=p1}:aE)with depth:=((({ gA with owner:=p1}:aE).depth)+1)}:aE)) cI o2.length o3.length).bind fun rY=>
   some (aC,aL,rY,(o2.set bR.mon.toNat ({ ({ gA with owner:=p1}:aE)with depth:=((({ gA with owner:=p1}:aE).depth)+1)}:aE)),cI)
   else none
   else none
  else if bR.kind=5 then
   (aD o2 bR.mon).bind fun v107=>
   if aF (v107.depth - 1)then if 0≤bR.mon∧bR.mon<(o2.length:Int)then if(({ v107 with depth:=(v107.depth - 1)}:aE).depth)=0 then
    (pK n).bind fun aG=>
    (ru n p1 bR.a8 ai ak ao aL o1 (o2.set bR.mon.toNat aG) cI o2.length o3.length).bind fun Kr=>
    some (aC,aL,Kr,(o2.set bR.mon.toNat aG),cI)
   else(ru n p1 bR.a8 ai ak ao aL o1 (o2.set bR.mon.toNat ({ v107 with depth:=(v107.depth - 1)}:aE)) cI o2.length o3.length).bind fun Ks=>
   some (aC,aL,Ks,(o2.set bR.mon.toNat ({ v107 with depth:=(v107.depth - 1)}:aE)),cI)
   else none
   else none
  else if bR.kind=6 then
   (aD o2 bR.mon).bind fun rC=>
   (pK n).bind fun ba=>
   some (aC,aL,(o1.set p1.toNat ({ ({ ({ v20 with state:=1}:ah)with left:=(if 1099511627776<bR.n_ then 1099511627776 else bR.n_)}:ah)with depth:=rC.depth}:ah)),(o2.set bR.mon.toNat ba),cI)
  else if bR.kind=7 then
   (vZ n ({ p:=({ aw:=ai,aR:=ak}:aj),bc:=ao}:aT) bR.mon o1 o2 cI o3.length).bind fun ca=>
   if(ca.length:Int)>0 then
    (aD ca p2).bind fun v193=>
    (Dp n v193 ai ak ao aL o1 o2 cI o3.length).bind fun(y0,Kt)=>
    (vV n p1 bR.a8 ai ak ao y0 Kt o2 cI o1.length o3.length).bind fun Ku=>
    some (aC,y0,Ku,o2,cI)
   else(vW n p1 bR.a8 ai ak ao aL o1 o2 cI o3.length).bind fun Kv=>
   some (aC,aL,Kv,o2,cI)
  else if bR.kind=8 then
   (vZ n ({ p:=({ aw:=ai,aR:=ak}:aj),bc:=ao}:aT) bR.mon o1 o2 cI o3.length).bind fun cm=>
   (vY ai ak ao o1 o2 o3 cI cm n n 0 aL o1).bind fun aY=>match aY with
   | .e1 WE eC jC=>
    (vV n p1 bR.a8 ai ak ao eC jC o2 cI o1.length o3.length).bind fun Kp=>
    some (aC,eC,Kp,o2,cI)
  else(vW n p1 bR.a8 ai ak ao aL o1 o2 cI o3.length).bind fun Kq=>
  some (aC,aL,Kq,o2,cI)
theorem ahw {n:Nat}{p1 p2:Int}{ai:Sl aH}{ak:Sl aO}{ao:Sl aN}{aL:List Int}{o1:List ah}{o2:List aE}{o3:List Int}{r:Int×List Int×List ah×List aE×List Int}(h:Hc n p1 p2 ai ak ao aL o1 o2 o3=some r):X.cD 32 [.pt 0 1 0,aa p1,aa p2] (bm [.x 1 (Ou ai ak ao aL o1 o2 o3),.l 1 o1,.l 1 o2,.l 1 o3]) (aa r.1) (bm [.x 1 [.c (aq ai),.c (aq ak),.c (aq ao),.ms 1 1 0 o1.length 5 true,.ms 2 1 0 o2.length 2 true,.ms 3 1 0 o3.length 1 true,aP r.2.1],.l 1 r.2.2.1,.l 1 r.2.2.2.1,.l 1 r.2.2.2.2]):=by
 refine fL 224 K2 ?_
 refine wg h fun v20 h0 h=>wx (1,6) h0<|wt (1,8) (.cell (bb v20.state)) (And.intro (rfl:(1:Nat)=1) (jw 2 (c:=bb v20.state) rfl (bJ h0)))<|wi (1,9) h (fun h1 h=>?_) fun h1 h=>?_
 ·refine wy (2,2) h (fun _=>ahd) ?_
  rintro⟨x,y1,y2⟩ h
  cases h
  exact wL []
 ·refine wy (3,3) h (fun _=>ahh) ?_
  rintro⟨aC,av⟩ h
  refine wx (4,11) h0<|wt (4,13) (.cell (bb v20.role)) (And.intro (rfl:(1:Nat)=1) (jw 0 (c:=bb v20.role) rfl (bJ h0)))<|wg h fun pQ h3 h=>wx (4,14) h3<|wl (4,16) 3 h3 rfl<|wg h fun bR h4 h=>wx (4,18) h4<|wa (4,19) h4<|wg h fun az h5 h=>?_
  have h5:=aho _ _ _ _ _ _ _ _ _ _ _ h5
  cases az with
  | m rO cI=>
   refine wV 5 [1,1,1,1,0,0] h5<|?_
   cases rO
   ·refine wi (9,0) h (fun h7 h=>?_) fun h7 h=>?_
    ·refine wg h fun gA h8 h=>wx (10,8) h8<|wt (10,10) (.st (bl (o2.set bR.mon.toNat ({ gA with owner:=p1}:aE)))) (And.intro (rfl:(1:Nat)=1) (iI 0 [aa p1] ({ gA with owner:=p1}:aE) (bJ h8) rfl (Nat.le_of_ble_eq_true rfl)))<|wq h fun h9 h=>wt (11,7) .ix h9<|wt (11,9) (.cell (bb (({ gA with owner:=p1}:aE).depth))) (And.intro (rfl:(1:Nat)=1) (jw 1 (c:=bb (({ gA with owner:=p1}:aE).depth)) rfl (sG (b:=({ gA with owner:=p1}:aE)) (bJ h8))))<|wn (11,10) h fun dq h=>wt (11,11) .ix h9<|wt (11,13) (.st (bl (o2.set bR.mon.toNat ({ ({ gA with owner:=p1}:aE)with depth:=((({ gA with owner:=p1}:aE).depth)+1)}:aE)))) (And.intro (rfl:(1:Nat)=1) (j7 (a:=({ gA with owner:=p1}:aE)) 1 [aa ((({ gA with owner:=p1}:aE).depth)+1)] ({ ({ gA with owner:=p1}:aE)with depth:=((({ gA with owner:=p1}:aE).depth)+1)}:aE) (bJ h8) rfl (Nat.le_of_ble_eq_true rfl)))<|wy (31,4) h (fun _=>Oq) fun rY h=>?_
     cases h
     exact wL []
    ·refine wi (12,0) h (fun h8 h=>?_) fun h8 h=>?_
     ·refine wg h fun v107 h9 h=>wx (13,7) h9<|wt (13,9) (.cell (bb v107.depth)) (And.intro (rfl:(1:Nat)=1) (jw 1 (c:=bb v107.depth) rfl (bJ h9)))<|wn (13,10) h fun dq h=>wx (13,11) h9<|wt (13,13) (.st (bl (o2.set bR.mon.toNat ({ v107 with depth:=(v107.depth - 1)}:aE)))) (And.intro (rfl:(1:Nat)=1) (iI 1 [aa (v107.depth - 1)] ({ v107 with depth:=(v107.depth - 1)}:aE) (bJ h9) rfl (Nat.le_of_ble_eq_true rfl)))<|wq h fun gg h=>wt (14,7) .ix gg<|wt (14,9) (.cell (bb (({ v107 with depth:=(v107.depth - 1)}:aE).depth))) (And.intro (rfl:(1:Nat)=1) (jw 1 (c:=bb (({ v107 with depth:=(v107.depth - 1)}:aE).depth)) rfl (sG (b:=({ v107 with depth:=(v107.depth - 1)}:aE)) (bJ h9))))<|wi (14,10) h (fun dT h=>?_) fun dT h=>?_
      ·refine wc (15,7) h (fun _=>Dm) fun aG h=>wt (15,8) .ix gg<|wt (15,9) (.st (bl (o2.set bR.mon.toNat aG))) (And.intro (rfl:(1:Nat)=1) (j7 (a:=({ v107 with depth:=(v107.depth - 1)}:aE)) 0 [aa aG.owner,aa aG.depth] aG (bJ h9) rfl (Nat.le_of_ble_eq_true rfl)))<|wy (31,4) h (fun _=>Oq) fun Kr h=>?_
       cases h
       exact wL []
      ·refine wy (31,4) h (fun _=>Oq) fun Ks h=>?_
       cases h
       exact wL []
     ·refine wi (16,0) h (fun h9 h=>?_) fun h9 h=>?_
      ·refine wx (17,6) h0<|wg h fun rC dq h=>wx (18,13) dq<|wt (18,15) (.cell (bb rC.depth)) (And.intro (rfl:(1:Nat)=1) (jw 1 (c:=bb rC.depth) rfl (bJ dq)))<|wt (18,18) (.st (bl (o1.set p1.toNat ({ v20 with state:=1}:ah)))) (And.intro (rfl:(1:Nat)=1) (iI 2 [aa 1] ({ v20 with state:=1}:ah) (bJ h0) rfl (Nat.le_of_ble_eq_true rfl)))<|wt (18,21) (.st (bl (o1.set p1.toNat ({ ({ v20 with state:=1}:ah)with left:=(if 1099511627776<bR.n_ then 1099511627776 else bR.n_)}:ah)))) (And.intro (rfl:(1:Nat)=1) (j7 (a:=({ v20 with state:=1}:ah)) 3 [aa (if 1099511627776<bR.n_ then 1099511627776 else bR.n_)] ({ ({ v20 with state:=1}:ah)with left:=(if 1099511627776<bR.n_ then 1099511627776 else bR.n_)}:ah) (bJ h0) rfl (Nat.le_of_ble_eq_true rfl)))<|wt (18,24) (.st (bl (o1.set p1.toNat ({ ({ ({ v20 with state:=1}:ah)with left:=(if 1099511627776<bR.n_ then 1099511627776 else bR.n_)}:ah)with depth:=rC.depth}:ah)))) (And.intro (rfl:(1:Nat)=1) (j7 (a:=({ ({ v20 with state:=1}:ah)with left:=(if 1099511627776<bR.n_ then 1099511627776 else bR.n_)}:ah)) 4 [aa rC.depth] ({ ({ ({ v20 with state:=1}:ah)with left:=(if 1099511627776<bR.n_ then 1099511627776 else bR.n_)}:ah)with depth:=rC.depth}:ah) (bJ h0) rfl (Nat.le_of_ble_eq_true rfl)))<|wc (19,7) h (fun _=>Dm) fun ba h=>wx (19,8) dq<|wt (19,9) (.st (bl (o2.set bR.mon.toNat ba))) (And.intro (rfl:(1:Nat)=1) (iI 0 [aa ba.owner,aa ba.depth] ba (bJ dq) rfl (Nat.le_of_ble_eq_true rfl)))<|?_
       cases h
       exact wL []
      ·refine wi (21,0) h (fun dq h=>?_) fun dq h=>?_
       ·refine wy (22,10) h (fun _=>VO) fun ca h=>wi (23,2) h (fun dT h=>?_) fun dT h=>?_
        ·refine wg h fun v193 kD h=>wx (24,3) kD<|wl (24,4) 0 kD rfl<|wy (24,5) h (fun _=>ahM) ?_
         rintro⟨y0,Kt⟩ h
         refine wy (31,4) h (fun _=>VF) fun Ku h=>?_
         cases h
         exact wL []
        ·refine wy (31,4) h (fun _=>VH) fun Kv h=>?_
         cases h
         exact wL []
       ·refine wi (25,0) h (fun gg h=>?_) fun gg h=>?_
        ·refine wy (26,10) h (fun _=>VO) fun cm h=>wg h fun aY kD h=>?_
         have kD:=ahr _ _ _ _ _ _ _ _ _ _ _ _ _ _ kD
         cases aY with
         | e1 WE eC jC=>
          refine wO [1,1,1,1,1,0,1,0,1,1,1,1,1,1,1,1,1,0,1,0] kD<|wy (31,4) h (fun _=>VF) fun Kp h=>?_
          cases h
          exact wL []
        ·refine wy (31,4) h (fun _=>VH) fun Kq h=>?_
         cases h
         exact wL []
   ·refine wy (6,2) h (fun _=>ahm) ?_
    rintro⟨xr,En⟩ h
    cases h
    exact wL []
def ahH (ai:Sl aH)(ak:Sl aO)(ao:Sl aN)(aL:List Int)(o1:List ah)(o2:List aE)(o3:List Int):List DV:=[.c (aq ai),.c (aq ak),.c (aq ao),.ms 1 1 0 o1.length 5 true,.ms 2 1 0 o2.length 2 true,.ms 3 1 0 o3.length 1 true,aP aL]
def Hj (n:Nat)(p1:Int)(ai:Sl aH)(ak:Sl aO)(ao:Sl aN)(aL:List Int)(o1:List ah)(o2:List aE)(o3:List Int):Option (List Int×List ah):=
 (aD o1 p1).bind fun bH=>
 if 0≤p1∧p1<(o1.length:Int)then if Room 8 (aL++([p1]:List Int)).length then some ((aL++([p1]:List Int)),(o1.set p1.toNat ({ ({ bH with state:=2}:ah)with left:=0}:ah)))
 else none
 else none
theorem ahI {n:Nat}{p1:Int}{ai:Sl aH}{ak:Sl aO}{ao:Sl aN}{aL:List Int}{o1:List ah}{o2:List aE}{o3:List Int}{r:List Int×List ah}(h:Hj n p1 ai ak ao aL o1 o2 o3=some r):X.cD 33 [.pt 0 1 0,aa p1] (bm [.x 1 (ahH ai ak ao aL o1 o2 o3),.l 1 o1,.l 1 o2,.l 1 o3]) (.aX []) (bm [.x 1 [.c (aq ai),.c (aq ak),.c (aq ao),.ms 1 1 0 o1.length 5 true,.ms 2 1 0 o2.length 2 true,.ms 3 1 0 o3.length 1 true,aP r.1],.l 1 r.2,.l 1 o2,.l 1 o3]):=by
 refine fL 30 EH ?_
 refine wg h fun bH h0 h=>wx (0,12) h0<|wt (0,14) (.st (bl (o1.set p1.toNat ({ bH with state:=2}:ah)))) (And.intro (rfl:(1:Nat)=1) (iI 2 [aa 2] ({ bH with state:=2}:ah) (bJ h0) rfl (Nat.le_of_ble_eq_true rfl)))<|wq h fun h1 h=>wt (0,15) .ix h1<|wt (0,17) (.st (bl (o1.set p1.toNat ({ ({ bH with state:=2}:ah)with left:=0}:ah)))) (And.intro (rfl:(1:Nat)=1) (j7 (a:=({ bH with state:=2}:ah)) 3 [aa 0] ({ ({ bH with state:=2}:ah)with left:=0}:ah) (bJ h0) rfl (Nat.le_of_ble_eq_true rfl)))<|wq h fun h2 h=>dG (1,7) h2<|?_
 cases h
 exact wL []
def ahJ (ai:Sl aH)(ak:Sl aO)(ao:Sl aN)(aL:List Int)(o2:List aE)(o3:List Int)(ef:Nat):List DV:=[.c (aq ai),.c (aq ak),.c (aq ao),.ms 1 1 0 ef 5 true,.ms 2 1 0 o2.length 2 true,.ms 3 1 0 o3.length 1 true,aP aL]
def Hk (n:Nat)(p1:Int)(ai:Sl aH)(ak:Sl aO)(ao:Sl aN)(aL:List Int)(o1:List ah)(o2:List aE)(o3:List Int)(ef:Nat):Option (List Int×List ah):=
 if 0≤p1∧p1<(ef:Int)then(aD o1 p1).bind fun w1=>
 if Room 8 (aL++([p1]:List Int)).length then some ((aL++([p1]:List Int)),(o1.set p1.toNat ({ ({ w1 with state:=2}:ah)with left:=0}:ah)))
 else none
 else none
theorem ahK {n:Nat}{p1:Int}{ai:Sl aH}{ak:Sl aO}{ao:Sl aN}{aL:List Int}{o1:List ah}{o2:List aE}{o3:List Int}{ef:Nat}{r:List Int×List ah}(h:Hk n p1 ai ak ao aL o1 o2 o3 ef=some r):X.cD 33 [.pt 0 1 0,aa p1] (bm [.x 1 (ahJ ai ak ao aL o2 o3 ef),.l 1 o1,.l 1 o2,.l 1 o3]) (.aX []) (bm [.x 1 [.c (aq ai),.c (aq ak),.c (aq ao),.ms 1 1 0 ef 5 true,.ms 2 1 0 o2.length 2 true,.ms 3 1 0 o3.length 1 true,aP r.1],.l 1 r.2,.l 1 o2,.l 1 o3]):=by
 refine fL 30 EH ?_
 refine wq h fun h0 h=>wt (0,12) .ix h0<|wg h fun w1 h1 h=>wt (0,14) (.st (bl (o1.set p1.toNat ({ w1 with state:=2}:ah)))) (And.intro (rfl:(1:Nat)=1) (iI 2 [aa 2] ({ w1 with state:=2}:ah) (bJ h1) rfl (Nat.le_of_ble_eq_true rfl)))<|wt (0,15) .ix h0<|wt (0,17) (.st (bl (o1.set p1.toNat ({ ({ w1 with state:=2}:ah)with left:=0}:ah)))) (And.intro (rfl:(1:Nat)=1) (j7 (a:=({ w1 with state:=2}:ah)) 3 [aa 0] ({ ({ w1 with state:=2}:ah)with left:=0}:ah) (bJ h1) rfl (Nat.le_of_ble_eq_true rfl)))<|wq h fun h2 h=>dG (1,7) h2<|?_
 cases h
 exact wL []
def ahB (ai:Sl aH)(ak:Sl aO)(ao:Sl aN)(aL:List Int)(o1:List ah)(o2:List aE)(o3:List Int):List DV:=[.c (aq ai),.c (aq ak),.c (aq ao),.ms 1 1 0 o1.length 5 true,.ms 2 1 0 o2.length 2 true,.ms 3 1 0 o3.length 1 true,aP aL]
def ahC (ai:Sl aH)(ak:Sl aO)(ao:Sl aN)(o1:List ah)(o2:List aE)(o3 lu:List Int):List DV:=[.c (aq ai),.c (aq ak),.c (aq ao),.ms 1 1 0 o1.length 5 true,.ms 2 1 0 o2.length 2 true,.ms 3 1 0 o3.length 1 true,aP lu]
def ahD (ai:Sl aH)(ak:Sl aO)(ao:Sl aN)(o1:List ah)(o2:List aE)(o3 jj:List Int):List DV:=[.c (aq ai),.c (aq ak),.c (aq ao),.ms 1 1 0 o1.length 5 true,.ms 2 1 0 o2.length 2 true,.ms 3 1 0 o3.length 1 true,aP jj]
inductive Hh where
 | e0 (v10:Int) (jj:List Int) (vI:List ah)
def ahA:Hh->Ex
 | .e0 _ _ _=>(.exit 0)
def ahz (ai:Sl aH)(ak:Sl aO)(ao:Sl aN)(o1:List ah)(o2:List aE)(o3:List Int):Hh->(Nat->DV)->List Ob->S
 | .e0 v10 jj vI,F,G=>⟨fs F [0,9,10,11] [(0,.pt 0 1 0),(9,aa (o1.length:Int)),(10,aa v10),(11,dB false)],⟨sl G 4 [(0,⟨1,(ahD ai ak ao o1 o2 o3 jj)⟩),(1,⟨1,bl vI⟩),(2,⟨1,bl o2⟩),(3,⟨1,bl o3⟩)],[]⟩⟩
def rv (ai:Sl aH)(ak:Sl aO)(ao:Sl aN)(o1:List ah)(o2:List aE)(o3:List Int)(n:Nat):Nat->Int->List Int->List ah->Option Hh
 | 0,_,_,_=>none
 | k+1,v10,lu,gu=>
  if v10<(o1.length:Int)then
   if 0≤v10∧v10<(o1.length:Int)then(aD gu v10).bind fun w1=>
   if w1.state≠1 then
    if aF (v10+1)then rv ai ak ao o1 o2 o3 n k (v10+1) lu gu
    else none
   else if w1.left=0 then
    if aF (v10+1)then rv ai ak ao o1 o2 o3 n k (v10+1) lu gu
    else none
   else if aF (w1.left - 1)then if(({ w1 with left:=(w1.left - 1)}:ah).left)=0 then
    (Hk n v10 ai ak ao lu (gu.set v10.toNat ({ w1 with left:=(w1.left - 1)}:ah)) o2 o3 o1.length).bind fun(y0,y1)=>
    if aF (v10+1)then rv ai ak ao o1 o2 o3 n k (v10+1) y0 y1
    else none
   else if aF (v10+1)then rv ai ak ao o1 o2 o3 n k (v10+1) lu (gu.set v10.toNat ({ w1 with left:=(w1.left - 1)}:ah))
   else none
   else none
   else none
  else some (.e0 v10 lu gu)
theorem ahy (ai:Sl aH)(ak:Sl aO)(ao:Sl aN)(o1:List ah)(o2:List aE)(o3:List Int)(n:Nat):∀(k:Nat) (v10:Int) (lu:List Int) (gu:List ah) (o:Hh),rv ai ak ao o1 o2 o3 n k v10 lu gu=some o->X.LF 34 48 1 (sub QG [1,0,0]) 4 [(0,.pt 0 1 0),(9,aa (o1.length:Int)),(10,aa v10)] [(0,⟨1,(ahC ai ak ao o1 o2 o3 lu)⟩),(1,⟨1,bl gu⟩),(2,⟨1,bl o2⟩),(3,⟨1,bl o3⟩)] (ahA o) (ahz ai ak ao o1 o2 o3 o):=by
 intro k;induction k with
 | zero=>intro _ _ _ _ h;exact nomatch h
 | succ k ih=>
  intro v10 lu gu o h F G s hs
  refine Sys.bj hs (w0 ?_)
  refine wi (1,0) h (fun h0 h=>?_) fun h0 h=>?_
  ·refine wq h fun h1 h=>wt (3,6) .ix h1<|wg h fun w1 h2 h=>wt (4,3) (.cell (bb w1.state)) (And.intro (rfl:(1:Nat)=1) (jw 2 (c:=bb w1.state) rfl (bJ h2)))<|wi (4,4) h (fun h3 h=>?_) fun h3 h=>?_
   ·exact wn (8,0) h fun h4 h=>wN 1 [] (ih (v10+1) lu gu _ h F G)
   ·refine wt (4,9) (.cell (bb w1.left)) (And.intro (rfl:(1:Nat)=1) (jw 3 (c:=bb w1.left) rfl (bJ h2)))<|wi (4,10) h (fun h4 h=>?_) fun h4 h=>?_
    ·exact wn (8,0) h fun h5 h=>wN 1 [] (ih (v10+1) lu gu _ h F G)
    ·refine wt (5,3) (.cell (bb w1.left)) (And.intro (rfl:(1:Nat)=1) (jw 3 (c:=bb w1.left) rfl (bJ h2)))<|wn (5,4) h fun h5 h=>wt (5,7) (.st (bl (gu.set v10.toNat ({ w1 with left:=(w1.left - 1)}:ah)))) (And.intro (rfl:(1:Nat)=1) (iI 3 [aa (w1.left - 1)] ({ w1 with left:=(w1.left - 1)}:ah) (bJ h2) rfl (Nat.le_of_ble_eq_true rfl)))<|wt (6,3) (.cell (bb (({ w1 with left:=(w1.left - 1)}:ah).left))) (And.intro (rfl:(1:Nat)=1) (jw 3 (c:=bb (({ w1 with left:=(w1.left - 1)}:ah).left)) rfl (sG (b:=({ w1 with left:=(w1.left - 1)}:ah)) (bJ h2))))<|wi (6,4) h (fun h6 h=>?_) fun h6 h=>?_
     ·refine wy (7,2) h (fun _=>ahK) ?_
      rintro⟨y0,y1⟩ h
      exact wn (8,0) h fun h8 h=>wN 1 [] (ih (v10+1) y0 y1 _ h F G)
     ·exact wn (8,0) h fun h7 h=>wN 1 [] (ih (v10+1) lu (gu.set v10.toNat ({ w1 with left:=(w1.left - 1)}:ah)) _ h F G)
  ·cases h
   exact wX
def Hg (n:Nat)(ai:Sl aH)(ak:Sl aO)(ao:Sl aN)(aL:List Int)(o1:List ah)(o2:List aE)(o3:List Int):Option (List Int×List ah):=
 (rv ai ak ao o1 o2 o3 n n 0 aL o1).bind fun az=>match az with
 | .e0 cB eC jC=>
  some (eC,jC)
theorem ahE {n:Nat}{ai:Sl aH}{ak:Sl aO}{ao:Sl aN}{aL:List Int}{o1:List ah}{o2:List aE}{o3:List Int}{r:List Int×List ah}(h:Hg n ai ak ao aL o1 o2 o3=some r):X.cD 34 [.pt 0 1 0] (bm [.x 1 (ahB ai ak ao aL o1 o2 o3),.l 1 o1,.l 1 o2,.l 1 o3]) (.aX []) (bm [.x 1 [.c (aq ai),.c (aq ak),.c (aq ao),.ms 1 1 0 o1.length 5 true,.ms 2 1 0 o2.length 2 true,.ms 3 1 0 o3.length 1 true,aP r.1],.l 1 r.2,.l 1 o2,.l 1 o3]):=by
 refine fL 48 QG ?_
 refine wg h fun az h0 h=>?_
 have h0:=ahy _ _ _ _ _ _ _ _ _ _ _ _ h0
 cases az with
 | e0 cB eC jC=>
  refine wO [1,0] h0<|?_
  cases h
  exact wL []
inductive GY where
 | m (bZ:Bool)
def ag0:GY->Ex
 | .m _=>.normal
def agZ (p0:aT)(p1:bo)(p2:bT):GY->(Nat->DV)->List Ob->S
 | .m bZ,F,G=>⟨fs F [4,5,6,7,9,10,22] [(4,.pt 1 1 0),(5,.pt 2 1 0),(22,dB bZ)],⟨sl G 11 [(0,⟨1,(EncX.ae p0).map DV.c⟩),(1,⟨1,(EncX.ae p1).map DV.c⟩),(2,⟨1,(EncX.ae p2).map DV.c⟩)],[]⟩⟩
def Oj (p0:aT)(p1:bo)(p2:bT)(n:Nat):Option GY:=
 if p2.kind=0 then
  (zc n p0 p1 p2.cZ).bind fun aC=>
  bif aC then
   if p2.draw≥0 then
    (Dl n p0 p1 p2.cZ).bind fun av=>
    if p2.draw<av then
     some (.m true)
    else some (.m false)
   else some (.m false)
  else some (.m false)
 else some (.m false)
theorem agW (p0:aT)(p1:bo)(p2:bT)(n:Nat)(o:GY)(h:Oj p0 p1 p2 n=some o):X.JF 9 106 (sub b9 [1,1,1,1,0,0,0]) [3,4,5,6,7,9,10] 11 [(3,.pt 0 1 0),(4,.pt 1 1 0),(5,.pt 2 1 0)] [(0,⟨1,(EncX.ae p0).map DV.c⟩),(1,⟨1,(EncX.ae p1).map DV.c⟩),(2,⟨1,(EncX.ae p2).map DV.c⟩)] (ag0 o) (agZ p0 p1 p2 o):=by
 intro F G;refine Sys.dZ (w0 ?_)
 refine wi (6,2) h (fun h0 h=>?_) fun h0 h=>?_
 ·refine wc (6,8) h (fun _=>Om) fun aC h=>?_
  cases aC
  ·cases h
   exact wJ
  ·refine wi (6,13) h (fun h3 h=>?_) fun h3 h=>?_
   ·refine wc (6,22) h (fun _=>VA) fun av h=>wi (6,23) h (fun h5 h=>?_) fun h5 h=>?_
    ·cases h
     exact wJ
    ·cases h
     exact wJ
   ·cases h
    exact wJ
 ·cases h
  exact wJ
inductive GZ where
 | m (rM:Bool)
def ag3:GZ->Ex
 | .m _=>.normal
def ag2 (p1:bo)(p2:bT):GZ->(Nat->DV)->List Ob->S
 | .m rM,F,G=>⟨fs F [5,6,7,9,10,54] [(5,.pt 2 1 0),(54,dB rM)],⟨sl G 11 [(1,⟨1,(EncX.ae p1).map DV.c⟩),(2,⟨1,(EncX.ae p2).map DV.c⟩)],[]⟩⟩
def Ok (p1:bo)(p2:bT)(n:Nat):Option GZ:=
 if p2.kind=1 then
  if p2.draw=0 then
   if p2.cZ≥0 then
    if p2.cZ<(p1.threads.l.length:Int)then
     (aD p1.threads.l p2.cZ).bind fun DK=>
     if DK.state=1 then
      some (.m true)
     else some (.m false)
    else some (.m false)
   else some (.m false)
  else some (.m false)
 else some (.m false)
theorem ag1 (p1:bo)(p2:bT)(n:Nat)(o:GZ)(h:Ok p1 p2 n=some o):X.JF 9 106 (sub b9 [1,1,1,1,0,0,1,1,0]) [4,5,6,7,9,10,22] 11 [(4,.pt 1 1 0),(5,.pt 2 1 0)] [(1,⟨1,(EncX.ae p1).map DV.c⟩),(2,⟨1,(EncX.ae p2).map DV.c⟩)] (ag3 o) (ag2 p1 p2 o):=by
 intro F G;refine Sys.dZ (w0 ?_)
 refine wi (8,2) h (fun h0 h=>?_) fun h0 h=>?_
 ·refine wi (8,6) h (fun h1 h=>?_) fun h1 h=>?_
  ·refine wi (8,11) h (fun h2 h=>?_) fun h2 h=>?_
   ·refine wi (8,19) h (fun h3 h=>?_) fun h3 h=>?_
    ·refine wg h fun DK h4 h=>wx (8,26) h4<|wl (8,28) 2 h4 rfl<|wi (8,29) h (fun h5 h=>?_) fun h5 h=>?_
     ·cases h
      exact wJ
     ·cases h
      exact wJ
    ·cases h
     exact wJ
   ·cases h
    exact wJ
  ·cases h
   exact wJ
 ·cases h
  exact wJ
def tJ (n:Nat)(p0:aT)(p1:bo)(p2:bT):Option (bo×fB×Int):=
 (xk n p0 p1).bind fun x=>
 if x≠0 then
  some (({}:bo),({}:fB),2)
 else(On n p0 p1).bind fun u_=>
 (Oj p0 p1 p2 n).bind fun az=>match az with
 | .m bZ=>
  bif bZ then
   (Hc n p2.cZ p2.draw p0.p.aw p0.p.aR p0.bc ([]:List Int) p1.threads.l p1.aZ.l p1.aB.l).bind fun(aK,y0,y1,y2,y3)=>
   if p1.threads.l.length=y1.length then if p1.aZ.l.length=y2.length then if p1.aB.l.length=y3.length then some (({ threads:=(⟨false,true,y1⟩:Sl ah),aZ:=(⟨false,true,y2⟩:Sl aE),aB:=(⟨false,true,y3⟩:Sl Int)}:bo),({ jx:=aK,jt:=(Sl.gr y0)}:fB),0)
   else none
   else none
   else none
  else(Ok p1 p2 n).bind fun aY=>match aY with
  | .m rM=>
   bif rM then
    (Hj n p2.cZ p0.p.aw p0.p.aR p0.bc ([]:List Int) p1.threads.l p1.aZ.l p1.aB.l).bind fun(ek,xr)=>
    if p1.threads.l.length=xr.length then some (({ threads:=(⟨false,true,xr⟩:Sl ah),aZ:=(⟨false,true,p1.aZ.l⟩:Sl aE),aB:=(⟨false,true,p1.aB.l⟩:Sl Int)}:bo),({ jx:=(-1),jt:=(Sl.gr ek)}:fB),0)
    else none
   else if p2=({ kind:=2}:bT)then
    (Hg n p0.p.aw p0.p.aR p0.bc ([]:List Int) p1.threads.l p1.aZ.l p1.aB.l).bind fun(gE,rY)=>
    if p1.threads.l.length=rY.length then some (({ threads:=(⟨false,true,rY⟩:Sl ah),aZ:=(⟨false,true,p1.aZ.l⟩:Sl aE),aB:=(⟨false,true,p1.aB.l⟩:Sl Int)}:bo),({ jx:=(-1),jt:=(Sl.gr gE)}:fB),0)
    else none
   else some (({}:bo),({}:fB),150)
theorem Dk {n:Nat}{p0:aT}{p1:bo}{p2:bT}{r:bo×fB×Int}(h:tJ n p0 p1 p2=some r):X.bg 9 [.c (.agg (EncX.ae p0)),.c (.agg (EncX.ae p1)),.c (.agg (EncX.ae p2))] (.aX [.c (.agg (EncX.ae r.1)),.c (.agg (EncX.ae r.2.1)),aa r.2.2]):=by
 refine fC 106 b9 ?_
 refine wc (1,2) h (fun _=>Kf) fun x h=>wi (1,3) h (fun h1 h=>?_) fun h1 h=>?_
 ·cases h
  exact wC
 ·refine wk (3,2) h (fun _=>ahc) fun u_ h=>wg h fun az h3 h=>?_
  have h3:=agW _ _ _ _ _ h3
  cases az with
  | m bZ=>
   refine wV 6 [1,1,1,1,0,0,0] h3<|?_
   cases bZ
   ·refine wg h fun aY h5 h=>?_
    have h5:=ag1 _ _ _ _ h5
    cases aY with
    | m rM=>
     refine wV 8 [1,1,1,1,0,0,1,1,0] h5<|?_
     cases rM
     ·refine wI h (fun h7 h=>?_) fun h7 h=>?_
      ·refine wt (10,2) (.op { d:=dB true}) (yX (Qc p2 ({ kind:=2}:bT)) h7)<|wy (11,1) h (fun _=>ahE) ?_
       rintro⟨gE,rY⟩ h
       refine wq h fun h9 h=>?_
       cases h
       exact wD [.m 8 rY p1.threads.l.length h9,.l 9 p1.aZ.l,.l 10 p1.aB.l]
      ·refine wt (10,2) (.op { d:=dB false}) (yW (Qc p2 ({ kind:=2}:bT)) h7)<|?_
       cases h
       exact wC
     ·refine wy (9,3) h (fun _=>ahI) ?_
      rintro⟨ek,xr⟩ h
      refine wq h fun h8 h=>?_
      cases h
      exact wD [.m 8 xr p1.threads.l.length h8,.l 9 p1.aZ.l,.l 10 p1.aB.l]
   ·refine wy (7,5) h (fun _=>ahw) ?_
    rintro⟨aK,y0,y1,y2,y3⟩ h
    refine wq h fun h6 h=>wq h fun h7 h=>wq h fun h8 h=>?_
    cases h
    exact wD [.m 8 y1 p1.threads.l.length h6,.m 9 y2 p1.aZ.l.length h7,.m 10 y3 p1.aB.l.length h8]
def wH (n:Nat)(p0:Int):Option Int:=
 some p0
theorem DQ {n:Nat}{p0 r:Int}(h:wH n p0=some r):X.bg 13 [aa p0] (aa r):=by
 refine fC 4 YT ?_
 cases h
 exact wC
inductive HQ where
 | m (bq:Bool)
def ajt:HQ->Ex
 | .m _=>.normal
def ajs (p2:Sl bT)(x:aT)(v10:Int)(o2:bo)(ba:fB):HQ->(Nat->DV)->List Ob->S
 | .m bq,F,G=>⟨fs F [2,7,8,10,11,12,14] [(2,.c (aq p2)),(7,.pt 1 1 0),(8,.pt 2 1 0),(10,aa v10),(12,.pt 4 1 0),(14,dB bq)],⟨sl G 5 [(1,⟨1,(EncX.ae x).map DV.c⟩),(2,⟨1,(EncX.ae o2).map DV.c⟩),(4,⟨1,(EncX.ae ba).map DV.c⟩)],[]⟩⟩
def HP (p2:Sl bT)(x:aT)(v10:Int)(o2:bo)(ba:fB)(n:Nat):Option HQ:=
 (aD p2.l v10).bind fun v75=>
 if v75.kind=0 then
  if ba.jx≥0 then
   (aD o2.threads.l v75.cZ).bind fun DO=>
   (aD x.bc.l DO.role).bind fun zt=>
   (aD zt.aU.l ba.jx).bind fun Wv=>
   if Wv.kind=3 then
    some (.m true)
   else some (.m false)
  else some (.m false)
 else some (.m false)
theorem ajr (p2:Sl bT)(x:aT)(v10:Int)(o2:bo)(ba:fB)(n:Nat)(o:HQ)(h:HP p2 x v10 o2 ba n=some o):X.JF 5 251 (sub b5 [1,1,1,0,1,0,0,1,0,0,1,1,1,0]) [2,7,8,10,11,12,72] 5 [(2,.c (aq p2)),(7,.pt 1 1 0),(8,.pt 2 1 0),(10,aa v10),(12,.pt 4 1 0)] [(1,⟨1,(EncX.ae x).map DV.c⟩),(2,⟨1,(EncX.ae o2).map DV.c⟩),(4,⟨1,(EncX.ae ba).map DV.c⟩)] (ajt o) (ajs p2 x v10 o2 ba o):=by
 intro F G;refine Sys.dZ (w0 ?_)
 refine wg h fun v75 h0 h=>wx (11,2) h0<|wl (11,4) 0 h0 rfl<|wi (11,5) h (fun h1 h=>?_) fun h1 h=>?_
 ·refine wi (11,9) h (fun h2 h=>?_) fun h2 h=>?_
  ·refine wx (11,18) h0<|wl (11,20) 1 h0 rfl<|wg h fun DO h3 h=>wx (11,21) h3<|wl (11,23) 0 h3 rfl<|wg h fun zt h4 h=>wx (11,24) h4<|wl (11,26) 3 h4 rfl<|wg h fun Wv h5 h=>wx (11,29) h5<|wl (11,31) 2 h5 rfl<|wi (11,32) h (fun h6 h=>?_) fun h6 h=>?_
   ·cases h
    exact wJ
   ·cases h
    exact wJ
  ·cases h
   exact wJ
 ·cases h
  exact wJ
inductive HT where
 | e2 (bV bH:Int)
def ajC:HT->Ex
 | .e2 _ _=>(.exit 2)
def ajB (o2 aG:bo):HT->(Nat->DV)->List Ob->S
 | .e2 bV bH,F,G=>⟨fs F [2,7,8,10,11,12,14,15,16,111] [(8,.pt 2 1 0),(11,.pt 3 1 0),(15,aa bV),(16,aa bH),(111,dB false)],⟨sl G 5 [(2,⟨1,(EncX.ae o2).map DV.c⟩),(3,⟨1,(EncX.ae aG).map DV.c⟩)],[]⟩⟩
def wF (o2 aG:bo)(n:Nat):Nat->Int->Int->Option HT
 | 0,_,_=>none
 | k+1,bV,bH=>
  if bH<(o2.aB.l.length:Int)then
   (aD o2.aB.l bH).bind fun v117=>
   (aD aG.aB.l bH).bind fun Wz=>
   if v117≠Wz then
    if aF (bV+1)then if aF (bH+1)then wF o2 aG n k (bV+1) (bH+1)
    else none
    else none
   else if aF (bH+1)then wF o2 aG n k bV (bH+1)
   else none
  else some (.e2 bV bH)
theorem ajA (o2 aG:bo)(n:Nat):∀(k:Nat) (bV:Int) (bH:Int) (o:HT),wF o2 aG n k bV bH=some o->X.LF 5 251 14 (sub b5 [1,1,1,0,1,0,0,1,0,0,1,1,1,1,1,0,1,0,0]) 5 [(8,.pt 2 1 0),(11,.pt 3 1 0),(15,aa bV),(16,aa bH)] [(2,⟨1,(EncX.ae o2).map DV.c⟩),(3,⟨1,(EncX.ae aG).map DV.c⟩)] (ajC o) (ajB o2 aG o):=by
 intro k;induction k with
 | zero=>intro _ _ _ h;exact nomatch h
 | succ k ih=>
  intro bV bH o h F G s hs
  refine Sys.bj hs (w0 ?_)
  refine wi (14,4) h (fun h0 h=>?_) fun h0 h=>?_
  ·refine wg h fun v117 h1 h=>wx (16,3) h1<|wl (16,4) 0 h1 rfl<|wg h fun Wz h2 h=>wx (16,8) h2<|wl (16,9) 0 h2 rfl<|wi (16,10) h (fun h3 h=>?_) fun h3 h=>?_
   ·exact wn (17,1) h fun h4 h=>wn (15,1) h fun h5 h=>wN 14 [] (ih (bV+1) (bH+1) _ h F G)
   ·exact wn (15,1) h fun h4 h=>wN 14 [] (ih bV (bH+1) _ h F G)
  ·cases h
   exact wX
inductive HV where
 | e6 (b6:Bool) (fx:Int)
def ajH:HV->Ex
 | .e6 _ _=>(.exit 6)
def ajG (ba:fB)(bF:Int):HV->(Nat->DV)->List Ob->S
 | .e6 b6 fx,F,G=>⟨fs F [2,7,8,10,11,12,17,18,19,148] [(12,.pt 4 1 0),(17,aa bF),(18,dB b6),(19,aa fx),(148,dB false)],⟨sl G 5 [(4,⟨1,(EncX.ae ba).map DV.c⟩)],[]⟩⟩
def tV (ba:fB)(bF:Int)(n:Nat):Nat->Bool->Int->Option HV
 | 0,_,_=>none
 | k+1,b6,fx=>
  if fx<(ba.jt.l.length:Int)then
   bif b6 then
    if aF (fx+1)then tV ba bF n k true (fx+1)
    else none
   else(aD ba.jt.l fx).bind fun WB=>
   if WB=bF then
    if aF (fx+1)then tV ba bF n k true (fx+1)
    else none
   else if aF (fx+1)then tV ba bF n k false (fx+1)
   else none
  else some (.e6 b6 fx)
theorem ajF (ba:fB)(bF:Int)(n:Nat):∀(k:Nat) (b6:Bool) (fx:Int) (o:HV),tV ba bF n k b6 fx=some o->X.LF 5 251 25 (sub b5 [1,1,1,0,1,0,0,1,0,0,1,1,1,1,1,1,1,0,1,0,0,1,0,0,1,0,1,0,0]) 5 [(12,.pt 4 1 0),(17,aa bF),(18,dB b6),(19,aa fx)] [(4,⟨1,(EncX.ae ba).map DV.c⟩)] (ajH o) (ajG ba bF o):=by
 intro k;induction k with
 | zero=>intro _ _ _ h;exact nomatch h
 | succ k ih=>
  intro b6 fx o h F G s hs
  refine Sys.bj hs (w0 ?_)
  refine wi (25,4) h (fun h0 h=>?_) fun h0 h=>?_
  ·cases b6
   ·refine wg h fun WB h2 h=>wx (27,5) h2<|wl (27,6) 0 h2 rfl<|wi (27,8) h (fun h3 h=>?_) fun h3 h=>?_
    ·exact wn (26,1) h fun h4 h=>wN 25 [] (ih true (fx+1) _ h F G)
    ·exact wn (26,1) h fun h4 h=>wN 25 [] (ih false (fx+1) _ h F G)
   ·exact wn (26,1) h fun h2 h=>wN 25 [] (ih true (fx+1) _ h F G)
  ·cases h
   exact wX
inductive HR where
 | r
 | m (b6:Bool)
def ajw:HR->Ex
 | .r=>.ret
 | .m _=>.normal
def ajv (pO:Bool)(v164 eR:ah):HR->(Nat->DV)->List Ob->S
 | .r,F,G=>⟨fs F [6] [(6,dB false)],⟨sl G 7 [(5,⟨1,(EncX.ae v164).map DV.c⟩),(6,⟨1,(EncX.ae eR).map DV.c⟩)],[]⟩⟩
 | .m b6,F,G=>⟨fs F [2,7,8,10,11,12,17,18,20,21,195] [(18,dB b6),(20,.pt 5 1 0),(21,.pt 6 1 0),(195,dB false)],⟨sl G 7 [(5,⟨1,(EncX.ae v164).map DV.c⟩),(6,⟨1,(EncX.ae eR).map DV.c⟩)],[]⟩⟩
def Pg (pO:Bool)(v164 eR:ah)(n:Nat):Option HR:=
 bif pO then
  if v164.state≠1 then
   some (.r)
  else if eR.state≠2 then
   some (.r)
  else if eR.loc≠v164.loc then
   some (.r)
  else if eR.depth≠v164.depth then
   some (.r)
  else some (.m true)
 else some (.m false)
theorem aju (pO:Bool)(v164 eR:ah)(n:Nat)(o:HR)(h:Pg pO v164 eR n=some o):X.JF 5 251 (sub b5 [1,1,1,0,1,0,0,1,0,0,1,1,1,1,1,1,1,0,1,0,0,1,0,0,1,1,1,0]) [2,7,8,10,11,12,17,18,20,21] 7 [(18,dB pO),(20,.pt 5 1 0),(21,.pt 6 1 0)] [(5,⟨1,(EncX.ae v164).map DV.c⟩),(6,⟨1,(EncX.ae eR).map DV.c⟩)] (ajw o) (ajv pO v164 eR o):=by
 intro F G;refine Sys.dZ (w0 ?_)
 cases pO
 ·cases h
  exact wJ
 ·refine wi (29,4) h (fun h1 h=>?_) fun h1 h=>?_
  ·cases h
   exact wJ
  ·refine wi (29,8) h (fun h2 h=>?_) fun h2 h=>?_
   ·cases h
    exact wJ
   ·refine wi (29,15) h (fun h3 h=>?_) fun h3 h=>?_
    ·cases h
     exact wJ
    ·refine wi (29,22) h (fun h4 h=>?_) fun h4 h=>?_
     ·cases h
      exact wJ
     ·cases h
      exact wJ
inductive HS where
 | m (zl:Bool)
def ajz:HS->Ex
 | .m _=>.normal
def ajy (p2:Sl bT)(v10 bF:Int)(v164 eR:ah)(pP:Bool):HS->(Nat->DV)->List Ob->S
 | .m zl,F,G=>⟨fs F [2,7,8,10,11,12,17,248] [(2,.c (aq p2)),(10,aa v10),(17,aa bF),(248,dB zl)],⟨sl G 7 [(5,⟨1,(EncX.ae v164).map DV.c⟩),(6,⟨1,(EncX.ae eR).map DV.c⟩)],[]⟩⟩
def Ph (p2:Sl bT)(v10 bF:Int)(v164 eR:ah)(pP:Bool)(n:Nat):Option HS:=
 bif pP then
  some (.m false)
 else if v164=eR then
  some (.m false)
 else(aD p2.l v10).bind fun v206=>
 if v206.kind=0 then
  if bF≠v206.cZ then
   some (.m true)
  else if v206.kind=1 then
   some (.m true)
  else if v206.kind=2 then
   if v164.state≠1 then
    some (.m true)
   else if aF (v164.left - 1)then if eR.left≠(v164.left - 1)then
    some (.m true)
   else some (.m false)
   else none
  else some (.m false)
 else if v206.kind=1 then
  some (.m true)
 else if v206.kind=2 then
  if v164.state≠1 then
   some (.m true)
  else if aF (v164.left - 1)then if eR.left≠(v164.left - 1)then
   some (.m true)
  else some (.m false)
  else none
 else some (.m false)
theorem ajx (p2:Sl bT)(v10 bF:Int)(v164 eR:ah)(pP:Bool)(n:Nat)(o:HS)(h:Ph p2 v10 bF v164 eR pP n=some o):X.JF 5 251 (sub b5 [1,1,1,0,1,0,0,1,0,0,1,1,1,1,1,1,1,0,1,0,0,1,0,0,1,1,1,1,0]) [2,7,8,10,11,12,17,18,20,21,195] 7 [(2,.c (aq p2)),(10,aa v10),(17,aa bF),(18,dB pP),(20,.pt 5 1 0),(21,.pt 6 1 0)] [(5,⟨1,(EncX.ae v164).map DV.c⟩),(6,⟨1,(EncX.ae eR).map DV.c⟩)] (ajz o) (ajy p2 v10 bF v164 eR pP o):=by
 intro F G;refine Sys.dZ (w0 ?_)
 cases pP
 ·refine wI h (fun h1 h=>?_) fun h1 h=>?_
  ·refine wt (31,5) (.op { d:=dB false}) (afE (Qe v164 eR) h1)<|?_
   cases h
   exact wJ
  ·refine wt (31,5) (.op { d:=dB true}) (afF (Qe v164 eR) h1)<|wg h fun v206 h2 h=>wx (31,10) h2<|wl (31,12) 0 h2 rfl<|wi (31,13) h (fun h3 h=>?_) fun h3 h=>?_
   ·refine wx (31,18) h2<|wl (31,20) 1 h2 rfl<|wi (31,21) h (fun h4 h=>?_) fun h4 h=>?_
    ·cases h
     exact wJ
    ·refine wx (31,26) h2<|wl (31,28) 0 h2 rfl<|wi (31,29) h (fun h5 h=>?_) fun h5 h=>?_
     ·cases h
      exact wJ
     ·refine wx (31,34) h2<|wl (31,36) 0 h2 rfl<|wi (31,37) h (fun h6 h=>?_) fun h6 h=>?_
      ·refine wi (31,41) h (fun h7 h=>?_) fun h7 h=>?_
       ·cases h
        exact wJ
       ·refine wn (31,47) h fun h8 h=>wi (31,48) h (fun h9 h=>?_) fun h9 h=>?_
        ·cases h
         exact wJ
        ·cases h
         exact wJ
      ·cases h
       exact wJ
   ·refine wx (31,26) h2<|wl (31,28) 0 h2 rfl<|wi (31,29) h (fun h4 h=>?_) fun h4 h=>?_
    ·cases h
     exact wJ
    ·refine wx (31,34) h2<|wl (31,36) 0 h2 rfl<|wi (31,37) h (fun h5 h=>?_) fun h5 h=>?_
     ·refine wi (31,41) h (fun h6 h=>?_) fun h6 h=>?_
      ·cases h
       exact wJ
      ·refine wn (31,47) h fun h7 h=>wi (31,48) h (fun h8 h=>?_) fun h8 h=>?_
       ·cases h
        exact wJ
       ·cases h
        exact wJ
     ·cases h
      exact wJ
 ·cases h
  exact wJ
inductive HU where
 | r (o5 o6:ah)
 | e4 (bF:Int)
def ajE:HU->Ex
 | .r _ _=>.ret
 | .e4 _=>(.exit 4)
def ajD (p0:aj)(p2:Sl bT)(x:aT)(v10:Int)(o2 aG:bo)(ba:fB):HU->S
 | .r o5 o6=>⟨fl [(6,dB false)],⟨[⟨1,(EncX.ae p0).map DV.c⟩,⟨1,(EncX.ae x).map DV.c⟩,⟨1,(EncX.ae o2).map DV.c⟩,⟨1,(EncX.ae aG).map DV.c⟩,⟨1,(EncX.ae ba).map DV.c⟩,⟨1,(EncX.ae o5).map DV.c⟩,⟨1,(EncX.ae o6).map DV.c⟩],[]⟩⟩
 | .e4 bF=>⟨fl [(2,.c (aq p2)),(7,.pt 1 1 0),(8,.pt 2 1 0),(10,aa v10),(11,.pt 3 1 0),(12,.pt 4 1 0),(17,aa bF),(141,dB false)],⟨[⟨1,(EncX.ae p0).map DV.c⟩,⟨1,(EncX.ae x).map DV.c⟩,⟨1,(EncX.ae o2).map DV.c⟩,⟨1,(EncX.ae aG).map DV.c⟩,⟨1,(EncX.ae ba).map DV.c⟩],[]⟩⟩
def wG (p0:aj)(p2:Sl bT)(x:aT)(v10:Int)(o2 aG:bo)(ba:fB)(n:Nat):Nat->Int->Option HU
 | 0,_=>none
 | k+1,bF=>
  if bF<(o2.threads.l.length:Int)then
   (tV ba bF n n false 0).bind fun bD=>match bD with
   | .e6 pO ai0=>
    (aD o2.threads.l bF).bind fun v164=>
    (aD aG.threads.l bF).bind fun eR=>
    (Pg pO v164 eR n).bind fun c9=>match c9 with
    | .r=>
     some (.r v164 eR)
    | .m pP=>
     (Ph p2 v10 bF v164 eR pP n).bind fun gv=>match gv with
     | .m zl=>
      bif zl then
       some (.r v164 eR)
      else if aF (bF+1)then wG p0 p2 x v10 o2 aG ba n k (bF+1)
      else none
  else some (.e4 bF)
theorem W5 (p0:aj)(p2:Sl bT)(x:aT)(v10:Int)(o2 aG:bo)(ba:fB)(n:Nat):∀(k:Nat) (bF:Int) (o:HU),wG p0 p2 x v10 o2 aG ba n k bF=some o->X.LH 5 251 21 (sub b5 [1,1,1,0,1,0,0,1,0,0,1,1,1,1,1,1,1,0,1,0,0]) 5 ⟨fl [(2,.c (aq p2)),(7,.pt 1 1 0),(8,.pt 2 1 0),(10,aa v10),(11,.pt 3 1 0),(12,.pt 4 1 0),(17,aa bF)],⟨[⟨1,(EncX.ae p0).map DV.c⟩,⟨1,(EncX.ae x).map DV.c⟩,⟨1,(EncX.ae o2).map DV.c⟩,⟨1,(EncX.ae aG).map DV.c⟩,⟨1,(EncX.ae ba).map DV.c⟩],[]⟩⟩ (ajE o) (ajD p0 p2 x v10 o2 aG ba o):=by
 intro k;induction k with
 | zero=>intro _ _ h;exact nomatch h
 | succ k ih=>
  intro bF o h s hs
  refine Sys.bj hs (w0 ?_)
  refine wi (21,4) h (fun h0 h=>?_) fun h0 h=>?_
  ·refine wg h fun bD h1 h=>?_
   have h1:=ajF _ _ _ _ _ _ _ h1
   cases bD with
   | e6 pO ai0=>
    refine wO [1,0,0,1,0,1,0] h1<|wg h fun v164 h2 h=>wx (28,3) h2<|wa (28,4) h2<|wg h fun eR h3 h=>wx (28,8) h3<|wa (28,9) h3<|wg h fun c9 h4 h=>?_
    have h4:=aju _ _ _ _ _ h4
    cases c9 with
    | r=>
     refine wV 229003 [1,0,0,1,1,1,0] h4<|?_
     cases h
     exact wX
    | m pP=>
     refine wV 229003 [1,0,0,1,1,1,0] h4<|wg h fun gv h5 h=>?_
     have h5:=ajx _ _ _ _ _ _ _ _ h5
     cases gv with
     | m zl=>
      refine wV 31 [1,0,0,1,1,1,1,0] h5<|?_
      cases zl
      ·exact wn (22,1) h fun h7 h=>wN 21 [] (ih (bF+1) _ h)
      ·cases h
       exact wX
  ·cases h
   exact wX
inductive HW where
 | r (o2 o3:bo) (o4:fB)
 | vQ (o2 o3:bo) (o4:fB) (o5 o6:ah)
 | e0 (v10:Int) (o2:bo)
def ajK:HW->Ex
 | .r _ _ _=>.ret
 | .vQ _ _ _ _ _=>.ret
 | .e0 _ _=>(.exit 0)
def ajJ (p0:aj)(p2:Sl bT)(x:aT):HW->S
 | .r o2 o3 o4=>⟨fl [(6,dB false)],⟨[⟨1,(EncX.ae p0).map DV.c⟩,⟨1,(EncX.ae x).map DV.c⟩,⟨1,(EncX.ae o2).map DV.c⟩,⟨1,(EncX.ae o3).map DV.c⟩,⟨1,(EncX.ae o4).map DV.c⟩],[]⟩⟩
 | .vQ o2 o3 o4 o5 o6=>⟨fl [(6,dB false)],⟨[⟨1,(EncX.ae p0).map DV.c⟩,⟨1,(EncX.ae x).map DV.c⟩,⟨1,(EncX.ae o2).map DV.c⟩,⟨1,(EncX.ae o3).map DV.c⟩,⟨1,(EncX.ae o4).map DV.c⟩,⟨1,(EncX.ae o5).map DV.c⟩,⟨1,(EncX.ae o6).map DV.c⟩],[]⟩⟩
 | .e0 v10 o2=>⟨fl [(2,.c (aq p2)),(7,.pt 1 1 0),(8,.pt 2 1 0),(10,aa v10),(40,dB false)],⟨[⟨1,(EncX.ae p0).map DV.c⟩,⟨1,(EncX.ae x).map DV.c⟩,⟨1,(EncX.ae o2).map DV.c⟩],[]⟩⟩
def tW (p0:aj)(p2:Sl bT)(x:aT)(n:Nat):Nat->Int->bo->Option HW
 | 0,_,_=>none
 | k+1,v10,o2=>
  if v10<(p2.l.length:Int)then
   (aD p2.l v10).bind fun pQ=>
   (tJ n x o2 pQ).bind fun(aG,ba,ca)=>
   (wH n ca).bind fun cm=>
   if cm≠0 then
    if aF (v10+1)then tW p0 p2 x n k (v10+1) o2
    else none
   else if(aG.aB.l.length:Int)≠(o2.aB.l.length:Int)then
    some (.r o2 aG ba)
   else if(aG.threads.l.length:Int)≠(o2.threads.l.length:Int)then
    some (.r o2 aG ba)
   else(HP p2 x v10 o2 ba n).bind fun az=>match az with
   | .m bq=>
    (wF o2 aG n n 0 0).bind fun aY=>match aY with
    | .e2 DC DD=>
     if DC>1 then
      some (.r o2 aG ba)
     else if DC=1 then
      bif bq then
       (wG p0 p2 x v10 o2 aG ba n n 0).bind fun iv=>match iv with
       | .r o5 o6=>
        some (.vQ o2 aG ba o5 o6)
       | .e4 OZ=>
        if aF (v10+1)then tW p0 p2 x n k (v10+1) aG
        else none
      else some (.r o2 aG ba)
     else(wG p0 p2 x v10 o2 aG ba n n 0).bind fun vJ=>match vJ with
     | .r Ue Uf=>
      some (.vQ o2 aG ba Ue Uf)
     | .e4 aiZ=>
      if aF (v10+1)then tW p0 p2 x n k (v10+1) aG
      else none
  else some (.e0 v10 o2)
theorem ajI (p0:aj)(p2:Sl bT)(x:aT)(n:Nat):∀(k:Nat) (v10:Int) (o2:bo) (o:HW),tW p0 p2 x n k v10 o2=some o->X.LH 5 251 5 (sub b5 [1,1,1,0,1,0,0]) 3 ⟨fl [(2,.c (aq p2)),(7,.pt 1 1 0),(8,.pt 2 1 0),(10,aa v10)],⟨[⟨1,(EncX.ae p0).map DV.c⟩,⟨1,(EncX.ae x).map DV.c⟩,⟨1,(EncX.ae o2).map DV.c⟩],[]⟩⟩ (ajK o) (ajJ p0 p2 x o):=by
 intro k;induction k with
 | zero=>intro _ _ _ h;exact nomatch h
 | succ k ih=>
  intro v10 o2 o h s hs
  refine Sys.bj hs (w0 ?_)
  refine wi (5,3) h (fun h0 h=>?_) fun h0 h=>?_
  ·refine wg h fun pQ h1 h=>wx (7,4) h1<|wa (7,5) h1<|wc (7,6) h (fun _=>Dk) ?_
   rintro⟨aG,ba,ca⟩ h
   refine wc (8,1) h (fun _=>DQ) fun cm h=>wi (8,2) h (fun h4 h=>?_) fun h4 h=>?_
   ·exact wn (6,1) h fun h5 h=>wN 5 [] (ih (v10+1) o2 _ h)
   ·refine wi (9,6) h (fun h5 h=>?_) fun h5 h=>?_
    ·cases h
     exact wX
    ·refine wi (9,14) h (fun h6 h=>?_) fun h6 h=>?_
     ·cases h
      exact wX
     ·refine wg h fun az h7 h=>?_
      have h7:=ajr _ _ _ _ _ _ _ h7
      cases az with
      | m bq=>
       refine wV 11 [1,0,0,1,1,1,0] h7<|wg h fun aY h8 h=>?_
       have h8:=ajA _ _ _ _ _ _ _ h8
       cases aY with
       | e2 DC DD=>
        refine wO [1,0,0,1,1,1,1,1,0,1,0] h8<|wi (18,1) h (fun h9 h=>?_) fun h9 h=>?_
        ·cases h
         exact wX
        ·refine wi (18,4) h (fun dq h=>?_) fun dq h=>?_
         ·cases bq
          ·cases h
           exact wX
          ·refine wg h fun iv dT h=>?_
           have dT:=W5 _ _ _ _ _ _ _ _ _ _ _ dT
           cases iv with
           | r o5 o6=>
            refine wo [1,0,0,1,1,1,1,1,1,1,0,1,0] dT<|?_
            cases h
            exact wX
           | e4 OZ=>
            exact wo [1,0,0,1,1,1,1,1,1,1,0,1,0] dT<|wn (6,1) h fun kD h=>wN 5 [] (ih (v10+1) aG _ h)
         ·refine wg h fun vJ gg h=>?_
          have gg:=W5 _ _ _ _ _ _ _ _ _ _ _ gg
          cases vJ with
          | r Ue Uf=>
           refine wo [1,0,0,1,1,1,1,1,1,1,0,1,0] gg<|?_
           cases h
           exact wX
          | e4 aiZ=>
           exact wo [1,0,0,1,1,1,1,1,1,1,0,1,0] gg<|wn (6,1) h fun dT h=>wN 5 [] (ih (v10+1) aG _ h)
  ·cases h
   exact wX
def HO (n:Nat)(p0:aj)(p1:Sl Int)(p2:Sl bT):Option Bool:=
 (HX n p0 p1).bind fun(x,aC,av)=>
 bif av then
  if(p2.l.length:Int)>200 then
   (Kn.lv).bind fun aK=>
   some aK
  else(tW p0 p2 x n n 0 aC).bind fun NJ=>match NJ with
  | .r iP o3 o4=>
   some false
  | .vQ mu cI aew aex aey=>
   some false
  | .e0 cB Uc=>
   (Kn.lv).bind fun dV=>
   some dV
 else(Kn.lv).bind fun eS=>
 some eS
theorem ajL {n:Nat}{p0:aj}{p1:Sl Int}{p2:Sl bT}{r:Bool}(h:HO n p0 p1 p2=some r):X.bg 5 [.c (.agg (EncX.ae p0)),.c (aq p1),.c (aq p2)] (dB r):=by
 refine fC 251 b5 ?_
 refine wc (1,2) h (fun _=>ajP) ?_
 rintro⟨x,aC,av⟩ h
 cases av
 ·refine wg h ?_
  rintro eS g2 h
  have h2:=Kn.Nk g2
  refine wt (3,0) (.op { d:=dB eS}) (h2 [⟨1,(EncX.ae p0).map DV.c⟩,⟨1,(EncX.ae x).map DV.c⟩,⟨1,(EncX.ae aC).map DV.c⟩])<|?_
  cases h
  exact wC
 ·refine wi (2,5) h (fun h2 h=>?_) fun h2 h=>?_
  ·refine wg h ?_
   rintro aK g3 h
   have h3:=Kn.Nk g3
   refine wt (3,0) (.op { d:=dB aK}) (h3 [⟨1,(EncX.ae p0).map DV.c⟩,⟨1,(EncX.ae x).map DV.c⟩,⟨1,(EncX.ae aC).map DV.c⟩])<|?_
   cases h
   exact wC
  ·refine wg h fun NJ h3 h=>?_
   have h3:=ajI _ _ _ _ _ _ _ _ h3
   cases NJ with
   | r iP o3 o4=>
    refine wo [1,1,1,0,1,0] h3<|?_
    cases h
    exact wC
   | vQ mu cI aew aex aey=>
    refine wo [1,1,1,0,1,0] h3<|?_
    cases h
    exact wC
   | e0 cB Uc=>
    refine wo [1,1,1,0,1,0] h3<|wg h ?_
    rintro dV g4 h
    have h4:=Kn.Nk g4
    refine wt (34,0) (.op { d:=dB dV}) (h4 [⟨1,(EncX.ae p0).map DV.c⟩,⟨1,(EncX.ae x).map DV.c⟩,⟨1,(EncX.ae Uc).map DV.c⟩])<|?_
    cases h
    exact wC
end Go.Vig
