/-
-/
import Derived.Test.YtpadajnejknkeaaGreatFe
set_option linter.unusedVariables false
set_option linter.unusedSimpArgs false
set_option maxRecDepth 100000
set_option maxHeartbeats 1000000
namespace Go.Vig
open Go Go.Abs Go.Proofs
variable [Kn]
def aoN (ai:Sl aH)(ak:Sl aO)(ao:ByteArray)(aM:Bool)(bU:Int)(cY:List aS)(aL:List bn):List DV:=[.c (aq ai),.c (aq ak),.c (.sc (.string ao)),dB aM,aa bU,aP cY,aP aL]
def aoO (ai:Sl aH)(ak:Sl aO)(ao:ByteArray)(aM:Bool)(tg:Int)(rh:List aS)(px:List bn):List DV:=[.c (aq ai),.c (aq ak),.c (.sc (.string ao)),dB aM,aa tg,aP rh,aP px]
def aoP (ai:Sl aH)(ak:Sl aO)(ao:ByteArray)(aM:Bool)(kP:Int)(lr:List aS)(jj:List bn):List DV:=[.c (aq ai),.c (aq ak),.c (.sc (.string ao)),dB aM,aa kP,aP lr,aP jj]
def aoQ (ai:Sl aH)(ak:Sl aO)(ao:ByteArray)(aM:Bool)(eC:List bn)(kv:Int)(tj:List aS):List DV:=[.c (aq ai),.c (aq ak),.c (.sc (.string ao)),dB aM,aa kv,aP tj,aP eC]
def aoR (ai:Sl aH)(ak:Sl aO)(ao:ByteArray)(aM:Bool)(eC:List bn)(kv:Int)(lr:List aS):List DV:=[.c (aq ai),.c (aq ak),.c (.sc (.string ao)),dB aM,aa kv,aP lr,aP eC]
def Xv (ai:Sl aH)(ak:Sl aO)(ao:ByteArray)(aM:Bool)(bU:Int)(cY:List aS)(aL:List bn):List DV:=[.c (aq ai),.c (aq ak),.c (.sc (.string ao)),dB aM,aa bU,aP cY,aP aL]
def ao0 (ai:Sl aH)(ak:Sl aO)(ao:ByteArray)(aM:Bool)(jU:Int)(fT:List aS)(cL:List bn):List DV:=[.c (aq ai),.c (aq ak),.c (.sc (.string ao)),dB aM,aa jU,aP fT,aP cL]
def ao1 (ai:Sl aH)(ak:Sl aO)(ao:ByteArray)(aM:Bool)(kP:Int)(lr:List aS)(jj:List bn):List DV:=[.c (aq ai),.c (aq ak),.c (.sc (.string ao)),dB aM,aa kP,aP lr,aP jj]
abbrev PD:=af->Int->Sl aH->Sl aO->ByteArray->Bool->Int->List aS->List bn->Option (Int×Int×List aS×List bn)
def Xu (f:PD):Prop:=∀(p1:af) (p2:Int) (ai:Sl aH) (ak:Sl aO) (ao:ByteArray) (aM:Bool) (bU:Int) (cY:List aS) (aL:List bn) (r:Int×Int×List aS×List bn),f p1 p2 ai ak ao aM bU cY aL=some r->X.cD 118 [.pt 0 1 0,.c (.agg (EncX.ae p1)),aa p2] (bm [.x 1 (aoN ai ak ao aM bU cY aL)]) (aa r.1) (bm [.x 1 [.c (aq ai),.c (aq ak),.c (.sc (.string ao)),dB aM,aa r.2.1,aP r.2.2.1,aP r.2.2.2]])
abbrev D9:=Sl af->Int->dS->Sl aH->Sl aO->ByteArray->Bool->Int->List aS->List bn->Option (Int×Int×Int×List aS×List bn)
def PE (f:D9):Prop:=∀(p1:Sl af) (p2:Int) (p3:dS) (ai:Sl aH) (ak:Sl aO) (ao:ByteArray) (aM:Bool) (bU:Int) (cY:List aS) (aL:List bn) (r:Int×Int×Int×List aS×List bn),f p1 p2 p3 ai ak ao aM bU cY aL=some r->X.cD 95 [.pt 0 1 0,.c (aq p1),aa p2,.c (.agg (EncX.ae p3))] (bm [.x 1 (Xv ai ak ao aM bU cY aL)]) (.aX [aa r.1,aa r.2.1]) (bm [.x 1 [.c (aq ai),.c (aq ak),.c (.sc (.string ao)),dB aM,aa r.2.2.1,aP r.2.2.2.1,aP r.2.2.2.2]])
inductive JT where
 | e1 (v20:List Int) (v21 kP:Int) (lr:List aS) (jj:List bn)
def aoJ:JT->Ex
 | .e1 _ _ _ _ _=>(.exit 1)
def aoI (p1:af)(p2:Int)(ai:Sl aH)(ak:Sl aO)(ao:ByteArray)(aM:Bool):JT->(Nat->DV)->List Ob->S
 | .e1 v20 v21 kP lr jj,F,G=>⟨fs F [0,2,4,20,21,183] [(0,.pt 0 1 0),(2,aa p2),(4,.pt 1 1 0),(20,aP v20),(21,aa v21),(183,dB false)],⟨sl G 2 [(0,⟨1,(aoP ai ak ao aM kP lr jj)⟩),(1,⟨1,(EncX.ae p1).map DV.c⟩)],[]⟩⟩
def Ax (jE:D9)(p1:af)(p2:Int)(ai:Sl aH)(ak:Sl aO)(ao:ByteArray)(aM:Bool)(n:Nat):Nat->List Int->Int->Int->List aS->List bn->Option JT
 | 0,_,_,_,_,_=>none
 | k+1,v20,v21,tg,rh,px=>
  if v21<(p1.blocks.l.length:Int)then
   (jJ n ai ak ao aM tg rh px).bind fun(uj,PZ)=>
   (gX n ({ from_:=p2,a8:=uj,kind:=9,n_:=v21,at_:=p1.at_}:aS) ai ak ao aM PZ rh px).bind fun XU=>
   (aD p1.blocks.l v21).bind fun v201=>
   (jE v201 uj ({}:dS) ai ak ao aM PZ XU px).bind fun(rW,Ek,P1,P2,P3)=>
   if Room 8 (v20++([rW]:List Int)).length then if aF (v21+1)then Ax jE p1 p2 ai ak ao aM n k (v20++([rW]:List Int)) (v21+1) P1 P2 P3
   else none
   else none
  else some (.e1 v20 v21 tg rh px)
theorem aoH (jE:D9)(p1:af)(p2:Int)(ai:Sl aH)(ak:Sl aO)(ao:ByteArray)(aM:Bool)(oK:PE jE)(n:Nat):∀(k:Nat) (v20:List Int) (v21:Int) (tg:Int) (rh:List aS) (px:List bn) (o:JT),Ax jE p1 p2 ai ak ao aM n k v20 v21 tg rh px=some o->X.LF 118 231 29 (sub KU [1,1,1,0,1,0,0]) 2 [(0,.pt 0 1 0),(2,aa p2),(4,.pt 1 1 0),(20,aP v20),(21,aa v21)] [(0,⟨1,(aoO ai ak ao aM tg rh px)⟩),(1,⟨1,(EncX.ae p1).map DV.c⟩)] (aoJ o) (aoI p1 p2 ai ak ao aM o):=by
 intro k;induction k with
 | zero=>intro _ _ _ _ _ _ h;exact nomatch h
 | succ k ih=>
  intro v20 v21 tg rh px o h F G s hs
  refine Sys.bj hs (w0 ?_)
  refine wi (29,4) h (fun h0 h=>?_) fun h0 h=>?_
  ·refine wy (31,1) h (fun _=>kX) ?_
   rintro⟨uj,PZ⟩ h
   refine wy (32,7) h (fun _=>js) fun XU h=>wg h fun v201 h3 h=>wx (33,4) h3<|wl (33,5) 0 h3 rfl<|wy (33,8) h (fun _=>oK _ _ _ _ _ _ _ _ _ _ _) ?_
   rintro⟨rW,Ek,P1,P2,P3⟩ h
   exact wq h fun h5 h=>dG (34,3) h5<|wn (30,1) h fun h6 h=>wN 29 [] (ih (v20++([rW]:List Int)) (v21+1) P1 P2 P3 _ h F G)
  ·cases h
   exact wX
inductive JU where
 | e3 (dP:Int) (lr:List aS)
def aoM:JU->Ex
 | .e3 _ _=>(.exit 3)
def aoL (p1:af)(ai:Sl aH)(ak:Sl aO)(ao:ByteArray)(aM:Bool)(lE:List Int)(eC:List bn)(kZ kv:Int):JU->(Nat->DV)->List Ob->S
 | .e3 dP lr,F,G=>⟨fs F [0,4,20,25,26,217] [(0,.pt 0 1 0),(4,.pt 1 1 0),(20,aP lE),(25,aa kZ),(26,aa dP),(217,dB false)],⟨sl G 2 [(0,⟨1,(aoR ai ak ao aM eC kv lr)⟩),(1,⟨1,(EncX.ae p1).map DV.c⟩)],[]⟩⟩
def Ay (p1:af)(ai:Sl aH)(ak:Sl aO)(ao:ByteArray)(aM:Bool)(lE:List Int)(eC:List bn)(kZ kv:Int)(n:Nat):Nat->Int->List aS->Option JU
 | 0,_,_=>none
 | k+1,dP,tj=>
  if dP<(lE.length:Int)then
   (aD lE dP).bind fun WG=>
   (gX n ({ from_:=WG,a8:=kZ,kind:=1,at_:=p1.at_}:aS) ai ak ao aM kv tj eC).bind fun P4=>
   if aF (dP+1)then Ay p1 ai ak ao aM lE eC kZ kv n k (dP+1) P4
   else none
  else some (.e3 dP tj)
theorem aoK (p1:af)(ai:Sl aH)(ak:Sl aO)(ao:ByteArray)(aM:Bool)(lE:List Int)(eC:List bn)(kZ kv:Int)(n:Nat):∀(k:Nat) (dP:Int) (tj:List aS) (o:JU),Ay p1 ai ak ao aM lE eC kZ kv n k dP tj=some o->X.LF 118 231 37 (sub KU [1,1,1,1,1,0,1,0,0]) 2 [(0,.pt 0 1 0),(4,.pt 1 1 0),(20,aP lE),(25,aa kZ),(26,aa dP)] [(0,⟨1,(aoQ ai ak ao aM eC kv tj)⟩),(1,⟨1,(EncX.ae p1).map DV.c⟩)] (aoM o) (aoL p1 ai ak ao aM lE eC kZ kv o):=by
 intro k;induction k with
 | zero=>intro _ _ _ h;exact nomatch h
 | succ k ih=>
  intro dP tj o h F G s hs
  refine Sys.bj hs (w0 ?_)
  refine wi (37,3) h (fun h0 h=>?_) fun h0 h=>?_
  ·exact wg h fun WG h1 h=>wx (39,3) h1<|wl (39,4) 0 h1 rfl<|wy (39,9) h (fun _=>js) fun P4 h=>wn (38,1) h fun h3 h=>wN 37 [] (ih (dP+1) P4 _ h F G)
  ·cases h
   exact wX
inductive JV where
 | m (zk:Bool)
def aoV:JV->Ex
 | .m _=>.normal
def aoU (ck:af):JV->(Nat->DV)->List Ob->S
 | .m zk,F,G=>⟨fs F [0,1,2,7,10,11,12,13,46,104] [(46,aa ck.kind),(104,dB zk)],⟨sl G 3 [],[]⟩⟩
def PF (ck:af)(n:Nat):Option JV:=
 if ck.kind=1 then
  some (.m true)
 else if ck.kind=10 then
  some (.m true)
 else if ck.kind=11 then
  some (.m true)
 else some (.m false)
theorem aoT (ck:af)(n:Nat)(o:JV)(h:PF ck n=some o):X.JF 95 194 (sub K5 [1,1,0,1,0,0,1,0,0,1,1,1,0,1,1,0]) [0,1,2,7,10,11,12,13,46,51] 3 [(46,aa ck.kind)] [] (aoV o) (aoU ck o):=by
 intro F G;refine Sys.dZ (w0 ?_)
 refine wi (20,0) h (fun h0 h=>?_) fun h0 h=>?_
 ·cases h
  exact wJ
 ·refine wi (21,0) h (fun h1 h=>?_) fun h1 h=>?_
  ·cases h
   exact wJ
  ·refine wi (22,0) h (fun h2 h=>?_) fun h2 h=>?_
   ·cases h
    exact wJ
   ·cases h
    exact wJ
inductive JW where
 | e0 (v2 v10 v11 kP:Int) (lr:List aS) (jj:List bn)
def aoY:JW->Ex
 | .e0 _ _ _ _ _ _=>(.exit 0)
def aoX (p1:Sl af)(p3:dS)(ai:Sl aH)(ak:Sl aO)(ao:ByteArray)(aM:Bool):JW->S
 | .e0 v2 v10 v11 kP lr jj=>⟨fl [(0,.pt 0 1 0),(1,.c (aq p1)),(2,aa v2),(7,.pt 1 1 0),(10,aa v10),(11,aa v11),(28,dB false)],⟨[⟨1,(ao1 ai ak ao aM kP lr jj)⟩,⟨1,(EncX.ae p3).map DV.c⟩],[]⟩⟩
def lK (jE:D9)(nk:PD)(p1:Sl af)(p3:dS)(ai:Sl aH)(ak:Sl aO)(ao:ByteArray)(aM:Bool)(n:Nat):Nat->Int->Int->Int->Int->List aS->List bn->Option JW
 | 0,_,_,_,_,_,_=>none
 | k+1,v2,v10,v11,jU,fT,cL=>
  if v11<(p1.l.length:Int)then
   (aD p1.l v11).bind fun ck=>
   (pY n ({ aw:=ai,aR:=ak}:aj) ck.mon).bind fun(x,aC)=>
   if ck.kind=9 then
    if p3.bW=true then
     if p3.loop=true then
      if Room 96 (cL++([({ mon:=x,e_:=p3.e_,loop:=true}:bn)]:List bn)).length then(jJ n ai ak ao aM jU fT (cL++([({ mon:=x,e_:=p3.e_,loop:=true}:bn)]:List bn))).bind fun(av,y0)=>
      (gX n ({ from_:=v2,a8:=av,kind:=6,mon:=x,n_:=ck.n_,site:=((cL++([({ mon:=x,e_:=p3.e_,loop:=true}:bn)]:List bn)).length:Int),at_:=ck.at_}:aS) ai ak ao aM y0 fT (cL++([({ mon:=x,e_:=p3.e_,loop:=true}:bn)]:List bn))).bind fun ek=>
      if aF (v11+1)then lK jE nk p1 p3 ai ak ao aM n k av ((cL++([({ mon:=x,e_:=p3.e_,loop:=true}:bn)]:List bn)).length:Int) (v11+1) y0 ek (cL++([({ mon:=x,e_:=p3.e_,loop:=true}:bn)]:List bn))
      else none
      else none
     else if Room 96 (cL++([({ mon:=x,e_:=p3.e_}:bn)]:List bn)).length then(jJ n ai ak ao aM jU fT (cL++([({ mon:=x,e_:=p3.e_}:bn)]:List bn))).bind fun(aK,gE)=>
     (gX n ({ from_:=v2,a8:=aK,kind:=6,mon:=x,n_:=ck.n_,site:=((cL++([({ mon:=x,e_:=p3.e_}:bn)]:List bn)).length:Int),at_:=ck.at_}:aS) ai ak ao aM gE fT (cL++([({ mon:=x,e_:=p3.e_}:bn)]:List bn))).bind fun lM=>
     if aF (v11+1)then lK jE nk p1 p3 ai ak ao aM n k aK ((cL++([({ mon:=x,e_:=p3.e_}:bn)]:List bn)).length:Int) (v11+1) gE lM (cL++([({ mon:=x,e_:=p3.e_}:bn)]:List bn))
     else none
     else none
    else if Room 96 (cL++([({ mon:=x,e_:=({ op:=2,at_:=ck.at_}:au)}:bn)]:List bn)).length then(jJ n ai ak ao aM jU fT (cL++([({ mon:=x,e_:=({ op:=2,at_:=ck.at_}:au)}:bn)]:List bn))).bind fun(aG,j3)=>
    (gX n ({ from_:=v2,a8:=aG,kind:=6,mon:=x,n_:=ck.n_,site:=((cL++([({ mon:=x,e_:=({ op:=2,at_:=ck.at_}:au)}:bn)]:List bn)).length:Int),out:=((cL++([({ mon:=x,e_:=({ op:=2,at_:=ck.at_}:au)}:bn)]:List bn)).length:Int),at_:=ck.at_}:aS) ai ak ao aM j3 fT (cL++([({ mon:=x,e_:=({ op:=2,at_:=ck.at_}:au)}:bn)]:List bn))).bind fun oH=>
    if aF (v11+1)then lK jE nk p1 p3 ai ak ao aM n k aG ((cL++([({ mon:=x,e_:=({ op:=2,at_:=ck.at_}:au)}:bn)]:List bn)).length:Int) (v11+1) j3 oH (cL++([({ mon:=x,e_:=({ op:=2,at_:=ck.at_}:au)}:bn)]:List bn))
    else none
    else none
   else(PF ck n).bind fun az=>match az with
   | .m zk=>
    bif zk then
     (jJ n ai ak ao aM jU fT cL).bind fun(ba,k5)=>
     if ck.kind≠1 then
      if aF (7+ck.kind)then if aF ((7+ck.kind) - 10)then(gX n ({ from_:=v2,a8:=ba,kind:=((7+ck.kind) - 10),mon:=x,at_:=ck.at_}:aS) ai ak ao aM k5 fT cL).bind fun mL=>
      if aF (v11+1)then lK jE nk p1 p3 ai ak ao aM n k ba v10 (v11+1) k5 mL cL
      else none
      else none
      else none
     else(gX n ({ from_:=v2,a8:=ba,kind:=1,at_:=ck.at_}:aS) ai ak ao aM k5 fT cL).bind fun xq=>
     if aF (v11+1)then lK jE nk p1 p3 ai ak ao aM n k ba v10 (v11+1) k5 xq cL
     else none
    else if ck.kind=2 then
     (ua n ({ aw:=ai,aR:=ak}:aj) ck.mon ck.name).bind fun(ca,cm)=>
     (jJ n ai ak ao aM jU fT cL).bind fun(dV,uk)=>
     (gX n ({ from_:=v2,a8:=dV,kind:=3,var:=ca,e_:=ck.e_,at_:=ck.at_}:aS) ai ak ao aM uk fT cL).bind fun AL=>
     if aF (v11+1)then lK jE nk p1 p3 ai ak ao aM n k dV v10 (v11+1) uk AL cL
     else none
    else if ck.kind=7 then
     (jJ n ai ak ao aM jU fT cL).bind fun(eS,xl)=>
     (gX n ({ from_:=v2,a8:=eS,kind:=4,mon:=x,at_:=ck.at_}:aS) ai ak ao aM xl fT cL).bind fun El=>
     (aD ck.blocks.l 0).bind fun v173=>
     (jE v173 eS ({}:dS) ai ak ao aM xl El cL).bind fun(iY,ku,Em,xm,um)=>
     (jJ n ai ak ao aM Em xm um).bind fun(iB,uo)=>
     (gX n ({ from_:=iY,a8:=iB,kind:=5,mon:=x,at_:=ck.at_}:aS) ai ak ao aM uo xm um).bind fun AM=>
     if aF (v11+1)then lK jE nk p1 p3 ai ak ao aM n k iB v10 (v11+1) uo AM um
     else none
    else(nk ck v2 ai ak ao aM jU fT cL).bind fun(iZ,rX,xn,xp)=>
    if aF (v11+1)then lK jE nk p1 p3 ai ak ao aM n k iZ v10 (v11+1) rX xn xp
    else none
  else some (.e0 v2 v10 v11 jU fT cL)
theorem aoW (jE:D9)(nk:PD)(p1:Sl af)(p3:dS)(ai:Sl aH)(ak:Sl aO)(ao:ByteArray)(aM:Bool)(oK:PE jE)(KD:Xu nk)(n:Nat):∀(k:Nat) (v2:Int) (v10:Int) (v11:Int) (jU:Int) (fT:List aS) (cL:List bn) (o:JW),lK jE nk p1 p3 ai ak ao aM n k v2 v10 v11 jU fT cL=some o->X.LH 95 194 3 (sub K5 [1,1,0,1,0,0]) 2 ⟨fl [(0,.pt 0 1 0),(1,.c (aq p1)),(2,aa v2),(7,.pt 1 1 0),(10,aa v10),(11,aa v11)],⟨[⟨1,(ao0 ai ak ao aM jU fT cL)⟩,⟨1,(EncX.ae p3).map DV.c⟩],[]⟩⟩ (aoY o) (aoX p1 p3 ai ak ao aM o):=by
 intro k;induction k with
 | zero=>intro _ _ _ _ _ _ _ h;exact nomatch h
 | succ k ih=>
  intro v2 v10 v11 jU fT cL o h s hs
  refine Sys.bj hs (w0 ?_)
  refine wi (3,3) h (fun h0 h=>?_) fun h0 h=>?_
  ·refine wg h fun ck h1 h=>wx (5,2) h1<|wa (5,3) h1<|wc (6,6) h (fun _=>wT) ?_
   rintro⟨x,aC⟩ h
   refine wi (9,0) h (fun h3 h=>?_) fun h3 h=>?_
   ·refine wI h (fun h4 h=>?_) fun h4 h=>?_
    ·refine wt (11,1) (.op { d:=dB true}) (kz h4)<|wI h (fun h5 h=>?_) fun h5 h=>?_
     ·refine wt (12,3) (.op { d:=dB true}) (kz h5)<|wq h fun h6 h=>dG (13,8) h6<|wy (15,2) h (fun _=>kX) ?_
      rintro⟨av,y0⟩ h
      exact wt (16,1) (.op { d:=dB true}) (kz h4)<|wy (18,2) h (fun _=>js) fun ek h=>wn (4,1) h fun h9 h=>wN 3 [] (ih av ((cL++([({ mon:=x,e_:=p3.e_,loop:=true}:bn)]:List bn)).length:Int) (v11+1) y0 ek (cL++([({ mon:=x,e_:=p3.e_,loop:=true}:bn)]:List bn)) _ h)
     ·refine wt (12,3) (.op { d:=dB false}) (kz (eq_false_of_ne_true h5))<|wq h fun h6 h=>dG (13,8) h6<|wy (15,2) h (fun _=>kX) ?_
      rintro⟨aK,gE⟩ h
      exact wt (16,1) (.op { d:=dB true}) (kz h4)<|wy (18,2) h (fun _=>js) fun lM h=>wn (4,1) h fun h9 h=>wN 3 [] (ih aK ((cL++([({ mon:=x,e_:=p3.e_}:bn)]:List bn)).length:Int) (v11+1) gE lM (cL++([({ mon:=x,e_:=p3.e_}:bn)]:List bn)) _ h)
    ·refine wt (11,1) (.op { d:=dB false}) (kz (eq_false_of_ne_true h4))<|wq h fun h5 h=>dG (13,8) h5<|wy (15,2) h (fun _=>kX) ?_
     rintro⟨aG,j3⟩ h
     exact wt (16,1) (.op { d:=dB false}) (kz (eq_false_of_ne_true h4))<|wy (18,2) h (fun _=>js) fun oH h=>wn (4,1) h fun h8 h=>wN 3 [] (ih aG ((cL++([({ mon:=x,e_:=({ op:=2,at_:=ck.at_}:au)}:bn)]:List bn)).length:Int) (v11+1) j3 oH (cL++([({ mon:=x,e_:=({ op:=2,at_:=ck.at_}:au)}:bn)]:List bn)) _ h)
   ·refine wg h fun az h4 h=>?_
    have h4:=aoT _ _ _ h4
    cases az with
    | m zk=>
     refine wV 220004 [1,0,0,1,1,1,0,1,1,0] h4<|?_
     cases zk
     ·refine wi (28,0) h (fun h6 h=>?_) fun h6 h=>?_
      ·refine wc (29,8) h (fun _=>DX) ?_
       rintro⟨ca,cm⟩ h
       refine wy (30,2) h (fun _=>kX) ?_
       rintro⟨dV,uk⟩ h
       exact wy (31,2) h (fun _=>js) fun AL h=>wn (4,1) h fun dq h=>wN 3 [] (ih dV v10 (v11+1) uk AL cL _ h)
      ·refine wi (33,0) h (fun h7 h=>?_) fun h7 h=>?_
       ·refine wy (34,2) h (fun _=>kX) ?_
        rintro⟨eS,xl⟩ h
        refine wy (35,2) h (fun _=>js) fun El h=>wg h fun v173 dq h=>wx (36,3) dq<|wl (36,4) 0 dq rfl<|wy (36,8) h (fun _=>oK _ _ _ _ _ _ _ _ _ _ _) ?_
        rintro⟨iY,ku,Em,xm,um⟩ h
        refine wy (37,1) h (fun _=>kX) ?_
        rintro⟨iB,uo⟩ h
        exact wy (38,7) h (fun _=>js) fun AM h=>wn (4,1) h fun lY h=>wN 3 [] (ih iB v10 (v11+1) uo AM um _ h)
       ·refine wy (8,3) h (fun _=>KD _ _ _ _ _ _ _ _ _ _) ?_
        rintro⟨iZ,rX,xn,xp⟩ h
        exact wn (4,1) h fun h9 h=>wN 3 [] (ih iZ v10 (v11+1) rX xn xp _ h)
     ·refine wy (23,2) h (fun _=>kX) ?_
      rintro⟨ba,k5⟩ h
      refine wi (24,2) h (fun h7 h=>?_) fun h7 h=>?_
      ·exact wn (25,2) h fun h8 h=>wn (25,3) h fun h9 h=>wy (26,2) h (fun _=>js) fun mL h=>wn (4,1) h fun gg h=>wN 3 [] (ih ba v10 (v11+1) k5 mL cL _ h)
      ·exact wy (26,2) h (fun _=>js) fun xq h=>wn (4,1) h fun h9 h=>wN 3 [] (ih ba v10 (v11+1) k5 xq cL _ h)
  ·cases h
   exact wX
mutual
def rU:Nat->af->Int->Sl aH->Sl aO->ByteArray->Bool->Int->List aS->List bn->Option (Int×Int×List aS×List bn)
 | 0,_,_,_,_,_,_,_,_,_=>none
 | n+1,p1,p2,ai,ak,ao,aM,bU,cY,aL=>
  if p1.kind=3 then
   (jJ n ai ak ao aM bU cY aL).bind fun(x,y0)=>
   (gX n ({ from_:=p2,a8:=x,kind:=2,e_:=p1.e_,at_:=p1.e_.at_}:aS) ai ak ao aM y0 cY aL).bind fun ek=>
   (aD p1.blocks.l 0).bind fun gz=>
   (xg n p1.e_).bind fun aC=>
   ((jK n) gz x ({ bW:=true,e_:=aC}:dS) ai ak ao aM y0 ek aL).bind fun(av,aK,gE,lM,j3)=>
   (jJ n ai ak ao aM gE lM j3).bind fun(aG,oH)=>
   (gX n ({ from_:=av,a8:=aG,kind:=1,out:=aK,at_:=p1.at_}:aS) ai ak ao aM oH lM j3).bind fun k5=>
   (jJ n ai ak ao aM oH k5 j3).bind fun(ba,mL)=>
   (xg n p1.e_).bind fun ca=>
   (gX n ({ from_:=p2,a8:=ba,kind:=2,e_:=ca,at_:=p1.e_.at_}:aS) ai ak ao aM mL k5 j3).bind fun xq=>
   if(p1.blocks.l.length:Int)>1 then
    (aD p1.blocks.l 1).bind fun DM=>
    ((jK n) DM ba ({ bW:=true,e_:=p1.e_}:dS) ai ak ao aM mL xq j3).bind fun(cm,dV,uk,AL,xl)=>
    (gX n ({ from_:=cm,a8:=aG,kind:=1,out:=dV,at_:=p1.at_}:aS) ai ak ao aM uk AL xl).bind fun El=>
    some (aG,uk,El,xl)
   else(gX n ({ from_:=ba,a8:=aG,kind:=1,at_:=p1.at_}:aS) ai ak ao aM mL xq j3).bind fun Em=>
   some (aG,mL,Em,j3)
  else if p1.kind=4 then
   (jJ n ai ak ao aM bU cY aL).bind fun(eS,xm)=>
   (gX n ({ from_:=p2,a8:=eS,kind:=2,e_:=p1.e_,at_:=p1.e_.at_}:aS) ai ak ao aM xm cY aL).bind fun um=>
   (aD p1.blocks.l 0).bind fun WA=>
   (xg n p1.e_).bind fun iY=>
   ((jK n) WA eS ({ bW:=true,e_:=iY,loop:=true}:dS) ai ak ao aM xm um aL).bind fun(ku,iB,uo,AM,rX)=>
   (gX n ({ from_:=ku,a8:=p2,kind:=1,at_:=p1.at_}:aS) ai ak ao aM uo AM rX).bind fun xn=>
   (jJ n ai ak ao aM uo xn rX).bind fun(iZ,xp)=>
   (xg n p1.e_).bind fun ny=>
   (gX n ({ from_:=p2,a8:=iZ,kind:=2,e_:=ny,out:=iB,at_:=p1.e_.at_}:aS) ai ak ao aM xp xn rX).bind fun XR=>
   some (iZ,xp,XR,rX)
  else if p1.kind=5 then
   (aD p1.blocks.l 0).bind fun WC=>
   ((jK n) WC p2 ({}:dS) ai ak ao aM bU cY aL).bind fun(oG,PU,PX,XS,Ko)=>
   (gX n ({ from_:=oG,a8:=p2,kind:=1,at_:=p1.at_}:aS) ai ak ao aM PX XS Ko).bind fun PY=>
   (jJ n ai ak ao aM PX PY Ko).bind fun(Ej,XT)=>
   some (Ej,XT,PY,Ko)
  else(Ax (jK n) p1 p2 ai ak ao aM n n ([]:List Int) 0 bU cY aL).bind fun az=>match az with
  | .e1 lE ai1 tf yK eC=>
   (jJ n ai ak ao aM tf yK eC).bind fun(kZ,kv)=>
   (Ay p1 ai ak ao aM lE eC kZ kv n n 0 yK).bind fun aY=>match aY with
   | .e3 O0 fT=>
    some (kZ,kv,fT,eC)
def jK:Nat->Sl af->Int->dS->Sl aH->Sl aO->ByteArray->Bool->Int->List aS->List bn->Option (Int×Int×Int×List aS×List bn)
 | 0,_,_,_,_,_,_,_,_,_,_=>none
 | n+1,p1,p2,p3,ai,ak,ao,aM,bU,cY,aL=>
  (lK (jK n) (rU n) p1 p3 ai ak ao aM n n p2 0 0 bU cY aL).bind fun aY=>match aY with
  | .e0 lF cB ov tf yK eC=>
   some (lF,cB,tf,yK,eC)
end
theorem aoZ:∀n:Nat,Xu (rU n)∧PE (jK n):=by
 intro n
 induction n with
 | zero=>
  refine⟨?_,?_⟩
  ·intro p1 p2 ai ak ao aM bU cY aL r h;unfold rU at h;cases h
  ·intro p1 p2 p3 ai ak ao aM bU cY aL r h;unfold jK at h;cases h
 | succ n ih=>
  obtain⟨KD,oK⟩:=ih
  refine⟨?_,?_⟩
  ·intro p1 p2 ai ak ao aM bU cY aL r h
   unfold rU at h
   refine fL 231 KU ?_
   refine wi (2,0) h (fun h0 h=>?_) fun h0 h=>?_
   ·refine wy (3,1) h (fun _=>kX) ?_
    rintro⟨x,y0⟩ h
    refine wy (4,9) h (fun _=>js) fun ek h=>wg h fun gz h3 h=>wx (5,3) h3<|wl (5,4) 0 h3 rfl<|wc (5,8) h (fun _=>JZ) fun aC h=>wy (5,10) h (fun _=>oK _ _ _ _ _ _ _ _ _ _ _) ?_
    rintro⟨av,aK,gE,lM,j3⟩ h
    refine wy (6,1) h (fun _=>kX) ?_
    rintro⟨aG,oH⟩ h
    refine wy (7,7) h (fun _=>js) fun k5 h=>wy (8,1) h (fun _=>kX) ?_
    rintro⟨ba,mL⟩ h
    refine wc (9,5) h (fun _=>JZ) fun ca h=>wy (9,10) h (fun _=>js) fun xq h=>wi (11,3) h (fun gg h=>?_) fun gg h=>?_
    ·refine wg h fun DM dT h=>wx (12,3) dT<|wl (12,4) 0 dT rfl<|wy (12,9) h (fun _=>oK _ _ _ _ _ _ _ _ _ _ _) ?_
     rintro⟨cm,dV,uk,AL,xl⟩ h
     refine wy (13,7) h (fun _=>js) fun El h=>?_
     cases h
     exact wL []
    ·refine wy (13,7) h (fun _=>js) fun Em h=>?_
     cases h
     exact wL []
   ·refine wi (15,0) h (fun h1 h=>?_) fun h1 h=>?_
    ·refine wy (16,1) h (fun _=>kX) ?_
     rintro⟨eS,xm⟩ h
     refine wy (17,9) h (fun _=>js) fun um h=>wg h fun WA h4 h=>wx (18,3) h4<|wl (18,4) 0 h4 rfl<|wc (18,8) h (fun _=>JZ) fun iY h=>wy (18,10) h (fun _=>oK _ _ _ _ _ _ _ _ _ _ _) ?_
     rintro⟨ku,iB,uo,AM,rX⟩ h
     refine wy (19,6) h (fun _=>js) fun xn h=>wy (20,1) h (fun _=>kX) ?_
     rintro⟨iZ,xp⟩ h
     refine wc (21,5) h (fun _=>JZ) fun ny h=>wy (21,11) h (fun _=>js) fun XR h=>?_
     cases h
     exact wL []
    ·refine wi (23,0) h (fun h2 h=>?_) fun h2 h=>?_
     ·refine wg h fun WC h3 h=>wx (24,3) h3<|wl (24,4) 0 h3 rfl<|wy (24,7) h (fun _=>oK _ _ _ _ _ _ _ _ _ _ _) ?_
      rintro⟨oG,PU,PX,XS,Ko⟩ h
      refine wy (25,6) h (fun _=>js) fun PY h=>wy (26,1) h (fun _=>kX) ?_
      rintro⟨Ej,XT⟩ h
      cases h
      exact wL []
     ·refine wg h fun az h3 h=>?_
      have h3:=aoH _ _ _ _ _ _ _ oK _ _ _ _ _ _ _ _ h3
      cases az with
      | e1 lE ai1 tf yK eC=>
       refine wO [1,1,1,0,1,0] h3<|wy (35,1) h (fun _=>kX) ?_
       rintro⟨kZ,kv⟩ h
       refine wg h fun aY h5 h=>?_
       have h5:=aoK _ _ _ _ _ _ _ _ _ _ _ _ _ _ h5
       cases aY with
       | e3 O0 fT=>
        refine wO [1,1,1,1,1,0,1,0] h5<|?_
        cases h
        exact wL []
  ·intro p1 p2 p3 ai ak ao aM bU cY aL r h
   unfold jK at h
   refine fL 194 K5 ?_
   refine wg h fun aY h0 h=>?_
   have h0:=aoW _ _ _ _ _ _ _ _ oK KD _ _ _ _ _ _ _ _ _ h0
   cases aY with
   | e0 lF cB ov tf yK eC=>
    refine wo [1,1,0,1,0] h0<|?_
    cases h
    exact wL []
theorem ao2 {n:Nat}{p1:Sl af}{p2:Int}{p3:dS}{ai:Sl aH}{ak:Sl aO}{ao:ByteArray}{aM:Bool}{bU:Int}{cY:List aS}{aL:List bn}{r:Int×Int×Int×List aS×List bn}(h:jK n p1 p2 p3 ai ak ao aM bU cY aL=some r):X.cD 95 [.pt 0 1 0,.c (aq p1),aa p2,.c (.agg (EncX.ae p3))] (bm [.x 1 (Xv ai ak ao aM bU cY aL)]) (.aX [aa r.1,aa r.2.1]) (bm [.x 1 [.c (aq ai),.c (aq ak),.c (.sc (.string ao)),dB aM,aa r.2.2.1,aP r.2.2.2.1,aP r.2.2.2.2]]):=(aoZ n).2 p1 p2 p3 ai ak ao aM bU cY aL r h
def JX (n:Nat)(p0:aj)(p1:Sl af):Option (aN×Int):=
 (Jn n p0 p1).bind fun(x,aC)=>
 if aC≠0 then
  some (({}:aN),aC)
 else(jK n x 0 ({}:dS) p0.aw p0.aR (⟨#[]⟩:ByteArray) false 1 ([]:List aS) ([]:List bn)).bind fun(av,aK,y0,ek,gE)=>
 if y0>600 then
  some (({}:aN),120)
 else some (({ ar:=y0,aU:=(Sl.gr ek),guards:=(Sl.gr gE)}:aN),0)
theorem ao3 {n:Nat}{p0:aj}{p1:Sl af}{r:aN×Int}(h:JX n p0 p1=some r):X.bg 78 [.c (.agg (EncX.ae p0)),.c (aq p1)] (.aX [.c (.agg (EncX.ae r.1)),aa r.2]):=by
 refine fC 38 ZF ?_
 refine wc (1,2) h (fun _=>anh) ?_
 rintro⟨x,aC⟩ h
 refine wi (2,1) h (fun h1 h=>?_) fun h1 h=>?_
 ·cases h
  exact wC
 ·refine wy (5,3) h (fun _=>ao2) ?_
  rintro⟨av,aK,y0,ek,gE⟩ h
  refine wi (6,5) h (fun h3 h=>?_) fun h3 h=>?_
  ·cases h
   exact wC
  ·cases h
   exact wC
inductive Iw where
 | e0 (v3:ByteArray) (v5:Int)
def ak4:Iw->Ex
 | .e0 _ _=>(.exit 0)
def ak3:Iw->(Nat->DV)->List Ob->S
 | .e0 v3 v5,F,G=>⟨fs F [0,3,4,5,11] [(3,.c (.sc (.string v3))),(4,.c (.sc (.string (⟨#[48,49,50,51,52,53,54,55,56,57]⟩:ByteArray)))),(5,aa v5),(11,dB false)],⟨sl G 0 [],[]⟩⟩
def DW (n:Nat):Nat->ByteArray->Int->Option Iw
 | 0,_,_=>none
 | k+1,v3,v5=>
  if v5≠0 then
   if(Int.tmod v5 10)<0 then
    if aF (0 - (Int.tmod v5 10))then if aF ((0 - (Int.tmod v5 10))+1)then if 0≤(0 - (Int.tmod v5 10))∧(0 - (Int.tmod v5 10))≤((0 - (Int.tmod v5 10))+1)∧((0 - (Int.tmod v5 10))+1)≤((⟨#[48,49,50,51,52,53,54,55,56,57]⟩:ByteArray).size:Int)then if(((⟨#[48,49,50,51,52,53,54,55,56,57]⟩:ByteArray).extract (0 - (Int.tmod v5 10)).toNat ((0 - (Int.tmod v5 10))+1).toNat)++v3).size≤9223372036854775807 then DW n k (((⟨#[48,49,50,51,52,53,54,55,56,57]⟩:ByteArray).extract (0 - (Int.tmod v5 10)).toNat ((0 - (Int.tmod v5 10))+1).toNat)++v3) (Go.IntKind.i64.wrap (Int.tdiv v5 10))
    else none
    else none
    else none
    else none
   else if aF ((Int.tmod v5 10)+1)then if 0≤(Int.tmod v5 10)∧(Int.tmod v5 10)≤((Int.tmod v5 10)+1)∧((Int.tmod v5 10)+1)≤((⟨#[48,49,50,51,52,53,54,55,56,57]⟩:ByteArray).size:Int)then if(((⟨#[48,49,50,51,52,53,54,55,56,57]⟩:ByteArray).extract (Int.tmod v5 10).toNat ((Int.tmod v5 10)+1).toNat)++v3).size≤9223372036854775807 then DW n k (((⟨#[48,49,50,51,52,53,54,55,56,57]⟩:ByteArray).extract (Int.tmod v5 10).toNat ((Int.tmod v5 10)+1).toNat)++v3) (Go.IntKind.i64.wrap (Int.tdiv v5 10))
   else none
   else none
   else none
  else some (.e0 v3 v5)
theorem ak2 (n:Nat):∀(k:Nat) (v3:ByteArray) (v5:Int) (o:Iw),DW n k v3 v5=some o->X.LF 79 32 6 (sub QO [1,1,1,1,1,0,0,0]) 0 [(3,.c (.sc (.string v3))),(4,.c (.sc (.string (⟨#[48,49,50,51,52,53,54,55,56,57]⟩:ByteArray)))),(5,aa v5)] [] (ak4 o) (ak3 o):=by
 intro k;induction k with
 | zero=>intro _ _ _ h;exact nomatch h
 | succ k ih=>
  intro v3 v5 o h F G s hs
  refine Sys.bj hs (w0 ?_)
  refine wi (6,1) h (fun h0 h=>?_) fun h0 h=>?_
  ·refine wi (8,1) h (fun h1 h=>?_) fun h1 h=>?_
   ·exact wq h fun h2 h=>wt (9,1) (.op { d:=aa (0 - (Int.tmod v5 10))}) (aef h2)<|wn (10,3) h fun h3 h=>wq h fun h4 h=>wt (10,4) (.op { d:=.c (.sc (.string ((⟨#[48,49,50,51,52,53,54,55,56,57]⟩:ByteArray).extract (0 - (Int.tmod v5 10)).toNat ((0 - (Int.tmod v5 10))+1).toNat)))}) (VU (P0:=X.P) (t0:=9) (st0:=[]) (by kernel_rfl) h4)<|wq h fun h5 h=>wt (10,6) (.op { d:=.c (.sc (.string (((⟨#[48,49,50,51,52,53,54,55,56,57]⟩:ByteArray).extract (0 - (Int.tmod v5 10)).toNat ((0 - (Int.tmod v5 10))+1).toNat)++v3)))}) (Dr (P0:=X.P) (t0:=9) h5)<|wN 6 [] (ih (((⟨#[48,49,50,51,52,53,54,55,56,57]⟩:ByteArray).extract (0 - (Int.tmod v5 10)).toNat ((0 - (Int.tmod v5 10))+1).toNat)++v3) (Go.IntKind.i64.wrap (Int.tdiv v5 10)) _ h F G)
   ·exact wn (10,3) h fun h2 h=>wq h fun h3 h=>wt (10,4) (.op { d:=.c (.sc (.string ((⟨#[48,49,50,51,52,53,54,55,56,57]⟩:ByteArray).extract (Int.tmod v5 10).toNat ((Int.tmod v5 10)+1).toNat)))}) (VU (P0:=X.P) (t0:=9) (st0:=[]) (by kernel_rfl) h3)<|wq h fun h4 h=>wt (10,6) (.op { d:=.c (.sc (.string (((⟨#[48,49,50,51,52,53,54,55,56,57]⟩:ByteArray).extract (Int.tmod v5 10).toNat ((Int.tmod v5 10)+1).toNat)++v3)))}) (Dr (P0:=X.P) (t0:=9) h4)<|wN 6 [] (ih (((⟨#[48,49,50,51,52,53,54,55,56,57]⟩:ByteArray).extract (Int.tmod v5 10).toNat ((Int.tmod v5 10)+1).toNat)++v3) (Go.IntKind.i64.wrap (Int.tdiv v5 10)) _ h F G)
  ·cases h
   exact wX
def Iv (n:Nat)(p0:Int):Option ByteArray:=
 if p0=0 then
  some (⟨#[48]⟩:ByteArray)
 else(DW n n (⟨#[]⟩:ByteArray) p0).bind fun az=>match az with
 | .e0 c7 cN=>
  if p0<0 then
   if((⟨#[45]⟩:ByteArray)++c7).size≤9223372036854775807 then some ((⟨#[45]⟩:ByteArray)++c7)
   else none
  else some c7
theorem ak5 {n:Nat}{p0:Int}{r:ByteArray}(h:Iv n p0=some r):X.bg 79 [aa p0] (.c (.sc (.string r))):=by
 refine fC 32 QO ?_
 refine wi (1,1) h (fun h0 h=>?_) fun h0 h=>?_
 ·cases h
  exact wC
 ·refine wg h fun az h1 h=>?_
  have h1:=ak2 _ _ _ _ _ h1
  cases az with
  | e0 c7 cN=>
   refine wO [1,1,1,1,1,0,0] h1<|wi (12,1) h (fun h2 h=>?_) fun h2 h=>?_
   ·refine wq h fun h3 h=>wt (13,1) (.op { d:=.c (.sc (.string ((⟨#[45]⟩:ByteArray)++c7)))}) (Dr (P0:=X.P) (t0:=9) h3)<|?_
    cases h
    exact wC
   ·cases h
    exact wC
inductive JR where
 | e2 (WV:List aN) (v12:Int) (o2:aN)
def aoB:JR->Ex
 | .e2 _ _ _=>(.exit 2)
def aoA (bO:aO):JR->(Nat->DV)->List Ob->S
 | .e2 WV v12 o2,F,G=>⟨fs F [1,7,8,9,10,12,66] [(7,aP WV),(9,.pt 1 1 0),(10,.pt 2 1 0),(12,aa v12),(66,dB false)],⟨sl G 3 [(1,⟨1,(EncX.ae bO).map DV.c⟩),(2,⟨1,(EncX.ae o2).map DV.c⟩)],[]⟩⟩
def Aw (bO:aO)(n:Nat):Nat->List aN->Int->aN->Option JR
 | 0,_,_,_=>none
 | k+1,j1,v12,o2=>
  if v12≤bO.count then
   if(bO.name++(⟨#[46]⟩:ByteArray)).size≤9223372036854775807 then(Iv n v12).bind fun aG=>
   if((bO.name++(⟨#[46]⟩:ByteArray))++aG).size≤9223372036854775807 then if Room 80 (j1++([({ name:=((bO.name++(⟨#[46]⟩:ByteArray))++aG),star:=o2.star,ar:=o2.ar,aU:=o2.aU,guards:=o2.guards}:aN)]:List aN)).length then if aF (v12+1)then Aw bO n k (j1++([({ name:=((bO.name++(⟨#[46]⟩:ByteArray))++aG),star:=o2.star,ar:=o2.ar,aU:=o2.aU,guards:=o2.guards}:aN)]:List aN)) (v12+1) ({ name:=((bO.name++(⟨#[46]⟩:ByteArray))++aG),star:=o2.star,ar:=o2.ar,aU:=o2.aU,guards:=o2.guards}:aN)
   else none
   else none
   else none
   else none
  else some (.e2 j1 v12 o2)
theorem aoz (bO:aO)(n:Nat):∀(k:Nat) (j1:List aN) (v12:Int) (o2:aN) (o:JR),Aw bO n k j1 v12 o2=some o->X.LF 43 81 17 (sub K4 [1,1,1,1,0,1,0,0,1,0,0,1,1,1,1,1,1,1,0,0]) 3 [(7,aP j1),(9,.pt 1 1 0),(10,.pt 2 1 0),(12,aa v12)] [(1,⟨1,(EncX.ae bO).map DV.c⟩),(2,⟨1,(EncX.ae o2).map DV.c⟩)] (aoB o) (aoA bO o):=by
 intro k;induction k with
 | zero=>intro _ _ _ _ h;exact nomatch h
 | succ k ih=>
  intro j1 v12 o2 o h F G s hs
  refine Sys.bj hs (w0 ?_)
  refine wi (17,3) h (fun h0 h=>?_) fun h0 h=>?_
  ·exact wq h fun h1 h=>wt (19,2) (.op { d:=.c (.sc (.string (bO.name++(⟨#[46]⟩:ByteArray))))}) (Dr (P0:=X.P) (t0:=9) h1)<|wc (19,4) h (fun _=>ak5) fun aG h=>wq h fun h3 h=>wt (19,5) (.op { d:=.c (.sc (.string ((bO.name++(⟨#[46]⟩:ByteArray))++aG)))}) (Dr (P0:=X.P) (t0:=9) h3)<|wq h fun h4 h=>dG (20,3) h4<|wn (18,1) h fun h5 h=>wN 17 [] (ih (j1++([({ name:=((bO.name++(⟨#[46]⟩:ByteArray))++aG),star:=o2.star,ar:=o2.ar,aU:=o2.aU,guards:=o2.guards}:aN)]:List aN)) (v12+1) ({ name:=((bO.name++(⟨#[46]⟩:ByteArray))++aG),star:=o2.star,ar:=o2.ar,aU:=o2.aU,guards:=o2.guards}:aN) _ h F G)
  ·cases h
   exact wX
inductive JS where
 | r (v3 v4:Int) (o1:aO) (o2:aN)
 | e0 (v7:List aN) (v8:Int)
def aoE:JS->Ex
 | .r _ _ _ _=>.ret
 | .e0 _ _=>(.exit 0)
def aoD (p0:aj):JS->S
 | .r v3 v4 o1 o2=>⟨fl [(2,.c (.sl true true [] 0)),(3,aa v3),(4,aa v4)],⟨[⟨1,(EncX.ae p0).map DV.c⟩,⟨1,(EncX.ae o1).map DV.c⟩,⟨1,(EncX.ae o2).map DV.c⟩],[]⟩⟩
 | .e0 v7 v8=>⟨fl [(1,.pt 0 1 0),(7,aP v7),(8,aa v8),(26,dB false)],⟨[⟨1,(EncX.ae p0).map DV.c⟩],[]⟩⟩
def rT (p0:aj)(n:Nat):Nat->List aN->Int->Option JS
 | 0,_,_=>none
 | k+1,v7,v8=>
  if v8<(p0.aR.l.length:Int)then
   (aD p0.aR.l v8).bind fun bO=>
   (JX n p0 bO.body).bind fun(av,aK)=>
   if aK≠0 then
    some (.r aK bO.at_ bO av)
   else if bO.star=true then
    if Room 80 (v7++([({ name:=bO.name,star:=true,ar:=av.ar,aU:=av.aU,guards:=av.guards}:aN)]:List aN)).length then if aF (v8+1)then rT p0 n k (v7++([({ name:=bO.name,star:=true,ar:=av.ar,aU:=av.aU,guards:=av.guards}:aN)]:List aN)) (v8+1)
    else none
    else none
   else if bO.count=1 then
    if Room 80 (v7++([({ name:=bO.name,ar:=av.ar,aU:=av.aU,guards:=av.guards}:aN)]:List aN)).length then if aF (v8+1)then rT p0 n k (v7++([({ name:=bO.name,ar:=av.ar,aU:=av.aU,guards:=av.guards}:aN)]:List aN)) (v8+1)
    else none
    else none
   else(Aw bO n n v7 1 ({ name:=bO.name,ar:=av.ar,aU:=av.aU,guards:=av.guards}:aN)).bind fun az=>match az with
   | .e2 iW ow iP=>
    if aF (v8+1)then rT p0 n k iW (v8+1)
    else none
  else some (.e0 v7 v8)
theorem aoC (p0:aj)(n:Nat):∀(k:Nat) (v7:List aN) (v8:Int) (o:JS),rT p0 n k v7 v8=some o->X.LH 43 81 6 (sub K4 [1,1,1,1,0,1,0,0]) 1 ⟨fl [(1,.pt 0 1 0),(7,aP v7),(8,aa v8)],⟨[⟨1,(EncX.ae p0).map DV.c⟩],[]⟩⟩ (aoE o) (aoD p0 o):=by
 intro k;induction k with
 | zero=>intro _ _ _ h;exact nomatch h
 | succ k ih=>
  intro v7 v8 o h s hs
  refine Sys.bj hs (w0 ?_)
  refine wi (6,4) h (fun h0 h=>?_) fun h0 h=>?_
  ·refine wg h fun bO h1 h=>wx (8,3) h1<|wa (8,4) h1<|wc (9,3) h (fun _=>ao3) ?_
   rintro⟨av,aK⟩ h
   refine wi (10,1) h (fun h3 h=>?_) fun h3 h=>?_
   ·cases h
    exact wX
   ·refine wI h (fun h4 h=>?_) fun h4 h=>?_
    ·exact wt (12,1) (.op { d:=dB true}) (kz h4)<|wt (14,1) (.op { d:=dB true}) (kz h4)<|wq h fun h5 h=>dG (15,3) h5<|wn (7,1) h fun h6 h=>wN 6 [] (ih (v7++([({ name:=bO.name,star:=true,ar:=av.ar,aU:=av.aU,guards:=av.guards}:aN)]:List aN)) (v8+1) _ h)
    ·refine wt (12,1) (.op { d:=dB false}) (kz (eq_false_of_ne_true h4))<|wt (14,1) (.op { d:=dB false}) (kz (eq_false_of_ne_true h4))<|wi (14,5) h (fun h5 h=>?_) fun h5 h=>?_
     ·exact wq h fun h6 h=>dG (15,3) h6<|wn (7,1) h fun h7 h=>wN 6 [] (ih (v7++([({ name:=bO.name,ar:=av.ar,aU:=av.aU,guards:=av.guards}:aN)]:List aN)) (v8+1) _ h)
     ·refine wg h fun az h6 h=>?_
      have h6:=aoz _ _ _ _ _ _ _ h6
      cases az with
      | e2 iW ow iP=>
       exact wO [1,0,0,1,1,1,1,1,1,1,0] h6<|wn (7,1) h fun h7 h=>wN 6 [] (ih iW (v8+1) _ h)
  ·cases h
   exact wX
def JQ (n:Nat)(p0:aj):Option (Sl aN×Int×Int):=
 (Jx n p0).bind fun(x,aC)=>
 if x≠0 then
  some ((Sl.nil:Sl aN),x,aC)
 else(rT p0 n n ([]:List aN) 0).bind fun aY=>match aY with
 | .r v3 v4 o1 mu=>
  some ((Sl.nil:Sl aN),v3,v4)
 | .e0 DI dC=>
  some ((Sl.gr DI),0,0)
theorem aoF {n:Nat}{p0:aj}{r:Sl aN×Int×Int}(h:JQ n p0=some r):X.bg 43 [.c (.agg (EncX.ae p0))] (.aX [.c (aq r.1),aa r.2.1,aa r.2.2]):=by
 refine fC 81 K4 ?_
 refine wc (1,1) h (fun _=>anV) ?_
 rintro⟨x,aC⟩ h
 refine wi (2,1) h (fun h1 h=>?_) fun h1 h=>?_
 ·cases h
  exact wC
 ·refine wg h fun aY h2 h=>?_
  have h2:=aoC _ _ _ _ _ _ h2
  cases aY with
  | r v3 v4 o1 mu=>
   refine wo [1,1,1,1,0,1,0] h2<|?_
   cases h
   exact wC
  | e0 DI dC=>
   refine wo [1,1,1,1,0,1,0] h2<|?_
   cases h
   exact wC
def Ec (n:Nat)(p0:aj):Option (aT×Int×Int):=
 (JQ n p0).bind fun(x,aC,av)=>
 if aC≠0 then
  some (({}:aT),aC,av)
 else some (({ p:=p0,bc:=x}:aT),0,0)
theorem XA {n:Nat}{p0:aj}{r:aT×Int×Int}(h:Ec n p0=some r):X.bg 15 [.c (.agg (EncX.ae p0))] (.aX [.c (.agg (EncX.ae r.1)),aa r.2.1,aa r.2.2]):=by
 refine fC 22 YZ ?_
 refine wc (1,1) h (fun _=>aoF) ?_
 rintro⟨x,aC,av⟩ h
 refine wi (2,1) h (fun h1 h=>?_) fun h1 h=>?_
 ·cases h
  exact wC
 ·cases h
  exact wC
inductive JP where
 | e0 (v3:List Int) (v5:Int)
def aox:JP->Ex
 | .e0 _ _=>(.exit 0)
def aow (x:List bI):JP->(Nat->DV)->List Ob->S
 | .e0 v3 v5,F,G=>⟨fs F [3,4,5,11] [(3,aP v3),(4,aP x),(5,aa v5),(11,dB false)],⟨sl G 1 [],[]⟩⟩
def Av (x:List bI)(n:Nat):Nat->List Int->Int->Option JP
 | 0,_,_=>none
 | k+1,v3,v5=>
  if v5<(x.length:Int)then
   (aD x v5).bind fun bF=>
   if Room 8 (v3++([bF.init]:List Int)).length then if aF (v5+1)then Av x n k (v3++([bF.init]:List Int)) (v5+1)
   else none
   else none
  else some (.e0 v3 v5)
theorem aov (x:List bI)(n:Nat):∀(k:Nat) (v3:List Int) (v5:Int) (o:JP),Av x n k v3 v5=some o->X.LF 49 23 4 (sub QH [1,1,1,0,1,0,0]) 1 [(3,aP v3),(4,aP x),(5,aa v5)] [] (aox o) (aow x o):=by
 intro k;induction k with
 | zero=>intro _ _ _ h;exact nomatch h
 | succ k ih=>
  intro v3 v5 o h F G s hs
  refine Sys.bj hs (w0 ?_)
  refine wi (4,3) h (fun h0 h=>?_) fun h0 h=>?_
  ·exact wg h fun bF h1 h=>wx (6,3) h1<|wl (6,5) 4 h1 rfl<|wq h fun h2 h=>dG (6,7) h2<|wn (5,1) h fun h3 h=>wN 4 [] (ih (v3++([bF.init]:List Int)) (v5+1) _ h F G)
  ·cases h
   exact wX
def JO (n:Nat)(p0:aj):Option (List Int):=
 (wW n p0).bind fun x=>
 (Av x n n ([]:List Int) 0).bind fun az=>match az with
 | .e0 c7 cN=>
  some c7
theorem aoy {n:Nat}{p0:aj}{r:List Int}(h:JO n p0=some r):X.bg 49 [.c (.agg (EncX.ae p0))] (aP r):=by
 refine fC 23 QH ?_
 refine wc (2,1) h (fun _=>IJ) fun x h=>wg h fun az h1 h=>?_
 have h1:=aov _ _ _ _ _ _ h1
 cases az with
 | e0 c7 cN=>
  refine wO [1,1,1,0,1,0] h1<|?_
  cases h
  exact wC
inductive JY where
 | e0 (v5:List Int) (v6:Int)
def ao6:JY->Ex
 | .e0 _ _=>(.exit 0)
def ao5 (p0:aN)(p1:Int):JY->(Nat->DV)->List Ob->S
 | .e0 v5 v6,F,G=>⟨fs F [1,2,5,6,11] [(1,aa p1),(2,.pt 0 1 0),(5,aP v5),(6,aa v6),(11,dB false)],⟨sl G 1 [(0,⟨1,(EncX.ae p0).map DV.c⟩)],[]⟩⟩
def xf (p0:aN)(p1:Int)(n:Nat):Nat->List Int->Int->Option JY
 | 0,_,_=>none
 | k+1,v5,v6=>
  if v6<(p0.aU.l.length:Int)then
   (aD p0.aU.l v6).bind fun bF=>
   if bF.from_=p1 then
    if Room 8 (v5++([v6]:List Int)).length then if aF (v6+1)then xf p0 p1 n k (v5++([v6]:List Int)) (v6+1)
    else none
    else none
   else if aF (v6+1)then xf p0 p1 n k v5 (v6+1)
   else none
  else some (.e0 v5 v6)
theorem ao4 (p0:aN)(p1:Int)(n:Nat):∀(k:Nat) (v5:List Int) (v6:Int) (o:JY),xf p0 p1 n k v5 v6=some o->X.LF 50 27 3 (sub QI [1,1,0,1,0,0]) 1 [(1,aa p1),(2,.pt 0 1 0),(5,aP v5),(6,aa v6)] [(0,⟨1,(EncX.ae p0).map DV.c⟩)] (ao6 o) (ao5 p0 p1 o):=by
 intro k;induction k with
 | zero=>intro _ _ _ h;exact nomatch h
 | succ k ih=>
  intro v5 v6 o h F G s hs
  refine Sys.bj hs (w0 ?_)
  refine wi (3,4) h (fun h0 h=>?_) fun h0 h=>?_
  ·refine wg h fun bF h1 h=>wx (5,3) h1<|wl (5,5) 0 h1 rfl<|wi (5,7) h (fun h2 h=>?_) fun h2 h=>?_
   ·exact wq h fun h3 h=>dG (6,3) h3<|wn (4,1) h fun h4 h=>wN 3 [] (ih (v5++([v6]:List Int)) (v6+1) _ h F G)
   ·exact wn (4,1) h fun h3 h=>wN 3 [] (ih v5 (v6+1) _ h F G)
  ·cases h
   exact wX
def Ea (n:Nat)(p0:aN)(p1:Int):Option (List Int):=
 (xf p0 p1 n n ([]:List Int) 0).bind fun az=>match az with
 | .e0 cN bX=>
  some cN
theorem Xw {n:Nat}{p0:aN}{p1:Int}{r:List Int}(h:Ea n p0 p1=some r):X.bg 50 [.c (.agg (EncX.ae p0)),aa p1] (aP r):=by
 refine fC 27 QI ?_
 refine wg h fun az h0 h=>?_
 have h0:=ao4 _ _ _ _ _ _ _ h0
 cases az with
 | e0 cN bX=>
  refine wO [1,1,0,1,0] h0<|?_
  cases h
  exact wC
end Go.Vig
