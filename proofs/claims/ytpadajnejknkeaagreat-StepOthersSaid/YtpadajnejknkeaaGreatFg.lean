/-
-/
import Derived.Test.YtpadajnejknkeaaGreatFf
set_option linter.unusedVariables false
set_option linter.unusedSimpArgs false
set_option maxRecDepth 100000
set_option maxHeartbeats 1000000
namespace Go.Vig
open Go Go.Abs Go.Proofs
variable [Kn]
def ui:List DV:=[.c (.sl true true [] 0),.c (.sl true true [] 0),.c (.sl true true [] 0)]
def Xx (x:List Int)(gP:List ah):List DV:=[aP gP,aP ([]:List aE),.c (.sl x.isEmpty x.isEmpty (cells x) x.length)]
def apC (x:List Int)(py:List ah):List DV:=[aP py,aP ([]:List aE),.c (.sl x.isEmpty x.isEmpty (cells x) x.length)]
def apD (x:List Int)(pz:List ah):List DV:=[aP pz,aP ([]:List aE),.c (.sl x.isEmpty x.isEmpty (cells x) x.length)]
def apE (x:List Int)(pA:List ah):List DV:=[aP pA,aP ([]:List aE),.c (.sl x.isEmpty x.isEmpty (cells x) x.length)]
def J9 (x:List Int)(mq:List ah):List DV:=[aP mq,aP ([]:List aE),.c (.sl x.isEmpty x.isEmpty (cells x) x.length)]
def apB (x:List Int)(pB:List ah):List DV:=[aP pB,aP ([]:List aE),.c (.sl x.isEmpty x.isEmpty (cells x) x.length)]
def Xy (x:List Int)(mr:List ah)(iu:List aE):List DV:=[aP mr,aP iu,.c (.sl x.isEmpty x.isEmpty (cells x) x.length)]
inductive J8 where
 | e0 (v6 v7 v8:Int)
def apA:J8->Ex
 | .e0 _ _ _=>(.exit 0)
def apz (p0:aT):J8->(Nat->DV)->List Ob->S
 | .e0 v6 v7 v8,F,G=>⟨fs F [1,2,4,6,7,8,22] [(2,.pt 0 1 0),(6,aa v6),(7,aa v7),(8,aa v8),(22,dB false)],⟨sl G 2 [(0,⟨1,(EncX.ae p0).map DV.c⟩)],[]⟩⟩
def xh (p0:aT)(n:Nat):Nat->Int->Int->Int->Option J8
 | 0,_,_,_=>none
 | k+1,v6,v7,v8=>
  if v8<(p0.bc.l.length:Int)then
   (aD p0.bc.l v8).bind fun v28=>
   if v28.star=true then
    if aF (v6+1)then if aF (v8+1)then xh p0 n k (v6+1) v7 (v8+1)
    else none
    else none
   else if aF (v7+1)then if aF (v8+1)then xh p0 n k v6 (v7+1) (v8+1)
   else none
   else none
  else some (.e0 v6 v7 v8)
theorem apy (p0:aT)(n:Nat):∀(k:Nat) (v6:Int) (v7:Int) (v8:Int) (o:J8),xh p0 n k v6 v7 v8=some o->X.LF 26 131 4 (sub oN [1,1,1,0,1,0,0]) 2 [(2,.pt 0 1 0),(6,aa v6),(7,aa v7),(8,aa v8)] [(0,⟨1,(EncX.ae p0).map DV.c⟩)] (apA o) (apz p0 o):=by
 intro k;induction k with
 | zero=>intro _ _ _ _ h;exact nomatch h
 | succ k ih=>
  intro v6 v7 v8 o h F G s hs
  refine Sys.bj hs (w0 ?_)
  refine wi (4,4) h (fun h0 h=>?_) fun h0 h=>?_
  ·refine wg h fun v28 h1 h=>wx (6,3) h1<|wI h (fun h2 h=>?_) fun h2 h=>?_
   ·exact wt (6,5) (.cell (.sc (.bool true))) (EV 1 rfl (bJ h1) h2)<|wn (7,1) h fun h3 h=>wn (5,1) h fun h4 h=>wN 4 [] (ih (v6+1) v7 (v8+1) _ h F G)
   ·exact wt (6,5) (.cell (.sc (.bool false))) (EV 1 rfl (bJ h1) (eq_false_of_ne_true h2))<|wn (8,1) h fun h3 h=>wn (5,1) h fun h4 h=>wN 4 [] (ih v6 (v7+1) (v8+1) _ h F G)
  ·cases h
   exact wX
inductive J0 where
 | r
 | e2 (v9:Int)
def ao9:J0->Ex
 | .r=>.ret
 | .e2 _=>(.exit 2)
def ao8 (p1:Sl Int)(bX:Int):J0->(Nat->DV)->List Ob->S
 | .r,F,G=>⟨fs F [4,5] [(4,.pt 1 1 0),(5,aa 2)],⟨sl G 2 [(1,⟨1,ui⟩)],[]⟩⟩
 | .e2 v9,F,G=>⟨fs F [1,2,4,6,7,9,42] [(1,.c (aq p1)),(4,.pt 1 1 0),(6,aa bX),(9,aa v9),(42,dB false)],⟨sl G 2 [(1,⟨1,ui⟩)],[]⟩⟩
def Az (p1:Sl Int)(bX:Int)(n:Nat):Nat->Int->Option J0
 | 0,_=>none
 | k+1,v9=>
  if v9<bX then
   (aD p1.l v9).bind fun gz=>
   if gz<0 then
    some (.r)
   else if aF (v9+1)then Az p1 bX n k (v9+1)
   else none
  else some (.e2 v9)
theorem ao7 (p1:Sl Int)(bX:Int)(n:Nat):∀(k:Nat) (v9:Int) (o:J0),Az p1 bX n k v9=some o->X.LF 26 131 12 (sub oN [1,1,1,1,1,0,1,0,0]) 2 [(1,.c (aq p1)),(4,.pt 1 1 0),(6,aa bX),(9,aa v9)] [(1,⟨1,ui⟩)] (ao9 o) (ao8 p1 bX o):=by
 intro k;induction k with
 | zero=>intro _ _ h;exact nomatch h
 | succ k ih=>
  intro v9 o h F G s hs
  refine Sys.bj hs (w0 ?_)
  refine wi (12,2) h (fun h0 h=>?_) fun h0 h=>?_
  ·refine wg h fun gz h1 h=>wx (14,2) h1<|wl (14,3) 0 h1 rfl<|wi (14,4) h (fun h2 h=>?_) fun h2 h=>?_
   ·cases h
    exact wX
   ·exact wn (13,1) h fun h3 h=>wN 12 [] (ih (v9+1) _ h F G)
  ·cases h
   exact wX
inductive J1 where
 | r
 | e4 (v7 v10:Int)
def apc:J1->Ex
 | .r=>.ret
 | .e4 _ _=>(.exit 4)
def apb (p1:Sl Int)(bX:Int):J1->(Nat->DV)->List Ob->S
 | .r,F,G=>⟨fs F [4,5] [(4,.pt 1 1 0),(5,aa 6)],⟨sl G 2 [(1,⟨1,ui⟩)],[]⟩⟩
 | .e4 v7 v10,F,G=>⟨fs F [1,2,4,6,7,10,53] [(1,.c (aq p1)),(4,.pt 1 1 0),(6,aa bX),(7,aa v7),(10,aa v10),(53,dB false)],⟨sl G 2 [(1,⟨1,ui⟩)],[]⟩⟩
def AA (p1:Sl Int)(bX:Int)(n:Nat):Nat->Int->Int->Option J1
 | 0,_,_=>none
 | k+1,j1,v10=>
  if v10<bX then
   (aD p1.l v10).bind fun DG=>
   if DG>40 then
    some (.r)
   else if aF (j1+DG)then if aF (v10+1)then AA p1 bX n k (j1+DG) (v10+1)
   else none
   else none
  else some (.e4 j1 v10)
theorem apa (p1:Sl Int)(bX:Int)(n:Nat):∀(k:Nat) (j1:Int) (v10:Int) (o:J1),AA p1 bX n k j1 v10=some o->X.LF 26 131 17 (sub oN [1,1,1,1,1,1,0,1,0,0]) 2 [(1,.c (aq p1)),(4,.pt 1 1 0),(6,aa bX),(7,aa j1),(10,aa v10)] [(1,⟨1,ui⟩)] (apc o) (apb p1 bX o):=by
 intro k;induction k with
 | zero=>intro _ _ _ h;exact nomatch h
 | succ k ih=>
  intro j1 v10 o h F G s hs
  refine Sys.bj hs (w0 ?_)
  refine wi (17,2) h (fun h0 h=>?_) fun h0 h=>?_
  ·refine wg h fun DG h1 h=>wx (19,2) h1<|wl (19,3) 0 h1 rfl<|wi (19,4) h (fun h2 h=>?_) fun h2 h=>?_
   ·cases h
    exact wX
   ·exact wx (21,3) h1<|wl (21,4) 0 h1 rfl<|wn (21,5) h fun h3 h=>wn (18,1) h fun h4 h=>wN 17 [] (ih (j1+DG) (v10+1) _ h F G)
  ·cases h
   exact wX
inductive J3 where
 | e8 (bH:Int) (mq:List ah)
def apj:J3->Ex
 | .e8 _ _=>(.exit 8)
def api (x:List Int)(bf iA:Int):J3->(Nat->DV)->List Ob->S
 | .e8 bH mq,F,G=>⟨fs F [1,2,4,11,12,13,14,15,16,107] [(11,.pt 2 1 0),(14,aa iA),(15,.pt 3 1 0),(16,aa bH),(107,dB false)],⟨sl G 4 [(2,⟨1,(J9 x mq)⟩),(3,⟨1,[aa bf,aa 0,aa 3,aa 0,aa 0]⟩)],[]⟩⟩
def AB (x:List Int)(bf iA:Int)(n:Nat):Nat->Int->List ah->Option J3
 | 0,_,_=>none
 | k+1,bH,py=>
  if bH<iA then
   if Room 40 (py++([({ role:=bf,state:=3}:ah)]:List ah)).length then if aF (bH+1)then AB x bf iA n k (bH+1) (py++([({ role:=bf,state:=3}:ah)]:List ah))
   else none
   else none
  else some (.e8 bH py)
theorem aph (x:List Int)(bf iA:Int)(n:Nat):∀(k:Nat) (bH:Int) (py:List ah) (o:J3),AB x bf iA n k bH py=some o->X.LF 26 131 37 (sub oN [1,1,1,1,1,1,1,1,1,1,0,1,0,0,1,0,0,1,1,1,1,1,0,0]) 4 [(11,.pt 2 1 0),(14,aa iA),(15,.pt 3 1 0),(16,aa bH)] [(2,⟨1,(apC x py)⟩),(3,⟨1,[aa bf,aa 0,aa 3,aa 0,aa 0]⟩)] (apj o) (api x bf iA o):=by
 intro k;induction k with
 | zero=>intro _ _ _ h;exact nomatch h
 | succ k ih=>
  intro bH py o h F G s hs
  refine Sys.bj hs (w0 ?_)
  refine wi (37,2) h (fun h0 h=>?_) fun h0 h=>?_
  ·exact wq h fun h1 h=>dG (39,4) h1<|wn (38,1) h fun h2 h=>wN 37 [] (ih (bH+1) (py++([({ role:=bf,state:=3}:ah)]:List ah)) _ h F G)
  ·cases h
   exact wX
inductive J4 where
 | e8 (bH:Int) (mq:List ah)
def apn:J4->Ex
 | .e8 _ _=>(.exit 8)
def apm (x:List Int)(bf iA:Int):J4->(Nat->DV)->List Ob->S
 | .e8 bH mq,F,G=>⟨fs F [1,2,4,11,12,13,14,15,16,107] [(11,.pt 2 1 0),(14,aa iA),(15,.pt 3 1 0),(16,aa bH),(107,dB false)],⟨sl G 4 [(2,⟨1,(J9 x mq)⟩),(3,⟨1,[aa bf,aa 0,aa 0,aa 0,aa 0]⟩)],[]⟩⟩
def AD (x:List Int)(bf iA:Int)(n:Nat):Nat->Int->List ah->Option J4
 | 0,_,_=>none
 | k+1,rD,pz=>
  if rD<iA then
   if Room 40 (pz++([({ role:=bf}:ah)]:List ah)).length then if aF (rD+1)then AD x bf iA n k (rD+1) (pz++([({ role:=bf}:ah)]:List ah))
   else none
   else none
  else some (.e8 rD pz)
theorem apk (x:List Int)(bf iA:Int)(n:Nat):∀(k:Nat) (rD:Int) (pz:List ah) (o:J4),AD x bf iA n k rD pz=some o->X.LF 26 131 37 (sub oN [1,1,1,1,1,1,1,1,1,1,0,1,0,0,1,0,0,1,1,1,1,1,0,0]) 4 [(11,.pt 2 1 0),(14,aa iA),(15,.pt 3 1 0),(16,aa rD)] [(2,⟨1,(apD x pz)⟩),(3,⟨1,[aa bf,aa 0,aa 0,aa 0,aa 0]⟩)] (apn o) (apm x bf iA o):=by
 intro k;induction k with
 | zero=>intro _ _ _ h;exact nomatch h
 | succ k ih=>
  intro rD pz o h F G s hs
  refine Sys.bj hs (w0 ?_)
  refine wi (37,2) h (fun h0 h=>?_) fun h0 h=>?_
  ·exact wq h fun h1 h=>dG (39,4) h1<|wn (38,1) h fun h2 h=>wN 37 [] (ih (rD+1) (pz++([({ role:=bf}:ah)]:List ah)) _ h F G)
  ·cases h
   exact wX
inductive J5 where
 | e8 (bH:Int) (mq:List ah)
def apr:J5->Ex
 | .e8 _ _=>(.exit 8)
def apq (x:List Int)(bf:Int):J5->(Nat->DV)->List Ob->S
 | .e8 bH mq,F,G=>⟨fs F [1,2,4,11,12,13,14,15,16,107] [(11,.pt 2 1 0),(14,aa 1),(15,.pt 3 1 0),(16,aa bH),(107,dB false)],⟨sl G 4 [(2,⟨1,(J9 x mq)⟩),(3,⟨1,[aa bf,aa 0,aa 3,aa 0,aa 0]⟩)],[]⟩⟩
def AE (x:List Int)(bf:Int)(n:Nat):Nat->Int->List ah->Option J5
 | 0,_,_=>none
 | k+1,rE,pA=>
  if rE<1 then
   if Room 40 (pA++([({ role:=bf,state:=3}:ah)]:List ah)).length then if aF (rE+1)then AE x bf n k (rE+1) (pA++([({ role:=bf,state:=3}:ah)]:List ah))
   else none
   else none
  else some (.e8 rE pA)
theorem apo (x:List Int)(bf:Int)(n:Nat):∀(k:Nat) (rE:Int) (pA:List ah) (o:J5),AE x bf n k rE pA=some o->X.LF 26 131 37 (sub oN [1,1,1,1,1,1,1,1,1,1,0,1,0,0,1,0,0,1,1,1,1,1,0,0]) 4 [(11,.pt 2 1 0),(14,aa 1),(15,.pt 3 1 0),(16,aa rE)] [(2,⟨1,(apE x pA)⟩),(3,⟨1,[aa bf,aa 0,aa 3,aa 0,aa 0]⟩)] (apr o) (apq x bf o):=by
 intro k;induction k with
 | zero=>intro _ _ _ h;exact nomatch h
 | succ k ih=>
  intro rE pA o h F G s hs
  refine Sys.bj hs (w0 ?_)
  refine wi (37,2) h (fun h0 h=>?_) fun h0 h=>?_
  ·exact wq h fun h1 h=>dG (39,4) h1<|wn (38,1) h fun h2 h=>wN 37 [] (ih (rE+1) (pA++([({ role:=bf,state:=3}:ah)]:List ah)) _ h F G)
  ·cases h
   exact wX
inductive J6 where
 | e8 (bH:Int) (mq:List ah)
def apu:J6->Ex
 | .e8 _ _=>(.exit 8)
def apt (x:List Int)(bf:Int):J6->(Nat->DV)->List Ob->S
 | .e8 bH mq,F,G=>⟨fs F [1,2,4,11,12,13,14,15,16,107] [(11,.pt 2 1 0),(14,aa 1),(15,.pt 3 1 0),(16,aa bH),(107,dB false)],⟨sl G 4 [(2,⟨1,(J9 x mq)⟩),(3,⟨1,[aa bf,aa 0,aa 0,aa 0,aa 0]⟩)],[]⟩⟩
def AF (x:List Int)(bf:Int)(n:Nat):Nat->Int->List ah->Option J6
 | 0,_,_=>none
 | k+1,rF,pB=>
  if rF<1 then
   if Room 40 (pB++([({ role:=bf}:ah)]:List ah)).length then if aF (rF+1)then AF x bf n k (rF+1) (pB++([({ role:=bf}:ah)]:List ah))
   else none
   else none
  else some (.e8 rF pB)
theorem aps (x:List Int)(bf:Int)(n:Nat):∀(k:Nat) (rF:Int) (pB:List ah) (o:J6),AF x bf n k rF pB=some o->X.LF 26 131 37 (sub oN [1,1,1,1,1,1,1,1,1,1,0,1,0,0,1,0,0,1,1,1,1,1,0,0]) 4 [(11,.pt 2 1 0),(14,aa 1),(15,.pt 3 1 0),(16,aa rF)] [(2,⟨1,(apB x pB)⟩),(3,⟨1,[aa bf,aa 0,aa 0,aa 0,aa 0]⟩)] (apu o) (apt x bf o):=by
 intro k;induction k with
 | zero=>intro _ _ _ h;exact nomatch h
 | succ k ih=>
  intro rF pB o h F G s hs
  refine Sys.bj hs (w0 ?_)
  refine wi (37,2) h (fun h0 h=>?_) fun h0 h=>?_
  ·exact wq h fun h1 h=>dG (39,4) h1<|wn (38,1) h fun h2 h=>wN 37 [] (ih (rF+1) (pB++([({ role:=bf}:ah)]:List ah)) _ h F G)
  ·cases h
   exact wX
inductive J2 where
 | e6 (v12 bf:Int) (gP:List ah)
def apg:J2->Ex
 | .e6 _ _ _=>(.exit 6)
def ape (p0:aT)(p1:Sl Int)(x:List Int):J2->S
 | .e6 v12 bf gP=>⟨fl [(1,.c (aq p1)),(2,.pt 0 1 0),(4,.pt 1 1 0),(11,.pt 2 1 0),(12,aa v12),(13,aa bf),(79,dB false)],⟨[⟨1,(EncX.ae p0).map DV.c⟩,⟨1,ui⟩,⟨1,(Xx x gP)⟩],[]⟩⟩
def pZ (p0:aT)(p1:Sl Int)(x:List Int)(n:Nat):Nat->Int->Int->List ah->Option J2
 | 0,_,_,_=>none
 | k+1,v12,bf,gP=>
  if bf<(p0.bc.l.length:Int)then
   (aD p0.bc.l bf).bind fun v85=>
   if v85.star=true then
    (aD p1.l v12).bind fun iA=>
    if aF (v12+1)then(Ea n v85 0).bind fun aC=>
    if(aC.length:Int)=0 then
     (AB x bf iA n n 0 gP).bind fun c9=>match c9 with
     | .e8 DD ND=>
      if aF (bf+1)then pZ p0 p1 x n k (v12+1) (bf+1) ND
      else none
    else(AD x bf iA n n 0 gP).bind fun gv=>match gv with
    | .e8 aiW NF=>
     if aF (bf+1)then pZ p0 p1 x n k (v12+1) (bf+1) NF
     else none
    else none
   else(Ea n v85 0).bind fun av=>
   if(av.length:Int)=0 then
    (AE x bf n n 0 gP).bind fun iv=>match iv with
    | .e8 aiX NG=>
     if aF (bf+1)then pZ p0 p1 x n k v12 (bf+1) NG
     else none
   else(AF x bf n n 0 gP).bind fun vK=>match vK with
   | .e8 aiY NH=>
    if aF (bf+1)then pZ p0 p1 x n k v12 (bf+1) NH
    else none
  else some (.e6 v12 bf gP)
theorem apd (p0:aT)(p1:Sl Int)(x:List Int)(n:Nat):∀(k:Nat) (v12:Int) (bf:Int) (gP:List ah) (o:J2),pZ p0 p1 x n k v12 bf gP=some o->X.LH 26 131 27 (sub oN [1,1,1,1,1,1,1,1,1,1,0,1,0,0]) 3 ⟨fl [(1,.c (aq p1)),(2,.pt 0 1 0),(4,.pt 1 1 0),(11,.pt 2 1 0),(12,aa v12),(13,aa bf)],⟨[⟨1,(EncX.ae p0).map DV.c⟩,⟨1,ui⟩,⟨1,(Xx x gP)⟩],[]⟩⟩ (apg o) (ape p0 p1 x o):=by
 intro k;induction k with
 | zero=>intro _ _ _ _ h;exact nomatch h
 | succ k ih=>
  intro v12 bf gP o h s hs
  refine Sys.bj hs (w0 ?_)
  refine wi (27,4) h (fun h0 h=>?_) fun h0 h=>?_
  ·refine wg h fun v85 h1 h=>wx (30,3) h1<|wI h (fun h2 h=>?_) fun h2 h=>?_
   ·refine wt (30,5) (.cell (.sc (.bool true))) (EV 1 rfl (bJ h1) h2)<|wg h fun iA h3 h=>wx (31,2) h3<|wl (31,3) 0 h3 rfl<|wn (32,1) h fun h4 h=>wx (34,3) h1<|wa (34,4) h1<|wc (34,5) h (fun _=>Xw) fun aC h=>wi (34,7) h (fun h6 h=>?_) fun h6 h=>?_
    ·refine wg h fun c9 h7 h=>?_
     have h7:=aph _ _ _ _ _ _ _ _ h7
     cases c9 with
     | e8 DD ND=>
      exact wO [1,0,0,1,1,1,1,1,0] h7<|wn (28,1) h fun h8 h=>wN 27 [] (ih (v12+1) (bf+1) ND _ h)
    ·refine wg h fun gv h7 h=>?_
     have h7:=apk _ _ _ _ _ _ _ _ h7
     cases gv with
     | e8 aiW NF=>
      exact wO [1,0,0,1,1,1,1,1,0] h7<|wn (28,1) h fun h8 h=>wN 27 [] (ih (v12+1) (bf+1) NF _ h)
   ·refine wt (30,5) (.cell (.sc (.bool false))) (EV 1 rfl (bJ h1) (eq_false_of_ne_true h2))<|wx (34,3) h1<|wa (34,4) h1<|wc (34,5) h (fun _=>Xw) fun av h=>wi (34,7) h (fun h4 h=>?_) fun h4 h=>?_
    ·refine wg h fun iv h5 h=>?_
     have h5:=apo _ _ _ _ _ _ _ h5
     cases iv with
     | e8 aiX NG=>
      exact wO [1,0,0,1,1,1,1,1,0] h5<|wn (28,1) h fun h6 h=>wN 27 [] (ih v12 (bf+1) NG _ h)
    ·refine wg h fun vK h5 h=>?_
     have h5:=aps _ _ _ _ _ _ _ h5
     cases vK with
     | e8 aiY NH=>
      exact wO [1,0,0,1,1,1,1,1,0] h5<|wn (28,1) h fun h6 h=>wN 27 [] (ih v12 (bf+1) NH _ h)
  ·cases h
   exact wX
inductive J7 where
 | kC (bF:Int) (iu:List aE)
def apx:J7->Ex
 | .kC _ _=>(.exit 10)
def apw (p0:aT)(x:List Int)(mr:List ah):J7->(Nat->DV)->List Ob->S
 | .kC bF iu,F,G=>⟨fs F [2,4,11,17,121] [(2,.pt 0 1 0),(11,.pt 2 1 0),(17,aa bF),(121,dB false)],⟨sl G 3 [(0,⟨1,(EncX.ae p0).map DV.c⟩),(2,⟨1,(Xy x mr iu)⟩)],[]⟩⟩
def AG (p0:aT)(x:List Int)(mr:List ah)(n:Nat):Nat->Int->List aE->Option J7
 | 0,_,_=>none
 | k+1,bF,iu=>
  if bF<(p0.p.aw.l.length:Int)then
   if Room 16 (iu++([({ owner:=(-1)}:aE)]:List aE)).length then if aF (bF+1)then AG p0 x mr n k (bF+1) (iu++([({ owner:=(-1)}:aE)]:List aE))
   else none
   else none
  else some (.kC bF iu)
theorem apv (p0:aT)(x:List Int)(mr:List ah)(n:Nat):∀(k:Nat) (bF:Int) (iu:List aE) (o:J7),AG p0 x mr n k bF iu=some o->X.LF 26 131 41 (sub oN [1,1,1,1,1,1,1,1,1,1,1,0,1,0,0]) 3 [(2,.pt 0 1 0),(11,.pt 2 1 0),(17,aa bF)] [(0,⟨1,(EncX.ae p0).map DV.c⟩),(2,⟨1,(Xy x mr iu)⟩)] (apx o) (apw p0 x mr o):=by
 intro k;induction k with
 | zero=>intro _ _ _ h;exact nomatch h
 | succ k ih=>
  intro bF iu o h F G s hs
  refine Sys.bj hs (w0 ?_)
  refine wi (41,5) h (fun h0 h=>?_) fun h0 h=>?_
  ·exact wq h fun h1 h=>dG (43,4) h1<|wn (42,1) h fun h2 h=>wN 41 [] (ih (bF+1) (iu++([({ owner:=(-1)}:aE)]:List aE)) _ h F G)
  ·cases h
   exact wX
def Eb (n:Nat)(p0:aT)(p1:Sl Int):Option (bo×Int):=
 (xh p0 n n 0 0 0).bind fun az=>match az with
 | .e0 bX iW dC=>
  if(p1.l.length:Int)≠bX then
   some (({}:bo),2)
  else(Az p1 bX n n 0).bind fun aY=>match aY with
  | .r=>
   some (({}:bo),2)
  | .e2 gB=>
   (AA p1 bX n n iW 0).bind fun bD=>match bD with
   | .r=>
    some (({}:bo),6)
   | .e4 DI cB=>
    if DI>40 then
     some (({}:bo),6)
    else(JO n p0.p).bind fun x=>
    (pZ p0 p1 x n n 0 0 ([]:List ah)).bind fun vL=>match vL with
    | .e6 ow OX mr=>
     (AG p0 x mr n n 0 ([]:List aE)).bind fun NI=>match NI with
     | .kC OZ Ub=>
      some (({ threads:=(Sl.gr mr),aZ:=(Sl.gr Ub),aB:=(Sl.gr x)}:bo),0)
theorem Xz {n:Nat}{p0:aT}{p1:Sl Int}{r:bo×Int}(h:Eb n p0 p1=some r):X.bg 26 [.c (.agg (EncX.ae p0)),.c (aq p1)] (.aX [.c (.agg (EncX.ae r.1)),aa r.2]):=by
 refine fC 131 oN ?_
 refine wg h fun az h0 h=>?_
 have h0:=apy _ _ _ _ _ _ _ h0
 cases az with
 | e0 bX iW dC=>
  refine wO [1,1,1,0,1,0] h0<|wi (9,3) h (fun h1 h=>?_) fun h1 h=>?_
  ·cases h
   exact wC
  ·refine wg h fun aY h2 h=>?_
   have h2:=ao7 _ _ _ _ _ _ h2
   cases aY with
   | r=>
    refine wO [1,1,1,1,1,0,1,0] h2<|?_
    cases h
    exact wC
   | e2 gB=>
    refine wO [1,1,1,1,1,0,1,0] h2<|wg h fun bD h3 h=>?_
    have h3:=apa _ _ _ _ _ _ _ h3
    cases bD with
    | r=>
     refine wO [1,1,1,1,1,1,0,1,0] h3<|?_
     cases h
     exact wC
    | e4 DI cB=>
     refine wO [1,1,1,1,1,1,0,1,0] h3<|wi (22,1) h (fun h4 h=>?_) fun h4 h=>?_
     ·cases h
      exact wC
     ·refine wc (24,2) h (fun _=>aoy) fun x h=>wg h fun vL h6 h=>?_
      have h6:=apd _ _ _ _ _ _ _ _ _ h6
      cases vL with
      | e6 ow OX mr=>
       refine wo [1,1,1,1,1,1,1,1,1,1,0,1,0] h6<|wg h fun NI h7 h=>?_
       have h7:=apv _ _ _ _ _ _ _ _ h7
       cases NI with
       | kC OZ Ub=>
        refine wO [1,1,1,1,1,1,1,1,1,1,1,0,1,0] h7<|?_
        cases h
        exact wC
inductive HY where
 | m (fx:Bool)
def ajO:HY->Ex
 | .m _=>.normal
def ajN (p0:aj)(p1:Sl Int):HY->(Nat->DV)->List Ob->S
 | .m fx,F,G=>⟨fs F [1,2,4,5,19] [(1,.c (aq p1)),(2,.pt 0 1 0),(19,dB fx)],⟨sl G 3 [(0,⟨1,(EncX.ae p0).map DV.c⟩)],[]⟩⟩
def Pj (p0:aj)(p1:Sl Int)(n:Nat):Option HY:=
 (Ij n p0 300).bind fun x=>
 bif x then
  if(p1.l.length:Int)>20 then
   some (.m true)
  else some (.m false)
 else some (.m true)
theorem ajM (p0:aj)(p1:Sl Int)(n:Nat)(o:HY)(h:Pj p0 p1 n=some o):X.JF 7 48 (sub b7 [1,0,0]) [1,2,4,5] 3 [(1,.c (aq p1)),(2,.pt 0 1 0)] [(0,⟨1,(EncX.ae p0).map DV.c⟩)] (ajO o) (ajN p0 p1 o):=by
 intro F G;refine Sys.dZ (w0 ?_)
 refine wc (1,1) h (fun _=>akR) fun x h=>?_
 cases x
 ·cases h
  exact wJ
 ·refine wi (1,6) h (fun h2 h=>?_) fun h2 h=>?_
  ·cases h
   exact wJ
  ·cases h
   exact wJ
def HX (n:Nat)(p0:aj)(p1:Sl Int):Option (aT×bo×Bool):=
 (Pj p0 p1 n).bind fun az=>match az with
 | .m fx=>
  bif fx then
   some (({}:aT),({}:bo),false)
  else(Ec n p0).bind fun(aC,av,aK)=>
  if av≠0 then
   some (aC,({}:bo),false)
  else(Eb n aC p1).bind fun(aG,ba)=>
  if ba=0 then
   if(aG.threads.l.length:Int)≤12 then
    some (aC,aG,true)
   else some (aC,aG,false)
  else some (aC,aG,false)
theorem ajP {n:Nat}{p0:aj}{p1:Sl Int}{r:aT×bo×Bool}(h:HX n p0 p1=some r):X.bg 7 [.c (.agg (EncX.ae p0)),.c (aq p1)] (.aX [.c (.agg (EncX.ae r.1)),.c (.agg (EncX.ae r.2.1)),dB r.2.2]):=by
 refine fC 48 b7 ?_
 refine wg h fun az h0 h=>?_
 have h0:=ajM _ _ _ _ h0
 cases az with
 | m fx=>
  refine wV 1 [1,0,0] h0<|?_
  cases fx
  ·refine wc (3,1) h (fun _=>XA) ?_
   rintro⟨aC,av,aK⟩ h
   refine wi (4,1) h (fun h3 h=>?_) fun h3 h=>?_
   ·cases h
    exact wC
   ·refine wc (6,2) h (fun _=>Xz) ?_
    rintro⟨aG,ba⟩ h
    refine wi (7,3) h (fun h5 h=>?_) fun h5 h=>?_
    ·refine wi (7,8) h (fun h6 h=>?_) fun h6 h=>?_
     ·cases h
      exact wC
     ·cases h
      exact wC
    ·cases h
     exact wC
  ·cases h
   exact wC
inductive Gt where
 | e0 (v2:List bI) (v8:Int)
def aed:Gt->Ex
 | .e0 _ _=>(.exit 0)
def aec (p0:aj):Gt->S
 | .e0 v2 v8=>⟨fl [(2,aP v2),(6,.c (aq p0.aw)),(7,aa (p0.aw.l.length:Int)),(8,aa v8),(9,dB false)],⟨[⟨1,(EncX.ae p0).map DV.c⟩],[]⟩⟩
def yJ (p0:aj)(n:Nat):Nat->List bI->Int->Option Gt
 | 0,_,_=>none
 | k+1,v2,v8=>
  if v8<(p0.aw.l.length:Int)then
   (aD p0.aw.l v8).bind fun v10=>
   if Room 56 (v2++v10.vars.l).length then if aF (v8+1)then yJ p0 n k (v2++v10.vars.l) (v8+1)
   else none
   else none
  else some (.e0 v2 v8)
theorem aeb (p0:aj)(n:Nat):∀(k:Nat) (v2:List bI) (v8:Int) (o:Gt),yJ p0 n k v2 v8=some o->X.LH 51 18 2 (sub QJ [1,0,1,0,0]) 1 ⟨fl [(2,aP v2),(6,.c (aq p0.aw)),(7,aa (p0.aw.l.length:Int)),(8,aa v8)],⟨[⟨1,(EncX.ae p0).map DV.c⟩],[]⟩⟩ (aed o) (aec p0 o):=by
 intro k;induction k with
 | zero=>intro _ _ _ h;exact nomatch h
 | succ k ih=>
  intro v2 v8 o h s hs
  refine Sys.bj hs (w0 ?_)
  refine wi (2,0) h (fun h0 h=>?_) fun h0 h=>?_
  ·exact wg h fun v10 h1 h=>wx (3,0) h1<|wa (3,1) h1<|wq h fun h2 h=>PG (4,3) h2<|wn (5,0) h fun h3 h=>wN 2 [] (ih (v2++v10.vars.l) (v8+1) _ h)
  ·cases h
   exact wX
def vG (n:Nat)(p0:aj):Option (List bI):=
 (yJ p0 n n ([]:List bI) 0).bind fun az=>match az with
 | .e0 lF dC=>
  some lF
theorem Gu {n:Nat}{p0:aj}{r:List bI}(h:vG n p0=some r):X.bg 51 [.c (.agg (EncX.ae p0))] (aP r):=by
 refine fC 18 QJ ?_
 refine wg h fun az h0 h=>?_
 have h0:=aeb _ _ _ _ _ _ h0
 cases az with
 | e0 lF dC=>
  refine wo [1,0,1,0] h0<|?_
  cases h
  exact wC
def CR (n:Nat)(p0:bI)(p1:Int):Option Bool:=
 if p0.type=1 then
  if(0:Int)≤p1 then
   if p1≤1 then
    some true
   else some false
  else some false
 else if p0.type=2 then
  if((-9223372036854775808):Int)≤p1 then
   if p1≤9223372036854775807 then
    some true
   else some false
  else some false
 else if p0.type=3 then
  if p0.lo≤p1 then
   if p1≤p0.hi then
    some true
   else some false
  else some false
 else if(1:Int)≤p1 then
  if p1≤0 then
   some true
  else some false
 else some false
theorem TY {n:Nat}{p0:bI}{p1:Int}{r:Bool}(h:CR n p0 p1=some r):X.bg 52 [.c (.agg (EncX.ae p0)),aa p1] (dB r):=by
 refine fC 27 Zu ?_
 refine wi (3,0) h (fun h0 h=>?_) fun h0 h=>?_
 ·refine wi (9,2) h (fun h1 h=>?_) fun h1 h=>?_
  ·refine wi (9,6) h (fun h2 h=>?_) fun h2 h=>?_
   ·cases h
    exact wC
   ·cases h
    exact wC
  ·cases h
   exact wC
 ·refine wi (5,0) h (fun h1 h=>?_) fun h1 h=>?_
  ·refine wi (9,2) h (fun h2 h=>?_) fun h2 h=>?_
   ·refine wi (9,6) h (fun h3 h=>?_) fun h3 h=>?_
    ·cases h
     exact wC
    ·cases h
     exact wC
   ·cases h
    exact wC
  ·refine wi (7,0) h (fun h2 h=>?_) fun h2 h=>?_
   ·refine wi (9,2) h (fun h3 h=>?_) fun h3 h=>?_
    ·refine wi (9,6) h (fun h4 h=>?_) fun h4 h=>?_
     ·cases h
      exact wC
     ·cases h
      exact wC
    ·cases h
     exact wC
   ·refine wi (9,2) h (fun h3 h=>?_) fun h3 h=>?_
    ·refine wi (9,6) h (fun h4 h=>?_) fun h4 h=>?_
     ·cases h
      exact wC
     ·cases h
      exact wC
    ·cases h
     exact wC
def AK (n:Nat)(p0 p1:Int):Option Bool:=
 if p0≥0 then
  if p0≤p1 then
   some true
  else some false
 else some false
theorem PT {n:Nat}{p0 p1:Int}{r:Bool}(h:AK n p0 p1=some r):X.bg 82 [aa p0,aa p1] (dB r):=by
 refine fC 12 ZG ?_
 refine wi (1,1) h (fun h0 h=>?_) fun h0 h=>?_
 ·refine wi (1,5) h (fun h1 h=>?_) fun h1 h=>?_
  ·cases h
   exact wC
  ·cases h
   exact wC
 ·cases h
  exact wC
def Km (n:Nat)(p0 p1:Int):Option Bool:=
 if p0≥0 then
  if p0≤p1 then
   some true
  else some false
 else some false
theorem ap9 {n:Nat}{p0 p1:Int}{r:Bool}(h:Km n p0 p1=some r):X.bg 83 [aa p0,aa p1] (dB r):=by
 refine fC 12 ZH ?_
 refine wi (1,1) h (fun h0 h=>?_) fun h0 h=>?_
 ·refine wi (1,5) h (fun h1 h=>?_) fun h1 h=>?_
  ·cases h
   exact wC
  ·cases h
   exact wC
 ·cases h
  exact wC
inductive Ft where
 | e0 (v4:List Int) (v10:Int)
def abI:Ft->Ex
 | .e0 _ _=>(.exit 0)
def abH (p0:aN)(p1:Int):Ft->S
 | .e0 v4 v10=>⟨fl [(1,aa p1),(4,aP v4),(8,.c (aq p0.aU)),(9,aa (p0.aU.l.length:Int)),(10,aa v10),(11,dB false)],⟨[⟨1,(EncX.ae p0).map DV.c⟩],[]⟩⟩
def uV (p0:aN)(p1:Int)(n:Nat):Nat->List Int->Int->Option Ft
 | 0,_,_=>none
 | k+1,v4,v10=>
  if v10<(p0.aU.l.length:Int)then
   (aD p0.aU.l v10).bind fun bf=>
   if bf.from_=p1 then
    if Room 8 (v4++([v10]:List Int)).length then if aF (v10+1)then uV p0 p1 n k (v4++([v10]:List Int)) (v10+1)
    else none
    else none
   else if aF (v10+1)then uV p0 p1 n k v4 (v10+1)
   else none
  else some (.e0 v4 v10)
theorem abG (p0:aN)(p1:Int)(n:Nat):∀(k:Nat) (v4:List Int) (v10:Int) (o:Ft),uV p0 p1 n k v4 v10=some o->X.LH 84 25 2 (sub QP [1,0,1,0,0]) 1 ⟨fl [(1,aa p1),(4,aP v4),(8,.c (aq p0.aU)),(9,aa (p0.aU.l.length:Int)),(10,aa v10)],⟨[⟨1,(EncX.ae p0).map DV.c⟩],[]⟩⟩ (abI o) (abH p0 p1 o):=by
 intro k;induction k with
 | zero=>intro _ _ _ h;exact nomatch h
 | succ k ih=>
  intro v4 v10 o h s hs
  refine Sys.bj hs (w0 ?_)
  refine wi (2,0) h (fun h0 h=>?_) fun h0 h=>?_
  ·refine wg h fun bf h1 h=>wx (3,1) h1<|wa (3,2) h1<|wi (4,3) h (fun h2 h=>?_) fun h2 h=>?_
   ·exact wq h fun h3 h=>dG (5,3) h3<|wn (6,0) h fun h4 h=>wN 2 [] (ih (v4++([v10]:List Int)) (v10+1) _ h)
   ·exact wn (6,0) h fun h3 h=>wN 2 [] (ih v4 (v10+1) _ h)
  ·cases h
   exact wX
def Bq (n:Nat)(p0:aN)(p1:Int):Option (List Int):=
 (uV p0 p1 n n ([]:List Int) 0).bind fun az=>match az with
 | .e0 dU cB=>
  some dU
theorem R7 {n:Nat}{p0:aN}{p1:Int}{r:List Int}(h:Bq n p0 p1=some r):X.bg 84 [.c (.agg (EncX.ae p0)),aa p1] (aP r):=by
 refine fC 25 QP ?_
 refine wg h fun az h0 h=>?_
 have h0:=abG _ _ _ _ _ _ _ h0
 cases az with
 | e0 dU cB=>
  refine wo [1,0,1,0] h0<|?_
  cases h
  exact wC
inductive Kj where
 | m
 | r
def ap1:Kj->Ex
 | .m=>.normal
 | .r=>.ret
def ap0 (p0:aT)(p1:ah):Kj->(Nat->DV)->List Ob->S
 | .m,F,G=>⟨fs F [2,3,42] [(2,.pt 0 1 0),(3,.pt 1 1 0),(42,dB false)],⟨sl G 2 [(0,⟨1,(EncX.ae p0).map DV.c⟩),(1,⟨1,(EncX.ae p1).map DV.c⟩)],[]⟩⟩
 | .r,F,G=>⟨fs F [4] [(4,dB false)],⟨sl G 2 [(0,⟨1,(EncX.ae p0).map DV.c⟩),(1,⟨1,(EncX.ae p1).map DV.c⟩)],[]⟩⟩
def Ki (p0:aT)(p1:ah)(n:Nat):Option Kj:=
 if aF ((p0.bc.l.length:Int) - 1)then(AK n p1.role ((p0.bc.l.length:Int) - 1)).bind fun x=>
 bif x then
  (aD p0.bc.l p1.role).bind fun v24=>
  if aF (v24.ar - 1)then(AK n p1.loc (v24.ar - 1)).bind fun aC=>
  bif aC then
   (Km n p1.left 1099511627776).bind fun av=>
   bif av then
    (AK n p1.depth 1099511627776).bind fun aK=>
    bif aK then
     some (.m)
    else some (.r)
   else some (.r)
  else some (.r)
  else none
 else some (.r)
 else none
theorem apZ (p0:aT)(p1:ah)(n:Nat)(o:Kj)(h:Ki p0 p1 n=some o):X.JF 54 105 (sub EI [1,0]) [2,3] 2 [(2,.pt 0 1 0),(3,.pt 1 1 0)] [(0,⟨1,(EncX.ae p0).map DV.c⟩),(1,⟨1,(EncX.ae p1).map DV.c⟩)] (ap1 o) (ap0 p0 p1 o):=by
 intro F G;refine Sys.dZ (w0 ?_)
 refine wn (1,5) h fun h0 h=>wc (1,6) h (fun _=>PT) fun x h=>?_
 cases x
 ·cases h
  exact wJ
 ·refine wg h fun v24 h3 h=>wx (1,15) h3<|wl (1,17) 2 h3 rfl<|wn (1,18) h fun h4 h=>wc (1,19) h (fun _=>PT) fun aC h=>?_
  cases aC
  ·cases h
   exact wJ
  ·refine wc (1,25) h (fun _=>ap9) fun av h=>?_
   cases av
   ·cases h
    exact wJ
   ·refine wc (1,31) h (fun _=>PT) fun aK h=>?_
    cases aK
    ·cases h
     exact wJ
    ·cases h
     exact wJ
inductive Kk where
 | m (v7:Bool)
def ap4:Kk->Ex
 | .m _=>.normal
def ap3 (p1:ah):Kk->(Nat->DV)->List Ob->S
 | .m v7,F,G=>⟨fs F [3,5,6,7] [(3,.pt 1 1 0),(7,dB v7)],⟨sl G 3 [(1,⟨1,(EncX.ae p1).map DV.c⟩)],[]⟩⟩
def PQ (p1:ah)(n:Nat):Option Kk:=
 if p1.left=0 then
  if p1.depth=0 then
   some (.m true)
  else some (.m false)
 else some (.m false)
theorem ap2 (p1:ah)(n:Nat)(o:Kk)(h:PQ p1 n=some o):X.JF 54 105 (sub EI [1,1,1,1,0]) [3,5,6] 3 [(3,.pt 1 1 0)] [(1,⟨1,(EncX.ae p1).map DV.c⟩)] (ap4 o) (ap3 p1 o):=by
 intro F G;refine Sys.dZ (w0 ?_)
 refine wi (5,2) h (fun h0 h=>?_) fun h0 h=>?_
 ·refine wi (5,6) h (fun h1 h=>?_) fun h1 h=>?_
  ·cases h
   exact wJ
  ·cases h
   exact wJ
 ·cases h
  exact wJ
inductive Kl where
 | m (v8:Bool)
def ap7:Kl->Ex
 | .m _=>.normal
def ap6 (p1:ah)(gz:aN)(aG:List Int):Kl->(Nat->DV)->List Ob->S
 | .m v8,F,G=>⟨fs F [3,6,7,8] [(3,.pt 1 1 0),(6,aP aG),(8,dB v8)],⟨sl G 3 [(1,⟨1,(EncX.ae p1).map DV.c⟩),(2,⟨1,(EncX.ae gz).map DV.c⟩)],[]⟩⟩
def PS (p1:ah)(gz:aN)(aG:List Int)(n:Nat):Option Kl:=
 if(aG.length:Int)>0 then
  (aD aG 0).bind fun tS=>
  (aD gz.aU.l tS).bind fun v70=>
  if v70.kind=6 then
   if p1.depth≥1 then
    some (.m true)
   else some (.m false)
  else some (.m false)
 else some (.m false)
theorem ap5 (p1:ah)(gz:aN)(aG:List Int)(n:Nat)(o:Kl)(h:PS p1 gz aG n=some o):X.JF 54 105 (sub EI [1,1,1,1,1,0]) [3,5,6,7] 3 [(3,.pt 1 1 0),(5,.pt 2 1 0),(6,aP aG)] [(1,⟨1,(EncX.ae p1).map DV.c⟩),(2,⟨1,(EncX.ae gz).map DV.c⟩)] (ap7 o) (ap6 p1 gz aG o):=by
 intro F G;refine Sys.dZ (w0 ?_)
 refine wi (6,2) h (fun h0 h=>?_) fun h0 h=>?_
 ·refine wg h fun tS h1 h=>wx (6,7) h1<|wl (6,8) 0 h1 rfl<|wg h fun v70 h2 h=>wx (6,9) h2<|wl (6,11) 2 h2 rfl<|wi (6,12) h (fun h3 h=>?_) fun h3 h=>?_
  ·refine wi (6,17) h (fun h4 h=>?_) fun h4 h=>?_
   ·cases h
    exact wJ
   ·cases h
    exact wJ
  ·cases h
   exact wJ
 ·cases h
  exact wJ
def Kh (n:Nat)(p0:aT)(p1:ah):Option Bool:=
 (Ki p0 p1 n).bind fun az=>match az with
 | .m=>
  (aD p0.bc.l p1.role).bind fun gz=>
  (Bq n gz p1.loc).bind fun aG=>
  (PQ p1 n).bind fun aY=>match aY with
  | .m v7=>
   (PS p1 gz aG n).bind fun bD=>match bD with
   | .m v8=>
    if p1.state=0 then
     if(aG.length:Int)>0 then
      some v7
     else some false
    else if p1.state=1 then
     some v8
    else if p1.state=2 then
     bif v8 then
      if p1.left=0 then
       some true
      else some false
     else some false
    else if p1.state=3 then
     some v7
    else if p1.state=4 then
     some v7
    else some false
 | .r=>
  some false
theorem ap8 {n:Nat}{p0:aT}{p1:ah}{r:Bool}(h:Kh n p0 p1=some r):X.bg 54 [.c (.agg (EncX.ae p0)),.c (.agg (EncX.ae p1))] (dB r):=by
 refine fC 105 EI ?_
 refine wg h fun az h0 h=>?_
 have h0:=apZ _ _ _ _ h0
 cases az with
 | m=>
  refine wV 201001 [1,0] h0<|wg h fun gz h1 h=>wx (3,4) h1<|wa (3,5) h1<|wc (4,3) h (fun _=>R7) fun aG h=>wg h fun aY h3 h=>?_
  have h3:=ap2 _ _ _ h3
  cases aY with
  | m v7=>
   refine wV 5 [1,1,1,1,0] h3<|wg h fun bD h4 h=>?_
   have h4:=ap5 _ _ _ _ _ h4
   cases bD with
   | m v8=>
    refine wV 6 [1,1,1,1,1,0] h4<|wi (8,0) h (fun h5 h=>?_) fun h5 h=>?_
    ·refine wi (9,2) h (fun h6 h=>?_) fun h6 h=>?_
     ·cases h
      exact wC
     ·cases h
      exact wC
    ·refine wi (10,0) h (fun h6 h=>?_) fun h6 h=>?_
     ·cases h
      exact wC
     ·refine wi (12,0) h (fun h7 h=>?_) fun h7 h=>?_
      ·cases v8
       ·cases h
        exact wC
       ·refine wi (13,4) h (fun h9 h=>?_) fun h9 h=>?_
        ·cases h
         exact wC
        ·cases h
         exact wC
      ·refine wi (14,0) h (fun h8 h=>?_) fun h8 h=>?_
       ·cases h
        exact wC
       ·refine wi (15,0) h (fun h9 h=>?_) fun h9 h=>?_
        ·cases h
         exact wC
        ·cases h
         exact wC
 | r=>
  refine wV 201001 [1,0] h0<|?_
  cases h
  exact wC
def PN (n:Nat)(p0:ah)(ai:Sl aH)(ak:Sl aO)(ao:Sl aN):Option Bool:=
 (Kh n ({ p:=({ aw:=ai,aR:=ak}:aj),bc:=ao}:aT) p0).bind fun x=>
 bif x then
  some false
 else some true
theorem apT {n:Nat}{p0:ah}{ai:Sl aH}{ak:Sl aO}{ao:Sl aN}{r:Bool}(h:PN n p0 ai ak ao=some r):X.cD 53 [.c (.agg (EncX.ae p0)),.pt 0 1 0] (bm [.x 1 [.c (aq ai),.c (aq ak),.c (aq ao)]]) (dB r) (bm [.x 1 [.c (aq ai),.c (aq ak),.c (aq ao)]]):=by
 refine fL 8 Zv ?_
 refine wc (1,2) h (fun _=>ap8) fun x h=>?_
 cases x
 ·cases h
  exact wL []
 ·cases h
  exact wL []
inductive GS where
 | r (v4:Int)
 | e0 (v8:Int)
def agx:GS->Ex
 | .r _=>.ret
 | .e0 _=>(.exit 0)
def agw (p0:Sl ah)(ai:Sl aH)(ak:Sl aO)(ao:Sl aN):GS->(Nat->DV)->List Ob->S
 | .r v4,F,G=>⟨fs F [4] [(4,aa v4)],⟨sl G 1 [(0,⟨1,[.c (aq ai),.c (aq ak),.c (aq ao)]⟩)],[]⟩⟩
 | .e0 v8,F,G=>⟨fs F [0,1,7,8,9] [(0,.c (aq p0)),(1,.fn 53 [] [.pt 0 1 0]),(7,aa (p0.l.length:Int)),(8,aa v8),(9,dB false)],⟨sl G 1 [(0,⟨1,[.c (aq ai),.c (aq ak),.c (aq ao)]⟩)],[]⟩⟩
def y9 (p0:Sl ah)(ai:Sl aH)(ak:Sl aO)(ao:Sl aN)(n:Nat):Nat->Int->Option GS
 | 0,_=>none
 | k+1,v8=>
  if v8<(p0.l.length:Int)then
   (aD p0.l v8).bind fun bq=>
   (PN n bq ai ak ao).bind fun x=>
   bif x then
    some (.r v8)
   else if aF (v8+1)then y9 p0 ai ak ao n k (v8+1)
   else none
  else some (.e0 v8)
theorem agv (p0:Sl ah)(ai:Sl aH)(ak:Sl aO)(ao:Sl aN)(n:Nat):∀(k:Nat) (v8:Int) (o:GS),y9 p0 ai ak ao n k v8=some o->X.LF 85 19 2 (sub QQ [1,0,1,0,0]) 1 [(0,.c (aq p0)),(1,.fn 53 [] [.pt 0 1 0]),(7,aa (p0.l.length:Int)),(8,aa v8)] [(0,⟨1,[.c (aq ai),.c (aq ak),.c (aq ao)]⟩)] (agx o) (agw p0 ai ak ao o):=by
 intro k;induction k with
 | zero=>intro _ _ h;exact nomatch h
 | succ k ih=>
  intro v8 o h F G s hs
  refine Sys.bj hs (w0 ?_)
  refine wi (2,0) h (fun h0 h=>?_) fun h0 h=>?_
  ·refine wg h fun bq h1 h=>wx (4,3) h1<|wa (4,4) h1<|wy (4,5) h (fun _=>apT) fun x h=>?_
   cases x
   ·exact wn (6,0) h fun h4 h=>wN 2 [] (ih (v8+1) _ h F G)
   ·cases h
    exact wX
  ·cases h
   exact wX
def N9 (n:Nat)(p0:Sl ah)(ai:Sl aH)(ak:Sl aO)(ao:Sl aN):Option Int:=
 (y9 p0 ai ak ao n n 0).bind fun az=>match az with
 | .r v4=>
  some v4
 | .e0 dC=>
  some (-1)
theorem agy {n:Nat}{p0:Sl ah}{ai:Sl aH}{ak:Sl aO}{ao:Sl aN}{r:Int}(h:N9 n p0 ai ak ao=some r):X.cD 85 [.c (aq p0),.fn 53 [] [.pt 0 1 0]] (bm [.x 1 [.c (aq ai),.c (aq ak),.c (aq ao)]]) (aa r) (bm [.x 1 [.c (aq ai),.c (aq ak),.c (aq ao)]]):=by
 refine fL 19 QQ ?_
 refine wg h fun az h0 h=>?_
 have h0:=agv _ _ _ _ _ _ _ _ h0
 cases az with
 | r v4=>
  refine wO [1,0,1,0] h0<|?_
  cases h
  exact wL []
 | e0 dC=>
  refine wO [1,0,1,0] h0<|?_
  cases h
  exact wL []
def GN (n:Nat)(p0:Sl ah)(ai:Sl aH)(ak:Sl aO)(ao:Sl aN):Option Bool:=
 (N9 n p0 ai ak ao).bind fun x=>
 if x≥0 then
  some true
 else some false
theorem agi {n:Nat}{p0:Sl ah}{ai:Sl aH}{ak:Sl aO}{ao:Sl aN}{r:Bool}(h:GN n p0 ai ak ao=some r):X.cD 57 [.c (aq p0),.fn 53 [] [.pt 0 1 0]] (bm [.x 1 [.c (aq ai),.c (aq ak),.c (aq ao)]]) (dB r) (bm [.x 1 [.c (aq ai),.c (aq ak),.c (aq ao)]]):=by
 refine fL 9 Zy ?_
 refine wy (1,2) h (fun _=>agy) fun x h=>wi (1,3) h (fun h1 h=>?_) fun h1 h=>?_
 ·cases h
  exact wL []
 ·cases h
  exact wL []
def Kg (n:Nat)(p0:bo)(p1:aE):Option Bool:=
 if p1.owner<0 then
  if p1=({ owner:=(-1)}:aE)then
   some true
  else some false
 else if p1.owner<(p0.threads.l.length:Int)then
  (aD p0.threads.l p1.owner).bind fun bZ=>
  if bZ.state≤2 then
   if p1.depth≥1 then
    if p1.depth≤1099511627776 then
     some true
    else some false
   else some false
  else some false
 else some false
theorem apY {n:Nat}{p0:bo}{p1:aE}{r:Bool}(h:Kg n p0 p1=some r):X.bg 56 [.c (.agg (EncX.ae p0)),.c (.agg (EncX.ae p1))] (dB r):=by
 refine fC 37 Zx ?_
 refine wi (1,2) h (fun h0 h=>?_) fun h0 h=>?_
 ·refine wI h (fun h1 h=>?_) fun h1 h=>?_
  ·refine wt (2,2) (.op { d:=dB true}) (yX (sa p1 ({ owner:=(-1)}:aE)) h1)<|?_
   cases h
   exact wC
  ·refine wt (2,2) (.op { d:=dB false}) (yW (sa p1 ({ owner:=(-1)}:aE)) h1)<|?_
   cases h
   exact wC
 ·refine wi (3,5) h (fun h1 h=>?_) fun h1 h=>?_
  ·refine wg h fun bZ h2 h=>wx (3,11) h2<|wl (3,13) 2 h2 rfl<|wi (3,14) h (fun h3 h=>?_) fun h3 h=>?_
   ·refine wi (3,19) h (fun h4 h=>?_) fun h4 h=>?_
    ·refine wi (3,24) h (fun h5 h=>?_) fun h5 h=>?_
     ·cases h
      exact wC
     ·cases h
      exact wC
    ·cases h
     exact wC
   ·cases h
    exact wC
  ·cases h
   exact wC
def PO (n:Nat)(p0:aE)(ai:Sl ah)(ak:Sl aE)(ao:Sl Int):Option Bool:=
 (Kg n ({ threads:=ai,aZ:=ak,aB:=ao}:bo) p0).bind fun x=>
 bif x then
  some false
 else some true
theorem apU {n:Nat}{p0:aE}{ai:Sl ah}{ak:Sl aE}{ao:Sl Int}{r:Bool}(h:PO n p0 ai ak ao=some r):X.cD 55 [.c (.agg (EncX.ae p0)),.pt 0 1 0] (bm [.x 1 [.c (aq ai),.c (aq ak),.c (aq ao)]]) (dB r) (bm [.x 1 [.c (aq ai),.c (aq ak),.c (aq ao)]]):=by
 refine fL 8 Zw ?_
 refine wc (1,2) h (fun _=>apY) fun x h=>?_
 cases x
 ·cases h
  exact wL []
 ·cases h
  exact wL []
inductive GP where
 | r (v4:Int)
 | e0 (v8:Int)
def agl:GP->Ex
 | .r _=>.ret
 | .e0 _=>(.exit 0)
def agk (p0:Sl aE)(ai:Sl ah)(ak:Sl aE)(ao:Sl Int):GP->(Nat->DV)->List Ob->S
 | .r v4,F,G=>⟨fs F [4] [(4,aa v4)],⟨sl G 1 [(0,⟨1,[.c (aq ai),.c (aq ak),.c (aq ao)]⟩)],[]⟩⟩
 | .e0 v8,F,G=>⟨fs F [0,1,7,8,9] [(0,.c (aq p0)),(1,.fn 55 [] [.pt 0 1 0]),(7,aa (p0.l.length:Int)),(8,aa v8),(9,dB false)],⟨sl G 1 [(0,⟨1,[.c (aq ai),.c (aq ak),.c (aq ao)]⟩)],[]⟩⟩
def y6 (p0:Sl aE)(ai:Sl ah)(ak:Sl aE)(ao:Sl Int)(n:Nat):Nat->Int->Option GP
 | 0,_=>none
 | k+1,v8=>
  if v8<(p0.l.length:Int)then
   (aD p0.l v8).bind fun bq=>
   (PO n bq ai ak ao).bind fun x=>
   bif x then
    some (.r v8)
   else if aF (v8+1)then y6 p0 ai ak ao n k (v8+1)
   else none
  else some (.e0 v8)
theorem agj (p0:Sl aE)(ai:Sl ah)(ak:Sl aE)(ao:Sl Int)(n:Nat):∀(k:Nat) (v8:Int) (o:GP),y6 p0 ai ak ao n k v8=some o->X.LF 86 19 2 (sub QR [1,0,1,0,0]) 1 [(0,.c (aq p0)),(1,.fn 55 [] [.pt 0 1 0]),(7,aa (p0.l.length:Int)),(8,aa v8)] [(0,⟨1,[.c (aq ai),.c (aq ak),.c (aq ao)]⟩)] (agl o) (agk p0 ai ak ao o):=by
 intro k;induction k with
 | zero=>intro _ _ h;exact nomatch h
 | succ k ih=>
  intro v8 o h F G s hs
  refine Sys.bj hs (w0 ?_)
  refine wi (2,0) h (fun h0 h=>?_) fun h0 h=>?_
  ·refine wg h fun bq h1 h=>wx (4,3) h1<|wa (4,4) h1<|wy (4,5) h (fun _=>apU) fun x h=>?_
   cases x
   ·exact wn (6,0) h fun h4 h=>wN 2 [] (ih (v8+1) _ h F G)
   ·cases h
    exact wX
  ·cases h
   exact wX
def Oa (n:Nat)(p0:Sl aE)(ai:Sl ah)(ak:Sl aE)(ao:Sl Int):Option Int:=
 (y6 p0 ai ak ao n n 0).bind fun az=>match az with
 | .r v4=>
  some v4
 | .e0 dC=>
  some (-1)
theorem agm {n:Nat}{p0:Sl aE}{ai:Sl ah}{ak:Sl aE}{ao:Sl Int}{r:Int}(h:Oa n p0 ai ak ao=some r):X.cD 86 [.c (aq p0),.fn 55 [] [.pt 0 1 0]] (bm [.x 1 [.c (aq ai),.c (aq ak),.c (aq ao)]]) (aa r) (bm [.x 1 [.c (aq ai),.c (aq ak),.c (aq ao)]]):=by
 refine fL 19 QR ?_
 refine wg h fun az h0 h=>?_
 have h0:=agj _ _ _ _ _ _ _ _ h0
 cases az with
 | r v4=>
  refine wO [1,0,1,0] h0<|?_
  cases h
  exact wL []
 | e0 dC=>
  refine wO [1,0,1,0] h0<|?_
  cases h
  exact wL []
def GO (n:Nat)(p0:Sl aE)(ai:Sl ah)(ak:Sl aE)(ao:Sl Int):Option Bool:=
 (Oa n p0 ai ak ao).bind fun x=>
 if x≥0 then
  some true
 else some false
theorem agh {n:Nat}{p0:Sl aE}{ai:Sl ah}{ak:Sl aE}{ao:Sl Int}{r:Bool}(h:GO n p0 ai ak ao=some r):X.cD 58 [.c (aq p0),.fn 55 [] [.pt 0 1 0]] (bm [.x 1 [.c (aq ai),.c (aq ak),.c (aq ao)]]) (dB r) (bm [.x 1 [.c (aq ai),.c (aq ak),.c (aq ao)]]):=by
 refine fL 9 Zz ?_
 refine wy (1,2) h (fun _=>agm) fun x h=>wi (1,3) h (fun h1 h=>?_) fun h1 h=>?_
 ·cases h
  exact wL []
 ·cases h
  exact wL []
inductive Ke where
 | r
 | e0 (gw:Int)
def apX:Ke->Ex
 | .r=>.ret
 | .e0 _=>(.exit 0)
def apW (p1:bo)(x:List bI):Ke->(Nat->DV)->List Ob->S
 | .r,F,G=>⟨fs F [4] [(4,aa 2)],⟨sl G 2 [],[]⟩⟩
 | .e0 gw,F,G=>⟨fs F [2,3,5,36,37,38,39] [(5,aP x),(36,.c (aq p1.aB)),(37,aa (p1.aB.l.length:Int)),(38,aa gw),(39,dB false)],⟨sl G 2 [],[]⟩⟩
def AJ (p1:bo)(x:List bI)(n:Nat):Nat->Int->Option Ke
 | 0,_=>none
 | k+1,gw=>
  if gw<(p1.aB.l.length:Int)then
   (aD p1.aB.l gw).bind fun WM=>
   (aD x gw).bind fun tR=>
   (CR n tR WM).bind fun aC=>
   bif aC then
    if aF (gw+1)then AJ p1 x n k (gw+1)
    else none
   else some (.r)
  else some (.e0 gw)
theorem apV (p1:bo)(x:List bI)(n:Nat):∀(k:Nat) (gw:Int) (o:Ke),AJ p1 x n k gw=some o->X.LF 28 63 5 (sub QF [1,1,1,0,1,0,0]) 2 [(5,aP x),(36,.c (aq p1.aB)),(37,aa (p1.aB.l.length:Int)),(38,aa gw)] [] (apX o) (apW p1 x o):=by
 intro k;induction k with
 | zero=>intro _ _ h;exact nomatch h
 | succ k ih=>
  intro gw o h F G s hs
  refine Sys.bj hs (w0 ?_)
  refine wi (5,0) h (fun h0 h=>?_) fun h0 h=>?_
  ·refine wg h fun WM h1 h=>wx (6,1) h1<|wl (6,2) 0 h1 rfl<|wg h fun tR h2 h=>wx (7,2) h2<|wa (7,3) h2<|wc (7,5) h (fun _=>TY) fun aC h=>?_
   cases aC
   ·cases h
    exact wX
   ·exact wn (9,0) h fun h5 h=>wN 5 [] (ih (gw+1) _ h F G)
  ·cases h
   exact wX
def xk (n:Nat)(p0:aT)(p1:bo):Option Int:=
 (vG n p0.p).bind fun x=>
 if(p1.aZ.l.length:Int)≠(p0.p.aw.l.length:Int)then
  some 2
 else if(p1.aB.l.length:Int)≠(x.length:Int)then
  some 2
 else if(p1.threads.l.length:Int)>40 then
  some 2
 else(AJ p1 x n n 0).bind fun az=>match az with
 | .r=>
  some 2
 | .e0 ai3=>
  (GN n p1.threads p0.p.aw p0.p.aR p0.bc).bind fun av=>
  bif av then
   some 2
  else(GO n p1.aZ p1.threads p1.aZ p1.aB).bind fun aK=>
  bif aK then
   some 2
  else some 0
theorem Kf {n:Nat}{p0:aT}{p1:bo}{r:Int}(h:xk n p0 p1=some r):X.bg 28 [.c (.agg (EncX.ae p0)),.c (.agg (EncX.ae p1))] (aa r):=by
 refine fC 63 QF ?_
 refine wc (1,2) h (fun _=>Gu) fun x h=>wi (2,7) h (fun h1 h=>?_) fun h1 h=>?_
 ·cases h
  exact wC
 ·refine wi (2,14) h (fun h2 h=>?_) fun h2 h=>?_
  ·cases h
   exact wC
  ·refine wi (2,20) h (fun h3 h=>?_) fun h3 h=>?_
   ·cases h
    exact wC
   ·refine wg h fun az h4 h=>?_
    have h4:=apV _ _ _ _ _ _ h4
    cases az with
    | r=>
     refine wO [1,1,1,0,1,0] h4<|?_
     cases h
     exact wC
    | e0 ai3=>
     refine wO [1,1,1,0,1,0] h4<|wy (12,3) h (fun _=>agi) fun av h=>?_
     cases av
     ·refine wy (12,8) h (fun _=>agh) fun aK h=>?_
      cases aK
      ·cases h
       exact wC
      ·cases h
       exact wC
     ·cases h
      exact wC
def G4 (p0:aT)(p1:bo):List DV:=[.c (aq p0.p.aw),.c (aq p0.p.aR),.c (aq p0.bc),.ms 3 1 0 p1.threads.l.length 5 true,.ms 4 1 0 p1.aZ.l.length 2 true,.ms 5 1 0 p1.aB.l.length 1 true,aP ([]:List Int)]
def On (n:Nat)(p0:aT)(p1:bo):Option Unit:=
 if Mk 40 p1.threads.l.length then if Mk 16 p1.aZ.l.length then if Mk 8 p1.aB.l.length then if p1.threads.l.length=(List.replicate p1.threads.l.length (({}:ah):ah)).length then if p1.threads.l.length=p1.threads.l.length then if p1.aZ.l.length=(List.replicate p1.aZ.l.length (({}:aE):aE)).length then if p1.aZ.l.length=p1.aZ.l.length then if p1.aB.l.length=(List.replicate p1.aB.l.length (0:Int)).length then if p1.aB.l.length=p1.aB.l.length then some ()
 else none
 else none
 else none
 else none
 else none
 else none
 else none
 else none
 else none
theorem ahc {n:Nat}{p0:aT}{p1:bo}{r:Unit}(h:On n p0 p1=some r):X.eU [] 29 [.c (.agg (EncX.ae p0)),.c (.agg (EncX.ae p1))] ⟨[],[]⟩ (.pt 2 1 0) ⟨(bm [.x 1 [.c (aq p0.p.aw),.c (aq p0.p.aR),.c (aq p0.bc)],.x 1 [.c (aq p1.threads),.c (aq p1.aZ),.c (aq p1.aB)],.x 1 (G4 p0 p1),.l 1 p1.threads.l,.l 1 p1.aZ.l,.l 1 p1.aB.l]),[]⟩:=by
 refine fK 58 Zr ?_
 refine wq h fun h0 h=>wt (2,4) (.mk (bl (List.replicate p1.threads.l.length (({}:ah):ah))) true) (Gm (({}:ah):ah) h0)<|wq h fun h1 h=>wt (3,4) (.mk (bl (List.replicate p1.aZ.l.length (({}:aE):aE))) true) (Gm (({}:aE):aE) h1)<|wq h fun h2 h=>wt (4,4) (.mk (bl (List.replicate p1.aB.l.length (0:Int))) true) (Gm (0:Int) h2)<|wq h fun h3 h=>wq h fun h4 h=>wt (5,7) (.op { d:=aa (p1.threads.l.length:Nat),set:=some (3,⟨1,bl p1.threads.l⟩)}) (LA (P:=X.P) (t:=31) (e:=71) (st:=[⟨1,(EncX.ae p0).map DV.c⟩,⟨1,(EncX.ae p1).map DV.c⟩,⟨1,(G4 p0 p1)⟩,⟨1,bl (List.replicate p1.threads.l.length (({}:ah):ah))⟩,⟨1,bl (List.replicate p1.aZ.l.length (({}:aE):aE))⟩,⟨1,bl (List.replicate p1.aB.l.length (0:Int))⟩]) (id:=3) (ver:=1) (x:=true) (nl:=p1.threads.nl) (yx:=p1.threads.x) (l:=(List.replicate p1.threads.l.length (({}:ah):ah))) (l':=p1.threads.l) (by kernel_rfl) (by kernel_rfl) rfl h3 h4)<|wq h fun h5 h=>wq h fun h6 h=>wt (6,7) (.op { d:=aa (p1.aZ.l.length:Nat),set:=some (4,⟨1,bl p1.aZ.l⟩)}) (LA (P:=X.P) (t:=32) (e:=77) (st:=[⟨1,(EncX.ae p0).map DV.c⟩,⟨1,(EncX.ae p1).map DV.c⟩,⟨1,(G4 p0 p1)⟩,⟨1,bl p1.threads.l⟩,⟨1,bl (List.replicate p1.aZ.l.length (({}:aE):aE))⟩,⟨1,bl (List.replicate p1.aB.l.length (0:Int))⟩]) (id:=4) (ver:=1) (x:=true) (nl:=p1.aZ.nl) (yx:=p1.aZ.x) (l:=(List.replicate p1.aZ.l.length (({}:aE):aE))) (l':=p1.aZ.l) (by kernel_rfl) (by kernel_rfl) rfl h5 h6)<|wq h fun h7 h=>wq h fun h8 h=>wt (7,7) (.op { d:=aa (p1.aB.l.length:Nat),set:=some (5,⟨1,bl p1.aB.l⟩)}) (LA (P:=X.P) (t:=33) (e:=2) (st:=[⟨1,(EncX.ae p0).map DV.c⟩,⟨1,(EncX.ae p1).map DV.c⟩,⟨1,(G4 p0 p1)⟩,⟨1,bl p1.threads.l⟩,⟨1,bl p1.aZ.l⟩,⟨1,bl (List.replicate p1.aB.l.length (0:Int))⟩]) (id:=5) (ver:=1) (x:=true) (nl:=p1.aB.nl) (yx:=p1.aB.x) (l:=(List.replicate p1.aB.l.length (0:Int))) (l':=p1.aB.l) (by kernel_rfl) (by kernel_rfl) rfl h7 h8)<|?_
 cases h
 exact wK
def nq (n:Nat)(p0:aT)(p1:ah):Option (List Int):=
 (aD p0.bc.l p1.role).bind fun v9=>
 (Bq n v9 p1.loc).bind fun x=>
 some x
theorem tK {n:Nat}{p0:aT}{p1:ah}{r:List Int}(h:nq n p0 p1=some r):X.bg 61 [.c (.agg (EncX.ae p0)),.c (.agg (EncX.ae p1))] (aP r):=by
 refine fC 14 ZC ?_
 refine wg h fun v9 h0 h=>wx (1,4) h0<|wa (1,5) h0<|wc (1,8) h (fun _=>R7) fun x h=>?_
 cases h
 exact wC
end Go.Vig
