/-
-/
import Derived.Test.YtpadajnejknkeaaGreatFd
set_option linter.unusedVariables false
set_option linter.unusedSimpArgs false
set_option maxRecDepth 100000
set_option maxHeartbeats 1000000
namespace Go.Vig
open Go Go.Abs Go.Proofs
variable [Kn]
inductive Jk where
 | r (v3:Int)
 | e2 (v7:Int)
def am8:Jk->Ex
 | .r _=>.ret
 | .e2 _=>(.exit 2)
def am7 (p0:aj)(v6:Int):Jk->(Nat->DV)->List Ob->S
 | .r v3,F,G=>⟨fs F [2,3] [(2,aa 80),(3,aa v3)],⟨sl G 1 [(0,⟨1,(EncX.ae p0).map DV.c⟩)],[]⟩⟩
 | .e2 v7,F,G=>⟨fs F [1,6,7,35] [(1,.pt 0 1 0),(6,aa v6),(7,aa v7),(35,dB false)],⟨sl G 1 [(0,⟨1,(EncX.ae p0).map DV.c⟩)],[]⟩⟩
def Ae (p0:aj)(v6:Int)(n:Nat):Nat->Int->Option Jk
 | 0,_=>none
 | k+1,v7=>
  (aD p0.aw.l v6).bind fun v31=>
  if v7<(v31.methods.l.length:Int)then
   (aD v31.methods.l v7).bind fun bR=>
   (D2 n p0 ({ mon:=v31.name,name:=bR.name}:a7)).bind fun av=>
   bif av then
    some (.r bR.at_)
   else if aF (v7+1)then Ae p0 v6 n k (v7+1)
   else none
  else some (.e2 v7)
theorem am6 (p0:aj)(v6:Int)(n:Nat):∀(k:Nat) (v7:Int) (o:Jk),Ae p0 v6 n k v7=some o->X.LF 92 93 8 (sub EL [1,1,1,0,1,0,0,1,0,0,1,0,0]) 1 [(1,.pt 0 1 0),(6,aa v6),(7,aa v7)] [(0,⟨1,(EncX.ae p0).map DV.c⟩)] (am8 o) (am7 p0 v6 o):=by
 intro k;induction k with
 | zero=>intro _ _ h;exact nomatch h
 | succ k ih=>
  intro v7 o h F G s hs
  refine Sys.bj hs (w0 ?_)
  refine wg h fun v31 h0 h=>wx (8,4) h0<|wl (8,6) 2 h0 rfl<|wi (8,8) h (fun h1 h=>?_) fun h1 h=>?_
  ·refine wx (10,4) h0<|wl (10,6) 0 h0 rfl<|wx (10,10) h0<|wl (10,12) 2 h0 rfl<|wg h fun bR h2 h=>wx (10,14) h2<|wl (10,16) 0 h2 rfl<|wc (10,18) h (fun _=>Xo) fun av h=>?_
   cases av
   ·exact wn (9,1) h fun h5 h=>wN 8 [] (ih (v7+1) _ h F G)
   ·refine wx (11,3) h0<|wl (11,5) 2 h0 rfl<|wx (11,7) h2<|wl (11,9) 2 h2 rfl<|?_
    cases h
    exact wX
  ·cases h
   exact wX
inductive Jj where
 | r (v3:Int)
 | e0 (v6:Int)
def am5:Jj->Ex
 | .r _=>.ret
 | .e0 _=>(.exit 0)
def am4 (p0:aj):Jj->(Nat->DV)->List Ob->S
 | .r v3,F,G=>⟨fs F [2,3] [(2,aa 80),(3,aa v3)],⟨sl G 1 [(0,⟨1,(EncX.ae p0).map DV.c⟩)],[]⟩⟩
 | .e0 v6,F,G=>⟨fs F [1,6,24] [(1,.pt 0 1 0),(6,aa v6),(24,dB false)],⟨sl G 1 [(0,⟨1,(EncX.ae p0).map DV.c⟩)],[]⟩⟩
def Ad (p0:aj)(n:Nat):Nat->Int->Option Jj
 | 0,_=>none
 | k+1,v6=>
  if v6<(p0.aw.l.length:Int)then
   (Ae p0 v6 n n 0).bind fun az=>match az with
   | .r v3=>
    some (.r v3)
   | .e2 iW=>
    if aF (v6+1)then Ad p0 n k (v6+1)
    else none
  else some (.e0 v6)
theorem am3 (p0:aj)(n:Nat):∀(k:Nat) (v6:Int) (o:Jj),Ad p0 n k v6=some o->X.LF 92 93 5 (sub EL [1,1,1,0,1,0,0]) 1 [(1,.pt 0 1 0),(6,aa v6)] [(0,⟨1,(EncX.ae p0).map DV.c⟩)] (am5 o) (am4 p0 o):=by
 intro k;induction k with
 | zero=>intro _ _ h;exact nomatch h
 | succ k ih=>
  intro v6 o h F G s hs
  refine Sys.bj hs (w0 ?_)
  refine wi (5,4) h (fun h0 h=>?_) fun h0 h=>?_
  ·refine wg h fun az h1 h=>?_
   have h1:=am6 _ _ _ _ _ _ h1
   cases az with
   | r v3=>
    refine wO [1,0,0,1,0] h1<|?_
    cases h
    exact wX
   | e2 iW=>
    exact wO [1,0,0,1,0] h1<|wn (6,1) h fun h2 h=>wN 5 [] (ih (v6+1) _ h F G)
  ·cases h
   exact wX
inductive Ji where
 | r (v3:Int)
 | e4 (v8:Int)
def am2:Ji->Ex
 | .r _=>.ret
 | .e4 _=>(.exit 4)
def am1 (p0:aj):Ji->(Nat->DV)->List Ob->S
 | .r v3,F,G=>⟨fs F [2,3] [(2,aa 81),(3,aa v3)],⟨sl G 1 [(0,⟨1,(EncX.ae p0).map DV.c⟩)],[]⟩⟩
 | .e4 v8,F,G=>⟨fs F [1,8,71] [(1,.pt 0 1 0),(8,aa v8),(71,dB false)],⟨sl G 1 [(0,⟨1,(EncX.ae p0).map DV.c⟩)],[]⟩⟩
def Ac (p0:aj)(n:Nat):Nat->Int->Option Ji
 | 0,_=>none
 | k+1,v8=>
  if v8<(p0.aR.l.length:Int)then
   (aD p0.aR.l v8).bind fun wE=>
   (D1 n p0 wE.body).bind fun(aK,aG)=>
   if aG=81 then
    some (.r wE.at_)
   else if aF (v8+1)then Ac p0 n k (v8+1)
   else none
  else some (.e4 v8)
theorem am0 (p0:aj)(n:Nat):∀(k:Nat) (v8:Int) (o:Ji),Ac p0 n k v8=some o->X.LF 92 93 13 (sub EL [1,1,1,1,0,1,0,0]) 1 [(1,.pt 0 1 0),(8,aa v8)] [(0,⟨1,(EncX.ae p0).map DV.c⟩)] (am2 o) (am1 p0 o):=by
 intro k;induction k with
 | zero=>intro _ _ h;exact nomatch h
 | succ k ih=>
  intro v8 o h F G s hs
  refine Sys.bj hs (w0 ?_)
  refine wi (13,4) h (fun h0 h=>?_) fun h0 h=>?_
  ·refine wg h fun wE h1 h=>wx (15,4) h1<|wl (15,6) 3 h1 rfl<|wc (15,7) h (fun _=>Xn) ?_
   rintro⟨aK,aG⟩ h
   refine wi (16,1) h (fun h3 h=>?_) fun h3 h=>?_
   ·refine wx (17,3) h1<|wl (17,5) 4 h1 rfl<|?_
    cases h
    exact wX
   ·exact wn (14,1) h fun h4 h=>wN 13 [] (ih (v8+1) _ h F G)
  ·cases h
   exact wX
def Jh (n:Nat)(p0:aj):Option (Int×Int):=
 (IW n p0).bind fun(x,aC)=>
 if x≠0 then
  some (x,aC)
 else(Ad p0 n n 0).bind fun aY=>match aY with
 | .r c7=>
  some (80,c7)
 | .e0 bX=>
  (Ac p0 n n 0).bind fun bD=>match bD with
  | .r iT=>
   some (81,iT)
  | .e4 dC=>
   some (0,0)
theorem am9 {n:Nat}{p0:aj}{r:Int×Int}(h:Jh n p0=some r):X.bg 92 [.c (.agg (EncX.ae p0))] (.aX [aa r.1,aa r.2]):=by
 refine fC 93 EL ?_
 refine wc (1,1) h (fun _=>amm) ?_
 rintro⟨x,aC⟩ h
 refine wi (2,1) h (fun h1 h=>?_) fun h1 h=>?_
 ·cases h
  exact wC
 ·refine wg h fun aY h2 h=>?_
  have h2:=am3 _ _ _ _ _ h2
  cases aY with
  | r c7=>
   refine wO [1,1,1,0,1,0] h2<|?_
   cases h
   exact wC
  | e0 bX=>
   refine wO [1,1,1,0,1,0] h2<|wg h fun bD h3 h=>?_
   have h3:=am0 _ _ _ _ _ h3
   cases bD with
   | r iT=>
    refine wO [1,1,1,1,0,1,0] h3<|?_
    cases h
    exact wC
   | e4 dC=>
    refine wO [1,1,1,1,0,1,0] h3<|?_
    cases h
    exact wC
inductive JG where
 | r
 | e0 (v5:Int)
def an8:JG->Ex
 | .r=>.ret
 | .e0 _=>(.exit 0)
def an7 (p0:Sl ByteArray)(p1:ByteArray):JG->(Nat->DV)->List Ob->S
 | .r,F,G=>⟨fs F [4] [(4,dB true)],⟨sl G 0 [],[]⟩⟩
 | .e0 v5,F,G=>⟨fs F [0,1,5,9] [(0,.c (aq p0)),(1,.c (.sc (.string p1))),(5,aa v5),(9,dB false)],⟨sl G 0 [],[]⟩⟩
def Ar (p0:Sl ByteArray)(p1:ByteArray)(n:Nat):Nat->Int->Option JG
 | 0,_=>none
 | k+1,v5=>
  if v5<(p0.l.length:Int)then
   (aD p0.l v5).bind fun bq=>
   if bq=p1 then
    some (.r)
   else if aF (v5+1)then Ar p0 p1 n k (v5+1)
   else none
  else some (.e0 v5)
theorem an6 (p0:Sl ByteArray)(p1:ByteArray)(n:Nat):∀(k:Nat) (v5:Int) (o:JG),Ar p0 p1 n k v5=some o->X.LF 142 18 2 (sub Qy [1,0,1,0,0]) 0 [(0,.c (aq p0)),(1,.c (.sc (.string p1))),(5,aa v5)] [] (an8 o) (an7 p0 p1 o):=by
 intro k;induction k with
 | zero=>intro _ _ h;exact nomatch h
 | succ k ih=>
  intro v5 o h F G s hs
  refine Sys.bj hs (w0 ?_)
  refine wi (2,3) h (fun h0 h=>?_) fun h0 h=>?_
  ·refine wg h fun bq h1 h=>wx (4,2) h1<|wl (4,3) 0 h1 rfl<|wI h (fun h2 h=>?_) fun h2 h=>?_
   ·refine wt (4,5) (.op { d:=dB true}) (dM h2)<|?_
    cases h
    exact wX
   ·exact wt (4,5) (.op { d:=dB false}) (dL h2)<|wn (3,1) h fun h3 h=>wN 2 [] (ih (v5+1) _ h F G)
  ·cases h
   exact wX
def rS (n:Nat)(p0:Sl ByteArray)(p1:ByteArray):Option Bool:=
 (Ar p0 p1 n n 0).bind fun az=>match az with
 | .r=>
  some true
 | .e0 cN=>
  some false
theorem D7 {n:Nat}{p0:Sl ByteArray}{p1:ByteArray}{r:Bool}(h:rS n p0 p1=some r):X.bg 142 [.c (aq p0),.c (.sc (.string p1))] (dB r):=by
 refine fC 18 Qy ?_
 refine wg h fun az h0 h=>?_
 have h0:=an6 _ _ _ _ _ _ h0
 cases az with
 | r=>
  refine wO [1,0,1,0] h0<|?_
  cases h
  exact wC
 | e0 cN=>
  refine wO [1,0,1,0] h0<|?_
  cases h
  exact wC
abbrev PC:=au->Option (List au)
def Xs (f:PC):Prop:=∀(p0:au) (r:List au),f p0=some r->X.bg 143 [.c (.agg (EncX.ae p0))] (aP r)
inductive JN where
 | e0 (v3:List au) (v4:Int)
def aos:JN->Ex
 | .e0 _ _=>(.exit 0)
def aor (p0:au):JN->(Nat->DV)->List Ob->S
 | .e0 v3 v4,F,G=>⟨fs F [1,3,4,16] [(1,.pt 0 1 0),(3,aP v3),(4,aa v4),(16,dB false)],⟨sl G 1 [(0,⟨1,(EncX.ae p0).map DV.c⟩)],[]⟩⟩
def xe (C9:PC)(p0:au)(n:Nat):Nat->List au->Int->Option JN
 | 0,_,_=>none
 | k+1,v3,v4=>
  if v4<(p0.kids.l.length:Int)then
   (aD p0.kids.l v4).bind fun jZ=>
   (C9 jZ).bind fun x=>
   if Room 80 (v3++x).length then if aF (v4+1)then xe C9 p0 n k (v3++x) (v4+1)
   else none
   else none
  else some (.e0 v3 v4)
theorem Xt (C9:PC)(p0:au)(Ew:Xs C9)(n:Nat):∀(k:Nat) (v3:List au) (v4:Int) (o:JN),xe C9 p0 n k v3 v4=some o->X.LF 143 28 5 (sub Qz [1,1,1,0,1,0,0]) 1 [(1,.pt 0 1 0),(3,aP v3),(4,aa v4)] [(0,⟨1,(EncX.ae p0).map DV.c⟩)] (aos o) (aor p0 o):=by
 intro k;induction k with
 | zero=>intro _ _ _ h;exact nomatch h
 | succ k ih=>
  intro v3 v4 o h F G s hs
  refine Sys.bj hs (w0 ?_)
  refine wi (5,4) h (fun h0 h=>?_) fun h0 h=>?_
  ·exact wg h fun jZ h1 h=>wx (7,4) h1<|wa (7,5) h1<|wc (7,6) h (fun _=>Ew _ _) fun x h=>wq h fun h3 h=>PG (7,7) h3<|wn (6,1) h fun h4 h=>wN 5 [] (ih (v3++x) (v4+1) _ h F G)
  ·cases h
   exact wX
def mJ:Nat->au->Option (List au)
 | 0,_=>none
 | n+1,p0=>
  if p0.op=4 then
   if Room 80 (([]:List au)++([p0]:List au)).length then(xe (mJ n) p0 n n (([]:List au)++([p0]:List au)) 0).bind fun az=>match az with
   | .e0 c7 dU=>
    some c7
   else none
  else(xe (mJ n) p0 n n ([]:List au) 0).bind fun aY=>match aY with
  | .e0 iT dR=>
   some iT
theorem aot:∀n:Nat,Xs (mJ n):=by
 intro n
 induction n with
 | zero=>
  refine ?_
  ·intro p0 r h;unfold mJ at h;cases h
 | succ n ih=>
  have Ew:=ih
  refine ?_
  ·intro p0 r h
   unfold mJ at h
   refine fC 28 Qz ?_
   refine wi (2,2) h (fun h0 h=>?_) fun h0 h=>?_
   ·refine wq h fun h1 h=>dG (3,3) h1<|wg h fun az h2 h=>?_
    have h2:=Xt _ _ Ew _ _ _ _ _ h2
    cases az with
    | e0 c7 dU=>
     refine wO [1,1,1,0,1,0] h2<|?_
     cases h
     exact wC
   ·refine wg h fun aY h1 h=>?_
    have h1:=Xt _ _ Ew _ _ _ _ _ h1
    cases aY with
    | e0 iT dR=>
     refine wO [1,1,1,0,1,0] h1<|?_
     cases h
     exact wC
theorem aou {n:Nat}{p0:au}{r:List au}(h:mJ n p0=some r):X.bg 143 [.c (.agg (EncX.ae p0))] (aP r):=aot n p0 r h
inductive D8 where
 | m (rI:Bool)
def aob:D8->Ex
 | .m _=>.normal
def aoa (p0:af)(p1:Sl ByteArray):D8->(Nat->DV)->List Ob->S
 | .m rI,F,G=>⟨fs F [1,2,35] [(1,.c (aq p1)),(2,.pt 0 1 0),(35,dB rI)],⟨sl G 1 [(0,⟨1,(EncX.ae p0).map DV.c⟩)],[]⟩⟩
def PA (p0:af)(p1:Sl ByteArray)(n:Nat):Option D8:=
 if p0.kind=2 then
  (rS n p1 p0.mon).bind fun x=>
  bif x then
   some (.m false)
  else some (.m true)
 else if p0.kind=9 then
  (rS n p1 p0.mon).bind fun aC=>
  bif aC then
   some (.m false)
  else some (.m true)
 else if p0.kind=10 then
  (rS n p1 p0.mon).bind fun av=>
  bif av then
   some (.m false)
  else some (.m true)
 else if p0.kind=11 then
  (rS n p1 p0.mon).bind fun aK=>
  bif aK then
   some (.m false)
  else some (.m true)
 else some (.m false)
theorem an9 (p0:af)(p1:Sl ByteArray)(n:Nat)(o:D8)(h:PA p0 p1 n=some o):X.JF 113 123 (sub uy [1,0,0]) [1,2] 1 [(1,.c (aq p1)),(2,.pt 0 1 0)] [(0,⟨1,(EncX.ae p0).map DV.c⟩)] (aob o) (aoa p0 p1 o):=by
 intro F G;refine Sys.dZ (w0 ?_)
 refine wi (1,2) h (fun h0 h=>?_) fun h0 h=>?_
 ·refine wc (1,22) h (fun _=>D7) fun x h=>?_
  cases x
  ·cases h
   exact wJ
  ·cases h
   exact wJ
 ·refine wi (1,6) h (fun h1 h=>?_) fun h1 h=>?_
  ·refine wc (1,22) h (fun _=>D7) fun aC h=>?_
   cases aC
   ·cases h
    exact wJ
   ·cases h
    exact wJ
  ·refine wi (1,11) h (fun h2 h=>?_) fun h2 h=>?_
   ·refine wc (1,22) h (fun _=>D7) fun av h=>?_
    cases av
    ·cases h
     exact wJ
    ·cases h
     exact wJ
   ·refine wi (1,16) h (fun h3 h=>?_) fun h3 h=>?_
    ·refine wc (1,22) h (fun _=>D7) fun aK h=>?_
     cases aK
     ·cases h
      exact wJ
     ·cases h
      exact wJ
    ·cases h
     exact wJ
inductive JM where
 | r (v5:Int)
 | e0 (v7:Int)
def aop:JM->Ex
 | .r _=>.ret
 | .e0 _=>(.exit 0)
def aoo (p1:Sl ByteArray)(aG:List au):JM->(Nat->DV)->List Ob->S
 | .r v5,F,G=>⟨fs F [4,5] [(4,aa 90),(5,aa v5)],⟨sl G 1 [],[]⟩⟩
 | .e0 v7,F,G=>⟨fs F [1,2,6,7,44] [(1,.c (aq p1)),(6,aP aG),(7,aa v7),(44,dB false)],⟨sl G 1 [],[]⟩⟩
def Au (p1:Sl ByteArray)(aG:List au)(n:Nat):Nat->Int->Option JM
 | 0,_=>none
 | k+1,v7=>
  if v7<(aG.length:Int)then
   (aD aG v7).bind fun rL=>
   (rS n p1 rL.mon).bind fun ba=>
   bif ba then
    if aF (v7+1)then Au p1 aG n k (v7+1)
    else none
   else some (.r rL.at_)
  else some (.e0 v7)
theorem aon (p1:Sl ByteArray)(aG:List au)(n:Nat):∀(k:Nat) (v7:Int) (o:JM),Au p1 aG n k v7=some o->X.LF 113 123 5 (sub uy [1,1,1,0,1,0,0]) 1 [(1,.c (aq p1)),(6,aP aG),(7,aa v7)] [] (aop o) (aoo p1 aG o):=by
 intro k;induction k with
 | zero=>intro _ _ h;exact nomatch h
 | succ k ih=>
  intro v7 o h F G s hs
  refine Sys.bj hs (w0 ?_)
  refine wi (5,3) h (fun h0 h=>?_) fun h0 h=>?_
  ·refine wg h fun rL h1 h=>wx (7,3) h1<|wl (7,5) 1 h1 rfl<|wc (7,6) h (fun _=>D7) fun ba h=>?_
   cases ba
   ·refine wx (8,2) h1<|wl (8,4) 5 h1 rfl<|?_
    cases h
    exact wX
   ·exact wn (6,1) h fun h4 h=>wN 5 [] (ih (v7+1) _ h F G)
  ·cases h
   exact wX
inductive JI where
 | m (v117:Bool)
def aoe:JI->Ex
 | .m _=>.normal
def aod (p0:af)(aG:List au)(v8 v9 v10:Int):JI->(Nat->DV)->List Ob->S
 | .m v117,F,G=>⟨fs F [2,6,8,9,10,117] [(2,.pt 0 1 0),(6,aP aG),(8,aa v8),(9,aa v9),(10,aa v10),(117,dB v117)],⟨sl G 1 [(0,⟨1,(EncX.ae p0).map DV.c⟩)],[]⟩⟩
def PB (p0:af)(aG:List au)(v8 v9 v10:Int)(n:Nat):Option JI:=
 (aD p0.blocks.l v9).bind fun DO=>
 (aD DO.l v10).bind fun zt=>
 if zt.kind=9 then
  (aD aG v8).bind fun Ww=>
  if zt.mon=Ww.mon then
   some (.m false)
  else some (.m true)
 else some (.m false)
theorem aoc (p0:af)(aG:List au)(v8 v9 v10:Int)(n:Nat)(o:JI)(h:PB p0 aG v8 v9 v10 n=some o):X.JF 113 123 (sub uy [1,1,1,1,1,0,1,0,0,1,0,0,1,0,0,1,0,0,1,0,0,1,0,0,0]) [2,6,8,9,10,88] 1 [(2,.pt 0 1 0),(6,aP aG),(8,aa v8),(9,aa v9),(10,aa v10)] [(0,⟨1,(EncX.ae p0).map DV.c⟩)] (aoe o) (aod p0 aG v8 v9 v10 o):=by
 intro F G;refine Sys.dZ (w0 ?_)
 refine wg h fun DO h0 h=>wx (20,3) h0<|wl (20,4) 0 h0 rfl<|wg h fun zt h1 h=>wx (20,6) h1<|wl (20,8) 0 h1 rfl<|wi (20,9) h (fun h2 h=>?_) fun h2 h=>?_
 ·refine wx (20,14) h0<|wl (20,15) 0 h0 rfl<|wx (20,17) h1<|wl (20,19) 1 h1 rfl<|wg h fun Ww h3 h=>wx (20,22) h3<|wl (20,24) 1 h3 rfl<|wI h (fun h4 h=>?_) fun h4 h=>?_
  ·refine wt (20,25) (.op { d:=dB false}) (tL h4)<|?_
   cases h
   exact wJ
  ·refine wt (20,25) (.op { d:=dB true}) (tM h4)<|?_
   cases h
   exact wJ
 ·cases h
  exact wJ
inductive JL where
 | r (v5:Int)
 | e6 (v10:Int)
def aom:JL->Ex
 | .r _=>.ret
 | .e6 _=>(.exit 6)
def aol (p0:af)(aG:List au)(v8 v9:Int):JL->(Nat->DV)->List Ob->S
 | .r v5,F,G=>⟨fs F [4,5] [(4,aa 91),(5,aa v5)],⟨sl G 1 [(0,⟨1,(EncX.ae p0).map DV.c⟩)],[]⟩⟩
 | .e6 v10,F,G=>⟨fs F [2,6,8,9,10,88] [(2,.pt 0 1 0),(6,aP aG),(8,aa v8),(9,aa v9),(10,aa v10),(88,dB false)],⟨sl G 1 [(0,⟨1,(EncX.ae p0).map DV.c⟩)],[]⟩⟩
def At (p0:af)(aG:List au)(v8 v9:Int)(n:Nat):Nat->Int->Option JL
 | 0,_=>none
 | k+1,v10=>
  (aD p0.blocks.l v9).bind fun v85=>
  if v10<(v85.l.length:Int)then
   (PB p0 aG v8 v9 v10 n).bind fun bD=>match bD with
   | .m v117=>
    bif v117 then
     (aD aG v8).bind fun Wy=>
     some (.r Wy.at_)
    else if aF (v10+1)then At p0 aG v8 v9 n k (v10+1)
    else none
  else some (.e6 v10)
theorem aok (p0:af)(aG:List au)(v8 v9:Int)(n:Nat):∀(k:Nat) (v10:Int) (o:JL),At p0 aG v8 v9 n k v10=some o->X.LF 113 123 18 (sub uy [1,1,1,1,1,0,1,0,0,1,0,0,1,0,0,1,0,0,1,0,0]) 1 [(2,.pt 0 1 0),(6,aP aG),(8,aa v8),(9,aa v9),(10,aa v10)] [(0,⟨1,(EncX.ae p0).map DV.c⟩)] (aom o) (aol p0 aG v8 v9 o):=by
 intro k;induction k with
 | zero=>intro _ _ h;exact nomatch h
 | succ k ih=>
  intro v10 o h F G s hs
  refine Sys.bj hs (w0 ?_)
  refine wg h fun v85 h0 h=>wx (18,4) h0<|wl (18,5) 0 h0 rfl<|wi (18,7) h (fun h1 h=>?_) fun h1 h=>?_
  ·refine wg h fun bD h2 h=>?_
   have h2:=aoc _ _ _ _ _ _ _ h2
   cases bD with
   | m v117=>
    refine wV 20 [1,0,0,0] h2<|?_
    cases v117
    ·exact wn (19,1) h fun h4 h=>wN 18 [] (ih (v10+1) _ h F G)
    ·refine wg h fun Wy h4 h=>wx (21,2) h4<|wl (21,4) 5 h4 rfl<|?_
     cases h
     exact wX
  ·cases h
   exact wX
inductive JK where
 | r (v5:Int)
 | e4 (v9:Int)
def aoj:JK->Ex
 | .r _=>.ret
 | .e4 _=>(.exit 4)
def aoi (p0:af)(aG:List au)(v8:Int):JK->(Nat->DV)->List Ob->S
 | .r v5,F,G=>⟨fs F [4,5] [(4,aa 91),(5,aa v5)],⟨sl G 1 [(0,⟨1,(EncX.ae p0).map DV.c⟩)],[]⟩⟩
 | .e4 v9,F,G=>⟨fs F [2,6,8,9,78] [(2,.pt 0 1 0),(6,aP aG),(8,aa v8),(9,aa v9),(78,dB false)],⟨sl G 1 [(0,⟨1,(EncX.ae p0).map DV.c⟩)],[]⟩⟩
def As (p0:af)(aG:List au)(v8:Int)(n:Nat):Nat->Int->Option JK
 | 0,_=>none
 | k+1,v9=>
  if v9<(p0.blocks.l.length:Int)then
   (At p0 aG v8 v9 n n 0).bind fun c9=>match c9 with
   | .r cN=>
    some (.r cN)
   | .e6 cB=>
    if aF (v9+1)then As p0 aG v8 n k (v9+1)
    else none
  else some (.e4 v9)
theorem aoh (p0:af)(aG:List au)(v8:Int)(n:Nat):∀(k:Nat) (v9:Int) (o:JK),As p0 aG v8 n k v9=some o->X.LF 113 123 15 (sub uy [1,1,1,1,1,0,1,0,0,1,0,0,1,0,0]) 1 [(2,.pt 0 1 0),(6,aP aG),(8,aa v8),(9,aa v9)] [(0,⟨1,(EncX.ae p0).map DV.c⟩)] (aoj o) (aoi p0 aG v8 o):=by
 intro k;induction k with
 | zero=>intro _ _ h;exact nomatch h
 | succ k ih=>
  intro v9 o h F G s hs
  refine Sys.bj hs (w0 ?_)
  refine wi (15,4) h (fun h0 h=>?_) fun h0 h=>?_
  ·refine wg h fun c9 h1 h=>?_
   have h1:=aok _ _ _ _ _ _ _ _ h1
   cases c9 with
   | r cN=>
    refine wO [1,0,0,1,0] h1<|?_
    cases h
    exact wX
   | e6 cB=>
    exact wO [1,0,0,1,0] h1<|wn (16,1) h fun h2 h=>wN 15 [] (ih (v9+1) _ h F G)
  ·cases h
   exact wX
inductive JJ where
 | r (v5:Int)
 | e2 (v8:Int)
def aog:JJ->Ex
 | .r _=>.ret
 | .e2 _=>(.exit 2)
def aof (p0:af)(aG:List au):JJ->(Nat->DV)->List Ob->S
 | .r v5,F,G=>⟨fs F [4,5] [(4,aa 91),(5,aa v5)],⟨sl G 1 [(0,⟨1,(EncX.ae p0).map DV.c⟩)],[]⟩⟩
 | .e2 v8,F,G=>⟨fs F [2,6,8,71] [(2,.pt 0 1 0),(6,aP aG),(8,aa v8),(71,dB false)],⟨sl G 1 [(0,⟨1,(EncX.ae p0).map DV.c⟩)],[]⟩⟩
def uh (p0:af)(aG:List au)(n:Nat):Nat->Int->Option JJ
 | 0,_=>none
 | k+1,v8=>
  if v8<(aG.length:Int)then
   (As p0 aG v8 n n 0).bind fun gv=>match gv with
   | .r db=>
    some (.r db)
   | .e4 gB=>
    if aF (v8+1)then uh p0 aG n k (v8+1)
    else none
  else some (.e2 v8)
theorem Xr (p0:af)(aG:List au)(n:Nat):∀(k:Nat) (v8:Int) (o:JJ),uh p0 aG n k v8=some o->X.LF 113 123 12 (sub uy [1,1,1,1,1,0,1,0,0]) 1 [(2,.pt 0 1 0),(6,aP aG),(8,aa v8)] [(0,⟨1,(EncX.ae p0).map DV.c⟩)] (aog o) (aof p0 aG o):=by
 intro k;induction k with
 | zero=>intro _ _ h;exact nomatch h
 | succ k ih=>
  intro v8 o h F G s hs
  refine Sys.bj hs (w0 ?_)
  refine wi (12,3) h (fun h0 h=>?_) fun h0 h=>?_
  ·refine wg h fun gv h1 h=>?_
   have h1:=aoh _ _ _ _ _ _ _ h1
   cases gv with
   | r db=>
    refine wO [1,0,0,1,0] h1<|?_
    cases h
    exact wX
   | e4 gB=>
    exact wO [1,0,0,1,0] h1<|wn (13,1) h fun h2 h=>wN 12 [] (ih (v8+1) _ h F G)
  ·cases h
   exact wX
def JH (n:Nat)(p0:af)(p1:Sl ByteArray):Option (Int×Int):=
 (PA p0 p1 n).bind fun az=>match az with
 | .m rI=>
  bif rI then
   some (90,p0.at_)
  else(mJ n p0.e_).bind fun aG=>
  (Au p1 aG n n 0).bind fun aY=>match aY with
  | .r v5=>
   some (90,v5)
  | .e0 iW=>
   if p0.kind≠3 then
    if p0.kind≠4 then
     some (0,0)
    else(uh p0 aG n n 0).bind fun iv=>match iv with
    | .r mF=>
     some (91,mF)
    | .e2 dC=>
     some (0,0)
   else(uh p0 aG n n 0).bind fun vJ=>match vJ with
   | .r WR=>
    some (91,WR)
   | .e2 DN=>
    some (0,0)
theorem aoq {n:Nat}{p0:af}{p1:Sl ByteArray}{r:Int×Int}(h:JH n p0 p1=some r):X.bg 113 [.c (.agg (EncX.ae p0)),.c (aq p1)] (.aX [aa r.1,aa r.2]):=by
 refine fC 123 uy ?_
 refine wg h fun az h0 h=>?_
 have h0:=an9 _ _ _ _ h0
 cases az with
 | m rI=>
  refine wV 1 [1,0,0] h0<|?_
  cases rI
  ·refine wc (3,2) h (fun _=>aou) fun aG h=>wg h fun aY h3 h=>?_
   have h3:=aon _ _ _ _ _ _ h3
   cases aY with
   | r v5=>
    refine wO [1,1,1,0,1,0] h3<|?_
    cases h
    exact wC
   | e0 iW=>
    refine wO [1,1,1,0,1,0] h3<|wi (9,2) h (fun h4 h=>?_) fun h4 h=>?_
    ·refine wi (9,6) h (fun h5 h=>?_) fun h5 h=>?_
     ·cases h
      exact wC
     ·refine wg h fun iv h6 h=>?_
      have h6:=Xr _ _ _ _ _ _ h6
      cases iv with
      | r mF=>
       refine wO [1,1,1,1,1,0,1,0] h6<|?_
       cases h
       exact wC
      | e2 dC=>
       refine wO [1,1,1,1,1,0,1,0] h6<|?_
       cases h
       exact wC
    ·refine wg h fun vJ h5 h=>?_
     have h5:=Xr _ _ _ _ _ _ h5
     cases vJ with
     | r WR=>
      refine wO [1,1,1,1,1,0,1,0] h5<|?_
      cases h
      exact wC
     | e2 DN=>
      refine wO [1,1,1,1,1,0,1,0] h5<|?_
      cases h
      exact wC
  ·cases h
   exact wC
abbrev xc:=Sl af->Sl ByteArray->Option (Int×Int)
def JB (f:xc):Prop:=∀(p0:Sl af) (p1:Sl ByteArray) (r:Int×Int),f p0 p1=some r->X.bg 93 [.c (aq p0),.c (aq p1)] (.aX [aa r.1,aa r.2])
inductive JC where
 | r (v4 v5:Int)
 | e2 (v11:Int)
def anY:JC->Ex
 | .r _ _=>.ret
 | .e2 _=>(.exit 2)
def anX (p1:Sl ByteArray)(bZ:af):JC->(Nat->DV)->List Ob->S
 | .r v4 v5,F,G=>⟨fs F [4,5] [(4,aa v4),(5,aa v5)],⟨sl G 1 [(0,⟨1,(EncX.ae bZ).map DV.c⟩)],[]⟩⟩
 | .e2 v11,F,G=>⟨fs F [0,1,6,7,10,11,49] [(7,.pt 0 1 0),(10,nC ((([]:List ByteArray)++p1.l)++([bZ.mon]:List ByteArray))),(11,aa v11),(49,dB false)],⟨sl G 1 [(0,⟨1,(EncX.ae bZ).map DV.c⟩)],[]⟩⟩
def Ap (jl:xc)(p1:Sl ByteArray)(bZ:af)(n:Nat):Nat->Int->Option JC
 | 0,_=>none
 | k+1,v11=>
  if v11<(bZ.blocks.l.length:Int)then
   (aD bZ.blocks.l v11).bind fun dF=>
   (jl dF (⟨false,false,((([]:List ByteArray)++p1.l)++([bZ.mon]:List ByteArray))⟩:Sl ByteArray)).bind fun(av,aK)=>
   if av≠0 then
    some (.r av aK)
   else if aF (v11+1)then Ap jl p1 bZ n k (v11+1)
   else none
  else some (.e2 v11)
theorem anW (jl:xc)(p1:Sl ByteArray)(bZ:af)(sb:JB jl)(n:Nat):∀(k:Nat) (v11:Int) (o:JC),Ap jl p1 bZ n k v11=some o->X.LF 93 66 12 (sub EM [1,0,1,0,0,1,0,0,1,1,1,1,1,1,0,0]) 1 [(7,.pt 0 1 0),(10,nC ((([]:List ByteArray)++p1.l)++([bZ.mon]:List ByteArray))),(11,aa v11)] [(0,⟨1,(EncX.ae bZ).map DV.c⟩)] (anY o) (anX p1 bZ o):=by
 intro k;induction k with
 | zero=>intro _ _ h;exact nomatch h
 | succ k ih=>
  intro v11 o h F G s hs
  refine Sys.bj hs (w0 ?_)
  refine wi (12,4) h (fun h0 h=>?_) fun h0 h=>?_
  ·refine wg h fun dF h1 h=>wx (14,3) h1<|wl (14,4) 0 h1 rfl<|wc (14,6) h (fun _=>sb _ _ _) ?_
   rintro⟨av,aK⟩ h
   refine wi (15,1) h (fun h3 h=>?_) fun h3 h=>?_
   ·cases h
    exact wX
   ·exact wn (13,1) h fun h4 h=>wN 12 [] (ih (v11+1) _ h F G)
  ·cases h
   exact wX
inductive JD where
 | r (v4 v5:Int)
 | e2 (v11:Int)
def an1:JD->Ex
 | .r _ _=>.ret
 | .e2 _=>(.exit 2)
def an0 (p1:Sl ByteArray)(bZ:af):JD->(Nat->DV)->List Ob->S
 | .r v4 v5,F,G=>⟨fs F [4,5] [(4,aa v4),(5,aa v5)],⟨sl G 1 [(0,⟨1,(EncX.ae bZ).map DV.c⟩)],[]⟩⟩
 | .e2 v11,F,G=>⟨fs F [0,1,6,7,10,11,49] [(7,.pt 0 1 0),(10,.c (aq p1)),(11,aa v11),(49,dB false)],⟨sl G 1 [(0,⟨1,(EncX.ae bZ).map DV.c⟩)],[]⟩⟩
def Aq (jl:xc)(p1:Sl ByteArray)(bZ:af)(n:Nat):Nat->Int->Option JD
 | 0,_=>none
 | k+1,pN=>
  if pN<(bZ.blocks.l.length:Int)then
   (aD bZ.blocks.l pN).bind fun HI=>
   (jl HI p1).bind fun(aG,ba)=>
   if aG≠0 then
    some (.r aG ba)
   else if aF (pN+1)then Aq jl p1 bZ n k (pN+1)
   else none
  else some (.e2 pN)
theorem anZ (jl:xc)(p1:Sl ByteArray)(bZ:af)(sb:JB jl)(n:Nat):∀(k:Nat) (pN:Int) (o:JD),Aq jl p1 bZ n k pN=some o->X.LF 93 66 12 (sub EM [1,0,1,0,0,1,0,0,1,1,1,1,1,1,0,0]) 1 [(7,.pt 0 1 0),(10,.c (aq p1)),(11,aa pN)] [(0,⟨1,(EncX.ae bZ).map DV.c⟩)] (an1 o) (an0 p1 bZ o):=by
 intro k;induction k with
 | zero=>intro _ _ h;exact nomatch h
 | succ k ih=>
  intro pN o h F G s hs
  refine Sys.bj hs (w0 ?_)
  refine wi (12,4) h (fun h0 h=>?_) fun h0 h=>?_
  ·refine wg h fun HI h1 h=>wx (14,3) h1<|wl (14,4) 0 h1 rfl<|wc (14,6) h (fun _=>sb _ _ _) ?_
   rintro⟨aG,ba⟩ h
   refine wi (15,1) h (fun h3 h=>?_) fun h3 h=>?_
   ·cases h
    exact wX
   ·exact wn (13,1) h fun h4 h=>wN 12 [] (ih (pN+1) _ h F G)
  ·cases h
   exact wX
inductive JE where
 | r (v4 v5:Int) (o0:af)
 | e0 (v6:Int)
def an4:JE->Ex
 | .r _ _ _=>.ret
 | .e0 _=>(.exit 0)
def an3 (p0:Sl af)(p1:Sl ByteArray):JE->S
 | .r v4 v5 o0=>⟨fl [(4,aa v4),(5,aa v5)],⟨[⟨1,(EncX.ae o0).map DV.c⟩],[]⟩⟩
 | .e0 v6=>⟨fl [(0,.c (aq p0)),(1,.c (aq p1)),(6,aa v6),(17,dB false)],⟨[],[]⟩⟩
def xd (jl:xc)(p0:Sl af)(p1:Sl ByteArray)(n:Nat):Nat->Int->Option JE
 | 0,_=>none
 | k+1,v6=>
  if v6<(p0.l.length:Int)then
   (aD p0.l v6).bind fun bZ=>
   (JH n bZ p1).bind fun(x,aC)=>
   if x≠0 then
    some (.r x aC bZ)
   else if bZ.kind=7 then
    if Room 16 (([]:List ByteArray)++p1.l).length then if Room 16 ((([]:List ByteArray)++p1.l)++([bZ.mon]:List ByteArray)).length then(Ap jl p1 bZ n n 0).bind fun az=>match az with
    | .r v4 v5=>
     some (.r v4 v5 bZ)
    | .e2 ov=>
     if aF (v6+1)then xd jl p0 p1 n k (v6+1)
     else none
    else none
    else none
   else(Aq jl p1 bZ n n 0).bind fun aY=>match aY with
   | .r dU cN=>
    some (.r dU cN bZ)
   | .e2 aiU=>
    if aF (v6+1)then xd jl p0 p1 n k (v6+1)
    else none
  else some (.e0 v6)
theorem an2 (jl:xc)(p0:Sl af)(p1:Sl ByteArray)(sb:JB jl)(n:Nat):∀(k:Nat) (v6:Int) (o:JE),xd jl p0 p1 n k v6=some o->X.LH 93 66 2 (sub EM [1,0,1,0,0]) 0 ⟨fl [(0,.c (aq p0)),(1,.c (aq p1)),(6,aa v6)],⟨[],[]⟩⟩ (an4 o) (an3 p0 p1 o):=by
 intro k;induction k with
 | zero=>intro _ _ h;exact nomatch h
 | succ k ih=>
  intro v6 o h s hs
  refine Sys.bj hs (w0 ?_)
  refine wi (2,3) h (fun h0 h=>?_) fun h0 h=>?_
  ·refine wg h fun bZ h1 h=>wx (4,2) h1<|wa (4,3) h1<|wc (5,2) h (fun _=>aoq) ?_
   rintro⟨x,aC⟩ h
   refine wi (6,1) h (fun h3 h=>?_) fun h3 h=>?_
   ·cases h
    exact wX
   ·refine wi (9,2) h (fun h4 h=>?_) fun h4 h=>?_
    ·refine wq h fun h5 h=>XD (10,2) h5<|wq h fun h6 h=>XC (10,6) h6<|wg h fun az h7 h=>?_
     have h7:=anW _ _ _ sb _ _ _ _ h7
     cases az with
     | r v4 v5=>
      refine wO [1,0,0,1,1,1,1,1,1,0] h7<|?_
      cases h
      exact wX
     | e2 ov=>
      exact wO [1,0,0,1,1,1,1,1,1,0] h7<|wn (3,1) h fun h8 h=>wN 2 [] (ih (v6+1) _ h)
    ·refine wg h fun aY h5 h=>?_
     have h5:=anZ _ _ _ sb _ _ _ _ h5
     cases aY with
     | r dU cN=>
      refine wO [1,0,0,1,1,1,1,1,1,0] h5<|?_
      cases h
      exact wX
     | e2 aiU=>
      exact wO [1,0,0,1,1,1,1,1,1,0] h5<|wn (3,1) h fun h6 h=>wN 2 [] (ih (v6+1) _ h)
  ·cases h
   exact wX
def kW:Nat->Sl af->Sl ByteArray->Option (Int×Int)
 | 0,_,_=>none
 | n+1,p0,p1=>
  (xd (kW n) p0 p1 n n 0).bind fun bD=>match bD with
  | .r dR db o0=>
   some (dR,db)
  | .e0 bX=>
   some (0,0)
theorem an5:∀n:Nat,JB (kW n):=by
 intro n
 induction n with
 | zero=>
  refine ?_
  ·intro p0 p1 r h;unfold kW at h;cases h
 | succ n ih=>
  have sb:=ih
  refine ?_
  ·intro p0 p1 r h
   unfold kW at h
   refine fC 66 EM ?_
   refine wg h fun bD h0 h=>?_
   have h0:=an2 _ _ _ sb _ _ _ _ h0
   cases bD with
   | r dR db o0=>
    refine wo [1,0,1,0] h0<|?_
    cases h
    exact wC
   | e0 bX=>
    refine wo [1,0,1,0] h0<|?_
    cases h
    exact wC
theorem Xq {n:Nat}{p0:Sl af}{p1:Sl ByteArray}{r:Int×Int}(h:kW n p0 p1=some r):X.bg 93 [.c (aq p0),.c (aq p1)] (.aX [aa r.1,aa r.2]):=an5 n p0 p1 r h
inductive JA where
 | r (v2 v3:Int)
 | e2 (v7:Int)
def anU:JA->Ex
 | .r _ _=>.ret
 | .e2 _=>(.exit 2)
def anT (p0:aj)(v6:Int):JA->(Nat->DV)->List Ob->S
 | .r v2 v3,F,G=>⟨fs F [2,3] [(2,aa v2),(3,aa v3)],⟨sl G 1 [(0,⟨1,(EncX.ae p0).map DV.c⟩)],[]⟩⟩
 | .e2 v7,F,G=>⟨fs F [1,6,7,37] [(1,.pt 0 1 0),(6,aa v6),(7,aa v7),(37,dB false)],⟨sl G 1 [(0,⟨1,(EncX.ae p0).map DV.c⟩)],[]⟩⟩
def Ao (p0:aj)(v6:Int)(n:Nat):Nat->Int->Option JA
 | 0,_=>none
 | k+1,v7=>
  (aD p0.aw.l v6).bind fun ck=>
  if v7<(ck.methods.l.length:Int)then
   (aD ck.methods.l v7).bind fun pQ=>
   (kW n pQ.body (⟨false,true,([ck.name]:List ByteArray)⟩:Sl ByteArray)).bind fun(av,aK)=>
   if av≠0 then
    some (.r av aK)
   else if aF (v7+1)then Ao p0 v6 n k (v7+1)
   else none
  else some (.e2 v7)
theorem anS (p0:aj)(v6:Int)(n:Nat):∀(k:Nat) (v7:Int) (o:JA),Ao p0 v6 n k v7=some o->X.LF 77 86 8 (sub EK [1,1,1,0,1,0,0,1,0,0,1,0,0]) 1 [(1,.pt 0 1 0),(6,aa v6),(7,aa v7)] [(0,⟨1,(EncX.ae p0).map DV.c⟩)] (anU o) (anT p0 v6 o):=by
 intro k;induction k with
 | zero=>intro _ _ h;exact nomatch h
 | succ k ih=>
  intro v7 o h F G s hs
  refine Sys.bj hs (w0 ?_)
  refine wg h fun ck h0 h=>wx (8,4) h0<|wl (8,6) 2 h0 rfl<|wi (8,8) h (fun h1 h=>?_) fun h1 h=>?_
  ·refine wx (10,3) h0<|wl (10,5) 2 h0 rfl<|wg h fun pQ h2 h=>wx (10,7) h2<|wl (10,9) 1 h2 rfl<|wx (10,13) h0<|wl (10,15) 0 h0 rfl<|wc (10,17) h (fun _=>Xq) ?_
   rintro⟨av,aK⟩ h
   refine wi (11,1) h (fun h4 h=>?_) fun h4 h=>?_
   ·cases h
    exact wX
   ·exact wn (9,1) h fun h5 h=>wN 8 [] (ih (v7+1) _ h F G)
  ·cases h
   exact wX
inductive Jz where
 | r (v2 v3:Int)
 | e0 (v6:Int)
def anR:Jz->Ex
 | .r _ _=>.ret
 | .e0 _=>(.exit 0)
def anQ (p0:aj):Jz->(Nat->DV)->List Ob->S
 | .r v2 v3,F,G=>⟨fs F [2,3] [(2,aa v2),(3,aa v3)],⟨sl G 1 [(0,⟨1,(EncX.ae p0).map DV.c⟩)],[]⟩⟩
 | .e0 v6,F,G=>⟨fs F [1,6,26] [(1,.pt 0 1 0),(6,aa v6),(26,dB false)],⟨sl G 1 [(0,⟨1,(EncX.ae p0).map DV.c⟩)],[]⟩⟩
def Am (p0:aj)(n:Nat):Nat->Int->Option Jz
 | 0,_=>none
 | k+1,v6=>
  if v6<(p0.aw.l.length:Int)then
   (Ao p0 v6 n n 0).bind fun az=>match az with
   | .r v2 v3=>
    some (.r v2 v3)
   | .e2 iW=>
    if aF (v6+1)then Am p0 n k (v6+1)
    else none
  else some (.e0 v6)
theorem anP (p0:aj)(n:Nat):∀(k:Nat) (v6:Int) (o:Jz),Am p0 n k v6=some o->X.LF 77 86 5 (sub EK [1,1,1,0,1,0,0]) 1 [(1,.pt 0 1 0),(6,aa v6)] [(0,⟨1,(EncX.ae p0).map DV.c⟩)] (anR o) (anQ p0 o):=by
 intro k;induction k with
 | zero=>intro _ _ h;exact nomatch h
 | succ k ih=>
  intro v6 o h F G s hs
  refine Sys.bj hs (w0 ?_)
  refine wi (5,4) h (fun h0 h=>?_) fun h0 h=>?_
  ·refine wg h fun az h1 h=>?_
   have h1:=anS _ _ _ _ _ _ h1
   cases az with
   | r v2 v3=>
    refine wO [1,0,0,1,0] h1<|?_
    cases h
    exact wX
   | e2 iW=>
    exact wO [1,0,0,1,0] h1<|wn (6,1) h fun h2 h=>wN 5 [] (ih (v6+1) _ h F G)
  ·cases h
   exact wX
inductive Jy where
 | r (v2 v3:Int)
 | e4 (v10:Int)
def anO:Jy->Ex
 | .r _ _=>.ret
 | .e4 _=>(.exit 4)
def anM (p0:aj):Jy->(Nat->DV)->List Ob->S
 | .r v2 v3,F,G=>⟨fs F [2,3] [(2,aa v2),(3,aa v3)],⟨sl G 1 [(0,⟨1,(EncX.ae p0).map DV.c⟩)],[]⟩⟩
 | .e4 v10,F,G=>⟨fs F [1,10,69] [(1,.pt 0 1 0),(10,aa v10),(69,dB false)],⟨sl G 1 [(0,⟨1,(EncX.ae p0).map DV.c⟩)],[]⟩⟩
def Al (p0:aj)(n:Nat):Nat->Int->Option Jy
 | 0,_=>none
 | k+1,v10=>
  if v10<(p0.aR.l.length:Int)then
   (aD p0.aR.l v10).bind fun v76=>
   (kW n v76.body (Sl.nil:Sl ByteArray)).bind fun(aG,ba)=>
   if aG≠0 then
    some (.r aG ba)
   else if aF (v10+1)then Al p0 n k (v10+1)
   else none
  else some (.e4 v10)
theorem anL (p0:aj)(n:Nat):∀(k:Nat) (v10:Int) (o:Jy),Al p0 n k v10=some o->X.LF 77 86 14 (sub EK [1,1,1,1,0,1,0,0]) 1 [(1,.pt 0 1 0),(10,aa v10)] [(0,⟨1,(EncX.ae p0).map DV.c⟩)] (anO o) (anM p0 o):=by
 intro k;induction k with
 | zero=>intro _ _ h;exact nomatch h
 | succ k ih=>
  intro v10 o h F G s hs
  refine Sys.bj hs (w0 ?_)
  refine wi (14,4) h (fun h0 h=>?_) fun h0 h=>?_
  ·refine wg h fun v76 h1 h=>wx (16,3) h1<|wl (16,5) 3 h1 rfl<|wc (16,6) h (fun _=>Xq) ?_
   rintro⟨aG,ba⟩ h
   refine wi (17,1) h (fun h3 h=>?_) fun h3 h=>?_
   ·cases h
    exact wX
   ·exact wn (15,1) h fun h4 h=>wN 14 [] (ih (v10+1) _ h F G)
  ·cases h
   exact wX
def Jx (n:Nat)(p0:aj):Option (Int×Int):=
 (Jh n p0).bind fun(x,aC)=>
 if x≠0 then
  some (x,aC)
 else(Am p0 n n 0).bind fun aY=>match aY with
 | .r lF c7=>
  some (lF,c7)
 | .e0 bX=>
  (Al p0 n n 0).bind fun bD=>match bD with
  | .r tQ iT=>
   some (tQ,iT)
  | .e4 cB=>
   some (0,0)
theorem anV {n:Nat}{p0:aj}{r:Int×Int}(h:Jx n p0=some r):X.bg 77 [.c (.agg (EncX.ae p0))] (.aX [aa r.1,aa r.2]):=by
 refine fC 86 EK ?_
 refine wc (1,1) h (fun _=>am9) ?_
 rintro⟨x,aC⟩ h
 refine wi (2,1) h (fun h1 h=>?_) fun h1 h=>?_
 ·cases h
  exact wC
 ·refine wg h fun aY h2 h=>?_
  have h2:=anP _ _ _ _ _ h2
  cases aY with
  | r lF c7=>
   refine wO [1,1,1,0,1,0] h2<|?_
   cases h
   exact wC
  | e0 bX=>
   refine wO [1,1,1,0,1,0] h2<|wg h fun bD h3 h=>?_
   have h3:=anL _ _ _ _ _ h3
   cases bD with
   | r tQ iT=>
    refine wO [1,1,1,1,0,1,0] h3<|?_
    cases h
    exact wC
   | e4 cB=>
    refine wO [1,1,1,1,0,1,0] h3<|?_
    cases h
    exact wC
abbrev D6:=aj->Sl af->Option (List af)
def Pz (f:D6):Prop:=∀(p0:aj) (p1:Sl af) (r:List af),f p0 p1=some r->X.bg 114 [.c (.agg (EncX.ae p0)),.c (aq p1)] (aP r)
inductive Jv where
 | e2 (v10:List (Sl af)) (v11:Int)
def anF:Jv->Ex
 | .e2 _ _=>(.exit 2)
def anE (p0:aj)(v20:af):Jv->(Nat->DV)->List Ob->S
 | .e2 v10 v11,F,G=>⟨fs F [1,2,5,6,7,10,11,51] [(2,.pt 0 1 0),(7,.pt 1 1 0),(10,aP v10),(11,aa v11),(51,dB false)],⟨sl G 2 [(0,⟨1,(EncX.ae p0).map DV.c⟩),(1,⟨1,(EncX.ae v20).map DV.c⟩)],[]⟩⟩
def Ak (mB:D6)(p0:aj)(v20:af)(n:Nat):Nat->List (Sl af)->Int->Option Jv
 | 0,_,_=>none
 | k+1,v10,v11=>
  if v11<(v20.blocks.l.length:Int)then
   (aD v20.blocks.l v11).bind fun v59=>
   (mB p0 v59).bind fun aK=>
   if Room 24 (v10++([(Sl.gr aK)]:List (Sl af))).length then if aF (v11+1)then Ak mB p0 v20 n k (v10++([(Sl.gr aK)]:List (Sl af))) (v11+1)
   else none
   else none
  else some (.e2 v10 v11)
theorem anD (mB:D6)(p0:aj)(v20:af)(xw:Pz mB)(n:Nat):∀(k:Nat) (v10:List (Sl af)) (v11:Int) (o:Jv),Ak mB p0 v20 n k v10 v11=some o->X.LF 114 71 11 (sub KT [1,1,0,1,0,0,1,0,0,1,1,1,0,1,0,0]) 2 [(2,.pt 0 1 0),(7,.pt 1 1 0),(10,aP v10),(11,aa v11)] [(0,⟨1,(EncX.ae p0).map DV.c⟩),(1,⟨1,(EncX.ae v20).map DV.c⟩)] (anF o) (anE p0 v20 o):=by
 intro k;induction k with
 | zero=>intro _ _ _ h;exact nomatch h
 | succ k ih=>
  intro v10 v11 o h F G s hs
  refine Sys.bj hs (w0 ?_)
  refine wi (11,4) h (fun h0 h=>?_) fun h0 h=>?_
  ·exact wg h fun v59 h1 h=>wx (13,5) h1<|wl (13,6) 0 h1 rfl<|wc (13,7) h (fun _=>xw _ _ _) fun aK h=>wq h fun h3 h=>dG (13,9) h3<|wn (12,1) h fun h4 h=>wN 11 [] (ih (v10++([(Sl.gr aK)]:List (Sl af))) (v11+1) _ h F G)
  ·cases h
   exact wX
inductive Jw where
 | e0 (v5:List af) (v6:Int)
def anI:Jw->Ex
 | .e0 _ _=>(.exit 0)
def anH (p0:aj)(p1:Sl af):Jw->S
 | .e0 v5 v6=>⟨fl [(1,.c (aq p1)),(2,.pt 0 1 0),(5,aP v5),(6,aa v6),(15,dB false)],⟨[⟨1,(EncX.ae p0).map DV.c⟩],[]⟩⟩
def ug (mB:D6)(p0:aj)(p1:Sl af)(n:Nat):Nat->List af->Int->Option Jw
 | 0,_,_=>none
 | k+1,v5,v6=>
  if v6<(p1.l.length:Int)then
   (aD p1.l v6).bind fun v20=>
   if v20.kind=8 then
    (rQ n p0 v20.mon v20.name).bind fun(x,aC)=>
    (mB p0 x.body).bind fun av=>
    if Room 160 (v5++([({ kind:=7,mon:=v20.mon,blocks:=(⟨false,true,([(Sl.gr av)]:List (Sl af))⟩:Sl (Sl af)),at_:=v20.at_}:af)]:List af)).length then if aF (v6+1)then ug mB p0 p1 n k (v5++([({ kind:=7,mon:=v20.mon,blocks:=(⟨false,true,([(Sl.gr av)]:List (Sl af))⟩:Sl (Sl af)),at_:=v20.at_}:af)]:List af)) (v6+1)
    else none
    else none
   else(Ak mB p0 v20 n n ([]:List (Sl af)) 0).bind fun az=>match az with
   | .e2 cB ov=>
    if Room 160 (v5++([({ kind:=v20.kind,mon:=v20.mon,name:=v20.name,n_:=v20.n_,e_:=v20.e_,blocks:=(Sl.gr cB),at_:=v20.at_}:af)]:List af)).length then if aF (v6+1)then ug mB p0 p1 n k (v5++([({ kind:=v20.kind,mon:=v20.mon,name:=v20.name,n_:=v20.n_,e_:=v20.e_,blocks:=(Sl.gr cB),at_:=v20.at_}:af)]:List af)) (v6+1)
    else none
    else none
  else some (.e0 v5 v6)
theorem anG (mB:D6)(p0:aj)(p1:Sl af)(xw:Pz mB)(n:Nat):∀(k:Nat) (v5:List af) (v6:Int) (o:Jw),ug mB p0 p1 n k v5 v6=some o->X.LH 114 71 3 (sub KT [1,1,0,1,0,0]) 1 ⟨fl [(1,.c (aq p1)),(2,.pt 0 1 0),(5,aP v5),(6,aa v6)],⟨[⟨1,(EncX.ae p0).map DV.c⟩],[]⟩⟩ (anI o) (anH p0 p1 o):=by
 intro k;induction k with
 | zero=>intro _ _ _ h;exact nomatch h
 | succ k ih=>
  intro v5 v6 o h s hs
  refine Sys.bj hs (w0 ?_)
  refine wi (3,3) h (fun h0 h=>?_) fun h0 h=>?_
  ·refine wg h fun v20 h1 h=>wx (5,2) h1<|wa (5,3) h1<|wi (6,2) h (fun h2 h=>?_) fun h2 h=>?_
   ·refine wc (7,5) h (fun _=>zR) ?_
    rintro⟨x,aC⟩ h
    exact wc (8,6) h (fun _=>xw _ _ _) fun av h=>wq h fun h5 h=>dG (8,12) h5<|wn (4,1) h fun h6 h=>wN 3 [] (ih (v5++([({ kind:=7,mon:=v20.mon,blocks:=(⟨false,true,([(Sl.gr av)]:List (Sl af))⟩:Sl (Sl af)),at_:=v20.at_}:af)]:List af)) (v6+1) _ h)
   ·refine wg h fun az h3 h=>?_
    have h3:=anD _ _ _ xw _ _ _ _ _ h3
    cases az with
    | e2 cB ov=>
     exact wO [1,0,0,1,1,1,0,1,0] h3<|wq h fun h4 h=>dG (15,3) h4<|wn (4,1) h fun h5 h=>wN 3 [] (ih (v5++([({ kind:=v20.kind,mon:=v20.mon,name:=v20.name,n_:=v20.n_,e_:=v20.e_,blocks:=(Sl.gr cB),at_:=v20.at_}:af)]:List af)) (v6+1) _ h)
  ·cases h
   exact wX
def gW:Nat->aj->Sl af->Option (List af)
 | 0,_,_=>none
 | n+1,p0,p1=>
  (ug (gW n) p0 p1 n n ([]:List af) 0).bind fun aY=>match aY with
  | .e0 cN bX=>
   some cN
theorem anJ:∀n:Nat,Pz (gW n):=by
 intro n
 induction n with
 | zero=>
  refine ?_
  ·intro p0 p1 r h;unfold gW at h;cases h
 | succ n ih=>
  have xw:=ih
  refine ?_
  ·intro p0 p1 r h
   unfold gW at h
   refine fC 71 KT ?_
   refine wg h fun aY h0 h=>?_
   have h0:=anG _ _ _ xw _ _ _ _ _ h0
   cases aY with
   | e0 cN bX=>
    refine wo [1,1,0,1,0] h0<|?_
    cases h
    exact wC
theorem anK {n:Nat}{p0:aj}{p1:Sl af}{r:List af}(h:gW n p0 p1=some r):X.bg 114 [.c (.agg (EncX.ae p0)),.c (aq p1)] (aP r):=anJ n p0 p1 r h
def Jn (n:Nat)(p0:aj)(p1:Sl af):Option (Sl af×Int):=
 (D1 n p0 p1).bind fun(x,aC)=>
 if aC≠0 then
  some ((Sl.nil:Sl af),aC)
 else(gW n p0 p1).bind fun av=>
 some ((Sl.gr av),0)
theorem anh {n:Nat}{p0:aj}{p1:Sl af}{r:Sl af×Int}(h:Jn n p0 p1=some r):X.bg 94 [.c (.agg (EncX.ae p0)),.c (aq p1)] (.aX [.c (aq r.1),aa r.2]):=by
 refine fC 20 ZK ?_
 refine wc (1,2) h (fun _=>Xn) ?_
 rintro⟨x,aC⟩ h
 refine wi (2,1) h (fun h1 h=>?_) fun h1 h=>?_
 ·cases h
  exact wC
 ·refine wc (4,2) h (fun _=>anK) fun av h=>?_
  cases h
  exact wC
def aoS (ai:Sl aH)(ak:Sl aO)(ao:ByteArray)(aM:Bool)(bU:Int)(cY:List aS)(aL:List bn):List DV:=[.c (aq ai),.c (aq ak),.c (.sc (.string ao)),dB aM,aa bU,aP cY,aP aL]
def jJ (n:Nat)(ai:Sl aH)(ak:Sl aO)(ao:ByteArray)(aM:Bool)(bU:Int)(cY:List aS)(aL:List bn):Option (Int×Int):=
 if aF (bU+1)then if aF ((bU+1) - 1)then some (((bU+1) - 1),(bU+1))
 else none
 else none
theorem kX {n:Nat}{ai:Sl aH}{ak:Sl aO}{ao:ByteArray}{aM:Bool}{bU:Int}{cY:List aS}{aL:List bn}{r:Int×Int}(h:jJ n ai ak ao aM bU cY aL=some r):X.cD 116 [.pt 0 1 0] (bm [.x 1 (aoS ai ak ao aM bU cY aL)]) (aa r.1) (bm [.x 1 [.c (aq ai),.c (aq ak),.c (.sc (.string ao)),dB aM,aa r.2,aP cY,aP aL]]):=by
 refine fL 18 YO ?_
 refine wn (1,5) h fun h0 h=>wn (2,5) h fun h1 h=>?_
 cases h
 exact wL []
def aoG (ai:Sl aH)(ak:Sl aO)(ao:ByteArray)(aM:Bool)(bU:Int)(cY:List aS)(aL:List bn):List DV:=[.c (aq ai),.c (aq ak),.c (.sc (.string ao)),dB aM,aa bU,aP cY,aP aL]
def gX (n:Nat)(p1:aS)(ai:Sl aH)(ak:Sl aO)(ao:ByteArray)(aM:Bool)(bU:Int)(cY:List aS)(aL:List bn):Option (List aS):=
 if Room 152 (cY++([p1]:List aS)).length then some (cY++([p1]:List aS))
 else none
theorem js {n:Nat}{p1:aS}{ai:Sl aH}{ak:Sl aO}{ao:ByteArray}{aM:Bool}{bU:Int}{cY:List aS}{aL:List bn}{r:List aS}(h:gX n p1 ai ak ao aM bU cY aL=some r):X.cD 117 [.pt 0 1 0,.c (.agg (EncX.ae p1))] (bm [.x 1 (aoG ai ak ao aM bU cY aL)]) (.aX []) (bm [.x 1 [.c (aq ai),.c (aq ak),.c (.sc (.string ao)),dB aM,aa bU,aP r,aP aL]]):=by
 refine fL 16 YP ?_
 refine wq h fun h0 h=>dG (1,8) h0<|?_
 cases h
 exact wL []
def xg (n:Nat)(p0:au):Option au:=
 some ({ op:=5,kids:=(⟨false,true,([p0]:List au)⟩:Sl au),at_:=p0.at_}:au)
theorem JZ {n:Nat}{p0 r:au}(h:xg n p0=some r):X.bg 144 [.c (.agg (EncX.ae p0))] (.c (.agg (EncX.ae r))):=by
 refine fC 8 YU ?_
 cases h
 exact lL (d':=.c (.agg [bb 5,.sc (.string (⟨#[]⟩:ByteArray)),.sc (.string (⟨#[]⟩:ByteArray)),bb 0,.sl false true (fD ([p0]:List au)) 1,bb p0.at_])) (by simp only[iH];rfl)
end Go.Vig
