/-
-/
import Derived.Test.YtpadajnejknkeaaGreatFa
set_option linter.unusedVariables false
set_option linter.unusedSimpArgs false
set_option maxRecDepth 100000
set_option maxHeartbeats 1000000
namespace Go.Vig
open Go Go.Abs Go.Proofs
variable [Kn]
def Iq (n:Nat)(p0:Int):Option (Sl Bool×Int×Int×Bool):=
 if p0=1 then
  some ((⟨false,true,([false,false,false,false]:List Bool)⟩:Sl Bool),0,0,true)
 else if p0=2 then
  some ((⟨false,true,([true,true,false,true]:List Bool)⟩:Sl Bool),0,0,true)
 else if p0=3 then
  some ((⟨false,true,([false,false,false,true]:List Bool)⟩:Sl Bool),1,2,true)
 else if p0=4 then
  some ((⟨false,true,([false,false,false,true]:List Bool)⟩:Sl Bool),1,1,true)
 else if p0=5 then
  some ((⟨false,true,([false,false,false,false]:List Bool)⟩:Sl Bool),1,1,true)
 else if p0=6 then
  some ((⟨false,true,([false,false,false,false]:List Bool)⟩:Sl Bool),1,8,true)
 else if p0=7 then
  some ((⟨false,true,([true,false,false,false]:List Bool)⟩:Sl Bool),1,1,true)
 else if p0=8 then
  some ((⟨false,true,([true,true,false,false]:List Bool)⟩:Sl Bool),0,0,true)
 else if p0=9 then
  some ((⟨false,true,([true,false,true,false]:List Bool)⟩:Sl Bool),0,0,true)
 else if p0=10 then
  some ((⟨false,true,([true,false,false,false]:List Bool)⟩:Sl Bool),0,0,true)
 else if p0=11 then
  some ((⟨false,true,([true,false,false,false]:List Bool)⟩:Sl Bool),0,0,true)
 else some ((Sl.nil:Sl Bool),0,0,false)
theorem akT {n:Nat}{p0:Int}{r:Sl Bool×Int×Int×Bool}(h:Iq n p0=some r):X.bg 165 [aa p0] (.aX [.c (aq r.1),aa r.2.1,aa r.2.2.1,dB r.2.2.2]):=by
 refine fC 38 Zb ?_
 refine wi (2,0) h (fun h0 h=>?_) fun h0 h=>?_
 ·cases h
  exact lL (d':=.aX [.c (.sl false true (fD ([false,false,false,false]:List Bool)) 4),aa 0,aa 0,dB true]) (by simp only[iH];rfl)
 ·refine wi (4,0) h (fun h1 h=>?_) fun h1 h=>?_
  ·cases h
   exact lL (d':=.aX [.c (.sl false true (fD ([true,true,false,true]:List Bool)) 4),aa 0,aa 0,dB true]) (by simp only[iH];rfl)
  ·refine wi (6,0) h (fun h2 h=>?_) fun h2 h=>?_
   ·cases h
    exact lL (d':=.aX [.c (.sl false true (fD ([false,false,false,true]:List Bool)) 4),aa 1,aa 2,dB true]) (by simp only[iH];rfl)
   ·refine wi (8,0) h (fun h3 h=>?_) fun h3 h=>?_
    ·cases h
     exact lL (d':=.aX [.c (.sl false true (fD ([false,false,false,true]:List Bool)) 4),aa 1,aa 1,dB true]) (by simp only[iH];rfl)
    ·refine wi (10,0) h (fun h4 h=>?_) fun h4 h=>?_
     ·cases h
      exact lL (d':=.aX [.c (.sl false true (fD ([false,false,false,false]:List Bool)) 4),aa 1,aa 1,dB true]) (by simp only[iH];rfl)
     ·refine wi (12,0) h (fun h5 h=>?_) fun h5 h=>?_
      ·cases h
       exact lL (d':=.aX [.c (.sl false true (fD ([false,false,false,false]:List Bool)) 4),aa 1,aa 8,dB true]) (by simp only[iH];rfl)
      ·refine wi (14,0) h (fun h6 h=>?_) fun h6 h=>?_
       ·cases h
        exact lL (d':=.aX [.c (.sl false true (fD ([true,false,false,false]:List Bool)) 4),aa 1,aa 1,dB true]) (by simp only[iH];rfl)
       ·refine wi (16,0) h (fun h7 h=>?_) fun h7 h=>?_
        ·cases h
         exact lL (d':=.aX [.c (.sl false true (fD ([true,true,false,false]:List Bool)) 4),aa 0,aa 0,dB true]) (by simp only[iH];rfl)
        ·refine wi (18,0) h (fun h8 h=>?_) fun h8 h=>?_
         ·cases h
          exact lL (d':=.aX [.c (.sl false true (fD ([true,false,true,false]:List Bool)) 4),aa 0,aa 0,dB true]) (by simp only[iH];rfl)
         ·refine wi (20,0) h (fun h9 h=>?_) fun h9 h=>?_
          ·cases h
           exact lL (d':=.aX [.c (.sl false true (fD ([true,false,false,false]:List Bool)) 4),aa 0,aa 0,dB true]) (by simp only[iH];rfl)
          ·refine wi (21,0) h (fun dq h=>?_) fun dq h=>?_
           ·cases h
            exact lL (d':=.aX [.c (.sl false true (fD ([true,false,false,false]:List Bool)) 4),aa 0,aa 0,dB true]) (by simp only[iH];rfl)
           ·cases h
            exact wC
inductive It where
 | m (v3:Bool)
def akX:It->Ex
 | .m _=>.normal
def akW (p0:Int):It->(Nat->DV)->List Ob->S
 | .m v3,F,G=>⟨fs F [0,3] [(0,aa p0),(3,dB v3)],⟨sl G 0 [],[]⟩⟩
def Po (p0:Int)(n:Nat):Option It:=
 if p0≥1 then
  if p0≤4 then
   some (.m true)
  else some (.m false)
 else some (.m false)
theorem akV (p0:Int)(n:Nat)(o:It)(h:Po p0 n=some o):X.JF 126 24 (sub KX [1,0,0,0]) [0] 0 [(0,aa p0)] [] (akX o) (akW p0 o):=by
 intro F G;refine Sys.dZ (w0 ?_)
 refine wi (1,1) h (fun h0 h=>?_) fun h0 h=>?_
 ·refine wi (1,4) h (fun h1 h=>?_) fun h1 h=>?_
  ·cases h
   exact wJ
  ·cases h
   exact wJ
 ·cases h
  exact wJ
inductive Iu where
 | m (v10:Bool)
def ak0:Iu->Ex
 | .m _=>.normal
def akZ (p0:Int):Iu->(Nat->DV)->List Ob->S
 | .m v10,F,G=>⟨fs F [0,10] [(0,aa p0),(10,dB v10)],⟨sl G 0 [],[]⟩⟩
def Pp (p0:Int)(n:Nat):Option Iu:=
 if p0≥5 then
  if p0≤7 then
   some (.m true)
  else some (.m false)
 else some (.m false)
theorem akY (p0:Int)(n:Nat)(o:Iu)(h:Pp p0 n=some o):X.JF 126 24 (sub KX [1,0,0,1,1,0]) [0,3] 0 [(0,aa p0)] [] (ak0 o) (akZ p0 o):=by
 intro F G;refine Sys.dZ (w0 ?_)
 refine wi (3,1) h (fun h0 h=>?_) fun h0 h=>?_
 ·refine wi (3,4) h (fun h1 h=>?_) fun h1 h=>?_
  ·cases h
   exact wJ
  ·cases h
   exact wJ
 ·cases h
  exact wJ
def Is (n:Nat)(p0:Int):Option Int:=
 (Po p0 n).bind fun az=>match az with
 | .m v3=>
  bif v3 then
   some 0
  else(Pp p0 n).bind fun aY=>match aY with
  | .m v10=>
   bif v10 then
    some 1
   else if p0≥8 then
    if p0≤17 then
     some 2
    else some (-1)
   else some (-1)
theorem ak1 {n:Nat}{p0 r:Int}(h:Is n p0=some r):X.bg 126 [aa p0] (aa r):=by
 refine fC 24 KX ?_
 refine wg h fun az h0 h=>?_
 have h0:=akV _ _ _ h0
 cases az with
 | m v3=>
  refine wV 1 [1,0,0,0] h0<|?_
  cases v3
  ·refine wg h fun aY h2 h=>?_
   have h2:=akY _ _ _ h2
   cases aY with
   | m v10=>
    refine wV 3 [1,0,0,1,1,0] h2<|?_
    cases v10
    ·refine wi (5,1) h (fun h4 h=>?_) fun h4 h=>?_
     ·refine wi (5,4) h (fun h5 h=>?_) fun h5 h=>?_
      ·cases h
       exact wC
      ·cases h
       exact wC
     ·cases h
      exact wC
    ·cases h
     exact wC
  ·cases h
   exact wC
abbrev Pk:=au->Option Bool
def W9 (f:Pk):Prop:=∀(p0:au) (r:Bool),f p0=some r->X.bg 102 [.c (.agg (EncX.ae p0))] (dB r)
inductive H4 where
 | r
 | m
def aj3:H4->Ex
 | .r=>.ret
 | .m=>.normal
def aj2 (p0:au):H4->(Nat->DV)->List Ob->S
 | .r,F,G=>⟨fs F [2] [(2,dB false)],⟨sl G 1 [(0,⟨1,(EncX.ae p0).map DV.c⟩)],[]⟩⟩
 | .m,F,G=>⟨fs F [1,30] [(1,.pt 0 1 0),(30,dB false)],⟨sl G 1 [(0,⟨1,(EncX.ae p0).map DV.c⟩)],[]⟩⟩
def H3 (p0:au)(n:Nat):Option H4:=
 (Is n p0.op).bind fun x=>
 if(p0.kids.l.length:Int)≠x then
  some (.r)
 else if p0.n_<0 then
  some (.r)
 else if p0.n_≠0 then
  if p0.op≠1 then
   if p0.op≠7 then
    some (.r)
   else some (.m)
  else some (.m)
 else some (.m)
theorem aj1 (p0:au)(n:Nat)(o:H4)(h:H3 p0 n=some o):X.JF 102 66 (sub KP [1,0]) [1] 1 [(1,.pt 0 1 0)] [(0,⟨1,(EncX.ae p0).map DV.c⟩)] (aj3 o) (aj2 p0 o):=by
 intro F G;refine Sys.dZ (w0 ?_)
 refine wc (1,5) h (fun _=>ak1) fun x h=>wi (1,6) h (fun h1 h=>?_) fun h1 h=>?_
 ·cases h
  exact wJ
 ·refine wi (1,10) h (fun h2 h=>?_) fun h2 h=>?_
  ·cases h
   exact wJ
  ·refine wi (1,15) h (fun h3 h=>?_) fun h3 h=>?_
   ·refine wi (1,19) h (fun h4 h=>?_) fun h4 h=>?_
    ·refine wi (1,24) h (fun h5 h=>?_) fun h5 h=>?_
     ·cases h
      exact wJ
     ·cases h
      exact wJ
    ·cases h
     exact wJ
   ·cases h
    exact wJ
inductive H5 where
 | r
 | e0 (v3:Int)
def aj5:H5->Ex
 | .r=>.ret
 | .e0 _=>(.exit 0)
def aj4 (p0:au):H5->(Nat->DV)->List Ob->S
 | .r,F,G=>⟨fs F [2] [(2,dB false)],⟨sl G 1 [(0,⟨1,(EncX.ae p0).map DV.c⟩)],[]⟩⟩
 | .e0 v3,F,G=>⟨fs F [1,3,56] [(1,.pt 0 1 0),(3,aa v3),(56,dB false)],⟨sl G 1 [(0,⟨1,(EncX.ae p0).map DV.c⟩)],[]⟩⟩
def tY (C5:Pk)(p0:au)(n:Nat):Nat->Int->Option H5
 | 0,_=>none
 | k+1,v3=>
  if v3<(p0.kids.l.length:Int)then
   (aD p0.kids.l v3).bind fun WT=>
   (C5 WT).bind fun aK=>
   bif aK then
    if aF (v3+1)then tY C5 p0 n k (v3+1)
    else none
   else some (.r)
  else some (.e0 v3)
theorem Xa (C5:Pk)(p0:au)(Et:W9 C5)(n:Nat):∀(k:Nat) (v3:Int) (o:H5),tY C5 p0 n k v3=some o->X.LF 102 66 9 (sub KP [1,1,1,0,1,0,0]) 1 [(1,.pt 0 1 0),(3,aa v3)] [(0,⟨1,(EncX.ae p0).map DV.c⟩)] (aj5 o) (aj4 p0 o):=by
 intro k;induction k with
 | zero=>intro _ _ h;exact nomatch h
 | succ k ih=>
  intro v3 o h F G s hs
  refine Sys.bj hs (w0 ?_)
  refine wi (9,4) h (fun h0 h=>?_) fun h0 h=>?_
  ·refine wg h fun WT h1 h=>wx (11,3) h1<|wa (11,4) h1<|wc (11,5) h (fun _=>Et _ _) fun aK h=>?_
   cases aK
   ·cases h
    exact wX
   ·exact wn (10,1) h fun h4 h=>wN 9 [] (ih (v3+1) _ h F G)
  ·cases h
   exact wX
def lI:Nat->au->Option Bool
 | 0,_=>none
 | n+1,p0=>
  (H3 p0 n).bind fun az=>match az with
  | .r=>
   some false
  | .m=>
   if p0.op=4 then
    (mH n p0.mon).bind fun aC=>
    bif aC then
     (mH n p0.name).bind fun av=>
     bif av then
      (tY (lI n) p0 n n 0).bind fun aY=>match aY with
      | .r=>
       some false
      | .e0 c7=>
       some true
     else some false
    else some false
   else if p0.mon=(⟨#[]⟩:ByteArray)then
    if p0.name=(⟨#[]⟩:ByteArray)then
     (tY (lI n) p0 n n 0).bind fun bD=>match bD with
     | .r=>
      some false
     | .e0 iT=>
      some true
    else some false
   else some false
theorem aj6:∀n:Nat,W9 (lI n):=by
 intro n
 induction n with
 | zero=>
  refine ?_
  ·intro p0 r h;unfold lI at h;cases h
 | succ n ih=>
  have Et:=ih
  refine ?_
  ·intro p0 r h
   unfold lI at h
   refine fC 66 KP ?_
   refine wg h fun az h0 h=>?_
   have h0:=aj1 _ _ _ h0
   cases az with
   | r=>
    refine wV 201001 [1,0] h0<|?_
    cases h
    exact wC
   | m=>
    refine wV 201001 [1,0] h0<|wi (3,2) h (fun h1 h=>?_) fun h1 h=>?_
    ·refine wc (4,2) h (fun _=>pW) fun aC h=>?_
     cases aC
     ·cases h
      exact wC
     ·refine wc (4,7) h (fun _=>pW) fun av h=>?_
      cases av
      ·cases h
       exact wC
      ·refine wg h fun aY h6 h=>?_
       have h6:=Xa _ _ Et _ _ _ _ h6
       cases aY with
       | r=>
        refine wO [1,1,1,0,1,0] h6<|?_
        cases h
        exact wC
       | e0 c7=>
        refine wO [1,1,1,0,1,0] h6<|?_
        cases h
        exact wC
    ·refine wI h (fun h2 h=>?_) fun h2 h=>?_
     ·refine wt (6,2) (.op { d:=dB false}) (tL h2)<|wI h (fun h3 h=>?_) fun h3 h=>?_
      ·refine wt (6,6) (.op { d:=dB false}) (tL h3)<|wg h fun bD h4 h=>?_
       have h4:=Xa _ _ Et _ _ _ _ h4
       cases bD with
       | r=>
        refine wO [1,1,1,0,1,0] h4<|?_
        cases h
        exact wC
       | e0 iT=>
        refine wO [1,1,1,0,1,0] h4<|?_
        cases h
        exact wC
      ·refine wt (6,6) (.op { d:=dB true}) (tM h3)<|?_
       cases h
       exact wC
     ·refine wt (6,2) (.op { d:=dB true}) (tM h2)<|?_
      cases h
      exact wC
theorem aj7 {n:Nat}{p0:au}{r:Bool}(h:lI n p0=some r):X.bg 102 [.c (.agg (EncX.ae p0))] (dB r):=aj6 n p0 r h
def Ip (n:Nat)(p0:au):Option Bool:=
 if p0.op=0 then
  if p0.mon=(⟨#[]⟩:ByteArray)then
   if p0.name=(⟨#[]⟩:ByteArray)then
    if p0.n_=0 then
     if(p0.kids.l.length:Int)=0 then
      some true
     else some false
    else some false
   else some false
  else some false
 else some false
theorem akS {n:Nat}{p0:au}{r:Bool}(h:Ip n p0=some r):X.bg 166 [.c (.agg (EncX.ae p0))] (dB r):=by
 refine fC 27 Zc ?_
 refine wi (1,2) h (fun h0 h=>?_) fun h0 h=>?_
 ·refine wI h (fun h1 h=>?_) fun h1 h=>?_
  ·refine wt (1,6) (.op { d:=dB true}) (dM h1)<|wI h (fun h2 h=>?_) fun h2 h=>?_
   ·refine wt (1,11) (.op { d:=dB true}) (dM h2)<|wi (1,16) h (fun h3 h=>?_) fun h3 h=>?_
    ·refine wi (1,22) h (fun h4 h=>?_) fun h4 h=>?_
     ·cases h
      exact wC
     ·cases h
      exact wC
    ·cases h
     exact wC
   ·refine wt (1,11) (.op { d:=dB false}) (dL h2)<|?_
    cases h
    exact wC
  ·refine wt (1,6) (.op { d:=dB false}) (dL h1)<|?_
   cases h
   exact wC
 ·cases h
  exact wC
abbrev DT:=Sl af->Option Bool
def Pl (f:DT):Prop:=∀(p0:Sl af) (r:Bool),f p0=some r->X.bg 140 [.c (aq p0)] (dB r)
inductive zA where
 | m (zu:Bool)
def aka:zA->Ex
 | .m _=>.normal
def aj9 (b6:af)(x:Sl Bool)(aC av:Int)(aK:Bool):zA->(Nat->DV)->List Ob->S
 | .m zu,F,G=>⟨fs F [0,3,4,5,99] [(4,.pt 0 1 0),(5,.c (aq x)),(99,dB zu)],⟨sl G 1 [(0,⟨1,(EncX.ae b6).map DV.c⟩)],[]⟩⟩
def H6 (b6:af)(x:Sl Bool)(aC av:Int)(aK:Bool)(n:Nat):Option zA:=
 bif aK then
  if(b6.blocks.l.length:Int)<aC then
   some (.m true)
  else if(b6.blocks.l.length:Int)>av then
   some (.m true)
  else(aD x.l 0).bind fun v46=>
  if b6.mon=(⟨#[]⟩:ByteArray)then
   bif v46 then
    some (.m true)
   else(aD x.l 1).bind fun DE=>
   if b6.name=(⟨#[]⟩:ByteArray)then
    bif DE then
     some (.m true)
    else if b6.n_<0 then
     some (.m true)
    else(aD x.l 2).bind fun v91=>
    bif v91 then
     some (.m false)
    else if b6.n_≠0 then
     some (.m true)
    else some (.m false)
   else bif DE then
    (mH n b6.name).bind fun ca=>
    bif ca then
     if b6.n_<0 then
      some (.m true)
     else(aD x.l 2).bind fun O8=>
     bif O8 then
      some (.m false)
     else if b6.n_≠0 then
      some (.m true)
     else some (.m false)
    else some (.m true)
   else some (.m true)
  else bif v46 then
   (aD x.l 1).bind fun DF=>
   if b6.name=(⟨#[]⟩:ByteArray)then
    bif DF then
     some (.m true)
    else(mH n b6.mon).bind fun aG=>
    bif aG then
     if b6.n_<0 then
      some (.m true)
     else(aD x.l 2).bind fun O9=>
     bif O9 then
      some (.m false)
     else if b6.n_≠0 then
      some (.m true)
     else some (.m false)
    else some (.m true)
   else bif DF then
    (mH n b6.mon).bind fun ba=>
    bif ba then
     (mH n b6.name).bind fun cm=>
     bif cm then
      if b6.n_<0 then
       some (.m true)
      else(aD x.l 2).bind fun Pa=>
      bif Pa then
       some (.m false)
      else if b6.n_≠0 then
       some (.m true)
      else some (.m false)
     else some (.m true)
    else some (.m true)
   else some (.m true)
  else some (.m true)
 else some (.m true)
theorem aj8 (b6:af)(x:Sl Bool)(aC av:Int)(aK:Bool)(n:Nat)(o:zA)(h:H6 b6 x aC av aK n=some o):X.JF 140 135 (sub EE [1,0,1,0,0,1,0,0,1,1,0,0]) [0,3,4,5,6,7,8] 1 [(4,.pt 0 1 0),(5,.c (aq x)),(6,aa aC),(7,aa av),(8,dB aK)] [(0,⟨1,(EncX.ae b6).map DV.c⟩)] (aka o) (aj9 b6 x aC av aK o):=by
 intro F G;refine Sys.dZ (w0 ?_)
 cases aK
 ·cases h
  exact wJ
 ·refine wi (6,7) h (fun h1 h=>?_) fun h1 h=>?_
  ·cases h
   exact wJ
  ·refine wi (6,14) h (fun h2 h=>?_) fun h2 h=>?_
   ·cases h
    exact wJ
   ·refine wg h fun v46 h3 h=>wx (6,18) h3<|wl (6,19) 0 h3 rfl<|wI h (fun h4 h=>?_) fun h4 h=>?_
    ·refine wt (6,22) (.op { d:=dB false}) (tL h4)<|?_
     cases v46
     ·refine wt (6,23) (.op { d:=dB false}) (j6 (P:=X.P) (t:=4) false false (by kernel_rfl) (by kernel_rfl))<|wg h fun DE h6 h=>wx (6,27) h6<|wl (6,28) 0 h6 rfl<|wI h (fun h7 h=>?_) fun h7 h=>?_
      ·refine wt (6,31) (.op { d:=dB false}) (tL h7)<|?_
       cases DE
       ·refine wt (6,32) (.op { d:=dB false}) (j6 (P:=X.P) (t:=4) false false (by kernel_rfl) (by kernel_rfl))<|wx (6,36) h3<|wl (6,37) 0 h3 rfl<|wx (6,47) h6<|wl (6,48) 0 h6 rfl<|wi (6,59) h (fun h9 h=>?_) fun h9 h=>?_
        ·cases h
         exact wJ
        ·refine wg h fun v91 dq h=>wx (6,63) dq<|wl (6,64) 0 dq rfl<|?_
         cases v91
         ·refine wi (6,69) h (fun dT h=>?_) fun dT h=>?_
          ·cases h
           exact wJ
          ·cases h
           exact wJ
         ·cases h
          exact wJ
       ·refine wt (6,32) (.op { d:=dB true}) (j6 (P:=X.P) (t:=4) true false (by kernel_rfl) (by kernel_rfl))<|?_
        cases h
        exact wJ
      ·refine wt (6,31) (.op { d:=dB true}) (tM h7)<|?_
       cases DE
       ·refine wt (6,32) (.op { d:=dB true}) (j6 (P:=X.P) (t:=4) false true (by kernel_rfl) (by kernel_rfl))<|?_
        cases h
        exact wJ
       ·refine wt (6,32) (.op { d:=dB false}) (j6 (P:=X.P) (t:=4) true true (by kernel_rfl) (by kernel_rfl))<|wx (6,36) h3<|wl (6,37) 0 h3 rfl<|wx (6,47) h6<|wl (6,48) 0 h6 rfl<|wc (6,52) h (fun _=>pW) fun ca h=>?_
        cases ca
        ·cases h
         exact wJ
        ·refine wi (6,59) h (fun gg h=>?_) fun gg h=>?_
         ·cases h
          exact wJ
         ·refine wg h fun O8 dT h=>wx (6,63) dT<|wl (6,64) 0 dT rfl<|?_
          cases O8
          ·refine wi (6,69) h (fun lY h=>?_) fun lY h=>?_
           ·cases h
            exact wJ
           ·cases h
            exact wJ
          ·cases h
           exact wJ
     ·refine wt (6,23) (.op { d:=dB true}) (j6 (P:=X.P) (t:=4) true false (by kernel_rfl) (by kernel_rfl))<|?_
      cases h
      exact wJ
    ·refine wt (6,22) (.op { d:=dB true}) (tM h4)<|?_
     cases v46
     ·refine wt (6,23) (.op { d:=dB true}) (j6 (P:=X.P) (t:=4) false true (by kernel_rfl) (by kernel_rfl))<|?_
      cases h
      exact wJ
     ·refine wt (6,23) (.op { d:=dB false}) (j6 (P:=X.P) (t:=4) true true (by kernel_rfl) (by kernel_rfl))<|wg h fun DF h6 h=>wx (6,27) h6<|wl (6,28) 0 h6 rfl<|wI h (fun h7 h=>?_) fun h7 h=>?_
      ·refine wt (6,31) (.op { d:=dB false}) (tL h7)<|?_
       cases DF
       ·refine wt (6,32) (.op { d:=dB false}) (j6 (P:=X.P) (t:=4) false false (by kernel_rfl) (by kernel_rfl))<|wx (6,36) h3<|wl (6,37) 0 h3 rfl<|wc (6,41) h (fun _=>pW) fun aG h=>?_
        cases aG
        ·cases h
         exact wJ
        ·refine wx (6,47) h6<|wl (6,48) 0 h6 rfl<|wi (6,59) h (fun gg h=>?_) fun gg h=>?_
         ·cases h
          exact wJ
         ·refine wg h fun O9 dT h=>wx (6,63) dT<|wl (6,64) 0 dT rfl<|?_
          cases O9
          ·refine wi (6,69) h (fun lY h=>?_) fun lY h=>?_
           ·cases h
            exact wJ
           ·cases h
            exact wJ
          ·cases h
           exact wJ
       ·refine wt (6,32) (.op { d:=dB true}) (j6 (P:=X.P) (t:=4) true false (by kernel_rfl) (by kernel_rfl))<|?_
        cases h
        exact wJ
      ·refine wt (6,31) (.op { d:=dB true}) (tM h7)<|?_
       cases DF
       ·refine wt (6,32) (.op { d:=dB true}) (j6 (P:=X.P) (t:=4) false true (by kernel_rfl) (by kernel_rfl))<|?_
        cases h
        exact wJ
       ·refine wt (6,32) (.op { d:=dB false}) (j6 (P:=X.P) (t:=4) true true (by kernel_rfl) (by kernel_rfl))<|wx (6,36) h3<|wl (6,37) 0 h3 rfl<|wc (6,41) h (fun _=>pW) fun ba h=>?_
        cases ba
        ·cases h
         exact wJ
        ·refine wx (6,47) h6<|wl (6,48) 0 h6 rfl<|wc (6,52) h (fun _=>pW) fun cm h=>?_
         cases cm
         ·cases h
          exact wJ
         ·refine wi (6,59) h (fun kD h=>?_) fun kD h=>?_
          ·cases h
           exact wJ
          ·refine wg h fun Pa lY h=>wx (6,63) lY<|wl (6,64) 0 lY rfl<|?_
           cases Pa
           ·refine wi (6,69) h (fun qD h=>?_) fun qD h=>?_
            ·cases h
             exact wJ
            ·cases h
             exact wJ
           ·cases h
            exact wJ
inductive H7 where
 | r
 | e2 (v9:Int)
def akc:H7->Ex
 | .r=>.ret
 | .e2 _=>(.exit 2)
def akb (b6:af):H7->(Nat->DV)->List Ob->S
 | .r,F,G=>⟨fs F [2] [(2,dB false)],⟨sl G 1 [(0,⟨1,(EncX.ae b6).map DV.c⟩)],[]⟩⟩
 | .e2 v9,F,G=>⟨fs F [0,3,4,9,125] [(4,.pt 0 1 0),(9,aa v9),(125,dB false)],⟨sl G 1 [(0,⟨1,(EncX.ae b6).map DV.c⟩)],[]⟩⟩
def wM (mz:DT)(b6:af)(n:Nat):Nat->Int->Option H7
 | 0,_=>none
 | k+1,v9=>
  if v9<(b6.blocks.l.length:Int)then
   (aD b6.blocks.l v9).bind fun v131=>
   (mz v131).bind fun iY=>
   bif iY then
    if aF (v9+1)then wM mz b6 n k (v9+1)
    else none
   else some (.r)
  else some (.e2 v9)
theorem Xb (mz:DT)(b6:af)(xu:Pl mz)(n:Nat):∀(k:Nat) (v9:Int) (o:H7),wM mz b6 n k v9=some o->X.LF 140 135 11 (sub EE [1,0,1,0,0,1,0,0,1,1,1,1,1,0,0]) 1 [(4,.pt 0 1 0),(9,aa v9)] [(0,⟨1,(EncX.ae b6).map DV.c⟩)] (akc o) (akb b6 o):=by
 intro k;induction k with
 | zero=>intro _ _ h;exact nomatch h
 | succ k ih=>
  intro v9 o h F G s hs
  refine Sys.bj hs (w0 ?_)
  refine wi (11,4) h (fun h0 h=>?_) fun h0 h=>?_
  ·refine wg h fun v131 h1 h=>wx (13,3) h1<|wl (13,4) 0 h1 rfl<|wc (13,5) h (fun _=>xu _ _) fun iY h=>?_
   cases iY
   ·cases h
    exact wX
   ·exact wn (12,1) h fun h4 h=>wN 11 [] (ih (v9+1) _ h F G)
  ·cases h
   exact wX
inductive H8 where
 | r (o0:af)
 | e0 (v3:Int)
def akf:H8->Ex
 | .r _=>.ret
 | .e0 _=>(.exit 0)
def ake (p0:Sl af):H8->S
 | .r o0=>⟨fl [(2,dB false)],⟨[⟨1,(EncX.ae o0).map DV.c⟩],[]⟩⟩
 | .e0 v3=>⟨fl [(0,.c (aq p0)),(3,aa v3),(13,dB false)],⟨[],[]⟩⟩
def tZ (mz:DT)(p0:Sl af)(n:Nat):Nat->Int->Option H8
 | 0,_=>none
 | k+1,v3=>
  if v3<(p0.l.length:Int)then
   (aD p0.l v3).bind fun b6=>
   (Iq n b6.kind).bind fun(x,aC,av,aK)=>
   (H6 b6 x aC av aK n).bind fun az=>match az with
   | .m zu=>
    bif zu then
     some (.r b6)
    else(aD x.l 3).bind fun OV=>
    bif OV then
     (lI n b6.e_).bind fun dV=>
     bif dV then
      (wM mz b6 n n 0).bind fun aY=>match aY with
      | .r=>
       some (.r b6)
      | .e2 gB=>
       if aF (v3+1)then tZ mz p0 n k (v3+1)
       else none
     else some (.r b6)
    else(Ip n b6.e_).bind fun eS=>
    bif eS then
     (wM mz b6 n n 0).bind fun bD=>match bD with
     | .r=>
      some (.r b6)
     | .e2 Pc=>
      if aF (v3+1)then tZ mz p0 n k (v3+1)
      else none
    else some (.r b6)
  else some (.e0 v3)
theorem akd (mz:DT)(p0:Sl af)(xu:Pl mz)(n:Nat):∀(k:Nat) (v3:Int) (o:H8),tZ mz p0 n k v3=some o->X.LH 140 135 2 (sub EE [1,0,1,0,0]) 0 ⟨fl [(0,.c (aq p0)),(3,aa v3)],⟨[],[]⟩⟩ (akf o) (ake p0 o):=by
 intro k;induction k with
 | zero=>intro _ _ h;exact nomatch h
 | succ k ih=>
  intro v3 o h s hs
  refine Sys.bj hs (w0 ?_)
  refine wi (2,3) h (fun h0 h=>?_) fun h0 h=>?_
  ·refine wg h fun b6 h1 h=>wx (4,2) h1<|wa (4,3) h1<|wc (5,2) h (fun _=>akT) ?_
   rintro⟨x,aC,av,aK⟩ h
   refine wg h fun az h3 h=>?_
   have h3:=aj8 _ _ _ _ _ _ _ h3
   cases az with
   | m zu=>
    refine wV 6 [1,0,0,1,1,0,0] h3<|?_
    cases zu
    ·refine wg h fun OV h5 h=>wx (8,1) h5<|wl (8,2) 0 h5 rfl<|?_
     cases OV
     ·refine wx (8,11) h5<|wl (8,12) 0 h5 rfl<|wc (8,17) h (fun _=>akS) fun eS h=>?_
      cases eS
      ·cases h
       exact wX
      ·refine wg h fun bD h9 h=>?_
       have h9:=Xb _ _ xu _ _ _ _ h9
       cases bD with
       | r=>
        refine wO [1,0,0,1,1,1,1,1,0] h9<|?_
        cases h
        exact wX
       | e2 Pc=>
        exact wO [1,0,0,1,1,1,1,1,0] h9<|wn (3,1) h fun dq h=>wN 2 [] (ih (v3+1) _ h)
     ·refine wc (8,6) h (fun _=>aj7) fun dV h=>?_
      cases dV
      ·cases h
       exact wX
      ·refine wx (8,11) h5<|wl (8,12) 0 h5 rfl<|wg h fun aY h9 h=>?_
       have h9:=Xb _ _ xu _ _ _ _ h9
       cases aY with
       | r=>
        refine wO [1,0,0,1,1,1,1,1,0] h9<|?_
        cases h
        exact wX
       | e2 gB=>
        exact wO [1,0,0,1,1,1,1,1,0] h9<|wn (3,1) h fun dq h=>wN 2 [] (ih (v3+1) _ h)
    ·cases h
     exact wX
  ·cases h
   exact wX
def iX:Nat->Sl af->Option Bool
 | 0,_=>none
 | n+1,p0=>
  (tZ (iX n) p0 n n 0).bind fun c9=>match c9 with
  | .r o0=>
   some false
  | .e0 c7=>
   some true
theorem akg:∀n:Nat,Pl (iX n):=by
 intro n
 induction n with
 | zero=>
  refine ?_
  ·intro p0 r h;unfold iX at h;cases h
 | succ n ih=>
  have xu:=ih
  refine ?_
  ·intro p0 r h
   unfold iX at h
   refine fC 135 EE ?_
   refine wg h fun c9 h0 h=>?_
   have h0:=akd _ _ xu _ _ _ _ h0
   cases c9 with
   | r o0=>
    refine wo [1,0,1,0] h0<|?_
    cases h
    exact wC
   | e0 c7=>
    refine wo [1,0,1,0] h0<|?_
    cases h
    exact wC
theorem H9 {n:Nat}{p0:Sl af}{r:Bool}(h:iX n p0=some r):X.bg 140 [.c (aq p0)] (dB r):=akg n p0 r h
inductive Ia where
 | r
 | e2 (v5:Int)
def akj:Ia->Ex
 | .r=>.ret
 | .e2 _=>(.exit 2)
def aki (dQ:aH):Ia->(Nat->DV)->List Ob->S
 | .r,F,G=>⟨fs F [2] [(2,dB false)],⟨sl G 2 [(1,⟨1,(EncX.ae dQ).map DV.c⟩)],[]⟩⟩
 | .e2 v5,F,G=>⟨fs F [1,3,4,5,51] [(4,.pt 1 1 0),(5,aa v5),(51,dB false)],⟨sl G 2 [(1,⟨1,(EncX.ae dQ).map DV.c⟩)],[]⟩⟩
def zB (dQ:aH)(n:Nat):Nat->Int->Option Ia
 | 0,_=>none
 | k+1,v5=>
  if v5<(dQ.vars.l.length:Int)then
   (aD dQ.vars.l v5).bind fun rN=>
   (Ir n rN).bind fun aC=>
   bif aC then
    if aF (v5+1)then zB dQ n k (v5+1)
    else none
   else some (.r)
  else some (.e2 v5)
theorem akh (dQ:aH)(n:Nat):∀(k:Nat) (v5:Int) (o:Ia),zB dQ n k v5=some o->X.LF 139 122 10 (sub AX [1,1,0,1,0,0,1,0,0,1,1,0,1,0,0]) 2 [(4,.pt 1 1 0),(5,aa v5)] [(1,⟨1,(EncX.ae dQ).map DV.c⟩)] (akj o) (aki dQ o):=by
 intro k;induction k with
 | zero=>intro _ _ h;exact nomatch h
 | succ k ih=>
  intro v5 o h F G s hs
  refine Sys.bj hs (w0 ?_)
  refine wi (10,4) h (fun h0 h=>?_) fun h0 h=>?_
  ·refine wg h fun rN h1 h=>wx (12,3) h1<|wa (12,4) h1<|wc (12,5) h (fun _=>akU) fun aC h=>?_
   cases aC
   ·cases h
    exact wX
   ·exact wn (11,1) h fun h4 h=>wN 10 [] (ih (v5+1) _ h F G)
  ·cases h
   exact wX
inductive Ib where
 | r
 | e4 (v6:Int)
def akm:Ib->Ex
 | .r=>.ret
 | .e4 _=>(.exit 4)
def akl (dQ:aH):Ib->(Nat->DV)->List Ob->S
 | .r,F,G=>⟨fs F [2] [(2,dB false)],⟨sl G 2 [(1,⟨1,(EncX.ae dQ).map DV.c⟩)],[]⟩⟩
 | .e4 v6,F,G=>⟨fs F [1,3,4,6,65] [(4,.pt 1 1 0),(6,aa v6),(65,dB false)],⟨sl G 2 [(1,⟨1,(EncX.ae dQ).map DV.c⟩)],[]⟩⟩
def zC (dQ:aH)(n:Nat):Nat->Int->Option Ib
 | 0,_=>none
 | k+1,v6=>
  if v6<(dQ.methods.l.length:Int)then
   (aD dQ.methods.l v6).bind fun zr=>
   (mH n zr.name).bind fun av=>
   bif av then
    (iX n zr.body).bind fun aK=>
    bif aK then
     if aF (v6+1)then zC dQ n k (v6+1)
     else none
    else some (.r)
   else some (.r)
  else some (.e4 v6)
theorem akk (dQ:aH)(n:Nat):∀(k:Nat) (v6:Int) (o:Ib),zC dQ n k v6=some o->X.LF 139 122 15 (sub AX [1,1,0,1,0,0,1,0,0,1,1,1,1,0,0]) 2 [(4,.pt 1 1 0),(6,aa v6)] [(1,⟨1,(EncX.ae dQ).map DV.c⟩)] (akm o) (akl dQ o):=by
 intro k;induction k with
 | zero=>intro _ _ h;exact nomatch h
 | succ k ih=>
  intro v6 o h F G s hs
  refine Sys.bj hs (w0 ?_)
  refine wi (15,4) h (fun h0 h=>?_) fun h0 h=>?_
  ·refine wg h fun zr h1 h=>wx (17,3) h1<|wl (17,5) 0 h1 rfl<|wc (17,6) h (fun _=>pW) fun av h=>?_
   cases av
   ·cases h
    exact wX
   ·refine wx (17,12) h1<|wl (17,14) 1 h1 rfl<|wc (17,15) h (fun _=>H9) fun aK h=>?_
    cases aK
    ·cases h
     exact wX
    ·exact wn (16,1) h fun h6 h=>wN 15 [] (ih (v6+1) _ h F G)
  ·cases h
   exact wX
inductive Ie where
 | r (o1:aH)
 | e0 (v3:Int)
def aks:Ie->Ex
 | .r _=>.ret
 | .e0 _=>(.exit 0)
def akr (p0:aj):Ie->S
 | .r o1=>⟨fl [(2,dB false)],⟨[⟨1,(EncX.ae p0).map DV.c⟩,⟨1,(EncX.ae o1).map DV.c⟩],[]⟩⟩
 | .e0 v3=>⟨fl [(1,.pt 0 1 0),(3,aa v3),(23,dB false)],⟨[⟨1,(EncX.ae p0).map DV.c⟩],[]⟩⟩
def zD (p0:aj)(n:Nat):Nat->Int->Option Ie
 | 0,_=>none
 | k+1,v3=>
  if v3<(p0.aw.l.length:Int)then
   (aD p0.aw.l v3).bind fun dQ=>
   (mH n dQ.name).bind fun x=>
   bif x then
    if(dQ.vars.l.length:Int)>16 then
     some (.r dQ)
    else if(dQ.methods.l.length:Int)>16 then
     some (.r dQ)
    else(zB dQ n n 0).bind fun az=>match az with
    | .r=>
     some (.r dQ)
    | .e2 cN=>
     (zC dQ n n 0).bind fun aY=>match aY with
     | .r=>
      some (.r dQ)
     | .e4 bX=>
      if aF (v3+1)then zD p0 n k (v3+1)
      else none
   else some (.r dQ)
  else some (.e0 v3)
theorem akq (p0:aj)(n:Nat):∀(k:Nat) (v3:Int) (o:Ie),zD p0 n k v3=some o->X.LH 139 122 4 (sub AX [1,1,0,1,0,0]) 1 ⟨fl [(1,.pt 0 1 0),(3,aa v3)],⟨[⟨1,(EncX.ae p0).map DV.c⟩],[]⟩⟩ (aks o) (akr p0 o):=by
 intro k;induction k with
 | zero=>intro _ _ h;exact nomatch h
 | succ k ih=>
  intro v3 o h s hs
  refine Sys.bj hs (w0 ?_)
  refine wi (4,4) h (fun h0 h=>?_) fun h0 h=>?_
  ·refine wg h fun dQ h1 h=>wx (6,3) h1<|wa (6,4) h1<|wc (7,2) h (fun _=>pW) fun x h=>?_
   cases x
   ·cases h
    exact wX
   ·refine wi (7,8) h (fun h4 h=>?_) fun h4 h=>?_
    ·cases h
     exact wX
    ·refine wi (7,14) h (fun h5 h=>?_) fun h5 h=>?_
     ·cases h
      exact wX
     ·refine wg h fun az h6 h=>?_
      have h6:=akh _ _ _ _ _ h6
      cases az with
      | r=>
       refine wO [1,0,0,1,1,0,1,0] h6<|?_
       cases h
       exact wX
      | e2 cN=>
       refine wO [1,0,0,1,1,0,1,0] h6<|wg h fun aY h7 h=>?_
       have h7:=akk _ _ _ _ _ h7
       cases aY with
       | r=>
        refine wO [1,0,0,1,1,1,1,0] h7<|?_
        cases h
        exact wX
       | e4 bX=>
        exact wO [1,0,0,1,1,1,1,0] h7<|wn (5,1) h fun h8 h=>wN 4 [] (ih (v3+1) _ h)
  ·cases h
   exact wX
inductive Ic where
 | r (o1:aO)
 | e6 (v7:Int)
def akp:Ic->Ex
 | .r _=>.ret
 | .e6 _=>(.exit 6)
def ako (p0:aj):Ic->S
 | .r o1=>⟨fl [(2,dB false)],⟨[⟨1,(EncX.ae p0).map DV.c⟩,⟨1,(EncX.ae o1).map DV.c⟩],[]⟩⟩
 | .e6 v7=>⟨fl [(1,.pt 0 1 0),(7,aa v7),(90,dB false)],⟨[⟨1,(EncX.ae p0).map DV.c⟩],[]⟩⟩
def wQ (p0:aj)(n:Nat):Nat->Int->Option Ic
 | 0,_=>none
 | k+1,v7=>
  if v7<(p0.aR.l.length:Int)then
   (aD p0.aR.l v7).bind fun kU=>
   (mH n kU.name).bind fun aG=>
   bif aG then
    if kU.count<0 then
     some (.r kU)
    else if kU.star=true then
     if kU.count≠0 then
      some (.r kU)
     else(iX n kU.body).bind fun ba=>
     bif ba then
      if aF (v7+1)then wQ p0 n k (v7+1)
      else none
     else some (.r kU)
    else(iX n kU.body).bind fun ca=>
    bif ca then
     if aF (v7+1)then wQ p0 n k (v7+1)
     else none
    else some (.r kU)
   else some (.r kU)
  else some (.e6 v7)
theorem akn (p0:aj)(n:Nat):∀(k:Nat) (v7:Int) (o:Ic),wQ p0 n k v7=some o->X.LH 139 122 20 (sub AX [1,1,1,0,1,0,0]) 1 ⟨fl [(1,.pt 0 1 0),(7,aa v7)],⟨[⟨1,(EncX.ae p0).map DV.c⟩],[]⟩⟩ (akp o) (ako p0 o):=by
 intro k;induction k with
 | zero=>intro _ _ h;exact nomatch h
 | succ k ih=>
  intro v7 o h s hs
  refine Sys.bj hs (w0 ?_)
  refine wi (20,4) h (fun h0 h=>?_) fun h0 h=>?_
  ·refine wg h fun kU h1 h=>wx (22,3) h1<|wa (22,4) h1<|wc (23,2) h (fun _=>pW) fun aG h=>?_
   cases aG
   ·cases h
    exact wX
   ·refine wi (23,7) h (fun h4 h=>?_) fun h4 h=>?_
    ·cases h
     exact wX
    ·refine wI h (fun h5 h=>?_) fun h5 h=>?_
     ·refine wt (23,11) (.op { d:=dB true}) (kz h5)<|wi (23,15) h (fun h6 h=>?_) fun h6 h=>?_
      ·cases h
       exact wX
      ·refine wc (23,21) h (fun _=>H9) fun ba h=>?_
       cases ba
       ·cases h
        exact wX
       ·exact wn (21,1) h fun h9 h=>wN 20 [] (ih (v7+1) _ h)
     ·refine wt (23,11) (.op { d:=dB false}) (kz (eq_false_of_ne_true h5))<|wc (23,21) h (fun _=>H9) fun ca h=>?_
      cases ca
      ·cases h
       exact wX
      ·exact wn (21,1) h fun h8 h=>wN 20 [] (ih (v7+1) _ h)
  ·cases h
   exact wX
def DS (n:Nat)(p0:aj):Option Bool:=
 if(p0.aw.l.length:Int)>8 then
  some false
 else if(p0.aR.l.length:Int)>8 then
  some false
 else(zD p0 n n 0).bind fun bD=>match bD with
 | .r o1=>
  some false
 | .e0 c7=>
  (wQ p0 n n 0).bind fun c9=>match c9 with
  | .r jC=>
   some false
  | .e6 iW=>
   some true
theorem Xc {n:Nat}{p0:aj}{r:Bool}(h:DS n p0=some r):X.bg 139 [.c (.agg (EncX.ae p0))] (dB r):=by
 refine fC 122 AX ?_
 refine wi (1,3) h (fun h0 h=>?_) fun h0 h=>?_
 ·cases h
  exact wC
 ·refine wi (1,8) h (fun h1 h=>?_) fun h1 h=>?_
  ·cases h
   exact wC
  ·refine wg h fun bD h2 h=>?_
   have h2:=akq _ _ _ _ _ h2
   cases bD with
   | r o1=>
    refine wo [1,1,0,1,0] h2<|?_
    cases h
    exact wC
   | e0 c7=>
    refine wo [1,1,0,1,0] h2<|wg h fun c9 h3 h=>?_
    have h3:=akn _ _ _ _ _ h3
    cases c9 with
    | r jC=>
     refine wo [1,1,1,0,1,0] h3<|?_
     cases h
     exact wC
    | e6 iW=>
     refine wo [1,1,1,0,1,0] h3<|?_
     cases h
     exact wC
inductive IF where
 | r (v4:Int)
 | e0 (v6:Int)
def alw:IF->Ex
 | .r _=>.ret
 | .e0 _=>(.exit 0)
def alv (p0:aj)(p1:ByteArray):IF->(Nat->DV)->List Ob->S
 | .r v4,F,G=>⟨fs F [4,5] [(4,aa v4),(5,dB true)],⟨sl G 1 [(0,⟨1,(EncX.ae p0).map DV.c⟩)],[]⟩⟩
 | .e0 v6,F,G=>⟨fs F [1,2,6,11] [(1,.c (.sc (.string p1))),(2,.pt 0 1 0),(6,aa v6),(11,dB false)],⟨sl G 1 [(0,⟨1,(EncX.ae p0).map DV.c⟩)],[]⟩⟩
def zS (p0:aj)(p1:ByteArray)(n:Nat):Nat->Int->Option IF
 | 0,_=>none
 | k+1,v6=>
  if v6<(p0.aw.l.length:Int)then
   (aD p0.aw.l v6).bind fun bF=>
   if bF.name=p1 then
    some (.r v6)
   else if aF (v6+1)then zS p0 p1 n k (v6+1)
   else none
  else some (.e0 v6)
theorem alu (p0:aj)(p1:ByteArray)(n:Nat):∀(k:Nat) (v6:Int) (o:IF),zS p0 p1 n k v6=some o->X.LF 115 23 2 (sub Qs [1,0,1,0,0]) 1 [(1,.c (.sc (.string p1))),(2,.pt 0 1 0),(6,aa v6)] [(0,⟨1,(EncX.ae p0).map DV.c⟩)] (alw o) (alv p0 p1 o):=by
 intro k;induction k with
 | zero=>intro _ _ h;exact nomatch h
 | succ k ih=>
  intro v6 o h F G s hs
  refine Sys.bj hs (w0 ?_)
  refine wi (2,4) h (fun h0 h=>?_) fun h0 h=>?_
  ·refine wg h fun bF h1 h=>wx (4,3) h1<|wl (4,5) 0 h1 rfl<|wI h (fun h2 h=>?_) fun h2 h=>?_
   ·refine wt (4,7) (.op { d:=dB true}) (dM h2)<|?_
    cases h
    exact wX
   ·exact wt (4,7) (.op { d:=dB false}) (dL h2)<|wn (3,1) h fun h3 h=>wN 2 [] (ih (v6+1) _ h F G)
  ·cases h
   exact wX
def pY (n:Nat)(p0:aj)(p1:ByteArray):Option (Int×Bool):=
 (zS p0 p1 n n 0).bind fun az=>match az with
 | .r v4=>
  some (v4,true)
 | .e0 bX=>
  some (0,false)
theorem wT {n:Nat}{p0:aj}{p1:ByteArray}{r:Int×Bool}(h:pY n p0 p1=some r):X.bg 115 [.c (.agg (EncX.ae p0)),.c (.sc (.string p1))] (.aX [aa r.1,dB r.2]):=by
 refine fC 23 Qs ?_
 refine wg h fun az h0 h=>?_
 have h0:=alu _ _ _ _ _ _ h0
 cases az with
 | r v4=>
  refine wO [1,0,1,0] h0<|?_
  cases h
  exact wC
 | e0 bX=>
  refine wO [1,0,1,0] h0<|?_
  cases h
  exact wC
inductive IP where
 | e0 (v4:List ByteArray) (v5:List Int) (v6:Int)
def alS:IP->Ex
 | .e0 _ _ _=>(.exit 0)
def alR (p0:aH):IP->(Nat->DV)->List Ob->S
 | .e0 v4 v5 v6,F,G=>⟨fs F [1,4,5,6,14] [(1,.pt 0 1 0),(4,aP v4),(5,aP v5),(6,aa v6),(14,dB false)],⟨sl G 1 [(0,⟨1,(EncX.ae p0).map DV.c⟩)],[]⟩⟩
def zX (p0:aH)(n:Nat):Nat->List ByteArray->List Int->Int->Option IP
 | 0,_,_,_=>none
 | k+1,v4,v5,v6=>
  if v6<(p0.vars.l.length:Int)then
   (aD p0.vars.l v6).bind fun v21=>
   if Room 16 (v4++([v21.name]:List ByteArray)).length then if Room 8 (v5++([v21.at_]:List Int)).length then if aF (v6+1)then zX p0 n k (v4++([v21.name]:List ByteArray)) (v5++([v21.at_]:List Int)) (v6+1)
   else none
   else none
   else none
  else some (.e0 v4 v5 v6)
theorem alQ (p0:aH)(n:Nat):∀(k:Nat) (v4:List ByteArray) (v5:List Int) (v6:Int) (o:IP),zX p0 n k v4 v5 v6=some o->X.LF 162 84 4 (sub AZ [1,1,1,0,1,0,0]) 1 [(1,.pt 0 1 0),(4,aP v4),(5,aP v5),(6,aa v6)] [(0,⟨1,(EncX.ae p0).map DV.c⟩)] (alS o) (alR p0 o):=by
 intro k;induction k with
 | zero=>intro _ _ _ _ h;exact nomatch h
 | succ k ih=>
  intro v4 v5 v6 o h F G s hs
  refine Sys.bj hs (w0 ?_)
  refine wi (4,4) h (fun h0 h=>?_) fun h0 h=>?_
  ·exact wg h fun v21 h1 h=>wx (6,4) h1<|wl (6,6) 0 h1 rfl<|wq h fun h2 h=>dG (6,8) h2<|wx (6,13) h1<|wl (6,15) 5 h1 rfl<|wq h fun h3 h=>dG (6,17) h3<|wn (5,1) h fun h4 h=>wN 4 [] (ih (v4++([v21.name]:List ByteArray)) (v5++([v21.at_]:List Int)) (v6+1) _ h F G)
  ·cases h
   exact wX
inductive IQ where
 | e2 (v4:List ByteArray) (v5:List Int) (v7:Int)
def alV:IQ->Ex
 | .e2 _ _ _=>(.exit 2)
def alU (p0:aH):IQ->(Nat->DV)->List Ob->S
 | .e2 v4 v5 v7,F,G=>⟨fs F [1,4,5,7,39] [(1,.pt 0 1 0),(4,aP v4),(5,aP v5),(7,aa v7),(39,dB false)],⟨sl G 1 [(0,⟨1,(EncX.ae p0).map DV.c⟩)],[]⟩⟩
def zY (p0:aH)(n:Nat):Nat->List ByteArray->List Int->Int->Option IQ
 | 0,_,_,_=>none
 | k+1,j0,iV,v7=>
  if v7<(p0.methods.l.length:Int)then
   (aD p0.methods.l v7).bind fun v46=>
   if Room 16 (j0++([v46.name]:List ByteArray)).length then if Room 8 (iV++([v46.at_]:List Int)).length then if aF (v7+1)then zY p0 n k (j0++([v46.name]:List ByteArray)) (iV++([v46.at_]:List Int)) (v7+1)
   else none
   else none
   else none
  else some (.e2 j0 iV v7)
theorem alT (p0:aH)(n:Nat):∀(k:Nat) (j0:List ByteArray) (iV:List Int) (v7:Int) (o:IQ),zY p0 n k j0 iV v7=some o->X.LF 162 84 8 (sub AZ [1,1,1,1,0,1,0,0]) 1 [(1,.pt 0 1 0),(4,aP j0),(5,aP iV),(7,aa v7)] [(0,⟨1,(EncX.ae p0).map DV.c⟩)] (alV o) (alU p0 o):=by
 intro k;induction k with
 | zero=>intro _ _ _ _ h;exact nomatch h
 | succ k ih=>
  intro j0 iV v7 o h F G s hs
  refine Sys.bj hs (w0 ?_)
  refine wi (8,4) h (fun h0 h=>?_) fun h0 h=>?_
  ·exact wg h fun v46 h1 h=>wx (10,4) h1<|wl (10,6) 0 h1 rfl<|wq h fun h2 h=>dG (10,8) h2<|wx (10,13) h1<|wl (10,15) 2 h1 rfl<|wq h fun h3 h=>dG (10,17) h3<|wn (9,1) h fun h4 h=>wN 8 [] (ih (j0++([v46.name]:List ByteArray)) (iV++([v46.at_]:List Int)) (v7+1) _ h F G)
  ·cases h
   exact wX
inductive IN where
 | r (v3:Int)
 | e6 (v9:Int)
def alP:IN->Ex
 | .r _=>.ret
 | .e6 _=>(.exit 6)
def alO (dR:List ByteArray)(db:List Int)(v8:Int):IN->(Nat->DV)->List Ob->S
 | .r v3,F,G=>⟨fs F [2,3] [(2,aa 60),(3,aa v3)],⟨sl G 1 [],[]⟩⟩
 | .e6 v9,F,G=>⟨fs F [4,5,8,9,68] [(4,aP dR),(5,aP db),(8,aa v8),(9,aa v9),(68,dB false)],⟨sl G 1 [],[]⟩⟩
def zW (dR:List ByteArray)(db:List Int)(v8:Int)(n:Nat):Nat->Int->Option IN
 | 0,_=>none
 | k+1,v9=>
  if v9<v8 then
   (aD dR v9).bind fun WX=>
   (aD dR v8).bind fun wB=>
   if WX=wB then
    (aD db v8).bind fun DL=>
    some (.r DL)
   else if aF (v9+1)then zW dR db v8 n k (v9+1)
   else none
  else some (.e6 v9)
theorem alN (dR:List ByteArray)(db:List Int)(v8:Int)(n:Nat):∀(k:Nat) (v9:Int) (o:IN),zW dR db v8 n k v9=some o->X.LF 162 84 15 (sub AZ [1,1,1,1,1,0,1,0,0,1,0,0,1,0,0]) 1 [(4,aP dR),(5,aP db),(8,aa v8),(9,aa v9)] [] (alP o) (alO dR db v8 o):=by
 intro k;induction k with
 | zero=>intro _ _ h;exact nomatch h
 | succ k ih=>
  intro v9 o h F G s hs
  refine Sys.bj hs (w0 ?_)
  refine wi (15,2) h (fun h0 h=>?_) fun h0 h=>?_
  ·refine wg h fun WX h1 h=>wx (17,2) h1<|wl (17,3) 0 h1 rfl<|wg h fun wB h2 h=>wx (17,6) h2<|wl (17,7) 0 h2 rfl<|wI h (fun h3 h=>?_) fun h3 h=>?_
   ·refine wt (17,8) (.op { d:=dB true}) (dM h3)<|wg h fun DL h4 h=>wx (18,2) h4<|wl (18,3) 0 h4 rfl<|?_
    cases h
    exact wX
   ·exact wt (17,8) (.op { d:=dB false}) (dL h3)<|wn (16,1) h fun h4 h=>wN 15 [] (ih (v9+1) _ h F G)
  ·cases h
   exact wX
inductive IM where
 | r (v3:Int)
 | e4 (v8:Int)
def alM:IM->Ex
 | .r _=>.ret
 | .e4 _=>(.exit 4)
def alL (dR:List ByteArray)(db:List Int):IM->(Nat->DV)->List Ob->S
 | .r v3,F,G=>⟨fs F [2,3] [(2,aa 60),(3,aa v3)],⟨sl G 1 [],[]⟩⟩
 | .e4 v8,F,G=>⟨fs F [4,5,8,63] [(4,aP dR),(5,aP db),(8,aa v8),(63,dB false)],⟨sl G 1 [],[]⟩⟩
def zV (dR:List ByteArray)(db:List Int)(n:Nat):Nat->Int->Option IM
 | 0,_=>none
 | k+1,v8=>
  if v8<(dR.length:Int)then
   (zW dR db v8 n n 0).bind fun bD=>match bD with
   | .r v3=>
    some (.r v3)
   | .e6 gB=>
    if aF (v8+1)then zV dR db n k (v8+1)
    else none
  else some (.e4 v8)
theorem alK (dR:List ByteArray)(db:List Int)(n:Nat):∀(k:Nat) (v8:Int) (o:IM),zV dR db n k v8=some o->X.LF 162 84 12 (sub AZ [1,1,1,1,1,0,1,0,0]) 1 [(4,aP dR),(5,aP db),(8,aa v8)] [] (alM o) (alL dR db o):=by
 intro k;induction k with
 | zero=>intro _ _ h;exact nomatch h
 | succ k ih=>
  intro v8 o h F G s hs
  refine Sys.bj hs (w0 ?_)
  refine wi (12,3) h (fun h0 h=>?_) fun h0 h=>?_
  ·refine wg h fun bD h1 h=>?_
   have h1:=alN _ _ _ _ _ _ _ h1
   cases bD with
   | r v3=>
    refine wO [1,0,0,1,0] h1<|?_
    cases h
    exact wX
   | e6 gB=>
    exact wO [1,0,0,1,0] h1<|wn (13,1) h fun h2 h=>wN 12 [] (ih (v8+1) _ h F G)
  ·cases h
   exact wX
def IL (n:Nat)(p0:aH):Option (Int×Int):=
 (zX p0 n n ([]:List ByteArray) ([]:List Int) 0).bind fun az=>match az with
 | .e0 dU cN bX=>
  (zY p0 n n dU cN 0).bind fun aY=>match aY with
  | .e2 dR db iW=>
   (zV dR db n n 0).bind fun c9=>match c9 with
   | .r c7=>
    some (60,c7)
   | .e4 dC=>
    some (0,0)
theorem alW {n:Nat}{p0:aH}{r:Int×Int}(h:IL n p0=some r):X.bg 162 [.c (.agg (EncX.ae p0))] (.aX [aa r.1,aa r.2]):=by
 refine fC 84 AZ ?_
 refine wg h fun az h0 h=>?_
 have h0:=alQ _ _ _ _ _ _ _ h0
 cases az with
 | e0 dU cN bX=>
  refine wO [1,1,1,0,1,0] h0<|wg h fun aY h1 h=>?_
  have h1:=alT _ _ _ _ _ _ _ h1
  cases aY with
  | e2 dR db iW=>
   refine wO [1,1,1,1,0,1,0] h1<|wg h fun c9 h2 h=>?_
   have h2:=alK _ _ _ _ _ _ h2
   cases c9 with
   | r c7=>
    refine wO [1,1,1,1,1,0,1,0] h2<|?_
    cases h
    exact wC
   | e4 dC=>
    refine wO [1,1,1,1,1,0,1,0] h2<|?_
    cases h
    exact wC
end Go.Vig
