/-
-/
import Derived.Test.YtpadajnejknkeaaGreatTy
import Derived.Test.YtpadajnejknkeaaGreatAn
set_option linter.unusedVariables false
set_option linter.unusedSimpArgs false
set_option maxRecDepth 100000
set_option maxHeartbeats 1000000
namespace Go.Vig
open Go Go.Abs Go.Proofs
variable [Kn]
def Dy (n:Nat)(p0:Int):Option Int:=
 if p0<0 then
  some (-1)
 else if p0≥18 then
  some (-1)
 else if 0≤p0∧p0<(18:Int)then(aD ([(-1),0,0,0,0,1,1,1,2,2,2,2,2,2,2,2,2,2]:List Int) p0).bind fun w0=>
 some w0
 else none
theorem Wj {n:Nat}{p0 r:Int}(h:Dy n p0=some r):X.bg 169 [aa p0] (aa r):=by
 refine fC 14 Ze ?_
 refine wi (2,1) h (fun h0 h=>?_) fun h0 h=>?_
 ·cases h
  exact wC
 ·refine wi (2,4) h (fun h1 h=>?_) fun h1 h=>?_
  ·cases h
   exact wC
  ·refine wq h fun h2 h=>wt (4,1) .ix h2<|wg h fun w0 h3 h=>wt (4,2) (.cell (bb w0)) (And.intro (rfl:(1:Nat)=1) (jw 0 (c:=bb w0) rfl (bJ h3)))<|?_
   cases h
   exact wC
def CG (n:Nat)(p0:Int):Option Int:=
 if p0=32 then
  some 1
 else if p0=9 then
  some 1
 else if p0=13 then
  some 1
 else if p0=10 then
  some 1
 else if p0=35 then
  some 2
 else if p0≥97 then
  if p0≤122 then
   some 3
  else if p0≥65 then
   if p0≤90 then
    some 3
   else if p0≥48 then
    if p0≤57 then
     some 4
    else if(Lib.indexByte (⟨#[123,125,40,41,59,58,61,60,62,43,45,42,33,46,38,124]⟩:ByteArray).data.toList p0.toNat.toUInt8)≥0 then
     some 5
    else some 0
   else if(Lib.indexByte (⟨#[123,125,40,41,59,58,61,60,62,43,45,42,33,46,38,124]⟩:ByteArray).data.toList p0.toNat.toUInt8)≥0 then
    some 5
   else some 0
  else if p0≥48 then
   if p0≤57 then
    some 4
   else if(Lib.indexByte (⟨#[123,125,40,41,59,58,61,60,62,43,45,42,33,46,38,124]⟩:ByteArray).data.toList p0.toNat.toUInt8)≥0 then
    some 5
   else some 0
  else if(Lib.indexByte (⟨#[123,125,40,41,59,58,61,60,62,43,45,42,33,46,38,124]⟩:ByteArray).data.toList p0.toNat.toUInt8)≥0 then
   some 5
  else some 0
 else if p0≥65 then
  if p0≤90 then
   some 3
  else if p0≥48 then
   if p0≤57 then
    some 4
   else if(Lib.indexByte (⟨#[123,125,40,41,59,58,61,60,62,43,45,42,33,46,38,124]⟩:ByteArray).data.toList p0.toNat.toUInt8)≥0 then
    some 5
   else some 0
  else if(Lib.indexByte (⟨#[123,125,40,41,59,58,61,60,62,43,45,42,33,46,38,124]⟩:ByteArray).data.toList p0.toNat.toUInt8)≥0 then
   some 5
  else some 0
 else if p0≥48 then
  if p0≤57 then
   some 4
  else if(Lib.indexByte (⟨#[123,125,40,41,59,58,61,60,62,43,45,42,33,46,38,124]⟩:ByteArray).data.toList p0.toNat.toUInt8)≥0 then
   some 5
  else some 0
 else if(Lib.indexByte (⟨#[123,125,40,41,59,58,61,60,62,43,45,42,33,46,38,124]⟩:ByteArray).data.toList p0.toNat.toUInt8)≥0 then
  some 5
 else some 0
theorem TD {n:Nat}{p0 r:Int}(h:CG n p0=some r):X.bg 179 [.c (.sc (.int .u8 p0))] (aa r):=by
 refine fC 41 Zm ?_
 refine wi (1,1) h (fun h0 h=>?_) fun h0 h=>?_
 ·cases h
  exact wC
 ·refine wi (2,1) h (fun h1 h=>?_) fun h1 h=>?_
  ·cases h
   exact wC
  ·refine wi (3,1) h (fun h2 h=>?_) fun h2 h=>?_
   ·cases h
    exact wC
   ·refine wi (4,1) h (fun h3 h=>?_) fun h3 h=>?_
    ·cases h
     exact wC
    ·refine wi (5,1) h (fun h4 h=>?_) fun h4 h=>?_
     ·cases h
      exact wC
     ·refine wi (6,1) h (fun h5 h=>?_) fun h5 h=>?_
      ·refine wi (6,4) h (fun h6 h=>?_) fun h6 h=>?_
       ·cases h
        exact wC
       ·refine wi (7,1) h (fun h7 h=>?_) fun h7 h=>?_
        ·refine wi (7,4) h (fun h8 h=>?_) fun h8 h=>?_
         ·cases h
          exact wC
         ·refine wi (8,1) h (fun h9 h=>?_) fun h9 h=>?_
          ·refine wi (8,4) h (fun dq h=>?_) fun dq h=>?_
           ·cases h
            exact wC
           ·refine wt (9,1) (.op { d:=aa (Lib.indexByte (⟨#[123,125,40,41,59,58,61,60,62,43,45,42,33,46,38,124]⟩:ByteArray).data.toList p0.toNat.toUInt8)}) (sV [] (⟨#[123,125,40,41,59,58,61,60,62,43,45,42,33,46,38,124]⟩:ByteArray) p0)<|wi (9,2) h (fun gg h=>?_) fun gg h=>?_
            ·cases h
             exact wC
            ·cases h
             exact wC
          ·refine wt (9,1) (.op { d:=aa (Lib.indexByte (⟨#[123,125,40,41,59,58,61,60,62,43,45,42,33,46,38,124]⟩:ByteArray).data.toList p0.toNat.toUInt8)}) (sV [] (⟨#[123,125,40,41,59,58,61,60,62,43,45,42,33,46,38,124]⟩:ByteArray) p0)<|wi (9,2) h (fun dq h=>?_) fun dq h=>?_
           ·cases h
            exact wC
           ·cases h
            exact wC
        ·refine wi (8,1) h (fun h8 h=>?_) fun h8 h=>?_
         ·refine wi (8,4) h (fun h9 h=>?_) fun h9 h=>?_
          ·cases h
           exact wC
          ·refine wt (9,1) (.op { d:=aa (Lib.indexByte (⟨#[123,125,40,41,59,58,61,60,62,43,45,42,33,46,38,124]⟩:ByteArray).data.toList p0.toNat.toUInt8)}) (sV [] (⟨#[123,125,40,41,59,58,61,60,62,43,45,42,33,46,38,124]⟩:ByteArray) p0)<|wi (9,2) h (fun dq h=>?_) fun dq h=>?_
           ·cases h
            exact wC
           ·cases h
            exact wC
         ·refine wt (9,1) (.op { d:=aa (Lib.indexByte (⟨#[123,125,40,41,59,58,61,60,62,43,45,42,33,46,38,124]⟩:ByteArray).data.toList p0.toNat.toUInt8)}) (sV [] (⟨#[123,125,40,41,59,58,61,60,62,43,45,42,33,46,38,124]⟩:ByteArray) p0)<|wi (9,2) h (fun h9 h=>?_) fun h9 h=>?_
          ·cases h
           exact wC
          ·cases h
           exact wC
      ·refine wi (7,1) h (fun h6 h=>?_) fun h6 h=>?_
       ·refine wi (7,4) h (fun h7 h=>?_) fun h7 h=>?_
        ·cases h
         exact wC
        ·refine wi (8,1) h (fun h8 h=>?_) fun h8 h=>?_
         ·refine wi (8,4) h (fun h9 h=>?_) fun h9 h=>?_
          ·cases h
           exact wC
          ·refine wt (9,1) (.op { d:=aa (Lib.indexByte (⟨#[123,125,40,41,59,58,61,60,62,43,45,42,33,46,38,124]⟩:ByteArray).data.toList p0.toNat.toUInt8)}) (sV [] (⟨#[123,125,40,41,59,58,61,60,62,43,45,42,33,46,38,124]⟩:ByteArray) p0)<|wi (9,2) h (fun dq h=>?_) fun dq h=>?_
           ·cases h
            exact wC
           ·cases h
            exact wC
         ·refine wt (9,1) (.op { d:=aa (Lib.indexByte (⟨#[123,125,40,41,59,58,61,60,62,43,45,42,33,46,38,124]⟩:ByteArray).data.toList p0.toNat.toUInt8)}) (sV [] (⟨#[123,125,40,41,59,58,61,60,62,43,45,42,33,46,38,124]⟩:ByteArray) p0)<|wi (9,2) h (fun h9 h=>?_) fun h9 h=>?_
          ·cases h
           exact wC
          ·cases h
           exact wC
       ·refine wi (8,1) h (fun h7 h=>?_) fun h7 h=>?_
        ·refine wi (8,4) h (fun h8 h=>?_) fun h8 h=>?_
         ·cases h
          exact wC
         ·refine wt (9,1) (.op { d:=aa (Lib.indexByte (⟨#[123,125,40,41,59,58,61,60,62,43,45,42,33,46,38,124]⟩:ByteArray).data.toList p0.toNat.toUInt8)}) (sV [] (⟨#[123,125,40,41,59,58,61,60,62,43,45,42,33,46,38,124]⟩:ByteArray) p0)<|wi (9,2) h (fun h9 h=>?_) fun h9 h=>?_
          ·cases h
           exact wC
          ·cases h
           exact wC
        ·refine wt (9,1) (.op { d:=aa (Lib.indexByte (⟨#[123,125,40,41,59,58,61,60,62,43,45,42,33,46,38,124]⟩:ByteArray).data.toList p0.toNat.toUInt8)}) (sV [] (⟨#[123,125,40,41,59,58,61,60,62,43,45,42,33,46,38,124]⟩:ByteArray) p0)<|wi (9,2) h (fun h8 h=>?_) fun h8 h=>?_
         ·cases h
          exact wC
         ·cases h
          exact wC
def Gb (n:Nat)(p0:ByteArray):Option Bool:=
 if p0=(⟨#[109,111,110,105,116,111,114]⟩:ByteArray)then
  some true
 else if p0=(⟨#[118,97,114]⟩:ByteArray)then
  some true
 else if p0=(⟨#[109,101,116,104,111,100]⟩:ByteArray)then
  some true
 else if p0=(⟨#[116,104,114,101,97,100]⟩:ByteArray)then
  some true
 else if p0=(⟨#[98,111,111,108]⟩:ByteArray)then
  some true
 else if p0=(⟨#[105,110,116]⟩:ByteArray)then
  some true
 else if p0=(⟨#[116,114,117,101]⟩:ByteArray)then
  some true
 else if p0=(⟨#[102,97,108,115,101]⟩:ByteArray)then
  some true
 else if p0=(⟨#[115,107,105,112]⟩:ByteArray)then
  some true
 else if p0=(⟨#[105,102]⟩:ByteArray)then
  some true
 else if p0=(⟨#[101,108,115,101]⟩:ByteArray)then
  some true
 else if p0=(⟨#[119,104,105,108,101]⟩:ByteArray)then
  some true
 else if p0=(⟨#[108,111,111,112]⟩:ByteArray)then
  some true
 else if p0=(⟨#[99,104,111,111,115,101]⟩:ByteArray)then
  some true
 else if p0=(⟨#[111,114]⟩:ByteArray)then
  some true
 else if p0=(⟨#[115,121,110,99]⟩:ByteArray)then
  some true
 else if p0=(⟨#[99,97,108,108]⟩:ByteArray)then
  some true
 else if p0=(⟨#[119,97,105,116]⟩:ByteArray)then
  some true
 else if p0=(⟨#[110,111,116,105,102,121]⟩:ByteArray)then
  some true
 else if p0=(⟨#[110,111,116,105,102,121,97,108,108]⟩:ByteArray)then
  some true
 else some false
theorem adl {n:Nat}{p0:ByteArray}{r:Bool}(h:Gb n p0=some r):X.bg 180 [.c (.sc (.string p0))] (dB r):=by
 refine fC 25 Zn ?_
 refine wI h (fun h0 h=>?_) fun h0 h=>?_
 ·refine wt (2,0) (.op { d:=dB true}) (dM h0)<|?_
  cases h
  exact wC
 ·refine wt (2,0) (.op { d:=dB false}) (dL h0)<|wI h (fun h1 h=>?_) fun h1 h=>?_
  ·refine wt (3,0) (.op { d:=dB true}) (dM h1)<|?_
   cases h
   exact wC
  ·refine wt (3,0) (.op { d:=dB false}) (dL h1)<|wI h (fun h2 h=>?_) fun h2 h=>?_
   ·refine wt (4,0) (.op { d:=dB true}) (dM h2)<|?_
    cases h
    exact wC
   ·refine wt (4,0) (.op { d:=dB false}) (dL h2)<|wI h (fun h3 h=>?_) fun h3 h=>?_
    ·refine wt (5,0) (.op { d:=dB true}) (dM h3)<|?_
     cases h
     exact wC
    ·refine wt (5,0) (.op { d:=dB false}) (dL h3)<|wI h (fun h4 h=>?_) fun h4 h=>?_
     ·refine wt (6,0) (.op { d:=dB true}) (dM h4)<|?_
      cases h
      exact wC
     ·refine wt (6,0) (.op { d:=dB false}) (dL h4)<|wI h (fun h5 h=>?_) fun h5 h=>?_
      ·refine wt (7,0) (.op { d:=dB true}) (dM h5)<|?_
       cases h
       exact wC
      ·refine wt (7,0) (.op { d:=dB false}) (dL h5)<|wI h (fun h6 h=>?_) fun h6 h=>?_
       ·refine wt (8,0) (.op { d:=dB true}) (dM h6)<|?_
        cases h
        exact wC
       ·refine wt (8,0) (.op { d:=dB false}) (dL h6)<|wI h (fun h7 h=>?_) fun h7 h=>?_
        ·refine wt (9,0) (.op { d:=dB true}) (dM h7)<|?_
         cases h
         exact wC
        ·refine wt (9,0) (.op { d:=dB false}) (dL h7)<|wI h (fun h8 h=>?_) fun h8 h=>?_
         ·refine wt (10,0) (.op { d:=dB true}) (dM h8)<|?_
          cases h
          exact wC
         ·refine wt (10,0) (.op { d:=dB false}) (dL h8)<|wI h (fun h9 h=>?_) fun h9 h=>?_
          ·refine wt (11,0) (.op { d:=dB true}) (dM h9)<|?_
           cases h
           exact wC
          ·refine wt (11,0) (.op { d:=dB false}) (dL h9)<|wI h (fun dq h=>?_) fun dq h=>?_
           ·refine wt (12,0) (.op { d:=dB true}) (dM dq)<|?_
            cases h
            exact wC
           ·refine wt (12,0) (.op { d:=dB false}) (dL dq)<|wI h (fun gg h=>?_) fun gg h=>?_
            ·refine wt (13,0) (.op { d:=dB true}) (dM gg)<|?_
             cases h
             exact wC
            ·refine wt (13,0) (.op { d:=dB false}) (dL gg)<|wI h (fun dT h=>?_) fun dT h=>?_
             ·refine wt (14,0) (.op { d:=dB true}) (dM dT)<|?_
              cases h
              exact wC
             ·refine wt (14,0) (.op { d:=dB false}) (dL dT)<|wI h (fun kD h=>?_) fun kD h=>?_
              ·refine wt (15,0) (.op { d:=dB true}) (dM kD)<|?_
               cases h
               exact wC
              ·refine wt (15,0) (.op { d:=dB false}) (dL kD)<|wI h (fun lY h=>?_) fun lY h=>?_
               ·refine wt (16,0) (.op { d:=dB true}) (dM lY)<|?_
                cases h
                exact wC
               ·refine wt (16,0) (.op { d:=dB false}) (dL lY)<|wI h (fun xY h=>?_) fun xY h=>?_
                ·refine wt (17,0) (.op { d:=dB true}) (dM xY)<|?_
                 cases h
                 exact wC
                ·refine wt (17,0) (.op { d:=dB false}) (dL xY)<|wI h (fun qD h=>?_) fun qD h=>?_
                 ·refine wt (18,0) (.op { d:=dB true}) (dM qD)<|?_
                  cases h
                  exact wC
                 ·refine wt (18,0) (.op { d:=dB false}) (dL qD)<|wI h (fun xZ h=>?_) fun xZ h=>?_
                  ·refine wt (19,0) (.op { d:=dB true}) (dM xZ)<|?_
                   cases h
                   exact wC
                  ·refine wt (19,0) (.op { d:=dB false}) (dL xZ)<|wI h (fun Bw h=>?_) fun Bw h=>?_
                   ·refine wt (20,0) (.op { d:=dB true}) (dM Bw)<|?_
                    cases h
                    exact wC
                   ·refine wt (20,0) (.op { d:=dB false}) (dL Bw)<|wI h (fun L5 h=>?_) fun L5 h=>?_
                    ·refine wt (21,0) (.op { d:=dB true}) (dM L5)<|?_
                     cases h
                     exact wC
                    ·refine wt (21,0) (.op { d:=dB false}) (dL L5)<|?_
                     cases h
                     exact wC
def Gc (n:Nat)(p0:Int):Option Bool:=
 (CG n p0).bind fun x=>
 if x=3 then
  some true
 else if x=4 then
  some true
 else if p0=95 then
  some true
 else some false
theorem adm {n:Nat}{p0:Int}{r:Bool}(h:Gc n p0=some r):X.bg 182 [.c (.sc (.int .u8 p0))] (dB r):=by
 refine fC 16 Zo ?_
 refine wc (1,1) h (fun _=>TD) fun x h=>wi (2,1) h (fun h1 h=>?_) fun h1 h=>?_
 ·cases h
  exact wC
 ·refine wi (2,4) h (fun h2 h=>?_) fun h2 h=>?_
  ·cases h
   exact wC
  ·refine wi (2,8) h (fun h3 h=>?_) fun h3 h=>?_
   ·cases h
    exact wC
   ·cases h
    exact wC
inductive Ge where
 | e0 (v1:Int)
def adp:Ge->Ex
 | .e0 _=>(.exit 0)
def ado (p0:ByteArray):Ge->(Nat->DV)->List Ob->S
 | .e0 v1,F,G=>⟨fs F [0,1,2,17] [(0,.c (.sc (.string p0))),(1,aa v1),(2,.fn 182 [] []),(17,dB false)],⟨sl G 0 [],[]⟩⟩
def yA (p0:ByteArray)(n:Nat):Nat->Int->Option Ge
 | 0,_=>none
 | k+1,v1=>
  if v1<(p0.size:Int)then
   (lR p0 v1).bind fun bV=>
   (Gc n bV).bind fun x=>
   bif x then
    if aF (v1+1)then yA p0 n k (v1+1)
    else none
   else some (.e0 v1)
  else some (.e0 v1)
theorem adn (p0:ByteArray)(n:Nat):∀(k:Nat) (v1:Int) (o:Ge),yA p0 n k v1=some o->X.LF 181 21 1 (sub QE [1,0,0,0]) 0 [(0,.c (.sc (.string p0))),(1,aa v1),(2,.fn 182 [] [])] [] (adp o) (ado p0 o):=by
 intro k;induction k with
 | zero=>intro _ _ h;exact nomatch h
 | succ k ih=>
  intro v1 o h F G s hs
  refine Sys.bj hs (w0 ?_)
  refine wi (1,3) h (fun h0 h=>?_) fun h0 h=>?_
  ·refine wg h fun bV h1 h=>wt (1,8) (.op { d:=.c (.sc (.int .u8 bV))}) (xH h1)<|wc (1,9) h (fun _=>adm) fun x h=>?_
   cases x
   ·cases h
    exact wX
   ·exact wn (2,1) h fun h4 h=>wN 1 [] (ih (v1+1) _ h F G)
  ·cases h
   exact wX
def Gd (n:Nat)(p0:ByteArray)(p1:Int):Option Int:=
 (yA p0 n n p1).bind fun az=>match az with
 | .e0 rH=>
  some rH
theorem adq {n:Nat}{p0:ByteArray}{p1 r:Int}(h:Gd n p0 p1=some r):X.bg 181 [.c (.sc (.string p0)),aa p1,.fn 182 [] []] (aa r):=by
 refine fC 21 QE ?_
 refine wg h fun az h0 h=>?_
 have h0:=adn _ _ _ _ _ h0
 cases az with
 | e0 rH=>
  refine wO [1,0,0] h0<|?_
  cases h
  exact wC
def CF (n:Nat)(p0:ByteArray):Option Bool:=
 if p0=(⟨#[]⟩:ByteArray)then
  some false
 else if(p0.size:Int)>32 then
  some false
 else(lR p0 0).bind fun v12=>
 (CG n v12).bind fun x=>
 if x≠3 then
  some false
 else(Gb n p0).bind fun aC=>
 bif aC then
  some false
 else(Gd n p0 0).bind fun av=>
 if av=(p0.size:Int)then
  some true
 else some false
theorem TC {n:Nat}{p0:ByteArray}{r:Bool}(h:CF n p0=some r):X.bg 170 [.c (.sc (.string p0))] (dB r):=by
 refine fC 25 Zf ?_
 refine wI h (fun h0 h=>?_) fun h0 h=>?_
 ·refine wt (1,1) (.op { d:=dB true}) (dM h0)<|?_
  cases h
  exact wC
 ·refine wt (1,1) (.op { d:=dB false}) (dL h0)<|wi (1,5) h (fun h1 h=>?_) fun h1 h=>?_
  ·cases h
   exact wC
  ·refine wg h fun v12 h2 h=>wt (1,9) (.op { d:=.c (.sc (.int .u8 v12))}) (xH h2)<|wc (1,10) h (fun _=>TD) fun x h=>wi (1,11) h (fun h4 h=>?_) fun h4 h=>?_
   ·cases h
    exact wC
   ·refine wc (1,15) h (fun _=>adl) fun aC h=>?_
    cases aC
    ·refine wc (3,1) h (fun _=>adq) fun av h=>wi (3,4) h (fun h8 h=>?_) fun h8 h=>?_
     ·cases h
      exact wC
     ·cases h
      exact wC
    ·cases h
     exact wC
inductive Hv where
 | m (v4:Bool)
def aim:Hv->Ex
 | .m _=>.normal
def ail (p0:au):Hv->(Nat->DV)->List Ob->S
 | .m v4,F,G=>⟨fs F [1,3,4] [(1,.pt 0 1 0),(4,dB v4)],⟨sl G 1 [(0,⟨1,(EncX.ae p0).map DV.c⟩)],[]⟩⟩
def Dx (p0:au)(n:Nat):Option Hv:=
 if p0.op=1 then
  some (.m true)
 else if p0.op=7 then
  some (.m true)
 else some (.m false)
theorem Wi (p0:au)(n:Nat)(o:Hv)(h:Dx p0 n=some o):X.JF 146 62 (sub KZ [1,1,0]) [1,3] 1 [(1,.pt 0 1 0)] [(0,⟨1,(EncX.ae p0).map DV.c⟩)] (aim o) (ail p0 o):=by
 intro F G;refine Sys.dZ (w0 ?_)
 refine wi (2,2) h (fun h0 h=>?_) fun h0 h=>?_
 ·cases h
  exact wJ
 ·refine wi (2,6) h (fun h1 h=>?_) fun h1 h=>?_
  ·cases h
   exact wJ
  ·cases h
   exact wJ
inductive Hx where
 | m (v24:Bool)
def aip:Hx->Ex
 | .m _=>.normal
def aio (p0:au):Hx->(Nat->DV)->List Ob->S
 | .m v24,F,G=>⟨fs F [1,3,4,24] [(1,.pt 0 1 0),(3,dB true),(24,dB v24)],⟨sl G 1 [(0,⟨1,(EncX.ae p0).map DV.c⟩)],[]⟩⟩
def Hw (p0:au)(n:Nat):Option Hx:=
 (CF n p0.mon).bind fun aC=>
 bif aC then
  (CF n p0.name).bind fun av=>
  bif av then
   some (.m false)
  else some (.m true)
 else some (.m true)
theorem ain (p0:au)(n:Nat)(o:Hx)(h:Hw p0 n=some o):X.JF 146 62 (sub KZ [1,1,1,0,0,1,1,0]) [1,3,4,16] 1 [(1,.pt 0 1 0),(3,dB true)] [(0,⟨1,(EncX.ae p0).map DV.c⟩)] (aip o) (aio p0 o):=by
 intro F G;refine Sys.dZ (w0 ?_)
 refine wc (5,4) h (fun _=>TC) fun aC h=>?_
 cases aC
 ·cases h
  exact wJ
 ·refine wc (5,9) h (fun _=>TC) fun av h=>?_
  cases av
  ·cases h
   exact wJ
  ·cases h
   exact wJ
def zf (n:Nat)(p0:au):Option Bool:=
 if p0.op=4 then
  (Dx p0 n).bind fun az=>match az with
  | .m v4=>
   (Dy n p0.op).bind fun x=>
   if(p0.kids.l.length:Int)≠x then
    some false
   else(Hw p0 n).bind fun aY=>match aY with
   | .m v24=>
    bif v24 then
     some false
    else if p0.n_≥0 then
     bif v4 then
      some true
     else if p0.n_=0 then
      some true
     else some false
    else some false
 else(Dx p0 n).bind fun bD=>match bD with
 | .m dU=>
  (Dy n p0.op).bind fun aK=>
  if(p0.kids.l.length:Int)≠aK then
   some false
  else if p0.mon=(⟨#[]⟩:ByteArray)then
   if p0.name=(⟨#[]⟩:ByteArray)then
    if p0.n_≥0 then
     bif dU then
      some true
     else if p0.n_=0 then
      some true
     else some false
    else some false
   else some false
  else some false
theorem aiq {n:Nat}{p0:au}{r:Bool}(h:zf n p0=some r):X.bg 146 [.c (.agg (EncX.ae p0))] (dB r):=by
 refine fC 62 KZ ?_
 refine wi (1,2) h (fun h0 h=>?_) fun h0 h=>?_
 ·refine wg h fun az h1 h=>?_
  have h1:=Wi _ _ _ h1
  cases az with
  | m v4=>
   refine wV 2 [1,1,0] h1<|wc (3,5) h (fun _=>Wj) fun x h=>wi (3,6) h (fun h3 h=>?_) fun h3 h=>?_
   ·cases h
    exact wC
   ·refine wg h fun aY h4 h=>?_
    have h4:=ain _ _ _ h4
    cases aY with
    | m v24=>
     refine wV 5 [1,1,1,0,0,1,1,0] h4<|?_
     cases v24
     ·refine wi (9,2) h (fun h6 h=>?_) fun h6 h=>?_
      ·cases v4
       ·refine wi (9,8) h (fun h8 h=>?_) fun h8 h=>?_
        ·cases h
         exact wC
        ·cases h
         exact wC
       ·cases h
        exact wC
      ·cases h
       exact wC
     ·cases h
      exact wC
 ·refine wg h fun bD h1 h=>?_
  have h1:=Wi _ _ _ h1
  cases bD with
  | m dU=>
   refine wV 2 [1,1,0] h1<|wc (3,5) h (fun _=>Wj) fun aK h=>wi (3,6) h (fun h3 h=>?_) fun h3 h=>?_
   ·cases h
    exact wC
   ·refine wI h (fun h4 h=>?_) fun h4 h=>?_
    ·refine wt (7,5) (.op { d:=dB false}) (tL h4)<|wI h (fun h5 h=>?_) fun h5 h=>?_
     ·refine wt (7,9) (.op { d:=dB false}) (tL h5)<|wi (9,2) h (fun h6 h=>?_) fun h6 h=>?_
      ·cases dU
       ·refine wi (9,8) h (fun h8 h=>?_) fun h8 h=>?_
        ·cases h
         exact wC
        ·cases h
         exact wC
       ·cases h
        exact wC
      ·cases h
       exact wC
     ·refine wt (7,9) (.op { d:=dB true}) (tM h5)<|?_
      cases h
      exact wC
    ·refine wt (7,5) (.op { d:=dB true}) (tM h4)<|?_
     cases h
     exact wC
abbrev Pm:=au->Int->Option Int
def Xd (f:Pm):Prop:=∀(p0:au) (p1:Int) (r:Int),f p0 p1=some r->X.bg 76 [.c (.agg (EncX.ae p0)),aa p1] (aa r)
inductive Ig where
 | e0 (v1 v5:Int)
def akv:Ig->Ex
 | .e0 _ _=>(.exit 0)
def aku (p0:au):Ig->(Nat->DV)->List Ob->S
 | .e0 v1 v5,F,G=>⟨fs F [1,2,5,33] [(1,aa v1),(2,.pt 0 1 0),(5,aa v5),(33,dB false)],⟨sl G 1 [(0,⟨1,(EncX.ae p0).map DV.c⟩)],[]⟩⟩
def zE (C6:Pm)(p0:au)(n:Nat):Nat->Int->Int->Option Ig
 | 0,_,_=>none
 | k+1,v1,v5=>
  if v5<(p0.kids.l.length:Int)then
   if v1≥0 then
    (aD p0.kids.l v5).bind fun rJ=>
    (C6 rJ v1).bind fun x=>
    if aF (v5+1)then zE C6 p0 n k x (v5+1)
    else none
   else some (.e0 v1 v5)
  else some (.e0 v1 v5)
theorem akt (C6:Pm)(p0:au)(KB:Xd C6)(n:Nat):∀(k:Nat) (v1:Int) (v5:Int) (o:Ig),zE C6 p0 n k v1 v5=some o->X.LF 76 44 5 (sub QN [1,1,1,0,1,0,0]) 1 [(1,aa v1),(2,.pt 0 1 0),(5,aa v5)] [(0,⟨1,(EncX.ae p0).map DV.c⟩)] (akv o) (aku p0 o):=by
 intro k;induction k with
 | zero=>intro _ _ _ h;exact nomatch h
 | succ k ih=>
  intro v1 v5 o h F G s hs
  refine Sys.bj hs (w0 ?_)
  refine wi (5,4) h (fun h0 h=>?_) fun h0 h=>?_
  ·refine wi (5,7) h (fun h1 h=>?_) fun h1 h=>?_
   ·exact wg h fun rJ h2 h=>wx (7,3) h2<|wa (7,4) h2<|wc (7,6) h (fun _=>KB _ _ _) fun x h=>wn (6,1) h fun h4 h=>wN 5 [] (ih x (v5+1) _ h F G)
   ·cases h
    exact wX
  ·cases h
   exact wX
def pX:Nat->au->Int->Option Int
 | 0,_,_=>none
 | n+1,p0,p1=>
  if(p0.mon.size:Int)>200 then
   some (-1)
  else if(p0.name.size:Int)>200 then
   some (-1)
  else if(p0.kids.l.length:Int)>p1 then
   some (-1)
  else if aF (p1 - 1)then(zE (pX n) p0 n n (p1 - 1) 0).bind fun az=>match az with
  | .e0 rH cN=>
   some rH
  else none
theorem akw:∀n:Nat,Xd (pX n):=by
 intro n
 induction n with
 | zero=>
  refine ?_
  ·intro p0 p1 r h;unfold pX at h;cases h
 | succ n ih=>
  have KB:=ih
  refine ?_
  ·intro p0 p1 r h
   unfold pX at h
   refine fC 44 QN ?_
   refine wi (1,3) h (fun h0 h=>?_) fun h0 h=>?_
   ·cases h
    exact wC
   ·refine wi (1,8) h (fun h1 h=>?_) fun h1 h=>?_
    ·cases h
     exact wC
    ·refine wi (1,15) h (fun h2 h=>?_) fun h2 h=>?_
     ·cases h
      exact wC
     ·refine wn (3,1) h fun h3 h=>wg h fun az h4 h=>?_
      have h4:=akt _ _ KB _ _ _ _ _ h4
      cases az with
      | e0 rH cN=>
       refine wO [1,1,1,0,1,0] h4<|?_
       cases h
       exact wC
theorem akx {n:Nat}{p0:au}{p1 r:Int}(h:pX n p0 p1=some r):X.bg 76 [.c (.agg (EncX.ae p0)),aa p1] (aa r):=akw n p0 p1 r h
abbrev DU:=Sl af->Int->Option Int
def Pn (f:DU):Prop:=∀(p0:Sl af) (p1:Int) (r:Int),f p0 p1=some r->X.bg 42 [.c (aq p0),aa p1] (aa r)
inductive Ih where
 | e2 (Wu v6:Int)
def akA:Ih->Ex
 | .e2 _ _=>(.exit 2)
def akz (p0:Sl af)(v5:Int):Ih->(Nat->DV)->List Ob->S
 | .e2 Wu v6,F,G=>⟨fs F [0,1,5,6,65] [(0,.c (aq p0)),(1,aa Wu),(5,aa v5),(6,aa v6),(65,dB false)],⟨sl G 0 [],[]⟩⟩
def zF (od:DU)(p0:Sl af)(v5:Int)(n:Nat):Nat->Int->Int->Option Ih
 | 0,_,_=>none
 | k+1,rG,v6=>
  (aD p0.l v5).bind fun rN=>
  if v6<(rN.blocks.l.length:Int)then
   if rG≥0 then
    (aD rN.blocks.l v6).bind fun nu=>
    if aF (rG - 1)then(od nu (rG - 1)).bind fun aC=>
    if aF (v6+1)then zF od p0 v5 n k aC (v6+1)
    else none
    else none
   else some (.e2 rG v6)
  else some (.e2 rG v6)
theorem aky (od:DU)(p0:Sl af)(v5:Int)(AP:Pn od)(n:Nat):∀(k:Nat) (rG:Int) (v6:Int) (o:Ih),zF od p0 v5 n k rG v6=some o->X.LF 42 80 10 (sub K3 [1,1,0,1,0,0,1,0,0,1,1,1,0,0]) 0 [(0,.c (aq p0)),(1,aa rG),(5,aa v5),(6,aa v6)] [] (akA o) (akz p0 v5 o):=by
 intro k;induction k with
 | zero=>intro _ _ _ h;exact nomatch h
 | succ k ih=>
  intro rG v6 o h F G s hs
  refine Sys.bj hs (w0 ?_)
  refine wg h fun rN h0 h=>wx (10,3) h0<|wl (10,5) 10 h0 rfl<|wi (10,7) h (fun h1 h=>?_) fun h1 h=>?_
  ·refine wi (10,10) h (fun h2 h=>?_) fun h2 h=>?_
   ·exact wx (12,2) h0<|wl (12,4) 10 h0 rfl<|wg h fun nu h3 h=>wx (12,6) h3<|wl (12,7) 0 h3 rfl<|wn (12,9) h fun h4 h=>wc (12,10) h (fun _=>AP _ _ _) fun aC h=>wn (11,1) h fun h6 h=>wN 10 [] (ih aC (v6+1) _ h F G)
   ·cases h
    exact wX
  ·cases h
   exact wX
inductive Ii where
 | r
 | e0 (v1 v5:Int)
def akD:Ii->Ex
 | .r=>.ret
 | .e0 _ _=>(.exit 0)
def akC (p0:Sl af):Ii->(Nat->DV)->List Ob->S
 | .r,F,G=>⟨fs F [4] [(4,aa (-1))],⟨sl G 0 [],[]⟩⟩
 | .e0 v1 v5,F,G=>⟨fs F [0,1,5,18] [(0,.c (aq p0)),(1,aa v1),(5,aa v5),(18,dB false)],⟨sl G 0 [],[]⟩⟩
def zG (od:DU)(p0:Sl af)(n:Nat):Nat->Int->Int->Option Ii
 | 0,_,_=>none
 | k+1,v1,v5=>
  if v5<(p0.l.length:Int)then
   if v1≥0 then
    (aD p0.l v5).bind fun jZ=>
    if(jZ.mon.size:Int)>200 then
     some (.r)
    else if(jZ.name.size:Int)>200 then
     some (.r)
    else if(jZ.blocks.l.length:Int)>40 then
     some (.r)
    else if aF (v1 - 1)then(pX n jZ.e_ (v1 - 1)).bind fun x=>
    (zF od p0 v5 n n x 0).bind fun az=>match az with
    | .e2 rH bX=>
     if aF (v5+1)then zG od p0 n k rH (v5+1)
     else none
    else none
   else some (.e0 v1 v5)
  else some (.e0 v1 v5)
theorem akB (od:DU)(p0:Sl af)(AP:Pn od)(n:Nat):∀(k:Nat) (v1:Int) (v5:Int) (o:Ii),zG od p0 n k v1 v5=some o->X.LF 42 80 4 (sub K3 [1,1,0,1,0,0]) 0 [(0,.c (aq p0)),(1,aa v1),(5,aa v5)] [] (akD o) (akC p0 o):=by
 intro k;induction k with
 | zero=>intro _ _ _ h;exact nomatch h
 | succ k ih=>
  intro v1 v5 o h F G s hs
  refine Sys.bj hs (w0 ?_)
  refine wi (4,3) h (fun h0 h=>?_) fun h0 h=>?_
  ·refine wi (4,6) h (fun h1 h=>?_) fun h1 h=>?_
   ·refine wg h fun jZ h2 h=>wx (6,2) h2<|wl (6,4) 1 h2 rfl<|wi (6,6) h (fun h3 h=>?_) fun h3 h=>?_
    ·cases h
     exact wX
    ·refine wx (6,10) h2<|wl (6,12) 2 h2 rfl<|wi (6,14) h (fun h4 h=>?_) fun h4 h=>?_
     ·cases h
      exact wX
     ·refine wx (6,19) h2<|wl (6,21) 10 h2 rfl<|wi (6,23) h (fun h5 h=>?_) fun h5 h=>?_
      ·cases h
       exact wX
      ·refine wx (8,2) h2<|wt (8,4) (.agg (EncX.ae jZ.e_)) (GV 4 6 (by decide) (bJ h2))<|wn (8,6) h fun h6 h=>wc (8,7) h (fun _=>akx) fun x h=>wg h fun az h8 h=>?_
       have h8:=aky _ _ _ AP _ _ _ _ _ h8
       cases az with
       | e2 rH bX=>
        exact wO [1,0,0,1,1,1,0] h8<|wn (5,1) h fun h9 h=>wN 4 [] (ih rH (v5+1) _ h F G)
   ·cases h
    exact wX
  ·cases h
   exact wX
def mI:Nat->Sl af->Int->Option Int
 | 0,_,_=>none
 | n+1,p0,p1=>
  if(p0.l.length:Int)>p1 then
   some (-1)
  else(zG (mI n) p0 n n p1 0).bind fun aY=>match aY with
  | .r=>
   some (-1)
  | .e0 WD cN=>
   some WD
theorem akE:∀n:Nat,Pn (mI n):=by
 intro n
 induction n with
 | zero=>
  refine ?_
  ·intro p0 p1 r h;unfold mI at h;cases h
 | succ n ih=>
  have AP:=ih
  refine ?_
  ·intro p0 p1 r h
   unfold mI at h
   refine fC 80 K3 ?_
   refine wi (1,3) h (fun h0 h=>?_) fun h0 h=>?_
   ·cases h
    exact wC
   ·refine wg h fun aY h1 h=>?_
    have h1:=akB _ _ AP _ _ _ _ _ h1
    cases aY with
    | r=>
     refine wO [1,1,0,1,0] h1<|?_
     cases h
     exact wC
    | e0 WD cN=>
     refine wO [1,1,0,1,0] h1<|?_
     cases h
     exact wC
theorem Xe {n:Nat}{p0:Sl af}{p1 r:Int}(h:mI n p0 p1=some r):X.bg 42 [.c (aq p0),aa p1] (aa r):=akE n p0 p1 r h
inductive Ik where
 | r
 | e2 (v8:Int)
def akH:Ik->Ex
 | .r=>.ret
 | .e2 _=>(.exit 2)
def akG (bO:aH):Ik->(Nat->DV)->List Ob->S
 | .r,F,G=>⟨fs F [4] [(4,dB false)],⟨sl G 2 [(1,⟨1,(EncX.ae bO).map DV.c⟩)],[]⟩⟩
 | .e2 v8,F,G=>⟨fs F [2,5,6,7,8,54] [(7,.pt 1 1 0),(8,aa v8),(54,dB false)],⟨sl G 2 [(1,⟨1,(EncX.ae bO).map DV.c⟩)],[]⟩⟩
def zH (bO:aH)(n:Nat):Nat->Int->Option Ik
 | 0,_=>none
 | k+1,v8=>
  if v8<(bO.vars.l.length:Int)then
   (aD bO.vars.l v8).bind fun WS=>
   if(WS.name.size:Int)>200 then
    some (.r)
   else if aF (v8+1)then zH bO n k (v8+1)
   else none
  else some (.e2 v8)
theorem akF (bO:aH)(n:Nat):∀(k:Nat) (v8:Int) (o:Ik),zH bO n k v8=some o->X.LF 14 113 11 (sub AY [1,1,1,0,1,0,0,1,0,0,1,1,0,1,0,0]) 2 [(7,.pt 1 1 0),(8,aa v8)] [(1,⟨1,(EncX.ae bO).map DV.c⟩)] (akH o) (akG bO o):=by
 intro k;induction k with
 | zero=>intro _ _ h;exact nomatch h
 | succ k ih=>
  intro v8 o h F G s hs
  refine Sys.bj hs (w0 ?_)
  refine wi (11,4) h (fun h0 h=>?_) fun h0 h=>?_
  ·refine wg h fun WS h1 h=>wx (13,3) h1<|wl (13,5) 0 h1 rfl<|wi (13,7) h (fun h2 h=>?_) fun h2 h=>?_
   ·cases h
    exact wX
   ·exact wn (12,1) h fun h3 h=>wN 11 [] (ih (v8+1) _ h F G)
  ·cases h
   exact wX
inductive Il where
 | r
 | e4 (oB v9:Int)
def akK:Il->Ex
 | .r=>.ret
 | .e4 _ _=>(.exit 4)
def akJ (bO:aH):Il->(Nat->DV)->List Ob->S
 | .r,F,G=>⟨fs F [4] [(4,dB false)],⟨sl G 2 [(1,⟨1,(EncX.ae bO).map DV.c⟩)],[]⟩⟩
 | .e4 oB v9,F,G=>⟨fs F [2,5,6,7,9,69] [(5,aa oB),(7,.pt 1 1 0),(9,aa v9),(69,dB false)],⟨sl G 2 [(1,⟨1,(EncX.ae bO).map DV.c⟩)],[]⟩⟩
def zI (bO:aH)(n:Nat):Nat->Int->Int->Option Il
 | 0,_,_=>none
 | k+1,zo,v9=>
  if v9<(bO.methods.l.length:Int)then
   (aD bO.methods.l v9).bind fun v75=>
   if(v75.name.size:Int)>200 then
    some (.r)
   else(mI n v75.body zo).bind fun x=>
   if aF (v9+1)then zI bO n k x (v9+1)
   else none
  else some (.e4 zo v9)
theorem akI (bO:aH)(n:Nat):∀(k:Nat) (zo:Int) (v9:Int) (o:Il),zI bO n k zo v9=some o->X.LF 14 113 16 (sub AY [1,1,1,0,1,0,0,1,0,0,1,1,1,1,0,0]) 2 [(5,aa zo),(7,.pt 1 1 0),(9,aa v9)] [(1,⟨1,(EncX.ae bO).map DV.c⟩)] (akK o) (akJ bO o):=by
 intro k;induction k with
 | zero=>intro _ _ _ h;exact nomatch h
 | succ k ih=>
  intro zo v9 o h F G s hs
  refine Sys.bj hs (w0 ?_)
  refine wi (16,4) h (fun h0 h=>?_) fun h0 h=>?_
  ·refine wg h fun v75 h1 h=>wx (18,3) h1<|wl (18,5) 0 h1 rfl<|wi (18,7) h (fun h2 h=>?_) fun h2 h=>?_
   ·cases h
    exact wX
   ·exact wx (20,3) h1<|wl (20,5) 1 h1 rfl<|wc (20,7) h (fun _=>Xe) fun x h=>wn (17,1) h fun h4 h=>wN 16 [] (ih x (v9+1) _ h F G)
  ·cases h
   exact wX
inductive Io where
 | r (o1:aH)
 | e0 (v5 v6:Int)
def akQ:Io->Ex
 | .r _=>.ret
 | .e0 _ _=>(.exit 0)
def akP (p0:aj):Io->S
 | .r o1=>⟨fl [(4,dB false)],⟨[⟨1,(EncX.ae p0).map DV.c⟩,⟨1,(EncX.ae o1).map DV.c⟩],[]⟩⟩
 | .e0 v5 v6=>⟨fl [(2,.pt 0 1 0),(5,aa v5),(6,aa v6),(26,dB false)],⟨[⟨1,(EncX.ae p0).map DV.c⟩],[]⟩⟩
def zK (p0:aj)(n:Nat):Nat->Int->Int->Option Io
 | 0,_,_=>none
 | k+1,v5,v6=>
  if v6<(p0.aw.l.length:Int)then
   (aD p0.aw.l v6).bind fun bO=>
   if(bO.vars.l.length:Int)>40 then
    some (.r bO)
   else if(bO.methods.l.length:Int)>40 then
    some (.r bO)
   else if(bO.name.size:Int)>200 then
    some (.r bO)
   else(zH bO n n 0).bind fun az=>match az with
   | .r=>
    some (.r bO)
   | .e2 dC=>
    (zI bO n n v5 0).bind fun aY=>match aY with
    | .r=>
     some (.r bO)
    | .e4 cN gB=>
     if aF (v6+1)then zK p0 n k cN (v6+1)
     else none
  else some (.e0 v5 v6)
theorem akO (p0:aj)(n:Nat):∀(k:Nat) (v5:Int) (v6:Int) (o:Io),zK p0 n k v5 v6=some o->X.LH 14 113 5 (sub AY [1,1,1,0,1,0,0]) 1 ⟨fl [(2,.pt 0 1 0),(5,aa v5),(6,aa v6)],⟨[⟨1,(EncX.ae p0).map DV.c⟩],[]⟩⟩ (akQ o) (akP p0 o):=by
 intro k;induction k with
 | zero=>intro _ _ _ h;exact nomatch h
 | succ k ih=>
  intro v5 v6 o h s hs
  refine Sys.bj hs (w0 ?_)
  refine wi (5,4) h (fun h0 h=>?_) fun h0 h=>?_
  ·refine wg h fun bO h1 h=>wx (7,3) h1<|wa (7,4) h1<|wi (8,3) h (fun h2 h=>?_) fun h2 h=>?_
   ·cases h
    exact wX
   ·refine wi (8,8) h (fun h3 h=>?_) fun h3 h=>?_
    ·cases h
     exact wX
    ·refine wi (8,14) h (fun h4 h=>?_) fun h4 h=>?_
     ·cases h
      exact wX
     ·refine wg h fun az h5 h=>?_
      have h5:=akF _ _ _ _ _ h5
      cases az with
      | r=>
       refine wO [1,0,0,1,1,0,1,0] h5<|?_
       cases h
       exact wX
      | e2 dC=>
       refine wO [1,0,0,1,1,0,1,0] h5<|wg h fun aY h6 h=>?_
       have h6:=akI _ _ _ _ _ _ h6
       cases aY with
       | r=>
        refine wO [1,0,0,1,1,1,1,0] h6<|?_
        cases h
        exact wX
       | e4 cN gB=>
        exact wO [1,0,0,1,1,1,1,0] h6<|wn (6,1) h fun h7 h=>wN 5 [] (ih cN (v6+1) _ h)
  ·cases h
   exact wX
inductive Im where
 | r
 | e6 (v5 v10:Int)
def akN:Im->Ex
 | .r=>.ret
 | .e6 _ _=>(.exit 6)
def akM (p0:aj):Im->(Nat->DV)->List Ob->S
 | .r,F,G=>⟨fs F [4] [(4,dB false)],⟨sl G 1 [(0,⟨1,(EncX.ae p0).map DV.c⟩)],[]⟩⟩
 | .e6 v5 v10,F,G=>⟨fs F [2,5,10,92] [(2,.pt 0 1 0),(5,aa v5),(10,aa v10),(92,dB false)],⟨sl G 1 [(0,⟨1,(EncX.ae p0).map DV.c⟩)],[]⟩⟩
def zJ (p0:aj)(n:Nat):Nat->Int->Int->Option Im
 | 0,_,_=>none
 | k+1,zp,v10=>
  if v10<(p0.aR.l.length:Int)then
   (aD p0.aR.l v10).bind fun Pb=>
   if(Pb.name.size:Int)>200 then
    some (.r)
   else(mI n Pb.body zp).bind fun aC=>
   if aF (v10+1)then zJ p0 n k aC (v10+1)
   else none
  else some (.e6 zp v10)
theorem akL (p0:aj)(n:Nat):∀(k:Nat) (zp:Int) (v10:Int) (o:Im),zJ p0 n k zp v10=some o->X.LF 14 113 22 (sub AY [1,1,1,1,0,1,0,0]) 1 [(2,.pt 0 1 0),(5,aa zp),(10,aa v10)] [(0,⟨1,(EncX.ae p0).map DV.c⟩)] (akN o) (akM p0 o):=by
 intro k;induction k with
 | zero=>intro _ _ _ h;exact nomatch h
 | succ k ih=>
  intro zp v10 o h F G s hs
  refine Sys.bj hs (w0 ?_)
  refine wi (22,4) h (fun h0 h=>?_) fun h0 h=>?_
  ·refine wg h fun Pb h1 h=>wx (24,3) h1<|wl (24,5) 0 h1 rfl<|wi (24,7) h (fun h2 h=>?_) fun h2 h=>?_
   ·cases h
    exact wX
   ·exact wx (26,3) h1<|wl (26,5) 3 h1 rfl<|wc (26,7) h (fun _=>Xe) fun aC h=>wn (23,1) h fun h4 h=>wN 22 [] (ih aC (v10+1) _ h F G)
  ·cases h
   exact wX
def Ij (n:Nat)(p0:aj)(p1:Int):Option Bool:=
 if(p0.aw.l.length:Int)>20 then
  some false
 else if(p0.aR.l.length:Int)>20 then
  some false
 else(zK p0 n n p1 0).bind fun bD=>match bD with
 | .r o1=>
  some false
 | .e0 db bX=>
  (zJ p0 n n db 0).bind fun c9=>match c9 with
  | .r=>
   some false
  | .e6 mF cB=>
   if mF≥0 then
    some true
   else some false
theorem akR {n:Nat}{p0:aj}{p1:Int}{r:Bool}(h:Ij n p0 p1=some r):X.bg 14 [.c (.agg (EncX.ae p0)),aa p1] (dB r):=by
 refine fC 113 AY ?_
 refine wi (1,3) h (fun h0 h=>?_) fun h0 h=>?_
 ·cases h
  exact wC
 ·refine wi (1,8) h (fun h1 h=>?_) fun h1 h=>?_
  ·cases h
   exact wC
  ·refine wg h fun bD h2 h=>?_
   have h2:=akO _ _ _ _ _ _ h2
   cases bD with
   | r o1=>
    refine wo [1,1,1,0,1,0] h2<|?_
    cases h
    exact wC
   | e0 db bX=>
    refine wo [1,1,1,0,1,0] h2<|wg h fun c9 h3 h=>?_
    have h3:=akL _ _ _ _ _ _ h3
    cases c9 with
    | r=>
     refine wO [1,1,1,1,0,1,0] h3<|?_
     cases h
     exact wC
    | e6 mF cB=>
     refine wO [1,1,1,1,0,1,0] h3<|wi (27,1) h (fun h4 h=>?_) fun h4 h=>?_
     ·cases h
      exact wC
     ·cases h
      exact wC
def DR (n:Nat)(p0:Int):Option Bool:=
 if p0≥97 then
  if p0≤122 then
   some true
  else if p0≥65 then
   if p0≤90 then
    some true
   else some false
  else some false
 else if p0≥65 then
  if p0≤90 then
   some true
  else some false
 else some false
theorem W8 {n:Nat}{p0:Int}{r:Bool}(h:DR n p0=some r):X.bg 159 [.c (.sc (.int .u8 p0))] (dB r):=by
 refine fC 17 Y7 ?_
 refine wi (1,1) h (fun h0 h=>?_) fun h0 h=>?_
 ·refine wi (1,4) h (fun h1 h=>?_) fun h1 h=>?_
  ·cases h
   exact wC
  ·refine wi (1,8) h (fun h2 h=>?_) fun h2 h=>?_
   ·refine wi (1,11) h (fun h3 h=>?_) fun h3 h=>?_
    ·cases h
     exact wC
    ·cases h
     exact wC
   ·cases h
    exact wC
 ·refine wi (1,8) h (fun h1 h=>?_) fun h1 h=>?_
  ·refine wi (1,11) h (fun h2 h=>?_) fun h2 h=>?_
   ·cases h
    exact wC
   ·cases h
    exact wC
  ·cases h
   exact wC
def H2 (n:Nat)(p0:Int):Option Bool:=
 if p0≥48 then
  if p0≤57 then
   some true
  else some false
 else some false
theorem aj0 {n:Nat}{p0:Int}{r:Bool}(h:H2 n p0=some r):X.bg 160 [.c (.sc (.int .u8 p0))] (dB r):=by
 refine fC 9 Y9 ?_
 refine wi (1,1) h (fun h0 h=>?_) fun h0 h=>?_
 ·refine wi (1,4) h (fun h1 h=>?_) fun h1 h=>?_
  ·cases h
   exact wC
  ·cases h
   exact wC
 ·cases h
  exact wC
def zz (n:Nat):Option (Sl ByteArray):=
 some (⟨false,true,([(⟨#[109,111,110,105,116,111,114]⟩:ByteArray),(⟨#[118,97,114]⟩:ByteArray),(⟨#[109,101,116,104,111,100]⟩:ByteArray),(⟨#[116,104,114,101,97,100]⟩:ByteArray),(⟨#[98,111,111,108]⟩:ByteArray),(⟨#[105,110,116]⟩:ByteArray),(⟨#[116,114,117,101]⟩:ByteArray),(⟨#[102,97,108,115,101]⟩:ByteArray),(⟨#[115,107,105,112]⟩:ByteArray),(⟨#[105,102]⟩:ByteArray),(⟨#[101,108,115,101]⟩:ByteArray),(⟨#[119,104,105,108,101]⟩:ByteArray),(⟨#[108,111,111,112]⟩:ByteArray),(⟨#[99,104,111,111,115,101]⟩:ByteArray),(⟨#[111,114]⟩:ByteArray),(⟨#[115,121,110,99]⟩:ByteArray),(⟨#[99,97,108,108]⟩:ByteArray),(⟨#[119,97,105,116]⟩:ByteArray),(⟨#[110,111,116,105,102,121]⟩:ByteArray),(⟨#[110,111,116,105,102,121,97,108,108]⟩:ByteArray)]:List ByteArray)⟩:Sl ByteArray)
theorem ajZ {n:Nat}{r:Sl ByteArray}(h:zz n=some r):X.bg 177 [] (.c (aq r)):=by
 refine fC 2 Zl ?_
 cases h
 exact lL (d':=.c (.sl false true (fD ([(⟨#[109,111,110,105,116,111,114]⟩:ByteArray),(⟨#[118,97,114]⟩:ByteArray),(⟨#[109,101,116,104,111,100]⟩:ByteArray),(⟨#[116,104,114,101,97,100]⟩:ByteArray),(⟨#[98,111,111,108]⟩:ByteArray),(⟨#[105,110,116]⟩:ByteArray),(⟨#[116,114,117,101]⟩:ByteArray),(⟨#[102,97,108,115,101]⟩:ByteArray),(⟨#[115,107,105,112]⟩:ByteArray),(⟨#[105,102]⟩:ByteArray),(⟨#[101,108,115,101]⟩:ByteArray),(⟨#[119,104,105,108,101]⟩:ByteArray),(⟨#[108,111,111,112]⟩:ByteArray),(⟨#[99,104,111,111,115,101]⟩:ByteArray),(⟨#[111,114]⟩:ByteArray),(⟨#[115,121,110,99]⟩:ByteArray),(⟨#[99,97,108,108]⟩:ByteArray),(⟨#[119,97,105,116]⟩:ByteArray),(⟨#[110,111,116,105,102,121]⟩:ByteArray),(⟨#[110,111,116,105,102,121,97,108,108]⟩:ByteArray)]:List ByteArray)) 20)) (by simp only[iH];rfl)
inductive H0 where
 | r
 | e0 (v4:Int)
def ajX:H0->Ex
 | .r=>.ret
 | .e0 _=>(.exit 0)
def ajW (p0:ByteArray)(x:Sl ByteArray):H0->(Nat->DV)->List Ob->S
 | .r,F,G=>⟨fs F [2] [(2,dB true)],⟨sl G 0 [],[]⟩⟩
 | .e0 v4,F,G=>⟨fs F [0,3,4,9] [(0,.c (.sc (.string p0))),(3,.c (aq x)),(4,aa v4),(9,dB false)],⟨sl G 0 [],[]⟩⟩
def tX (p0:ByteArray)(x:Sl ByteArray)(n:Nat):Nat->Int->Option H0
 | 0,_=>none
 | k+1,v4=>
  if v4<(x.l.length:Int)then
   (aD x.l v4).bind fun bq=>
   if bq=p0 then
    some (.r)
   else if aF (v4+1)then tX p0 x n k (v4+1)
   else none
  else some (.e0 v4)
theorem ajV (p0:ByteArray)(x:Sl ByteArray)(n:Nat):∀(k:Nat) (v4:Int) (o:H0),tX p0 x n k v4=some o->X.LF 161 18 3 (sub QB [1,1,0,1,0,0]) 0 [(0,.c (.sc (.string p0))),(3,.c (aq x)),(4,aa v4)] [] (ajX o) (ajW p0 x o):=by
 intro k;induction k with
 | zero=>intro _ _ h;exact nomatch h
 | succ k ih=>
  intro v4 o h F G s hs
  refine Sys.bj hs (w0 ?_)
  refine wi (3,3) h (fun h0 h=>?_) fun h0 h=>?_
  ·refine wg h fun bq h1 h=>wx (5,2) h1<|wl (5,3) 0 h1 rfl<|wI h (fun h2 h=>?_) fun h2 h=>?_
   ·refine wt (5,5) (.op { d:=dB true}) (dM h2)<|?_
    cases h
    exact wX
   ·exact wt (5,5) (.op { d:=dB false}) (dL h2)<|wn (4,1) h fun h3 h=>wN 3 [] (ih (v4+1) _ h F G)
  ·cases h
   exact wX
def HZ (n:Nat)(p0:ByteArray):Option Bool:=
 (zz n).bind fun x=>
 (tX p0 x n n 0).bind fun az=>match az with
 | .r=>
  some true
 | .e0 dU=>
  some false
theorem ajY {n:Nat}{p0:ByteArray}{r:Bool}(h:HZ n p0=some r):X.bg 161 [.c (.sc (.string p0))] (dB r):=by
 refine fC 18 QB ?_
 refine wc (1,0) h (fun _=>ajZ) fun x h=>wg h fun az h1 h=>?_
 have h1:=ajV _ _ _ _ _ _ h1
 cases az with
 | r=>
  refine wO [1,1,0,1,0] h1<|?_
  cases h
  exact wC
 | e0 dU=>
  refine wO [1,1,0,1,0] h1<|?_
  cases h
  exact wC
inductive zy where
 | r
 | e0 (v3:Int)
def ajU:zy->Ex
 | .r=>.ret
 | .e0 _=>(.exit 0)
def ajT (p0:ByteArray):zy->(Nat->DV)->List Ob->S
 | .r,F,G=>⟨fs F [2] [(2,dB false)],⟨sl G 0 [],[]⟩⟩
 | .e0 v3,F,G=>⟨fs F [0,3,21] [(0,.c (.sc (.string p0))),(3,aa v3),(21,dB false)],⟨sl G 0 [],[]⟩⟩
def pV (p0:ByteArray)(n:Nat):Nat->Int->Option zy
 | 0,_=>none
 | k+1,v3=>
  if v3<(p0.size:Int)then
   (lR p0 v3).bind fun dP=>
   (DR n dP).bind fun aC=>
   bif aC then
    if aF (v3+1)then pV p0 n k (v3+1)
    else none
   else(lR p0 v3).bind fun bO=>
   (H2 n bO).bind fun av=>
   bif av then
    if aF (v3+1)then pV p0 n k (v3+1)
    else none
   else(lR p0 v3).bind fun rJ=>
   if rJ≠95 then
    some (.r)
   else if aF (v3+1)then pV p0 n k (v3+1)
   else none
  else some (.e0 v3)
theorem ajS (p0:ByteArray)(n:Nat):∀(k:Nat) (v3:Int) (o:zy),pV p0 n k v3=some o->X.LF 127 45 4 (sub Qu [1,1,0,1,0,0]) 0 [(0,.c (.sc (.string p0))),(3,aa v3)] [] (ajU o) (ajT p0 o):=by
 intro k;induction k with
 | zero=>intro _ _ h;exact nomatch h
 | succ k ih=>
  intro v3 o h F G s hs
  refine Sys.bj hs (w0 ?_)
  refine wi (4,3) h (fun h0 h=>?_) fun h0 h=>?_
  ·refine wg h fun dP h1 h=>wt (6,2) (.op { d:=.c (.sc (.int .u8 dP))}) (xH h1)<|wc (6,3) h (fun _=>W8) fun aC h=>?_
   cases aC
   ·refine wg h fun bO h4 h=>wt (6,8) (.op { d:=.c (.sc (.int .u8 bO))}) (xH h4)<|wc (6,9) h (fun _=>aj0) fun av h=>?_
    cases av
    ·refine wg h fun rJ h7 h=>wt (6,15) (.op { d:=.c (.sc (.int .u8 rJ))}) (xH h7)<|wi (6,16) h (fun h8 h=>?_) fun h8 h=>?_
     ·cases h
      exact wX
     ·exact wn (5,1) h fun h9 h=>wN 4 [] (ih (v3+1) _ h F G)
    ·exact wn (5,1) h fun h7 h=>wN 4 [] (ih (v3+1) _ h F G)
   ·exact wn (5,1) h fun h4 h=>wN 4 [] (ih (v3+1) _ h F G)
  ·cases h
   exact wX
def mH (n:Nat)(p0:ByteArray):Option Bool:=
 if(p0.size:Int)<1 then
  some false
 else if(p0.size:Int)>32 then
  some false
 else(lR p0 0).bind fun bq=>
 (DR n bq).bind fun x=>
 bif x then
  (pV p0 n n 0).bind fun az=>match az with
  | .r=>
   some false
  | .e0 c7=>
   (HZ n p0).bind fun aK=>
   bif aK then
    some false
   else some true
 else some false
theorem pW {n:Nat}{p0:ByteArray}{r:Bool}(h:mH n p0=some r):X.bg 127 [.c (.sc (.string p0))] (dB r):=by
 refine fC 45 Qu ?_
 refine wi (1,2) h (fun h0 h=>?_) fun h0 h=>?_
 ·cases h
  exact wC
 ·refine wi (1,6) h (fun h1 h=>?_) fun h1 h=>?_
  ·cases h
   exact wC
  ·refine wg h fun bq h2 h=>wt (1,10) (.op { d:=.c (.sc (.int .u8 bq))}) (xH h2)<|wc (1,11) h (fun _=>W8) fun x h=>?_
   cases x
   ·cases h
    exact wC
   ·refine wg h fun az h5 h=>?_
    have h5:=ajS _ _ _ _ _ h5
    cases az with
    | r=>
     refine wO [1,1,0,1,0] h5<|?_
     cases h
     exact wC
    | e0 c7=>
     refine wO [1,1,0,1,0] h5<|wc (8,1) h (fun _=>ajY) fun aK h=>?_
     cases aK
     ·cases h
      exact wC
     ·cases h
      exact wC
def Ir (n:Nat)(p0:bI):Option Bool:=
 (mH n p0.name).bind fun x=>
 bif x then
  if p0.lo=(-9223372036854775808)then
   some false
  else if p0.hi=(-9223372036854775808)then
   some false
  else if p0.init=(-9223372036854775808)then
   some false
  else if p0.type=1 then
   if p0.lo=0 then
    if p0.hi=0 then
     if p0.init=0 then
      some true
     else if p0.init=1 then
      some true
     else some false
    else some false
   else some false
  else if p0.type=2 then
   if p0.lo=0 then
    if p0.hi=0 then
     some true
    else some false
   else some false
  else if p0.type=3 then
   if p0.lo≤p0.hi then
    some true
   else some false
  else some false
 else some false
theorem akU {n:Nat}{p0:bI}{r:Bool}(h:Ir n p0=some r):X.bg 164 [.c (.agg (EncX.ae p0))] (dB r):=by
 refine fC 68 Za ?_
 refine wc (2,2) h (fun _=>pW) fun x h=>?_
 cases x
 ·cases h
  exact wC
 ·refine wi (2,8) h (fun h2 h=>?_) fun h2 h=>?_
  ·cases h
   exact wC
  ·refine wi (2,14) h (fun h3 h=>?_) fun h3 h=>?_
   ·cases h
    exact wC
   ·refine wi (2,20) h (fun h4 h=>?_) fun h4 h=>?_
    ·cases h
     exact wC
    ·refine wi (5,0) h (fun h5 h=>?_) fun h5 h=>?_
     ·refine wi (6,2) h (fun h6 h=>?_) fun h6 h=>?_
      ·refine wi (6,6) h (fun h7 h=>?_) fun h7 h=>?_
       ·refine wi (6,11) h (fun h8 h=>?_) fun h8 h=>?_
        ·cases h
         exact wC
        ·refine wi (6,15) h (fun h9 h=>?_) fun h9 h=>?_
         ·cases h
          exact wC
         ·cases h
          exact wC
       ·cases h
        exact wC
      ·cases h
       exact wC
     ·refine wi (7,0) h (fun h6 h=>?_) fun h6 h=>?_
      ·refine wi (8,2) h (fun h7 h=>?_) fun h7 h=>?_
       ·refine wi (8,6) h (fun h8 h=>?_) fun h8 h=>?_
        ·cases h
         exact wC
        ·cases h
         exact wC
       ·cases h
        exact wC
      ·refine wi (9,2) h (fun h7 h=>?_) fun h7 h=>?_
       ·refine wi (9,8) h (fun h8 h=>?_) fun h8 h=>?_
        ·cases h
         exact wC
        ·cases h
         exact wC
       ·cases h
        exact wC
end Go.Vig
