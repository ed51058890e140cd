/-
  Part of the proof: printed by the session's own program out of the program's form, or typed; it states no claim by itself.
-/
import Derived.Test.YtpadajnejknkeaaGreatFj
import Derived.Test.YtpadajnejknkeaaGreatLays
import Derived.Test.YtpadajnejknkeaaGreatBl
set_option linter.unusedVariables false
set_option linter.unusedSimpArgs false
set_option maxRecDepth 100000
set_option maxHeartbeats 1000000
namespace Go.Vig
open Go Go.Abs Go.Proofs
variable [Kn]
def W7 (n:Nat):Option aj:=
 some ({ aw:=(⟨false,true,([({ name:=(⟨#[97]⟩:ByteArray)}:aH)]:List aH)⟩:Sl aH),aR:=(⟨false,true,([({ name:=(⟨#[114]⟩:ByteArray),count:=2,body:=(⟨false,true,([({ kind:=7,mon:=(⟨#[97]⟩:ByteArray),blocks:=(⟨false,true,([(⟨false,true,([({ kind:=9,mon:=(⟨#[97]⟩:ByteArray),n_:=1}:af)]:List af)⟩:Sl af)]:List (Sl af))⟩:Sl (Sl af))}:af)]:List af)⟩:Sl af)}:aO)]:List aO)⟩:Sl aO)}:aj)
theorem ajR {n:Nat}{r:aj}(h:W7 n=some r):X.bg 27 [] (.c (.agg (EncX.ae r))):=by
 refine fC 11 Zq ?_
 cases h
 exact lL (d':=.c (.agg [.sl false true (fD ([({ name:=(⟨#[97]⟩:ByteArray)}:aH)]:List aH)) 1,.sl false true (fD ([({ name:=(⟨#[114]⟩:ByteArray),count:=2,body:=(⟨false,true,([({ kind:=7,mon:=(⟨#[97]⟩:ByteArray),blocks:=(⟨false,true,([(⟨false,true,([({ kind:=9,mon:=(⟨#[97]⟩:ByteArray),n_:=1}:af)]:List af)⟩:Sl af)]:List (Sl af))⟩:Sl (Sl af))}:af)]:List af)⟩:Sl af)}:aO)]:List aO)) 1])) (by simp only[iH];rfl)
def Oi (n:Nat)(p0:aT)(p1:bo)(p2:Int):Option Bool:=
 (xk n p0 p1).bind fun x=>
 if x=0 then
  (zc n p0 p1 p2).bind fun aC=>
  some aC
 else some false
theorem Vx {n:Nat}{p0:aT}{p1:bo}{p2:Int}{r:Bool}(h:Oi n p0 p1 p2=some r):X.bg 16 [.c (.agg (EncX.ae p0)),.c (.agg (EncX.ae p1)),aa p2] (dB r):=by
 refine fC 17 Y8 ?_
 refine wc (1,2) h (fun _=>Kf) fun x h=>wi (1,3) h (fun h1 h=>?_) fun h1 h=>?_
 ·refine wc (1,8) h (fun _=>Om) fun aC h=>?_
  cases h
  exact wC
 ·cases h
  exact wC
def Vz (n:Nat)(p0:aT)(p1:bo)(p2:Int):Option (List Int):=
 (xk n p0 p1).bind fun x=>
 if x≠0 then
  some ([]:List Int)
 else(Dq n p0 p1 p2).bind fun aC=>
 some aC
theorem ahb {n:Nat}{p0:aT}{p1:bo}{p2:Int}{r:List Int}(h:Vz n p0 p1 p2=some r):X.bg 19 [.c (.agg (EncX.ae p0)),.c (.agg (EncX.ae p1)),aa p2] (aP r):=by
 refine fC 15 Zp ?_
 refine wc (1,2) h (fun _=>Kf) fun x h=>wi (1,3) h (fun h1 h=>?_) fun h1 h=>?_
 ·cases h
  exact wC
 ·refine wc (3,3) h (fun _=>VP) fun aC h=>?_
  cases h
  exact wC
inductive G3 where
 | e2 (WL:List bT) (dP:Int)
def ag9:G3->Ex
 | .e2 _ _=>(.exit 2)
def ag8 (bq av:Int):G3->(Nat->DV)->List Ob->S
 | .e2 WL dP,F,G=>⟨fs F [2,3,4,5,13,14,25,26,27] [(4,aP WL),(5,aa bq),(25,aa av),(26,aa dP),(27,dB false)],⟨sl G 2 [],[]⟩⟩
def Ol (bq av:Int)(n:Nat):Nat->List bT->Int->Option G3
 | 0,_,_=>none
 | k+1,j0,dP=>
  if dP<av then
   if Room 24 (j0++([({ cZ:=bq,draw:=dP}:bT)]:List bT)).length then if aF (dP+1)then Ol bq av n k (j0++([({ cZ:=bq,draw:=dP}:bT)]:List bT)) (dP+1)
   else none
   else none
  else some (.e2 j0 dP)
theorem ag7 (bq av:Int)(n:Nat):∀(k:Nat) (j0:List bT) (dP:Int) (o:G3),Ol bq av n k j0 dP=some o->X.LF 22 38 8 (sub K1 [1,1,0,1,0,0,1,1,0,0,1,1,1,0,0]) 2 [(4,aP j0),(5,aa bq),(25,aa av),(26,aa dP)] [] (ag9 o) (ag8 bq av o):=by
 intro k;induction k with
 | zero=>intro _ _ _ h;exact nomatch h
 | succ k ih=>
  intro j0 dP o h F G s hs
  refine Sys.bj hs (w0 ?_)
  refine wi (8,0) h (fun h0 h=>?_) fun h0 h=>?_
  ·exact wq h fun h1 h=>dG (10,5) h1<|wn (11,0) h fun h2 h=>wN 8 [] (ih (j0++([({ cZ:=bq,draw:=dP}:bT)]:List bT)) (dP+1) _ h F G)
  ·cases h
   exact wX
inductive G2 where
 | e0 (v4:List bT) (bq:Int)
def ag6:G2->Ex
 | .e0 _ _=>(.exit 0)
def ag5 (p0:aT)(p1:bo):G2->(Nat->DV)->List Ob->S
 | .e0 v4 bq,F,G=>⟨fs F [2,3,4,13,14,15] [(2,.pt 0 1 0),(3,.pt 1 1 0),(4,aP v4),(13,aa (p1.threads.l.length:Int)),(14,aa bq),(15,dB false)],⟨sl G 2 [(0,⟨1,(EncX.ae p0).map DV.c⟩),(1,⟨1,(EncX.ae p1).map DV.c⟩)],[]⟩⟩
def G1 (p0:aT)(p1:bo)(n:Nat):Nat->List bT->Int->Option G2
 | 0,_,_=>none
 | k+1,v4,bq=>
  if bq<(p1.threads.l.length:Int)then
   (zc n p0 p1 bq).bind fun aC=>
   bif aC then
    (Dl n p0 p1 bq).bind fun av=>
    (Ol bq av n n v4 0).bind fun az=>match az with
    | .e2 dU O0=>
     if aF (bq+1)then G1 p0 p1 n k dU (bq+1)
     else none
   else if aF (bq+1)then G1 p0 p1 n k v4 (bq+1)
   else none
  else some (.e0 v4 bq)
theorem ag4 (p0:aT)(p1:bo)(n:Nat):∀(k:Nat) (v4:List bT) (bq:Int) (o:G2),G1 p0 p1 n k v4 bq=some o->X.LF 22 38 4 (sub K1 [1,1,0,1,0,0]) 2 [(2,.pt 0 1 0),(3,.pt 1 1 0),(4,aP v4),(13,aa (p1.threads.l.length:Int)),(14,aa bq)] [(0,⟨1,(EncX.ae p0).map DV.c⟩),(1,⟨1,(EncX.ae p1).map DV.c⟩)] (ag6 o) (ag5 p0 p1 o):=by
 intro k;induction k with
 | zero=>intro _ _ _ h;exact nomatch h
 | succ k ih=>
  intro v4 bq o h F G s hs
  refine Sys.bj hs (w0 ?_)
  refine wi (4,0) h (fun h0 h=>?_) fun h0 h=>?_
  ·refine wc (6,3) h (fun _=>Om) fun aC h=>?_
   cases aC
   ·exact wn (12,0) h fun h3 h=>wN 4 [] (ih v4 (bq+1) _ h F G)
   ·refine wc (7,3) h (fun _=>VA) fun av h=>wg h fun az h4 h=>?_
    have h4:=ag7 _ _ _ _ _ _ _ h4
    cases az with
    | e2 dU O0=>
     exact wO [1,1,0,0,1,1,1,0] h4<|wn (12,0) h fun h5 h=>wN 4 [] (ih dU (bq+1) _ h F G)
  ·cases h
   exact wX
def Vy (n:Nat)(p0:aT)(p1:bo):Option (List bT):=
 (xk n p0 p1).bind fun x=>
 if x≠0 then
  some ([]:List bT)
 else(G1 p0 p1 n n ([]:List bT) 0).bind fun aY=>match aY with
 | .e0 dR OY=>
  some dR
theorem aha {n:Nat}{p0:aT}{p1:bo}{r:List bT}(h:Vy n p0 p1=some r):X.bg 22 [.c (.agg (EncX.ae p0)),.c (.agg (EncX.ae p1))] (aP r):=by
 refine fC 38 K1 ?_
 refine wc (1,2) h (fun _=>Kf) fun x h=>wi (1,3) h (fun h1 h=>?_) fun h1 h=>?_
 ·cases h
  exact wC
 ·refine wg h fun aY h2 h=>?_
  have h2:=ag4 _ _ _ _ _ _ _ h2
  cases aY with
  | e0 dR OY=>
   refine wO [1,1,0,1,0] h2<|?_
   cases h
   exact wC
def W6 (n:Nat):Option Bool:=
 (W7 n).bind fun x=>
 (Ec n x).bind fun(aC,av,aK)=>
 (Eb n aC (Sl.nil:Sl Int)).bind fun(aG,ba)=>
 (tJ n aC aG ({}:bT)).bind fun(ca,cm,dV)=>
 (tJ n aC ca ({}:bT)).bind fun(eS,iY,ku)=>
 (tJ n aC eS ({ kind:=2}:bT)).bind fun(iB,iZ,ny)=>
 (tJ n aC ca ({ cZ:=1}:bT)).bind fun(oG,PU,Ej)=>
 (wH n dV).bind fun uj=>
 (wH n ku).bind fun rW=>
 if aF (uj+rW)then(wH n ny).bind fun Ek=>
 if aF ((uj+rW)+Ek)then if((uj+rW)+Ek)=0 then
  if cm.jx=0 then
   if(ca.aZ.l.length:Int)=1 then
    (aD ca.aZ.l 0).bind fun tT=>
    if tT=({ depth:=1}:aE)then
     (wH n Ej).bind fun kZ=>
     if kZ=150 then
      (Oi n aC aG 1).bind fun PV=>
      bif PV then
       (Oi n aC ca 1).bind fun PW=>
       bif PW then
        some false
       else(Vz n aC eS 0).bind fun XP=>
       if(XP.length:Int)=1 then
        if iZ.jx=(-1)then
         if(iZ.jt.l.length:Int)=1 then
          if(iB.threads.l.length:Int)=2 then
           (aD iB.threads.l 0).bind fun DB=>
           if DB.state=2 then
            (Vy n aC aG).bind fun XQ=>
            if(XQ.length:Int)=2 then
             some true
            else some false
           else some false
          else some false
         else some false
        else some false
       else some false
      else some false
     else some false
    else some false
   else some false
  else some false
 else some false
 else none
 else none
theorem ajQ {n:Nat}{r:Bool}(h:W6 n=some r):X.bg 8 [] (dB r):=by
 refine fC 144 b8 ?_
 refine wc (1,0) h (fun _=>ajR) fun x h=>wc (1,1) h (fun _=>XA) ?_
 rintro⟨aC,av,aK⟩ h
 refine wc (2,1) h (fun _=>Xz) ?_
 rintro⟨aG,ba⟩ h
 refine wc (3,3) h (fun _=>Dk) ?_
 rintro⟨ca,cm,dV⟩ h
 refine wc (4,3) h (fun _=>Dk) ?_
 rintro⟨eS,iY,ku⟩ h
 refine wc (5,3) h (fun _=>Dk) ?_
 rintro⟨iB,iZ,ny⟩ h
 refine wc (6,3) h (fun _=>Dk) ?_
 rintro⟨oG,PU,Ej⟩ h
 refine wc (7,1) h (fun _=>DQ) fun uj h=>wc (7,3) h (fun _=>DQ) fun rW h=>wn (7,4) h fun h9 h=>wc (7,6) h (fun _=>DQ) fun Ek h=>wn (7,7) h fun gg h=>wi (7,8) h (fun dT h=>?_) fun dT h=>?_
 ·refine wi (7,12) h (fun kD h=>?_) fun kD h=>?_
  ·refine wi (7,18) h (fun lY h=>?_) fun lY h=>?_
   ·refine wg h fun tT xY h=>wx (7,23) xY<|wa (7,24) xY<|wI h (fun qD h=>?_) fun qD h=>?_
    ·refine wt (7,26) (.op { d:=dB true}) (yX (sa tT ({ depth:=1}:aE)) qD)<|wc (7,30) h (fun _=>DQ) fun kZ h=>wi (7,31) h (fun Bw h=>?_) fun Bw h=>?_
     ·refine wc (7,36) h (fun _=>Vx) fun PV h=>?_
      cases PV
      ·cases h
       exact wC
      ·refine wc (7,41) h (fun _=>Vx) fun PW h=>?_
       cases PW
       ·refine wc (7,47) h (fun _=>ahb) fun XP h=>wi (7,49) h (fun h24 h=>?_) fun h24 h=>?_
        ·refine wi (7,54) h (fun h25 h=>?_) fun h25 h=>?_
         ·refine wi (7,60) h (fun h26 h=>?_) fun h26 h=>?_
          ·refine wi (7,66) h (fun L7 h=>?_) fun L7 h=>?_
           ·refine wg h fun DB So h=>wx (7,71) So<|wl (7,73) 2 So rfl<|wi (7,74) h (fun h29 h=>?_) fun h29 h=>?_
            ·refine wc (7,79) h (fun _=>aha) fun XQ h=>wi (7,81) h (fun h31 h=>?_) fun h31 h=>?_
             ·cases h
              exact wC
             ·cases h
              exact wC
            ·cases h
             exact wC
           ·cases h
            exact wC
          ·cases h
           exact wC
         ·cases h
          exact wC
        ·cases h
         exact wC
       ·cases h
        exact wC
     ·cases h
      exact wC
    ·refine wt (7,26) (.op { d:=dB false}) (yW (sa tT ({ depth:=1}:aE)) qD)<|?_
     cases h
     exact wC
   ·cases h
    exact wC
  ·cases h
   exact wC
 ·cases h
  exact wC
end Go.Vig
set_option maxRecDepth 1000000
set_option maxHeartbeats 4000000
namespace Go.Vig
open Go Go.Abs Go.Proofs
abbrev F7:Kn:=⟨fun _ _=>none,none,fun h=>nomatch h⟩
theorem adt:letI:=F7;W6 60=some true:=by kernel_rfl
end Go.Vig
set_option maxRecDepth 100000
namespace Go.Vig
open Go Go.Abs Go.Proofs
theorem mixed:Tryz.prog.follows .mixedOrders=true:=by kernel_rfl
theorem aei {f:FuncId}:jL Tryz.prog f (fun _ _=>none):=
 ⟨fun st args r h=>(by cases h),fun st args r h=>(by cases h),fun st st' args _=>rfl,fun m args r h=>(by cases h)⟩
theorem Uu [k:Kn](hL:jL Tryz.prog 8 Kn.L):∀f p,GF f=some p->jL Tryz.prog f p:=by
 intro f p h
 unfold GF at h
 split at h
 ·cases h;exact hL
 ·cases h;exact acF fun s c w=>Tryz.strings_IndexByte s c w
 ·cases h
theorem ads:letI:=F7;X.bg 8 [] (dB true):=letI:=F7;ajQ adt
theorem adr:jL Tryz.prog 8 (yF [([],dB true)]):=by
 letI:=F7
 have h:jL X.P 8 (yF [([],dB true)]):=adM (X:=X) mixed (Uu aei) (t:=[([],dB true)]) (by intro x hx;simp only[List.mem_singleton]at hx;subst hx;exact ads)
 exact h
abbrev F6:Kn:=⟨yF [([],dB true)],some true,fun h st=>by cases h;rfl⟩
theorem ae5:letI:=F6;∀f p,GF f=some p->jL Tryz.prog f p:=letI:=F6;Uu adr
end Go.Vig
