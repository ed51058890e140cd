/-
  Part of the proof: printed by the session's own program out of the program's form, or typed; it states no claim by itself.
-/
import Derived.Test.YtpadajnejknkeaaGreatBk
import Derived.Shelf.Small.Strs
import Derived.Lib.Join
import Derived.Lib.ItoaNum
import Derived.Lib.AtoiAll
import Derived.Below
import Derived.Test.YtpadajnejknkeaaGreatBi
import Derived.ChangeArms
import Derived.Lib.Split
import Derived.Lib.SplitLaws
set_option linter.unusedVariables false
set_option linter.unusedSimpArgs false
set_option linter.unusedSectionVars false
namespace Go.Abs
open Go
variable [Fl]
def Cu (st:List Ob):List DV->Option Out
 | [.c (.sc (.string s)),.c (.sc (.int .u8 c))]=>some { d:=aa (Lib.indexByte s.data.toList c.toNat.toUInt8)}
 | _=>none
theorem sV (st:List Ob)(s:ByteArray)(c:Int):Cu st [.c (.sc (.string s)),.c (.sc (.int .u8 c))]=some { d:=aa (Lib.indexByte s.data.toList c.toNat.toUInt8)}:=rfl
theorem MZ {st:List Ob}{args:List DV}{r:Out}(h:Cu st args=some r):∃s c,args=[.c (.sc (.string s)),.c (.sc (.int .u8 c))]∧r={ d:=aa (Lib.indexByte s.data.toList c.toNat.toUInt8)}:=by
 unfold Cu at h
 split at h
 ·cases h;exact⟨_,_,rfl,rfl⟩
 ·cases h
theorem acF [Gl]{P:Program}{f:FuncId}(hc:∀s c w,Calls P f #[.string s,.int .u8 c] w fun e w'=>e= .returned (.int .i64 (Lib.indexByte s.data.toList c.toNat.toUInt8))∧w'=w):jL P f Cu:=by
 refine⟨fun st args r h=>?_,fun st args r h id o ho=>?_,fun st st' args hs=>rfl,fun m args r h Γ n0 PR e al vs n st bt iL hr=>?_⟩
 ·obtain⟨s,c,rfl,rfl⟩:=MZ h;rfl
 ·obtain⟨s,c,rfl,rfl⟩:=MZ h;cases ho
 ·obtain⟨s,c,rfl,rfl⟩:=MZ h
  cases hr with
  | cons hd hrs=>
   cases hrs with
   | cons o8 acu=>
    cases acu
    cases hd with
    | c h1=>
     cases o8 with
     | c h2=>
      cases h1 with
      | sc h1=>
       cases h2 with
       | sc h2=>
        refine callsIn_wide.2 ((hc s c e.w).mono fun en w' ⟨he,hw⟩=>?_)
        subst he;subst hw
        exact⟨e,al,rfl,st,iL,To.refl _ _ _ _,.c (.sc rfl)⟩
end Go.Abs
namespace Go.Abs
open Go Go.RowKit
section
variable [Gl] {P:Program}{n0:Nat}{PR:Addr->Prop}{e:E}{al:Own->Addr->Prop}{Γ:List (Nat×Ctx)}{m:M}
end
def VV:List CV->Option (List ByteArray)
 | []=>some []
 | .sc (.string s)::cs=>(VV cs).map (s::·)
 | _::_=>none
def ac3 (xs:List ByteArray)(sep:ByteArray):ByteArray:=⟨(Lib.join (xs.map (·.data.toList)) sep.data.toList).toArray⟩
def CB (st:List Ob):List DV->Option Out
 | [.c (.sl nl x cs len),.c (.sc (.string sep))]=>match VV cs with
  | some xs=>if xs.length=len∧len≤140737488355328∧(Lib.join (xs.map (·.data.toList)) sep.data.toList).length≤140737488355328 then some { d:=.c (.sc (.string (ac3 xs sep)))} else none
  | none=>none
 | _=>none
end Go.Abs
namespace Go.Abs
open Go Go.ChangeShapes Go.WideShapes Go.ChangeAt Go.RowKit
variable [Fl]
section
variable {H:Type}{enc:TypeId×Value->H}{P:Program}{w:World}{base:Nat}{sp:Nat->Bool}{held:Bool}
def X1 (c:CV):Prop:=∃s:ByteArray,c= .sc (.string s)∧s.size≤maxLen
theorem afD {t:TypeId}(ht:P.underlying t=some .string):Reads P w base t X1:=by
 intro H enc sp held fuel vs x h
 cases fuel with
 | zero=>simp[DataW.trod]at h
 | succ fuel=>
  unfold DataW.trod at h
  rw[ht]at h
  split at h<;>first | (rename_i hh;cases hh;done) | skip
  all_goals (try (rename_i hh;injection hh with hh;done))
  ·split at h
   ·rename_i s _ hc
    exact⟨_,_,rfl,.sc rfl,rfl,s,rfl,hc⟩
   ·cases h
  all_goals (first | (cases h;done) | (simp at h;done))
theorem bh.KL {im:Addr->Prop}:∀{cs e9:List CV}{vs XB:List Value},bh im w cs vs->bh im w e9 XB->bh im w (cs++e9) (vs++XB)
 | _,_,_,_,.nil,h=>h
 | _,_,_,_,.cons hk h hs,h'=>.cons hk h (bh.KL hs h')
end
theorem acJ {c:CV}(h:Qf c):∃n:Int,c=bb n∧aF n:=by
 obtain⟨n,rfl,hw⟩:=h
 refine⟨n,rfl,?_⟩
 simp[Lit.wf,IntKind.min,IntKind.max,IntKind.signed,IntKind.bits]at hw
 unfold aF
 exact hw
theorem ade [Gl]{X:Sys}(hm:X.P.follows .mixedOrders=true)(hp:∀f p,X.pr f=some p->jL X.P f p){f:FuncId}{args:List DV}{vs:List Value}{w:World}(FE:(∀a,Gl.as a->a.block<w.heap.size)∧Gl.ok w)(h:X.bg f args (dB true))
  (hr:bd ⟨bC w,w,[],fun _=>⟨0,0,0⟩,[]⟩ args vs):Calls X.P f ⟨vs⟩ w fun en w'=>en= .returned (.bool true)∧cS w.heap.size (fun _=>False) (fun _=>False) w w':=by
 obtain⟨k,hk⟩:=h
 obtain⟨d',m',h1,h2⟩:=hk k (Nat.le_refl _)
 refine(Z3 FE hm X.an hp h1 hr).mono fun en w' ⟨v,e',s,he,_,hd,acd⟩=>?_
 subst he
 refine⟨?_,acd⟩
 have eO:d'=dB true:=by
  cases d' with
  | c v=>simp only[eF]at h2;exact Option.some.inj h2
  | ap=>simp[eF,dB]at h2
  | aX ds=>
   simp only[eF,Option.map_eq_some_iff]at h2
   obtain⟨_,_,h2⟩:=h2
   cases h2
  | agg ds=>
   simp only[eF,Option.map_eq_some_iff,dD]at h2
   obtain⟨a,⟨b,_,rfl⟩,h2⟩:=h2
   cases h2
  | ms id ver off len aV x=>
   simp only[eF,Option.map_eq_some_iff,dD]at h2
   obtain⟨a,h1,h2⟩:=h2
   split at h1
   ·simp only[Option.map_eq_some_iff,Option.bind_eq_some_iff]at h1
    obtain⟨_,_,_,_,rfl⟩:=h1
    cases h2
   ·cases h1
  | un=>simp[eF,dD]at h2
  | pt=>simp[eF,dD]at h2
  | ia=>simp[eF,dD]at h2
  | fn=>simp[eF,dD]at h2
  | yl=>simp[eF,dD]at h2
  | er=>simp[eF,dD]at h2
  | mp=>simp[eF,dD]at h2
  | mi=>simp[eF,dD]at h2
 subst eO
 cases hd with
 | c h=>cases h with | sc h=>rfl
end Go.Abs
namespace Go.Abs
open Go Go.RowKit
end Go.Abs
namespace Go.Abs
open Go Go.RowKit
variable [Fl]
def LO:Value->Value->Bool
 | .int k a,.int k' b=>decide (k=k')&&a==b
 | .bool a,.bool b=>a==b
 | .string a,.string b=>a.data.toList==b.data.toList
 | .nilFunc,.nilFunc=>true
 | .nilIface,.nilIface=>true
 | .pointer none,.pointer none=>true
 | .map none,.map none=>true
 | _,_=>false
theorem abn {a b:Value}(h:LO a b=true):a=b:=by
 unfold LO at h
 split at h
 ·simp only[Bool.and_eq_true,decide_eq_true_eq,beq_iff_eq]at h;rw[h.1,h.2]
 ·simp only[beq_iff_eq]at h;rw[h]
 ·rename_i a b
  simp only[beq_iff_eq]at h
  have:a=b:=by
   cases a;cases b
   simp only[ByteArray.mk.injEq]
   exact Array.toList_inj.1 h
  rw[this]
 ·rfl
 ·rfl
 ·rfl
 ·rfl
 ·cases h
mutual
def nM:CV->CV->Bool
 | .sc a,.sc b=>LO a b
 | .agg a,.agg b=>su a b
 | .sl n x a l,.sl n' x' b l'=>n==n'&&(x==x'&&(l==l'&&su a b))
 | _,_=>false
def su:List CV->List CV->Bool
 | [],[]=>true
 | a::xs,b::bs=>nM a b&&su xs bs
 | _,_=>false
end
mutual
theorem abk:∀{a b:CV},nM a b=true->a=b
 | .sc a,.sc b,h=>congrArg CV.sc (abn (by simpa[nM]using h))
 | .agg a,.agg b,h=>congrArg CV.agg (Fa (by simpa[nM]using h))
 | .sl n x a l,.sl n' x' b l',h=>by
  simp only[nM,Bool.and_eq_true,beq_iff_eq]at h
  rw[h.1,h.2.1,h.2.2.1,Fa h.2.2.2]
 | .sc _,.agg _,h=>by simp[nM]at h
 | .sc _,.sl ..,h=>by simp[nM]at h
 | .agg _,.sc _,h=>by simp[nM]at h
 | .agg _,.sl ..,h=>by simp[nM]at h
 | .sl ..,.sc _,h=>by simp[nM]at h
 | .sl ..,.agg _,h=>by simp[nM]at h
theorem Fa:∀{a b:List CV},su a b=true->a=b
 | [],[],_=>rfl
 | a::xs,b::bs,h=>by
  simp only[su,Bool.and_eq_true]at h
  rw[abk h.1,Fa h.2]
 | [],_::_,h=>by simp[su]at h
 | _::_,[],h=>by simp[su]at h
end
def E3:List DV->Option (List CV)
 | []=>some []
 | .c v::ds=>(E3 ds).map (v::·)
 | _::_=>none
theorem Rx:∀{ds:List DV}{cs:List CV},E3 ds=some cs->ds=cs.map .c
 | [],cs,h=>by cases h;rfl
 | d::ds,cs,h=>by
  unfold E3 at h
  split at h
  ·rename_i hh;cases hh
  ·rename_i v cQ hh
   cases hh
   rw[Option.map_eq_some_iff]at h
   obtain⟨l,h1,rfl⟩:=h
   rw[Rx h1];rfl
  ·cases h
abbrev oL:=List (List CV×DV)
def oL.find:oL->List CV->Option DV
 | [],_=>none
 | (cs,d)::t,xs=>if su cs xs then some d else oL.find t xs
theorem oL.R3:∀{t:oL}{xs:List CV}{d:DV},t.find xs=some d->(xs,d)∈t
 | [],xs,d,h=>by cases h
 | (cs,d0)::t,xs,d,h=>by
  unfold oL.find at h
  split at h
  ·rename_i he;cases h;rw[Fa he];simp
  ·exact List.mem_cons_of_mem _ (oL.R3 h)
def yF (t:oL)(st:List Ob)(args:List DV):Option Out:=match E3 args with
 | some cs=>(t.find cs).map fun d=>{ d}
 | none=>none
section
variable [Gl] {P:Program}{n0:Nat}{PR:Addr->Prop}{e:E}{al:Own->Addr->Prop}{Γ:List (Nat×Ctx)}{m:M}
theorem St.aej (s:St n0 PR Γ e al m):St n0 PR Γ e (fun p a=>match p with | .slot _=>False | p=>al p a) m:=by
 have hp:∀p a,(match p with | .slot _=>False | p=>al p a)->al p a:=fun p a h=>by
  cases p<;>first | exact h | exact h.elim
 exact⟨s.st,s.la,s.lt,⟨s.mi.eY,s.mi.gm,s.mi.dN,s.mi.dz,fun p a h=>s.mi.ok p a (hp p a h),fun p q a h1 h2=>s.mi.cE p q a (hp p a h1) (hp q a h2),s.mi.ext,s.mi.own,s.mi.cell⟩,s.gi⟩
theorem Yh (cs:List CV):(cs.map DV.c).all isClosed=true:=by simp[isClosed]
theorem adM {X:Sys}(hm:X.P.follows .mixedOrders=true)(hp:∀f p,X.pr f=some p->jL X.P f p){f:FuncId}{t:oL}(h:∀x∈t,X.bg f (x.1.map .c) x.2):jL X.P f (yF t):=by
 have key:∀{st args r},yF t st args=some r->∃cs d,args=cs.map .c∧(cs,d)∈t∧r={ d}:=fun {st args r} hh=>by
  unfold yF at hh
  split at hh
  ·rename_i cs cO
   rw[Option.map_eq_some_iff]at hh
   obtain⟨d,h1,rfl⟩:=hh
   exact⟨cs,d,Rx cO,oL.R3 h1,rfl⟩
  ·cases hh
 refine⟨fun st args r hh=>?_,fun st args r hh id o ho=>?_,fun st st' args _=>rfl,fun m args r hh Γ n0 PR e al vs n s bt iL hr=>?_⟩
 ·obtain⟨_,_,_,_,rfl⟩:=key hh;rfl
 ·obtain⟨_,_,_,_,rfl⟩:=key hh;cases ho
 ·obtain⟨cs,d,rfl,fF,rfl⟩:=key hh
  obtain⟨k,hk⟩:=h _ fF
  obtain⟨d',m',h1,h2⟩:=hk k (Nat.le_refl _)
  obtain⟨s0,hZ⟩:=s.apart bt
  have lf:=(LQ hm X.an hp k).1.call [] f _ ⟨[],[]⟩ d' m' h1 n0 _ _ _ vs n s0 (fun _ h=>h) (fun _ _ h=>h) (Lu (e:=e) (e0:={ e with st:=[],la:=[]}) rfl rfl (Yh cs) hr)
  refine lf.mono fun en w' hb=>?_
  obtain⟨v,e',reg',rfl,hw,st',to,cR,_⟩:=(hZ _ _ _ _ hb).1 _ h2
  exact⟨e',_,hw,st'.aej,fun t a h=>h,to,cR⟩
end
end Go.Abs
