/-
  Part of the proof: printed by the session's own program out of the program's form, or typed; it states no claim by itself.
-/
import Derived.Test.YtpadajnejknkeaaGreatBj
set_option linter.unusedVariables false
set_option linter.unusedSimpArgs false
set_option linter.unusedSectionVars false
namespace Go.Abs
open Go
variable [Fl]
class Enc (α:Type) where
 sz:Nat
 enc:α->List CV
 len:∀a,(enc a).length=sz
class EncX (α:Type)[Enc α] where
 ae:α->List CV
 eq:∀a,ae a=Enc.enc a
open Enc EncX
def cells {α:Type}[Enc α](l:List α):List CV:=l.flatMap enc
def fD {α:Type}[Enc α][EncX α](l:List α):List CV:=l.flatMap ae
def bl {α:Type}[Enc α](l:List α):List DV:=(cells l).map .c
structure Sl (α:Type) where
 nl:Bool
 x:Bool
 l:List α
def aq {α:Type}[Enc α](s:Sl α):CV:=.sl s.nl s.x (cells s.l) s.l.length
def Sl.nil {α:Type}:Sl α:=⟨true,true,[]⟩
def Sl.gr {α:Type}(l:List α):Sl α:=⟨l.isEmpty,l.isEmpty,l⟩
instance:Enc Int:=⟨1,fun n=>[bb n],fun _=>rfl⟩
instance:EncX Int:=⟨fun n=>[bb n],fun _=>rfl⟩
instance:Enc Bool:=⟨1,fun b=>[.sc (.bool b)],fun _=>rfl⟩
instance:EncX Bool:=⟨fun b=>[.sc (.bool b)],fun _=>rfl⟩
instance:Enc ByteArray:=⟨1,fun b=>[.sc (.string b)],fun _=>rfl⟩
instance:EncX ByteArray:=⟨fun b=>[.sc (.string b)],fun _=>rfl⟩
instance {α:Type}[Enc α]:Enc (Sl α):=⟨1,fun s=>[aq s],fun _=>rfl⟩
instance {α:Type}[Enc α]:EncX (Sl α):=⟨fun s=>[aq s],fun _=>rfl⟩
def aP {α:Type}[Enc α](l:List α):DV:=.ap l.isEmpty (cells l) l.length (sz α)
def nC {α:Type}[Enc α](l:List α):DV:=.ap false (cells l) l.length (sz α)
section
variable {α:Type} [Enc α] [EncX α]
theorem iH (l:List α):fD l=cells l:=by
 unfold fD cells
 congr 1
 funext a;exact EncX.eq a
theorem A8 (a:α)(l:List α):cells (a::l)=enc a++cells l:=rfl
theorem Lh (l l':List α):cells (l++l')=cells l++cells l':=by simp[cells]
theorem nG (l:List α):(cells l).length=l.length * sz α:=by
 induction l with
 | nil=>simp[cells]
 | cons a l ih=>rw[A8,List.length_append,ih,len,List.length_cons];rw[Nat.add_mul];omega
theorem Ry (l:List α):(bl l).length=l.length * sz α:=by simp[bl,nG]
theorem Li:∀{l:List α}{i:Nat}{a:α},l[i]? =some a->∃r,(cells l).drop (i * sz α)=enc a++r
 | [],i,a,h=>by simp at h
 | b::l,0,a,h=>by
  simp at h;subst h
  exact⟨cells l,by simp[A8]⟩
 | b::l,i+1,a,h=>by
  obtain⟨r,hr⟩:=Li (l:=l) (i:=i) (a:=a) (by simpa using h)
  refine⟨r,?_⟩
  rw[A8,show(i+1) * sz α=(enc b).length+i * sz α by rw[len,Nat.add_mul];omega,←List.drop_drop,List.drop_left,hr]
theorem Lf {l:List α}{i:Nat}{a:α}{c:CV}(fo:Nat)(hc:(ae a)[fo]? =some c)(h:l[i]? =some a):(cells l)[i * sz α+fo]? =some c:=by
 obtain⟨r,hr⟩:=Li h
 rw[EncX.eq]at hc
 rw[←List.getElem?_drop,hr,List.getElem?_append_left ((List.getElem?_eq_some_iff.1 hc).1),hc]
theorem GV {l:List α}{i:Nat}{a:α}(fo k:Nat)(hk:fo+k≤sz α)(h:l[i]? =some a):span (cells l) (i * sz α+fo) k=some (((ae a).drop fo).take k):=by
 have hi:i<l.length:=(List.getElem?_eq_some_iff.1 h).1
 have hle:(i+1) * sz α≤l.length * sz α:=Nat.mul_le_mul_right _ hi
 rw[Nat.add_mul]at hle
 obtain⟨r,hr⟩:=Li h
 unfold span
 rw[EncX.eq,if_pos (by rw[nG];omega),←List.drop_drop,hr,List.drop_append_of_le_length (by rw[len];omega),List.take_append_of_le_length (by rw[List.length_drop,len];omega)]
theorem aa3 {l:List α}{i:Nat}{a:α}{c:CV}(fo:Nat)(hc:(ae a)[fo]? =some c)(h:l[i]? =some a):(bl l)[i * sz α+fo]? =some (.c c):=by
 unfold bl
 rw[List.getElem?_map,Lf fo hc h];rfl
theorem agK {l:List CV}{off k:Nat}{r:List CV}(h:span l off k=some r):span (l.map DV.c) off k=some (r.map .c):=by
 unfold span at h ⊢
 split at h
 ·rename_i hle
  cases h
  rw[if_pos (by simpa using hle)]
  simp
 ·cases h
theorem aa9 {l:List α}{i:Nat}{a:α}(fo k:Nat)(hk:fo+k≤sz α)(h:l[i]? =some a):span (bl l) (i * sz α+fo) k=some ((((ae a).drop fo).take k).map .c):=agK (GV fo k hk h)
theorem U8 {β:Type}:∀(vs p l:List β) (off:Nat),cT (p++l) (p.length+off) vs=p++cT l off vs
 | [],p,l,off=>rfl
 | v::vs,p,l,off=>by
  simp only[cT]
  have e:(p++l).set (p.length+off) v=p++l.set off v:=by rw[List.set_append,if_neg (by omega),show p.length+off - p.length=off by omega]
  rw[e,show p.length+off+1=p.length+(off+1) by omega,U8 vs]
theorem U7 {β:Type}:∀(vs p l:List β) (off:Nat),off+vs.length≤p.length->cT (p++l) off vs=cT p off vs++l
 | [],p,l,off,_=>rfl
 | v::vs,p,l,off,h=>by
  simp only[List.length_cons]at h
  simp only[cT]
  have e:(p++l).set off v=p.set off v++l:=by rw[List.set_append,if_pos (by omega)]
  rw[e,U7 vs _ l (off+1) (by simp;omega)]
theorem RF {a a':α}(fo:Nat)(vs:List DV)(hv:cT ((ae a).map DV.c) fo vs=(ae a').map DV.c)(hl:fo+vs.length≤sz α):∀{l:List α}{i:Nat},l[i]? =some a->cT (bl l) (i * sz α+fo) vs=bl (l.set i a')
 | [],i,h=>by simp at h
 | b::l,0,h=>by
  simp at h;subst h
  rw[EncX.eq,EncX.eq]at hv
  simp only[bl,A8,List.map_append,Nat.zero_mul,Nat.zero_add,List.set_cons_zero]
  rw[U7 _ _ _ _ (by simp[len,hl]),hv]
 | b::l,i+1,h=>by
  have ih:=RF fo vs hv hl (l:=l) (i:=i) (by simpa using h)
  simp only[bl,A8,List.map_append,List.set_cons_succ]at ih ⊢
  rw[show(i+1) * sz α+fo=((enc b).map DV.c).length+(i * sz α+fo) by rw[List.length_map,len,Nat.add_mul];omega,U8,ih]
theorem afJ {a:α}(n:Nat)(z:List DV)(h:z=(ae a).map DV.c):jV n z=bl (List.replicate n a):=by
 subst h
 rw[EncX.eq]
 unfold jV bl cells
 induction n with
 | zero=>rfl
 | succ n ih=>simp[List.replicate_succ,ih]
theorem kz {b v:Bool}(h:b=v):(some ({ d:=dB b}:Out))=some { d:=dB v}:=by rw[h]
theorem EV {l:List α}{i:Nat}{a:α}{b v:Bool}(fo:Nat)(hc:(ae a)[fo]? =some (.sc (.bool b)))(h:l[i]? =some a)(hb:b=v):(cells l)[i * sz α+fo]? =some (.sc (.bool v)):=by rw[←hb];exact Lf fo hc h
theorem jw {l:List α}{i:Nat}{a:α}{c:CV}(fo:Nat)(hc:(ae a)[fo]? =some c)(h:l[i]? =some a):(bl l)[0+i * sz α+fo]? =some (.c c):=by rw[Nat.zero_add];exact aa3 fo hc h
theorem nK {l:List α}{i:Nat}{a:α}(fo k:Nat)(hk:fo+k≤sz α)(h:l[i]? =some a):span (bl l) (0+i * sz α+fo) k=some ((((ae a).drop fo).take k).map .c):=by rw[Nat.zero_add];exact aa9 fo k hk h
theorem acD {l:List α}{i fo k:Nat}(h:i<l.length)(hk:fo+k≤sz α):0+i * sz α+fo+k≤(bl l).length:=by
 rw[Ry]
 have:(i+1) * sz α≤l.length * sz α:=Nat.mul_le_mul_right _ h
 rw[Nat.add_mul]at this;omega
theorem iI {l:List α}{i:Nat}{a:α}(fo:Nat)(vs:List DV)(a':α)(h:l[i]? =some a)(hv:cT ((ae a).map DV.c) fo vs=(ae a').map DV.c)(hl:fo+vs.length≤sz α):
  0+i * sz α+fo+vs.length≤(bl l).length∧cT (bl l) (0+i * sz α+fo) vs=bl (l.set i a'):=
 ⟨acD (List.getElem?_eq_some_iff.1 h).1 hl,by rw[Nat.zero_add];exact RF fo vs hv hl h⟩
theorem af4 {β:Type}:∀(l r:List β),r.length=l.length->cT l 0 r=r:=by
 have key:∀(r p l:List β),r.length=l.length->cT (p++l) p.length r=p++r:=by
  intro r
  induction r with
  | nil=>intro p l h;cases l with | nil=>rfl | cons _ _=>simp at h
  | cons x r ih=>
   intro p l h
   cases l with
   | nil=>simp at h
   | cons y l=>
    simp only[cT]
    have e:(p++y::l).set p.length x=(p++[x])++l:=by rw[List.set_append,if_neg (by omega)];simp
    rw[e,show p.length+1=(p++[x]).length by simp,ih (p++[x]) l (by simpa using h)]
    simp
 intro l r h
 exact key r [] l h
theorem aqb {n:Int}(h:aF n):IntKind.i64.wrap n=n:=by unfold aF at h;rw[IntKind.wrap_i64];omega
theorem K9 {a b:ByteArray}(h:a.toList=b.toList):a=b:=by
 have h':a.data.toList=b.data.toList:=by rw[←ByteArray.toList_eq,←ByteArray.toList_eq,h]
 cases a;cases b
 simp only[ByteArray.mk.injEq]at h' ⊢
 exact Array.toList_inj.1 h'
theorem dM {a b:ByteArray}(h:a=b):some ({ d:=.c (.sc (.bool (a.toList==b.toList)))}:Out)=some { d:=dB true}:=by subst h;simp[dB]
theorem dL {a b:ByteArray}(h:¬a=b):some ({ d:=.c (.sc (.bool (a.toList==b.toList)))}:Out)=some { d:=dB false}:=by
 have:(a.toList==b.toList)=false:=by
  rw[beq_eq_false_iff_ne]
  exact fun hh=>h (K9 hh)
 rw[this];rfl
theorem tM {a b:ByteArray}(h:¬a=b):some ({ d:=.c (.sc (.bool !(a.toList==b.toList)))}:Out)=some { d:=dB true}:=by
 have:(a.toList==b.toList)=false:=by
  rw[beq_eq_false_iff_ne]
  exact fun hh=>h (K9 hh)
 rw[this];rfl
theorem tL {a b:ByteArray}(h:a=b):some ({ d:=.c (.sc (.bool !(a.toList==b.toList)))}:Out)=some { d:=dB false}:=by subst h;simp[dB]
def Mk (b n:Nat):Prop:=b * n≤281474976710656∧n≤9223372036854775807
instance (b n:Nat):Decidable (Mk b n):=inferInstanceAs (Decidable (_∧_))
instance (n:Int):Decidable (aF n):=inferInstanceAs (Decidable (_∧_))
theorem Gm (z:α){b n:Nat}(h:Mk b n):(0≤(n:Int)∧(n:Int)≤(n:Int)∧(n:Int)≤9223372036854775807∧(b:Int) * (n:Int)≤281474976710656)∧jV n ((ae z).map DV.c)=bl (List.replicate n z)∧((n:Int)==(n:Int))=true:=by
 refine⟨⟨by omega,by omega,by have:=h.2;omega,?_⟩,afJ n _ rfl,by simp⟩
 have h1:=h.1
 have:((b * n:Nat):Int)≤281474976710656:=by omega
 simpa using this
def Room (b n:Nat):Prop:=n * b≤140737488355328
instance (b n:Nat):Decidable (Room b n):=inferInstanceAs (Decidable (_≤_))
theorem UZ {n b:Nat}(hb:1≤b)(h:Room b n):roomy n b=true:=by
 unfold Room at h
 have:n * 1≤n * b:=Nat.mul_le_mul_left _ hb
 simp[roomy];omega
theorem Qn (l l':List α){b:Nat}(hb:1≤b)(h:Room b (l++l').length):
  (((fD l').length=l'.length * sz α∧(cells l).length=l.length * sz α)∧roomy (l++l').length b=true)∧cells l++fD l'=cells (l++l')∧l.length+l'.length=(l++l').length∧(l.isEmpty&&l'.length==0)=(l++l').isEmpty:=by
 refine⟨⟨⟨by rw[iH,nG],nG _⟩,UZ hb h⟩,by rw[iH,Lh],by simp,?_⟩
 cases l<;>cases l'<;>simp
theorem Yx (l l':List α){b:Nat}(hb:1≤b)(h:Room b (l++l').length):
  (((cells l').length=l'.length * sz α∧(cells l).length=l.length * sz α)∧roomy (l++l').length b=true)∧cells l++cells l'=cells (l++l')∧l.length+l'.length=(l++l').length∧(l.isEmpty&&l'.length==0)=(l++l').isEmpty:=by
 have:=Qn l l' hb h
 rwa [iH]at this
theorem Qm (l l':List α){b:Nat}(hb:1≤b)(h:Room b (l++l').length):
  (((fD l').length=l'.length * sz α∧(cells l).length=l.length * sz α)∧roomy (l++l').length b=true)∧cells l++fD l'=cells (l++l')∧l.length+l'.length=(l++l').length∧(false&&l'.length==0)=false:=
 ⟨⟨⟨by rw[iH,nG],nG _⟩,UZ hb h⟩,by rw[iH,Lh],by simp,rfl⟩
theorem Yw (l l':List α){b:Nat}(hb:1≤b)(h:Room b (l++l').length):
  (((cells l').length=l'.length * sz α∧(cells l).length=l.length * sz α)∧roomy (l++l').length b=true)∧cells l++cells l'=cells (l++l')∧l.length+l'.length=(l++l').length∧(false&&l'.length==0)=false:=by
 have:=Qm l l' hb h
 rwa [iH]at this
theorem Vl {len:Nat}{l h:Int}(h1:0≤l∧l≤h∧h≤(len:Int)):kA len (some (aa l)) (some (aa h)) none=some (l.toNat,h.toNat,none):=by
 simp only[kA,ki,aa,bb,Option.bind_some,Option.getD_none]
 rw[if_pos (by omega)]
 simp only
 rw[if_pos (by omega)];simp
theorem agd {len:Nat}{h:Int}(hh:0≤h∧h≤(len:Int)):kA len none (some (aa h)) none=some (0,h.toNat,none):=by
 simp only[kA,ki,aa,bb,Option.bind_some,Option.getD_none]
 rw[if_pos hh];simp
theorem aal {l:List α}{a b:Nat}(h:a≤b∧b≤l.length):span (cells l) (a * sz α) ((b - a) * sz α)=some (cells ((l.drop a).take (b - a)))∧b - a=((l.drop a).take (b - a)).length:=by
 refine⟨?_,by simp;omega⟩
 unfold span
 have h1:(b - a) * sz α+a * sz α≤l.length * sz α:=by rw[←Nat.add_mul];exact Nat.mul_le_mul_right _ (by omega)
 rw[if_pos (by rw[nG];omega)]
 congr 1
 have hd:∀(k:Nat) (l:List α),k≤l.length->(cells l).drop (k * sz α)=cells (l.drop k)∧(cells l).take (k * sz α)=cells (l.take k):=fun k l hk=>by
  have e:cells l=cells (l.take k)++cells (l.drop k):=by rw[←Lh,List.take_append_drop]
  have el:(cells (l.take k)).length=k * sz α:=by rw[nG,List.length_take,Nat.min_eq_left hk]
  rw[e]
  constructor
  ·rw[←el,List.drop_left]
  ·rw[←el,List.take_left]
 rw[(hd a l (by omega)).1,(hd (b - a) (l.drop a) (by simp;omega)).2]
end
theorem agc {h:Int}{n:Nat}(hh:0≤h∧h≤(n:Int)):0≤h.toNat∧h.toNat≤n:=by omega
def aD {α:Type}(l:List α)(i:Int):Option α:=if 0≤i then l[i.toNat]? else none
theorem bJ {α:Type}{l:List α}{i:Int}{a:α}(h:aD l i=some a):l[i.toNat]? =some a:=by
 unfold aD at h
 split at h
 ·exact h
 ·cases h
theorem Qr {α:Type}{l:List α}{i:Int}{a:α}(h:aD l i=some a):0≤i∧i<(l.length:Int):=by
 unfold aD at h
 split at h
 ·have:=(List.getElem?_eq_some_iff.1 h).1;omega
 ·cases h
@[simp] theorem YI {α:Type} (l:List α) (i:Nat):aD l (i:Int)=l[i]? :=by simp[aD]
theorem sG {α:Type}{l:List α}{i:Nat}{a b:α}(h:l[i]? =some a):(l.set i b)[i]? =some b:=by
 have:=(List.getElem?_eq_some_iff.1 h).1
 rw[List.getElem?_set,if_pos rfl,if_pos this]
theorem j7 {α:Type}[Enc α][EncX α]{l:List α}{i:Nat}{a0 a:α}(fo:Nat)(vs:List DV)(a':α)(h:l[i]? =some a0)(hv:cT ((ae a).map DV.c) fo vs=(ae a').map DV.c)(hl:fo+vs.length≤sz α):
  0+i * sz α+fo+vs.length≤(bl (l.set i a)).length∧cT (bl (l.set i a)) (0+i * sz α+fo) vs=bl (l.set i a'):=by
 obtain⟨h1,h2⟩:=iI fo vs a' (sG (b:=a) h) hv hl
 exact⟨h1,by rw[h2,List.set_set]⟩
theorem adL (cs:List CV):(cs.map DV.c).map bx=cs.map DV.c:=by simp[bx,Function.comp_def]
theorem LA {α:Type}[Enc α][EncX α]{P:Program}{t e:TypeId}{st:List Ob}{id ver n:Nat}{x nl yx:Bool}{l l':List α}(ht:P.underlying t=some (.slice e))(hs:cJ P e=some (sz α))(ho:st[id]? =some ⟨ver,bl l⟩)(hn:n=l.length)(hy:l'.length=n):
  mR P st t (.ms id ver 0 n (sz α) x) (.c (.sl nl yx (cells l') l'.length))=some { d:=aa (n:Nat),set:=some (id,⟨ver,bl l'⟩)}:=by
 subst hy
 have hlen:(cells l').length=l'.length * sz α:=nG _
 have yc:(bl l).length=l'.length * sz α:=by rw[Ry,hn]
 simp only[mR,ht,hs,ld ho rfl,gH,hlen,if_true,Nat.min_self]
 rw[if_pos ⟨trivial,by rw[yc];omega⟩]
 rw[List.take_of_length_le (by simp[hlen]),adL,af4 _ _ (by simp[hlen,yc])]
 rfl
theorem abm {P:Program}{t:TypeId}(a b:Bool)(hg:P.eqGuardType P.depth t=false)(hu:P.underlying t=some .bool):iJ P t (dB a) (dB b)=some (a==b):=by
 show(if P.eqGuardType P.depth t then none else eo P 10000 t (.bool a) (.bool b))=_
 rw[hg,if_neg (by simp),eo]
 exact hu
theorem j6 {P:Program}{t:TypeId}(a b:Bool)(hg:P.eqGuardType P.depth t=false)(hu:P.underlying t=some .bool):val ((iJ P t (dB a) (dB b)).map fun b=>.c (.sc (.bool !b)))=some { d:=dB (!(a==b))}:=by
 rw[abm a b hg hu];rfl
def oh (P:Program)(t:TypeId):Value->Bool
 | .int k _=>match P.underlying t with | some (.int k')=>k==k' | _=>false
 | .string _=>match P.underlying t with | some .string=>true | _=>false
 | .bool _=>match P.underlying t with | some .bool=>true | _=>false
 | _=>false
def pG:Value->Value->Bool
 | .int k a,.int k' b=>k==k'&&a==b
 | .string a,.string b=>a.toList==b.toList
 | .bool a,.bool b=>a==b
 | _,_=>false
def rp:List Value->List Value->Bool
 | [],[]=>true
 | a::as,b::bs=>pG a b&&rp as bs
 | _,_=>false
theorem Dd {P:Program}{t:TypeId}{k:IntKind}{a:Int}(h:oh P t (.int k a)=true):P.underlying t=some (.int k):=by
 simp only[oh]at h
 split at h
 ·rename_i k' hu
  have:k=k':=by simpa using h
  subst this;exact hu
 ·cases h
theorem GK {P:Program}{t:TypeId}{a:ByteArray}(h:oh P t (.string a)=true):P.underlying t=some .string:=by
 simp only[oh]at h
 split at h
 ·rename_i hu;exact hu
 ·cases h
theorem GJ {P:Program}{t:TypeId}{a:Bool}(h:oh P t (.bool a)=true):P.underlying t=some .bool:=by
 simp only[oh]at h
 split at h
 ·rename_i hu;exact hu
 ·cases h
theorem abo {P:Program}{d:Nat}{t:TypeId}{x y:Value}(hx:oh P t x=true)(hy:oh P t y=true):eo P (d+1) t x y=some (pG x y):=by
 cases x with
 | int k a=>
  have hu:=Dd hx
  cases y with
  | int k2 b=>
   have hv:=Dd hy
   rw[hu]at hv;cases hv
   unfold eo;simp[hu,pG]
  | string b=>have hv:=GK hy;rw[hu]at hv;cases hv
  | bool b=>have hv:=GJ hy;rw[hu]at hv;cases hv
  | _=>cases hy
 | string a=>
  have hu:=GK hx
  cases y with
  | int k2 b=>have hv:=Dd hy;rw[hu]at hv;cases hv
  | string b=>unfold eo;simp[hu,pG]
  | bool b=>have hv:=GJ hy;rw[hu]at hv;cases hv
  | _=>cases hy
 | bool a=>
  have hu:=GJ hx
  cases y with
  | int k2 b=>have hv:=Dd hy;rw[hu]at hv;cases hv
  | string b=>have hv:=GK hy;rw[hu]at hv;cases hv
  | bool b=>unfold eo;simp[hu,pG]
  | _=>cases hy
 | _=>cases hx
def Fo (P:Program):Nat->List Field->List Value->List Value->Bool
 | _,[],[],[]=>true
 | k,f::fs,x::xs,y::ys=>f.name != "_" &&f.offset==k&&oh P f.type x&&oh P f.type y&&Fo P (k+1) fs xs ys
 | _,_,_,_=>false
theorem U3 {P:Program}{t:TypeId}{x:Value}(hx:oh P t x=true)(cs:Array Value)(i:Nat):eo.cut P t cs i=cs[i]? :=by
 unfold eo.cut
 cases x with
 | int k a=>rw[Dd hx]
 | string a=>rw[GK hx]
 | bool a=>rw[GJ hx]
 | _=>cases hx
theorem RR {P:Program}{d:Nat}:∀(fs:List Field) (k:Nat) (ax ay xs ys:List Value),Fo P k fs xs ys=true->ax.drop k=xs->ay.drop k=ys->qz P (eo P (d+1)) ⟨ax⟩ ⟨ay⟩ fs=some (rp xs ys)
 | [],k,ax,ay,xs,ys,h,h1,h2=>by
  cases xs with
  | nil=>cases ys with
   | nil=>simp[qz,rp]
   | cons=>cases h
  | cons=>cases ys<;>cases h
 | f::fs,k,ax,ay,xs,ys,h,h1,h2=>by
  cases xs with
  | nil=>cases ys<;>cases h
  | cons x xs=>
   cases ys with
   | nil=>cases h
   | cons y ys=>
    simp only[Fo,Bool.and_eq_true,bne_iff_ne,ne_eq,beq_iff_eq]at h
    obtain⟨⟨⟨⟨hn,ho⟩,hx⟩,hy⟩,hr⟩:=h
    have gx:ax[k]? =some x:=by have h0:=congrArg (·[0]?) h1;simpa using h0
    have gy:ay[k]? =some y:=by have h0:=congrArg (·[0]?) h2;simpa using h0
    have tx:ax.drop (k+1)=xs:=by rw[←List.drop_drop,h1];rfl
    have ty:ay.drop (k+1)=ys:=by rw[←List.drop_drop,h2];rfl
    rw[qz,if_pos hn,ho,U3 hx,U3 hx]
    simp only[List.getElem?_toArray,gx,gy,abo hx hy,rp]
    cases hq:pG x y with
    | true=>simp only[Bool.true_and];exact RR fs (k+1) ax ay xs ys hr tx ty
    | false=>simp
def R5 (P:Program)(t:TypeId)(xs ys:List Value):Bool:=match P.underlying t with
 | some (.struct fs)=> !P.eqGuardType P.depth t&& !P.stoodInHeld t&&Fo P 0 fs.toList xs ys
 | _=>false
theorem Fb {P:Program}{t:TypeId}{cx cy:List CV}{xs ys:List Value}(hx:jX cx=some xs)(hy:jX cy=some ys)(hf:R5 P t xs ys=true):
  iJ P t (.c (.agg cx)) (.c (.agg cy))=some (rp xs ys):=by
 unfold R5 at hf
 split at hf
 ·rename_i fs hu
  simp only[Bool.and_eq_true,Bool.not_eq_true']at hf
  obtain⟨⟨hg,hp⟩,hf⟩:=hf
  simp only[iJ,ot,hx,hy,Option.map_some,hg]
  rw[if_neg (by simp),show(10000:Nat)=9998+1+1 from rfl,eo]
  ·simp only[hp]
   rw[if_neg (by simp)]
   exact RR _ 0 _ _ _ _ hf rfl rfl
  ·exact hu
 ·cases hf
theorem ES (a b:ByteArray):(a.toList==b.toList)=decide (a=b):=by
 by_cases h:a=b
 ·subst h;simp
 ·rw[decide_eq_false h,beq_eq_false_iff_ne]
  exact fun hh=>h (K9 hh)
theorem yX {P:Program}{t:TypeId}{x y:DV}{p:Prop}[Decidable p](h:iJ P t x y=some (decide p))(hb:p):val ((iJ P t x y).map fun b=>.c (.sc (.bool b)))=some { d:=dB true}:=by rw[h,decide_eq_true hb];rfl
theorem yW {P:Program}{t:TypeId}{x y:DV}{p:Prop}[Decidable p](h:iJ P t x y=some (decide p))(hb:¬p):val ((iJ P t x y).map fun b=>.c (.sc (.bool b)))=some { d:=dB false}:=by rw[h,decide_eq_false hb];rfl
theorem afF {P:Program}{t:TypeId}{x y:DV}{p:Prop}[Decidable p](h:iJ P t x y=some (decide p))(hb:¬p):val ((iJ P t x y).map fun b=>.c (.sc (.bool !b)))=some { d:=dB true}:=by rw[h,decide_eq_false hb];rfl
theorem afE {P:Program}{t:TypeId}{x y:DV}{p:Prop}[Decidable p](h:iJ P t x y=some (decide p))(hb:p):val ((iJ P t x y).map fun b=>.c (.sc (.bool !b)))=some { d:=dB false}:=by rw[h,decide_eq_true hb];rfl
def lR (s:ByteArray)(i:Int):Option Int:=if 0≤i then(s[i.toNat]?).map fun b=>(b.toNat:Int)else none
theorem xH {s:ByteArray}{i v:Int}(h:lR s i=some v):val (if 0≤i then(s[i.toNat]?).map fun b=>DV.c (.sc (.int .u8 b.toNat))else none)=some { d:=.c (.sc (.int .u8 v))}:=by
 unfold lR at h
 split at h
 ·rename_i h0
  rw[Option.map_eq_some_iff]at h
  obtain⟨b,hb,rfl⟩:=h
  rw[if_pos h0,hb];rfl
 ·cases h
theorem aef {n:Int}(h:aF (0 - n)):(DA .neg (aa n)).map (fun d=>({ d:=d}:Out))=some { d:=aa (0 - n)}:=by
 simp only[DA,aa,bb,aqb h,Option.map_some]
theorem Dr {P0:Program}{t0:TypeId}{a b:ByteArray}(h:(a++b).size≤9223372036854775807):val (uC P0 .add t0 (.c (.sc (.string a))) (.c (.sc (.string b))))=some { d:=.c (.sc (.string (a++b)))}:=by
 simp only[uC,iG]
 rw[if_neg (by rw[ByteArray.size_append]at h;simp[IntKind.max,IntKind.signed,IntKind.bits];omega)]
 rfl
theorem VU {P0:Program}{t0:TypeId}{st0:List Ob}{s:ByteArray}{l h:Int}(hu:P0.underlying t0=some .string)(hh:0≤l∧l≤h∧h≤(s.size:Int)):val (pI P0 st0 t0 (.c (.sc (.string s))) (some (aa l)) (some (aa h)) none)=some { d:=.c (.sc (.string (s.extract l.toNat h.toNat)))}:=by
 have e:kA s.size (some (aa l)) (some (aa h)) none=some (l.toNat,h.toNat,none):=by
  unfold kA
  simp only[ki,aa,bb,Option.bind_some,Option.getD_none]
  rw[if_pos ⟨by omega,hh.2.2⟩]
  simp only
  rw[if_pos ⟨hh.1,by omega⟩]
  simp
 simp only[pI,hu,e,Option.map_some];rfl
theorem Sys.Loop.Sk {X:Sys}{f nt:Nat}{Γ:List (Nat×Ctx)}{a:Code}{m:Nat}{s s':S}{ex:Ex}(h:X.Loop f nt Γ a m s ex s')(hm:s.m.st.length=m):X.Go f nt Γ (.loop a) s ex s':=by
 subst hm;exact h.go
theorem Sys.afY {X:Sys}{f:FuncId}{args:List DV}{st:List Ob}{d d':DV}{m:M}{os:List Ob}(h:X.eU [] f args ⟨st,[]⟩ d' m)(hc:nL st.length d' m.st=some (d,os)):X.cD f args st d os:=⟨d',m,h,hc⟩
theorem yB {P:Program}{st:List Ob}{t:TypeId}{id ver off:Nat}{o:Ob}{d:DV}(h:hU st id ver=some o)(hd:oc P t o.cs off=some d):val (iq P st t (.pt id ver off))=some { d:=d}:=by
 simp only[iq,h,hd,val,Option.map_some]
def BD:List (Nat×Nat)->Nat->Nat->Bool
 | [],_,_=>false
 | (a,b)::l,r,i=>(Nat.beq a r&&Nat.beq b i) || BD l r i
def CH {α:Type}:List (Nat×α)->Nat->Option α
 | [],_=>none
 | (a,x)::l,r=>bif Nat.beq a r then some x else CH l r
def Gh {α:Type}:List ((Nat×Nat)×α)->Nat->Nat->Option α
 | [],_,_=>none
 | ((a,b),x)::l,r,i=>bif Nat.beq a r&&Nat.beq b i then some x else Gh l r i
def Ys (mv fz abs own:Nat->List (Nat×Nat))(id:Nat->List ((Nat×Nat)×Nat))(n:Nat->List (Nat×Nat))(live cut rs:Nat->List (Nat×List Nat))(lc:Nat->List ((Nat×Nat)×List Nat))(nz:Nat->List ((Nat×Nat)×List (Nat×Nat))):An:=
 { mv:=fun f=>BD (mv f),fz:=fun f=>BD (fz f),abs:=fun f=>BD (abs f),own:=fun f=>BD (own f),id:=fun f r i=>(Gh (id f) r i).getD 0,n:=fun f r=>(CH (n f) r).getD 0,live:=fun f=>CH (live f),cut:=fun f=>CH (cut f),rs:=fun f=>CH (rs f),lc:=fun f=>Gh (lc f),nz:=fun f r i=>(Gh (nz f) r i).getD []}
end Go.Abs
namespace Go.Abs
open Go
variable [Fl]
inductive K where
 | seq (b:Code)
 | nE (id:Nat)
def fj:Code->List K->Code
 | c,[]=>c
 | c,.seq b::ks=>fj (.seq c b) ks
 | c,.nE id::ks=>fj (.block id c) ks
def sy:Ex->Code
 | .normal=>.skip
 | .exit id=>.exit id
 | .ret=>.ret
def Sys.c8 (X:Sys)(f nt:Nat)(Γ:List (Nat×Ctx))(c1:Code)(s1:S)(c2:Code)(s2:S):Prop:=
 Ev fun k=>cq X.P (X.ev k) X.an f nt Γ k c1 s1=cq X.P (X.ev k) X.an f nt Γ k c2 s2
section
variable {X:Sys}{f nt:Nat}{Γ:List (Nat×Ctx)}
theorem Sys.c8.refl (c:Code)(s:S):X.c8 f nt Γ c s c s:=Ev.of fun _=>rfl
theorem Sys.c8.trans {a b c:Code}{s t u:S}(h:X.c8 f nt Γ a s b t)(h':X.c8 f nt Γ b t c u):X.c8 f nt Γ a s c u:=(Ev.and h h').mono fun _ hh=>hh.1.trans hh.2
theorem Sys.c8.go {a b:Code}{s t s':S}{ex:Ex}(h:X.c8 f nt Γ a s b t)(g:X.Go f nt Γ b t ex s'):X.Go f nt Γ a s ex s':=(Ev.and h g).mono fun _ hh=>hh.1.trans hh.2
theorem Sys.c8.fj:∀(ks:List K) {a b:Code}{s t:S},X.c8 f nt Γ a s b t->X.c8 f nt Γ (Abs.fj a ks) s (Abs.fj b ks) t
 | [],_,_,_,_,h=>h
 | .seq c::ks,a,b,s,t,h=>Sys.c8.fj ks (a:=.seq a c) (b:=.seq b c) (h.mono fun k hk=>by simp only[cq,hk])
 | .nE id::ks,a,b,s,t,h=>Sys.c8.fj ks (a:=.block id a) (b:=.block id b) (h.mono fun k hk=>by simp only[cq,hk])
theorem Sys.c8.ret:∀(ks:List K) (s:S),X.c8 f nt Γ (Abs.fj .ret ks) s .ret s
 | [],s=>.refl _ _
 | .seq c::ks,s=>(Sys.c8.fj ks (a:=.seq .ret c) (b:=.ret) (Ev.of fun k=>rfl)).trans (Sys.c8.ret ks s)
 | .nE id::ks,s=>(Sys.c8.fj ks (a:=.block id .ret) (b:=.ret) (Ev.of fun k=>rfl)).trans (Sys.c8.ret ks s)
theorem Sys.c8.NN {a:Code}{s s':S}{ex:Ex}(h:X.Go f nt Γ a s ex s'):X.c8 f nt Γ a s (sy ex) s':=h.mono fun k hk=>by
 rw[hk]
 cases ex<;>rfl
end
def ae1 (c:Code)(d:Nat):Nat:=match c with
 | .seq .. =>ep c * 1000+d+200000
 | .block .. =>ep c * 1000+d+200000
 | .scope .. =>ep c * 1000+d+200250
 | .cond .. =>ep c * 1000+d+200500
 | _=>0
def gU (X:Sys)(f nt:Nat)(Γ:List (Nat×Ctx))(T:Told)(stop:Nat):Nat->Bool->Code->List K->S->Option (Code×List K×S×List Prop)
 | 0,_,_,_,_=>none
 | n+1,fst,c,ks,s=>if !fst&&(ae1 c ks.length==stop)then some (c,ks,s,[])else match c with
  | .seq a b=>gU X f nt Γ T stop n fst a (.seq b::ks) s
  | .block id a=>gU X f nt Γ T stop n fst a (.nE id::ks) s
  | .scope a=>gU X f nt Γ T stop n fst a ks s
  | .label _=>gU X f nt Γ T stop n fst .skip ks s
  | .skip=>match ks with
   | []=>some (.skip,[],s,[])
   | .seq b::ks=>gU X f nt Γ T stop n fst b ks s
   | .nE _::ks=>gU X f nt Γ T stop n fst .skip ks s
  | .exit id=>match ks with
   | []=>some (.exit id,[],s,[])
   | .seq _::ks=>gU X f nt Γ T stop n fst (.exit id) ks s
   | .nE cr::ks=>if id=cr then gU X f nt Γ T stop n fst .skip ks s else gU X f nt Γ T stop n fst (.exit id) ks s
  | .ret=>some (.ret,[],s,[])
  | .cond x a b=>match ev s.fr x with
   | .c (.sc (.bool true))=>gU X f nt Γ T stop n fst a ks s
   | .c (.sc (.bool false))=>gU X f nt Γ T stop n fst b ks s
   | _=>none
  | .region cd ops draw=>
   if !fst&&cd==stop then some (.region cd ops draw,ks,s,[])else
   match Hr X f nt Γ cd ops draw T s with
   | some (s',ps)=>match gU X f nt Γ T stop n false .skip ks s' with
    | some (c',ks',vR,qs)=>some (c',ks',vR,ps++qs)
    | none=>none
   | none=>none
  | .loop a=>
   if !fst&&(ep a+100000)==stop then some (.loop a,ks,s,[])else
   match told T (ep a) 1000 with
   | some (.code ex s')=>match gU X f nt Γ T stop n false (sy ex) ks s' with
    | some (c',ks',vR,qs)=>some (c',ks',vR,X.Go f nt Γ (.loop a) s ex s'::qs)
    | none=>none
   | _=>none
  | .rangeFunc g ps as body=>
   if !fst&&(ep body+100000)==stop then some (.rangeFunc g ps as body,ks,s,[])else
   match told T (ep body) 1000 with
   | some (.code ex s')=>match gU X f nt Γ T stop n false (sy ex) ks s' with
    | some (c',ks',vR,qs)=>some (c',ks',vR,X.Go f nt Γ (.rangeFunc g ps as body) s ex s'::qs)
    | none=>none
   | _=>none
  | _=>none
theorem V6 {X:Sys}{f nt:Nat}{Γ:List (Nat×Ctx)}{T:Told}{stop:Nat}:∀(n:Nat) (fst:Bool) (c:Code) (ks:List K) (s:S) {c':Code}{ks':List K}{s':S}{ps:List Prop},gU X f nt Γ T stop n fst c ks s=some (c',ks',s',ps)->bQ ps->X.c8 f nt Γ (fj c ks) s (fj c' ks') s'
 | 0,fst,c,ks,s,_,_,_,_,h,_=>by simp[gU]at h
 | n+1,fst,c,ks,s,c',ks',s',ps,h,hp=>by
  have ih:=fun fst c ks s {c' ks' s' ps}=>V6 (X:=X) (f:=f) (nt:=nt) (Γ:=Γ) (T:=T) (stop:=stop) n fst c ks s (c':=c') (ks':=ks') (s':=s') (ps:=ps)
  unfold gU at h
  split at h
  ·cases h;exact .refl _ _
  cases c with
  | seq a b=>dsimp only at h;exact ih fst a (.seq b::ks) s h hp
  | block id a=>dsimp only at h;exact ih fst a (.nE id::ks) s h hp
  | scope a=>dsimp only at h;exact(Sys.c8.fj ks (a:=.scope a) (b:=a) (Ev.of fun k=>rfl)).trans (ih _ _ _ _ h hp)
  | label l=>dsimp only at h;exact(Sys.c8.fj ks (a:=.label l) (b:=.skip) (Ev.of fun k=>rfl)).trans (ih _ _ _ _ h hp)
  | skip=>
   cases ks with
   | nil=>dsimp only at h;cases h;exact .refl _ _
   | cons k0 ks=>
    cases k0 with
    | seq b=>dsimp only at h;exact(Sys.c8.fj ks (a:=.seq .skip b) (b:=b) (Ev.of fun k=>rfl)).trans (ih _ _ _ _ h hp)
    | nE id=>dsimp only at h;exact(Sys.c8.fj ks (a:=.block id .skip) (b:=.skip) (Ev.of fun k=>rfl)).trans (ih _ _ _ _ h hp)
  | exit id=>
   cases ks with
   | nil=>dsimp only at h;cases h;exact .refl _ _
   | cons k0 ks=>
    cases k0 with
    | seq b=>dsimp only at h;exact(Sys.c8.fj ks (a:=.seq (.exit id) b) (b:=.exit id) (Ev.of fun k=>rfl)).trans (ih _ _ _ _ h hp)
    | nE cr=>
     dsimp only at h
     split at h
     ·rename_i hid
      subst hid
      exact(Sys.c8.fj ks (a:=.block id (.exit id)) (b:=.skip) (Ev.of fun k=>by simp[cq])).trans (ih _ _ _ _ h hp)
     ·rename_i hid
      exact(Sys.c8.fj ks (a:=.block cr (.exit id)) (b:=.exit id) (Ev.of fun k=>by simp[cq,hid])).trans (ih _ _ _ _ h hp)
  | ret=>dsimp only at h;cases h;exact Sys.c8.ret ks s
  | cond x a b=>
   dsimp only at h
   split at h
   ·rename_i hx
    exact(Sys.c8.fj ks (a:=.cond x a b) (b:=a) (Ev.of fun k=>by simp only[cq,hx])).trans (ih _ _ _ _ h hp)
   ·rename_i hx
    exact(Sys.c8.fj ks (a:=.cond x a b) (b:=b) (Ev.of fun k=>by simp only[cq,hx])).trans (ih _ _ _ _ h hp)
   ·cases h
  | region cd ops draw=>
   dsimp only at h
   split at h
   ·cases h;exact .refl _ _
   ·split at h
    ·rename_i s1 jk h1
     split at h
     ·rename_i c2 M6 s2 qs h2
      cases h
      obtain⟨jh,ij⟩:=hp.append
      exact(Sys.c8.fj ks (a:=.region cd ops draw) (b:=.skip) ((V5 h1 jh).mono fun k hk=>by simp only[cq,hk,Option.map_some])).trans (ih _ _ _ _ h2 ij)
     ·cases h
    ·cases h
  | loop a=>
   dsimp only at h
   split at h
   ·cases h;exact .refl _ _
   ·split at h
    ·rename_i ex s1 h1
     split at h
     ·rename_i c2 M6 s2 qs h2
      cases h
      obtain⟨jh,ij⟩:=bQ.cons hp
      exact(Sys.c8.fj ks (a:=.loop a) (b:=sy ex) (Sys.c8.NN jh)).trans (ih _ _ _ _ h2 ij)
     ·cases h
    ·cases h
  | rangeFunc g ps as body=>
   dsimp only at h
   split at h
   ·cases h;exact .refl _ _
   ·split at h
    ·rename_i ex s1 h1
     split at h
     ·rename_i c2 M6 s2 qs h2
      cases h
      obtain⟨jh,ij⟩:=bQ.cons hp
      exact(Sys.c8.fj ks (a:=.rangeFunc g ps as body) (b:=sy ex) (Sys.c8.NN jh)).trans (ih _ _ _ _ h2 ij)
     ·cases h
    ·cases h
  | _=>dsimp only at h;cases h
def fH:Code->List Nat->List K->Option (Code×List K)
 | c,[],ks=>some (c,ks)
 | .seq a b,0::p,ks=>fH a p (.seq b::ks)
 | .seq a b,_::p,ks=>fH b p ks
 | .cond _ a b,0::p,ks=>fH a p ks
 | .cond _ a b,_::p,ks=>fH b p ks
 | .block id a,_::p,ks=>fH a p (.nE id::ks)
 | .scope a,_::p,ks=>fH a p ks
 | _,_::_,_=>none
inductive Pos where
 | at(p:List Nat)
 | ex (p:List Nat) (ex:Ex)
 | fin (ex:Ex)
def Pos.Cw:Pos->Bool
 | .at _=>true
 | _=>false
def resolve (b:Code):Pos->Option (Code×List K)
 | .at p=>fH b p []
 | .ex p ex=>(fH b p []).map fun x=>(sy ex,x.2)
 | .fin ex=>some (sy ex,[])
def Sys.ja (X:Sys)(f nt:Nat)(b:Code)(pos:Pos)(s:S)(Q:Ex->S->Prop):Prop:=∃c ks,resolve b pos=some (c,ks)∧∃ex s',X.Go f nt [] (fj c ks) s ex s'∧Q ex s'
def jY (X:Sys)(f nt:Nat)(T:Told)(stop:Nat)(b:Code)(pos:Pos)(s:S):Option (Option (Code×List K)×S)×Prop:=
 match resolve b pos with
 | some (c,ks)=>match gU X f nt [] T stop 5000 pos.Cw c ks s with
  | some (c',ks',s',ps)=>(some (some (c',ks'),s'),bQ ps)
  | none=>(none,False)
 | none=>(none,False)
section
variable {X:Sys}{f nt:Nat}{b:Code}{Q:Ex->S->Prop}
theorem Sys.to {pos:Pos}{s:S}(T:Told)(stop:Nat)(pos':Pos)(s':S){p:Prop}(h:p)(e:jY X f nt T stop b pos s=(some (resolve b pos',s'),p))(g:X.ja f nt b pos' s' Q):X.ja f nt b pos s Q:=by
 unfold jY at e
 split at e
 ·rename_i c ks hr
  split at e
  ·rename_i c' ks' s1 ps ht
   simp only[Prod.mk.injEq,Option.some.injEq]at e
   obtain⟨⟨h1,rfl⟩,rfl⟩:=e
   obtain⟨c2,M6,h2,ex,s2,hg,hq⟩:=g
   rw[←h1]at h2;cases h2
   exact⟨c,ks,hr,ex,s2,(V6 _ _ _ _ _ ht h).go hg,hq⟩
  ·simp at e
 ·simp at e
theorem vP:∀(b:Code) (p:List Nat) (ks:List K) {c:Code}{ks':List K},fH b p ks=some (c,ks')->c=sub b p
 | b,[],ks,c,ks',h=>by
  have h:some (b,ks)=some (c,ks'):=by cases b<;>exact h
  cases h
  cases b<;>rfl
 | .seq a b,x::p,ks,c,ks',h=>by
  cases x with
  | zero=>exact(vP a p (.seq b::ks) (by simpa[fH]using h)).trans (by simp[sub])
  | succ x=>exact(vP b p ks (by simpa[fH]using h)).trans (by simp[sub])
 | .cond y a b,x::p,ks,c,ks',h=>by
  cases x with
  | zero=>exact(vP a p ks (by simpa[fH]using h)).trans (by simp[sub])
  | succ x=>exact(vP b p ks (by simpa[fH]using h)).trans (by simp[sub])
 | .block id a,x::p,ks,c,ks',h=>(vP a p (.nE id::ks) (by simpa[fH]using h)).trans (by simp[sub])
 | .scope a,x::p,ks,c,ks',h=>(vP a p ks (by simpa[fH]using h)).trans (by simp[sub])
 | .skip,_::_,ks,c,ks',h=>by simp[fH]at h
 | .region ..,_::_,ks,c,ks',h=>by simp[fH]at h
 | .loop _,_::_,ks,c,ks',h=>by simp[fH]at h
 | .exit _,_::_,ks,c,ks',h=>by simp[fH]at h
 | .ret,_::_,ks,c,ks',h=>by simp[fH]at h
 | .rangeFunc ..,_::_,ks,c,ks',h=>by simp[fH]at h
 | .label _,_::_,ks,c,ks',h=>by simp[fH]at h
 | .goto _,_::_,ks,c,ks',h=>by simp[fH]at h
 | .refuse _,_::_,ks,c,ks',h=>by simp[fH]at h
theorem Sys.NT {p:List Nat}{s s1:S}{ex:Ex}(hg:X.Go f nt [] (sub b p) s ex s1)(g:X.ja f nt b (.ex p ex) s1 Q):X.ja f nt b (.at p) s Q:=by
 obtain⟨c,ks,h1,LV,s',h2,h3⟩:=g
 simp only[resolve,Option.map_eq_some_iff]at h1
 obtain⟨⟨c0,ks0⟩,h4,h5⟩:=h1
 cases h5
 have:=vP b p [] h4
 subst this
 exact⟨_,_,h4,LV,s',(Sys.c8.fj ks0 (Sys.c8.NN hg)).go h2,h3⟩
theorem Sys.fin {ex:Ex}{s:S}(h:Q ex s):X.ja f nt b (.fin ex) s Q:=⟨_,_,rfl,ex,s,Ev.of fun k=>by cases ex<;>rfl,h⟩
theorem Sys.Bv {s:S}(h:X.ja f nt b (.at []) s Q):∃ex s',X.Go f nt [] b s ex s'∧Q ex s':=by
 obtain⟨c,ks,h1,ex,s',h2,h3⟩:=h
 have:c=b∧ks=[]:=by
  cases b<;>(simp only[resolve,fH,Option.some.injEq,Prod.mk.injEq]at h1;exact⟨h1.1.symm,h1.2.symm⟩)
 obtain⟨rfl,rfl⟩:=this
 exact⟨ex,s',h2,h3⟩
end
theorem Sys.dZ {X:Sys}{f nt:Nat}{b:Code}{s ST:S}{EX:Ex}(h:X.ja f nt b (.at []) s (fun ex s'=>ex=EX∧s'=ST)):X.Go f nt [] b s EX ST:=by
 obtain⟨ex,s',h1,rfl,rfl⟩:=Sys.Bv h
 exact h1
def xt (X:Sys)(fn:Func)(d:DV)(ex:Ex)(s:S):Prop:=sW ex=false∧∃d',(jW X.P s fn.results.toList).map lA=some d'∧eF s.m.st d'=some d
def Ep (X:Sys)(fn:Func)(k:Nat)(d:DV)(os:List Ob)(ex:Ex)(s:S):Prop:=sW ex=false∧∃d',(jW X.P s fn.results.toList).map lA=some d'∧nL k d' s.m.st=some (d,os)
def Eo (X:Sys)(fn:Func)(d:DV)(m:M)(ex:Ex)(s:S):Prop:=sW ex=false∧(jW X.P s fn.results.toList).map lA=some d∧s.m=m
theorem Sys.ZY {X:Sys}{f:FuncId}{fn:Func}{b:Code}{args:List DV}{d:DV}(hf:X.P.funcs[f]? =some fn)(hb:fn.body=some b)(h:X.ja f fn.ntmps b (.at []) ⟨mO args,⟨[],[]⟩⟩ (xt X fn d)):X.bg f args d:=by
 obtain⟨ex,s',hg,h1,d',h2,h3⟩:=Sys.Bv h
 exact Sys.ZX (Sys.call hg hf hb h1 h2 rfl) h3
theorem Sys.Z2 {X:Sys}{f:FuncId}{fn:Func}{b:Code}{args:List DV}{st:List Ob}{k:Nat}{d:DV}{os:List Ob}(hf:X.P.funcs[f]? =some fn)(hb:fn.body=some b)(hk:st.length=k)(h:X.ja f fn.ntmps b (.at []) ⟨mO args,⟨st,[]⟩⟩ (Ep X fn k d os)):X.cD f args st d os:=by
 obtain⟨ex,s',hg,h1,d',h2,h3⟩:=Sys.Bv h
 subst hk
 exact Sys.afY (Sys.call hg hf hb h1 h2 rfl) h3
theorem Sys.Z1 {X:Sys}{f:FuncId}{fn:Func}{b:Code}{args:List DV}{d:DV}{m:M}(hf:X.P.funcs[f]? =some fn)(hb:fn.body=some b)(h:X.ja f fn.ntmps b (.at []) ⟨mO args,⟨[],[]⟩⟩ (Eo X fn d m)):X.eU [] f args ⟨[],[]⟩ d m:=by
 obtain⟨ex,s',hg,h1,h2,h3⟩:=Sys.Bv h
 exact Sys.call hg hf hb h1 h2 h3
def Bm:Code->List K->Option Ex
 | .ret,[]=>some .ret
 | .skip,[]=>some .normal
 | .exit id,[]=>some (.exit id)
 | _,_=>none
theorem abr {c:Code}{ks:List K}{ex:Ex}(h:Bm c ks=some ex):c=sy ex∧ks=[]:=by
 unfold Bm at h
 split at h<;>first | (cases h;exact⟨rfl,rfl⟩) | cases h
def oq (X:Sys)(f nt:Nat)(T:Told)(b:Code)(pos:Pos)(s:S):Option ((Ex×S)×Prop):=
 match resolve b pos with
 | some (c,ks)=>match gU X f nt [] T 999999 5000 pos.Cw c ks s with
  | some (c',ks',s',ps)=>match Bm c' ks' with
   | some ex=>some ((ex,s'),bQ ps)
   | none=>none
  | none=>none
 | none=>none
theorem wv {X:Sys}{f nt:Nat}{b:Code}{Q:Ex->S->Prop}{T:Told}{pos:Pos}{s s':S}{ex:Ex}{p:Prop}(h:p)(e:oq X f nt T b pos s=some ((ex,s'),p))(q:Q ex s'):X.ja f nt b pos s Q:=by
 unfold oq at e
 split at e
 ·rename_i c ks hr
  split at e
  ·rename_i c' ks' s1 ps ht
   split at e
   ·rename_i ex1 hx
    obtain⟨rfl,rfl⟩:=abr hx
    cases e
    exact Sys.to T 999999 (.fin ex) s' h (by unfold jY;rw[hr];simp only[ht];rfl) (Sys.fin q)
   ·cases e
  ·cases e
 ·cases e
theorem Sys.abd {X:Sys}{f nt:Nat}{b:Code}{pos:Pos}{s ST:S}{EX:Ex}(T:Told){p:Prop}(h:p)(e:oq X f nt T b pos s=some ((EX,ST),p)):X.ja f nt b pos s (fun ex s'=>ex=EX∧s'=ST):=wv h e ⟨rfl,rfl⟩
def Hq (X:Sys)(f:Nat)(fn:Func)(nt:Nat)(T:Told)(b:Code)(pos:Pos)(s:S):Option (DV×Prop):=
 match oq X f nt T b pos s with
 | some ((ex,s'),p)=>if sW ex then none else match(jW X.P s' fn.results.toList).map lA with
  | some d'=>match eF s'.m.st d' with
   | some d=>some (d,p)
   | none=>none
  | none=>none
 | none=>none
theorem Sys.abc {X:Sys}{f nt:Nat}{fn:Func}{b:Code}{pos:Pos}{s:S}{d:DV}(T:Told){p:Prop}(h:p)(e:Hq X f fn nt T b pos s=some (d,p)):X.ja f nt b pos s (xt X fn d):=by
 unfold Hq at e
 split at e
 ·rename_i ex s' p' he
  split at e
  ·cases e
  ·rename_i hx
   split at e
   ·rename_i d' hr
    split at e
    ·rename_i d2 hc
     cases e
     exact wv h he ⟨by simpa using hx,d',hr,hc⟩
    ·cases e
   ·cases e
 ·cases e
def OF (X:Sys)(f:Nat)(fn:Func)(nt:Nat)(T:Told)(b:Code)(pos:Pos)(s:S):Option ((DV×M)×Prop):=
 match oq X f nt T b pos s with
 | some ((ex,s'),p)=>if sW ex then none else match(jW X.P s' fn.results.toList).map lA with
  | some d'=>some ((d',s'.m),p)
  | none=>none
 | none=>none
theorem Sys.abe {X:Sys}{f nt:Nat}{fn:Func}{b:Code}{pos:Pos}{s:S}{d:DV}{m:M}(T:Told){p:Prop}(h:p)(e:OF X f fn nt T b pos s=some ((d,m),p)):X.ja f nt b pos s (Eo X fn d m):=by
 unfold OF at e
 split at e
 ·rename_i ex s' p' he
  split at e
  ·cases e
  ·rename_i hx
   split at e
   ·rename_i d' hr
    cases e
    exact wv h he ⟨by simpa using hx,hr,rfl⟩
   ·cases e
 ·cases e
def EA (X:Sys)(f nt:Nat)(a:Code)(m:Nat)(EX:Ex)(ST:S)(ex:Ex)(s1:S):Prop:=
 (ex= .normal∧∃s2,ss (X.an.cut f (ep a)) m s1=some s2∧X.Loop f nt [] a m s2 EX ST)∨(uR ex=false∧ex=EX∧s1=ST)
theorem Sys.Bh {X:Sys}{f nt:Nat}{a b:Code}{m:Nat}{pos:Pos}{s ST:S}{EX:Ex}(T:Told){p:Prop}(h:p)(hx:uR EX=false)(e:oq X f nt T b pos s=some ((EX,ST),p)):X.ja f nt b pos s (EA X f nt a m EX ST):=wv h e (.inr ⟨hx,rfl,rfl⟩)
theorem Sys.bj {X:Sys}{f nt:Nat}{a:Code}{m:Nat}{EX:Ex}{ST s s0:S}(hs:km (X.an.rs f (ep a)) s=s0)(h:X.ja f nt a (.at []) s0 (EA X f nt a m EX ST)):X.Loop f nt [] a m s EX ST:=by
 obtain⟨ex,s1,hg,hq⟩:=Sys.Bv h
 rcases hq with ⟨rfl,s2,h1,h2⟩ | ⟨h1,rfl,rfl⟩
 ·exact .step hs hg h1 h2
 ·exact .exit hs hg fun hh=>by subst hh;simp[uR]at h1
end Go.Abs
