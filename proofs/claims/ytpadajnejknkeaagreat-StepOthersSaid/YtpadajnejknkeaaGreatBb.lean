/-
  Part of the proof: printed by the session's own program out of the program's form, or typed; it states no claim by itself.
-/
import Derived.Test.YtpadajnejknkeaaGreatBa
import Derived.Laws.StructEq
namespace Go.Abs
open Go
section
variable {P:Program}{n0:Nat}{PR:Addr->Prop}{e:E}{al:Own->Addr->Prop}
theorem E2 {t:TypeId}{cs:Array Value}{off:Nat}{v:Value}(h:eo.cut P t cs off=some v)(w:World):(part t cs off).run P w= .ok v w:=by
 unfold eo.cut at h
 split at h
 ·rename_i fs hu
  rw[Option.map_eq_some_iff]at h
  obtain⟨i,hi,rfl⟩:=h
  simp[part,isAgg,run_underlying hu,sizeOf,typeInfo,hi]
 ·rename_i n el hu
  rw[Option.map_eq_some_iff]at h
  obtain⟨i,hi,rfl⟩:=h
  simp[part,isAgg,run_underlying hu,sizeOf,typeInfo,hi]
 ·rename_i d h1 h2 hu
  have:(isAgg t).run P w= .ok false w:=by
   simp only[isAgg,Sem.run_bind,run_underlying hu,Result.andThen_ok]
   cases d<;>simp_all
  simp[part,this,h]
 ·cases h
theorem LN {d:Nat}(ih:∀(t:TypeId) (x y:Value) (b:Bool),eo P d t x y=some b->∀w,(Op.equalIn d t x y).run P w= .ok b w)(xs ys:Array Value):
  ∀(fs:List Field) (b:Bool),qz P (eo P d) xs ys fs=some b->∀w,(Op.eqFields d xs ys fs).run P w= .ok b w
 | [],b,h,w=>by simp[qz]at h;subst h;rfl
 | f::fs,b,h,w=>by
  unfold qz at h
  unfold Op.eqFields
  split at h
  ·rename_i hn
   split at h
   ·rename_i u v h1 h2
    rw[if_pos hn]
    simp only[Sem.run_bind,E2 h1,E2 h2,Result.andThen_ok]
    split at h
    ·rename_i h3
     simp only[ih _ _ _ _ h3,Result.andThen_ok,Bool.not_true,Bool.false_eq_true,if_false]
     exact LN ih xs ys fs b h w
    ·rename_i h3
     cases b with
     | true=>exact absurd h h3
     | false=>simp only[ih _ _ _ _ h,Result.andThen_ok,Bool.not_false,if_true,Sem.run_pure]
   ·cases h
  ·rename_i hn
   rw[if_neg hn]
   exact LN ih xs ys fs b h w
theorem RN {d el size:Nat}(ih:∀(t:TypeId) (x y:Value) (b:Bool),eo P d t x y=some b->∀w,(Op.equalIn d t x y).run P w= .ok b w)(xs ys:Array Value):
  ∀(l:List Nat) (b:Bool),Bj P (eo P d) el size xs ys l=some b->∀w,
  (Sem.run P (forIn l ((none,()):Option Bool×Unit) fun i _=>(do
   let a←part el xs (i * size)
   let c←part el ys (i * size)
   let q←Op.equalIn d el a c
   if(!q)=true then pure (ForInStep.done (some false,()))else pure (ForInStep.yield (none,())):Sem (ForInStep (Option Bool×Unit)))) w)= .ok (if b then none else some false,()) w
 | [],b,h,w=>by simp[Bj]at h;subst h;rfl
 | i::is,b,h,w=>by
  unfold Bj at h
  split at h
  ·rename_i u v h1 h2
   simp only[List.forIn_cons,Sem.run_bind,E2 h1,E2 h2,Result.andThen_ok]
   split at h
   ·rename_i h3
    simp only[ih _ _ _ _ h3,Result.andThen_ok,Bool.not_true,Bool.false_eq_true,if_false,Sem.run_pure]
    exact RN ih xs ys is b h w
   ·rename_i h3
    cases b with
    | true=>exact absurd h h3
    | false=>simp only[ih _ _ _ _ h,Result.andThen_ok,Bool.not_false,if_true,Sem.run_pure,Bool.false_eq_true,if_false]
  ·cases h
theorem LP:∀(d:Nat) (t:TypeId) (x y:Value) (b:Bool),eo P d t x y=some b->∀w,(Op.equalIn d t x y).run P w= .ok b w
 | 0,_,_,_,_,h,_=>by simp[eo]at h
 | d+1,t,x,y,b,h,w=>by
  unfold eo at h
  split at h
  ·rename_i hu;cases h;exact run_equalIn_bool' w d t _ _ hu
  ·rename_i hu
   split at h
   ·rename_i hk;subst hk;cases h;exact run_equalIn_int w d t _ _ _ _ hu
   ·cases h
  ·rename_i hu;cases h;exact run_equalIn_string w d t _ _ hu
  ·rename_i fs xs ys hu
   split at h
   ·cases h
   ·rename_i hp
    have hf:P.fieldsOf t=fs:=by simp[Program.fieldsOf,hu]
    rw[run_equalIn_struct w d t xs ys (by rw[hf];exact hu) (by simpa using hp),hf]
    exact LN (LP d) xs ys fs.toList b h w
  ·rename_i len el xs ys hu
   split at h
   ·rename_i i hi
    simp only[Op.equalIn,Sem.run_bind,run_underlying hu,Result.andThen_ok,sizeOf,typeInfo,run_program,hi,Sem.run_pure]
    have:=RN (LP d) xs ys (List.range len) b h w
    rw[Std.Legacy.Range.forIn_eq_forIn_range']
    simp only[Std.Legacy.Range.size,Nat.sub_zero,Nat.add_sub_cancel,Nat.div_one]
    rw[←List.range_eq_range']
    erw [this]
    cases b<;>rfl
   ·cases h
  ·cases h
def kx (P:Program)(e:E)(m:Sem Value)(d:DV):Prop:=∃u,m.run P e.w= .ok u e.w∧∀s,RD e s d u
theorem U6 {im:Addr->Prop}{w:World}:∀{cs:List CV}{us vs:List Value},jX cs=some us->bh im w cs vs->vs=us
 | [],us,_,h,.nil=>by simp[jX]at h;exact h.symm
 | .sc v::cs,us,_,h,.cons _ a b=>by
  simp only[jX,Option.map_eq_some_iff]at h
  obtain⟨OU,h',rfl⟩:=h
  cases a
  rw[U6 h' b]
 | .agg _::_,_,_,h,_=>by simp[jX]at h
 | .sl .. ::_,_,_,h,_=>by simp[jX]at h
theorem Wg {im:Addr->Prop}{w:World}{c:CV}{u v:Value}(h:ot c=some u)(r:RC im w c v):v=u:=by
 cases c with
 | sc x=>simp[ot]at h;subst h;cases r;rfl
 | agg cs=>
  simp only[ot,Option.map_eq_some_iff]at h
  obtain⟨us,hs,rfl⟩:=h
  cases r with
  | agg hr=>rw[U6 hs hr]
 | sl=>simp[ot]at h
theorem oT {op:BinOp}{t:TypeId}{x y:Operand}{a b:Value}{w:World}(h:(∃u v,a= .agg u∧b= .agg v)->P.eqGuardType P.depth t=false)(h2:a≠ .nilIface∨b≠ .nilIface):
  (eqGuard op t x y a b).run P w= .ok () w:=by
 unfold eqGuard
 by_cases jB:op= .eql∨op= .neq
 ·have:(!(match op with | .eql | .neq=>true | _=>false))=false:=by rcases jB with rfl | rfl<;>rfl
  cases a<;>cases b<;>first
   | (rcases jB with rfl | rfl<;>simp_all;done)
   | (rcases jB with rfl | rfl<;>(have:=h ⟨_,_,rfl,rfl⟩;simp[this]);done)
 ·have:op≠ .eql∧op≠ .neq:=by simpa[not_or]using jB
  cases op<;>simp_all
theorem abp {d:Nat}{t:TypeId}{x y:Value}{b:Bool}(h:eo P d t x y=some b):
  (∃a c,x= .bool a∧y= .bool c)∨(∃k a k' c,x= .int k a∧y= .int k' c)∨(∃a c,x= .string a∧y= .string c)∨(∃a c,x= .agg a∧y= .agg c):=by
 cases d with
 | zero=>simp[eo]at h
 | succ d=>
  unfold eo at h
  split at h
  ·exact .inl ⟨_,_,rfl,rfl⟩
  ·exact .inr (.inl ⟨_,_,_,_,rfl,rfl⟩)
  ·exact .inr (.inr (.inl ⟨_,_,rfl,rfl⟩))
  ·exact .inr (.inr (.inr ⟨_,_,rfl,rfl⟩))
  ·exact .inr (.inr (.inr ⟨_,_,rfl,rfl⟩))
  ·cases h
theorem Fe {t el:TypeId}(hu:P.underlying t=some (.slice el))(a:Option Addr)(n c:Nat)(w:World):(Op.equal t (.slice a n c) (.slice none 0 0)).run P w= .ok a.isNone w:=by
 have:∀d,(Op.equalIn (d+1) t (.slice a n c) (.slice none 0 0)).run P w= .ok a.isNone w:=fun d=>by cases a<;>simp[Op.equalIn,run_underlying hu]
 exact this 9999
theorem Ff {t el:TypeId}(hu:P.underlying t=some (.slice el))(a:Option Addr)(n c:Nat)(w:World):(Op.equal t (.slice none 0 0) (.slice a n c)).run P w= .ok a.isNone w:=by
 have:∀d,(Op.equalIn (d+1) t (.slice none 0 0) (.slice a n c)).run P w= .ok a.isNone w:=fun d=>by simp[Op.equalIn,run_underlying hu]
 exact this 9999
theorem RU {t el:TypeId}(hu:P.underlying t=some (.pointer el))(a:Addr)(w:World):(Op.equal t (.pointer (some a)) (.pointer none)).run P w= .ok false w:=by
 have:∀d,(Op.equalIn (d+1) t (.pointer (some a)) (.pointer none)).run P w= .ok false w:=fun d=>by simp[Op.equalIn,run_underlying hu]
 exact this 9999
theorem RV {t el:TypeId}(hu:P.underlying t=some (.pointer el))(a:Addr)(w:World):(Op.equal t (.pointer none) (.pointer (some a))).run P w= .ok false w:=by
 have:∀d,(Op.equalIn (d+1) t (.pointer none) (.pointer (some a))).run P w= .ok false w:=fun d=>by simp[Op.equalIn,run_underlying hu]
 exact this 9999
theorem Vk {im:Addr->Prop}{w:World}{nl x:Bool}{cs:List CV}{len:Nat}{v:Value}(r:RC im w (.sl nl x cs len) v):∃a n c,v= .slice a n c∧a.isNone=nl:=by
 cases r with
 | nil=>exact⟨_,_,_,rfl,rfl⟩
 | sl=>exact⟨_,_,_,rfl,rfl⟩
theorem GM {im:Addr->Prop}{w:World}{x:Bool}{cs:List CV}{len:Nat}{v:Value}(r:RC im w (.sl true x cs len) v):v= .slice none 0 0∧cs=[]∧len=0:=by
 cases r;exact⟨rfl,rfl,rfl⟩
theorem RQ {t:TypeId}{x y:DV}{b:Bool}{u v:Value}{s s':Addr->Prop}(h:iJ P t x y=some b)(r1:RD e s x u)(r2:RD e s' y v)
  (hi:∀k a k' c,x= .c (.sc (.int k a))->y= .c (.sc (.int k' c))->False) (hs:∀a c,x= .c (.sc (.string a))->y= .c (.sc (.string c))->False) (op:BinOp) (ox oy:Operand):
  (eqGuard op t ox oy u v).run P e.w= .ok () e.w∧(binOp .eql t u v).run P e.w= .ok (.bool b) e.w∧(binOp .neq t u v).run P e.w= .ok (.bool !b) e.w:=by
 unfold iJ at h
 split at h
 ·split at h
  ·rename_i el hu
   cases h
   cases r1 with
   | c r1=>cases r2 with
    | c r2=>
     obtain⟨rfl,_,_⟩:=GM r2
     obtain⟨a,n,c,rfl,rfl⟩:=Vk r1
     exact⟨oT (by rintro⟨_,_,h,_⟩;cases h) (.inl (by simp)),by simp[binOp,Fe hu],by simp[binOp,Fe hu]⟩
  ·cases h
 ·split at h
  ·rename_i el hu
   cases h
   cases r1 with
   | c r1=>cases r2 with
    | c r2=>
     obtain⟨rfl,_,_⟩:=GM r1
     obtain⟨a,n,c,rfl,rfl⟩:=Vk r2
     exact⟨oT (by rintro⟨_,_,h,_⟩;cases h) (.inl (by simp)),by simp[binOp,Ff hu],by simp[binOp,Ff hu]⟩
  ·cases h
 ·split at h
  ·rename_i el hu
   cases h
   cases r2 with
   | c r2=>
    obtain⟨rfl,_,_⟩:=GM r2
    cases r1 with
    | ms=>exact⟨oT (by rintro⟨_,_,h,_⟩;cases h) (.inl (by simp)),by simp[binOp,Fe hu],by simp[binOp,Fe hu]⟩
  ·cases h
 ·split at h
  ·rename_i el hu
   cases h
   cases r1 with
   | c r1=>
    obtain⟨rfl,_,_⟩:=GM r1
    cases r2 with
    | ms=>exact⟨oT (by rintro⟨_,_,h,_⟩;cases h) (.inl (by simp)),by simp[binOp,Ff hu],by simp[binOp,Ff hu]⟩
  ·cases h
 ·split at h
  ·rename_i el hu
   cases h
   cases r2 with
   | c r2=>
    cases r2
    cases r1 with
    | pt=>exact⟨oT (by rintro⟨_,_,h,_⟩;cases h) (.inl (by simp)),by simp[binOp,RU hu],by simp[binOp,RU hu]⟩
  ·cases h
 ·split at h
  ·rename_i el hu
   cases h
   cases r1 with
   | c r1=>
    cases r1
    cases r2 with
    | pt=>exact⟨oT (by rintro⟨_,_,h,_⟩;cases h) (.inl (by simp)),by simp[binOp,RV hu],by simp[binOp,RV hu]⟩
  ·cases h
 ·rename_i a c _ _
  split at h
  ·rename_i p q hp hq
   split at h
   ·cases h
   ·rename_i hg
    cases r1 with
    | c r1=>cases r2 with
     | c r2=>
      rw[Wg hp r1,Wg hq r2]
      have he:(Op.equal t p q).run P e.w= .ok b e.w:=LP 10000 t p q b h e.w
      rcases abp h with ⟨a',c',rfl,rfl⟩ | ⟨k,a',k',c',rfl,rfl⟩ | ⟨a',c',rfl,rfl⟩ | ⟨a',c',rfl,rfl⟩
      ·exact⟨oT (by rintro⟨_,_,h,_⟩;cases h) (.inl (by simp)),by simp[binOp,he],by simp[binOp,he]⟩
      ·exfalso
       cases a<;>simp[ot]at hp
       cases c<;>simp[ot]at hq
       subst hp;subst hq
       exact hi _ _ _ _ rfl rfl
      ·exfalso
       cases a<;>simp[ot]at hp
       cases c<;>simp[ot]at hq
       subst hp;subst hq
       exact hs _ _ rfl rfl
      ·exact⟨oT (fun _=>by simpa using hg) (.inl (by simp)),by simp[binOp,he],by simp[binOp,he]⟩
  ·cases h
 ·cases h
theorem ZP {op:BinOp}{x y r:Value}(h:iG op x y=some r):Cz r=true:=by
 cases x with
 | int k a=>
  cases y with
  | int k' b=>
   cases op<;>simp only[iG]at h
   all_goals (split at h)
   all_goals (first | (cases h;done) | skip)
   all_goals (try (split at h))
   all_goals (first | (cases h;done) | skip)
   all_goals (cases h;rfl)
  | _=>cases op<;>simp[iG]at h
 | string a=>
  cases y with
  | string b=>
   cases op<;>simp only[iG]at h
   all_goals (try (split at h))
   all_goals (first | (cases h;done) | skip)
   all_goals (cases h;rfl)
  | _=>cases op<;>simp[iG]at h
 | _=>cases op<;>simp[iG]at h
theorem ZN {op:BinOp}{t:TypeId}{x y d:DV}{u v:Value}{s s':Addr->Prop}(h:uC P op t x y=some d)(r1:RD e s x u)(r2:RD e s' y v)(ox oy:Operand):
  kx P e (do eqGuard op t ox oy u v;binOp op t u v) d:=by
 have sc:∀{p q:Value},u=p->v=q->(eqGuard op t ox oy p q).run P e.w= .ok () e.w->(iG op p q).map (fun v=>DV.c (.sc v))=some d->kx P e (do eqGuard op t ox oy u v;binOp op t u v) d:=by
  rintro p q rfl rfl hg hd
  rw[Option.map_eq_some_iff]at hd
  obtain⟨r,hr,rfl⟩:=hd
  exact⟨r,by simp[hg,ZQ hr],fun s=>.c (.sc (ZP hr))⟩
 unfold uC at h
 split at h
 ·cases r1 with
  | c r1=>cases r2 with
   | c r2=>cases r1;cases r2;exact sc rfl rfl (oT (by rintro⟨_,_,h,_⟩;cases h) (.inl (by simp))) h
 ·cases r1 with
  | c r1=>cases r2 with
   | c r2=>cases r1;cases r2;exact sc rfl rfl (oT (by rintro⟨_,_,h,_⟩;cases h) (.inl (by simp))) h
 ·rename_i x y h1 h2
  split at h
  ·rw[Option.map_eq_some_iff]at h
   obtain⟨b,hb,rfl⟩:=h
   obtain⟨g1,g2,g3⟩:=RQ hb r1 r2 (fun k a k' c e1 e2=>h1 k a k' c e1 e2) (fun a c e1 e2=>h2 a c e1 e2) .eql ox oy
   exact⟨.bool b,by simp[g1,g2],fun s=>.c (.sc rfl)⟩
  ·rw[Option.map_eq_some_iff]at h
   obtain⟨b,hb,rfl⟩:=h
   obtain⟨g1,g2,g3⟩:=RQ hb r1 r2 (fun k a k' c e1 e2=>h1 k a k' c e1 e2) (fun a c e1 e2=>h2 a c e1 e2) .neq ox oy
   exact⟨.bool !b,by simp[g1,g3],fun s=>.c (.sc rfl)⟩
  ·cases h
theorem RT {t:TypeId}{ms:Array (String×TypeId)}(hu:P.underlying t=some (.interface ms)){b:Bool}{u:Value}(h:RX b u)(w:World):(Op.equal t u .nilIface).run P w= .ok (!b) w:=by
 have:∀d,(Op.equalIn (d+1) t u .nilIface).run P w= .ok (!b) w:=fun d=>by
  cases b with
  | true=>obtain⟨_,_,rfl⟩:=h;simp[Op.equalIn,run_underlying hu]
  | false=>cases h;simp[Op.equalIn,run_underlying hu]
 exact this 9999
theorem ZO {op:BinOp}{t:TypeId}{x y d:DV}{u v:Value}{s s':Addr->Prop}(ox oy:Operand)(h:A1 P op t oy x y=some d)(r1:RD e s x u)(r2:RD e s' y v)(hv:oy= .const .nilIface->v= .nilIface):
  kx P e (do eqGuard op t ox oy u v;binOp op t u v) d:=by
 unfold A1 at h
 split at h
 ·rename_i b
  have hv:=hv rfl
  subst hv
  cases r1 with
  | er r1=>
   have hg:∀op,(eqGuard op t ox (.const .nilIface) u .nilIface).run P e.w= .ok () e.w:=fun op=>by
    unfold eqGuard
    cases b with
    | true=>obtain⟨_,_,rfl⟩:=r1;cases op<;>simp
    | false=>cases r1;cases op<;>simp
   unfold RW at h
   split at h
   ·rename_i ms hu
    cases h
    exact⟨.bool !b,by simp[hg,binOp,RT hu r1],fun s=>.c (.sc rfl)⟩
   ·rename_i ms hu
    cases h
    exact⟨.bool b,by simp[hg,binOp,RT hu r1],fun s=>.c (.sc rfl)⟩
   ·cases h
 ·exact ZN h r1 r2 ox oy
theorem aiT {op:UnOp}{x d:DV}{u:Value}{s:Addr->Prop}(h:DA op x=some d)(r:RD e s x u):kx P e (Op.unary op u) d:=by
 unfold DA at h
 split at h
 ·cases h;cases r with
  | c r=>cases r;exact⟨_,by simp only[Op.unary];rfl,fun s=>.c (.sc rfl)⟩
 ·cases h;cases r with
  | c r=>cases r;exact⟨_,by simp only[Op.unary,Op.intArith];rfl,fun s=>.c (.sc rfl)⟩
 ·cases h
theorem aaM {a b:TypeId}{x d:DV}{u:Value}{s:Addr->Prop}(h:Lz P a b x=some d)(r:RD e s x u):kx P e (convert a b u) d:=by
 unfold Lz at h
 split at h
 ·rename_i ta k _ n h1 h2
  cases h;cases r with
  | c r=>
   cases r
   exact⟨_,by simp only[convert,Sem.run_bind,run_underlying h1,run_underlying h2,Result.andThen_ok];rfl,fun s=>.c (.sc rfl)⟩
 ·rename_i st h1 h2
  cases h;cases r with
  | c r=>
   cases r
   exact⟨_,by simp only[convert,Sem.run_bind,run_underlying h1,run_underlying h2,Result.andThen_ok];rfl,fun s=>.c (.sc rfl)⟩
 ·cases h
end
end Go.Abs
namespace Go.Abs
open Go
section
variable {P:Program}{n0:Nat}{PR:Addr->Prop}{e:E}{al:Own->Addr->Prop}
theorem Cv {x:DV}{n:Int}{u:Value}{s:Addr->Prop}(h:ki x=some n)(r:RD e s x u):∃k,u= .int k n:=by
 unfold ki at h
 split at h
 ·cases h;cases r with
  | c r=>cases r;exact⟨_,rfl⟩
 ·cases h
def RO (e:E):Option DV->Option Value->Prop
 | none,none=>True
 | some d,some v=>∃s,RD e s d v
 | _,_=>False
theorem A2 {d:DV}{v:Value}{s:Addr->Prop}{y r:Nat}{code:BoundsCode}(hd:(ki d).bind (fun h=>if 0≤h∧h≤(y:Int)then some h.toNat else none)=some r)(hr:RD e s d v){y':Nat}(hy:y≤y')(w:World):
  (Instr.sliceBound v y' code).run P w= .ok r w∧r≤y:=by
 rw[Option.bind_eq_some_iff]at hd
 obtain⟨n,hn,u7⟩:=hd
 split at u7
 ·rename_i hc
  cases u7
  obtain⟨k,rfl⟩:=Cv hn hr
  have:0≤n∧n≤(y':Int):=⟨hc.1,by omega⟩
  exact⟨by simp[Instr.sliceBound,asIntOf,this],by omega⟩
 ·cases u7
theorem A3 {len:Nat}{lo hi mx:Option DV}{nx oD mK:Option Value}{l h:Nat}{m:Option Nat}(hb:kA len lo hi mx=some (l,h,m))
  (h1:RO e lo nx) (h2:RO e hi oD) (h3:RO e mx mK) (b:Bool) {cap:Nat} (hc:len≤cap) (w:World):
  (Instr.sliceBounds b len cap nx oD mK).run P w= .ok (l,h,m.getD cap) w∧l≤h∧h≤len∧(∀k,m=some k->h≤k∧k≤len):=by
 unfold kA at hb
 split at hb
 ·cases hb
 ·rename_i m' hm
  split at hb
  ·cases hb
  ·rename_i h' hh
   split at hb
   ·cases hb
   ·rename_i l' hl
    split at hb
    ·cases hb
    ·rename_i lg
     cases hb
     have e3:∀code,(∀v,mK=some v->(Instr.sliceBound v cap code).run P w= .ok (m.getD cap) w)∧(∀k,m=some k->k≤len)∧(mK=none->m=none)∧(∀v,mK=some v->m.isSome):=fun code=>by
      cases mx with
      | none=>
       cases mK with
       | none=>simp at hm;subst hm;exact⟨by simp,by simp,by simp,by simp⟩
       | some v=>exact h3.elim
      | some d=>
       cases mK with
       | none=>exact h3.elim
       | some v=>
        obtain⟨s,hr⟩:=h3
        simp only[Option.bind_eq_some_iff]at hm
        obtain⟨n,hn,u7⟩:=hm
        split at u7
        ·rename_i ec
         cases u7
         have:=A2 (code:=code) (P:=P) (y:=len) (r:=n.toNat) (d:=d) (by rw[hn];simp[ec]) hr hc w
         exact⟨fun v' fS=>by cases fS;simpa using this.1,fun k hk=>by cases hk;omega,by simp,by simp⟩
        ·cases u7
     have SW:m.getD len≤m.getD cap:=by cases m with | none=>simpa using hc | some k=>simp
     have nV:m.getD len≤len:=by cases m with | none=>simp | some k=>simpa using(e3 .slice3Acap).2.1 k rfl
     have e2:(∀v code,oD=some v->(Instr.sliceBound v (m.getD cap) code).run P w= .ok h w)∧h≤m.getD len∧(oD=none->h=len):=by
      cases hi with
      | none=>
       cases oD with
       | none=>
        simp at hh;subst hh
        have Mw:m=none:=by
         cases mx with
         | none=>simp at hm;exact hm.symm
         | some _=>exact absurd ⟨rfl,rfl⟩ lg
        subst Mw
        exact⟨by simp,by simp,by simp⟩
       | some v=>exact h2.elim
      | some d=>
       cases oD with
       | none=>exact h2.elim
       | some v=>
        obtain⟨s,hr⟩:=h2
        exact⟨fun v' code fS=>by cases fS;exact(A2 (code:=code) (P:=P) hh hr SW w).1,(A2 (P:=P) (code:=.sliceB) hh hr SW w).2,by simp⟩
     have e1:(∀v code,nx=some v->(Instr.sliceBound v h code).run P w= .ok l w)∧l≤h∧(nx=none->l=0):=by
      cases lo with
      | none=>
       cases nx with
       | none=>simp at hl;subst hl;exact⟨by simp,by simp,by simp⟩
       | some v=>exact h1.elim
      | some d=>
       cases nx with
       | none=>exact h1.elim
       | some v=>
        obtain⟨s,hr⟩:=h1
        exact⟨fun v' code fS=>by cases fS;exact(A2 (code:=code) (P:=P) hl hr (Nat.le_refl _) w).1,(A2 (P:=P) (code:=.sliceB) hl hr (Nat.le_refl _) w).2,by simp⟩
     refine⟨?_,e1.2.1,by have:=e2.2.1;omega,fun k hk=>⟨by have:=e2.2.1;rw[hk]at this;simpa using this,(e3 .slice3Acap).2.1 k hk⟩⟩
     cases mK with
     | none=>
      have Mw:m=none:=(e3 .slice3Acap).2.2.1 rfl
      subst Mw
      cases oD with
      | none=>
       have:=e2.2.2 rfl
       subst this
       cases nx with
       | none=>have:=e1.2.2 rfl;subst this;simp[Instr.sliceBounds]
       | some v=>simp[Instr.sliceBounds,e1.1 v _ rfl]
      | some vh=>
       have Ci:∀code,(Instr.sliceBound vh cap code).run P w= .ok h w:=fun code=>e2.1 vh code rfl
       cases nx with
       | none=>have:=e1.2.2 rfl;subst this;simp[Instr.sliceBounds,Ci]
       | some v=>have iN:=fun code=>e1.1 v code rfl;simp[Instr.sliceBounds,iN,Ci]
     | some vm=>
      have FU:=fun code=>(e3 code).1 vm rfl
      cases oD with
      | none=>
       exfalso
       cases hi with
       | none=>cases mx with
        | none=>exact h3.elim
        | some _=>exact lg ⟨rfl,rfl⟩
       | some _=>exact h2.elim
      | some vh=>
       have Ci:=fun code=>e2.1 vh code rfl
       cases nx with
       | none=>have:=e1.2.2 rfl;subst this;simp[Instr.sliceBounds,FU,Ci]
       | some v=>have iN:=fun code=>e1.1 v code rfl;simp[Instr.sliceBounds,FU,iN,Ci]
theorem Bn {x:Bool}{len cap h l:Nat}{m:Option Nat}(hx:x=true->cap=len)(he:xR x len h m=true):m.getD cap - l=h - l:=by
 cases m with
 | none=>simp[xR]at he;have:=hx he.1;simp;omega
 | some k=>simp[xR]at he;simp;omega
theorem Le {len cap h l:Nat}{m:Option Nat}(h1:h≤len)(h2:len≤cap)(h3:∀k,m=some k->h≤k∧k≤len):h - l≤m.getD cap - l∧m.getD cap≤cap:=by
 cases m with
 | none=>simp;omega
 | some k=>have:=h3 k rfl;simp;omega
theorem agf (m:MI n0 PR e al){t:TypeId}{x d:DV}{u:Value}{s:Addr->Prop}{lo hi mx:Option DV}{nx oD mK:Option Value}(h:pI P e.st t x lo hi mx=some d)
  (r:RD e s x u) (h1:RO e lo nx) (h2:RO e hi oD) (h3:RO e mx mK):kx P e (Instr.sliceAt t u nx oD mK) d:=by
 unfold pI at h
 split at h
 ·rename_i str hu
  split at h
  ·cases h
  ·rw[Option.map_eq_some_iff]at h
   obtain⟨⟨l,hh,m'⟩,hb,rfl⟩:=h
   have FU:mK=none:=by cases mK with | none=>rfl | some _=>exact h3.elim
   subst FU
   obtain⟨b1,_⟩:=A3 (P:=P) hb h1 h2 h3 false (Nat.le_refl _) e.w
   cases r with
   | c r=>
    cases r
    exact⟨_,by simp only[Instr.sliceAt,Instr.slice,Sem.run_bind,run_underlying hu,Result.andThen_ok,b1,Option.isSome_none,Bool.false_eq_true,if_false,Sem.run_pure],fun s=>.c (.sc rfl)⟩
 ·rename_i el nl x cs len hu
  split at h
  ·rename_i sz l hh m' cc hb
   cases r with
   | c r=>
    cases r with
    | nil=>
     obtain⟨b1,b2,b3,b4⟩:=A3 (P:=P) hb h1 h2 h3 true (Nat.le_refl 0) e.w
     have e1:hh=0:=by omega
     have e2:l=0:=by omega
     subst e1;subst e2
     have e3:m'.getD 0=0:=by cases m' with | none=>rfl | some k=>have:=b4 k rfl;simp;omega
     rw[e3]at b1
     rw[Option.map_eq_some_iff]at h
     obtain⟨ds,gh,rfl⟩:=h
     have Mg:ds=[]:=by have:=GW gh;simpa using this
     subst Mg
     exact⟨_,by simp only[Instr.sliceAt,Instr.slice,Sem.run_bind,run_underlying hu,Result.andThen_ok,b1,fp cc,Sem.run_pure,if_true],fun s=>.c .nil⟩
    | sl hr hc hl hx=>
     rename_i vs a cap
     obtain⟨b1,b2,b3,b4⟩:=A3 (P:=P) hb h1 h2 h3 true hl e.w
     simp only[Option.map_eq_some_iff]at h
     obtain⟨ds,gh,rfl⟩:=h
     obtain⟨us,fR,eH,hur⟩:=Ti hr hc gh
     obtain⟨gK,_⟩:=Le (l:=l) b3 hl b4
     by_cases nV:m'.getD cap=l
     ·refine⟨_,by simp only[Instr.sliceAt,Instr.slice,Sem.run_bind,run_underlying hu,Result.andThen_ok,b1,fp cc,Sem.run_pure,nV,if_true];rfl,fun s=>.c ?_⟩
      have hz:hh - l=0:=by omega
      rw[hz]at gh fR ⊢
      have Mg:ds=[]:=by have:=GW gh;simpa using this
      subst Mg
      exact .sl (vs:=[]) .nil (by simp) (by omega) (fun _=>by omega)
     ·refine⟨_,by simp only[Instr.sliceAt,Instr.slice,Sem.run_bind,run_underlying hu,Result.andThen_ok,b1,fp cc,Sem.run_pure,nV,if_false,Option.map_some];rfl,fun s=>.c ?_⟩
      exact .sl hur eH gK (Bn hx)
  ·cases h
 ·rename_i el id ver off len aV x hu
  split at h
  ·rename_i sz l hh m' cc hb
   split at h
   ·rename_i ML
    cases h
    subst ML
    cases r with
    | ms hid hl hx hv=>
     rename_i a cap
     obtain⟨b1,b2,b3,b4⟩:=A3 (P:=P) hb h1 h2 h3 true hl e.w
     obtain⟨gK,hmc⟩:=Le (l:=l) b3 hl b4
     have hmul:off+l * sz+(m'.getD cap - l) * sz≤off+cap * sz:=by
      have:l+(m'.getD cap - l)≤cap:=by omega
      have:=Nat.mul_le_mul_right sz this
      rw[Nat.add_mul]at this
      omega
     by_cases nV:m'.getD cap=l
     ·refine⟨_,by simp only[Instr.sliceAt,Instr.slice,Sem.run_bind,run_underlying hu,Result.andThen_ok,b1,fp cc,Sem.run_pure,nV,if_true];rfl,fun s=>.ms hid (by omega) (fun he=>by have:=Bn (l:=l) hx he;omega) fun o ho=>?_⟩
      obtain⟨p1,p2⟩:=hv o ho
      exact⟨p1,fun hq=>⟨.inl (by omega),by have:=(p2 hq).2;rw[nV]at hmul;omega⟩⟩
     ·refine⟨_,by simp only[Instr.sliceAt,Instr.slice,Sem.run_bind,run_underlying hu,Result.andThen_ok,b1,fp cc,Sem.run_pure,nV,if_false,Option.map_some];rfl,fun s=>.ms hid gK (Bn hx) fun o ho=>?_⟩
      obtain⟨p1,p2⟩:=hv o ho
      refine⟨p1,fun hq=>?_⟩
      obtain⟨q1,q2⟩:=p2 hq
      refine⟨.inr ?_,by omega⟩
      rcases q1 with q1 | q1
      ·omega
      ·rw[q1,mP]
   ·cases h
  ·cases h
 ·rename_i n el id ver off hu
  split at h
  ·rename_i sz l hh m' o cc hb ho
   split at h
   ·rename_i hle
    cases h
    obtain⟨l9,bu⟩:=mY ho
    cases r with
    | pt hid hv=>
     rename_i a
     obtain⟨b1,b2,b3,b4⟩:=A3 (P:=P) hb h1 h2 h3 false (Nat.le_refl n) e.w
     obtain⟨gK,hmc⟩:=Le (l:=l) b3 (Nat.le_refl n) b4
     have hmul:off+l * sz+(m'.getD n - l) * sz≤off+n * sz:=by
      have:l+(m'.getD n - l)≤n:=by omega
      have:=Nat.mul_le_mul_right sz this
      rw[Nat.add_mul]at this
      omega
     have BN:=m.ext id o l9
     obtain⟨p1,p2⟩:=hv o l9
     have ha:=p2 bu.symm
     by_cases nV:m'.getD n=l
     ·refine⟨_,by simp only[Instr.sliceAt,Instr.sureAddr,pure_bind,Sem.run_bind,run_underlying hu,Result.andThen_ok,b1,fp cc,Sem.run_pure,nV,if_true];rfl,fun s=>.ms hid (by omega) (fun he=>by have:=Bn (l:=l) (cap:=n) (x:=true) (fun _=>rfl) he;omega) fun o' du=>?_⟩
      rw[l9]at du;cases du
      exact⟨p1,fun hq=>⟨.inl (by omega),by rw[nV]at hmul;omega⟩⟩
     ·refine⟨_,by simp only[Instr.sliceAt,Instr.sureAddr,pure_bind,Sem.run_bind,run_underlying hu,Result.andThen_ok,b1,fp cc,Sem.run_pure,nV,if_false];rfl,fun s=>.ms hid gK (Bn (cap:=n) (fun _=>rfl)) fun o' du=>?_⟩
      rw[l9]at du;cases du
      exact⟨p1,fun hq=>⟨.inr (by rw[ha,mP]),by omega⟩⟩
   ·cases h
  ·cases h
 ·cases h
theorem acE {t:TypeId}{x i d:DV}{u v:Value}{s s':Addr->Prop}(h:yt P t x i=some d)(r:RD e s x u)(ri:RD e s' i v):kx P e (Instr.indexAt t u v) d:=by
 unfold yt at h
 split at h
 ·cases h
 ·rename_i i hi
  obtain⟨k,rfl⟩:=Cv hi ri
  split at h
  ·rename_i el nl x cs len hu
   split at h
   ·rename_i sz cc
    split at h
    ·rename_i hc
     cases h
     cases r with
     | c r=>cases r with
      | nil=>have:=hc.1;have:=hc.2;simp at *;omega
      | sl hr qE hl hx=>
       refine⟨_,by simp only[Instr.indexAt,asIntOf,pure_bind,Sem.run_bind,run_underlying hu,Result.andThen_ok,Sem.run_pure,hc,and_self,if_true,fp cc],fun s=>.ia hr qE⟩
    ·cases h
   ·cases h
  ·rename_i el id ver off len aV x hu
   split at h
   ·rename_i sz cc
    split at h
    ·rename_i hc
     cases h
     obtain⟨rfl,hc⟩:=hc
     cases r with
     | ms hid hl hx hv=>
      refine⟨_,by simp only[Instr.indexAt,asIntOf,pure_bind,Sem.run_bind,run_underlying hu,Result.andThen_ok,Sem.run_pure,hc,and_self,if_true,fp cc];rfl,fun s=>.pt hid fun o ho=>?_⟩
      obtain⟨p1,p2⟩:=hv o ho
      refine⟨p1,fun hq=>?_⟩
      rcases(p2 hq).1 with q | q
      ·omega
      ·rw[q,mP]
    ·cases h
   ·cases h
  ·rename_i n el id ver off hu
   split at h
   ·rename_i sz cc
    split at h
    ·rename_i hc
     cases h
     cases r with
     | pt hid hv=>
      refine⟨_,by simp only[Instr.indexAt,asIntOf,pure_bind,Sem.run_bind,run_underlying hu,Result.andThen_ok,Instr.sureAddr,Sem.run_pure,hc,and_self,if_true,fp cc];rfl,fun s=>.pt hid fun o ho=>?_⟩
      obtain⟨p1,p2⟩:=hv o ho
      exact⟨p1,fun hq=>by rw[p2 hq,mP]⟩
    ·cases h
   ·cases h
  ·rename_i n el cs off hu
   split at h
   ·rename_i sz cc
    split at h
    ·rename_i hc
     cases h
     cases r with
     | ia hr qE=>
      refine⟨_,by simp only[Instr.indexAt,asIntOf,pure_bind,Sem.run_bind,run_underlying hu,Result.andThen_ok,Instr.sureAddr,Sem.run_pure,hc,and_self,if_true,fp cc];rfl,fun s=>?_⟩
      rw[add_add]
      exact .ia hr qE
    ·cases h
   ·cases h
  ·cases h
theorem Uq {t:TypeId}{cs:List CV}{vs:List Value}{off:Nat}{d:DV}(h:bh e.im e.w cs vs)(hd:rl P t cs off=some d):kx P e (part t ⟨vs⟩ off) d:=by
 unfold rl at hd
 split at hd
 ·rename_i k h1 h2
  rw[Option.map_eq_some_iff]at hd
  obtain⟨ds,gh,rfl⟩:=hd
  obtain⟨rfl,hle⟩:=Dj gh
  refine⟨.agg ⟨(vs.drop off).take k⟩,?_,fun s=>.c (.agg ((h.drop off).take k))⟩
  simp[part,yu h1,fp h2]
 ·rename_i h1
  rw[Option.map_eq_some_iff]at hd
  obtain⟨c,hc,rfl⟩:=hd
  obtain⟨v,hv,hr⟩:=h.get hc
  refine⟨v,?_,fun s=>.c hr⟩
  simp[part,yu h1,hv]
 ·cases hd
theorem Up {t:TypeId}{ds:List DV}{vs:List Value}{off:Nat}{d:DV}(hk:ds.all bG=true)(h:bd e ds vs)(hd:oc P t ds off=some d):kx P e (part t ⟨vs⟩ off) d:=by
 unfold oc at hd
 split at hd
 ·rename_i k h1 h2
  rw[Option.map_eq_some_iff]at hd
  obtain⟨es,u4,rfl⟩:=hd
  obtain⟨rfl,hle⟩:=Dj u4
  refine⟨.agg ⟨(vs.drop off).take k⟩,?_,fun s=>Gj ?_ ((h.drop off).take k).w⟩
  ·simp[part,yu h1,fp h2]
  ·rw[List.all_eq_true]at hk ⊢
   exact fun x hx=>hk x (List.drop_subset _ _ (List.take_subset _ _ hx))
 ·rename_i h1
  rw[Option.map_eq_some_iff]at hd
  obtain⟨c,hc,rfl⟩:=hd
  obtain⟨v,hv,hr⟩:=h.get hc
  refine⟨v,?_,fun s=>hr.bx⟩
  simp[part,yu h1,hv]
 ·cases hd
theorem acG {t:TypeId}{x i d:DV}{u v:Value}{s s':Addr->Prop}(h:M0 P t x i=some d)(r:RD e s x u)(ri:RD e s' i v):kx P e (Instr.index t u v) d:=by
 unfold M0 at h
 split at h
 ·cases h
 ·rename_i i hi
  obtain⟨k,rfl⟩:=Cv hi ri
  split at h
  ·rename_i n el cs hu
   split at h
   ·rename_i sz cc
    split at h
    ·rename_i hc
     cases r with
     | c r=>cases r with
      | agg hr=>
       obtain⟨w,hw,hd⟩:=Uq hr h
       exact⟨w,by simp only[Instr.index,asIntOf,pure_bind,Sem.run_bind,run_underlying hu,Result.andThen_ok,hc,and_self,if_true,fp cc];exact hw,hd⟩
    ·cases h
   ·cases h
  ·rename_i n el ds hu
   split at h
   ·rename_i sz cc
    split at h
    ·rename_i hc
     cases r with
     | agg hk hr=>
      obtain⟨w,hw,hd⟩:=Up hk hr h
      exact⟨w,by simp only[Instr.index,asIntOf,pure_bind,Sem.run_bind,run_underlying hu,Result.andThen_ok,hc,and_self,if_true,fp cc];exact hw,hd⟩
    ·cases h
   ·cases h
  ·rename_i str hu
   split at h
   ·rename_i hc
    rw[Option.map_eq_some_iff]at h
    obtain⟨b,hb,rfl⟩:=h
    cases r with
    | c r=>
     cases r
     exact⟨_,by simp only[Instr.index,asIntOf,pure_bind,Sem.run_bind,run_underlying hu,Result.andThen_ok,hc,if_true,hb,Sem.run_pure],fun s=>.c (.sc rfl)⟩
   ·cases h
  ·cases h
theorem aby {t:TypeId}{f:Nat}{x d:DV}{u:Value}{s:Addr->Prop}(h:LY P t x f=some d)(r:RD e s x u):kx P e (Instr.fieldAt t u f) d:=by
 unfold LY at h
 split at h
 ·rename_i fs hu
  split at h
  ·rename_i fd hf
   split at h
   ·rename_i k cc
    split at h
    ·cases h
     cases r with
     | pt hid hv=>
      refine⟨_,by simp only[Instr.fieldAt,Sem.run_bind,run_underlying hu,Result.andThen_ok,hf,Instr.sureAddr,Sem.run_pure,fieldPlace,fp cc,Nat.add_one_ne_zero,if_false];rfl,fun s=>.pt hid fun o ho=>?_⟩
      obtain⟨p1,p2⟩:=hv o ho
      exact⟨p1,fun hq=>by rw[p2 hq,mP]⟩
    ·cases h
     cases r with
     | ia hr qE=>
      refine⟨_,by simp only[Instr.fieldAt,Sem.run_bind,run_underlying hu,Result.andThen_ok,hf,Instr.sureAddr,Sem.run_pure,fieldPlace,fp cc,Nat.add_one_ne_zero,if_false];rfl,fun s=>?_⟩
      rw[add_add]
      exact .ia hr qE
    ·cases h
   ·cases h
  ·cases h
 ·cases h
theorem abz {t:TypeId}{f:Nat}{x d:DV}{u:Value}{s:Addr->Prop}(h:LZ P t x f=some d)(r:RD e s x u):kx P e (Instr.field t u f) d:=by
 unfold LZ at h
 split at h
 ·rename_i fs hu
  split at h
  ·rename_i fd hf
   split at h
   ·cases r with
    | c r=>cases r with
     | agg hr=>
      obtain⟨w,hw,hd⟩:=Uq hr h
      exact⟨w,by simp only[Instr.field,Sem.run_bind,run_underlying hu,Result.andThen_ok,hf,asAgg,Sem.run_pure];exact hw,hd⟩
   ·cases r with
    | agg hk hr=>
     obtain⟨w,hw,hd⟩:=Up hk hr h
     exact⟨w,by simp only[Instr.field,Sem.run_bind,run_underlying hu,Result.andThen_ok,hf,asAgg,Sem.run_pure];exact hw,hd⟩
   ·cases h
  ·cases h
 ·cases h
theorem adj {st:List Ob}{t:TypeId}{x d:DV}{u:Value}{s:Addr->Prop}(h:Ga P st t x=some d)(r:RD e s x u)(ts:Array TypeId)(ht:ts[0]? =some t)(ty:TypeId):kx P e (Builtin.len_ ts ty #[u]) d:=by
 unfold Ga at h
 split at h
 ·rename_i hu;cases h
  cases r with
  | c r=>cases r;exact⟨_,by simp only[Builtin.len_,ht,List.getElem?_toArray,List.getElem?_cons_zero,Sem.run_bind,run_underlying hu,Result.andThen_ok,Sem.run_pure];rfl,fun s=>.c (.sc rfl)⟩
 ·rename_i el nl x cs len hu;cases h
  cases r with
  | c r=>cases r with
   | nil=>exact⟨_,by simp only[Builtin.len_,ht,List.getElem?_toArray,List.getElem?_cons_zero,Sem.run_bind,run_underlying hu,Result.andThen_ok,Sem.run_pure];rfl,fun s=>.c (.sc rfl)⟩
   | sl=>exact⟨_,by simp only[Builtin.len_,ht,List.getElem?_toArray,List.getElem?_cons_zero,Sem.run_bind,run_underlying hu,Result.andThen_ok,Sem.run_pure];rfl,fun s=>.c (.sc rfl)⟩
 ·rename_i el id ver off len aV x hu;cases h
  cases r with
  | ms=>exact⟨_,by simp only[Builtin.len_,ht,List.getElem?_toArray,List.getElem?_cons_zero,Sem.run_bind,run_underlying hu,Result.andThen_ok,Sem.run_pure];rfl,fun s=>.c (.sc rfl)⟩
 ·rename_i n el hu;cases h
  exact⟨_,by simp only[Builtin.len_,ht,List.getElem?_toArray,List.getElem?_cons_zero,Sem.run_bind,run_underlying hu,Result.andThen_ok,Sem.run_pure];rfl,fun s=>.c (.sc rfl)⟩
 ·cases h
end
end Go.Abs
set_option linter.unusedSectionVars false
namespace Go.Abs
open Go
def mf:Obj->Bool
 | .cells .. =>true
 | _=>false
theorem heap_alloc (w:World)(o:Obj)(k:Nat)(h:k<w.heap.size):(w.alloc o).heap[k]? =w.heap[k]? :=by
 simp only[World.alloc,Array.getElem?_push]
 rw[if_neg (by omega)]
theorem heap_setCell (w:World)(a:Addr)(u:Value)(k:Nat)(h:k≠a.block):(w.setCell a u).heap[k]? =w.heap[k]? :=by
 simp only[World.setCell,Array.getElem?_modify]
 rw[if_neg (fun e=>h e.symm)]
class Fl where
 dr:Prop
instance (priority:=low) aqB:Fl:=⟨False⟩
variable [Fl]
structure cS (n0:Nat)(PR:Addr->Prop)(X:Nat->Prop)(w w':World):Prop where
 os:w'.os=w.os
 tape:w'.tape=w.tape
 output:w'.output=w.output
 size:w.heap.size≤w'.heap.size
 bC:∀r,r<n0->w'.heap[r]? =w.heap[r]?
 pr:∀a,PR a->w'.cell? a=w.cell? a∧w'.frozen? a=w.frozen? a
 obj:∀(r:Nat) (o:Obj),w.heap[r]? =some o->mf o=false->¬X r->w'.heap[r]? =some o
 dr:Fl.dr->w.drawn≤w'.drawn
theorem cS.refl (n0:Nat)(PR:Addr->Prop)(X:Nat->Prop)(w:World):cS n0 PR X w w:=⟨rfl,rfl,rfl,Nat.le_refl _,fun _ _=>rfl,fun _ _=>⟨rfl,rfl⟩,fun _ _ h _ _=>h,fun _=>Nat.le_refl _⟩
theorem cS.trans {n0:Nat}{PR:Addr->Prop}{X:Nat->Prop}{a b c:World}(h:cS n0 PR X a b)(k:cS n0 PR X b c):cS n0 PR X a c:=
 ⟨k.os.trans h.os,k.tape.trans h.tape,k.output.trans h.output,Nat.le_trans h.size k.size,fun r hr=>(k.bC r hr).trans (h.bC r hr),
  fun x hx=>⟨(k.pr x hx).1.trans (h.pr x hx).1,(k.pr x hx).2.trans (h.pr x hx).2⟩,fun r o ho hc hX=>k.obj r o (h.obj r o ho hc hX) hc hX,fun hd=>Nat.le_trans (h.dr hd) (k.dr hd)⟩
theorem cS.fV {n0:Nat}{PR:Addr->Prop}{X X':Nat->Prop}{a b:World}(h:cS n0 PR X a b)(hx:∀r,X r->X' r):cS n0 PR X' a b:=
 ⟨h.os,h.tape,h.output,h.size,h.bC,h.pr,fun r o ho hc hX=>h.obj r o ho hc (fun hh=>hX (hx r hh)),h.dr⟩
structure Wr (w w':World)(S:Addr->Prop):Prop where
 os:w'.os=w.os
 tape:w'.tape=w.tape
 output:w'.output=w.output
 size:w'.heap.size=w.heap.size
 cell:∀a,¬S a->w'.cell? a=w.cell? a
 frozen:∀a,w'.frozen? a=w.frozen? a
 block:∀r,(∀a,S a->a.block≠r)->w'.heap[r]? =w.heap[r]?
 obj:∀(r:Nat) (o:Obj),w.heap[r]? =some o->mf o=false->w'.heap[r]? =some o
 dr:w'.drawn=w.drawn
theorem Wr.refl (w:World)(S:Addr->Prop):Wr w w S:=⟨rfl,rfl,rfl,rfl,fun _ _=>rfl,fun _=>rfl,fun _ _=>rfl,fun _ _ h _=>h,rfl⟩
theorem Wr.trans {a b c:World}{S:Addr->Prop}(h:Wr a b S)(k:Wr b c S):Wr a c S:=
 ⟨k.os.trans h.os,k.tape.trans h.tape,k.output.trans h.output,k.size.trans h.size,fun x hx=>(k.cell x hx).trans (h.cell x hx),fun x=>(k.frozen x).trans (h.frozen x),
  fun r hr=>(k.block r hr).trans (h.block r hr),fun r o ho hc=>k.obj r o (h.obj r o ho hc) hc,k.dr.trans h.dr⟩
theorem Wr.set (w:World)(a:Addr)(v:Value){S:Addr->Prop}(ha:S a):Wr w (w.setCell a v) S:=by
 refine⟨rfl,rfl,rfl,World.size_setCell ..,fun b hb=>World.cell?_setCell_other _ _ _ _ ?_,fun b=>World.frozen?_setCell ..,fun r hr=>?_,fun r o ho hc=>?_,rfl⟩
 ·rintro rfl;exact hb ha
 ·exact heap_setCell w a v r (fun e=>hr a ha e.symm)
 ·by_cases hr:r=a.block
  ·subst hr
   simp only[World.setCell,Array.getElem?_modify,if_true]
   rw[ho]
   cases o<;>simp_all [mf]
  ·rw[heap_setCell w a v r hr];exact ho
theorem zd {P:Program}(b o:Nat):∀(vs:List Value) (i:Nat) (w:World),(∀v∈vs,v.oneCell'=true)->
  (∀j,j<vs.length->(∃v,w.cell? ⟨b,o+(i+j),none⟩=some v)∧w.frozen? ⟨b,o+(i+j),none⟩=false)->
  ∃w',(storeCells ⟨b,o,none⟩ vs i).run P w= .ok () w'∧Wr w w' (fun a=>∃j,j<vs.length∧a=⟨b,o+(i+j),none⟩)∧
   ∀(j:Nat) v,vs[j]? =some v->w'.cell? ⟨b,o+(i+j),none⟩=some v
 | [],i,w,_,_=>⟨w,rfl,Wr.refl _ _,by simp⟩
 | v::vs,i,w,h1,h2=>by
  obtain⟨⟨u,hu⟩,hf⟩:=h2 0 (by simp)
  simp only[Nat.add_zero]at hu hf
  have bz:(store (⟨b,o+i,none⟩:Addr) v).run P w= .ok () (w.setCell ⟨b,o+i,none⟩ v):=by
   rw[run_store P w _ v _ (h1 v (by simp)),hu,hf];rfl
  have bw:∀j,(⟨b,o+i,none⟩:Addr)≠⟨b,o+(i+1+j),none⟩:=fun j h=>by injection h with h1 h2 h3;omega
  obtain⟨w',r1,r2,r3⟩:=zd (P:=P) b o vs (i+1) (w.setCell ⟨b,o+i,none⟩ v) (fun x hx=>h1 x (by simp[hx])) (fun j hj=>by
   obtain⟨⟨x,hx⟩,hy⟩:=h2 (j+1) (by simpa using hj)
   rw[show i+(j+1)=i+1+j by omega]at hx hy
   exact⟨⟨x,by rw[World.cell?_setCell_other _ _ _ _ (bw j)];exact hx⟩,by rw[World.frozen?_setCell];exact hy⟩)
  refine⟨w',?_,?_,?_⟩
  ·simp only[storeCells,CN,Sem.run_bind,bz,Result.andThen_ok];exact r1
  ·refine Wr.trans (Wr.set w _ v (S:=fun a=>∃j,j<(v::vs).length∧a=⟨b,o+(i+j),none⟩) ⟨0,by simp,rfl⟩) ?_
   refine⟨r2.os,r2.tape,r2.output,r2.size,fun a ha=>r2.cell a ?_,r2.frozen,fun r hr=>r2.block r ?_,r2.obj,r2.dr⟩
   ·rintro⟨j,hj,rfl⟩;exact ha ⟨j+1,by simpa using hj,by rw[show i+(j+1)=i+1+j by omega]⟩
   ·rintro a ⟨j,hj,rfl⟩;exact hr _ ⟨j+1,by simpa using hj,by rw[show i+(j+1)=i+1+j by omega]⟩
  ·intro j x hx
   cases j with
   | zero=>
    simp at hx;subst hx
    rw[Nat.add_zero,r2.cell _ (by rintro⟨j,_,hj⟩;exact bw j hj)]
    exact World.cell?_setCell_same _ _ _ hu
   | succ j=>
    have:=r3 j x (by simpa using hx)
    rw[show i+(j+1)=i+1+j by omega];exact this
section
variable {P:Program}{n0:Nat}{PR:Addr->Prop}{e:E}{al:Own->Addr->Prop}
theorem Wr.bp {w w':World}{S:Addr->Prop}(h:Wr w w' S)(h1:∀a,S a->n0≤a.block∧¬PR a)(X:Nat->Prop):cS n0 PR X w w':=
 ⟨h.os,h.tape,h.output,by rw[h.size];exact Nat.le_refl _,fun r hr=>h.block r fun a ha e=>by have:=(h1 a ha).1;omega,fun a ha=>⟨h.cell a fun hs=>(h1 a hs).2 ha,h.frozen a⟩,fun r o ho hc _=>h.obj r o ho hc,fun _=>Nat.le_of_eq h.dr.symm⟩
theorem uv {w:World}(c:List Value)(T:TypeId)(i:Nat):(w.alloc (.cells ⟨c⟩ T)).cell? ⟨w.heap.size,i,none⟩=c[i]? :=by
 rw[World.cell?_alloc_at ⟨c⟩ T _ i rfl];simp
theorem sn {w:World}(o:Obj)(hn:n0≤w.heap.size)(hp:∀a,PR a->a.block<w.heap.size)(X:Nat->Prop):cS n0 PR X w (w.alloc o):=
 ⟨rfl,rfl,rfl,by simp,fun r hr=>heap_alloc w o r (by omega),fun a ha=>⟨World.cell?_alloc_lt _ _ _ (hp a ha),World.frozen?_alloc_old _ _ _ (by have:=hp a ha;omega)⟩,
  fun r x hx _ _=>by rw[heap_alloc w o r (Array.getElem?_eq_some_iff.1 hx).1];exact hx,fun _=>Nat.le_refl _⟩
theorem MI.alloc (m:MI n0 PR e al)(c:List Value)(T:TypeId){im':Addr->Prop}{reg':Own->Addr->Prop}
  (jA:∀a,im' a->e.im a∨(a.block=e.w.heap.size∧∀p,¬reg' p a)) (aqe:∀a,e.im a->im' a)
  (yj:∀p a,reg' p a->al p a∨(∃i,i<c.length∧a=⟨e.w.heap.size,i,none⟩))
  (ab3:∀p q a,reg' p a->reg' q a->a.block=e.w.heap.size->p=q):
  (∀a,im' a->a.block<(e.w.alloc (.cells ⟨c⟩ T)).heap.size)∧(∀a,im' a->¬PR a)∧
  (∀p a,reg' p a->n0≤a.block∧(∃v,(e.w.alloc (.cells ⟨c⟩ T)).cell? a=some v)∧(e.w.alloc (.cells ⟨c⟩ T)).frozen? a=false∧¬im' a∧¬PR a)∧
  (∀p q a,reg' p a->reg' q a->p=q):=by
 have bC:∀p a,al p a->a.block<e.w.heap.size:=fun p a h=>by
  obtain⟨_,⟨v,hv⟩,_⟩:=m.ok p a h
  exact World.block_lt_of_cell? _ _ hv
 refine⟨fun a ha=>?_,fun a ha hp=>?_,fun p a nX=>?_,fun p q a h1 h2=>?_⟩
 ·rw[World.size_alloc]
  rcases jA a ha with h | h
  ·have:=m.eY a h;omega
  ·omega
 ·rcases jA a ha with h | h
  ·exact m.gm a h hp
  ·have:=m.dN a hp;omega
 ·rcases yj p a nX with h | ⟨i,hi,rfl⟩
  ·obtain⟨h1,⟨v,hv⟩,h3,h4,h5⟩:=m.ok p a h
   have aQ:=bC p a h
   refine⟨h1,⟨v,by rw[World.cell?_alloc_lt _ _ _ aQ];exact hv⟩,by rw[World.frozen?_alloc_old _ _ _ (by omega)];exact h3,fun hi=>?_,h5⟩
   rcases jA a hi with hh | ⟨_,hh⟩
   ·exact h4 hh
   ·exact hh p nX
  ·refine⟨m.dz,⟨c[i],by rw[uv];exact List.getElem?_eq_getElem hi⟩,by rw[World.frozen?_alloc_at _ _ _ _ rfl],fun BR=>?_,fun hp=>by have:=m.dN _ hp;simp at this⟩
   rcases jA _ BR with hh | ⟨_,hh⟩
   ·have:=m.eY _ hh;simp at this
   ·exact hh p nX
 ·rcases yj p a h1 with g1 | ⟨i,_,rfl⟩
  ·rcases yj q a h2 with g2 | ⟨i,_,rfl⟩
   ·exact m.cE p q a g1 g2
   ·have:=bC p _ g1;simp at this
  ·exact ab3 p q _ h1 h2 rfl
end
end Go.Abs
namespace Go.Abs
open Go
variable [Fl]
theorem jy {α:Type}{l:List α}{i:Nat}{x y:α}(h:l[i]? =some y):(l.set i x)[i]? =some x:=by
 have:=(List.getElem?_eq_some_iff.1 h).1
 simp[this]
theorem ke {α:Type}{l:List α}{i j:Nat}{x:α}(h:i≠j):(l.set i x)[j]? =l[j]? :=by simp[h]
def eh (io:Nat->Fp)(id:Nat)(f:Fp):Nat->Fp:=fun j=>if j=id then f else io j
theorem fJ (io:Nat->Fp)(id:Nat)(f:Fp):eh io id f id=f:=by simp[eh]
theorem fw (io:Nat->Fp){id j:Nat}(f:Fp)(h:j≠id):eh io id f j=io j:=by simp[eh,h]
section
variable {P:Program}{n0:Nat}{PR:Addr->Prop}{e:E}{al:Own->Addr->Prop}
theorem MI.bC (m:MI n0 PR e al){p:Own}{a:Addr}(h:al p a):a.block<e.w.heap.size:=by
 obtain⟨_,⟨v,hv⟩,_⟩:=m.ok p a h
 exact World.block_lt_of_cell? _ _ hv
theorem Ext.vM {e e':E}{id:Nat}{o o':Ob}(ho:e.st[id]? =some o)(bz:e'.st=e.st.set id o')(jA:∀a,e.im a->e'.im a)(hc:∀a,e.im a->e'.w.cell? a=e.w.cell? a)
  (qI:∀j,j≠id->e'.io j=e.io j) (hv:o.ver≤o'.ver∧(o.ver=o'.ver->e'.io id=e.io id)) (m7:∀(k l:Nat),e.la[k]? =some l->e'.la[k]? =some l):Ext e e':=by
 refine⟨jA,hc,by rw[bz];simp,fun j a b ha hb=>?_,m7⟩
 rw[bz]at hb
 by_cases hj:j=id
 ·subst hj
  rw[ho]at ha;cases ha
  rw[jy ho]at hb;cases hb
  exact hv
 ·rw[ke (Ne.symm hj)]at hb
  rw[ha]at hb;cases hb
  exact⟨Nat.le_refl _,fun _=>qI j hj⟩
theorem MI.obj (m:MI n0 PR e al){id:Nat}{o o':Ob}(ho:e.st[id]? =some o){f':Fp}{w':World}{S:Addr->Prop}(hw:Wr e.w w' S)(hS:∀a,S a->al (.ob id) a)(hSc:∀a,S a->∃v,w'.cell? a=some v)
  {q:Own->Addr->Prop} (qa:∀p a,q p a->∃p',al p' a) (qd:∀p p' a,q p a->q p' a->p=p') (qo:∀j,j≠id->∀a,al (.ob j) a->q (.ob j) a) (qc:∀j,j≠id->∀i a,al (.cell j i) a->q (.cell j i) a)
  (qf:∀i,i<f'.ext->q (.ob id) (f'.at i)) (hl:o'.cs.length≤f'.ext) (hv:o.ver≤o'.ver∧(o.ver=o'.ver->f'=e.io id))
  (cO:∀(i:Nat) (d:DV),o'.cs[i]? =some d->bG d=true∧∃v,w'.cell? (f'.at i)=some v∧RD e (q (.cell id i)) d v):
  MI n0 PR { e with w:=w',st:=e.st.set id o',io:=eh e.io id f'} q∧Ext e { e with w:=w',st:=e.st.set id o',io:=eh e.io id f'}:=by
 have hx:Ext e { e with w:=w',st:=e.st.set id o',io:=eh e.io id f'}:=by
  refine Ext.vM ho rfl (fun _ h=>h) (fun a ha=>hw.cell a fun hs=>(m.ok _ a (hS a hs)).2.2.2.1 ha) (fun j hj=>fw _ _ hj) ⟨hv.1,fun h=>?_⟩ (fun _ _ h=>h)
  show eh e.io id f' id=e.io id
  rw[fJ];exact hv.2 h
 refine⟨⟨fun a ha=>by rw[hw.size];exact m.eY a ha,m.gm,fun a ha=>by rw[hw.size];exact m.dN a ha,by rw[hw.size];exact m.dz,fun p a hp=>?_,qd,?_,?_,?_⟩,hx⟩
 ·obtain⟨p',cF⟩:=qa p a hp
  obtain⟨h1,⟨v,h2⟩,h3,h4,h5⟩:=m.ok p' a cF
  refine⟨h1,?_,by rw[hw.frozen];exact h3,h4,h5⟩
  by_cases hs:S a
  ·exact hSc a hs
  ·exact⟨v,(hw.cell a hs).trans h2⟩
 ·intro j x hj
  show x.cs.length≤(eh e.io id f' j).ext
  by_cases bM:j=id
  ·subst bM
   have:x=o':=by have:=jy (x:=o') ho;simp only at hj;rw[this]at hj;cases hj;rfl
   subst this
   rw[fJ];exact hl
  ·have cC:e.st[j]? =some x:=by simp only at hj;rw[ke (Ne.symm bM)]at hj;exact hj
   rw[fw _ _ bM];exact m.ext j x cC
 ·intro j x hj i hi
  by_cases bM:j=id
  ·subst bM
   simp only[fJ]at hi ⊢;exact qf i hi
  ·have cC:e.st[j]? =some x:=by simp only at hj;rw[ke (Ne.symm bM)]at hj;exact hj
   simp only[fw _ _ bM]at hi ⊢
   exact qo j bM _ (m.own j x cC i hi)
 ·intro j x hj i d hd
  by_cases bM:j=id
  ·subst bM
   have:x=o':=by have:=jy (x:=o') ho;simp only at hj;rw[this]at hj;cases hj;rfl
   subst this
   obtain⟨h1,v,h2,h3⟩:=cO i d hd
   simp only[fJ]
   exact⟨h1,v,h2,h3.mono hx (fun _ h=>h)⟩
  ·have cC:e.st[j]? =some x:=by simp only at hj;rw[ke (Ne.symm bM)]at hj;exact hj
   obtain⟨h1,v,h2,h3⟩:=m.cell j x cC i d hd
   simp only[fw _ _ bM]
   have iL:¬S ((e.io j).at i):=fun hs=>by
    have aQ:i<(e.io j).ext:=Nat.lt_of_lt_of_le (List.getElem?_eq_some_iff.1 hd).1 (m.ext j x cC)
    have:=m.cE _ _ _ (hS _ hs) (m.own j x cC i aQ)
    injection this with this
    exact bM this.symm
   exact⟨h1,v,(hw.cell _ iL).trans h2,h3.mono hx (qc j bM i)⟩
theorem MI.NK (m:MI n0 PR e al){id:Nat}{o o':Ob}(ho:e.st[id]? =some o)(kh:o.ver<o'.ver)(c:List Value)(T:TypeId){vs:List Value}(hc:∀(i:Nat) v,vs[i]? =some v->c[i]? =some v)
  (hr:bd e o'.cs vs) (hk:o'.cs.all bG=true):
  let f':Fp:=⟨e.w.heap.size,0,c.length⟩
  let q:Own->Addr->Prop:=fun p a=>match p with | .ob j=>if j=id then(∃i,i<c.length∧a=⟨e.w.heap.size,i,none⟩)else al p a | .cell j _=>j≠id∧al p a | _=>al p a
  MI n0 PR { e with w:=e.w.alloc (.cells ⟨c⟩ T),st:=e.st.set id o',io:=eh e.io id f'} q∧Ext e { e with w:=e.w.alloc (.cells ⟨c⟩ T),st:=e.st.set id o',io:=eh e.io id f'}:=by
 intro f' q
 have hx:Ext e { e with w:=e.w.alloc (.cells ⟨c⟩ T),st:=e.st.set id o',io:=eh e.io id f'}:=
  Ext.vM ho rfl (fun _ h=>h) (fun a ha=>World.cell?_alloc_lt _ _ _ (m.eY a ha)) (fun j hj=>fw _ _ hj) ⟨Nat.le_of_lt kh,fun h=>by omega⟩ (fun _ _ h=>h)
 have hq:∀p a,q p a->al p a∨(∃i,i<c.length∧a=⟨e.w.heap.size,i,none⟩):=fun p a h=>by
  cases p with
  | ob j=>simp only[q]at h;split at h;exact .inr h;exact .inl h
  | cell j i=>exact .inl h.2
  | slot t=>exact .inl h
  | res=>exact .inl h
 have yh:∀p a,q p a->a.block=e.w.heap.size->p= .ob id:=fun p a h hb=>by
  cases p with
  | ob j=>
   simp only[q]at h
   split at h
   ·rename_i hj;rw[hj]
   ·have:=m.bC h;omega
  | cell j i=>have:=m.bC h.2;omega
  | slot t=>have:=m.bC (show al (.slot t) a from h);omega
  | res=>have:=m.bC (show al .res a from h);omega
 obtain⟨g1,g2,g3,g4⟩:=m.alloc c T (im':=e.im) (reg':=q) (fun a h=>.inl h) (fun _ h=>h) hq (fun p p' a h1 h2 hb=>(yh p a h1 hb).trans (yh p' a h2 hb).symm)
 refine⟨⟨g1,g2,fun a ha=>by have:=m.dN a ha;simp;omega,by have:=m.dz;simp;omega,g3,g4,?_,?_,?_⟩,hx⟩
 ·intro j x hj
  show x.cs.length≤(eh e.io id f' j).ext
  by_cases bM:j=id
  ·subst bM
   have:x=o':=by have:=jy (x:=o') ho;simp only at hj;rw[this]at hj;cases hj;rfl
   subst this
   rw[fJ,hr.length]
   show vs.length≤c.length
   rcases Nat.lt_or_ge c.length vs.length with aQ | cw
   ·have:=hc c.length (vs[c.length]) (List.getElem?_eq_getElem aQ)
    simp at this
   ·exact cw
  ·have cC:e.st[j]? =some x:=by simp only at hj;rw[ke (Ne.symm bM)]at hj;exact hj
   rw[fw _ _ bM];exact m.ext j x cC
 ·intro j x hj i hi
  by_cases bM:j=id
  ·subst bM
   simp only[fJ]at hi ⊢
   simp only[q,if_true]
   exact⟨i,hi,by simp[Fp.at,f']⟩
  ·have cC:e.st[j]? =some x:=by simp only at hj;rw[ke (Ne.symm bM)]at hj;exact hj
   simp only[fw _ _ bM]at hi ⊢
   simp only[q,if_neg bM]
   exact m.own j x cC i hi
 ·intro j x hj i d hd
  by_cases bM:j=id
  ·subst bM
   have:x=o':=by have:=jy (x:=o') ho;simp only at hj;rw[this]at hj;cases hj;rfl
   subst this
   obtain⟨v,hv,h3⟩:=hr.get hd
   refine⟨(List.all_eq_true.1 hk) d (List.mem_of_getElem? hd),v,?_,h3.mono hx (fun _ h=>h.elim)⟩
   simp only[fJ,Fp.at,f',Nat.zero_add]
   rw[uv];exact hc i v hv
  ·have cC:e.st[j]? =some x:=by simp only at hj;rw[ke (Ne.symm bM)]at hj;exact hj
   obtain⟨h1,v,h2,h3⟩:=m.cell j x cC i d hd
   simp only[fw _ _ bM]
   refine⟨h1,v,by rw[World.cell?_alloc_lt _ _ _ (World.block_lt_of_cell? _ _ h2)];exact h2,h3.mono hx fun a ha=>⟨bM,ha⟩⟩
theorem MI.MY (m:MI n0 PR e al)(X7:∀a,¬al .res a)(c:List Value)(T:TypeId)(n:Nat):
  let im':Addr->Prop:=fun a=>e.im a∨∃i,i<n∧a=⟨e.w.heap.size,i,none⟩
  let q:Own->Addr->Prop:=fun p a=>match p with | .res=>∃i,n≤i∧i<c.length∧a=⟨e.w.heap.size,i,none⟩ | _=>al p a
  MI n0 PR { e with w:=e.w.alloc (.cells ⟨c⟩ T),im:=im'} q∧Ext e { e with w:=e.w.alloc (.cells ⟨c⟩ T),im:=im'}:=by
 intro im' q
 have hx:Ext e { e with w:=e.w.alloc (.cells ⟨c⟩ T),im:=im'}:=
  ⟨fun _ h=>.inl h,fun a ha=>World.cell?_alloc_lt _ _ _ (m.eY a ha),Nat.le_refl _,fun j a b ha hb=>by simp only at hb;rw[ha]at hb;cases hb;exact⟨Nat.le_refl _,fun _=>rfl⟩,fun _ _ h=>h⟩
 have bw:∀p,p≠ .res->∀a,q p a->al p a:=fun p hp a h=>by cases p<;>first | exact h | exact absurd rfl hp
 have yh:∀p a,q p a->a.block=e.w.heap.size->p= .res:=fun p a h hb=>by
  by_cases hp:p= .res
  ·exact hp
  ·have:=m.bC (bw p hp a h);omega
 obtain⟨g1,g2,g3,g4⟩:=m.alloc c T (im':=im') (reg':=q) (fun a h=>by
  rcases h with h | ⟨i,hi,rfl⟩
  ·exact .inl h
  ·refine .inr ⟨rfl,fun p hp=>?_⟩
   have:=yh p _ hp rfl
   subst this
   obtain⟨j,h1,h2,h3⟩:=hp
   injection h3 with _ h3 _
   omega) (fun _ h=>.inl h) (fun p a h=>by
  by_cases hp:p= .res
  ·subst hp;obtain⟨i,_,hi,rfl⟩:=h;exact .inr ⟨i,hi,rfl⟩
  ·exact .inl (bw p hp a h)) (fun p p' a h1 h2 hb=>(yh p a h1 hb).trans (yh p' a h2 hb).symm)
 refine⟨⟨g1,g2,fun a ha=>by have:=m.dN a ha;simp;omega,by have:=m.dz;simp;omega,g3,g4,m.ext,m.own,fun j x hj i d hd=>?_⟩,hx⟩
 obtain⟨h1,v,h2,h3⟩:=m.cell j x hj i d hd
 exact⟨h1,v,by show(e.w.alloc _).cell? _=_;rw[World.cell?_alloc_lt _ _ _ (World.block_lt_of_cell? _ _ h2)];exact h2,h3.mono hx fun a ha=>ha⟩
theorem MI.acB (m:MI n0 PR e al)(X7:∀a,¬al .res a){t:Nat}{w':World}{S:Addr->Prop}(hw:Wr e.w w' S)(hS:∀a,S a->al (.slot t) a):
  let im':Addr->Prop:=fun a=>e.im a∨S a
  let q:Own->Addr->Prop:=fun p a=>match p with | .res=>al (.slot t) a∧¬S a | .slot u=>u≠t∧al p a | _=>al p a
  MI n0 PR { e with w:=w',im:=im'} q∧Ext e { e with w:=w',im:=im'}:=by
 intro im' q
 have hx:Ext e { e with w:=w',im:=im'}:=
  ⟨fun _ h=>.inl h,fun a ha=>hw.cell a fun hs=>(m.ok _ a (hS a hs)).2.2.2.1 ha,Nat.le_refl _,fun j a b ha hb=>by simp only at hb;rw[ha]at hb;cases hb;exact⟨Nat.le_refl _,fun _=>rfl⟩,fun _ _ h=>h⟩
 have hq:∀p a,q p a->∃p',al p' a∧¬S a∧(p= .res->p'= .slot t)∧(p≠ .res->p'=p∧p≠ .slot t):=fun p a h=>by
  cases p with
  | res=>exact⟨.slot t,h.1,h.2,fun _=>rfl,fun h=>absurd rfl h⟩
  | slot u=>exact⟨.slot u,h.2,fun hs=>h.1 (by have:=m.cE _ _ _ h.2 (hS a hs);injection this),by simp,fun _=>⟨rfl,fun hh=>h.1 (by injection hh)⟩⟩
  | ob j=>exact⟨.ob j,h,fun hs=>(by have:=m.cE _ _ _ (show al (.ob j) a from h) (hS a hs);cases this),(by simp),fun _=>⟨rfl,by simp⟩⟩
  | cell j i=>exact⟨.cell j i,h,fun hs=>(by have:=m.cE _ _ _ (show al (.cell j i) a from h) (hS a hs);cases this),(by simp),fun _=>⟨rfl,by simp⟩⟩
 refine⟨⟨fun a ha=>?_,fun a ha=>?_,fun a ha=>by rw[hw.size];exact m.dN a ha,by rw[hw.size];exact m.dz,fun p a hp=>?_,fun p p' a h1 h2=>?_,m.ext,m.own,fun j x hj i d hd=>?_⟩,hx⟩
 ·rw[hw.size]
  rcases ha with h | h
  ·exact m.eY a h
  ·exact m.bC (hS a h)
 ·rcases ha with h | h
  ·exact m.gm a h
  ·exact(m.ok _ a (hS a h)).2.2.2.2
 ·obtain⟨p',cF,iL,_⟩:=hq p a hp
  obtain⟨h1,⟨v,h2⟩,h3,h4,h5⟩:=m.ok p' a cF
  exact⟨h1,⟨v,(hw.cell a iL).trans h2⟩,by rw[hw.frozen];exact h3,fun h=>h.elim h4 iL,h5⟩
 ·obtain⟨u,hu,_,qU,dp⟩:=hq p a h1
  obtain⟨u',ff,_,pn,Cg⟩:=hq p' a h2
  have heq:=m.cE _ _ _ hu ff
  by_cases hp:p= .res
  ·by_cases cF:p'= .res
   ·rw[hp,cF]
   ·exact absurd ((Cg cF).1.symm.trans (heq.symm.trans (qU hp))) (Cg cF).2
  ·by_cases cF:p'= .res
   ·exact absurd ((dp hp).1.symm.trans (heq.trans (pn cF))) (dp hp).2
   ·exact(dp hp).1.symm.trans (heq.trans (Cg cF).1)
 ·obtain⟨h1,v,h2,h3⟩:=m.cell j x hj i d hd
  have iL:¬S ((e.io j).at i):=fun hs=>by
   have aQ:i<(e.io j).ext:=Nat.lt_of_lt_of_le (List.getElem?_eq_some_iff.1 hd).1 (m.ext j x hj)
   have:=m.cE _ _ _ (hS _ hs) (m.own j x hj i aQ)
   cases this
  exact⟨h1,v,(hw.cell _ iL).trans h2,h3.mono hx fun a ha=>ha⟩
theorem MI.drew (m:MI n0 PR e al):MI n0 PR { e with w:=e.w.drew} al∧Ext e { e with w:=e.w.drew}:=by
 have hx:Ext e { e with w:=e.w.drew}:=⟨fun _ h=>h,fun _ _=>rfl,Nat.le_refl _,fun j a b ha hb=>by simp only at hb;rw[ha]at hb;cases hb;exact⟨Nat.le_refl _,fun _=>rfl⟩,fun _ _ h=>h⟩
 exact⟨⟨m.eY,m.gm,m.dN,m.dz,m.ok,m.cE,m.ext,m.own,fun j x hj i d hd=>let ⟨h1,v,h2,h3⟩:=m.cell j x hj i d hd;⟨h1,v,h2,h3.mono hx fun _ h=>h⟩⟩,hx⟩
theorem E7 (w:World)(X:Nat->Prop):cS n0 PR X w w.drew:=⟨rfl,rfl,rfl,Nat.le_refl _,fun _ _=>rfl,fun _ _=>⟨rfl,rfl⟩,fun _ _ h _ _=>h,fun _=>Nat.le_succ _⟩
end
end Go.Abs
set_option linter.unusedVariables false
namespace Go.Abs
open Go
variable [Fl]
theorem N4 {α:Type}:∀(l:List α) (off:Nat) (ds:List α),(cT l off ds).length=l.length
 | _,_,[]=>rfl
 | l,off,d::ds=>by simp[cT,N4]
theorem N3 {α:Type}:∀(l:List α) (off:Nat) (ds:List α) (i:Nat),off+ds.length≤l.length->i<ds.length->(cT l off ds)[off+i]? =ds[i]?
 | l,off,[],i,_,h=>by simp at h
 | l,off,d::ds,i,hl,h=>by
  have key:∀(ds:List α) (l:List α) (off j:Nat),j<off->(cT l off ds)[j]? =l[j]? :=fun ds=>by
   induction ds with
   | nil=>intro l off j _;rfl
   | cons x xs ih=>intro l off j hj;simp only[cT];rw[ih _ _ _ (by omega)];exact List.getElem?_set_ne (by omega)
  simp only[cT]
  cases i with
  | zero=>
   have aQ:off<l.length:=by simp only[List.length_cons]at hl;omega
   rw[Nat.add_zero,key _ _ _ _ (by omega)]
   simp[aQ]
  | succ i=>
   rw[show off+(i+1)=off+1+i by omega,N3 _ _ _ i (by simp at hl ⊢;omega) (by simpa using h)]
   simp
theorem N5 {α:Type}:∀(l:List α) (off:Nat) (ds:List α) (j:Nat),(j<off∨off+ds.length≤j)->(cT l off ds)[j]? =l[j]?
 | l,off,[],j,_=>rfl
 | l,off,d::ds,j,h=>by
  simp only[cT]
  rw[N5 _ _ _ j (by simp at h;omega)]
  have:off≠j:=by simp at h;omega
  simp[this]
theorem af3 {l ds:List DV}{off:Nat}(h1:l.all bG=true)(h2:ds.all bG=true):(cT l off ds).all bG=true:=by
 induction ds generalizing l off with
 | nil=>exact h1
 | cons d ds ih=>
  simp only[List.all_cons,Bool.and_eq_true]at h2
  refine ih ?_ h2.2
  rw[List.all_eq_true]at h1 ⊢
  intro x hx
  rcases List.mem_or_eq_of_mem_set hx with h | h
  ·exact h1 x h
  ·rw[h];exact h2.1
section
variable {P:Program}{n0:Nat}{PR:Addr->Prop}{e:E}{al:Own->Addr->Prop}
theorem bd.set {d:DV}{v:Value}(hd:RD e (fun _=>False) d v):∀{l:List DV}{vs:List Value} (i:Nat),bd e l vs->bd e (l.set i d) (vs.set i v)
 | _,_,_,.nil=>.nil
 | _,_,0,.cons _ b=>.cons hd b
 | _,_,i+1,.cons a b=>.cons a (b.set hd i)
theorem bd.cT:∀{ds:List DV}{us:List Value}{l:List DV}{vs:List Value} (off:Nat),bd e ds us->bd e l vs->bd e (Abs.cT l off ds) (Abs.cT vs off us)
 | _,_,_,_,_,.nil,h=>h
 | _,_,_,_,off,.cons a b,h=>bd.cT (off+1) b (h.set a off)
theorem abM (us:List Value):∀(k off:Nat) (vs:List Value),(us.zipIdx k).foldl (fun(cs:Array Value) (p:Value×Nat)=>cs.setIfInBounds (off+p.2) p.1) ⟨vs⟩=⟨cT vs (off+k) us⟩:=by
 induction us with
 | nil=>intro k off vs;rfl
 | cons u us ih=>
  intro k off vs
  simp only[List.zipIdx_cons,List.foldl_cons,List.setIfInBounds_toArray,cT]
  rw[show(vs.set (off+k) u).toArray=⟨vs.set (off+k) u⟩ from rfl,ih (k+1) off]
  rfl
theorem Tn {v:Value}(h:Cz v=true):v.oneCell'=true:=by cases v<;>first | rfl | (simp[Cz]at h)
theorem NO {s:Addr->Prop}{d:DV}{v:Value}(h:bG d=true)(r:RD e s d v):v.oneCell'=true:=by
 cases r with
 | c r=>
  cases r with
  | sc hs=>exact Tn hs
  | agg=>simp[bG,nI]at h
  | nil=>rfl
  | sl=>rfl
 | un | agg | aX | ia | er=>simp[bG]at h
 | _=>rfl
theorem Lj {v:Value}(h:v.oneCell'=true):v.cells=#[v]:=by cases v<;>first | rfl | (simp[Value.oneCell']at h)
theorem bh.one {im:Addr->Prop}{w:World}:∀{cs:List CV}{vs:List Value},bh im w cs vs->∀v∈vs,v.oneCell'=true
 | _,_,.nil,v,h=>by simp at h
 | _,_,.cons hk a b,v,h=>by
  rcases List.mem_cons.1 h with rfl | h
  ·cases a with
   | sc h=>exact Tn h
   | agg=>simp[nI]at hk
   | nil=>rfl
   | sl=>rfl
  ·exact b.one v h
theorem bd.one:∀{cs:List DV}{vs:List Value},bd e cs vs->cs.all bG=true->∀v∈vs,v.oneCell'=true
 | _,_,.nil,_,v,h=>by simp at h
 | _,_,.cons a b,hk,v,h=>by
  simp only[List.all_cons,Bool.and_eq_true]at hk
  rcases List.mem_cons.1 h with rfl | h
  ·exact NO hk.1 a
  ·exact b.one hk.2 v h
theorem aaj {s:Addr->Prop}{d:DV}{v:Value}{ds:List DV}(h:cellsOf d=some ds)(r:RD e s d v):
  ds.all bG=true∧((∃us,v.cells=⟨us⟩∧bd e ds us)∨(ds=[d]∧v.cells=#[v])):=by
 unfold cellsOf at h
 split at h
 ·rename_i cs
  split at h
  ·rename_i hk
   cases h
   cases r with
   | c r=>cases r with
    | agg hr=>
     refine⟨?_,.inl ⟨_,rfl,hr.CM⟩⟩
     rw[List.all_eq_true]at hk ⊢
     intro x hx
     obtain⟨c,hc,rfl⟩:=List.mem_map.1 hx
     exact hk c hc
  ·cases h
 ·split at h
  ·rename_i hk
   cases h
   cases r with
   | agg _ hr=>exact⟨hk,.inl ⟨_,rfl,hr⟩⟩
  ·cases h
 ·split at h
  ·rename_i hk
   cases h
   exact⟨by simpa using hk,.inr ⟨rfl,Lj (NO hk r)⟩⟩
  ·cases h
theorem Ws (d:DV):bx (bx d)=bx d:=by cases d<;>rfl
theorem RD.plain {s s':Addr->Prop}{d:DV}{v:Value}(h:Abs.bx d=d)(r:RD e s d v):RD e s' d v:=by rw[←h];exact r.bx
theorem Lg {s:Addr->Prop}{d:DV}{v:Value}{ds:List DV}(hd:bx d=d)(h:cellsOf d=some ds)(r:RD e s d v):
  ds.all bG=true∧∃us,v.cells=⟨us⟩∧bd e ds us:=by
 obtain⟨hk,hh | ⟨rfl,hc⟩⟩:=aaj h r
 ·exact⟨hk,hh⟩
 ·exact⟨hk,[v],hc,.cons (r.plain hd) .nil⟩
theorem Bl (fr:Nat->DV)(x:Operand):bx (ev fr x)=ev fr x:=by
 cases x with
 | tmp t=>exact Ws _
 | const v=>
  simp only[ev,CZ]
  split
  ·split<;>rfl
  ·split<;>rfl
 | global g=>rfl
 | func f=>rfl
inductive qk (e:E):List (Nat×DV)->List (Nat×Value)->Prop
 | nil:qk e [] []
 | cons {i:Nat}{s:Addr->Prop}{d:DV}{v:Value}{ds:List (Nat×DV)}{vs:List (Nat×Value)} (hp:Abs.bx d=d) (h:RD e s d v) (hs:qk e ds vs):qk e ((i,d)::ds) ((i,v)::vs)
theorem Fj {place:Nat->Option (Nat×Nat)}:∀{ps:List (Nat×DV)}{us:List (Nat×Value)},qk e ps us->∀{cs r:List DV}{vs:List Value},oY place cs ps=some r->cs.all bG=true->bd e cs vs->
  r.all bG=true∧∃ws,Instr.fill place ⟨vs⟩ us=some ⟨ws⟩∧bd e r ws
 | _,_,.nil,cs,r,vs,h,hk,hr=>by simp only[oY]at h;cases h;exact⟨hk,vs,rfl,hr⟩
 | _,_,.cons hp hd hs,cs,r,vs,h,hk,hr=>by
  rename_i i s d v ds us
  simp only[oY]at h
  split at h
  ·rename_i off size xs h1 h2
   split at h
   ·rename_i hc
    obtain⟨fQ,ys,hy,S5⟩:=Lg hp h2 hd
    obtain⟨m5,ws,hw,kJ⟩:=Fj hs h (af3 hk fQ) (bd.cT off S5 hr)
    refine⟨m5,ws,?_,kJ⟩
    have gj:=S5.length
    have m6:=hr.length
    simp only[Instr.fill,h1,hy]
    have ec:¬((decide ((⟨ys⟩:Array Value).size≠size) || decide (off+(⟨ys⟩:Array Value).size>(⟨vs⟩:Array Value).size))=true):=by
     simp;omega
    rw[if_neg ec]
    have hz:((⟨ys⟩:Array Value).zipIdx).foldl (fun(cs:Array Value) (p:Value×Nat)=>cs.setIfInBounds (off+p.2) p.1) ⟨vs⟩=⟨cT vs off ys⟩:=by
     rw[←Array.foldl_toList,Array.toList_zipIdx]
     exact abM ys 0 off vs
    rw[hz];exact hw
   ·cases h
  ·cases h
theorem AN {t:TypeId}{ds:List DV}(h:rZ P t=some ds)(w:World):∃z:Value,(zeroValue t).run P w= .ok z w∧(∃vs,z.cells=⟨vs⟩∧bd e ds vs)∧ds.all bG=true:=by
 unfold rZ at h
 split at h
 ·rename_i i hi
  split at h
  ·rename_i z hz
   rw[Option.map_eq_some_iff]at h
   obtain⟨cs,cO,rfl⟩:=h
   have hr:bh e.im e.w cs z.cells.toList:=NM cO
   refine⟨z,by simp[zeroValue,typeInfo,hi,hz],⟨z.cells.toList,rfl,hr.CM⟩,?_⟩
   rw[List.all_eq_true]
   intro x hx
   obtain⟨c,hc,rfl⟩:=List.mem_map.1 hx
   obtain⟨_,hj⟩:=List.getElem?_of_mem hc
   exact hr.ok hj
  ·cases h
 ·cases h
theorem qk.of {fr:Nat->DV}{a:Act}(h:∀x,∃s,RD e s (ev fr x) (a.eval x)):∀(ps:List (Nat×Operand)),qk e (oU fr ps) (ps.map fun(i,x)=>(i,a.eval x))
 | []=>.nil
 | (i,x)::ps=>.cons (Bl fr x) (h x).choose_spec (qk.of h ps)
theorem adJ {fs:List Field}{w:World}(cc:∀f∈fs,∃k,cJ P f.type=some k):
  ∃pl:List (Nat×Nat),(fs.mapM (fun f=>do pure (f.offset,←sizeOf f.type):Field->Sem (Nat×Nat))).run P w= .ok pl w∧pl.length=fs.length∧
   ∀(i:Nat) f k,fs[i]? =some f->cJ P f.type=some k->pl[i]? =some (f.offset,k):=by
 induction fs with
 | nil=>exact⟨[],rfl,rfl,by simp⟩
 | cons f fs ih=>
  obtain⟨pl,h1,h2,h3⟩:=ih fun x hx=>cc x (by simp[hx])
  obtain⟨k,hk⟩:=cc f (by simp)
  refine⟨(f.offset,k)::pl,?_,by simp[h2],?_⟩
  ·simp only[List.mapM_cons,Sem.run_bind,fp hk,Result.andThen_ok,Sem.run_pure,h1]
  ·intro i g k' hg m4
   cases i with
   | zero=>simp at hg;subst hg;rw[hk]at m4;cases m4;rfl
   | succ i=>simpa using h3 i g k' (by simpa using hg) m4
theorem TO {b:Bool}:∀{ds:List DV}{vs:List Value}{x d:DV}{u:Value},s6.go b x ds=some d->bd e ds vs->(∃s,RD e s x u)->
  ∃r,(vs.foldlM (if b then Builtin.max2 else Builtin.min2) u).run P e.w= .ok r e.w∧∀s,RD e s d r
 | [],_,x,d,u,h,.nil,⟨s,r⟩=>by
  simp only[s6.go]at h
  split at h
  ·cases h
   cases r with
   | c r=>cases r;exact⟨_,rfl,fun s=>.c (.sc rfl)⟩
  ·cases h
 | y::ds,_,x,d,u,h,.cons a as,⟨s,r⟩=>by
  simp only[s6.go]at h
  split at h
  ·cases r with
   | c r=>cases a with
    | c a=>
     cases r;cases a
     rename_i k a' _ b' _ _ _
     obtain⟨r',h1,h2⟩:=TO h as ⟨fun _=>False,.c (.sc rfl)⟩
     refine⟨r',?_,h2⟩
     cases b<;>simpa[Builtin.max2,Builtin.min2]using h1
  ·cases h
end
end Go.Abs
