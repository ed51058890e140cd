/-
-/
import Derived.Test.YtpadajnejknkeaaGreatBm
set_option linter.unusedVariables false
set_option linter.unusedSimpArgs false
namespace Go.Abs
open Go
structure au where
 op:Int:=0
 mon:ByteArray:=(⟨#[]⟩:ByteArray)
 name:ByteArray:=(⟨#[]⟩:ByteArray)
 n_:Int:=0
 kids:Sl au:=(Sl.nil:Sl au)
 at_:Int:=0
mutual
def au.lV:au->List CV
 | ⟨a0,a1,a2,a3,⟨Nv,x4,l4⟩,a5⟩=>[bb a0]++[.sc (.string a1)]++[.sc (.string a2)]++[bb a3]++[.sl Nv x4 (au.qy l4) l4.length]++[bb a5]
def au.qy:List au->List CV
 | []=>[]
 | a::tl=>a.lV++au.qy tl
end
theorem au.LL (a:au):a.lV.length=6:=by
 obtain⟨a0,a1,a2,a3,⟨Nv,x4,l4⟩,a5⟩:=a
 simp[au.lV,Enc.len,Enc.sz]
instance:Enc au:=⟨6,au.lV,au.LL⟩
theorem au.uM:∀l:List au,au.qy l=cells l
 | []=>rfl
 | a::tl=>by rw[au.qy,au.uM tl];rfl
instance:EncX au:=⟨fun a=>[bb a.op]++[.sc (.string a.mon)]++[.sc (.string a.name)]++[bb a.n_]++[aq a.kids]++[bb a.at_],fun a=>by
 obtain⟨a0,a1,a2,a3,⟨Nv,x4,l4⟩,a5⟩:=a
 simp[Enc.enc,au.lV,EncX.eq,au.uM,aq]⟩
structure bI where
 name:ByteArray:=(⟨#[]⟩:ByteArray)
 type:Int:=0
 lo:Int:=0
 hi:Int:=0
 init:Int:=0
 at_:Int:=0
instance:Enc bI:=⟨6,fun a=>[.sc (.string a.name)]++[bb a.type]++[bb a.lo]++[bb a.hi]++[bb a.init]++[bb a.at_],fun a=>by simp[Enc.len,Enc.sz]⟩
instance:EncX bI:=⟨fun a=>[.sc (.string a.name)]++[bb a.type]++[bb a.lo]++[bb a.hi]++[bb a.init]++[bb a.at_],fun a=>by simp[EncX.eq,Enc.enc]⟩
structure af where
 kind:Int:=0
 mon:ByteArray:=(⟨#[]⟩:ByteArray)
 name:ByteArray:=(⟨#[]⟩:ByteArray)
 n_:Int:=0
 e_:au:=({}:au)
 blocks:Sl (Sl af):=(Sl.nil:Sl (Sl af))
 at_:Int:=0
mutual
def af.lV:af->List CV
 | ⟨a0,a1,a2,a3,a4,⟨Ny,x5,l5⟩,a6⟩=>[bb a0]++[.sc (.string a1)]++[.sc (.string a2)]++[bb a3]++Enc.enc a4++[.sl Ny x5 (af.E9 l5) l5.length]++[bb a6]
def af.qy:List af->List CV
 | []=>[]
 | a::tl=>a.lV++af.qy tl
def af.E9:List (Sl af)->List CV
 | []=>[]
 | ⟨nl,x,l⟩::tl=>.sl nl x (af.qy l) l.length::af.E9 tl
end
theorem af.LL (a:af):a.lV.length=12:=by
 obtain⟨a0,a1,a2,a3,a4,⟨Ny,x5,l5⟩,a6⟩:=a
 simp[af.lV,Enc.len,Enc.sz]
instance:Enc af:=⟨12,af.lV,af.LL⟩
theorem af.uM:∀l:List af,af.qy l=cells l
 | []=>rfl
 | a::tl=>by rw[af.qy,af.uM tl];rfl
theorem af.LK:∀l:List (Sl af),af.E9 l=cells l
 | []=>rfl
 | ⟨nl,x,l⟩::tl=>by rw[af.E9,af.LK tl,af.uM];rfl
instance:EncX af:=⟨fun a=>[bb a.kind]++[.sc (.string a.mon)]++[.sc (.string a.name)]++[bb a.n_]++EncX.ae a.e_++[aq a.blocks]++[bb a.at_],fun a=>by
 obtain⟨a0,a1,a2,a3,a4,⟨Ny,x5,l5⟩,a6⟩:=a
 simp[Enc.enc,af.lV,EncX.eq,af.uM,af.LK,aq]⟩
structure dW where
 name:ByteArray:=(⟨#[]⟩:ByteArray)
 body:Sl af:=(Sl.nil:Sl af)
 at_:Int:=0
instance:Enc dW:=⟨3,fun a=>[.sc (.string a.name)]++[aq a.body]++[bb a.at_],fun a=>by simp[Enc.len,Enc.sz]⟩
instance:EncX dW:=⟨fun a=>[.sc (.string a.name)]++[aq a.body]++[bb a.at_],fun a=>by simp[EncX.eq,Enc.enc]⟩
structure aH where
 name:ByteArray:=(⟨#[]⟩:ByteArray)
 vars:Sl bI:=(Sl.nil:Sl bI)
 methods:Sl dW:=(Sl.nil:Sl dW)
 at_:Int:=0
instance:Enc aH:=⟨4,fun a=>[.sc (.string a.name)]++[aq a.vars]++[aq a.methods]++[bb a.at_],fun a=>by simp[Enc.len,Enc.sz]⟩
instance:EncX aH:=⟨fun a=>[.sc (.string a.name)]++[aq a.vars]++[aq a.methods]++[bb a.at_],fun a=>by simp[EncX.eq,Enc.enc]⟩
structure aO where
 name:ByteArray:=(⟨#[]⟩:ByteArray)
 star:Bool:=false
 count:Int:=0
 body:Sl af:=(Sl.nil:Sl af)
 at_:Int:=0
instance:Enc aO:=⟨5,fun a=>[.sc (.string a.name)]++[.sc (.bool a.star)]++[bb a.count]++[aq a.body]++[bb a.at_],fun a=>by simp[Enc.len,Enc.sz]⟩
instance:EncX aO:=⟨fun a=>[.sc (.string a.name)]++[.sc (.bool a.star)]++[bb a.count]++[aq a.body]++[bb a.at_],fun a=>by simp[EncX.eq,Enc.enc]⟩
structure aj where
 aw:Sl aH:=(Sl.nil:Sl aH)
 aR:Sl aO:=(Sl.nil:Sl aO)
instance:Enc aj:=⟨2,fun a=>[aq a.aw]++[aq a.aR],fun a=>by simp[Enc.len,Enc.sz]⟩
instance:EncX aj:=⟨fun a=>[aq a.aw]++[aq a.aR],fun a=>by simp[EncX.eq,Enc.enc]⟩
structure aS where
 from_:Int:=0
 a8:Int:=0
 kind:Int:=0
 mon:Int:=0
 var:Int:=0
 e_:au:=({}:au)
 n_:Int:=0
 site:Int:=0
 out:Int:=0
 at_:Int:=0
instance:Enc aS:=⟨15,fun a=>[bb a.from_]++[bb a.a8]++[bb a.kind]++[bb a.mon]++[bb a.var]++Enc.enc a.e_++[bb a.n_]++[bb a.site]++[bb a.out]++[bb a.at_],fun a=>by simp[Enc.len,Enc.sz]⟩
instance:EncX aS:=⟨fun a=>[bb a.from_]++[bb a.a8]++[bb a.kind]++[bb a.mon]++[bb a.var]++EncX.ae a.e_++[bb a.n_]++[bb a.site]++[bb a.out]++[bb a.at_],fun a=>by simp[EncX.eq,Enc.enc]⟩
structure bn where
 mon:Int:=0
 e_:au:=({}:au)
 loop:Bool:=false
instance:Enc bn:=⟨8,fun a=>[bb a.mon]++Enc.enc a.e_++[.sc (.bool a.loop)],fun a=>by simp[Enc.len,Enc.sz]⟩
instance:EncX bn:=⟨fun a=>[bb a.mon]++EncX.ae a.e_++[.sc (.bool a.loop)],fun a=>by simp[EncX.eq,Enc.enc]⟩
structure aN where
 name:ByteArray:=(⟨#[]⟩:ByteArray)
 star:Bool:=false
 ar:Int:=0
 aU:Sl aS:=(Sl.nil:Sl aS)
 guards:Sl bn:=(Sl.nil:Sl bn)
instance:Enc aN:=⟨5,fun a=>[.sc (.string a.name)]++[.sc (.bool a.star)]++[bb a.ar]++[aq a.aU]++[aq a.guards],fun a=>by simp[Enc.len,Enc.sz]⟩
instance:EncX aN:=⟨fun a=>[.sc (.string a.name)]++[.sc (.bool a.star)]++[bb a.ar]++[aq a.aU]++[aq a.guards],fun a=>by simp[EncX.eq,Enc.enc]⟩
structure aT where
 p:aj:=({}:aj)
 bc:Sl aN:=(Sl.nil:Sl aN)
instance:Enc aT:=⟨3,fun a=>Enc.enc a.p++[aq a.bc],fun a=>by simp[Enc.len,Enc.sz]⟩
instance:EncX aT:=⟨fun a=>EncX.ae a.p++[aq a.bc],fun a=>by simp[EncX.eq,Enc.enc]⟩
structure ah where
 role:Int:=0
 loc:Int:=0
 state:Int:=0
 left:Int:=0
 depth:Int:=0
 deriving DecidableEq
instance:Enc ah:=⟨5,fun a=>[bb a.role]++[bb a.loc]++[bb a.state]++[bb a.left]++[bb a.depth],fun a=>by simp[Enc.len,Enc.sz]⟩
instance:EncX ah:=⟨fun a=>[bb a.role]++[bb a.loc]++[bb a.state]++[bb a.left]++[bb a.depth],fun a=>by simp[EncX.eq,Enc.enc]⟩
structure aE where
 owner:Int:=0
 depth:Int:=0
 deriving DecidableEq
instance:Enc aE:=⟨2,fun a=>[bb a.owner]++[bb a.depth],fun a=>by simp[Enc.len,Enc.sz]⟩
instance:EncX aE:=⟨fun a=>[bb a.owner]++[bb a.depth],fun a=>by simp[EncX.eq,Enc.enc]⟩
structure bo where
 threads:Sl ah:=(Sl.nil:Sl ah)
 aZ:Sl aE:=(Sl.nil:Sl aE)
 aB:Sl Int:=(Sl.nil:Sl Int)
instance:Enc bo:=⟨3,fun a=>[aq a.threads]++[aq a.aZ]++[aq a.aB],fun a=>by simp[Enc.len,Enc.sz]⟩
instance:EncX bo:=⟨fun a=>[aq a.threads]++[aq a.aZ]++[aq a.aB],fun a=>by simp[EncX.eq,Enc.enc]⟩
structure a7 where
 mon:ByteArray:=(⟨#[]⟩:ByteArray)
 name:ByteArray:=(⟨#[]⟩:ByteArray)
 deriving DecidableEq
instance:Enc a7:=⟨2,fun a=>[.sc (.string a.mon)]++[.sc (.string a.name)],fun a=>by simp[Enc.len,Enc.sz]⟩
instance:EncX a7:=⟨fun a=>[.sc (.string a.mon)]++[.sc (.string a.name)],fun a=>by simp[EncX.eq,Enc.enc]⟩
structure dS where
 bW:Bool:=false
 e_:au:=({}:au)
 loop:Bool:=false
instance:Enc dS:=⟨8,fun a=>[.sc (.bool a.bW)]++Enc.enc a.e_++[.sc (.bool a.loop)],fun a=>by simp[Enc.len,Enc.sz]⟩
instance:EncX dS:=⟨fun a=>[.sc (.bool a.bW)]++EncX.ae a.e_++[.sc (.bool a.loop)],fun a=>by simp[EncX.eq,Enc.enc]⟩
structure bT where
 kind:Int:=0
 cZ:Int:=0
 draw:Int:=0
 deriving DecidableEq
instance:Enc bT:=⟨3,fun a=>[bb a.kind]++[bb a.cZ]++[bb a.draw],fun a=>by simp[Enc.len,Enc.sz]⟩
instance:EncX bT:=⟨fun a=>[bb a.kind]++[bb a.cZ]++[bb a.draw],fun a=>by simp[EncX.eq,Enc.enc]⟩
structure fB where
 jx:Int:=0
 jt:Sl Int:=(Sl.nil:Sl Int)
instance:Enc fB:=⟨2,fun a=>[bb a.jx]++[aq a.jt],fun a=>by simp[Enc.len,Enc.sz]⟩
instance:EncX fB:=⟨fun a=>[bb a.jx]++[aq a.jt],fun a=>by simp[EncX.eq,Enc.enc]⟩
structure dx where
 bW:Int:=0
 parts:Int:=0
instance:Enc dx:=⟨2,fun a=>[bb a.bW]++[bb a.parts],fun a=>by simp[Enc.len,Enc.sz]⟩
instance:EncX dx:=⟨fun a=>[bb a.bW]++[bb a.parts],fun a=>by simp[EncX.eq,Enc.enc]⟩
end Go.Abs
