/-
  The program's structures, as cells: printed by the session's own tool.
-/
import Derived.Test.YtilipgopjiokfaaGreatDoorAbs35
set_option linter.unusedVariables false
set_option linter.unusedSimpArgs false
namespace Go.Abs
open Go
structure GThread where
  role : Int
  loc : Int
  state : Int
  left : Int
  depth : Int
  deriving DecidableEq
instance : Enc GThread := ⟨5, fun a => [cInt a.role] ++ [cInt a.loc] ++ [cInt a.state] ++ [cInt a.left] ++ [cInt a.depth], fun a => by simp [Enc.len, Enc.sz]⟩
instance : EncX GThread := ⟨fun a => [cInt a.role] ++ [cInt a.loc] ++ [cInt a.state] ++ [cInt a.left] ++ [cInt a.depth], fun a => by simp [EncX.eq, Enc.enc]⟩
structure GLock where
  owner : Int
  depth : Int
  deriving DecidableEq
instance : Enc GLock := ⟨2, fun a => [cInt a.owner] ++ [cInt a.depth], fun a => by simp [Enc.len, Enc.sz]⟩
instance : EncX GLock := ⟨fun a => [cInt a.owner] ++ [cInt a.depth], fun a => by simp [EncX.eq, Enc.enc]⟩
structure GWorld where
  threads : Sl GThread
  locks : Sl GLock
  vals : Sl Int
instance : Enc GWorld := ⟨3, fun a => [eSl a.threads] ++ [eSl a.locks] ++ [eSl a.vals], fun a => by simp [Enc.len, Enc.sz]⟩
instance : EncX GWorld := ⟨fun a => [eSl a.threads] ++ [eSl a.locks] ++ [eSl a.vals], fun a => by simp [EncX.eq, Enc.enc]⟩
structure GExpr where
  op : Int
  mon : ByteArray
  name : ByteArray
  n_ : Int
  kids : Sl GExpr
  at_ : Int
mutual
def GExpr.encR : GExpr → List CV
  | ⟨a0, a1, a2, a3, ⟨nl4, x4, l4⟩, a5⟩ => [cInt a0] ++ [.sc (.string a1)] ++ [.sc (.string a2)] ++ [cInt a3] ++ [.sl nl4 x4 (GExpr.encL1 l4) l4.length] ++ [cInt a5]
def GExpr.encL1 : List GExpr → List CV
  | [] => []
  | a :: tl => a.encR ++ GExpr.encL1 tl
end
theorem GExpr.encR_len (a : GExpr) : a.encR.length = 6 := by
  obtain ⟨a0, a1, a2, a3, ⟨nl4, x4, l4⟩, a5⟩ := a
  simp [GExpr.encR, Enc.len, Enc.sz]
instance : Enc GExpr := ⟨6, GExpr.encR, GExpr.encR_len⟩
theorem GExpr.encL1_eq : ∀ l : List GExpr, GExpr.encL1 l = cells l
  | [] => rfl
  | a :: tl => by rw [GExpr.encL1, GExpr.encL1_eq tl]; rfl
instance : EncX GExpr := ⟨fun a => [cInt a.op] ++ [.sc (.string a.mon)] ++ [.sc (.string a.name)] ++ [cInt a.n_] ++ [eSl a.kids] ++ [cInt a.at_], fun a => by
  obtain ⟨a0, a1, a2, a3, ⟨nl4, x4, l4⟩, a5⟩ := a
  simp [Enc.enc, GExpr.encR, EncX.eq, GExpr.encL1_eq, eSl]⟩
structure GStmt where
  kind : Int
  mon : ByteArray
  name : ByteArray
  n_ : Int
  e_ : GExpr
  blocks : Sl (Sl GStmt)
  at_ : Int
mutual
def GStmt.encR : GStmt → List CV
  | ⟨a0, a1, a2, a3, a4, ⟨nl5, x5, l5⟩, a6⟩ => [cInt a0] ++ [.sc (.string a1)] ++ [.sc (.string a2)] ++ [cInt a3] ++ Enc.enc a4 ++ [.sl nl5 x5 (GStmt.encL2 l5) l5.length] ++ [cInt a6]
def GStmt.encL1 : List GStmt → List CV
  | [] => []
  | a :: tl => a.encR ++ GStmt.encL1 tl
def GStmt.encL2 : List (Sl GStmt) → List CV
  | [] => []
  | ⟨nl, x, l⟩ :: tl => .sl nl x (GStmt.encL1 l) l.length :: GStmt.encL2 tl
end
theorem GStmt.encR_len (a : GStmt) : a.encR.length = 12 := by
  obtain ⟨a0, a1, a2, a3, a4, ⟨nl5, x5, l5⟩, a6⟩ := a
  simp [GStmt.encR, Enc.len, Enc.sz]
instance : Enc GStmt := ⟨12, GStmt.encR, GStmt.encR_len⟩
theorem GStmt.encL1_eq : ∀ l : List GStmt, GStmt.encL1 l = cells l
  | [] => rfl
  | a :: tl => by rw [GStmt.encL1, GStmt.encL1_eq tl]; rfl
theorem GStmt.encL2_eq : ∀ l : List (Sl GStmt), GStmt.encL2 l = cells l
  | [] => rfl
  | ⟨nl, x, l⟩ :: tl => by rw [GStmt.encL2, GStmt.encL2_eq tl, GStmt.encL1_eq]; rfl
instance : EncX GStmt := ⟨fun a => [cInt a.kind] ++ [.sc (.string a.mon)] ++ [.sc (.string a.name)] ++ [cInt a.n_] ++ EncX.encX a.e_ ++ [eSl a.blocks] ++ [cInt a.at_], fun a => by
  obtain ⟨a0, a1, a2, a3, a4, ⟨nl5, x5, l5⟩, a6⟩ := a
  simp [Enc.enc, GStmt.encR, EncX.eq, GStmt.encL1_eq, GStmt.encL2_eq, eSl]⟩
structure GRole where
  name : ByteArray
  star : Bool
  count : Int
  body : Sl GStmt
  at_ : Int
instance : Enc GRole := ⟨5, fun a => [.sc (.string a.name)] ++ [.sc (.bool a.star)] ++ [cInt a.count] ++ [eSl a.body] ++ [cInt a.at_], fun a => by simp [Enc.len, Enc.sz]⟩
instance : EncX GRole := ⟨fun a => [.sc (.string a.name)] ++ [.sc (.bool a.star)] ++ [cInt a.count] ++ [eSl a.body] ++ [cInt a.at_], fun a => by simp [EncX.eq, Enc.enc]⟩
structure GVar where
  name : ByteArray
  type : Int
  lo : Int
  hi : Int
  init : Int
  at_ : Int
instance : Enc GVar := ⟨6, fun a => [.sc (.string a.name)] ++ [cInt a.type] ++ [cInt a.lo] ++ [cInt a.hi] ++ [cInt a.init] ++ [cInt a.at_], fun a => by simp [Enc.len, Enc.sz]⟩
instance : EncX GVar := ⟨fun a => [.sc (.string a.name)] ++ [cInt a.type] ++ [cInt a.lo] ++ [cInt a.hi] ++ [cInt a.init] ++ [cInt a.at_], fun a => by simp [EncX.eq, Enc.enc]⟩
structure GMethod where
  name : ByteArray
  body : Sl GStmt
  at_ : Int
instance : Enc GMethod := ⟨3, fun a => [.sc (.string a.name)] ++ [eSl a.body] ++ [cInt a.at_], fun a => by simp [Enc.len, Enc.sz]⟩
instance : EncX GMethod := ⟨fun a => [.sc (.string a.name)] ++ [eSl a.body] ++ [cInt a.at_], fun a => by simp [EncX.eq, Enc.enc]⟩
structure GMonitor where
  name : ByteArray
  vars : Sl GVar
  methods : Sl GMethod
  at_ : Int
instance : Enc GMonitor := ⟨4, fun a => [.sc (.string a.name)] ++ [eSl a.vars] ++ [eSl a.methods] ++ [cInt a.at_], fun a => by simp [Enc.len, Enc.sz]⟩
instance : EncX GMonitor := ⟨fun a => [.sc (.string a.name)] ++ [eSl a.vars] ++ [eSl a.methods] ++ [cInt a.at_], fun a => by simp [EncX.eq, Enc.enc]⟩
structure GProgram where
  mons : Sl GMonitor
  roles : Sl GRole
instance : Enc GProgram := ⟨2, fun a => [eSl a.mons] ++ [eSl a.roles], fun a => by simp [Enc.len, Enc.sz]⟩
instance : EncX GProgram := ⟨fun a => [eSl a.mons] ++ [eSl a.roles], fun a => by simp [EncX.eq, Enc.enc]⟩
structure GEdge where
  from_ : Int
  to_ : Int
  kind : Int
  mon : Int
  var : Int
  e_ : GExpr
  n_ : Int
  site : Int
  out : Int
  at_ : Int
instance : Enc GEdge := ⟨15, fun a => [cInt a.from_] ++ [cInt a.to_] ++ [cInt a.kind] ++ [cInt a.mon] ++ [cInt a.var] ++ Enc.enc a.e_ ++ [cInt a.n_] ++ [cInt a.site] ++ [cInt a.out] ++ [cInt a.at_], fun a => by simp [Enc.len, Enc.sz]⟩
instance : EncX GEdge := ⟨fun a => [cInt a.from_] ++ [cInt a.to_] ++ [cInt a.kind] ++ [cInt a.mon] ++ [cInt a.var] ++ EncX.encX a.e_ ++ [cInt a.n_] ++ [cInt a.site] ++ [cInt a.out] ++ [cInt a.at_], fun a => by simp [EncX.eq, Enc.enc]⟩
structure GGuard where
  mon : Int
  e_ : GExpr
  loop : Bool
instance : Enc GGuard := ⟨8, fun a => [cInt a.mon] ++ Enc.enc a.e_ ++ [.sc (.bool a.loop)], fun a => by simp [Enc.len, Enc.sz]⟩
instance : EncX GGuard := ⟨fun a => [cInt a.mon] ++ EncX.encX a.e_ ++ [.sc (.bool a.loop)], fun a => by simp [EncX.eq, Enc.enc]⟩
structure GFlow where
  name : ByteArray
  star : Bool
  locs : Int
  edges : Sl GEdge
  guards : Sl GGuard
instance : Enc GFlow := ⟨5, fun a => [.sc (.string a.name)] ++ [.sc (.bool a.star)] ++ [cInt a.locs] ++ [eSl a.edges] ++ [eSl a.guards], fun a => by simp [Enc.len, Enc.sz]⟩
instance : EncX GFlow := ⟨fun a => [.sc (.string a.name)] ++ [.sc (.bool a.star)] ++ [cInt a.locs] ++ [eSl a.edges] ++ [eSl a.guards], fun a => by simp [EncX.eq, Enc.enc]⟩
structure GSystem where
  p : GProgram
  flows : Sl GFlow
instance : Enc GSystem := ⟨3, fun a => Enc.enc a.p ++ [eSl a.flows], fun a => by simp [Enc.len, Enc.sz]⟩
instance : EncX GSystem := ⟨fun a => EncX.encX a.p ++ [eSl a.flows], fun a => by simp [EncX.eq, Enc.enc]⟩
structure GRef where
  mon : ByteArray
  name : ByteArray
  deriving DecidableEq
instance : Enc GRef := ⟨2, fun a => [.sc (.string a.mon)] ++ [.sc (.string a.name)], fun a => by simp [Enc.len, Enc.sz]⟩
instance : EncX GRef := ⟨fun a => [.sc (.string a.mon)] ++ [.sc (.string a.name)], fun a => by simp [EncX.eq, Enc.enc]⟩
structure Vigilref12_L where
  p : GProgram
  f : GFlow
instance : Enc Vigilref12_L := ⟨7, fun a => Enc.enc a.p ++ Enc.enc a.f, fun a => by simp [Enc.len, Enc.sz]⟩
instance : EncX Vigilref12_L := ⟨fun a => EncX.encX a.p ++ EncX.encX a.f, fun a => by simp [EncX.eq, Enc.enc]⟩
structure Vigilref12_Near where
  is_ : Bool
  e_ : GExpr
  loop : Bool
instance : Enc Vigilref12_Near := ⟨8, fun a => [.sc (.bool a.is_)] ++ Enc.enc a.e_ ++ [.sc (.bool a.loop)], fun a => by simp [Enc.len, Enc.sz]⟩
instance : EncX Vigilref12_Near := ⟨fun a => [.sc (.bool a.is_)] ++ EncX.encX a.e_ ++ [.sc (.bool a.loop)], fun a => by simp [EncX.eq, Enc.enc]⟩
structure GPick where
  kind : Int
  thread : Int
  draw : Int
  deriving DecidableEq
instance : Enc GPick := ⟨3, fun a => [cInt a.kind] ++ [cInt a.thread] ++ [cInt a.draw], fun a => by simp [Enc.len, Enc.sz]⟩
instance : EncX GPick := ⟨fun a => [cInt a.kind] ++ [cInt a.thread] ++ [cInt a.draw], fun a => by simp [EncX.eq, Enc.enc]⟩
structure GTook where
  edge : Int
  woken : Sl Int
instance : Enc GTook := ⟨2, fun a => [cInt a.edge] ++ [eSl a.woken], fun a => by simp [Enc.len, Enc.sz]⟩
instance : EncX GTook := ⟨fun a => [cInt a.edge] ++ [eSl a.woken], fun a => by simp [EncX.eq, Enc.enc]⟩
structure Step_machine where
  s_ : GSystem
  w : GWorld
  woken : Sl Int
instance : Enc Step_machine := ⟨7, fun a => Enc.enc a.s_ ++ Enc.enc a.w ++ [eSl a.woken], fun a => by simp [Enc.len, Enc.sz]⟩
instance : EncX Step_machine := ⟨fun a => EncX.encX a.s_ ++ EncX.encX a.w ++ [eSl a.woken], fun a => by simp [EncX.eq, Enc.enc]⟩
structure Types_checker where
  p : GProgram
  vars : Sl GVar
  code : Int
  at_ : Int
instance : Enc Types_checker := ⟨5, fun a => Enc.enc a.p ++ [eSl a.vars] ++ [cInt a.code] ++ [cInt a.at_], fun a => by simp [Enc.len, Enc.sz]⟩
instance : EncX Types_checker := ⟨fun a => EncX.encX a.p ++ [eSl a.vars] ++ [cInt a.code] ++ [cInt a.at_], fun a => by simp [EncX.eq, Enc.enc]⟩
structure Types_sort where
  is_ : Int
  parts : Int
instance : Enc Types_sort := ⟨2, fun a => [cInt a.is_] ++ [cInt a.parts], fun a => by simp [Enc.len, Enc.sz]⟩
instance : EncX Types_sort := ⟨fun a => [cInt a.is_] ++ [cInt a.parts], fun a => by simp [EncX.eq, Enc.enc]⟩
structure Value_reckoner where
  p : GProgram
  vals : Sl Int
  fault : Bool
instance : Enc Value_reckoner := ⟨4, fun a => Enc.enc a.p ++ [eSl a.vals] ++ [.sc (.bool a.fault)], fun a => by simp [Enc.len, Enc.sz]⟩
instance : EncX Value_reckoner := ⟨fun a => EncX.encX a.p ++ [eSl a.vals] ++ [.sc (.bool a.fault)], fun a => by simp [EncX.eq, Enc.enc]⟩
structure GLasso where
  stem : Sl GPick
  loop : Sl GPick
  thread : Int
instance : Enc GLasso := ⟨3, fun a => [eSl a.stem] ++ [eSl a.loop] ++ [cInt a.thread], fun a => by simp [Enc.len, Enc.sz]⟩
instance : EncX GLasso := ⟨fun a => [eSl a.stem] ++ [eSl a.loop] ++ [cInt a.thread], fun a => by simp [EncX.eq, Enc.enc]⟩
end Go.Abs
