/-
  Functions of the program as Lean functions, and that the interpreter comes to the same: printed by the session's own tool.
-/
import Derived.Test.YtilipgopjiokfaaGreatDoorTy
import Derived.Test.YtilipgopjiokfaaGreatDoorAn
set_option linter.unusedVariables false
set_option linter.unusedSimpArgs false
set_option maxRecDepth 100000
set_option maxHeartbeats 1000000
namespace Go.Proofs.YtilipgopjiokfaaGreatDoor
open Go Go.Abs Go.Proofs
set_option maxRecDepth 1000000
def eNil : CV := .sl true true [] 0
def eStr (l : List UInt8) : CV := .sc (.string ⟨l.toArray⟩)
def lvExpr : List CV := [cInt 0, eStr [], eStr [], cInt 0, eNil, cInt 0]
def lvStmt : List CV := [cInt 1, eStr [], eStr [], cInt 0] ++ lvExpr ++ [eNil, cInt 0]
def lvRole : List CV := [eStr [114], .sc (.bool false), cInt 2, .sl false true lvStmt 1, cInt 0]
def lvProg : List CV := [eNil, .sl false true lvRole 1]
def lvEdge : List CV := [cInt 0, cInt 1, cInt 1, cInt 0, cInt 0] ++ lvExpr ++ [cInt 0, cInt 0, cInt 0, cInt 0]
def lvFlow (k : UInt8) : List CV := [eStr [114, 46, k], .sc (.bool false), cInt 2, .sl false false lvEdge 1, eNil]
def lvSys : CV := .agg (lvProg ++ [.sl false false (lvFlow 49 ++ lvFlow 50) 2])
def lvW (x : Bool) (n : CV) (l s : Int) : CV := .agg [.sl false x [cInt 0, cInt l, cInt s, cInt 0, cInt 0, cInt 1, cInt l, cInt s, cInt 0, cInt 0] 2, n, n]
def lvPk : List CV := [cInt 0, cInt 3, cInt 0, cInt 0, cInt 0, cInt 1, cInt 1, cInt 2, cInt 0, cInt 2, cInt 0, cInt 0]
def lvPicks : CV := .sl false true lvPk 4
def lvS : CV := eStr [51, 32, 48, 46, 49, 32, 115, 50, 32, 116]
def lvK : CV := .sl false false [cInt 0, cInt 0, cInt 0, cInt 0, cInt 1, cInt 0, cInt 2, cInt 0, cInt 0, cInt 2, cInt 0, cInt 0] 4
theorem lv_make : X.RunsC 29 [.c (.agg lvProg)] (.tup [.c lvSys, dInt 0, dInt 0]) := Sys.runC 30 fun k => by kernel_rfl
end Go.Proofs.YtilipgopjiokfaaGreatDoor
