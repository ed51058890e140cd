/-
  Functions of the program as Lean functions, and that the interpreter comes to the same: printed by the session's own tool.
-/
import Derived.Test.YtilipgopjiokfaaGreatDoorFb
set_option linter.unusedVariables false
set_option linter.unusedSimpArgs false
set_option maxRecDepth 100000
set_option maxHeartbeats 1000000
namespace Go.Proofs.YtilipgopjiokfaaGreatDoor
open Go Go.Abs Go.Proofs
set_option maxRecDepth 1000000
theorem lv_rounds : X.RunsC 32 [.c lvSys, .c (lvW false eNil 0 0), dInt 2] (.tup [.c (lvW true (.sl false true [] 0) 1 3), .c lvK]) := Sys.runC 30 fun k => by kernel_rfl
end Go.Proofs.YtilipgopjiokfaaGreatDoor
