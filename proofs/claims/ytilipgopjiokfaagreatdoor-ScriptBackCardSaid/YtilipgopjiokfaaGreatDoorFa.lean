/-
  Functions of the program as Lean functions, and that the interpreter comes to the same: printed by the session's own tool.
-/
import Derived.Test.YtilipgopjiokfaaGreatDoorTy
import Derived.Test.YtilipgopjiokfaaGreatDoorAn
set_option linter.unusedVariables false
set_option linter.unusedSimpArgs false
set_option maxRecDepth 100000
set_option maxHeartbeats 1000000
namespace Go.Proofs.YtilipgopjiokfaaGreatDoor
open Go Go.Abs Go.Proofs
set_option maxRecDepth 1000000 in
theorem vigillaw16_live_ok : X.RunsC 8 [] (dB true) := Sys.runC 36 fun k => by kernel_rfl
end Go.Proofs.YtilipgopjiokfaaGreatDoor
