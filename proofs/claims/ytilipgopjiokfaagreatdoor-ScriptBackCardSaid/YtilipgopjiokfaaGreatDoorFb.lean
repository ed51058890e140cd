/-
  Functions of the program as Lean functions, and that the interpreter comes to the same: printed by the session's own tool.
-/
import Derived.Test.YtilipgopjiokfaaGreatDoorFa
set_option linter.unusedVariables false
set_option linter.unusedSimpArgs false
set_option maxRecDepth 100000
set_option maxHeartbeats 1000000
namespace Go.Proofs.YtilipgopjiokfaaGreatDoor
open Go Go.Abs Go.Proofs
set_option maxRecDepth 1000000
theorem lv_first : X.RunsC 30 [.c lvSys, .c eNil] (.tup [.c (lvW false eNil 0 0), dInt 0]) := Sys.runC 30 fun k => by kernel_rfl
theorem lv_run : X.RunsC 31 [.c lvSys, .c (lvW false eNil 0 0), .c lvPicks] (.tup [.c (lvW true (.sl false true [] 0) 0 0), dInt 1]) := Sys.runC 30 fun k => by kernel_rfl
theorem lv_put : X.RunsC 9 [.c lvPicks] (.tup [.c lvS, dInt 0]) := Sys.runC 30 fun k => by kernel_rfl
theorem lv_parse : X.RunsC 11 [.c lvS] (.tup [.c (.sl false false lvPk 4), dInt 0]) := Sys.runC 30 fun k => by kernel_rfl
theorem lv_parse2 : X.RunsC 11 [.c (eStr [49, 32, 32, 50])] (.tup [.c eNil, dInt 2]) := Sys.runC 30 fun k => by kernel_rfl
theorem lv_num (n : Int) : X.RunsC 13 [dInt n] (dInt n) := Sys.runC 30 fun k => by kernel_rfl
theorem lv_samep : X.RunsC 14 [.c lvPicks, .c (.sl false false lvPk 4)] (dB true) := Sys.runC 30 fun k => by kernel_rfl
theorem lv_same : X.RunsC 26 [.c (lvW false eNil 0 0), .c (lvW true (.sl false true [] 0) 0 0)] (dB true) := Sys.runC 30 fun k => by kernel_rfl
end Go.Proofs.YtilipgopjiokfaaGreatDoor
