/-
  Closed facts of the program and of a row, by the kernel, a few at a time (memory).
-/
import Derived.Test.YtilipgopjiokfaaGreatDoorJa
set_option maxRecDepth 100000
set_option linter.unusedSimpArgs false
namespace Go.Proofs.YtilipgopjiokfaaGreatDoor
open Go Go.Abs Go.Proofs Go.ChangeShapes Go.WideShapes Go.ChangeAt Go.RowKit
theorem scriptBack_inPlace : (Rows.scriptBackRow.inPlace == Tryz.prog.inPlace 4) = true := by kernel_rfl
theorem scriptBack_unfollowed : (Rows.scriptBackRow.unfollowed == Tryz.prog.unfollowed 4) = true := by kernel_rfl
end Go.Proofs.YtilipgopjiokfaaGreatDoor
