/-
  Closed facts of the program and of a row, by the kernel, a few at a time (memory).
-/
import Derived.Test.YtilipgopjiokfaaGreatDoorAbs35
import Derived.Test.YtilipgopjiokfaaGreatDoorRows
import Derived.SevenTiedAt
set_option maxRecDepth 100000
set_option linter.unusedSimpArgs false
namespace Go.Proofs.YtilipgopjiokfaaGreatDoor
open Go Go.Abs Go.Proofs Go.ChangeShapes Go.WideShapes Go.ChangeAt Go.RowKit
theorem worldBack_inPlace : (Rows.worldBackRow.inPlace == Tryz.prog.inPlace 7) = true := by kernel_rfl
theorem worldBack_unfollowed : (Rows.worldBackRow.unfollowed == Tryz.prog.unfollowed 7) = true := by kernel_rfl
end Go.Proofs.YtilipgopjiokfaaGreatDoor
