/-
  Closed facts of the program and of a row, by the kernel, a few at a time (memory).
-/
import Derived.Test.YtilipgopjiokfaaGreatDoorJa
set_option maxRecDepth 100000
set_option linter.unusedSimpArgs false
namespace Go.Proofs.YtilipgopjiokfaaGreatDoor
open Go Go.Abs Go.Proofs Go.ChangeShapes Go.WideShapes Go.ChangeAt Go.RowKit
theorem scriptTexts_inPlace : (Rows.scriptTextsRow.inPlace == Tryz.prog.inPlace 3) = true := by kernel_rfl
theorem scriptTexts_unfollowed : (Rows.scriptTextsRow.unfollowed == Tryz.prog.unfollowed 3) = true := by kernel_rfl
end Go.Proofs.YtilipgopjiokfaaGreatDoor
