/-
  Closed facts of the program and of a row, by the kernel, a few at a time (memory).
-/
import Derived.Test.YtilipgopjiokfaaGreatDoorJa
set_option maxRecDepth 100000
set_option linter.unusedSimpArgs false
namespace Go.Proofs.YtilipgopjiokfaaGreatDoor
open Go Go.Abs Go.Proofs Go.ChangeShapes Go.WideShapes Go.ChangeAt Go.RowKit
theorem lassoTexts_inPlace : (Rows.lassoTextsRow.inPlace == Tryz.prog.inPlace 5) = true := by kernel_rfl
theorem lassoTexts_unfollowed : (Rows.lassoTextsRow.unfollowed == Tryz.prog.unfollowed 5) = true := by kernel_rfl
end Go.Proofs.YtilipgopjiokfaaGreatDoor
