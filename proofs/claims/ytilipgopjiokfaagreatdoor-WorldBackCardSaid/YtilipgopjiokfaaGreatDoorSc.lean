/-
  Closed facts of the program and of a row, by the kernel, a few at a time (memory).
-/
import Derived.Test.YtilipgopjiokfaaGreatDoorAbs35
import Derived.Test.YtilipgopjiokfaaGreatDoorRows
import Derived.SevenTiedAt
set_option maxRecDepth 100000
set_option linter.unusedSimpArgs false
namespace Go.Proofs.YtilipgopjiokfaaGreatDoor
open Go Go.Abs Go.Proofs Go.ChangeShapes Go.WideShapes Go.ChangeAt Go.RowKit
theorem worldBack_recurses : (Rows.worldBackRow.recurses == Tryz.prog.recurses 7) = true := by kernel_rfl
theorem worldBack_named : (Rows.worldBackRow.named == Tryz.prog.varsNamed 7) = true := by kernel_rfl
end Go.Proofs.YtilipgopjiokfaaGreatDoor
