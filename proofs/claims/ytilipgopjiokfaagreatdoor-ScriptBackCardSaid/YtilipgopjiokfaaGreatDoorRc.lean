/-
  Closed facts of the program and of a row, by the kernel, a few at a time (memory).
-/
import Derived.Test.YtilipgopjiokfaaGreatDoorRb
set_option maxRecDepth 100000
set_option linter.unusedSimpArgs false
namespace Go.Proofs.YtilipgopjiokfaaGreatDoor
open Go Go.Abs Go.Proofs Go.ChangeShapes Go.WideShapes Go.ChangeAt Go.RowKit
theorem scriptBack_recurses : (Rows.scriptBackRow.recurses == Tryz.prog.recurses 4) = true := by kernel_rfl
theorem scriptBack_named : (Rows.scriptBackRow.named == Tryz.prog.varsNamed 4) = true := by kernel_rfl
end Go.Proofs.YtilipgopjiokfaaGreatDoor
