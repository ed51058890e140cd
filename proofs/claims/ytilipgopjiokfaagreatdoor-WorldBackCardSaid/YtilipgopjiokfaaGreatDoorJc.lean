/-
  Part of the proof: printed by the session's own program out of the program's form, or typed; it states no claim by itself.
-/
import Derived.Test.YtilipgopjiokfaaGreatDoorAbs35
import Derived.Test.YtilipgopjiokfaaGreatDoorRows
import Derived.SevenTiedAt
/-
  Closed facts of the program and of a row, by the kernel, a few at a time (memory).
-/
set_option maxRecDepth 100000
set_option linter.unusedSimpArgs false
namespace Go.Proofs.YtilipgopjiokfaaGreatDoor
open Go Go.Abs Go.Proofs Go.ChangeShapes Go.WideShapes Go.ChangeAt Go.RowKit
theorem j_main : Tryz.pinned.checked.prog.mainIs = some ((true, "0b530867c2d515690f58d80b752c7cd9748f5e2635c93c9b5c45ed3af57d3eca").1, (true, "0b530867c2d515690f58d80b752c7cd9748f5e2635c93c9b5c45ed3af57d3eca").2.toList) := by kernel_rfl
end Go.Proofs.YtilipgopjiokfaaGreatDoor

/-
  Closed facts of the program and of a row, by the kernel, a few at a time (memory).
-/
set_option maxRecDepth 100000
set_option linter.unusedSimpArgs false
namespace Go.Proofs.YtilipgopjiokfaaGreatDoor
open Go Go.Abs Go.Proofs Go.ChangeShapes Go.WideShapes Go.ChangeAt Go.RowKit
theorem j_looks : true = Tryz.pinned.checked.prog.looks [] := by kernel_rfl
end Go.Proofs.YtilipgopjiokfaaGreatDoor

/-
  Closed facts of the program and of a row, by the kernel, a few at a time (memory).
-/
set_option maxRecDepth 100000
set_option linter.unusedSimpArgs false
namespace Go.Proofs.YtilipgopjiokfaaGreatDoor
open Go Go.Abs Go.Proofs Go.ChangeShapes Go.WideShapes Go.ChangeAt Go.RowKit
theorem worldBack_wf : Rows.worldBackRow.wfByText (OpenSpec.ofChange Rows.worldBackSpec) = true := by kernel_rfl
end Go.Proofs.YtilipgopjiokfaaGreatDoor
