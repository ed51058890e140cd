/-
  A world in which the listed variables lie as they must.
-/
import Derived.Test.YtilipgopjiokfaaGreatDoorRk
set_option linter.unusedVariables false
set_option maxRecDepth 100000
namespace Go.Proofs.YtilipgopjiokfaaGreatDoor
open Go Go.Abs Go.Proofs Go.ChangeShapes Go.WideShapes Go.ChangeAt Go.RowKit
abbrev laidZ : List (String × DataW Unit) := Rows.worldTextsRow.laid
noncomputable abbrev wZ (os : Os) (args : Array Value) : World := (World.laidAll Tryz.prog os laidZ).forCall (fun _ _ => 0) ⟨#[], args, []⟩
theorem w_shaped (os : Os) (args : Array Value) : (wZ os args).Shaped Tryz.prog := World.shaped_of_ZipB (by kernel_rfl) (by kernel_rfl)
theorem w_met (os : Os) (args : Array Value) : laidMet Tryz.prog laidZ (wZ os args).memory := laidMet_laidAll _ (by kernel_rfl) (by kernel_rfl)
end Go.Proofs.YtilipgopjiokfaaGreatDoor
