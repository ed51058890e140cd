/-
  WorldBack: for every two worlds and every text the call of the law returns true, and both read behind it as before. Its condition: the listed package-level variables hold what the program's text lays, and the card ties them to it.
-/
import Derived.Test.YtilipgopjiokfaaGreatDoorJa
import Derived.Test.YtilipgopjiokfaaGreatDoorSa
import Derived.Test.YtilipgopjiokfaaGreatDoorSb
import Derived.Test.YtilipgopjiokfaaGreatDoorSc
import Derived.Test.YtilipgopjiokfaaGreatDoorJc
import Derived.Test.YtilipgopjiokfaaGreatDoorSe
import Derived.Test.YtilipgopjiokfaaGreatDoorTie
import Derived.Test.YtilipgopjiokfaaGreatDoorCards
import Derived.SevenTiedAt
set_option linter.unusedVariables false
set_option linter.unusedSimpArgs false
set_option maxRecDepth 100000
namespace Go.Proofs.YtilipgopjiokfaaGreatDoor
open Go Go.Abs Go.Proofs Go.ChangeShapes Go.WideShapes Go.ChangeAt Go.RowKit

theorem worldBack_closed : joinedFacts Tryz.prog 7 Tryz.f7 Rows.worldBackSpec Rows.worldBackRow = true := by
  unfold joinedFacts
  rw [laidOut, j_maps, j_heard, j_may, worldBack_inPlace, worldBack_unfollowed, worldBack_recurses, worldBack_named]
  kernel_rfl
theorem worldBack_row : Rows.worldBackRow.holds Tryz.pinned (OpenSpec.ofChange Rows.worldBackSpec) :=
  OpenClaim.holds_of_wide 7 Tryz.f7 rfl rfl rfl rfl rfl rfl rfl ⟨rfl, rfl, rfl, rfl, rfl⟩ rfl rfl rfl rfl rfl (by kernel_rfl) Tryz.func7 worldBack_closed
    (of_decide_eq_true (by kernel_rfl)) (by unfold Func.isWrapper; first | (rw [if_pos (by decide +kernel)]; kernel_rfl) | (rw [if_neg (by decide +kernel)]; exact ⟨rfl, rfl⟩))
    (fun os started H enc _ => worldBack_lifted os started H enc)
/-- Whatever the worlds and the text: the law's call returns true and leaves what it was handed as it was. -/
theorem worldBack_holds : Rows.WorldBackCardSaid :=
  Claim7.holds_tied_plain_at .later [] [.data, .data, .data, .data, .sentinel, .sentinel, .pinned] true (true, "0b530867c2d515690f58d80b752c7cd9748f5e2635c93c9b5c45ed3af57d3eca") true worldBack_row (fun _ h => by cases h) worldBack_wf (fun _ h => by cases h) worldBack_row_tie rfl ⟨rfl, rfl⟩ j_main rfl
    (fun f fn hf hfn => by
      obtain rfl : f = 7 := Option.some.inj ((show Tryz.prog.funcNamed "vigil/vigillaw14.WorldBack" = some 7 by kernel_rfl).symm.trans hf) |>.symm
      obtain rfl : fn = Tryz.f7 := (Option.some.inj (Tryz.func7.symm.trans hfn)).symm
      exact ⟨j_looks, fun j t ht => by
        rw [Tryz.params7] at ht
        have hm : t ∈ [50, 50, 9] := by simpa using Array.mem_of_getElem? ht
        have hall : ([50, 50, 9].all fun u => !Tryz.prog.wantsStandIn u) = true := by kernel_rfl
        exact (show Tryz.prog.wantsStandIn t = false by simpa using List.all_eq_true.1 hall t hm)⟩)
    worldBack_goes
#print axioms worldBack_holds
end Go.Proofs.YtilipgopjiokfaaGreatDoor
