/-
  LassoTexts: for every lasso and every text the call of the law returns true, and both read behind it as before. Its condition: the listed package-level variables hold what the program's text lays, and the card ties them to it.
-/
import Derived.Test.YtilipgopjiokfaaGreatDoorRa
import Derived.Test.YtilipgopjiokfaaGreatDoorRc
import Derived.Test.YtilipgopjiokfaaGreatDoorJb
import Derived.Test.YtilipgopjiokfaaGreatDoorRe
import Derived.Test.YtilipgopjiokfaaGreatDoorTie
import Derived.Test.YtilipgopjiokfaaGreatDoorCards
import Derived.SevenTiedAt
set_option linter.unusedVariables false
set_option linter.unusedSimpArgs false
set_option maxRecDepth 100000
namespace Go.Proofs.YtilipgopjiokfaaGreatDoor
open Go Go.Abs Go.Proofs Go.ChangeShapes Go.WideShapes Go.ChangeAt Go.RowKit

theorem lassoTexts_closed : joinedFacts Tryz.prog 5 Tryz.f5 Rows.lassoTextsSpec Rows.lassoTextsRow = true := by
  unfold joinedFacts
  rw [laidOut, j_maps, j_heard, j_may, lassoTexts_inPlace, lassoTexts_unfollowed, lassoTexts_recurses, lassoTexts_named]
  kernel_rfl
theorem lassoTexts_row : Rows.lassoTextsRow.holds Tryz.pinned (OpenSpec.ofChange Rows.lassoTextsSpec) :=
  OpenClaim.holds_of_wide 5 Tryz.f5 rfl rfl rfl rfl rfl rfl rfl ⟨rfl, rfl, rfl, rfl, rfl⟩ rfl rfl rfl rfl rfl (by kernel_rfl) Tryz.func5 lassoTexts_closed
    (of_decide_eq_true (by kernel_rfl)) (by unfold Func.isWrapper; first | (rw [if_pos (by decide +kernel)]; kernel_rfl) | (rw [if_neg (by decide +kernel)]; exact ⟨rfl, rfl⟩))
    (fun os started H enc _ => lassoTexts_lifted os started H enc)
/-- Whatever the lasso and the text: the law's call returns true and leaves what it was handed as it was. -/
theorem lassoTexts_holds : Rows.LassoTextsCardSaid :=
  Claim7.holds_tied_plain_at .later [] [.data, .data, .data, .data, .sentinel, .sentinel, .pinned] true (true, "0b530867c2d515690f58d80b752c7cd9748f5e2635c93c9b5c45ed3af57d3eca") true lassoTexts_row (fun _ h => by cases h) lassoTexts_wf (fun _ h => by cases h) lassoTexts_row_tie rfl ⟨rfl, rfl⟩ j_main rfl
    (fun f fn hf hfn => by
      obtain rfl : f = 5 := Option.some.inj ((show Tryz.prog.funcNamed "vigil/vigillaw18.LassoTexts" = some 5 by kernel_rfl).symm.trans hf) |>.symm
      obtain rfl : fn = Tryz.f5 := (Option.some.inj (Tryz.func5.symm.trans hfn)).symm
      exact ⟨j_looks, fun j t ht => by
        rw [Tryz.params5] at ht
        have hm : t ∈ [37, 9] := by simpa using Array.mem_of_getElem? ht
        have hall : ([37, 9].all fun u => !Tryz.prog.wantsStandIn u) = true := by kernel_rfl
        exact (show Tryz.prog.wantsStandIn t = false by simpa using List.all_eq_true.1 hall t hm)⟩)
    lassoTexts_goes
#print axioms lassoTexts_holds
end Go.Proofs.YtilipgopjiokfaaGreatDoor
