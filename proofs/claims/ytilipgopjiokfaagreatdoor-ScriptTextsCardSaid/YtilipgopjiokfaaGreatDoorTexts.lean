/-
  ScriptTexts: for every list of picks and every text the call of the law returns true, and both read behind it as before. Its condition: the listed package-level variables hold what the program's text lays, and the card ties them to it.
-/
import Derived.Test.YtilipgopjiokfaaGreatDoorRa
import Derived.Test.YtilipgopjiokfaaGreatDoorRc
import Derived.Test.YtilipgopjiokfaaGreatDoorTie
import Derived.Test.YtilipgopjiokfaaGreatDoorCards
import Derived.SevenTiedAt
set_option linter.unusedVariables false
set_option linter.unusedSimpArgs false
set_option maxRecDepth 100000
namespace Go.Proofs.YtilipgopjiokfaaGreatDoor
open Go Go.Abs Go.Proofs Go.ChangeShapes Go.WideShapes Go.ChangeAt Go.RowKit

theorem scriptTexts_closed : joinedFacts Tryz.prog 3 Tryz.f3 Rows.scriptTextsSpec Rows.scriptTextsRow = true := by
  unfold joinedFacts
  rw [laidOut, j_maps, j_heard, j_may, scriptTexts_inPlace, scriptTexts_unfollowed, scriptTexts_recurses, scriptTexts_named]
  kernel_rfl
theorem scriptTexts_row : Rows.scriptTextsRow.holds Tryz.pinned (OpenSpec.ofChange Rows.scriptTextsSpec) :=
  OpenClaim.holds_of_wide 3 Tryz.f3 rfl rfl rfl rfl rfl rfl rfl ⟨rfl, rfl, rfl, rfl, rfl⟩ rfl rfl rfl rfl rfl (by kernel_rfl) Tryz.func3 scriptTexts_closed
    (of_decide_eq_true (by kernel_rfl)) (by unfold Func.isWrapper; first | (rw [if_pos (by decide +kernel)]; kernel_rfl) | (rw [if_neg (by decide +kernel)]; exact ⟨rfl, rfl⟩))
    (fun os started H enc _ => scriptTexts_lifted os started H enc)
/-- Whatever the picks and the text: the law's call returns true and leaves what it was handed as it was. -/
theorem scriptTexts_holds : Rows.ScriptTextsCardSaid :=
  Claim7.holds_tied_plain_at .later [] [.data, .data, .data, .data, .sentinel, .sentinel, .pinned] true (true, "0b530867c2d515690f58d80b752c7cd9748f5e2635c93c9b5c45ed3af57d3eca") true scriptTexts_row (fun _ h => by cases h) (by kernel_rfl) (fun _ h => by cases h) scriptTexts_row_tie rfl ⟨rfl, rfl⟩ (by kernel_rfl) rfl
    (fun f fn hf hfn => by
      obtain rfl : f = 3 := Option.some.inj ((show Tryz.prog.funcNamed "vigil/vigillaw16.ScriptTexts" = some 3 by kernel_rfl).symm.trans hf) |>.symm
      obtain rfl : fn = Tryz.f3 := (Option.some.inj (Tryz.func3.symm.trans hfn)).symm
      exact ⟨by kernel_rfl, fun j t ht => by
        rw [Tryz.params3] at ht
        have hm : t ∈ [22, 9] := by simpa using Array.mem_of_getElem? ht
        have hall : ([22, 9].all fun u => !Tryz.prog.wantsStandIn u) = true := by kernel_rfl
        exact (show Tryz.prog.wantsStandIn t = false by simpa using List.all_eq_true.1 hall t hm)⟩)
    (by kernel_rfl)
#print axioms scriptTexts_holds
end Go.Proofs.YtilipgopjiokfaaGreatDoor
