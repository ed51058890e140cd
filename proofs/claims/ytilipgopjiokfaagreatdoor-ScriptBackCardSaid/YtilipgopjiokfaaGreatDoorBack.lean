/-
  ScriptBack: for every list of picks and every text the call of the law returns true, and both read behind it as before. Its condition: the listed package-level variables hold what the program's text lays, and the card ties them to it.
-/
import Derived.Test.YtilipgopjiokfaaGreatDoorRa
import Derived.Test.YtilipgopjiokfaaGreatDoorRc
import Derived.Test.YtilipgopjiokfaaGreatDoorTie
import Derived.Test.YtilipgopjiokfaaGreatDoorCards
import Derived.SevenTiedAt
set_option linter.unusedVariables false
set_option linter.unusedSimpArgs false
set_option maxRecDepth 100000
namespace Go.Proofs.YtilipgopjiokfaaGreatDoor
open Go Go.Abs Go.Proofs Go.ChangeShapes Go.WideShapes Go.ChangeAt Go.RowKit

theorem scriptBack_closed : joinedFacts Tryz.prog 4 Tryz.f4 Rows.scriptBackSpec Rows.scriptBackRow = true := by
  unfold joinedFacts
  rw [laidOut, j_maps, j_heard, j_may, scriptBack_inPlace, scriptBack_unfollowed, scriptBack_recurses, scriptBack_named]
  kernel_rfl
theorem scriptBack_row : Rows.scriptBackRow.holds Tryz.pinned (OpenSpec.ofChange Rows.scriptBackSpec) :=
  OpenClaim.holds_of_wide 4 Tryz.f4 rfl rfl rfl rfl rfl rfl rfl ⟨rfl, rfl, rfl, rfl, rfl⟩ rfl rfl rfl rfl rfl (by kernel_rfl) Tryz.func4 scriptBack_closed
    (of_decide_eq_true (by kernel_rfl)) (by unfold Func.isWrapper; first | (rw [if_pos (by decide +kernel)]; kernel_rfl) | (rw [if_neg (by decide +kernel)]; exact ⟨rfl, rfl⟩))
    (fun os started H enc _ => scriptBack_lifted os started H enc)
/-- Whatever the picks and the text: the law's call returns true and leaves what it was handed as it was. -/
theorem scriptBack_holds : Rows.ScriptBackCardSaid :=
  Claim7.holds_tied_plain_at .later [] [.data, .data, .data, .data, .sentinel, .sentinel, .pinned] true (true, "0b530867c2d515690f58d80b752c7cd9748f5e2635c93c9b5c45ed3af57d3eca") true scriptBack_row (fun _ h => by cases h) (by kernel_rfl) (fun _ h => by cases h) scriptBack_row_tie rfl ⟨rfl, rfl⟩ (by kernel_rfl) rfl
    (fun f fn hf hfn => by
      obtain rfl : f = 4 := Option.some.inj ((show Tryz.prog.funcNamed "vigil/vigillaw16.ScriptBack" = some 4 by kernel_rfl).symm.trans hf) |>.symm
      obtain rfl : fn = Tryz.f4 := (Option.some.inj (Tryz.func4.symm.trans hfn)).symm
      exact ⟨by kernel_rfl, fun j t ht => by
        rw [Tryz.params4] at ht
        have hm : t ∈ [22, 9] := by simpa using Array.mem_of_getElem? ht
        have hall : ([22, 9].all fun u => !Tryz.prog.wantsStandIn u) = true := by kernel_rfl
        exact (show Tryz.prog.wantsStandIn t = false by simpa using List.all_eq_true.1 hall t hm)⟩)
    (by kernel_rfl)
#print axioms scriptBack_holds
end Go.Proofs.YtilipgopjiokfaaGreatDoor
