/-
  NARROWER THAN 'FOR EVERY INPUT', by the rows' own cells (each row's printed sentence says how): StepDoes: loops · StepAny: loops · StepOthers: loops · StepOwners: loops.
  DERIVED. THE GIVEN ROWS OF THIS SEAT. 4 by the template 'for every input the law returns true; each argument reads behind the call as it read before'; 0 by the template 'total and deterministic' (their statements: YtpadajnejknkeaaGreatTotals.lean).
  GIVEN WITH THE SEED: the statements are not yours to turn. If you find one false, say at which input.
  Laid BY PROGRAM, IN A SANDBOX (cutbox-rows.mjs): the forced cells as the released guide's own fill.sh prints them over the translation 38da400c5842ad5c… (all of the seat's roots in one cut). By AI agents, Wed Nov 11 2026. No macro, syntax, notation, axiom, sorry.
-/
import Derived.Test.YtpadajnejknkeaaGreatChecked
import GoSem.Claim
import GoSem.ClaimJoined
import GoSem.ClaimMapViews
import Derived.JoinedTies
import Derived.KernelRfl
namespace Go.Proofs.YtpadajnejknkeaaGreat
/- THE CELL 'sum', in the pinned program and in every row, IS THE sha256 OF THE DUMP (.gsa) THAT YtpadajnejknkeaaGreatProg.lean LOADS. Nothing in Lean hashes anything: it is a label: what it is worth is what the hold of that sum in a sandbox is worth. -/
noncomputable def Tryz.pinned : Pinned := { name := "ytpadajnejknkeaagreat", sum := "38da400c5842ad5cf361a942352a4060d0952d679717b5fafc82c800b307ce4b", checked := Tryz.checked }
namespace Rows
def none {H : Type} : Left H := { results := [], args := [] }

/-- 'vigillaw15.StepDoes': WHATEVER THE INPUT: true; the input reads as it did. -/
def stepDoesSpec : ChangeSpec := { name := "stepDoes", fn := fun _ => fun
  | [d1, d2, d3] => { results := [.lit (.bool true)], args := [d1, d2, d3] }
  | _ => none }
def stepDoesRow : OpenClaim := { program := "ytpadajnejknkeaagreat", sum := "38da400c5842ad5cf361a942352a4060d0952d679717b5fafc82c800b307ce4b", func := "vigil/vigillaw15.StepDoes", spec := "stepDoes", inPlace := ["internal/bytealg.IndexByteString"], unfollowed := true, recurses := true, loops := true, apart := false }
def StepDoesSaid : Prop := stepDoesRow.holds Tryz.pinned (OpenSpec.ofChange stepDoesSpec)

/-- ITS FALSE NEIGHBOUR: 'it returns false'. Refute it at one input. -/
def stepDoesWrong : ChangeSpec := { name := "stepDoes", fn := fun _ => fun
  | [d1, d2, d3] => { results := [.lit (.bool false)], args := [d1, d2, d3] }
  | _ => none }
def StepDoesWrongFalsely : Prop := stepDoesRow.holds Tryz.pinned (OpenSpec.ofChange stepDoesWrong)

/-- 'vigillaw15.StepAny': WHATEVER THE INPUT: true; the input reads as it did. -/
def stepAnySpec : ChangeSpec := { name := "stepAny", fn := fun _ => fun
  | [d1, d2, d3, d4] => { results := [.lit (.bool true)], args := [d1, d2, d3, d4] }
  | _ => none }
def stepAnyRow : OpenClaim := { program := "ytpadajnejknkeaagreat", sum := "38da400c5842ad5cf361a942352a4060d0952d679717b5fafc82c800b307ce4b", func := "vigil/vigillaw15.StepAny", spec := "stepAny", inPlace := ["internal/bytealg.IndexByteString"], unfollowed := true, recurses := true, loops := true, apart := false }
def StepAnySaid : Prop := stepAnyRow.holds Tryz.pinned (OpenSpec.ofChange stepAnySpec)

/-- ITS FALSE NEIGHBOUR: 'it returns false'. Refute it at one input. -/
def stepAnyWrong : ChangeSpec := { name := "stepAny", fn := fun _ => fun
  | [d1, d2, d3, d4] => { results := [.lit (.bool false)], args := [d1, d2, d3, d4] }
  | _ => none }
def StepAnyWrongFalsely : Prop := stepAnyRow.holds Tryz.pinned (OpenSpec.ofChange stepAnyWrong)

/-- 'vigillaw15.StepOthers': WHATEVER THE INPUT: true; the input reads as it did. -/
def stepOthersSpec : ChangeSpec := { name := "stepOthers", fn := fun _ => fun
  | [d1, d2, d3] => { results := [.lit (.bool true)], args := [d1, d2, d3] }
  | _ => none }
def stepOthersRow : OpenClaim := { program := "ytpadajnejknkeaagreat", sum := "38da400c5842ad5cf361a942352a4060d0952d679717b5fafc82c800b307ce4b", func := "vigil/vigillaw15.StepOthers", spec := "stepOthers", inPlace := ["internal/bytealg.IndexByteString"], unfollowed := true, recurses := true, loops := true, apart := false }
def StepOthersSaid : Prop := stepOthersRow.holds Tryz.pinned (OpenSpec.ofChange stepOthersSpec)

/-- ITS FALSE NEIGHBOUR: 'it returns false'. Refute it at one input. -/
def stepOthersWrong : ChangeSpec := { name := "stepOthers", fn := fun _ => fun
  | [d1, d2, d3] => { results := [.lit (.bool false)], args := [d1, d2, d3] }
  | _ => none }
def StepOthersWrongFalsely : Prop := stepOthersRow.holds Tryz.pinned (OpenSpec.ofChange stepOthersWrong)

/-- 'vigillaw15.StepOwners': WHATEVER THE INPUT: true; the input reads as it did. -/
def stepOwnersSpec : ChangeSpec := { name := "stepOwners", fn := fun _ => fun
  | [d1, d2, d3] => { results := [.lit (.bool true)], args := [d1, d2, d3] }
  | _ => none }
def stepOwnersRow : OpenClaim := { program := "ytpadajnejknkeaagreat", sum := "38da400c5842ad5cf361a942352a4060d0952d679717b5fafc82c800b307ce4b", func := "vigil/vigillaw15.StepOwners", spec := "stepOwners", inPlace := ["internal/bytealg.IndexByteString"], unfollowed := true, recurses := true, loops := true, apart := false }
def StepOwnersSaid : Prop := stepOwnersRow.holds Tryz.pinned (OpenSpec.ofChange stepOwnersSpec)

/-- ITS FALSE NEIGHBOUR: 'it returns false'. Refute it at one input. -/
def stepOwnersWrong : ChangeSpec := { name := "stepOwners", fn := fun _ => fun
  | [d1, d2, d3] => { results := [.lit (.bool false)], args := [d1, d2, d3] }
  | _ => none }
def StepOwnersWrongFalsely : Prop := stepOwnersRow.holds Tryz.pinned (OpenSpec.ofChange stepOwnersWrong)

/- THE SECOND FORM. 'bulk': how many values and letters a reading holds, each counted each time it is reached (what is shared counts as often as it is met; a slice's spare places count too). A statement '..UptoSaid' is the law's where the arguments, and the package variables that the reading takes, are together of bulk at most 1048576: NARROWER than '..Said'. Prove '..Said' where nothing that the law and all that it calls make is longer than what came in: it says more and counts as full. Else prove '..UptoSaid'. A law counts once. -/
mutual
def uptoBulk {H : Type} : DataW H → Nat
  | .lit (.string bytes) => bytes.length + 1
  | .lit _ => 1
  | .nil => 1
  | .ptr d => uptoBulk d + 1
  | .slice elems spare => uptoBulkAll elems + uptoBulkAll spare + 1
  | .agg parts => uptoBulkAll parts + 1
  | .iface _ d => uptoBulk d + 1
  | .map entries => uptoBulkEntries entries + 1
  | .held _ => 1
def uptoBulkAll {H : Type} : List (DataW H) → Nat
  | [] => 0
  | d :: r => uptoBulk d + uptoBulkAll r
def uptoBulkEntries {H : Type} : List (Lit × DataW H) → Nat
  | [] => 0
  | x :: r => uptoBulkEntry x + uptoBulkEntries r
def uptoBulkEntry {H : Type} : Lit × DataW H → Nat
  | (.string bytes, d) => bytes.length + uptoBulk d + 1
  | (_, d) => uptoBulk d + 1
 end
def uptoSmall : (H : Type) → List (DataW H) → Bool := fun _ ds => decide (uptoBulkAll ds ≤ 1048576)
def OpenSpec.upto (s : _root_.Go.ChangeSpec) : _root_.Go.OpenSpec := { _root_.Go.OpenSpec.ofChange s with cond := some uptoSmall }

/-- 'vigillaw15.StepDoes', WHERE WHAT IT READS IS OF BULK AT MOST 1048576: true; the input reads as it did. -/
def stepDoesUptoRow : OpenClaim := { program := "ytpadajnejknkeaagreat", sum := "38da400c5842ad5cf361a942352a4060d0952d679717b5fafc82c800b307ce4b", func := "vigil/vigillaw15.StepDoes", spec := "stepDoes", inPlace := ["internal/bytealg.IndexByteString"], unfollowed := true, recurses := true, loops := true, apart := false, narrowed := true }
def StepDoesUptoSaid : Prop := stepDoesUptoRow.holds Tryz.pinned (OpenSpec.upto stepDoesSpec)

/-- 'vigillaw15.StepAny', WHERE WHAT IT READS IS OF BULK AT MOST 1048576: true; the input reads as it did. -/
def stepAnyUptoRow : OpenClaim := { program := "ytpadajnejknkeaagreat", sum := "38da400c5842ad5cf361a942352a4060d0952d679717b5fafc82c800b307ce4b", func := "vigil/vigillaw15.StepAny", spec := "stepAny", inPlace := ["internal/bytealg.IndexByteString"], unfollowed := true, recurses := true, loops := true, apart := false, narrowed := true }
def StepAnyUptoSaid : Prop := stepAnyUptoRow.holds Tryz.pinned (OpenSpec.upto stepAnySpec)

/-- 'vigillaw15.StepOthers', WHERE WHAT IT READS IS OF BULK AT MOST 1048576: true; the input reads as it did. -/
def stepOthersUptoRow : OpenClaim := { program := "ytpadajnejknkeaagreat", sum := "38da400c5842ad5cf361a942352a4060d0952d679717b5fafc82c800b307ce4b", func := "vigil/vigillaw15.StepOthers", spec := "stepOthers", inPlace := ["internal/bytealg.IndexByteString"], unfollowed := true, recurses := true, loops := true, apart := false, narrowed := true }
def StepOthersUptoSaid : Prop := stepOthersUptoRow.holds Tryz.pinned (OpenSpec.upto stepOthersSpec)

/-- 'vigillaw15.StepOwners', WHERE WHAT IT READS IS OF BULK AT MOST 1048576: true; the input reads as it did. -/
def stepOwnersUptoRow : OpenClaim := { program := "ytpadajnejknkeaagreat", sum := "38da400c5842ad5cf361a942352a4060d0952d679717b5fafc82c800b307ce4b", func := "vigil/vigillaw15.StepOwners", spec := "stepOwners", inPlace := ["internal/bytealg.IndexByteString"], unfollowed := true, recurses := true, loops := true, apart := false, narrowed := true }
def StepOwnersUptoSaid : Prop := stepOwnersUptoRow.holds Tryz.pinned (OpenSpec.upto stepOwnersSpec)

end Rows
end Go.Proofs.YtpadajnejknkeaaGreat
