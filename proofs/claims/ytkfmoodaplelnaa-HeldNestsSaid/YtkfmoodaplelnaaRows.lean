/-
  NARROWER THAN 'FOR EVERY INPUT', by the rows' own cells (each row's printed sentence says how): HeldFinds: loops · HeldNests: loops.
  DERIVED. THE GIVEN ROWS OF THIS SEAT. 3 by the template 'for every input the law returns true; each argument reads behind the call as it read before'; 0 by the template 'total and deterministic' (their statements: YtkfmoodaplelnaaTotals.lean).
  GIVEN WITH THE SEED: the statements are not yours to turn. If you find one false, say at which input.
  Laid BY PROGRAM, IN A SANDBOX (cutbox-rows.mjs): the forced cells as the released guide's own fill.sh prints them over the translation e081871b408ff7d2… (all of the seat's roots in one cut). By AI agents, Wed Nov 11 2026. No macro, syntax, notation, axiom, sorry.
-/
import Derived.Test.YtkfmoodaplelnaaChecked
import GoSem.Claim
import GoSem.ClaimJoined
import GoSem.ClaimMapViews
import Derived.JoinedTies
import Derived.KernelRfl
namespace Go.Proofs.Ytkfmoodaplelnaa
/- THE CELL 'sum', in the pinned program and in every row, IS THE sha256 OF THE DUMP (.gsa) THAT YtkfmoodaplelnaaProg.lean LOADS. Nothing in Lean hashes anything: it is a label: what it is worth is what the hold of that sum in a sandbox is worth. -/
noncomputable def Try.pinned : Pinned := { name := "ytkfmoodaplelnaa", sum := "e081871b408ff7d2bac3d87fff07e50384473f2d87b73d9dee4dffdaf38597c0", checked := Try.checked }
namespace Rows
def none {H : Type} : Left H := { results := [], args := [] }

/-- 'vigillaw13.HeldFinds': WHATEVER THE INPUT: true; the input reads as it did. -/
def heldFindsSpec : ChangeSpec := { name := "heldFinds", fn := fun _ => fun
  | [d1, d2, d3] => { results := [.lit (.bool true)], args := [d1, d2, d3] }
  | _ => none }
def heldFindsRow : OpenClaim := { program := "ytkfmoodaplelnaa", sum := "e081871b408ff7d2bac3d87fff07e50384473f2d87b73d9dee4dffdaf38597c0", func := "vigil/vigillaw13.HeldFinds", spec := "heldFinds", unfollowed := true, recurses := true, loops := true, apart := false }
def HeldFindsSaid : Prop := heldFindsRow.holds Try.pinned (OpenSpec.ofChange heldFindsSpec)

/-- ITS FALSE NEIGHBOUR: 'it returns false'. Refute it at one input. -/
def heldFindsWrong : ChangeSpec := { name := "heldFinds", fn := fun _ => fun
  | [d1, d2, d3] => { results := [.lit (.bool false)], args := [d1, d2, d3] }
  | _ => none }
def HeldFindsWrongFalsely : Prop := heldFindsRow.holds Try.pinned (OpenSpec.ofChange heldFindsWrong)

/-- 'vigillaw13.HeldNests': WHATEVER THE INPUT: true; the input reads as it did. -/
def heldNestsSpec : ChangeSpec := { name := "heldNests", fn := fun _ => fun
  | [d1, d2, d3] => { results := [.lit (.bool true)], args := [d1, d2, d3] }
  | _ => none }
def heldNestsRow : OpenClaim := { program := "ytkfmoodaplelnaa", sum := "e081871b408ff7d2bac3d87fff07e50384473f2d87b73d9dee4dffdaf38597c0", func := "vigil/vigillaw13.HeldNests", spec := "heldNests", unfollowed := true, recurses := true, loops := true, apart := false }
def HeldNestsSaid : Prop := heldNestsRow.holds Try.pinned (OpenSpec.ofChange heldNestsSpec)

/-- ITS FALSE NEIGHBOUR: 'it returns false'. Refute it at one input. -/
def heldNestsWrong : ChangeSpec := { name := "heldNests", fn := fun _ => fun
  | [d1, d2, d3] => { results := [.lit (.bool false)], args := [d1, d2, d3] }
  | _ => none }
def HeldNestsWrongFalsely : Prop := heldNestsRow.holds Try.pinned (OpenSpec.ofChange heldNestsWrong)

/-- 'vigillaw13.HeldMore': WHATEVER THE INPUT: true; the input reads as it did. -/
def heldMoreSpec : ChangeSpec := { name := "heldMore", fn := fun _ => fun
  | [d1, d2] => { results := [.lit (.bool true)], args := [d1, d2] }
  | _ => none }
def heldMoreRow : OpenClaim := { program := "ytkfmoodaplelnaa", sum := "e081871b408ff7d2bac3d87fff07e50384473f2d87b73d9dee4dffdaf38597c0", func := "vigil/vigillaw13.HeldMore", spec := "heldMore", unfollowed := true, recurses := true, apart := false }
def HeldMoreSaid : Prop := heldMoreRow.holds Try.pinned (OpenSpec.ofChange heldMoreSpec)

/-- ITS FALSE NEIGHBOUR: 'it returns false'. Refute it at one input. -/
def heldMoreWrong : ChangeSpec := { name := "heldMore", fn := fun _ => fun
  | [d1, d2] => { results := [.lit (.bool false)], args := [d1, d2] }
  | _ => none }
def HeldMoreWrongFalsely : Prop := heldMoreRow.holds Try.pinned (OpenSpec.ofChange heldMoreWrong)

/- THE SECOND FORM. 'bulk': how many values and letters a reading holds, each counted each time it is reached (what is shared counts as often as it is met; a slice's spare places count too). A statement '..UptoSaid' is the law's where the arguments, and the package variables that the reading takes, are together of bulk at most 1048576: NARROWER than '..Said'. Prove '..Said' where nothing that the law and all that it calls make is longer than what came in: it says more and counts as full. Else prove '..UptoSaid'. A law counts once. -/
mutual
def uptoBulk {H : Type} : DataW H → Nat
  | .lit (.string bytes) => bytes.length + 1
  | .lit _ => 1
  | .nil => 1
  | .ptr d => uptoBulk d + 1
  | .slice elems spare => uptoBulkAll elems + uptoBulkAll spare + 1
  | .agg parts => uptoBulkAll parts + 1
  | .iface _ d => uptoBulk d + 1
  | .map entries => uptoBulkEntries entries + 1
  | .held _ => 1
def uptoBulkAll {H : Type} : List (DataW H) → Nat
  | [] => 0
  | d :: r => uptoBulk d + uptoBulkAll r
def uptoBulkEntries {H : Type} : List (Lit × DataW H) → Nat
  | [] => 0
  | x :: r => uptoBulkEntry x + uptoBulkEntries r
def uptoBulkEntry {H : Type} : Lit × DataW H → Nat
  | (.string bytes, d) => bytes.length + uptoBulk d + 1
  | (_, d) => uptoBulk d + 1
 end
def uptoSmall : (H : Type) → List (DataW H) → Bool := fun _ ds => decide (uptoBulkAll ds ≤ 1048576)
def OpenSpec.upto (s : _root_.Go.ChangeSpec) : _root_.Go.OpenSpec := { _root_.Go.OpenSpec.ofChange s with cond := some uptoSmall }

/-- 'vigillaw13.HeldFinds', WHERE WHAT IT READS IS OF BULK AT MOST 1048576: true; the input reads as it did. -/
def heldFindsUptoRow : OpenClaim := { program := "ytkfmoodaplelnaa", sum := "e081871b408ff7d2bac3d87fff07e50384473f2d87b73d9dee4dffdaf38597c0", func := "vigil/vigillaw13.HeldFinds", spec := "heldFinds", unfollowed := true, recurses := true, loops := true, apart := false, narrowed := true }
def HeldFindsUptoSaid : Prop := heldFindsUptoRow.holds Try.pinned (OpenSpec.upto heldFindsSpec)

/-- 'vigillaw13.HeldNests', WHERE WHAT IT READS IS OF BULK AT MOST 1048576: true; the input reads as it did. -/
def heldNestsUptoRow : OpenClaim := { program := "ytkfmoodaplelnaa", sum := "e081871b408ff7d2bac3d87fff07e50384473f2d87b73d9dee4dffdaf38597c0", func := "vigil/vigillaw13.HeldNests", spec := "heldNests", unfollowed := true, recurses := true, loops := true, apart := false, narrowed := true }
def HeldNestsUptoSaid : Prop := heldNestsUptoRow.holds Try.pinned (OpenSpec.upto heldNestsSpec)

/-- 'vigillaw13.HeldMore', WHERE WHAT IT READS IS OF BULK AT MOST 1048576: true; the input reads as it did. -/
def heldMoreUptoRow : OpenClaim := { program := "ytkfmoodaplelnaa", sum := "e081871b408ff7d2bac3d87fff07e50384473f2d87b73d9dee4dffdaf38597c0", func := "vigil/vigillaw13.HeldMore", spec := "heldMore", unfollowed := true, recurses := true, apart := false, narrowed := true }
def HeldMoreUptoSaid : Prop := heldMoreUptoRow.holds Try.pinned (OpenSpec.upto heldMoreSpec)

end Rows
end Go.Proofs.Ytkfmoodaplelnaa
