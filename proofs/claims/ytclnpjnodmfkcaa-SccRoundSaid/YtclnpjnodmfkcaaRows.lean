/-
  No cell of these rows narrows 'for every input' (looked for: loops, veiled, ifaces, maps, wideKeys, modest, calm, conditions, laid).
  DERIVED. THE GIVEN ROWS OF THIS SEAT. 6 by the template 'for every input the law returns true; each argument reads behind the call as it read before'; 0 by the template 'total and deterministic' (their statements: YtclnpjnodmfkcaaTotals.lean).
  GIVEN WITH THE SEED: the statements are not yours to turn. If you find one false, say at which input.
  Laid BY PROGRAM, IN A SANDBOX (cutbox-rows.mjs): the forced cells as the released guide's own fill.sh prints them over the translation 54887273e5cd5993… (all of the seat's roots in one cut). By AI agents, Wed Nov 11 2026. No macro, syntax, notation, axiom, sorry.
-/
import Derived.Test.YtclnpjnodmfkcaaChecked
import GoSem.Claim
import GoSem.ClaimJoined
import GoSem.ClaimMapViews
import Derived.JoinedTies
import Derived.KernelRfl
namespace Go.Proofs.Ytclnpjnodmfkcaa
/- THE CELL 'sum', in the pinned program and in every row, IS THE sha256 OF THE DUMP (.gsa) THAT YtclnpjnodmfkcaaProg.lean LOADS. Nothing in Lean hashes anything: it is a label: what it is worth is what the hold of that sum in a sandbox is worth. -/
noncomputable def Try.pinned : Pinned := { name := "ytclnpjnodmfkcaa", sum := "54887273e5cd599354273e4fcf1f2960761355b502cdfbff630ac2889aa81d12", checked := Try.checked }
namespace Rows
def none {H : Type} : Left H := { results := [], args := [] }

/-- 'vigillaw23.SccReaches': WHATEVER THE INPUT: true; the input reads as it did. -/
def sccReachesSpec : ChangeSpec := { name := "sccReaches", fn := fun _ => fun
  | [d1, d2] => { results := [.lit (.bool true)], args := [d1, d2] }
  | _ => none }
def sccReachesRow : OpenClaim := { program := "ytclnpjnodmfkcaa", sum := "54887273e5cd599354273e4fcf1f2960761355b502cdfbff630ac2889aa81d12", func := "vigil/vigillaw23.SccReaches", spec := "sccReaches", unfollowed := true, recurses := true, apart := false }
def SccReachesSaid : Prop := sccReachesRow.holds Try.pinned (OpenSpec.ofChange sccReachesSpec)

/-- ITS FALSE NEIGHBOUR: 'it returns false'. Refute it at one input. -/
def sccReachesWrong : ChangeSpec := { name := "sccReaches", fn := fun _ => fun
  | [d1, d2] => { results := [.lit (.bool false)], args := [d1, d2] }
  | _ => none }
def SccReachesWrongFalsely : Prop := sccReachesRow.holds Try.pinned (OpenSpec.ofChange sccReachesWrong)

/-- 'vigillaw23.SccPaths': WHATEVER THE INPUT: true; the input reads as it did. -/
def sccPathsSpec : ChangeSpec := { name := "sccPaths", fn := fun _ => fun
  | [d1, d2, d3] => { results := [.lit (.bool true)], args := [d1, d2, d3] }
  | _ => none }
def sccPathsRow : OpenClaim := { program := "ytclnpjnodmfkcaa", sum := "54887273e5cd599354273e4fcf1f2960761355b502cdfbff630ac2889aa81d12", func := "vigil/vigillaw23.SccPaths", spec := "sccPaths", unfollowed := true, recurses := true, apart := false }
def SccPathsSaid : Prop := sccPathsRow.holds Try.pinned (OpenSpec.ofChange sccPathsSpec)

/-- ITS FALSE NEIGHBOUR: 'it returns false'. Refute it at one input. -/
def sccPathsWrong : ChangeSpec := { name := "sccPaths", fn := fun _ => fun
  | [d1, d2, d3] => { results := [.lit (.bool false)], args := [d1, d2, d3] }
  | _ => none }
def SccPathsWrongFalsely : Prop := sccPathsRow.holds Try.pinned (OpenSpec.ofChange sccPathsWrong)

/-- 'vigillaw23.SccComps': WHATEVER THE INPUT: true; the input reads as it did. -/
def sccCompsSpec : ChangeSpec := { name := "sccComps", fn := fun _ => fun
  | [d] => { results := [.lit (.bool true)], args := [d] }
  | _ => none }
def sccCompsRow : OpenClaim := { program := "ytclnpjnodmfkcaa", sum := "54887273e5cd599354273e4fcf1f2960761355b502cdfbff630ac2889aa81d12", func := "vigil/vigillaw23.SccComps", spec := "sccComps", unfollowed := true, recurses := true, apart := false }
def SccCompsSaid : Prop := sccCompsRow.holds Try.pinned (OpenSpec.ofChange sccCompsSpec)

/-- ITS FALSE NEIGHBOUR: 'it returns false'. Refute it at one input. -/
def sccCompsWrong : ChangeSpec := { name := "sccComps", fn := fun _ => fun
  | [d] => { results := [.lit (.bool false)], args := [d] }
  | _ => none }
def SccCompsWrongFalsely : Prop := sccCompsRow.holds Try.pinned (OpenSpec.ofChange sccCompsWrong)

/-- 'vigillaw23.SccWithin': WHATEVER THE INPUT: true; the input reads as it did. -/
def sccWithinSpec : ChangeSpec := { name := "sccWithin", fn := fun _ => fun
  | [d1, d2] => { results := [.lit (.bool true)], args := [d1, d2] }
  | _ => none }
def sccWithinRow : OpenClaim := { program := "ytclnpjnodmfkcaa", sum := "54887273e5cd599354273e4fcf1f2960761355b502cdfbff630ac2889aa81d12", func := "vigil/vigillaw23.SccWithin", spec := "sccWithin", unfollowed := true, recurses := true, apart := false }
def SccWithinSaid : Prop := sccWithinRow.holds Try.pinned (OpenSpec.ofChange sccWithinSpec)

/-- ITS FALSE NEIGHBOUR: 'it returns false'. Refute it at one input. -/
def sccWithinWrong : ChangeSpec := { name := "sccWithin", fn := fun _ => fun
  | [d1, d2] => { results := [.lit (.bool false)], args := [d1, d2] }
  | _ => none }
def SccWithinWrongFalsely : Prop := sccWithinRow.holds Try.pinned (OpenSpec.ofChange sccWithinWrong)

/-- 'vigillaw23.SccRound': WHATEVER THE INPUT: true; the input reads as it did. -/
def sccRoundSpec : ChangeSpec := { name := "sccRound", fn := fun _ => fun
  | [d] => { results := [.lit (.bool true)], args := [d] }
  | _ => none }
def sccRoundRow : OpenClaim := { program := "ytclnpjnodmfkcaa", sum := "54887273e5cd599354273e4fcf1f2960761355b502cdfbff630ac2889aa81d12", func := "vigil/vigillaw23.SccRound", spec := "sccRound", unfollowed := true, recurses := true, apart := false }
def SccRoundSaid : Prop := sccRoundRow.holds Try.pinned (OpenSpec.ofChange sccRoundSpec)

/-- ITS FALSE NEIGHBOUR: 'it returns false'. Refute it at one input. -/
def sccRoundWrong : ChangeSpec := { name := "sccRound", fn := fun _ => fun
  | [d] => { results := [.lit (.bool false)], args := [d] }
  | _ => none }
def SccRoundWrongFalsely : Prop := sccRoundRow.holds Try.pinned (OpenSpec.ofChange sccRoundWrong)

/-- 'vigillaw23.SccWays': WHATEVER THE INPUT: true; the input reads as it did. -/
def sccWaysSpec : ChangeSpec := { name := "sccWays", fn := fun _ => fun
  | [d1, d2] => { results := [.lit (.bool true)], args := [d1, d2] }
  | _ => none }
def sccWaysRow : OpenClaim := { program := "ytclnpjnodmfkcaa", sum := "54887273e5cd599354273e4fcf1f2960761355b502cdfbff630ac2889aa81d12", func := "vigil/vigillaw23.SccWays", spec := "sccWays", unfollowed := true, recurses := true, apart := false }
def SccWaysSaid : Prop := sccWaysRow.holds Try.pinned (OpenSpec.ofChange sccWaysSpec)

/-- ITS FALSE NEIGHBOUR: 'it returns false'. Refute it at one input. -/
def sccWaysWrong : ChangeSpec := { name := "sccWays", fn := fun _ => fun
  | [d1, d2] => { results := [.lit (.bool false)], args := [d1, d2] }
  | _ => none }
def SccWaysWrongFalsely : Prop := sccWaysRow.holds Try.pinned (OpenSpec.ofChange sccWaysWrong)

/- THE SECOND FORM. 'bulk': how many values and letters a reading holds, each counted each time it is reached (what is shared counts as often as it is met; a slice's spare places count too). A statement '..UptoSaid' is the law's where the arguments, and the package variables that the reading takes, are together of bulk at most 1048576: NARROWER than '..Said'. Prove '..Said' where nothing that the law and all that it calls make is longer than what came in: it says more and counts as full. Else prove '..UptoSaid'. A law counts once. -/
mutual
def uptoBulk {H : Type} : DataW H → Nat
  | .lit (.string bytes) => bytes.length + 1
  | .lit _ => 1
  | .nil => 1
  | .ptr d => uptoBulk d + 1
  | .slice elems spare => uptoBulkAll elems + uptoBulkAll spare + 1
  | .agg parts => uptoBulkAll parts + 1
  | .iface _ d => uptoBulk d + 1
  | .map entries => uptoBulkEntries entries + 1
  | .held _ => 1
def uptoBulkAll {H : Type} : List (DataW H) → Nat
  | [] => 0
  | d :: r => uptoBulk d + uptoBulkAll r
def uptoBulkEntries {H : Type} : List (Lit × DataW H) → Nat
  | [] => 0
  | x :: r => uptoBulkEntry x + uptoBulkEntries r
def uptoBulkEntry {H : Type} : Lit × DataW H → Nat
  | (.string bytes, d) => bytes.length + uptoBulk d + 1
  | (_, d) => uptoBulk d + 1
 end
def uptoSmall : (H : Type) → List (DataW H) → Bool := fun _ ds => decide (uptoBulkAll ds ≤ 1048576)
def OpenSpec.upto (s : _root_.Go.ChangeSpec) : _root_.Go.OpenSpec := { _root_.Go.OpenSpec.ofChange s with cond := some uptoSmall }

/-- 'vigillaw23.SccReaches', WHERE WHAT IT READS IS OF BULK AT MOST 1048576: true; the input reads as it did. -/
def sccReachesUptoRow : OpenClaim := { program := "ytclnpjnodmfkcaa", sum := "54887273e5cd599354273e4fcf1f2960761355b502cdfbff630ac2889aa81d12", func := "vigil/vigillaw23.SccReaches", spec := "sccReaches", unfollowed := true, recurses := true, apart := false, narrowed := true }
def SccReachesUptoSaid : Prop := sccReachesUptoRow.holds Try.pinned (OpenSpec.upto sccReachesSpec)

/-- 'vigillaw23.SccPaths', WHERE WHAT IT READS IS OF BULK AT MOST 1048576: true; the input reads as it did. -/
def sccPathsUptoRow : OpenClaim := { program := "ytclnpjnodmfkcaa", sum := "54887273e5cd599354273e4fcf1f2960761355b502cdfbff630ac2889aa81d12", func := "vigil/vigillaw23.SccPaths", spec := "sccPaths", unfollowed := true, recurses := true, apart := false, narrowed := true }
def SccPathsUptoSaid : Prop := sccPathsUptoRow.holds Try.pinned (OpenSpec.upto sccPathsSpec)

/-- 'vigillaw23.SccComps', WHERE WHAT IT READS IS OF BULK AT MOST 1048576: true; the input reads as it did. -/
def sccCompsUptoRow : OpenClaim := { program := "ytclnpjnodmfkcaa", sum := "54887273e5cd599354273e4fcf1f2960761355b502cdfbff630ac2889aa81d12", func := "vigil/vigillaw23.SccComps", spec := "sccComps", unfollowed := true, recurses := true, apart := false, narrowed := true }
def SccCompsUptoSaid : Prop := sccCompsUptoRow.holds Try.pinned (OpenSpec.upto sccCompsSpec)

/-- 'vigillaw23.SccWithin', WHERE WHAT IT READS IS OF BULK AT MOST 1048576: true; the input reads as it did. -/
def sccWithinUptoRow : OpenClaim := { program := "ytclnpjnodmfkcaa", sum := "54887273e5cd599354273e4fcf1f2960761355b502cdfbff630ac2889aa81d12", func := "vigil/vigillaw23.SccWithin", spec := "sccWithin", unfollowed := true, recurses := true, apart := false, narrowed := true }
def SccWithinUptoSaid : Prop := sccWithinUptoRow.holds Try.pinned (OpenSpec.upto sccWithinSpec)

/-- 'vigillaw23.SccRound', WHERE WHAT IT READS IS OF BULK AT MOST 1048576: true; the input reads as it did. -/
def sccRoundUptoRow : OpenClaim := { program := "ytclnpjnodmfkcaa", sum := "54887273e5cd599354273e4fcf1f2960761355b502cdfbff630ac2889aa81d12", func := "vigil/vigillaw23.SccRound", spec := "sccRound", unfollowed := true, recurses := true, apart := false, narrowed := true }
def SccRoundUptoSaid : Prop := sccRoundUptoRow.holds Try.pinned (OpenSpec.upto sccRoundSpec)

/-- 'vigillaw23.SccWays', WHERE WHAT IT READS IS OF BULK AT MOST 1048576: true; the input reads as it did. -/
def sccWaysUptoRow : OpenClaim := { program := "ytclnpjnodmfkcaa", sum := "54887273e5cd599354273e4fcf1f2960761355b502cdfbff630ac2889aa81d12", func := "vigil/vigillaw23.SccWays", spec := "sccWays", unfollowed := true, recurses := true, apart := false, narrowed := true }
def SccWaysUptoSaid : Prop := sccWaysUptoRow.holds Try.pinned (OpenSpec.upto sccWaysSpec)

end Rows
end Go.Proofs.Ytclnpjnodmfkcaa
