/-
  What the rows of this seat share: how graphs and lists of numbers come in.
-/
import Derived.Test.YtclnpjnodmfkcaaPr
import Derived.Test.YtclnpjnodmfkcaaLive
import Derived.Test.YtclnpjnodmfkcaaAbs31
import Derived.Test.YtclnpjnodmfkcaaRows
import Derived.OpenShut
import Derived.ProofKit
import Derived.WalkKit
set_option linter.unusedVariables false
namespace Go.Proofs.Ytclnpjnodmfkcaa
open Go Go.Abs Go.Proofs Go.ChangeShapes Go.WideShapes Go.ChangeAt Go.RowKit

theorem own : ownKnob Try.prog.godebug = none := by kernel_rfl
theorem laidOut : laidOutB Try.prog = true := by kernel_rfl
theorem reads_ints {w : World} {base : Nat} : Reads Try.prog w base 23 (SliceOf IsInt) := reads_slice Try.underlying23 (by kernel_rfl) (reads_int Try.underlying3)
theorem reads_intss {w : World} {base : Nat} : Reads Try.prog w base 22 (SliceOf (SliceOf IsInt)) := reads_slice Try.underlying22 (by kernel_rfl) reads_ints
theorem ints_of {c : CV} (h : SliceOf IsInt c) : ∃ s : Sl Int, Enc.enc s = [c] ∧ (∀ a ∈ s.l, InR a) ∧ s.l.length ≤ maxLen := sl_of (fun _ h => int_of h) h
theorem intss_of {c : CV} (h : SliceOf (SliceOf IsInt) c) : ∃ s : Sl (Sl Int), Enc.enc s = [c] ∧ (∀ a ∈ s.l, (∀ b ∈ a.l, InR b) ∧ a.l.length ≤ maxLen) ∧ s.l.length ≤ maxLen := sl_of (fun _ h => ints_of h) h
end Go.Proofs.Ytclnpjnodmfkcaa
