/-
  Part of the proof: printed by the session's own program out of the program's form, or typed; it states no claim by itself.
-/
import Derived.Test.YtclnpjnodmfkcaaAn
namespace Go.Proofs.Ytclnpjnodmfkcaa
open Go Go.Abs Go.Proofs
set_option maxRecDepth 100000 in
theorem live_at (k : Nat) : (X.ev (k + 60)).call [] 10 [] ⟨[], []⟩ = some (dB true, ⟨[], []⟩) := by kernel_rfl
theorem live_runs : X.RunsC 10 [] (dB true) := ⟨dB true, ⟨[], []⟩, ⟨60, fun k hk => by
  obtain ⟨j, rfl⟩ : ∃ j, k = j + 60 := ⟨k - 60, by omega⟩
  exact live_at j⟩, rfl⟩
end Go.Proofs.Ytclnpjnodmfkcaa
