/-
  Part of the proof: printed by the session's own program out of the program's form, or typed; it states no claim by itself.
-/
import Derived.Test.YtclnpjnodmfkcaaAn
set_option maxRecDepth 100000
namespace Go.Proofs.Ytclnpjnodmfkcaa
open Go Go.Abs Go.Proofs
def RepEv (k n : Nat) : Prop := (X.ev (k + 60)).call [] 38 [.c (.sl false true (cells ([(-1)] : List Int)) 1), dInt (n : Int)] ⟨[], []⟩ = some (.ms 0 1 0 n 1 true, ⟨[⟨1, dcells (List.replicate n (-1 : Int))⟩], []⟩)
theorem rep0 (k : Nat) : RepEv k 0 := by unfold RepEv; kernel_rfl
theorem rep1 (k : Nat) : RepEv k 1 := by unfold RepEv; kernel_rfl
theorem rep2 (k : Nat) : RepEv k 2 := by unfold RepEv; kernel_rfl
theorem rep3 (k : Nat) : RepEv k 3 := by unfold RepEv; kernel_rfl
theorem rep4 (k : Nat) : RepEv k 4 := by unfold RepEv; kernel_rfl
theorem rep5 (k : Nat) : RepEv k 5 := by unfold RepEv; kernel_rfl
theorem rep6 (k : Nat) : RepEv k 6 := by unfold RepEv; kernel_rfl
theorem rep7 (k : Nat) : RepEv k 7 := by unfold RepEv; kernel_rfl
theorem rep8 (k : Nat) : RepEv k 8 := by unfold RepEv; kernel_rfl
theorem rep9 (k : Nat) : RepEv k 9 := by unfold RepEv; kernel_rfl
theorem rep10 (k : Nat) : RepEv k 10 := by unfold RepEv; kernel_rfl
theorem rep11 (k : Nat) : RepEv k 11 := by unfold RepEv; kernel_rfl
theorem rep12 (k : Nat) : RepEv k 12 := by unfold RepEv; kernel_rfl
theorem rep13 (k : Nat) : RepEv k 13 := by unfold RepEv; kernel_rfl
theorem rep14 (k : Nat) : RepEv k 14 := by unfold RepEv; kernel_rfl
theorem rep15 (k : Nat) : RepEv k 15 := by unfold RepEv; kernel_rfl
theorem rep16 (k : Nat) : RepEv k 16 := by unfold RepEv; kernel_rfl
theorem rep17 (k : Nat) : RepEv k 17 := by unfold RepEv; kernel_rfl
theorem rep18 (k : Nat) : RepEv k 18 := by unfold RepEv; kernel_rfl
theorem rep19 (k : Nat) : RepEv k 19 := by unfold RepEv; kernel_rfl
theorem rep20 (k : Nat) : RepEv k 20 := by unfold RepEv; kernel_rfl
theorem rep21 (k : Nat) : RepEv k 21 := by unfold RepEv; kernel_rfl
theorem rep22 (k : Nat) : RepEv k 22 := by unfold RepEv; kernel_rfl
theorem rep23 (k : Nat) : RepEv k 23 := by unfold RepEv; kernel_rfl
theorem rep24 (k : Nat) : RepEv k 24 := by unfold RepEv; kernel_rfl
theorem rep25 (k : Nat) : RepEv k 25 := by unfold RepEv; kernel_rfl
theorem rep26 (k : Nat) : RepEv k 26 := by unfold RepEv; kernel_rfl
theorem rep27 (k : Nat) : RepEv k 27 := by unfold RepEv; kernel_rfl
theorem rep28 (k : Nat) : RepEv k 28 := by unfold RepEv; kernel_rfl
theorem rep29 (k : Nat) : RepEv k 29 := by unfold RepEv; kernel_rfl
theorem rep30 (k : Nat) : RepEv k 30 := by unfold RepEv; kernel_rfl
theorem rep31 (k : Nat) : RepEv k 31 := by unfold RepEv; kernel_rfl
theorem rep32 (k : Nat) : RepEv k 32 := by unfold RepEv; kernel_rfl
theorem rep33 (k : Nat) : RepEv k 33 := by unfold RepEv; kernel_rfl
theorem rep34 (k : Nat) : RepEv k 34 := by unfold RepEv; kernel_rfl
theorem rep35 (k : Nat) : RepEv k 35 := by unfold RepEv; kernel_rfl
theorem rep36 (k : Nat) : RepEv k 36 := by unfold RepEv; kernel_rfl
theorem rep37 (k : Nat) : RepEv k 37 := by unfold RepEv; kernel_rfl
theorem rep38 (k : Nat) : RepEv k 38 := by unfold RepEv; kernel_rfl
theorem rep39 (k : Nat) : RepEv k 39 := by unfold RepEv; kernel_rfl
theorem rep40 (k : Nat) : RepEv k 40 := by unfold RepEv; kernel_rfl
theorem rep_ev (k : Nat) : ∀ n, n ≤ 40 → RepEv k n
  | 0, _ => rep0 k
  | 1, _ => rep1 k
  | 2, _ => rep2 k
  | 3, _ => rep3 k
  | 4, _ => rep4 k
  | 5, _ => rep5 k
  | 6, _ => rep6 k
  | 7, _ => rep7 k
  | 8, _ => rep8 k
  | 9, _ => rep9 k
  | 10, _ => rep10 k
  | 11, _ => rep11 k
  | 12, _ => rep12 k
  | 13, _ => rep13 k
  | 14, _ => rep14 k
  | 15, _ => rep15 k
  | 16, _ => rep16 k
  | 17, _ => rep17 k
  | 18, _ => rep18 k
  | 19, _ => rep19 k
  | 20, _ => rep20 k
  | 21, _ => rep21 k
  | 22, _ => rep22 k
  | 23, _ => rep23 k
  | 24, _ => rep24 k
  | 25, _ => rep25 k
  | 26, _ => rep26 k
  | 27, _ => rep27 k
  | 28, _ => rep28 k
  | 29, _ => rep29 k
  | 30, _ => rep30 k
  | 31, _ => rep31 k
  | 32, _ => rep32 k
  | 33, _ => rep33 k
  | 34, _ => rep34 k
  | 35, _ => rep35 k
  | 36, _ => rep36 k
  | 37, _ => rep37 k
  | 38, _ => rep38 k
  | 39, _ => rep39 k
  | 40, _ => rep40 k
  | n + 41, h => absurd h (by omega)
theorem rep_runs {n : Nat} (h : n ≤ 40) : X.Runs [] 38 [.c (.sl false true (cells ([(-1)] : List Int)) 1), dInt (n : Int)] ⟨[], []⟩ (.ms 0 1 0 n 1 true) ⟨[⟨1, dcells (List.replicate n (-1 : Int))⟩], []⟩ :=
  ⟨60, fun k hk => by
    obtain ⟨j, rfl⟩ : ∃ j, k = j + 60 := ⟨k - 60, by omega⟩
    exact rep_ev j n h⟩
end Go.Proofs.Ytclnpjnodmfkcaa
