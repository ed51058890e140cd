/-
  Part of the proof: printed by the session's own program out of the program's form, or typed; it states no claim by itself.
-/
import Derived.Test.YtclnpjnodmfkcaaAbs32
set_option linter.unusedVariables false
namespace Go.Abs
open Go
theorem po_get {pre todo : List Int} {i : Nat} {a : Int} (h : todo[i]? = some a) : (dcells (pre ++ todo))[pre.length + i * 1]? = some (.c (cInt a)) := by
  have : (pre ++ todo)[pre.length + i]? = some a := by rw [List.getElem?_append_right (by omega), Nat.add_sub_cancel_left]; exact h
  have h2 := dcell_at (l := pre ++ todo) (c := cInt a) 0 rfl this
  have e : (pre.length + i) * Enc.sz Int + 0 = pre.length + i * 1 := by show (pre.length + i) * 1 + 0 = _; omega
  rw [e] at h2; exact h2
theorem appO_po (pre l l' : List Int) {b : Nat} (hb : 1 ≤ b) (h0 : l' ≠ []) (h : (l ++ l').length * b ≤ 140737488355328) :
    ((cells l').length = l'.length * 1 ∧ l'.length ≠ 0 ∧ roomy (l ++ l').length b = true) ∧ (span (dcells (pre ++ l)) pre.length (l.length * 1)).map (fun old => old ++ (cells l').map DV.c) = some (dcells (l ++ l')) ∧ l.length + l'.length = (l ++ l').length := by
  refine ⟨⟨cells_length _, fun hh => h0 (List.length_eq_zero_iff.1 hh), roomy_ok hb h⟩, ?_, by simp⟩
  have e : span (dcells (pre ++ l)) pre.length (l.length * 1) = some (dcells l) := by
    have h1 : (dcells pre).length = pre.length := by rw [dcells_length]; exact Nat.mul_one _
    have h2 : (dcells l).length = l.length := by rw [dcells_length]; exact Nat.mul_one _
    unfold span
    rw [dcells_append, if_pos (by rw [List.length_append]; omega), ← h1, List.drop_left, ← h2, Nat.mul_one, List.take_length]
  rw [e]
  show some (dcells l ++ dcells l') = _
  rw [dcells_append]
theorem shiftL_cells (n p : Nat) : ∀ cs : List CV, shiftL n p (cs.map DV.c) = cs.map DV.c
  | [] => rfl
  | c :: cs => by
    show shift n p (.c c) :: shiftL n p (cs.map DV.c) = .c c :: cs.map DV.c
    rw [shiftL_cells n p cs]; rfl
theorem shiftL_dcells {α : Type} [Enc α] (n p : Nat) (l : List α) : shiftL n p (dcells l) = dcells l := shiftL_cells n p _
theorem Sys.seq {X : Sys} {f nt : Nat} {Γ : List (Nat × Ctx)} {a b : Code} {s s1 s2 : S} {ex : Ex} (h1 : X.Go f nt Γ a s .normal s1) (h2 : X.Go f nt Γ b s1 ex s2) : X.Go f nt Γ (.seq a b) s ex s2 :=
  Ev.mono (Ev.and h1 h2) fun k h => by
    show (match codeD X.P (X.ev k) X.an f nt Γ k a s with | _ => _) = _
    simp only [codeD, h.1, h.2]
theorem eqD_bool {P : Program} {t : TypeId} (a b : Bool) (hg : P.eqGuardType P.depth t = false) (hu : P.underlying t = some .bool) : eqD P t (dB a) (dB b) = some (a == b) := by
  show (if P.eqGuardType P.depth t then none else eqV P 10000 t (.bool a) (.bool b)) = _
  rw [hg, if_neg (by simp), eqV]
  exact hu
theorem bool_eql {P : Program} {t : TypeId} (a b : Bool) (hg : P.eqGuardType P.depth t = false) (hu : P.underlying t = some .bool) : val ((eqD P t (dB a) (dB b)).map fun b => .c (.sc (.bool b))) = some { d := dB (a == b) } := by
  rw [eqD_bool a b hg hu]; rfl
theorem bool_neq {P : Program} {t : TypeId} (a b : Bool) (hg : P.eqGuardType P.depth t = false) (hu : P.underlying t = some .bool) : val ((eqD P t (dB a) (dB b)).map fun b => .c (.sc (.bool !b))) = some { d := dB (!(a == b)) } := by
  rw [eqD_bool a b hg hu]; rfl
end Go.Abs
