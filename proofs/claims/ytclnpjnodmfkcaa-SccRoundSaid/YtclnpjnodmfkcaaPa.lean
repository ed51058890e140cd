/-
  Part of the proof: printed by the session's own program out of the program's form, or typed; it states no claim by itself.
-/
import Derived.Test.YtclnpjnodmfkcaaMb
set_option linter.unusedVariables false
namespace Go.Proofs.Ytclnpjnodmfkcaa
open Go Go.Abs Go.Proofs Go.Proofs.Scc

theorem rising_ext : ∀ {l l' : List Int}, l.Pairwise (· < ·) → l'.Pairwise (· < ·) → (∀ x, x ∈ l ↔ x ∈ l') → l = l'
  | [], [], _, _, _ => rfl
  | [], b :: l', _, _, h => absurd ((h b).2 (by simp)) (by simp)
  | a :: l, [], _, _, h => absurd ((h a).1 (by simp)) (by simp)
  | a :: l, b :: l', h1, h2, h => by
    rw [List.pairwise_cons] at h1 h2
    have hab : a = b := by
      rcases List.mem_cons.1 ((h a).1 (by simp)) with e | e
      · exact e
      · rcases List.mem_cons.1 ((h b).2 (by simp)) with e' | e'
        · exact e'.symm
        · have := h1.1 b e'; have := h2.1 a e; omega
    subst hab
    rw [rising_ext h1.2 h2.2 fun x => ?_]
    constructor
    · intro hx
      rcases List.mem_cons.1 ((h x).1 (by simp [hx])) with e | e
      · subst e; have := h1.1 _ hx; omega
      · exact e
    · intro hx
      rcases List.mem_cons.1 ((h x).2 (by simp [hx])) with e | e
      · subst e; have := h2.1 _ hx; omega
      · exact e
theorem ins_sorted (x : Int) : ∀ {l : List Int}, l.Pairwise (· ≤ ·) → (ins x l).Pairwise (· ≤ ·)
  | [], _ => by simp [ins]
  | y :: l, h => by
    rw [List.pairwise_cons] at h
    simp only [ins]
    split
    · rename_i hxy
      rw [List.pairwise_cons]
      refine ⟨fun z hz => ?_, List.pairwise_cons.2 h⟩
      rcases List.mem_cons.1 hz with rfl | hz
      · exact hxy
      · have := h.1 z hz; omega
    · rename_i hxy
      rw [List.pairwise_cons]
      refine ⟨fun z hz => ?_, ins_sorted x h.2⟩
      rcases List.mem_cons.1 ((ins_perm x l).mem_iff.1 hz) with rfl | hz
      · omega
      · exact h.1 z hz
theorem isort_sorted : ∀ l : List Int, (isort l).Pairwise (· ≤ ·)
  | [] => .nil
  | x :: l => ins_sorted x (isort_sorted l)
theorem isort_rising {l : List Int} (h : l.Nodup) : (isort l).Pairwise (· < ·) := by
  have h1 := isort_sorted l
  have h2 : (isort l).Nodup := (isort_perm l).nodup_iff.2 h
  exact (h1.and h2).imp fun ⟨h, h'⟩ => by omega
theorem marked_mem : ∀ (l : List Bool) (i x : Int), x ∈ marked l i ↔ i ≤ x ∧ l[(x - i).toNat]? = some true
  | [], i, x => by simp [marked]
  | b :: l, i, x => by
    have ih := marked_mem l (i + 1) x
    have e : i + 1 ≤ x → (x - i).toNat = (x - (i + 1)).toNat + 1 := fun h => by omega
    cases b with
    | true =>
      simp only [marked, if_true, List.mem_cons, ih]
      constructor
      · rintro (rfl | ⟨h1, h2⟩)
        · simp
        · exact ⟨by omega, by rw [e h1]; simpa using h2⟩
      · rintro ⟨h1, h2⟩
        by_cases hx : x = i
        · exact .inl hx
        · have h3 : i + 1 ≤ x := by omega
          rw [e h3] at h2
          exact .inr ⟨h3, by simpa using h2⟩
    | false =>
      simp only [marked, Bool.false_eq_true, if_false, ih]
      constructor
      · rintro ⟨h1, h2⟩; exact ⟨by omega, by rw [e h1]; simpa using h2⟩
      · rintro ⟨h1, h2⟩
        by_cases hx : x = i
        · subst hx; simp at h2
        · have h3 : i + 1 ≤ x := by omega
          rw [e h3] at h2
          exact ⟨h3, by simpa using h2⟩
theorem marked_rising : ∀ (l : List Bool) (i : Int), (marked l i).Pairwise (· < ·)
  | [], _ => .nil
  | b :: l, i => by
    have ih := marked_rising l (i + 1)
    cases b with
    | true =>
      simp only [marked, if_true, List.pairwise_cons]
      exact ⟨fun x hx => by have := ((marked_mem l (i + 1) x).1 hx).1; omega, ih⟩
    | false => simpa [marked] using ih
end Go.Proofs.Ytclnpjnodmfkcaa
