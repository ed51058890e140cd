/-
  Graphs, as plain lists: who is reached.
-/
import Derived.Test.YtclnpjnodmfkcaaAbs30
set_option linter.unusedVariables false
namespace Go.Proofs.Scc
open Go Go.Abs

abbrev Adj := List (Sl Int)
def Nod (A : Adj) (x : Int) : Prop := 0 ≤ x ∧ x < (A.length : Int)
def Arc (A : Adj) (x y : Int) : Prop := 0 ≤ x ∧ (∃ row, A[x.toNat]? = some row ∧ y ∈ row.l) ∧ Nod A y
inductive Way (A : Adj) : Int → Int → Prop
  | refl {x : Int} : Nod A x → Way A x x
  | step {x y z : Int} : Way A x y → Arc A y z → Way A x z
def Reached (A : Adj) (fr : List Int) (x : Int) : Prop := ∃ s, s ∈ fr ∧ Way A s x

theorem Arc.src {A : Adj} {x y : Int} (h : Arc A x y) : Nod A x := by
  obtain ⟨h0, ⟨row, h1, _⟩, _⟩ := h
  have := (List.getElem?_eq_some_iff.1 h1).1
  exact ⟨h0, by omega⟩
theorem Way.src {A : Adj} {x y : Int} (h : Way A x y) : Nod A x := by
  induction h with
  | refl h => exact h
  | step _ _ ih => exact ih
theorem Way.dst {A : Adj} {x y : Int} (h : Way A x y) : Nod A y := by
  cases h with
  | refl h => exact h
  | step _ h => exact h.2.2
theorem Way.trans {A : Adj} {x y z : Int} (h : Way A x y) (h' : Way A y z) : Way A x z := by
  induction h' with
  | refl _ => exact h
  | step _ ha ih => exact .step ih ha

theorem length_le_of_subset {α : Type} [DecidableEq α] : ∀ {l l' : List α}, l.Nodup → (∀ x ∈ l, x ∈ l') → l.length ≤ l'.length
  | [], _, _, _ => by simp
  | a :: l, l', hn, hs => by
    rw [List.nodup_cons] at hn
    have ha : a ∈ l' := hs a (by simp)
    have := length_le_of_subset (l := l) (l' := l'.erase a) hn.2 fun x hx => by
      have hne : x ≠ a := fun h => hn.1 (h ▸ hx)
      exact (List.mem_erase_of_ne hne).2 (hs x (by simp [hx]))
    rw [List.length_erase_of_mem ha] at this
    have hpos : 0 < l'.length := List.length_pos_of_mem ha
    simp only [List.length_cons]; omega
theorem nodes_le {l : List Int} {n : Nat} (hn : l.Nodup) (h : ∀ x ∈ l, 0 ≤ x ∧ x < (n : Int)) : l.length ≤ n := by
  have := length_le_of_subset (l' := (List.range n).map fun k : Nat => (k : Int)) hn fun x hx => by
    obtain ⟨h1, h2⟩ := h x hx
    exact List.mem_map.2 ⟨x.toNat, List.mem_range.2 (by omega), by omega⟩
  simpa using this

/-- Who was noted: as marks, as a list. -/
structure Noted (A : Adj) (S : Int → Prop) (seen : List Bool) (list : List Int) : Prop where
  len : seen.length = A.length
  mem : ∀ x, x ∈ list ↔ (0 ≤ x ∧ seen[x.toNat]? = some true)
  nodup : list.Nodup
  ok : ∀ x ∈ list, S x
theorem Noted.node {A : Adj} {S : Int → Prop} {seen : List Bool} {list : List Int} (h : Noted A S seen list) {x : Int} (hx : x ∈ list) : Nod A x := by
  obtain ⟨h1, h2⟩ := (h.mem x).1 hx
  have := (List.getElem?_eq_some_iff.1 h2).1
  rw [h.len] at this
  exact ⟨h1, by omega⟩
theorem Noted.le {A : Adj} {S : Int → Prop} {seen : List Bool} {list : List Int} (h : Noted A S seen list) : list.length ≤ A.length := nodes_le h.nodup fun x hx => h.node hx
theorem Noted.start (A : Adj) (S : Int → Prop) : Noted A S (List.replicate A.length false) [] :=
  ⟨by simp, fun x => by simp [List.getElem?_replicate], by simp, by simp⟩
theorem Noted.fresh {A : Adj} {S : Int → Prop} {seen : List Bool} {list : List Int} (h : Noted A S seen list) {x : Int} (hx : seen[x.toNat]? = some false) : x ∉ list := fun hm => by
  obtain ⟨_, h2⟩ := (h.mem x).1 hm
  rw [hx] at h2; cases h2
theorem Noted.add {A : Adj} {S : Int → Prop} {seen : List Bool} {list : List Int} (h : Noted A S seen list) {x : Int} (h0 : 0 ≤ x) (hx : seen[x.toNat]? = some false) (hS : S x) : Noted A S (seen.set x.toNat true) (list ++ [x]) := by
  have hlt := (List.getElem?_eq_some_iff.1 hx).1
  refine ⟨by simp [h.len], fun y => ?_, ?_, ?_⟩
  · rw [List.mem_append, List.mem_singleton, List.getElem?_set]
    by_cases hyx : y = x
    · subst hyx; simp [h0, hlt]
    · rw [h.mem y]
      by_cases h0y : 0 ≤ y
      · rw [if_neg (by omega)]; simp [hyx]
      · simp [h0y, hyx]
  · rw [List.nodup_append]
    refine ⟨h.nodup, by simp, fun a ha b hb => ?_⟩
    rw [List.mem_singleton] at hb
    subst hb
    exact fun hab => h.fresh hx (hab ▸ ha)
  · intro y hy
    rw [List.mem_append, List.mem_singleton] at hy
    rcases hy with hy | rfl
    · exact h.ok y hy
    · exact hS
theorem Noted.perm {A : Adj} {S : Int → Prop} {seen : List Bool} {list list' : List Int} (h : Noted A S seen list) (hp : list'.Perm list) : Noted A S seen list' :=
  ⟨h.len, fun x => by rw [hp.mem_iff]; exact h.mem x, hp.nodup_iff.2 h.nodup, fun x hx => h.ok x (hp.mem_iff.1 hx)⟩
/-- If all arcs of the noted ones lead to noted ones, who is reached from a noted one is noted. -/
theorem closed_way {A : Adj} {list : List Int} (hc : ∀ x ∈ list, ∀ y, Arc A x y → y ∈ list) {x y : Int} (hx : x ∈ list) (hw : Way A x y) : y ∈ list := by
  induction hw with
  | refl _ => exact hx
  | step _ ha ih => exact hc _ (ih) _ ha
theorem get_nat {α : Type} {l : List α} {i : Nat} (h : (i : Int) < (l.length : Int)) : ∃ r, l[(i : Int).toNat]? = some r := ⟨l[i]'(by omega), by simp⟩
theorem get_int {α : Type} {l : List α} {i : Int} (h : 0 ≤ i ∧ i < (l.length : Int)) : ∃ r, l[i.toNat]? = some r := ⟨l[i.toNat]'(by omega), by simp⟩
end Go.Proofs.Scc
