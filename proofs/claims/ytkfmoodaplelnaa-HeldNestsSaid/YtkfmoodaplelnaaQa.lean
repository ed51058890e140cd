/-
  The search finds a circle just where there is one.
-/
import Derived.Test.YtkfmoodaplelnaaRe
set_option linter.unusedVariables false
set_option linter.unusedSimpArgs false
set_option linter.unusedSectionVars false
namespace Go.Proofs.Ytkfmoodaplelnaa
open Go Go.Abs Go.Proofs
/-- A way of one arc at least. -/
inductive Rch (nx : Int → List Int) : Int → Int → Prop
  | one {x y : Int} (h : y ∈ nx x) : Rch nx x y
  | cons {x y z : Int} (h : y ∈ nx x) (h' : Rch nx y z) : Rch nx x z
def Cyc (nx : Int → List Int) : Prop := ∃ x, Rch nx x x
theorem Rch.snoc {nx : Int → List Int} {x y z : Int} (h : Rch nx x y) (h' : z ∈ nx y) : Rch nx x z := by
  induction h with
  | one h => exact .cons h (.one h')
  | cons h _ ih => exact .cons h (ih h')
abbrev col (σ : St2) (m : Int) : Int := lookM (0 : Int) σ m
theorem col_put (σ : St2) (m v m' : Int) : col (putM σ m v) m' = if m' = m then v else col σ m' := by
  unfold col lookM
  induction σ with
  | nil =>
    by_cases h : m' = m
    · subst h; simp [putM, getM]
    · rw [if_neg h]; simp only [putM, getM, if_neg (Ne.symm h)]
  | cons p σ ih =>
    obtain ⟨a, b⟩ := p
    by_cases ha : a = m
    · subst ha
      simp only [putM, if_true, getM]
      by_cases h : m' = a
      · subst h; simp
      · simp only [if_neg h, if_neg (Ne.symm h)]
    · simp only [putM, if_neg ha, getM]
      by_cases h : a = m'
      · subst h; simp only [if_true, if_neg ha]
      · simp only [if_neg h]; exact ih
structure Cok (nx : Int → List Int) (σ : St2) : Prop where
  c : ∀ x, col σ x = 0 ∨ col σ x = 1 ∨ col σ x = 2
  cl : ∀ x, col σ x = 2 → ∀ y ∈ nx x, col σ y = 2
  no : ∀ x, col σ x = 2 → ¬ Rch nx x x
theorem Cok.way {nx : Int → List Int} {σ : St2} (k : Cok nx σ) {x y : Int} (h : Rch nx x y) : col σ x = 2 → col σ y = 2 := by
  induction h with
  | one h => exact fun hx => k.cl _ hx _ h
  | cons h _ ih => exact fun hx => ih (k.cl _ hx _ h)
/-- What is not yet marked. -/
def white (U : List Int) (σ : St2) : Nat := (U.filter fun x => decide (col σ x = 0)).length
theorem white_le {U : List Int} {σ σ' : St2} (h : ∀ x, col σ' x = 0 → col σ x = 0) : white U σ' ≤ white U σ := by
  unfold white
  induction U with
  | nil => simp
  | cons a U ih =>
    by_cases h1 : col σ' a = 0
    · rw [List.filter_cons_of_pos (by simp [h1]), List.filter_cons_of_pos (by simp [h a h1])]
      simp; omega
    · rw [List.filter_cons_of_neg (by simp [h1])]
      by_cases h2 : col σ a = 0
      · rw [List.filter_cons_of_pos (by simp [h2])]; simp; omega
      · rw [List.filter_cons_of_neg (by simp [h2])]; exact ih
theorem white_lt {U : List Int} {σ σ' : St2} (h : ∀ x, col σ' x = 0 → col σ x = 0) {m : Int} (hm : m ∈ U) (h0 : col σ m = 0) (h1 : col σ' m ≠ 0) : white U σ' < white U σ := by
  have hle := fun V => white_le (U := V) h
  unfold white at hle ⊢
  induction U with
  | nil => cases hm
  | cons a U ih =>
    by_cases ha : a = m
    · subst ha
      rw [List.filter_cons_of_neg (by simp [h1]), List.filter_cons_of_pos (by simp [h0])]
      have := hle U
      simp; omega
    · have hm' : m ∈ U := by
        rcases List.mem_cons.1 hm with h2 | h2
        · exact absurd h2.symm ha
        · exact h2
      have := ih hm'
      by_cases h2 : col σ' a = 0
      · rw [List.filter_cons_of_pos (by simp [h2]), List.filter_cons_of_pos (by simp [h a h2])]
        simp; omega
      · rw [List.filter_cons_of_neg (by simp [h2])]
        by_cases h3 : col σ a = 0
        · rw [List.filter_cons_of_pos (by simp [h3])]; simp; omega
        · rw [List.filter_cons_of_neg (by simp [h3])]; exact this
/-- What the search leaves where it finds nothing. -/
structure Leaves (nx : Int → List Int) (σ σ' : St2) (ms : List Int) : Prop where
  ok : Cok nx σ'
  bl : ∀ m ∈ ms, col σ' m = 2
  gr : ∀ x, col σ' x = 1 ↔ col σ x = 1
  ke : ∀ x, col σ x = 2 → col σ' x = 2
theorem Leaves.wh {nx : Int → List Int} {σ σ' : St2} {ms : List Int} (l : Leaves nx σ σ' ms) (k : Cok nx σ) : ∀ x, col σ' x = 0 → col σ x = 0 := fun x hx => by
  rcases k.c x with h | h | h
  · exact h
  · have := (l.gr x).2 h; omega
  · have := l.ke x h; omega
theorem any_ok {nx : Int → List Int} {U : List Int} {w : Int → St2 → Option (Bool × St2)} {N : Nat} (hw : ∀ m σ, m ∈ U → Cok nx σ → (∀ g, col σ g = 1 → Rch nx g m) → white U σ < N → (∃ σ', w m σ = some (true, σ') ∧ Cyc nx) ∨ (∃ σ', w m σ = some (false, σ') ∧ Leaves nx σ σ' [m])) :
    ∀ (ms : List Int) (σ : St2), (∀ m ∈ ms, m ∈ U) → Cok nx σ → (∀ g, col σ g = 1 → ∀ m ∈ ms, Rch nx g m) → white U σ < N → (∃ σ', anyF w ms σ = some (true, σ') ∧ Cyc nx) ∨ (∃ σ', anyF w ms σ = some (false, σ') ∧ Leaves nx σ σ' ms)
  | [], σ, hU, k, hg, hN => .inr ⟨σ, rfl, k, fun m hm => (by cases hm), fun x => Iff.rfl, fun x hx => hx⟩
  | m :: ms, σ, hU, k, hg, hN => by
    unfold anyF
    rcases hw m σ (hU m (List.mem_cons_self ..)) k (fun g h => hg g h m (List.mem_cons_self ..)) hN with ⟨σ', h1, h2⟩ | ⟨σ', h1, h2⟩
    · rw [h1]; exact .inl ⟨σ', rfl, h2⟩
    · rw [h1]
      simp only [Option.bind_some, cond_false]
      have hle := white_le (U := U) (h2.wh k)
      rcases any_ok hw ms σ' (fun x hx => hU x (List.mem_cons_of_mem _ hx)) h2.ok (fun g h x hx => hg g ((h2.gr g).1 h) x (List.mem_cons_of_mem _ hx)) (by omega) with ⟨σ2, h3, h4⟩ | ⟨σ2, h3, h4⟩
      · exact .inl ⟨σ2, h3, h4⟩
      · refine .inr ⟨σ2, h3, h4.ok, fun x hx => ?_, fun x => (h4.gr x).trans (h2.gr x), fun x hx => h4.ke x (h2.ke x hx)⟩
        rcases List.mem_cons.1 hx with rfl | hx
        · exact h4.ke _ (h2.bl _ (List.mem_cons_self ..))
        · exact h4.bl x hx
theorem walk_plain {nx : Int → List Int} {U : List Int} (hU : ∀ m ∈ U, ∀ y ∈ nx m, y ∈ U) : ∀ (n : Nat) (m : Int) (σ : St2), m ∈ U → Cok nx σ → (∀ g, col σ g = 1 → Rch nx g m) → white U σ < n → (∃ σ', walkF nx n m σ = some (true, σ') ∧ Cyc nx) ∨ (∃ σ', walkF nx n m σ = some (false, σ') ∧ Leaves nx σ σ' [m])
  | 0, m, σ, hm, k, hg, hN => by omega
  | n + 1, m, σ, hm, k, hg, hN => by
    unfold walkF
    by_cases h0 : lookM 0 σ m ≠ 0
    · rw [if_pos h0]
      by_cases h1 : lookM 0 σ m = 1
      · rw [decide_eq_true h1]
        exact .inl ⟨σ, rfl, m, hg m h1⟩
      · rw [decide_eq_false h1]
        have h2 : col σ m = 2 := by have h3 : col σ m ≠ 0 := h0; have h4 : col σ m ≠ 1 := h1; have := k.c m; omega
        exact .inr ⟨σ, rfl, k, fun x hx => (by simp only [List.mem_singleton] at hx; rw [hx]; exact h2), fun x => Iff.rfl, fun x hx => hx⟩
    · rw [if_neg h0]
      have h0' : col σ m = 0 := Classical.not_not.1 h0
      have hc := col_put σ m 1
      have k1 : Cok nx (putM σ m 1) := by
        refine ⟨fun x => ?_, fun x hx y hy => ?_, fun x hx => ?_⟩
        · rw [hc]; split
          · exact .inr (.inl rfl)
          · exact k.c x
        · rw [hc] at hx ⊢
          split at hx
          · omega
          · have := k.cl x hx y hy
            rw [if_neg (fun q => by rw [q, h0'] at this; omega)]; exact this
        · rw [hc] at hx
          split at hx
          · omega
          · exact k.no x hx
      have hg1 : ∀ g, col (putM σ m 1) g = 1 → ∀ y ∈ nx m, Rch nx g y := fun g h y hy => by
        rw [hc] at h
        split at h
        · rename_i hgm; subst hgm; exact .one hy
        · exact (hg g h).snoc hy
      have hwl : white U (putM σ m 1) < white U σ := by
        refine white_lt (fun x hx => ?_) hm h0' (by rw [hc, if_pos rfl]; omega)
        rw [hc] at hx
        split at hx
        · omega
        · exact hx
      rcases any_ok (fun m' σ' => walk_plain hU n m' σ') (nx m) (putM σ m 1) (hU m hm) k1 hg1 (by omega) with ⟨σ2, h3, h4⟩ | ⟨σ2, h3, h4⟩
      · rw [h3]; exact .inl ⟨σ2, rfl, h4⟩
      · rw [h3]
        simp only [Option.bind_some, cond_false]
        have hm1 : col σ2 m = 1 := (h4.gr m).2 (by rw [hc, if_pos rfl])
        have hc2 := col_put σ2 m 2
        refine .inr ⟨putM σ2 m 2, rfl, ⟨fun x => ?_, fun x hx y hy => ?_, fun x hx => ?_⟩, fun x hx => ?_, fun x => ?_, fun x hx => ?_⟩
        · rw [hc2]; split
          · exact .inr (.inr rfl)
          · exact h4.ok.c x
        · rw [hc2] at hx ⊢
          split
          · rfl
          · split at hx
            · rename_i hxm; subst hxm; exact h4.bl y hy
            · exact h4.ok.cl x hx y hy
        · rw [hc2] at hx
          split at hx
          · rename_i hxm
            subst hxm
            intro hr
            have : ∀ {y : Int}, y ∈ nx x → Rch nx y x → False := fun {y} hy hh => by
              have := h4.ok.way hh (h4.bl y hy); omega
            cases hr with
            | one h => have := h4.bl x h; omega
            | cons h h' => exact this h h'
          · exact h4.ok.no x hx
        · simp only [List.mem_singleton] at hx
          rw [hc2, if_pos hx]
        · rw [hc2]
          by_cases hxm : x = m
          · rw [if_pos hxm, hxm]
            constructor
            · intro h; omega
            · intro h; rw [h0'] at h; omega
          · rw [if_neg hxm, h4.gr x, hc, if_neg hxm]
        · rw [hc2]
          split
          · rfl
          · rename_i hxm
            refine h4.ke x ?_
            rw [hc, if_neg hxm]; exact hx
/-! ### nests -/
theorem nxL_mem {l : List GNest} {x y : Int} : y ∈ nxL l x ↔ ∃ e ∈ l, e.outer = x ∧ e.inner = y := by
  unfold nxL
  simp only [List.mem_map, List.mem_filter, decide_eq_true_eq]
  exact ⟨fun ⟨e, ⟨h1, h2⟩, h3⟩ => ⟨e, h1, h2, h3⟩, fun ⟨e, h1, h2, h3⟩ => ⟨e, ⟨h1, h2⟩, h3⟩⟩
theorem Rch.start {l : List GNest} {x y : Int} (h : Rch (nxL l) x y) : x ∈ l.map GNest.outer := by
  cases h with
  | one h => obtain ⟨e, h1, h2, _⟩ := nxL_mem.1 h; exact List.mem_map.2 ⟨e, h1, h2⟩
  | cons h _ => obtain ⟨e, h1, h2, _⟩ := nxL_mem.1 h; exact List.mem_map.2 ⟨e, h1, h2⟩
open Classical in
/-- held.Round tells whether there is a circle. -/
theorem round_plain (l : Sl GNest) {N : Nat} (hl : l.l.length ≤ 1000) (hN : 2 * l.l.length + 1 ≤ N) : held_Round N l = some (decide (Cyc (nxL l.l))) := by
  unfold held_Round
  rw [if_pos hl]
  have hU : ∀ m ∈ l.l.map GNest.outer ++ l.l.map GNest.inner, ∀ y ∈ nxL l.l m, y ∈ l.l.map GNest.outer ++ l.l.map GNest.inner := fun m _ y hy => by
    obtain ⟨e, h1, _, h3⟩ := nxL_mem.1 hy
    exact List.mem_append_right _ (List.mem_map.2 ⟨e, h1, h3⟩)
  have hcol : ∀ x, col ([] : St2) x = 0 := fun x => rfl
  have hwh : white (l.l.map GNest.outer ++ l.l.map GNest.inner) [] < N := by
    have : white (l.l.map GNest.outer ++ l.l.map GNest.inner) [] ≤ (l.l.map GNest.outer ++ l.l.map GNest.inner).length := List.length_filter_le _ _
    simp only [List.length_append, List.length_map] at this
    omega
  rcases any_ok (N := N) (fun m σ => walk_plain hU N m σ) (l.l.map GNest.outer) [] (fun m hm => List.mem_append_left _ hm) ⟨fun x => .inl (hcol x), fun x hx => by rw [hcol] at hx; omega, fun x hx => by rw [hcol] at hx; omega⟩ (fun g hg => by rw [hcol] at hg; omega) hwh with ⟨σ', h1, h2⟩ | ⟨σ', h1, h2⟩
  · rw [h1, decide_eq_true h2]; rfl
  · rw [h1, decide_eq_false]
    · rfl
    · rintro ⟨x, hx⟩
      exact h2.ok.no x (h2.bl x hx.start) hx
end Go.Proofs.Ytkfmoodaplelnaa
