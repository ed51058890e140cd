/-
  Part of the proof: printed by the session's own program out of the program's form, or typed; it states no claim by itself.
-/
import Derived.Test.YtclnpjnodmfkcaaWa
import Derived.Test.YtclnpjnodmfkcaaG
set_option linter.unusedVariables false
set_option maxRecDepth 10000
namespace Go.Proofs.Ytclnpjnodmfkcaa
open Go Go.Abs Go.Proofs Go.Proofs.Scc

theorem small_runs (adj : Sl (Sl Int)) : ∃ b, X.RunsC 9 [.c (eSl adj)] (dB b) ∧ (b = true → adj.l.length ≤ 40 ∧ ∀ r ∈ adj.l, r.l.length ≤ 80) := by
  obtain ⟨ex, s', hg, _, hq⟩ := Sys.loop_go (X := X) (f := 9) (nt := 23) (Γ := []) (a := sub b9 [1, 0, 1, 0, 0]) (m := 0)
    (fun i : Nat => ⟨fl [(0, .c (eSl adj)), (3, dInt i)], ⟨[], []⟩⟩)
    (fun i => i ≤ adj.l.length ∧ ∀ j, j < i → ∀ r, adj.l[j]? = some r → r.l.length ≤ 80) (fun i => adj.l.length - i)
    (fun ex s' => (ex = .ret ∧ s' = ⟨fl [(2, dB false)], ⟨[], []⟩⟩) ∨ (∃ j : Int, ex = .exit 0 ∧ s' = ⟨fl [(0, .c (eSl adj)), (3, dInt j), (11, dB false)], ⟨[], []⟩⟩ ∧ (adj.l.length ≤ 40 → ∀ r ∈ adj.l, r.l.length ≤ 80)))
    (by
      intro i ⟨hi, hr⟩
      by_cases h1 : (i : Int) < (adj.l.length : Int)
      · by_cases h2 : (i : Int) ≤ 40
        · obtain ⟨r, hget⟩ : ∃ r, adj.l[(i : Int).toNat]? = some r := ⟨adj.l[i]'(by omega), by simp⟩
          by_cases h5 : (r.l.length : Int) > 80
          · exact .inr ⟨_, _, smallB_1 adj i r h1 h2 (by omega) hget h5, by simp, .inl ⟨rfl, rfl⟩⟩
          · refine .inl ⟨_, i + 1, smallB_2 adj i r h1 h2 (by omega) hget h5 (by omega), rfl, ⟨by omega, fun j hj r' hr' => ?_⟩, by omega⟩
            by_cases hji : j = i
            · subst hji
              simp only [Int.toNat_natCast] at hget
              rw [hr'] at hget; cases hget; omega
            · exact hr j (by omega) r' hr'
        · exact .inr ⟨_, _, smallB_3 adj i h1 h2, by simp, .inr ⟨i, rfl, rfl, fun h => by omega⟩⟩
      · refine .inr ⟨_, _, smallB_4 adj i h1, by simp, .inr ⟨i, rfl, rfl, fun _ r hm => ?_⟩⟩
        obtain ⟨j, hj, rfl⟩ := List.getElem_of_mem hm
        exact hr j (by omega) _ (List.getElem?_eq_getElem hj))
    0 ⟨by omega, by simp⟩ rfl
  rcases hq with ⟨rfl, rfl⟩ | ⟨j, rfl, rfl, hall⟩
  · exact ⟨false, smallM_1 adj hg, by simp⟩
  · by_cases h40 : (adj.l.length : Int) ≤ 40
    · exact ⟨true, smallM_2 adj j hg h40, fun _ => ⟨by omega, hall (by omega)⟩⟩
    · exact ⟨false, smallM_3 adj j hg h40, by simp⟩

theorem same_runs (a b : Sl Int) (ha : a.l.length ≤ 1000000) : X.RunsC 11 [.c (eSl a), .c (eSl b)] (dB (decide (a.l = b.l))) := by
  have key : X.RunsC 21 [.c (eSl a), .c (eSl b)] (dB (decide (a.l = b.l))) := by
    by_cases hl : (a.l.length : Int) = (b.l.length : Int)
    · obtain ⟨ex, s', hg, _, hq⟩ := Sys.loop_go (X := X) (f := 21) (nt := 26) (Γ := []) (a := sub b21 [1, 1, 0, 1, 0, 0]) (m := 0)
        (fun i : Nat => ⟨fl [(0, .c (eSl a)), (1, .c (eSl b)), (5, dInt i)], ⟨[], []⟩⟩)
        (fun i => i ≤ a.l.length ∧ ∀ j, j < i → a.l[j]? = b.l[j]?) (fun i => a.l.length - i)
        (fun ex s' => (ex = .ret ∧ s' = ⟨fl [(4, dB false)], ⟨[], []⟩⟩ ∧ a.l ≠ b.l) ∨ (∃ j : Int, ex = .exit 0 ∧ s' = ⟨fl [(0, .c (eSl a)), (1, .c (eSl b)), (5, dInt j), (14, dB false)], ⟨[], []⟩⟩ ∧ a.l = b.l))
        (by
          intro i ⟨hi, hr⟩
          by_cases h1 : (i : Int) < (a.l.length : Int)
          · obtain ⟨x, hx⟩ : ∃ r, a.l[(i : Int).toNat]? = some r := ⟨a.l[i]'(by omega), by simp⟩
            obtain ⟨y, hy⟩ : ∃ r, b.l[(i : Int).toNat]? = some r := ⟨b.l[i]'(by omega), by simp⟩
            by_cases hxy : x ≠ y
            · refine .inr ⟨_, _, sameB_1 a b i x y h1 (by omega) hx (by omega) hy hxy, by simp, .inl ⟨rfl, rfl, fun he => ?_⟩⟩
              rw [he, hy] at hx; cases hx; exact hxy rfl
            · refine .inl ⟨_, i + 1, sameB_2 a b i x y h1 (by omega) hx (by omega) hy hxy (by omega), rfl, ⟨by omega, fun j hj => ?_⟩, by omega⟩
              by_cases hji : j = i
              · subst hji
                simp only [Int.toNat_natCast] at hx hy
                rw [hx, hy]; simp at hxy; rw [hxy]
              · exact hr j (by omega)
          · refine .inr ⟨_, _, sameB_3 a b i h1, by simp, .inr ⟨i, rfl, rfl, ?_⟩⟩
            refine List.ext_getElem? fun j => ?_
            by_cases hj : j < a.l.length
            · exact hr j (by omega)
            · rw [List.getElem?_eq_none (by omega), List.getElem?_eq_none (by omega)])
        0 ⟨by omega, by simp⟩ rfl
      rcases hq with ⟨rfl, rfl, hne⟩ | ⟨j, rfl, rfl, he⟩
      · simp only [hne, decide_false]
        exact sameM_2 a b (by simp [hl]) hg
      · simp only [he, decide_true]
        exact sameM_3 a b j (by simp [hl]) hg
    · have hne : a.l ≠ b.l := fun h => hl (by rw [h])
      simp only [hne, decide_false]
      exact sameM_1 a b hl
  by_cases he : a.l = b.l
  · simp only [he, decide_true] at key ⊢
    exact SameM_1 a b key
  · simp only [he, decide_false] at key ⊢
    exact SameM_2 a b key

theorem marks_runs (adj : Sl (Sl Int)) (fr : Sl Int) (hs : adj.l.length ≤ 1000000) (hf : fr.l.length ≤ 1000000) (hr : ∀ r ∈ adj.l, r.l.length ≤ 1000000) :
    ∃ seen : List Bool, X.RunsC 25 [.c (eSl adj), .c (eSl fr)] (.c (.sl false true (cells seen) seen.length)) ∧ seen.length = adj.l.length ∧ ∀ x, (0 ≤ x ∧ seen[x.toNat]? = some true) ↔ Reached adj.l fr.l x := by
  have big : ∀ (S : Int → Prop) (seen : List Bool) (list : List Int) (v : Int), Noted adj.l S seen list → (list ++ ([v] : List Int)).length * 8 ≤ 140737488355328 := fun S seen list v h => by
    have := h.le
    simp only [List.length_append, List.length_singleton]; omega
  obtain ⟨ex, s', hg, _, i, seen, list, rfl, rfl, hn, hfr⟩ := Sys.loop_go (X := X) (f := 25) (nt := 114) (Γ := []) (a := sub b25 [1, 1, 1, 0, 1, 0, 0]) (m := 1)
    (fun σ : Nat × List Bool × List Int => ⟨fl [(0, .c (eSl adj)), (1, .c (eSl fr)), (5, .ms 0 1 0 adj.l.length 1 true), (6, apv σ.2.2), (7, dInt σ.1)], ⟨[⟨1, dcells σ.2.1⟩], []⟩⟩)
    (fun σ => σ.1 ≤ fr.l.length ∧ Noted adj.l (Reached adj.l fr.l) σ.2.1 σ.2.2 ∧ ∀ j, j < σ.1 → ∀ x, fr.l[j]? = some x → Nod adj.l x → x ∈ σ.2.2) (fun σ => fr.l.length - σ.1)
    (fun ex s' => ∃ (i : Int) (seen : List Bool) (list : List Int), ex = .exit 0 ∧ s' = ⟨fl [(0, .c (eSl adj)), (1, .c (eSl fr)), (5, .ms 0 1 0 adj.l.length 1 true), (6, apv list), (7, dInt i), (17, dB false)], ⟨[⟨1, dcells seen⟩], []⟩⟩ ∧
      Noted adj.l (Reached adj.l fr.l) seen list ∧ ∀ x ∈ fr.l, Nod adj.l x → x ∈ list)
    (by
      rintro ⟨i, seen, list⟩ ⟨hi, hn, hfr⟩
      simp only at hi hn hfr
      by_cases h1 : (i : Int) < (fr.l.length : Int)
      · obtain ⟨v, hv⟩ := get_nat h1
        have hv' : fr.l[i]? = some v := by simpa using hv
        have key : ∀ list' : List Int, (∀ x ∈ list, x ∈ list') → (Nod adj.l v → v ∈ list') → ∀ j, j < i + 1 → ∀ x, fr.l[j]? = some x → Nod adj.l x → x ∈ list' := fun list' hsub hvn j hj x hx hnx => by
          by_cases hji : j = i
          · subst hji; rw [hv'] at hx; cases hx; exact hvn hnx
          · exact hsub x (hfr j (by omega) x hx hnx)
        by_cases h4 : v ≥ 0
        · by_cases h5 : v < (adj.l.length : Int)
          · obtain ⟨b, hb⟩ := get_int (l := seen) (i := v) ⟨h4, by rw [hn.len]; exact h5⟩
            cases b with
            | true => exact .inl ⟨_, (i + 1, seen, list), marksA_1 adj fr i seen list v h1 (by omega) hv h4 h5 ⟨h4, h5⟩ hb (by omega), rfl, ⟨by simp only; omega, hn, key list (fun _ h => h) fun _ => (hn.mem v).2 ⟨h4, hb⟩⟩, by simp only; omega⟩
            | false => exact .inl ⟨_, (i + 1, seen.set v.toNat true, list ++ [v]), marksA_2 adj fr i seen list v h1 (by omega) hv h4 h5 ⟨h4, h5⟩ hb (by rw [hn.len]; exact ⟨h4, h5⟩) (big _ _ _ _ hn) (by omega), rfl,
                ⟨by simp only; omega, hn.add h4 hb ⟨v, List.mem_of_getElem? hv', .refl ⟨h4, h5⟩⟩, key _ (fun _ h => by simp [h]) fun _ => by simp⟩, by simp only; omega⟩
          · exact .inl ⟨_, (i + 1, seen, list), marksA_3 adj fr i seen list v h1 (by omega) hv h4 h5 (by omega), rfl, ⟨by simp only; omega, hn, key list (fun _ h => h) fun h => absurd h.2 h5⟩, by simp only; omega⟩
        · exact .inl ⟨_, (i + 1, seen, list), marksA_4 adj fr i seen list v h1 (by omega) hv h4 (by omega), rfl, ⟨by simp only; omega, hn, key list (fun _ h => h) fun h => absurd h.1 h4⟩, by simp only; omega⟩
      · refine .inr ⟨_, _, marksA_5 adj fr i seen list h1, by simp, i, seen, list, rfl, rfl, hn, fun x hx hnx => ?_⟩
        obtain ⟨j, hj, rfl⟩ := List.getElem_of_mem hx
        exact hfr j (by omega) _ (List.getElem?_eq_getElem hj) hnx)
    (0, List.replicate adj.l.length false, []) ⟨by simp, Noted.start _ _, by simp⟩ rfl
  obtain ⟨ex, s', hg', _, n, seen', list', rfl, rfl, hn', hfr', hcl⟩ := Sys.loop_go (X := X) (f := 25) (nt := 114) (Γ := []) (a := sub b25 [1, 1, 1, 1, 0, 1, 0, 0]) (m := 1)
    (fun σ : Nat × List Bool × List Int => ⟨fl [(0, .c (eSl adj)), (5, .ms 0 1 0 adj.l.length 1 true), (6, apv σ.2.2), (8, dInt σ.1)], ⟨[⟨1, dcells σ.2.1⟩], []⟩⟩)
    (fun σ => σ.1 ≤ σ.2.2.length ∧ Noted adj.l (Reached adj.l fr.l) σ.2.1 σ.2.2 ∧ (∀ x ∈ fr.l, Nod adj.l x → x ∈ σ.2.2) ∧ ∀ j, j < σ.1 → ∀ x, σ.2.2[j]? = some x → ∀ y, Arc adj.l x y → y ∈ σ.2.2) (fun σ => adj.l.length - σ.1)
    (fun ex s' => ∃ (n : Int) (seen : List Bool) (list : List Int), ex = .exit 2 ∧ s' = ⟨fl [(0, .c (eSl adj)), (5, .ms 0 1 0 adj.l.length 1 true), (6, apv list), (8, dInt n), (60, dB false)], ⟨[⟨1, dcells seen⟩], []⟩⟩ ∧
      Noted adj.l (Reached adj.l fr.l) seen list ∧ (∀ x ∈ fr.l, Nod adj.l x → x ∈ list) ∧ ∀ x ∈ list, ∀ y, Arc adj.l x y → y ∈ list)
    (by
      rintro ⟨n, seen, list⟩ ⟨hi, hn, hfr, hcl⟩
      simp only at hi hn hfr hcl
      by_cases h1 : (n : Int) < (list.length : Int)
      · obtain ⟨v, hv⟩ := get_nat h1
        have hv' : list[n]? = some v := by simpa using hv
        have hvm : v ∈ list := List.mem_of_getElem? hv'
        have hvn := hn.node hvm
        obtain ⟨row, hrow⟩ := get_int (l := adj.l) (i := v) hvn
        have hrl : row.l.length ≤ 1000000 := hr row (List.mem_of_getElem? hrow)
        obtain ⟨ex, s1, hg, _, k, seen1, list1, rfl, rfl, hn1, ⟨t, rfl⟩, hk⟩ := Sys.loop_go (X := X) (f := 25) (nt := 114) (Γ := []) (a := sub b25 [1, 1, 1, 1, 0, 1, 0, 0, 1, 0, 0, 1, 1, 0, 0]) (m := 1)
          (fun σ : Nat × List Bool × List Int => ⟨fl [(0, .c (eSl adj)), (5, .ms 0 1 0 adj.l.length 1 true), (6, apv σ.2.2), (8, dInt n), (9, .c (eSl row)), (10, dInt σ.1)], ⟨[⟨1, dcells σ.2.1⟩], []⟩⟩)
          (fun σ => σ.1 ≤ row.l.length ∧ Noted adj.l (Reached adj.l fr.l) σ.2.1 σ.2.2 ∧ (∃ t, σ.2.2 = list ++ t) ∧ ∀ j, j < σ.1 → ∀ x, row.l[j]? = some x → Nod adj.l x → x ∈ σ.2.2) (fun σ => row.l.length - σ.1)
          (fun ex s' => ∃ (k : Int) (seen : List Bool) (list' : List Int), ex = .exit 4 ∧ s' = ⟨fl [(0, .c (eSl adj)), (5, .ms 0 1 0 adj.l.length 1 true), (6, apv list'), (8, dInt n), (9, .c (eSl row)), (10, dInt k), (73, dB false)], ⟨[⟨1, dcells seen⟩], []⟩⟩ ∧
            Noted adj.l (Reached adj.l fr.l) seen list' ∧ (∃ t, list' = list ++ t) ∧ ∀ x ∈ row.l, Nod adj.l x → x ∈ list')
          (by
            rintro ⟨k, seen, list2⟩ ⟨hi, hn, ⟨t, ht⟩, hfr⟩
            simp only at hi hn ht hfr
            by_cases h1 : (k : Int) < (row.l.length : Int)
            · obtain ⟨y, hy⟩ := get_nat h1
              have hy' : row.l[k]? = some y := by simpa using hy
              have key : ∀ list' : List Int, (∀ x ∈ list2, x ∈ list') → (Nod adj.l y → y ∈ list') → ∀ j, j < k + 1 → ∀ x, row.l[j]? = some x → Nod adj.l x → x ∈ list' := fun list' hsub hvn j hj x hx hnx => by
                by_cases hji : j = k
                · subst hji; rw [hy'] at hx; cases hx; exact hvn hnx
                · exact hsub x (hfr j (by omega) x hx hnx)
              by_cases h4 : y ≥ 0
              · by_cases h5 : y < (adj.l.length : Int)
                · obtain ⟨b, hb⟩ := get_int (l := seen) (i := y) ⟨h4, by rw [hn.len]; exact h5⟩
                  cases b with
                  | true => exact .inl ⟨_, (k + 1, seen, list2), marksC_1 adj row n k seen list2 y h1 (by omega) hy h4 h5 ⟨h4, h5⟩ hb (by omega), rfl, ⟨by simp only; omega, hn, ⟨t, ht⟩, key list2 (fun _ h => h) fun _ => (hn.mem y).2 ⟨h4, hb⟩⟩, by simp only; omega⟩
                  | false =>
                    obtain ⟨s0, hs0, hw0⟩ := hn.ok v (by rw [ht]; simp [hvm])
                    exact .inl ⟨_, (k + 1, seen.set y.toNat true, list2 ++ [y]), marksC_2 adj row n k seen list2 y h1 (by omega) hy h4 h5 ⟨h4, h5⟩ hb (by rw [hn.len]; exact ⟨h4, h5⟩) (big _ _ _ _ hn) (by omega), rfl,
                      ⟨by simp only; omega, hn.add h4 hb ⟨s0, hs0, .step hw0 ⟨hvn.1, ⟨row, hrow, List.mem_of_getElem? hy'⟩, h4, h5⟩⟩, ⟨t ++ [y], by simp [ht]⟩, key _ (fun _ h => by simp [h]) fun _ => by simp⟩, by simp only; omega⟩
                · exact .inl ⟨_, (k + 1, seen, list2), marksC_3 adj row n k seen list2 y h1 (by omega) hy h4 h5 (by omega), rfl, ⟨by simp only; omega, hn, ⟨t, ht⟩, key list2 (fun _ h => h) fun h => absurd h.2 h5⟩, by simp only; omega⟩
              · exact .inl ⟨_, (k + 1, seen, list2), marksC_4 adj row n k seen list2 y h1 (by omega) hy h4 (by omega), rfl, ⟨by simp only; omega, hn, ⟨t, ht⟩, key list2 (fun _ h => h) fun h => absurd h.1 h4⟩, by simp only; omega⟩
            · refine .inr ⟨_, _, marksC_5 adj row n k seen list2 h1, by simp, k, seen, list2, rfl, rfl, hn, ⟨t, ht⟩, fun x hx hnx => ?_⟩
              obtain ⟨j, hj, rfl⟩ := List.getElem_of_mem hx
              exact hfr j (by omega) _ (List.getElem?_eq_getElem hj) hnx)
          (0, seen, list) ⟨by simp, hn, ⟨[], by simp⟩, by simp⟩ rfl
        have hle := hn1.le
        have hle0 := hn.le
        simp only [List.length_append] at hle
        cases list with
        | nil => simp only [List.length_nil] at h1; omega
        | cons a l =>
          refine .inl ⟨_, (n + 1, seen1, a :: l ++ t), marksBf_1 adj n seen (a :: l) v row (a :: l ++ t) seen1 k h1 (by omega) hv hvn hrow hg (by omega), rfl, ⟨by simp only [List.length_append]; omega, hn1, fun x hx hnx => by have := hfr x hx hnx; simp only [List.mem_append]; exact .inl this, fun j hj x hx y hy => ?_⟩, by simp only; omega⟩
          by_cases hjn : j = n
          · subst hjn
            rw [List.getElem?_append_left (by omega), hv'] at hx
            cases hx
            obtain ⟨_, ⟨row', h1', h2'⟩, h3'⟩ := hy
            rw [hrow] at h1'; cases h1'
            exact hk y h2' h3'
          · rw [List.getElem?_append_left (by omega)] at hx
            have := hcl j (by omega) x hx y hy
            simp only [List.mem_append]; exact .inl this
      · have hn2 : n = list.length := by omega
        refine .inr ⟨.exit 2, ⟨fl [(0, .c (eSl adj)), (5, .ms 0 1 0 adj.l.length 1 true), (6, apv list), (8, dInt n), (60, dB false)], ⟨[⟨1, dcells seen⟩], []⟩⟩, ?_, by simp, n, seen, list, rfl, rfl, hn, hfr, fun x hx y hy => ?_⟩
        · cases list with
          | nil => exact marksBn_1 adj n seen h1
          | cons a l => exact marksBf_2 adj n seen (a :: l) h1
        · obtain ⟨j, hj, rfl⟩ := List.getElem_of_mem hx
          exact hcl j (by omega) _ (List.getElem?_eq_getElem hj) y hy)
    (0, seen, list) ⟨by simp, hn, hfr, by simp⟩ rfl
  refine ⟨seen', marksM_1 adj fr list seen i list' seen' n (by omega) hg hg' hn'.len, hn'.len, fun x => ?_⟩
  rw [← hn'.mem x]
  refine ⟨fun h => hn'.ok x h, fun ⟨s, hs, hw⟩ => closed_way hcl (hfr' s hs hw.src) hw⟩

/-- Those marked, rising. -/
def marked : List Bool → Int → List Int
  | [], _ => []
  | b :: l, i => if b then i :: marked l (i + 1) else marked l (i + 1)
theorem marked_snoc (b : Bool) : ∀ (l : List Bool) (i : Int), marked (l ++ [b]) i = marked l i ++ (if b then [i + l.length] else [])
  | [], i => by cases b <;> simp [marked]
  | a :: l, i => by
    simp only [List.cons_append, marked, marked_snoc b l (i + 1), List.length_cons]
    rw [show i + 1 + (l.length : Int) = i + ((l.length + 1 : Nat) : Int) by omega]
    cases a <;> simp
theorem marked_len : ∀ (l : List Bool) (i : Int), (marked l i).length ≤ l.length
  | [], _ => by simp [marked]
  | a :: l, i => by
    have := marked_len l (i + 1)
    cases a <;> simp [marked] <;> omega

theorem rreach_runs (adj : Sl (Sl Int)) (fr : Sl Int) (hs : adj.l.length ≤ 1000000) (hf : fr.l.length ≤ 1000000) (hr : ∀ r ∈ adj.l, r.l.length ≤ 1000000) :
    ∃ seen : List Bool, X.RunsC 13 [.c (eSl adj), .c (eSl fr)] (.c (eSl (apc (marked seen 0)))) ∧ seen.length = adj.l.length ∧ ∀ x, (0 ≤ x ∧ seen[x.toNat]? = some true) ↔ Reached adj.l fr.l x := by
  obtain ⟨seen, hm, hlen, hw⟩ := marks_runs adj fr hs hf hr
  refine ⟨seen, ?_, hlen, hw⟩
  obtain ⟨ex, s', hg, _, i, rfl, rfl⟩ := Sys.loop_go (X := X) (f := 13) (nt := 26) (Γ := []) (a := sub b13 [1, 1, 1, 0, 1, 0, 0]) (m := 0)
    (fun i : Nat => ⟨fl [(5, .c (eSl (Sl.of true seen))), (6, apv (marked (seen.take i) 0)), (7, dInt i)], ⟨[], []⟩⟩)
    (fun i => i ≤ seen.length) (fun i => seen.length - i)
    (fun ex s' => ∃ (i : Int), ex = .exit 0 ∧ s' = ⟨fl [(5, .c (eSl (Sl.of true seen))), (6, apv (marked seen 0)), (7, dInt i), (14, dB false)], ⟨[], []⟩⟩)
    (by
      intro i hi
      by_cases h1 : (i : Int) < (seen.length : Int)
      · obtain ⟨b, hb⟩ := get_nat h1
        have hb' : seen[i]? = some b := by simpa using hb
        have ht : seen.take (i + 1) = seen.take i ++ [b] := by rw [List.take_add_one, hb']; rfl
        have hl : ((seen.take i).length : Int) = i := by rw [List.length_take]; omega
        have hle := marked_len (seen.take i) 0
        rw [List.length_take] at hle
        cases b with
        | true =>
          refine .inl ⟨_, i + 1, rreachB_1 (Sl.of true seen) i (marked (seen.take i) 0) h1 ⟨by omega, h1⟩ hb (by simp only [List.length_append, List.length_singleton]; omega) (by omega), ?_, by omega, by omega⟩
          rw [ht, marked_snoc]
          simp only [if_true, hl, Int.zero_add]
          rfl
        | false =>
          refine .inl ⟨_, i + 1, rreachB_2 (Sl.of true seen) i (marked (seen.take i) 0) h1 ⟨by omega, h1⟩ hb (by omega), ?_, by omega, by omega⟩
          rw [ht, marked_snoc]
          simp only [Bool.false_eq_true, if_false, List.append_nil]
          rfl
      · refine .inr ⟨_, _, rreachB_3 (Sl.of true seen) i (marked (seen.take i) 0) h1, by simp, i, rfl, ?_⟩
        rw [List.take_of_length_le (by omega)])
    0 (by omega) rfl
  exact rreachM_1 adj fr (Sl.of true seen) (marked seen 0) i hm hg
end Go.Proofs.Ytclnpjnodmfkcaa
