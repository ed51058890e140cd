/-
  A graph with all arcs turned round; how far each node is.
-/
import Derived.Test.YtclnpjnodmfkcaaWh
import Derived.Test.YtclnpjnodmfkcaaMb
import Derived.Test.YtclnpjnodmfkcaaD
import Derived.Test.YtclnpjnodmfkcaaRep
set_option linter.unusedVariables false
set_option linter.unusedSimpArgs false
set_option maxRecDepth 10000
namespace Go.Proofs.Ytclnpjnodmfkcaa
open Go Go.Abs Go.Proofs Go.Proofs.Scc

/-- Rows that hold, of each node, those that S names. -/
structure Turned (A : Adj) (B : Nat) (S : Int → Int → Prop) (rows : List (List Int)) : Prop where
  len : rows.length = A.length
  mem : ∀ y, Nod A y → ∃ r, rows[y.toNat]? = some r ∧ (∀ x, x ∈ r ↔ S x y) ∧ r.length ≤ B
theorem Turned.add {A : Adj} {B : Nat} {S : Int → Int → Prop} {rows : List (List Int)} (h : Turned A B S rows) {y i : Int} {r : List Int} (hy : Nod A y) (hr : rows[y.toNat]? = some r) : Turned A (B + 1) (fun x z => S x z ∨ (x = i ∧ z = y)) (rows.set y.toNat (r ++ [i])) := by
  refine ⟨by simp [h.len], fun z hz => ?_⟩
  have hy0 := hy.1; have hz0 := hz.1
  rw [List.getElem?_set]
  by_cases hzy : z = y
  · subst hzy
    obtain ⟨r', h1, h2, h3⟩ := h.mem z hz
    rw [hr] at h1; cases h1
    rw [if_pos rfl, if_pos (List.getElem?_eq_some_iff.1 hr).1]
    exact ⟨_, rfl, fun x => by rw [List.mem_append, h2, List.mem_singleton]; simp, by simp; omega⟩
  · rw [if_neg (by omega)]
    obtain ⟨r', h1, h2, h3⟩ := h.mem z hz
    exact ⟨r', h1, fun x => by rw [h2]; simp [hzy], by omega⟩
theorem Turned.congr {A : Adj} {B B' : Nat} {S S' : Int → Int → Prop} {rows : List (List Int)} (h : Turned A B S rows) (hB : B ≤ B') (hS : ∀ x y, Nod A y → (S x y ↔ S' x y)) : Turned A B' S' rows :=
  ⟨h.len, fun y hy => by
    obtain ⟨r, h1, h2, h3⟩ := h.mem y hy
    exact ⟨r, h1, fun x => (h2 x).trans (hS x y hy), by omega⟩⟩

abbrev wp39 : List Nat := [1, 1, 0, 1, 0, 0, 1, 1, 0, 0, 1, 1, 0]
theorem at39 : sub b39 wp39 = .rangeFunc (.tmp 16) #[17] (sub b39 (wp39 ++ [0])) (sub b39 (wp39 ++ [1])) := by kernel_rfl
abbrev bfr (adj : Sl (Sl Int)) (i : Int) : Nat → DV := fl [(0, .c (eSl adj)), (3, .pt 1 1 0), (4, .pt 2 1 0), (10, dInt (adj.l.length : Int)), (11, dInt i), (16, .fn 35 [] [.pt 3 1 0, .pt 4 1 0])]
abbrev bst (adj : Sl (Sl Int)) (i : Int) (rows : List (List Int)) : List Ob := [⟨1, rows.map apv⟩, ⟨1, [.ms 0 1 0 adj.l.length 1 true]⟩, ⟨1, [dInt i]⟩, ⟨1, [.c (eSl adj)]⟩, ⟨1, [dInt i]⟩]
theorem back_range (pd : List Ex) (adj : Sl (Sl Int)) (hs : adj.l.length ≤ 1000) (i : Nat) (hi : i < adj.l.length) (row : Sl Int) (hrow : adj.l[i]? = some row) (hrl : row.l.length ≤ 1000) (rows : List (List Int)) (hT : Turned adj.l (i * 1000) (fun x y => Arc adj.l x y ∧ x < i) rows) :
    ∃ rows', X.Go 39 30 [] (sub b39 wp39) ⟨bfr adj i, ⟨bst adj i rows, pd⟩⟩ .normal ⟨bfr adj i, ⟨bst adj i rows', pd ++ [.normal]⟩⟩ ∧ Turned adj.l ((i + 1) * 1000) (fun x y => Arc adj.l x y ∧ x < (i + 1 : Nat)) rows' := by
  obtain ⟨m', hruns, rows', hl, hm⟩ := arcs_range (adj := adj) (fr := (i : Int)) ⟨by omega, by omega⟩ (by simpa using hrow) (by omega) ((pd.length, rctx 39 30 (bfr adj i) #[17] (sub b39 (wp39 ++ [0])) (sub b39 (wp39 ++ [1]))) :: []) pd.length 3 1 4 1
    (fun k m => ∃ rows' : List (List Int), Turned adj.l (i * 1000 + k) (fun x y => (Arc adj.l x y ∧ x < i) ∨ (x = i ∧ y ∈ row.l.take k)) rows' ∧ m = ⟨bst adj i rows', pd ++ [Ex.normal]⟩)
    (by rintro k m ⟨_, _, rfl⟩; rfl)
    (by
      rintro k m y ⟨rows', hl, rfl⟩ hy hny
      have htk : row.l.take (k + 1) = row.l.take k ++ [y] := by rw [List.take_add_one, hy]; rfl
      have hk : k < row.l.length := (List.getElem?_eq_some_iff.1 hy).1
      have mk : ∀ {st st' : List Ob} {fr' : Nat → DV}, X.Go 39 30 [] (.seq (sub b39 (wp39 ++ [0])) (sub b39 (wp39 ++ [1]))) ⟨setPs (fun t => unflag (bfr adj i t)) [(17, dInt y)], ⟨st, pd ++ [.normal]⟩⟩ .normal ⟨fr', ⟨st', pd ++ [.normal]⟩⟩ →
          X.Round ((pd.length, rctx 39 30 (bfr adj i) #[17] (sub b39 (wp39 ++ [0])) (sub b39 (wp39 ++ [1]))) :: []) pd.length [dInt y] ⟨st, pd ++ [.normal]⟩ (dB true) ⟨st', pd ++ [.normal]⟩ := fun hgo => by
        have hrd := Sys.round1 (X := X) (Γ := []) (f := 39) (nt := 30) (ps := #[17]) (j := pd.length) (args := [dInt y]) (by simp) rfl (by simp) rfl (by kernel_rfl) hgo rfl
        rw [set_same (by simp)] at hrd
        exact hrd
      obtain ⟨r, hr, _, hrB⟩ := hl.mem y hny
      have hnew := (hl.add (i := (i : Int)) hny hr).congr (B' := i * 1000 + (k + 1)) (S' := fun x z => (Arc adj.l x z ∧ x < i) ∨ (x = i ∧ z ∈ row.l.take (k + 1))) (by omega) fun x z hz => by
        rw [htk, List.mem_append, List.mem_singleton]
        constructor
        · rintro ((h | ⟨h1, h2⟩) | ⟨h1, h2⟩)
          · exact .inl h
          · exact .inr ⟨h1, .inl h2⟩
          · exact .inr ⟨h1, .inr h2⟩
        · rintro (h | ⟨h1, h2 | h2⟩)
          · exact .inl (.inl h)
          · exact .inl (.inr ⟨h1, h2⟩)
          · exact .inr ⟨h1, h2⟩
      by_cases hr0 : r = []
      · subst hr0
        exact ⟨_, mk (backR_1 (pd ++ [Ex.normal]) adj i rows' (.fn 35 [] [.pt 3 1 0, .pt 4 1 0]) y [⟨1, [.c (eSl adj)]⟩, ⟨1, [dInt i]⟩] hny hr), _, hnew, rfl⟩
      · exact ⟨_, mk (backR_2 (pd ++ [Ex.normal]) adj i rows' (.fn 35 [] [.pt 3 1 0, .pt 4 1 0]) y [⟨1, [.c (eSl adj)]⟩, ⟨1, [dInt i]⟩] r hny hr hr0 (by simp; omega)), _, hnew, rfl⟩)
    (by
      rintro k m y ⟨rows', hl, rfl⟩ hy hny
      have htk : row.l.take (k + 1) = row.l.take k ++ [y] := by rw [List.take_add_one, hy]; rfl
      refine ⟨rows', hl.congr (by omega) fun x z hz => ?_, rfl⟩
      have hzy : z ≠ y := fun h => hny (h ▸ hz)
      rw [htk, List.mem_append, List.mem_singleton]
      simp [hzy])
    ⟨bst adj i rows, pd ++ [Ex.normal]⟩ ⟨rows, hT.congr (by omega) fun x z hz => by simp, rfl⟩ rfl
  subst hm
  refine ⟨rows', Sys.range1 at39 rfl (by kernel_rfl) hruns (by simp) (by kernel_rfl), hl.congr (by omega) fun x z hz => ?_⟩
  rw [List.take_length]
  constructor
  · rintro (⟨h1, h2⟩ | ⟨h1, h2⟩)
    · exact ⟨h1, by omega⟩
    · subst h1
      exact ⟨⟨by omega, ⟨row, by simpa using hrow, h2⟩, hz⟩, by omega⟩
  · rintro ⟨h1, h2⟩
    by_cases hxi : x = i
    · subst hxi
      obtain ⟨_, ⟨row', h3, h4⟩, _⟩ := h1
      rw [Int.toNat_natCast, hrow] at h3; cases h3
      exact .inr ⟨rfl, h4⟩
    · exact .inl ⟨h1, by omega⟩

/-- A graph turned round. -/
structure IsBack (A T : Adj) : Prop where
  len : T.length = A.length
  mem : ∀ y, Nod A y → ∃ r, T[y.toNat]? = some r ∧ (∀ x, x ∈ r.l ↔ Arc A x y) ∧ r.l.length ≤ 1000000
theorem back_runs (adj : Sl (Sl Int)) (hs : adj.l.length ≤ 1000) (hr : ∀ r ∈ adj.l, r.l.length ≤ 1000) : ∃ s : Sl (Sl Int), X.RunsC 39 [.c (eSl adj)] (.c (eSl s)) ∧ IsBack adj.l s.l := by
  obtain ⟨ex, s', hg, _, rows, k, pd, rfl, rfl, hT⟩ := Sys.loop_go (X := X) (f := 39) (nt := 30) (Γ := []) (a := sub b39 [1, 1, 0, 1, 0, 0]) (m := 2)
    (fun σ : Nat × List (List Int) × List Ex => ⟨fl [(0, .c (eSl adj)), (3, .pt 1 1 0), (10, dInt (adj.l.length : Int)), (11, dInt σ.1)], ⟨[⟨1, σ.2.1.map apv⟩, ⟨1, [.ms 0 1 0 adj.l.length 1 true]⟩], σ.2.2⟩⟩)
    (fun σ => σ.1 ≤ adj.l.length ∧ Turned adj.l (σ.1 * 1000) (fun x y => Arc adj.l x y ∧ x < σ.1) σ.2.1) (fun σ => adj.l.length - σ.1)
    (fun ex s' => ∃ (rows : List (List Int)) (k : Int) (pd : List Ex), ex = .exit 0 ∧ s' = ⟨fl [(0, .c (eSl adj)), (3, .pt 1 1 0), (10, dInt (adj.l.length : Int)), (11, dInt k), (12, dB false)], ⟨[⟨1, rows.map apv⟩, ⟨1, [.ms 0 1 0 adj.l.length 1 true]⟩], pd⟩⟩ ∧ Turned adj.l 1000000 (fun x y => Arc adj.l x y) rows)
    (by
      rintro ⟨i, rows, pd⟩ ⟨hi, hT⟩
      simp only at hi hT
      by_cases h1 : (i : Int) < (adj.l.length : Int)
      · obtain ⟨row, hrow⟩ := get_nat h1
        have hrow' : adj.l[i]? = some row := by simpa using hrow
        obtain ⟨rows', hgo, hT'⟩ := back_range (pd ++ []) adj hs i (by omega) row hrow' (hr row (List.mem_of_getElem? hrow')) rows hT
        exact .inl ⟨_, (i + 1, rows', _), backB_1 pd adj i rows _ rows' h1 (arcsM_1 adj i) hgo (by omega), backB_cut1 pd adj i rows _ rows', ⟨by simp only; omega, hT'⟩, by simp only; omega⟩
      · refine .inr ⟨_, _, backB_2 pd adj i rows h1, by simp, rows, i, pd, rfl, rfl, hT.congr (by omega) fun x y hy => ⟨fun h => h.1, fun h => ⟨h, ?_⟩⟩⟩
        have := h.src.2; omega)
    (0, List.replicate adj.l.length [], []) ⟨by simp, by simp, fun y hy => by
      have h1 := hy.1; have h2 := hy.2
      refine ⟨[], ?_, fun x => ?_, by simp⟩
      · simp only [List.getElem?_replicate]; rw [if_pos (by omega)]
      · simp only [List.not_mem_nil, false_iff]
        rintro ⟨h, hlt⟩
        have := h.src.1
        simp at hlt; omega⟩ rfl
  refine ⟨Sl.of true (rows.map apc), backM_1 adj rows k pd (by omega) hg hT.len, by simp [Sl.of, hT.len], fun y hy => ?_⟩
  obtain ⟨r, h1, h2, h3⟩ := hT.mem y hy
  exact ⟨apc r, by simp [Sl.of, h1], by rw [apc_l]; exact h2, by rw [apc_l]; exact h3⟩
end Go.Proofs.Ytclnpjnodmfkcaa
