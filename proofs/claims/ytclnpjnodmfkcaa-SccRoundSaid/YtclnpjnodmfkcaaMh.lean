/-
  Part of the proof: printed by the session's own program out of the program's form, or typed; it states no claim by itself.
-/
import Derived.Test.YtclnpjnodmfkcaaWg
import Derived.Test.YtclnpjnodmfkcaaMb
import Derived.Test.YtclnpjnodmfkcaaMa
import Derived.Test.YtclnpjnodmfkcaaPo
/-
  A graph with all arcs turned round; how far each node is.
-/
set_option linter.unusedVariables false
set_option linter.unusedSimpArgs false
set_option maxRecDepth 10000
namespace Go.Proofs.Ytclnpjnodmfkcaa
open Go Go.Abs Go.Proofs Go.Proofs.Scc

/-- Rows that hold, of each node, those that S names. -/
structure Turned (A : Adj) (B : Nat) (S : Int → Int → Prop) (rows : List (List Int)) : Prop where
  len : rows.length = A.length
  mem : ∀ y, Nod A y → ∃ r, rows[y.toNat]? = some r ∧ (∀ x, x ∈ r ↔ S x y) ∧ r.length ≤ B
theorem Turned.add {A : Adj} {B : Nat} {S : Int → Int → Prop} {rows : List (List Int)} (h : Turned A B S rows) {y i : Int} {r : List Int} (hy : Nod A y) (hr : rows[y.toNat]? = some r) : Turned A (B + 1) (fun x z => S x z ∨ (x = i ∧ z = y)) (rows.set y.toNat (r ++ [i])) := by
  refine ⟨by simp [h.len], fun z hz => ?_⟩
  have hy0 := hy.1; have hz0 := hz.1
  rw [List.getElem?_set]
  by_cases hzy : z = y
  · subst hzy
    obtain ⟨r', h1, h2, h3⟩ := h.mem z hz
    rw [hr] at h1; cases h1
    rw [if_pos rfl, if_pos (List.getElem?_eq_some_iff.1 hr).1]
    exact ⟨_, rfl, fun x => by rw [List.mem_append, h2, List.mem_singleton]; simp, by simp; omega⟩
  · rw [if_neg (by omega)]
    obtain ⟨r', h1, h2, h3⟩ := h.mem z hz
    exact ⟨r', h1, fun x => by rw [h2]; simp [hzy], by omega⟩
theorem Turned.congr {A : Adj} {B B' : Nat} {S S' : Int → Int → Prop} {rows : List (List Int)} (h : Turned A B S rows) (hB : B ≤ B') (hS : ∀ x y, Nod A y → (S x y ↔ S' x y)) : Turned A B' S' rows :=
  ⟨h.len, fun y hy => by
    obtain ⟨r, h1, h2, h3⟩ := h.mem y hy
    exact ⟨r, h1, fun x => (h2 x).trans (hS x y hy), by omega⟩⟩

abbrev wp39 : List Nat := [1, 1, 0, 1, 0, 0, 1, 1, 0, 0, 1, 1, 0]
theorem at39 : sub b39 wp39 = .rangeFunc (.tmp 16) #[17] (sub b39 (wp39 ++ [0])) (sub b39 (wp39 ++ [1])) := by kernel_rfl
abbrev bfr (adj : Sl (Sl Int)) (i : Int) : Nat → DV := fl [(0, .c (eSl adj)), (3, .pt 1 1 0), (4, .pt 2 1 0), (10, dInt (adj.l.length : Int)), (11, dInt i), (16, .fn 35 [] [.pt 3 1 0, .pt 4 1 0])]
abbrev bst (adj : Sl (Sl Int)) (i : Int) (rows : List (List Int)) : List Ob := [⟨1, rows.map apv⟩, ⟨1, [.ms 0 1 0 adj.l.length 1 true]⟩, ⟨1, [dInt i]⟩, ⟨1, [.c (eSl adj)]⟩, ⟨1, [dInt i]⟩]
theorem back_range (pd : List Ex) (adj : Sl (Sl Int)) (hs : adj.l.length ≤ 1000) (i : Nat) (hi : i < adj.l.length) (row : Sl Int) (hrow : adj.l[i]? = some row) (hrl : row.l.length ≤ 1000) (rows : List (List Int)) (hT : Turned adj.l (i * 1000) (fun x y => Arc adj.l x y ∧ x < i) rows) :
    ∃ rows', X.Go 39 30 [] (sub b39 wp39) ⟨bfr adj i, ⟨bst adj i rows, pd⟩⟩ .normal ⟨bfr adj i, ⟨bst adj i rows', pd ++ [.normal]⟩⟩ ∧ Turned adj.l ((i + 1) * 1000) (fun x y => Arc adj.l x y ∧ x < (i + 1 : Nat)) rows' := by
  obtain ⟨m', hruns, rows', hl, hm⟩ := arcs_range (adj := adj) (fr := (i : Int)) ⟨by omega, by omega⟩ (by simpa using hrow) (by omega) ((pd.length, rctx 39 30 (bfr adj i) #[17] (sub b39 (wp39 ++ [0])) (sub b39 (wp39 ++ [1]))) :: []) pd.length 3 1 4 1
    (fun k m => ∃ rows' : List (List Int), Turned adj.l (i * 1000 + k) (fun x y => (Arc adj.l x y ∧ x < i) ∨ (x = i ∧ y ∈ row.l.take k)) rows' ∧ m = ⟨bst adj i rows', pd ++ [Ex.normal]⟩)
    (by rintro k m ⟨_, _, rfl⟩; rfl)
    (by
      rintro k m y ⟨rows', hl, rfl⟩ hy hny
      have htk : row.l.take (k + 1) = row.l.take k ++ [y] := by rw [List.take_add_one, hy]; rfl
      have hk : k < row.l.length := (List.getElem?_eq_some_iff.1 hy).1
      have mk : ∀ {st st' : List Ob} {fr' : Nat → DV}, X.Go 39 30 [] (.seq (sub b39 (wp39 ++ [0])) (sub b39 (wp39 ++ [1]))) ⟨setPs (fun t => unflag (bfr adj i t)) [(17, dInt y)], ⟨st, pd ++ [.normal]⟩⟩ .normal ⟨fr', ⟨st', pd ++ [.normal]⟩⟩ →
          X.Round ((pd.length, rctx 39 30 (bfr adj i) #[17] (sub b39 (wp39 ++ [0])) (sub b39 (wp39 ++ [1]))) :: []) pd.length [dInt y] ⟨st, pd ++ [.normal]⟩ (dB true) ⟨st', pd ++ [.normal]⟩ := fun hgo => by
        have hrd := Sys.round1 (X := X) (Γ := []) (f := 39) (nt := 30) (ps := #[17]) (j := pd.length) (args := [dInt y]) (by simp) rfl (by simp) rfl (by kernel_rfl) hgo rfl
        rw [set_same (by simp)] at hrd
        exact hrd
      obtain ⟨r, hr, _, hrB⟩ := hl.mem y hny
      have hnew := (hl.add (i := (i : Int)) hny hr).congr (B' := i * 1000 + (k + 1)) (S' := fun x z => (Arc adj.l x z ∧ x < i) ∨ (x = i ∧ z ∈ row.l.take (k + 1))) (by omega) fun x z hz => by
        rw [htk, List.mem_append, List.mem_singleton]
        constructor
        · rintro ((h | ⟨h1, h2⟩) | ⟨h1, h2⟩)
          · exact .inl h
          · exact .inr ⟨h1, .inl h2⟩
          · exact .inr ⟨h1, .inr h2⟩
        · rintro (h | ⟨h1, h2 | h2⟩)
          · exact .inl (.inl h)
          · exact .inl (.inr ⟨h1, h2⟩)
          · exact .inr ⟨h1, h2⟩
      by_cases hr0 : r = []
      · subst hr0
        exact ⟨_, mk (backR_1 (pd ++ [Ex.normal]) adj i rows' (.fn 35 [] [.pt 3 1 0, .pt 4 1 0]) y [⟨1, [.c (eSl adj)]⟩, ⟨1, [dInt i]⟩] hny hr), _, hnew, rfl⟩
      · exact ⟨_, mk (backR_2 (pd ++ [Ex.normal]) adj i rows' (.fn 35 [] [.pt 3 1 0, .pt 4 1 0]) y [⟨1, [.c (eSl adj)]⟩, ⟨1, [dInt i]⟩] r hny hr hr0 (by simp; omega)), _, hnew, rfl⟩)
    (by
      rintro k m y ⟨rows', hl, rfl⟩ hy hny
      have htk : row.l.take (k + 1) = row.l.take k ++ [y] := by rw [List.take_add_one, hy]; rfl
      refine ⟨rows', hl.congr (by omega) fun x z hz => ?_, rfl⟩
      have hzy : z ≠ y := fun h => hny (h ▸ hz)
      rw [htk, List.mem_append, List.mem_singleton]
      simp [hzy])
    ⟨bst adj i rows, pd ++ [Ex.normal]⟩ ⟨rows, hT.congr (by omega) fun x z hz => by simp, rfl⟩ rfl
  subst hm
  refine ⟨rows', Sys.range1 at39 rfl (by kernel_rfl) hruns (by simp) (by kernel_rfl), hl.congr (by omega) fun x z hz => ?_⟩
  rw [List.take_length]
  constructor
  · rintro (⟨h1, h2⟩ | ⟨h1, h2⟩)
    · exact ⟨h1, by omega⟩
    · subst h1
      exact ⟨⟨by omega, ⟨row, by simpa using hrow, h2⟩, hz⟩, by omega⟩
  · rintro ⟨h1, h2⟩
    by_cases hxi : x = i
    · subst hxi
      obtain ⟨_, ⟨row', h3, h4⟩, _⟩ := h1
      rw [Int.toNat_natCast, hrow] at h3; cases h3
      exact .inr ⟨rfl, h4⟩
    · exact .inl ⟨h1, by omega⟩

/-- A graph turned round. -/
structure IsBack (A T : Adj) : Prop where
  len : T.length = A.length
  mem : ∀ y, Nod A y → ∃ r, T[y.toNat]? = some r ∧ (∀ x, x ∈ r.l ↔ Arc A x y) ∧ r.l.length ≤ 1000000
theorem back_runs (adj : Sl (Sl Int)) (hs : adj.l.length ≤ 1000) (hr : ∀ r ∈ adj.l, r.l.length ≤ 1000) : ∃ s : Sl (Sl Int), X.RunsC 39 [.c (eSl adj)] (.c (eSl s)) ∧ IsBack adj.l s.l := by
  obtain ⟨ex, s', hg, _, rows, k, pd, rfl, rfl, hT⟩ := Sys.loop_go (X := X) (f := 39) (nt := 30) (Γ := []) (a := sub b39 [1, 1, 0, 1, 0, 0]) (m := 2)
    (fun σ : Nat × List (List Int) × List Ex => ⟨fl [(0, .c (eSl adj)), (3, .pt 1 1 0), (10, dInt (adj.l.length : Int)), (11, dInt σ.1)], ⟨[⟨1, σ.2.1.map apv⟩, ⟨1, [.ms 0 1 0 adj.l.length 1 true]⟩], σ.2.2⟩⟩)
    (fun σ => σ.1 ≤ adj.l.length ∧ Turned adj.l (σ.1 * 1000) (fun x y => Arc adj.l x y ∧ x < σ.1) σ.2.1) (fun σ => adj.l.length - σ.1)
    (fun ex s' => ∃ (rows : List (List Int)) (k : Int) (pd : List Ex), ex = .exit 0 ∧ s' = ⟨fl [(0, .c (eSl adj)), (3, .pt 1 1 0), (10, dInt (adj.l.length : Int)), (11, dInt k), (12, dB false)], ⟨[⟨1, rows.map apv⟩, ⟨1, [.ms 0 1 0 adj.l.length 1 true]⟩], pd⟩⟩ ∧ Turned adj.l 1000000 (fun x y => Arc adj.l x y) rows)
    (by
      rintro ⟨i, rows, pd⟩ ⟨hi, hT⟩
      simp only at hi hT
      by_cases h1 : (i : Int) < (adj.l.length : Int)
      · obtain ⟨row, hrow⟩ := get_nat h1
        have hrow' : adj.l[i]? = some row := by simpa using hrow
        obtain ⟨rows', hgo, hT'⟩ := back_range (pd ++ []) adj hs i (by omega) row hrow' (hr row (List.mem_of_getElem? hrow')) rows hT
        exact .inl ⟨_, (i + 1, rows', _), backB_1 pd adj i rows _ rows' h1 (arcsM_1 adj i) hgo (by omega), backB_cut1 pd adj i rows _ rows', ⟨by simp only; omega, hT'⟩, by simp only; omega⟩
      · refine .inr ⟨_, _, backB_2 pd adj i rows h1, by simp, rows, i, pd, rfl, rfl, hT.congr (by omega) fun x y hy => ⟨fun h => h.1, fun h => ⟨h, ?_⟩⟩⟩
        have := h.src.2; omega)
    (0, List.replicate adj.l.length [], []) ⟨by simp, by simp, fun y hy => by
      have h1 := hy.1; have h2 := hy.2
      refine ⟨[], ?_, fun x => ?_, by simp⟩
      · simp only [List.getElem?_replicate]; rw [if_pos (by omega)]
      · simp only [List.not_mem_nil, false_iff]
        rintro ⟨h, hlt⟩
        have := h.src.1
        simp at hlt; omega⟩ rfl
  refine ⟨Sl.of true (rows.map apc), backM_1 adj rows k pd (by omega) hg hT.len, by simp [Sl.of, hT.len], fun y hy => ?_⟩
  obtain ⟨r, h1, h2, h3⟩ := hT.mem y hy
  exact ⟨apc r, by simp [Sl.of, h1], by rw [apc_l]; exact h2, by rw [apc_l]; exact h3⟩
end Go.Proofs.Ytclnpjnodmfkcaa

/-
  How far each node is.
-/
set_option linter.unusedVariables false
set_option linter.unusedSimpArgs false
set_option maxRecDepth 10000
namespace Go.Proofs.Ytclnpjnodmfkcaa
open Go Go.Abs Go.Proofs Go.Proofs.Scc

abbrev wp26 : List Nat := [1, 1, 1, 1, 0, 1, 0, 0, 1, 0, 0, 1, 0]
theorem at26 : sub b26 wp26 = .rangeFunc (.tmp 29) #[30] (sub b26 (wp26 ++ [0])) (sub b26 (wp26 ++ [1])) := by kernel_rfl
abbrev ffr (tn : Sl (Sl Int)) (w : Nat) : Nat → DV := fl [(5, .pt 0 1 0), (6, .c (eSl tn)), (7, .pt 3 w 0), (29, .fn 35 [] [.pt 4 1 0, .pt 5 1 0])]
abbrev fst26 (N : Nat) (d pre todo : List Int) (v w : Nat) (x : Bool) (tl : List Ob) : List Ob :=
  ⟨1, [.ms 1 1 0 N 1 true]⟩ :: ⟨1, dcells d⟩ :: ⟨v, dcells (pre ++ todo)⟩ :: ⟨w, [.ms 2 v pre.length todo.length 1 x]⟩ :: tl
theorem far_range (pd : List Ex) (adj tn : Sl (Sl Int)) (to : Int) (hs : adj.l.length ≤ 1000) (hT : IsBack adj.l tn.l) (d pre rest P : List Int) (h : Int) (v w : Nat) (x : Bool) (hB : Bfs adj.l to d P (h :: rest)) :
    ∃ d' pre' rest' v' x', X.Go 26 52 [] (sub b26 wp26) ⟨ffr tn w, ⟨fst26 adj.l.length d pre (h :: rest) v w x [⟨1, [.c (eSl tn)]⟩, ⟨1, [dInt h]⟩], pd⟩⟩ .normal ⟨ffr tn w, ⟨fst26 adj.l.length d' pre' (h :: rest') v' w x' [⟨1, [.c (eSl tn)]⟩, ⟨1, [dInt h]⟩], pd ++ [.normal]⟩⟩ ∧
      Bfs adj.l to d' P (h :: rest') ∧ ∀ y, Arc adj.l y h → y ∈ P ++ h :: rest' := by
  have hh : Nod adj.l h := hB.nod h (by simp)
  have hnod : ∀ y, Nod tn.l y ↔ Nod adj.l y := fun y => by unfold Nod; rw [hT.len]
  obtain ⟨r, hr, hrm, hrl⟩ := hT.mem h hh
  obtain ⟨m', hruns, d', pre', rest', v', x', rfl, hB', hall⟩ := arcs_range (adj := tn) (fr := h) ((hnod h).2 hh) hr hrl ((pd.length, rctx 26 52 (ffr tn w) #[30] (sub b26 (wp26 ++ [0])) (sub b26 (wp26 ++ [1]))) :: []) pd.length 4 1 5 1
    (fun k m => ∃ d' pre' rest' v' x', m = ⟨fst26 adj.l.length d' pre' (h :: rest') v' w x' [⟨1, [.c (eSl tn)]⟩, ⟨1, [dInt h]⟩], pd ++ [Ex.normal]⟩ ∧ Bfs adj.l to d' P (h :: rest') ∧ ∀ y ∈ r.l.take k, y ∈ P ++ h :: rest')
    (by rintro k m ⟨_, _, _, _, _, rfl, _⟩; rfl)
    (by
      rintro k m y ⟨d', pre', rest', v', x', rfl, hB', hall⟩ hy hny
      have htk : r.l.take (k + 1) = r.l.take k ++ [y] := by rw [List.take_add_one, hy]; rfl
      have hym : y ∈ r.l := List.mem_of_getElem? hy
      have hya := (hrm y).1 hym
      have mk : ∀ {st st' : List Ob} {fr' : Nat → DV}, X.Go 26 52 [] (.seq (sub b26 (wp26 ++ [0])) (sub b26 (wp26 ++ [1]))) ⟨setPs (fun t => unflag (ffr tn w t)) [(30, dInt y)], ⟨st, pd ++ [.normal]⟩⟩ .normal ⟨fr', ⟨st', pd ++ [.normal]⟩⟩ →
          X.Round ((pd.length, rctx 26 52 (ffr tn w) #[30] (sub b26 (wp26 ++ [0])) (sub b26 (wp26 ++ [1]))) :: []) pd.length [dInt y] ⟨st, pd ++ [.normal]⟩ (dB true) ⟨st', pd ++ [.normal]⟩ := fun hgo => by
        have hrd := Sys.round1 (X := X) (Γ := []) (f := 26) (nt := 52) (ps := #[30]) (j := pd.length) (args := [dInt y]) (by simp) rfl (by simp) rfl (by kernel_rfl) hgo rfl
        rw [set_same (by simp)] at hrd
        exact hrd
      have hyA := (hnod y).1 hny
      obtain ⟨u, hu⟩ := get_int (l := d') (i := y) (by rw [hB'.len]; exact hyA)
      by_cases hneg : u < 0
      · obtain ⟨vh, hvh⟩ := get_int (l := d') (i := h) (by rw [hB'.len]; exact hh)
        rcases hB'.mem h hh vh hvh with ⟨_, hno⟩ | ⟨_, D, rfl, hD⟩
        · exact absurd (by simp) hno
        · have hadd := hB'.add hD hya hu hneg
          have hle := nodes_le hadd.nodup hadd.nod
          have hDl := hD.lt
          refine ⟨_, mk (farR_1 (pd ++ [Ex.normal]) adj tn d' pre' (h :: rest') v' w x' (.fn 35 [] [.pt 4 1 0, .pt 5 1 0]) y [⟨1, [.c (eSl tn)]⟩, ⟨1, [dInt h]⟩] u h D hyA hu hneg (by simp only [List.length_cons]; omega) rfl hh hvh (by omega) (by rw [hB'.len]; exact hyA) (by simp at hle ⊢; omega)), d'.set y.toNat ((D : Int) + 1), [], rest' ++ [y], v' + 1, false, rfl, hadd, fun z hz => ?_⟩
          have e : P ++ h :: (rest' ++ [y]) = (P ++ h :: rest') ++ [y] := by simp
          rw [htk] at hz
          rw [e]
          rcases List.mem_append.1 hz with hz | hz
          · exact List.mem_append_left _ (hall z hz)
          · exact List.mem_append_right _ hz
      · refine ⟨_, mk (farR_2 (pd ++ [Ex.normal]) adj tn d' pre' (h :: rest') v' w x' (.fn 35 [] [.pt 4 1 0, .pt 5 1 0]) y [⟨1, [.c (eSl tn)]⟩, ⟨1, [dInt h]⟩] u hyA hu hneg), d', pre', rest', v', x', rfl, hB', fun z hz => ?_⟩
        rw [htk] at hz
        rcases List.mem_append.1 hz with hz | hz
        · exact hall z hz
        · rw [List.mem_singleton] at hz
          subst hz
          rcases hB'.mem z hyA u hu with ⟨h1, _⟩ | ⟨h1, _⟩
          · omega
          · exact h1)
    (by
      rintro k m y ⟨d', pre', rest', v', x', rfl, hB', hall⟩ hy hny
      exact absurd ((hnod y).2 ((hrm y).1 (List.mem_of_getElem? hy)).src) hny)
    ⟨fst26 adj.l.length d pre (h :: rest) v w x [⟨1, [.c (eSl tn)]⟩, ⟨1, [dInt h]⟩], pd ++ [Ex.normal]⟩ ⟨d, pre, rest, v, x, rfl, hB, by simp⟩ rfl
  rw [List.take_length] at hall
  exact ⟨d', pre', rest', v', x', Sys.range1 at26 rfl (by kernel_rfl) hruns (by simp) (by kernel_rfl), hB', fun y hy => hall y ((hrm y).2 hy)⟩

structure FS where
  d : List Int
  P : List Int
  pre : List Int
  todo : List Int
  v : Nat
  w : Nat
  x : Bool
  pd : List Ex
theorem far_runs (adj : Sl (Sl Int)) (to : Int) (ht : Nod adj.l to) (hs : adj.l.length ≤ 40) (hr : ∀ r ∈ adj.l, r.l.length ≤ 1000) :
    ∃ d : Sl Int, X.RunsC 26 [.c (eSl adj), dInt to] (.c (eSl d)) ∧ IsDist adj.l to d.l := by
  obtain ⟨tn, hback, hT⟩ := back_runs adj (by omega) hr
  have hnod : ∀ y, Nod tn.l y ↔ Nod adj.l y := fun y => by unfold Nod; rw [hT.len]
  obtain ⟨ex, s', hg, _, d, pre, todo, v, w, x, pd, rfl, rfl, hd⟩ := Sys.loop_go (X := X) (f := 26) (nt := 52) (Γ := []) (a := sub b26 [1, 1, 1, 1, 0, 1, 0, 0]) (m := 4)
    (fun σ : FS => ⟨fl [(5, .pt 0 1 0), (6, .c (eSl tn)), (7, .pt 3 σ.w 0)], ⟨fst26 adj.l.length σ.d σ.pre σ.todo σ.v σ.w σ.x [], σ.pd⟩⟩)
    (fun σ => Bfs adj.l to σ.d σ.P σ.todo) (fun σ => adj.l.length - σ.P.length)
    (fun ex s' => ∃ (d pre todo : List Int) (v w : Nat) (x : Bool) (pd : List Ex), ex = .exit 0 ∧ s' = ⟨fl [(5, .pt 0 1 0), (6, .c (eSl tn)), (7, .pt 3 w 0), (22, dB false)], ⟨fst26 adj.l.length d pre todo v w x [], pd⟩⟩ ∧ IsDist adj.l to d)
    (by
      rintro ⟨d, P, pre, todo, v, w, x, pd⟩ hB
      simp only at hB
      cases todo with
      | nil => exact .inr ⟨_, _, farB_2 pd adj tn d pre [] v w x (by simp), by simp, d, pre, [], v, w, x, pd, rfl, rfl, hB.done⟩
      | cons h rest =>
        obtain ⟨d', pre', rest', v', x', hgo, hB', hall⟩ := far_range (pd ++ []) adj tn to (by omega) hT d pre rest P h v w x hB
        have hpop := hB'.pop hall
        have hle := nodes_le hB.nodup hB.nod
        have e1 : pre' ++ h :: rest' = (pre' ++ [h]) ++ rest' := by simp
        have e2 : pre'.length + 1 * 1 = (pre' ++ [h]).length := by simp
        refine .inl ⟨_, ⟨d', P ++ [h], pre' ++ [h], rest', v', w + 1, _, _⟩, farB_1 pd adj tn d pre (h :: rest) v w x h _ d' v' x' pre' (h :: rest') (by simp only [List.length_cons]; omega) (by simp only [List.length_cons]; omega) rfl (arcsM_1 tn h) hgo (by simp only [List.length_cons]; omega), (farB_cut1 pd adj tn d pre (h :: rest) v w x h _ d' v' x' pre' (h :: rest')).trans (by rw [e1, e2]; rfl), hpop, ?_⟩
        simp at hle ⊢; omega)
    ⟨(List.replicate adj.l.length (-1)).set to.toNat 0, [], [], [to], 1, 1, true, []⟩ (Bfs.begin ht) rfl
  have hto := ht
  have hlen : (List.replicate adj.l.length (-1 : Int)).length = adj.l.length := by simp
  have hK := farK_1 adj to (List.replicate adj.l.length (-1)) tn d v w x pre todo pd hto (by rw [hlen]; exact hto) hback hg
  have hJ := farJ_1 adj to (rep_runs hs)
  rw [shiftL_dcells] at hJ
  have hgo := Sys.seq (farI_1 adj to) (Sys.seq hJ hK)
  have call := Sys.call (X := X) (f := 26) (fn := Try.f26) (Γ := []) (c := b26) (args := [.c (eSl adj), dInt to]) (m := ⟨[], []⟩) (d := .ms 1 1 0 adj.l.length 1 true) hgo (by kernel_rfl) (by kernel_rfl) rfl (by kernel_rfl) rfl
  have hdl : d.length = adj.l.length := hd.len
  exact ⟨Sl.of true d, Sys.callC call (closeTop_msn (o := ⟨1, dcells d⟩) (r := []) hdl (getO_of rfl rfl) (List.append_nil _).symm rfl), hd⟩
end Go.Proofs.Ytclnpjnodmfkcaa

/-
  The shortest way.
-/
set_option linter.unusedVariables false
set_option linter.unusedSimpArgs false
set_option maxRecDepth 10000
namespace Go.Proofs.Ytclnpjnodmfkcaa
open Go Go.Abs Go.Proofs Go.Proofs.Scc

abbrev wp14 : List Nat := [1, 1, 1, 1, 1, 0, 1, 0, 0, 1, 0, 0, 1, 0, 1, 0]
theorem at14 : sub b14 wp14 = .rangeFunc (.tmp 41) #[42] (sub b14 (wp14 ++ [0])) (sub b14 (wp14 ++ [1])) := by kernel_rfl
abbrev pfr (adj : Sl (Sl Int)) (to : Int) (o9 : DV) (v : Nat) : Nat → DV := fl [(0, .c (eSl adj)), (2, dInt to), (8, .pt 0 1 0), (9, o9), (10, .pt 1 v 0), (11, .pt 2 1 0), (41, .fn 35 [] [.pt 3 1 0, .pt 4 1 0])]
abbrev pst14 (adj : Sl (Sl Int)) (d : Sl Int) (v : Nat) (a nx : Int) : List Ob := [⟨1, [.c (eSl d)]⟩, ⟨v, [dInt a]⟩, ⟨1, [dInt nx]⟩, ⟨1, [.c (eSl adj)]⟩, ⟨1, [dInt a]⟩]
theorem path_range (pd : List Ex) (adj : Sl (Sl Int)) (d : Sl Int) (to a : Int) (v : Nat) (o9 : DV) (n : Nat) (hn : n ≤ 1000000) (ha : Nod adj.l a) (hd : d.l.length = adj.l.length) (hda : d.l[a.toNat]? = some (n : Int)) (row : Sl Int) (hrow : adj.l[a.toNat]? = some row) (hrl : row.l.length ≤ 1000000) :
    X.Go 14 70 [] (sub b14 wp14) ⟨pfr adj to o9 v, ⟨pst14 adj d v a (-1), pd⟩⟩ .normal ⟨pfr adj to o9 v, ⟨pst14 adj d v a (row.l.foldl (stepP (nearP d.l n)) (-1)), pd ++ [.normal]⟩⟩ := by
  obtain ⟨m', hruns, rfl⟩ := arcs_range (adj := adj) (fr := a) ha hrow hrl ((pd.length, rctx 14 70 (pfr adj to o9 v) #[42] (sub b14 (wp14 ++ [0])) (sub b14 (wp14 ++ [1]))) :: []) pd.length 3 1 4 1
    (fun k m => m = ⟨pst14 adj d v a ((row.l.take k).foldl (stepP (nearP d.l n)) (-1)), pd ++ [Ex.normal]⟩)
    (by rintro k m rfl; rfl)
    (by
      rintro k m y rfl hy hny
      have htk : (row.l.take (k + 1)).foldl (stepP (nearP d.l n)) (-1) = stepP (nearP d.l n) ((row.l.take k).foldl (stepP (nearP d.l n)) (-1)) y := by
        rw [List.take_add_one, hy, List.foldl_append]; rfl
      generalize (row.l.take k).foldl (stepP (nearP d.l n)) (-1) = b at htk
      have mk : ∀ {st st' : List Ob} {fr' : Nat → DV}, X.Go 14 70 [] (.seq (sub b14 (wp14 ++ [0])) (sub b14 (wp14 ++ [1]))) ⟨setPs (fun t => unflag (pfr adj to o9 v t)) [(42, dInt y)], ⟨st, pd ++ [.normal]⟩⟩ .normal ⟨fr', ⟨st', pd ++ [.normal]⟩⟩ →
          X.Round ((pd.length, rctx 14 70 (pfr adj to o9 v) #[42] (sub b14 (wp14 ++ [0])) (sub b14 (wp14 ++ [1]))) :: []) pd.length [dInt y] ⟨st, pd ++ [.normal]⟩ (dB true) ⟨st', pd ++ [.normal]⟩ := fun hgo => by
        have hrd := Sys.round1 (X := X) (Γ := []) (f := 14) (nt := 70) (ps := #[42]) (j := pd.length) (args := [dInt y]) (by simp) rfl (by simp) rfl (by kernel_rfl) hgo rfl
        rw [set_same (by simp)] at hrd
        exact hrd
      obtain ⟨u, hu⟩ := get_int (l := d.l) (i := y) (by rw [hd]; exact hny)
      have hyd : 0 ≤ y ∧ y < (d.l.length : Int) := by rw [hd]; exact hny
      have had : 0 ≤ a ∧ a < (d.l.length : Int) := by rw [hd]; exact ha
      by_cases h6 : u = (n : Int) - 1
      · have hp : nearP d.l n y = true := nearP_iff.2 ⟨hny.1, by rw [hu, h6]⟩
        by_cases h7 : b < 0
        · exact ⟨_, mk (pathR_1 (pd ++ [Ex.normal]) adj d to a b v o9 (.fn 35 [] [.pt 3 1 0, .pt 4 1 0]) y [⟨1, [.c (eSl adj)]⟩, ⟨1, [dInt a]⟩] u n hyd hu had hda (by omega) h6 h7), by rw [htk, stepP, if_pos ⟨hp, .inl h7⟩]⟩
        · by_cases h8 : y < b
          · exact ⟨_, mk (pathR_2 (pd ++ [Ex.normal]) adj d to a b v o9 (.fn 35 [] [.pt 3 1 0, .pt 4 1 0]) y [⟨1, [.c (eSl adj)]⟩, ⟨1, [dInt a]⟩] u n hyd hu had hda (by omega) h6 h7 h8), by rw [htk, stepP, if_pos ⟨hp, .inr h8⟩]⟩
          · exact ⟨_, mk (pathR_3 (pd ++ [Ex.normal]) adj d to a b v o9 (.fn 35 [] [.pt 3 1 0, .pt 4 1 0]) y [⟨1, [.c (eSl adj)]⟩, ⟨1, [dInt a]⟩] u n hyd hu had hda (by omega) h6 h7 h8), by rw [htk, stepP, if_neg (fun h => h.2.elim h7 h8)]⟩
      · have hp : ¬ nearP d.l n y = true := fun h => by
          have := (nearP_iff.1 h).2
          rw [hu] at this; cases this; exact h6 rfl
        exact ⟨_, mk (pathR_4 (pd ++ [Ex.normal]) adj d to a b v o9 (.fn 35 [] [.pt 3 1 0, .pt 4 1 0]) y [⟨1, [.c (eSl adj)]⟩, ⟨1, [dInt a]⟩] u n hyd hu had hda (by omega) h6), by rw [htk, stepP, if_neg (fun h => hp h.1)]⟩)
    (by
      rintro k m y rfl hy hny
      have htk : (row.l.take (k + 1)).foldl (stepP (nearP d.l n)) (-1) = stepP (nearP d.l n) ((row.l.take k).foldl (stepP (nearP d.l n)) (-1)) y := by
        rw [List.take_add_one, hy, List.foldl_append]; rfl
      have hp : ¬ nearP d.l n y = true := fun h => by
        have := (List.getElem?_eq_some_iff.1 (nearP_iff.1 h).2).1
        exact hny ⟨(nearP_iff.1 h).1, by have := (nearP_iff.1 h).1; omega⟩
      rw [htk]
      unfold stepP
      rw [if_neg (fun h => hp h.1)])
    ⟨pst14 adj d v a (-1), pd ++ [Ex.normal]⟩ rfl rfl
  rw [List.take_length] at hruns
  exact Sys.range1 at14 rfl (by kernel_rfl) hruns (by simp) (by kernel_rfl)

theorem path_runs (adj : Sl (Sl Int)) (fr to : Int) (hs : adj.l.length ≤ 40) (hr : ∀ r ∈ adj.l, r.l.length ≤ 1000) :
    ∃ (s : Sl Int) (b : Bool), X.RunsC 14 [.c (eSl adj), dInt fr, dInt to] (.tup [.c (eSl s), dB b]) ∧ PathIs adj.l fr to s.l b := by
  by_cases h1 : (if to < fr then to else fr) < 0
  · refine ⟨Sl.nil, false, pathM_1 adj fr to h1, .inl ⟨rfl, rfl, fun h => ?_⟩⟩
    have := h.1.1; have := h.2.1.1
    split at h1 <;> omega
  by_cases h2 : (if to > fr then to else fr) ≥ (adj.l.length : Int)
  · refine ⟨Sl.nil, false, pathM_2 adj fr to h1 h2, .inl ⟨rfl, rfl, fun h => ?_⟩⟩
    have := h.1.2; have := h.2.1.2
    split at h2 <;> omega
  have hfr : Nod adj.l fr := by constructor <;> (split at h1 <;> split at h2 <;> omega)
  have hto : Nod adj.l to := by constructor <;> (split at h1 <;> split at h2 <;> omega)
  obtain ⟨d, hfar, hd⟩ := far_runs adj to hto hs hr
  have hfd : 0 ≤ fr ∧ fr < (d.l.length : Int) := by rw [hd.len]; exact hfr
  obtain ⟨w, hw⟩ := get_int hfd
  by_cases h8 : w < 0
  · refine ⟨Sl.nil, false, pathM_3 adj fr to d w h1 h2 hfar hfd hw h8, .inl ⟨rfl, rfl, fun h => ?_⟩⟩
    obtain ⟨n, hn⟩ := h.2.2
    rcases hd.val fr hfr w hw with ⟨_, hno⟩ | ⟨k, hk, _⟩
    · exact hno n hn.1
    · omega
  rcases hd.val fr hfr w hw with ⟨hk, _⟩ | ⟨N, rfl, hN⟩
  · omega
  have hNl := hN.lt
  obtain ⟨ex, s', hg, _, o9, l, a, v, pd, rfl, rfl, hG, hl⟩ := Sys.loop_go (X := X) (f := 14) (nt := 70) (Γ := []) (a := sub b14 [1, 1, 1, 1, 1, 0, 1, 0, 0]) (m := 2)
    (fun σ : Nat × Int × DV × List Int × Nat × List Ex => ⟨fl [(0, .c (eSl adj)), (2, dInt to), (8, .pt 0 1 0), (9, σ.2.2.1), (10, .pt 1 σ.2.2.2.2.1 0)], ⟨[⟨1, [.c (eSl d)]⟩, ⟨σ.2.2.2.2.1, [dInt σ.2.1]⟩], σ.2.2.2.2.2⟩⟩)
    (fun σ => Grown σ.2.2.1 σ.2.2.2.1 ∧ Dist adj.l to σ.1 σ.2.1 ∧ σ.2.2.2.1 ++ pathL adj.l d.l σ.1 σ.2.1 = fr :: pathL adj.l d.l N fr) (fun σ => σ.1)
    (fun ex s' => ∃ (o9 : DV) (l : List Int) (a : Int) (v : Nat) (pd : List Ex), ex = .exit 0 ∧ s' = ⟨fl [(0, .c (eSl adj)), (2, dInt to), (8, .pt 0 1 0), (9, o9), (10, .pt 1 v 0), (38, dB false)], ⟨[⟨1, [.c (eSl d)]⟩, ⟨v, [dInt a]⟩], pd⟩⟩ ∧ Grown o9 l ∧ l = fr :: pathL adj.l d.l N fr)
    (by
      rintro ⟨n, a, o9, l, v, pd⟩ ⟨hG, hda, hl⟩
      simp only at hG hda hl
      cases n with
      | zero =>
        have hat := hda.eq_to
        have hl' : l = fr :: pathL adj.l d.l N fr := by simpa [pathL] using hl
        cases hG with
        | one x => exact .inr ⟨_, _, pathBk_2 pd adj d to a v x (by omega), by simp, _, _, a, v, pd, rfl, rfl, .one x, hl'⟩
        | more l => exact .inr ⟨_, _, pathBa_2 pd adj d to a v l (by omega), by simp, _, _, a, v, pd, rfl, rfl, .more l, hl'⟩
      | succ n =>
        have ha := hda.nod
        have hat : a ≠ to := fun h => by
          have h0 : Dist adj.l to 0 a := by rw [h]; exact Dist.zero hto
          have := hda.uniq h0; omega
        obtain ⟨row, hrow⟩ := get_int (l := adj.l) (i := a) ha
        have hrl := hr row (List.mem_of_getElem? hrow)
        have hdl := hda.lt
        have hnx : nxt adj.l d.l a (n + 1 : Nat) = row.l.foldl (stepP (nearP d.l (n + 1 : Nat))) (-1) := by simp only [nxt, hrow]
        have hnext := nxt_ok hd hda
        have hlen : l.length + (n + 1) = N + 1 := by
          have := congrArg List.length hl
          simpa [pathL_length] using this
        have hgo := path_range (pd ++ []) adj d to a v o9 (n + 1) (by omega) ha hd.len (hd.get hda) row hrow (by omega)
        rw [← hnx] at hgo
        have hl2 : (l ++ [nxt adj.l d.l a (n + 1 : Nat)]) ++ pathL adj.l d.l n (nxt adj.l d.l a (n + 1 : Nat)) = fr :: pathL adj.l d.l N fr := by
          rw [List.append_assoc]; exact hl
        cases hG with
        | one x =>
          exact .inl ⟨_, (n, nxt adj.l d.l a (n + 1 : Nat), _, _, v + 1, _), pathBk_1 pd adj d to a v x _ _ hat (arcsM_1 adj a) hgo, pathBk_cut1 pd adj d to a v x _ _, ⟨.more ([x] ++ [nxt adj.l d.l a (n + 1 : Nat)]), hnext, hl2⟩, by simp⟩
        | more l =>
          exact .inl ⟨_, (n, nxt adj.l d.l a (n + 1 : Nat), _, _, v + 1, _), pathBa_1 pd adj d to a v l _ _ hat (arcsM_1 adj a) hgo (by simp; omega), pathBa_cut1 pd adj d to a v l _ _, ⟨.more (l ++ [nxt adj.l d.l a (n + 1 : Nat)]), hnext, hl2⟩, by simp⟩)
    (N, fr, _, _, 1, []) ⟨.one fr, hN, rfl⟩ rfl
  cases hG with
  | one x =>
    obtain rfl : x = fr := (List.cons.inj hl).1
    exact ⟨Sl.of true _, true, pathM_4 adj x to d N v a pd h1 h2 hfar hfd hw h8 hg, .inr ⟨rfl, N, d.l, hd, hfr, hto, hN, hl⟩⟩
  | more l => exact ⟨Sl.of false l, true, pathM_5 adj fr to d N v a pd l h1 h2 hfar hfd hw h8 hg, .inr ⟨rfl, N, d.l, hd, hfr, hto, hN, hl⟩⟩
end Go.Proofs.Ytclnpjnodmfkcaa
