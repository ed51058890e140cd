/-
  How far each node is.
-/
import Derived.Test.YtclnpjnodmfkcaaMh
set_option linter.unusedVariables false
set_option linter.unusedSimpArgs false
set_option maxRecDepth 10000
namespace Go.Proofs.Ytclnpjnodmfkcaa
open Go Go.Abs Go.Proofs Go.Proofs.Scc

abbrev wp26 : List Nat := [1, 1, 1, 1, 0, 1, 0, 0, 1, 0, 0, 1, 0]
theorem at26 : sub b26 wp26 = .rangeFunc (.tmp 29) #[30] (sub b26 (wp26 ++ [0])) (sub b26 (wp26 ++ [1])) := by kernel_rfl
abbrev ffr (tn : Sl (Sl Int)) (w : Nat) : Nat → DV := fl [(5, .pt 0 1 0), (6, .c (eSl tn)), (7, .pt 3 w 0), (29, .fn 35 [] [.pt 4 1 0, .pt 5 1 0])]
abbrev fst26 (N : Nat) (d pre todo : List Int) (v w : Nat) (x : Bool) (tl : List Ob) : List Ob :=
  ⟨1, [.ms 1 1 0 N 1 true]⟩ :: ⟨1, dcells d⟩ :: ⟨v, dcells (pre ++ todo)⟩ :: ⟨w, [.ms 2 v pre.length todo.length 1 x]⟩ :: tl
theorem far_range (pd : List Ex) (adj tn : Sl (Sl Int)) (to : Int) (hs : adj.l.length ≤ 1000) (hT : IsBack adj.l tn.l) (d pre rest P : List Int) (h : Int) (v w : Nat) (x : Bool) (hB : Bfs adj.l to d P (h :: rest)) :
    ∃ d' pre' rest' v' x', X.Go 26 52 [] (sub b26 wp26) ⟨ffr tn w, ⟨fst26 adj.l.length d pre (h :: rest) v w x [⟨1, [.c (eSl tn)]⟩, ⟨1, [dInt h]⟩], pd⟩⟩ .normal ⟨ffr tn w, ⟨fst26 adj.l.length d' pre' (h :: rest') v' w x' [⟨1, [.c (eSl tn)]⟩, ⟨1, [dInt h]⟩], pd ++ [.normal]⟩⟩ ∧
      Bfs adj.l to d' P (h :: rest') ∧ ∀ y, Arc adj.l y h → y ∈ P ++ h :: rest' := by
  have hh : Nod adj.l h := hB.nod h (by simp)
  have hnod : ∀ y, Nod tn.l y ↔ Nod adj.l y := fun y => by unfold Nod; rw [hT.len]
  obtain ⟨r, hr, hrm, hrl⟩ := hT.mem h hh
  obtain ⟨m', hruns, d', pre', rest', v', x', rfl, hB', hall⟩ := arcs_range (adj := tn) (fr := h) ((hnod h).2 hh) hr hrl ((pd.length, rctx 26 52 (ffr tn w) #[30] (sub b26 (wp26 ++ [0])) (sub b26 (wp26 ++ [1]))) :: []) pd.length 4 1 5 1
    (fun k m => ∃ d' pre' rest' v' x', m = ⟨fst26 adj.l.length d' pre' (h :: rest') v' w x' [⟨1, [.c (eSl tn)]⟩, ⟨1, [dInt h]⟩], pd ++ [Ex.normal]⟩ ∧ Bfs adj.l to d' P (h :: rest') ∧ ∀ y ∈ r.l.take k, y ∈ P ++ h :: rest')
    (by rintro k m ⟨_, _, _, _, _, rfl, _⟩; rfl)
    (by
      rintro k m y ⟨d', pre', rest', v', x', rfl, hB', hall⟩ hy hny
      have htk : r.l.take (k + 1) = r.l.take k ++ [y] := by rw [List.take_add_one, hy]; rfl
      have hym : y ∈ r.l := List.mem_of_getElem? hy
      have hya := (hrm y).1 hym
      have mk : ∀ {st st' : List Ob} {fr' : Nat → DV}, X.Go 26 52 [] (.seq (sub b26 (wp26 ++ [0])) (sub b26 (wp26 ++ [1]))) ⟨setPs (fun t => unflag (ffr tn w t)) [(30, dInt y)], ⟨st, pd ++ [.normal]⟩⟩ .normal ⟨fr', ⟨st', pd ++ [.normal]⟩⟩ →
          X.Round ((pd.length, rctx 26 52 (ffr tn w) #[30] (sub b26 (wp26 ++ [0])) (sub b26 (wp26 ++ [1]))) :: []) pd.length [dInt y] ⟨st, pd ++ [.normal]⟩ (dB true) ⟨st', pd ++ [.normal]⟩ := fun hgo => by
        have hrd := Sys.round1 (X := X) (Γ := []) (f := 26) (nt := 52) (ps := #[30]) (j := pd.length) (args := [dInt y]) (by simp) rfl (by simp) rfl (by kernel_rfl) hgo rfl
        rw [set_same (by simp)] at hrd
        exact hrd
      have hyA := (hnod y).1 hny
      obtain ⟨u, hu⟩ := get_int (l := d') (i := y) (by rw [hB'.len]; exact hyA)
      by_cases hneg : u < 0
      · obtain ⟨vh, hvh⟩ := get_int (l := d') (i := h) (by rw [hB'.len]; exact hh)
        rcases hB'.mem h hh vh hvh with ⟨_, hno⟩ | ⟨_, D, rfl, hD⟩
        · exact absurd (by simp) hno
        · have hadd := hB'.add hD hya hu hneg
          have hle := nodes_le hadd.nodup hadd.nod
          have hDl := hD.lt
          refine ⟨_, mk (farR_1 (pd ++ [Ex.normal]) adj tn d' pre' (h :: rest') v' w x' (.fn 35 [] [.pt 4 1 0, .pt 5 1 0]) y [⟨1, [.c (eSl tn)]⟩, ⟨1, [dInt h]⟩] u h D hyA hu hneg (by simp only [List.length_cons]; omega) rfl hh hvh (by omega) (by rw [hB'.len]; exact hyA) (by simp at hle ⊢; omega)), d'.set y.toNat ((D : Int) + 1), [], rest' ++ [y], v' + 1, false, rfl, hadd, fun z hz => ?_⟩
          have e : P ++ h :: (rest' ++ [y]) = (P ++ h :: rest') ++ [y] := by simp
          rw [htk] at hz
          rw [e]
          rcases List.mem_append.1 hz with hz | hz
          · exact List.mem_append_left _ (hall z hz)
          · exact List.mem_append_right _ hz
      · refine ⟨_, mk (farR_2 (pd ++ [Ex.normal]) adj tn d' pre' (h :: rest') v' w x' (.fn 35 [] [.pt 4 1 0, .pt 5 1 0]) y [⟨1, [.c (eSl tn)]⟩, ⟨1, [dInt h]⟩] u hyA hu hneg), d', pre', rest', v', x', rfl, hB', fun z hz => ?_⟩
        rw [htk] at hz
        rcases List.mem_append.1 hz with hz | hz
        · exact hall z hz
        · rw [List.mem_singleton] at hz
          subst hz
          rcases hB'.mem z hyA u hu with ⟨h1, _⟩ | ⟨h1, _⟩
          · omega
          · exact h1)
    (by
      rintro k m y ⟨d', pre', rest', v', x', rfl, hB', hall⟩ hy hny
      exact absurd ((hnod y).2 ((hrm y).1 (List.mem_of_getElem? hy)).src) hny)
    ⟨fst26 adj.l.length d pre (h :: rest) v w x [⟨1, [.c (eSl tn)]⟩, ⟨1, [dInt h]⟩], pd ++ [Ex.normal]⟩ ⟨d, pre, rest, v, x, rfl, hB, by simp⟩ rfl
  rw [List.take_length] at hall
  exact ⟨d', pre', rest', v', x', Sys.range1 at26 rfl (by kernel_rfl) hruns (by simp) (by kernel_rfl), hB', fun y hy => hall y ((hrm y).2 hy)⟩

structure FS where
  d : List Int
  P : List Int
  pre : List Int
  todo : List Int
  v : Nat
  w : Nat
  x : Bool
  pd : List Ex
theorem far_runs (adj : Sl (Sl Int)) (to : Int) (ht : Nod adj.l to) (hs : adj.l.length ≤ 40) (hr : ∀ r ∈ adj.l, r.l.length ≤ 1000) :
    ∃ d : Sl Int, X.RunsC 26 [.c (eSl adj), dInt to] (.c (eSl d)) ∧ IsDist adj.l to d.l := by
  obtain ⟨tn, hback, hT⟩ := back_runs adj (by omega) hr
  have hnod : ∀ y, Nod tn.l y ↔ Nod adj.l y := fun y => by unfold Nod; rw [hT.len]
  obtain ⟨ex, s', hg, _, d, pre, todo, v, w, x, pd, rfl, rfl, hd⟩ := Sys.loop_go (X := X) (f := 26) (nt := 52) (Γ := []) (a := sub b26 [1, 1, 1, 1, 0, 1, 0, 0]) (m := 4)
    (fun σ : FS => ⟨fl [(5, .pt 0 1 0), (6, .c (eSl tn)), (7, .pt 3 σ.w 0)], ⟨fst26 adj.l.length σ.d σ.pre σ.todo σ.v σ.w σ.x [], σ.pd⟩⟩)
    (fun σ => Bfs adj.l to σ.d σ.P σ.todo) (fun σ => adj.l.length - σ.P.length)
    (fun ex s' => ∃ (d pre todo : List Int) (v w : Nat) (x : Bool) (pd : List Ex), ex = .exit 0 ∧ s' = ⟨fl [(5, .pt 0 1 0), (6, .c (eSl tn)), (7, .pt 3 w 0), (22, dB false)], ⟨fst26 adj.l.length d pre todo v w x [], pd⟩⟩ ∧ IsDist adj.l to d)
    (by
      rintro ⟨d, P, pre, todo, v, w, x, pd⟩ hB
      simp only at hB
      cases todo with
      | nil => exact .inr ⟨_, _, farB_2 pd adj tn d pre [] v w x (by simp), by simp, d, pre, [], v, w, x, pd, rfl, rfl, hB.done⟩
      | cons h rest =>
        obtain ⟨d', pre', rest', v', x', hgo, hB', hall⟩ := far_range (pd ++ []) adj tn to (by omega) hT d pre rest P h v w x hB
        have hpop := hB'.pop hall
        have hle := nodes_le hB.nodup hB.nod
        have e1 : pre' ++ h :: rest' = (pre' ++ [h]) ++ rest' := by simp
        have e2 : pre'.length + 1 * 1 = (pre' ++ [h]).length := by simp
        refine .inl ⟨_, ⟨d', P ++ [h], pre' ++ [h], rest', v', w + 1, _, _⟩, farB_1 pd adj tn d pre (h :: rest) v w x h _ d' v' x' pre' (h :: rest') (by simp only [List.length_cons]; omega) (by simp only [List.length_cons]; omega) rfl (arcsM_1 tn h) hgo (by simp only [List.length_cons]; omega), (farB_cut1 pd adj tn d pre (h :: rest) v w x h _ d' v' x' pre' (h :: rest')).trans (by rw [e1, e2]; rfl), hpop, ?_⟩
        simp at hle ⊢; omega)
    ⟨(List.replicate adj.l.length (-1)).set to.toNat 0, [], [], [to], 1, 1, true, []⟩ (Bfs.begin ht) rfl
  have hto := ht
  have hlen : (List.replicate adj.l.length (-1 : Int)).length = adj.l.length := by simp
  have hK := farK_1 adj to (List.replicate adj.l.length (-1)) tn d v w x pre todo pd hto (by rw [hlen]; exact hto) hback hg
  have hJ := farJ_1 adj to (rep_runs hs)
  rw [shiftL_dcells] at hJ
  have hgo := Sys.seq (farI_1 adj to) (Sys.seq hJ hK)
  have call := Sys.call (X := X) (f := 26) (fn := Try.f26) (Γ := []) (c := b26) (args := [.c (eSl adj), dInt to]) (m := ⟨[], []⟩) (d := .ms 1 1 0 adj.l.length 1 true) hgo (by kernel_rfl) (by kernel_rfl) rfl (by kernel_rfl) rfl
  have hdl : d.length = adj.l.length := hd.len
  exact ⟨Sl.of true d, Sys.callC call (closeTop_msn (o := ⟨1, dcells d⟩) (r := []) hdl (getO_of rfl rfl) (List.append_nil _).symm rfl), hd⟩
end Go.Proofs.Ytclnpjnodmfkcaa
