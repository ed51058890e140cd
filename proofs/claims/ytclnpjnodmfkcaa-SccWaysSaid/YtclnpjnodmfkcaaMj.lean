/-
  The shortest way.
-/
import Derived.Test.YtclnpjnodmfkcaaMi
import Derived.Test.YtclnpjnodmfkcaaMg
set_option linter.unusedVariables false
set_option linter.unusedSimpArgs false
set_option maxRecDepth 10000
namespace Go.Proofs.Ytclnpjnodmfkcaa
open Go Go.Abs Go.Proofs Go.Proofs.Scc

abbrev wp14 : List Nat := [1, 1, 1, 1, 1, 0, 1, 0, 0, 1, 0, 0, 1, 0, 1, 0]
theorem at14 : sub b14 wp14 = .rangeFunc (.tmp 41) #[42] (sub b14 (wp14 ++ [0])) (sub b14 (wp14 ++ [1])) := by kernel_rfl
abbrev pfr (adj : Sl (Sl Int)) (to : Int) (o9 : DV) (v : Nat) : Nat → DV := fl [(0, .c (eSl adj)), (2, dInt to), (8, .pt 0 1 0), (9, o9), (10, .pt 1 v 0), (11, .pt 2 1 0), (41, .fn 35 [] [.pt 3 1 0, .pt 4 1 0])]
abbrev pst14 (adj : Sl (Sl Int)) (d : Sl Int) (v : Nat) (a nx : Int) : List Ob := [⟨1, [.c (eSl d)]⟩, ⟨v, [dInt a]⟩, ⟨1, [dInt nx]⟩, ⟨1, [.c (eSl adj)]⟩, ⟨1, [dInt a]⟩]
theorem path_range (pd : List Ex) (adj : Sl (Sl Int)) (d : Sl Int) (to a : Int) (v : Nat) (o9 : DV) (n : Nat) (hn : n ≤ 1000000) (ha : Nod adj.l a) (hd : d.l.length = adj.l.length) (hda : d.l[a.toNat]? = some (n : Int)) (row : Sl Int) (hrow : adj.l[a.toNat]? = some row) (hrl : row.l.length ≤ 1000000) :
    X.Go 14 70 [] (sub b14 wp14) ⟨pfr adj to o9 v, ⟨pst14 adj d v a (-1), pd⟩⟩ .normal ⟨pfr adj to o9 v, ⟨pst14 adj d v a (row.l.foldl (stepP (nearP d.l n)) (-1)), pd ++ [.normal]⟩⟩ := by
  obtain ⟨m', hruns, rfl⟩ := arcs_range (adj := adj) (fr := a) ha hrow hrl ((pd.length, rctx 14 70 (pfr adj to o9 v) #[42] (sub b14 (wp14 ++ [0])) (sub b14 (wp14 ++ [1]))) :: []) pd.length 3 1 4 1
    (fun k m => m = ⟨pst14 adj d v a ((row.l.take k).foldl (stepP (nearP d.l n)) (-1)), pd ++ [Ex.normal]⟩)
    (by rintro k m rfl; rfl)
    (by
      rintro k m y rfl hy hny
      have htk : (row.l.take (k + 1)).foldl (stepP (nearP d.l n)) (-1) = stepP (nearP d.l n) ((row.l.take k).foldl (stepP (nearP d.l n)) (-1)) y := by
        rw [List.take_add_one, hy, List.foldl_append]; rfl
      generalize (row.l.take k).foldl (stepP (nearP d.l n)) (-1) = b at htk
      have mk : ∀ {st st' : List Ob} {fr' : Nat → DV}, X.Go 14 70 [] (.seq (sub b14 (wp14 ++ [0])) (sub b14 (wp14 ++ [1]))) ⟨setPs (fun t => unflag (pfr adj to o9 v t)) [(42, dInt y)], ⟨st, pd ++ [.normal]⟩⟩ .normal ⟨fr', ⟨st', pd ++ [.normal]⟩⟩ →
          X.Round ((pd.length, rctx 14 70 (pfr adj to o9 v) #[42] (sub b14 (wp14 ++ [0])) (sub b14 (wp14 ++ [1]))) :: []) pd.length [dInt y] ⟨st, pd ++ [.normal]⟩ (dB true) ⟨st', pd ++ [.normal]⟩ := fun hgo => by
        have hrd := Sys.round1 (X := X) (Γ := []) (f := 14) (nt := 70) (ps := #[42]) (j := pd.length) (args := [dInt y]) (by simp) rfl (by simp) rfl (by kernel_rfl) hgo rfl
        rw [set_same (by simp)] at hrd
        exact hrd
      obtain ⟨u, hu⟩ := get_int (l := d.l) (i := y) (by rw [hd]; exact hny)
      have hyd : 0 ≤ y ∧ y < (d.l.length : Int) := by rw [hd]; exact hny
      have had : 0 ≤ a ∧ a < (d.l.length : Int) := by rw [hd]; exact ha
      by_cases h6 : u = (n : Int) - 1
      · have hp : nearP d.l n y = true := nearP_iff.2 ⟨hny.1, by rw [hu, h6]⟩
        by_cases h7 : b < 0
        · exact ⟨_, mk (pathR_1 (pd ++ [Ex.normal]) adj d to a b v o9 (.fn 35 [] [.pt 3 1 0, .pt 4 1 0]) y [⟨1, [.c (eSl adj)]⟩, ⟨1, [dInt a]⟩] u n hyd hu had hda (by omega) h6 h7), by rw [htk, stepP, if_pos ⟨hp, .inl h7⟩]⟩
        · by_cases h8 : y < b
          · exact ⟨_, mk (pathR_2 (pd ++ [Ex.normal]) adj d to a b v o9 (.fn 35 [] [.pt 3 1 0, .pt 4 1 0]) y [⟨1, [.c (eSl adj)]⟩, ⟨1, [dInt a]⟩] u n hyd hu had hda (by omega) h6 h7 h8), by rw [htk, stepP, if_pos ⟨hp, .inr h8⟩]⟩
          · exact ⟨_, mk (pathR_3 (pd ++ [Ex.normal]) adj d to a b v o9 (.fn 35 [] [.pt 3 1 0, .pt 4 1 0]) y [⟨1, [.c (eSl adj)]⟩, ⟨1, [dInt a]⟩] u n hyd hu had hda (by omega) h6 h7 h8), by rw [htk, stepP, if_neg (fun h => h.2.elim h7 h8)]⟩
      · have hp : ¬ nearP d.l n y = true := fun h => by
          have := (nearP_iff.1 h).2
          rw [hu] at this; cases this; exact h6 rfl
        exact ⟨_, mk (pathR_4 (pd ++ [Ex.normal]) adj d to a b v o9 (.fn 35 [] [.pt 3 1 0, .pt 4 1 0]) y [⟨1, [.c (eSl adj)]⟩, ⟨1, [dInt a]⟩] u n hyd hu had hda (by omega) h6), by rw [htk, stepP, if_neg (fun h => hp h.1)]⟩)
    (by
      rintro k m y rfl hy hny
      have htk : (row.l.take (k + 1)).foldl (stepP (nearP d.l n)) (-1) = stepP (nearP d.l n) ((row.l.take k).foldl (stepP (nearP d.l n)) (-1)) y := by
        rw [List.take_add_one, hy, List.foldl_append]; rfl
      have hp : ¬ nearP d.l n y = true := fun h => by
        have := (List.getElem?_eq_some_iff.1 (nearP_iff.1 h).2).1
        exact hny ⟨(nearP_iff.1 h).1, by have := (nearP_iff.1 h).1; omega⟩
      rw [htk]
      unfold stepP
      rw [if_neg (fun h => hp h.1)])
    ⟨pst14 adj d v a (-1), pd ++ [Ex.normal]⟩ rfl rfl
  rw [List.take_length] at hruns
  exact Sys.range1 at14 rfl (by kernel_rfl) hruns (by simp) (by kernel_rfl)

theorem path_runs (adj : Sl (Sl Int)) (fr to : Int) (hs : adj.l.length ≤ 40) (hr : ∀ r ∈ adj.l, r.l.length ≤ 1000) :
    ∃ (s : Sl Int) (b : Bool), X.RunsC 14 [.c (eSl adj), dInt fr, dInt to] (.tup [.c (eSl s), dB b]) ∧ PathIs adj.l fr to s.l b := by
  by_cases h1 : (if to < fr then to else fr) < 0
  · refine ⟨Sl.nil, false, pathM_1 adj fr to h1, .inl ⟨rfl, rfl, fun h => ?_⟩⟩
    have := h.1.1; have := h.2.1.1
    split at h1 <;> omega
  by_cases h2 : (if to > fr then to else fr) ≥ (adj.l.length : Int)
  · refine ⟨Sl.nil, false, pathM_2 adj fr to h1 h2, .inl ⟨rfl, rfl, fun h => ?_⟩⟩
    have := h.1.2; have := h.2.1.2
    split at h2 <;> omega
  have hfr : Nod adj.l fr := by constructor <;> (split at h1 <;> split at h2 <;> omega)
  have hto : Nod adj.l to := by constructor <;> (split at h1 <;> split at h2 <;> omega)
  obtain ⟨d, hfar, hd⟩ := far_runs adj to hto hs hr
  have hfd : 0 ≤ fr ∧ fr < (d.l.length : Int) := by rw [hd.len]; exact hfr
  obtain ⟨w, hw⟩ := get_int hfd
  by_cases h8 : w < 0
  · refine ⟨Sl.nil, false, pathM_3 adj fr to d w h1 h2 hfar hfd hw h8, .inl ⟨rfl, rfl, fun h => ?_⟩⟩
    obtain ⟨n, hn⟩ := h.2.2
    rcases hd.val fr hfr w hw with ⟨_, hno⟩ | ⟨k, hk, _⟩
    · exact hno n hn.1
    · omega
  rcases hd.val fr hfr w hw with ⟨hk, _⟩ | ⟨N, rfl, hN⟩
  · omega
  have hNl := hN.lt
  obtain ⟨ex, s', hg, _, o9, l, a, v, pd, rfl, rfl, hG, hl⟩ := Sys.loop_go (X := X) (f := 14) (nt := 70) (Γ := []) (a := sub b14 [1, 1, 1, 1, 1, 0, 1, 0, 0]) (m := 2)
    (fun σ : Nat × Int × DV × List Int × Nat × List Ex => ⟨fl [(0, .c (eSl adj)), (2, dInt to), (8, .pt 0 1 0), (9, σ.2.2.1), (10, .pt 1 σ.2.2.2.2.1 0)], ⟨[⟨1, [.c (eSl d)]⟩, ⟨σ.2.2.2.2.1, [dInt σ.2.1]⟩], σ.2.2.2.2.2⟩⟩)
    (fun σ => Grown σ.2.2.1 σ.2.2.2.1 ∧ Dist adj.l to σ.1 σ.2.1 ∧ σ.2.2.2.1 ++ pathL adj.l d.l σ.1 σ.2.1 = fr :: pathL adj.l d.l N fr) (fun σ => σ.1)
    (fun ex s' => ∃ (o9 : DV) (l : List Int) (a : Int) (v : Nat) (pd : List Ex), ex = .exit 0 ∧ s' = ⟨fl [(0, .c (eSl adj)), (2, dInt to), (8, .pt 0 1 0), (9, o9), (10, .pt 1 v 0), (38, dB false)], ⟨[⟨1, [.c (eSl d)]⟩, ⟨v, [dInt a]⟩], pd⟩⟩ ∧ Grown o9 l ∧ l = fr :: pathL adj.l d.l N fr)
    (by
      rintro ⟨n, a, o9, l, v, pd⟩ ⟨hG, hda, hl⟩
      simp only at hG hda hl
      cases n with
      | zero =>
        have hat := hda.eq_to
        have hl' : l = fr :: pathL adj.l d.l N fr := by simpa [pathL] using hl
        cases hG with
        | one x => exact .inr ⟨_, _, pathBk_2 pd adj d to a v x (by omega), by simp, _, _, a, v, pd, rfl, rfl, .one x, hl'⟩
        | more l => exact .inr ⟨_, _, pathBa_2 pd adj d to a v l (by omega), by simp, _, _, a, v, pd, rfl, rfl, .more l, hl'⟩
      | succ n =>
        have ha := hda.nod
        have hat : a ≠ to := fun h => by
          have h0 : Dist adj.l to 0 a := by rw [h]; exact Dist.zero hto
          have := hda.uniq h0; omega
        obtain ⟨row, hrow⟩ := get_int (l := adj.l) (i := a) ha
        have hrl := hr row (List.mem_of_getElem? hrow)
        have hdl := hda.lt
        have hnx : nxt adj.l d.l a (n + 1 : Nat) = row.l.foldl (stepP (nearP d.l (n + 1 : Nat))) (-1) := by simp only [nxt, hrow]
        have hnext := nxt_ok hd hda
        have hlen : l.length + (n + 1) = N + 1 := by
          have := congrArg List.length hl
          simpa [pathL_length] using this
        have hgo := path_range (pd ++ []) adj d to a v o9 (n + 1) (by omega) ha hd.len (hd.get hda) row hrow (by omega)
        rw [← hnx] at hgo
        have hl2 : (l ++ [nxt adj.l d.l a (n + 1 : Nat)]) ++ pathL adj.l d.l n (nxt adj.l d.l a (n + 1 : Nat)) = fr :: pathL adj.l d.l N fr := by
          rw [List.append_assoc]; exact hl
        cases hG with
        | one x =>
          exact .inl ⟨_, (n, nxt adj.l d.l a (n + 1 : Nat), _, _, v + 1, _), pathBk_1 pd adj d to a v x _ _ hat (arcsM_1 adj a) hgo, pathBk_cut1 pd adj d to a v x _ _, ⟨.more ([x] ++ [nxt adj.l d.l a (n + 1 : Nat)]), hnext, hl2⟩, by simp⟩
        | more l =>
          exact .inl ⟨_, (n, nxt adj.l d.l a (n + 1 : Nat), _, _, v + 1, _), pathBa_1 pd adj d to a v l _ _ hat (arcsM_1 adj a) hgo (by simp; omega), pathBa_cut1 pd adj d to a v l _ _, ⟨.more (l ++ [nxt adj.l d.l a (n + 1 : Nat)]), hnext, hl2⟩, by simp⟩)
    (N, fr, _, _, 1, []) ⟨.one fr, hN, rfl⟩ rfl
  cases hG with
  | one x =>
    obtain rfl : x = fr := (List.cons.inj hl).1
    exact ⟨Sl.of true _, true, pathM_4 adj x to d N v a pd h1 h2 hfar hfd hw h8 hg, .inr ⟨rfl, N, d.l, hd, hfr, hto, hN, hl⟩⟩
  | more l => exact ⟨Sl.of false l, true, pathM_5 adj fr to d N v a pd l h1 h2 hfar hfd hw h8 hg, .inr ⟨rfl, N, d.l, hd, hfr, hto, hN, hl⟩⟩
end Go.Proofs.Ytclnpjnodmfkcaa
