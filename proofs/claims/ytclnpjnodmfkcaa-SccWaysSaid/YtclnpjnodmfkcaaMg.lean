/-
  The document's Path.
-/
import Derived.Test.YtclnpjnodmfkcaaMf
set_option linter.unusedVariables false
set_option linter.unusedSimpArgs false
set_option maxRecDepth 10000
namespace Go.Proofs.Ytclnpjnodmfkcaa
open Go Go.Abs Go.Proofs Go.Proofs.Scc

abbrev k15 : List Nat := [1, 1, 1, 1, 1, 1, 0, 1, 0, 0, 1, 0, 0, 1, 0, 1, 0]
theorem nearP_iff {d : List Int} {v y : Int} : nearP d v y = true ↔ 0 ≤ y ∧ d[y.toNat]? = some (v - 1) := by simp [nearP]
theorem rpath_k (adj : Sl (Sl Int)) (d : Sl Int) (o9 : DV) (a n : Int) (ha : Nod adj.l a) (hn : 0 ≤ n ∧ n ≤ 1000000) (row : Sl Int) (hrow : adj.l[a.toNat]? = some row) (hrl : row.l.length ≤ 1000000) (hd : d.l.length = adj.l.length) :
    ∃ k : Int, X.Go 15 101 [] (sub b15 k15) ⟨fl [(0, .c (eSl adj)), (8, .c (eSl d)), (9, o9), (10, dInt a), (11, dInt n), (12, dInt (-1)), (13, dInt 0)], ⟨[], []⟩⟩ (.exit 2)
      ⟨fl [(0, .c (eSl adj)), (8, .c (eSl d)), (9, o9), (10, dInt a), (11, dInt n), (12, dInt (row.l.foldl (stepP (nearP d.l n)) (-1))), (13, dInt k), (58, dB false)], ⟨[], []⟩⟩ := by
  obtain ⟨ex, s', hg, _, k, rfl, rfl⟩ := Sys.loop_go (X := X) (f := 15) (nt := 101) (Γ := []) (a := sub b15 (k15 ++ [0])) (m := 0)
    (fun σ : Nat × Int => ⟨fl [(0, .c (eSl adj)), (8, .c (eSl d)), (9, o9), (10, dInt a), (11, dInt n), (12, dInt σ.2), (13, dInt σ.1)], ⟨[], []⟩⟩)
    (fun σ => σ.1 ≤ row.l.length ∧ σ.2 = (row.l.take σ.1).foldl (stepP (nearP d.l n)) (-1)) (fun σ => row.l.length - σ.1)
    (fun ex s' => ∃ k : Int, ex = .exit 2 ∧ s' = ⟨fl [(0, .c (eSl adj)), (8, .c (eSl d)), (9, o9), (10, dInt a), (11, dInt n), (12, dInt (row.l.foldl (stepP (nearP d.l n)) (-1))), (13, dInt k), (58, dB false)], ⟨[], []⟩⟩)
    (by
      rintro ⟨k, b⟩ ⟨hk, hb⟩
      simp only at hk hb
      by_cases h3 : (k : Int) < (row.l.length : Int)
      · obtain ⟨y, hy⟩ := get_nat h3
        have hy' : row.l[k]? = some y := by simpa using hy
        have htk : (row.l.take (k + 1)).foldl (stepP (nearP d.l n)) (-1) = stepP (nearP d.l n) b y := by
          rw [List.take_add_one, hy', hb, List.foldl_append]; rfl
        have hbn : b < 0 ↔ b = -1 := by
          rcases pick_ok (p := nearP d.l n) (fun y hy => (nearP_iff.1 hy).1) (row.l.take k) with ⟨h1, _⟩ | ⟨_, h1⟩
          · rw [← hb] at h1; omega
          · rw [← hb] at h1
            have := (nearP_iff.1 h1).1; omega
        by_cases h6 : y ≥ 0
        · by_cases h7 : y < (adj.l.length : Int)
          · obtain ⟨w, hw⟩ := get_int (l := d.l) (i := y) (by rw [hd]; exact ⟨h6, h7⟩)
            have hyd : 0 ≤ y ∧ y < (d.l.length : Int) := by rw [hd]; exact ⟨h6, h7⟩
            by_cases h11 : w = n - 1
            · have hp : nearP d.l n y = true := nearP_iff.2 ⟨h6, by rw [hw, h11]⟩
              by_cases h12 : b = -1
              · exact .inl ⟨_, (k + 1, y), rpathC_1 adj d o9 a n b k row y w ha hrow h3 (by omega) hy h6 h7 hyd hw (by omega) h11 h12 (by omega), rfl, ⟨by simp only; omega, by rw [htk, stepP, if_pos ⟨hp, .inl (hbn.2 h12)⟩]⟩, by simp only; omega⟩
              · by_cases h13 : y < b
                · exact .inl ⟨_, (k + 1, y), rpathC_2 adj d o9 a n b k row y w ha hrow h3 (by omega) hy h6 h7 hyd hw (by omega) h11 h12 h13 (by omega), rfl, ⟨by simp only; omega, by rw [htk, stepP, if_pos ⟨hp, .inr h13⟩]⟩, by simp only; omega⟩
                · refine .inl ⟨_, (k + 1, b), rpathC_3 adj d o9 a n b k row y w ha hrow h3 (by omega) hy h6 h7 hyd hw (by omega) h11 h12 h13 (by omega), rfl, ⟨by simp only; omega, ?_⟩, by simp only; omega⟩
                  rw [htk, stepP, if_neg (fun h => by have := hbn.1; omega)]
            · have hp : ¬ nearP d.l n y = true := fun h => by
                have := (nearP_iff.1 h).2
                rw [hw] at this; cases this; exact h11 rfl
              exact .inl ⟨_, (k + 1, b), rpathC_4 adj d o9 a n b k row y w ha hrow h3 (by omega) hy h6 h7 hyd hw (by omega) h11 (by omega), rfl, ⟨by simp only; omega, by rw [htk, stepP, if_neg (fun h => hp h.1)]⟩, by simp only; omega⟩
          · have hp : ¬ nearP d.l n y = true := fun h => by
              have := (List.getElem?_eq_some_iff.1 (nearP_iff.1 h).2).1
              omega
            exact .inl ⟨_, (k + 1, b), rpathC_5 adj d o9 a n b k row y ha hrow h3 (by omega) hy h6 h7 (by omega), rfl, ⟨by simp only; omega, by rw [htk, stepP, if_neg (fun h => hp h.1)]⟩, by simp only; omega⟩
        · have hp : ¬ nearP d.l n y = true := fun h => h6 (nearP_iff.1 h).1
          exact .inl ⟨_, (k + 1, b), rpathC_6 adj d o9 a n b k row y ha hrow h3 (by omega) hy h6 (by omega), rfl, ⟨by simp only; omega, by rw [htk, stepP, if_neg (fun h => hp h.1)]⟩, by simp only; omega⟩
      · rw [List.take_of_length_le (by omega)] at hb
        subst hb
        exact .inr ⟨_, _, rpathC_7 adj d o9 a n _ k row ha hrow h3, by simp, k, rfl, rfl⟩)
    (0, -1) ⟨by simp, rfl⟩ rfl
  exact ⟨k, hg⟩

/-- A list that was begun as one element and then grown by append. -/
inductive Grown : DV → List Int → Prop
  | one (x : Int) : Grown (.c (.sl false true (cells ([x] : List Int)) 1)) [x]
  | more (l : List Int) : Grown (.ap false (cells l) l.length 1) l

theorem rpath_runs (adj : Sl (Sl Int)) (fr to : Int) (hs : adj.l.length ≤ 1000000) (hr : ∀ r ∈ adj.l, r.l.length ≤ 1000000) :
    ∃ (s : Sl Int) (b : Bool), X.RunsC 15 [.c (eSl adj), dInt fr, dInt to] (.tup [.c (eSl s), dB b]) ∧ PathIs adj.l fr to s.l b := by
  by_cases h1 : fr < 0
  · exact ⟨Sl.nil, false, rpathM_1 adj fr to h1, .inl ⟨rfl, rfl, fun h => by have := h.1.1; omega⟩⟩
  by_cases h2 : fr ≥ (adj.l.length : Int)
  · exact ⟨Sl.nil, false, rpathM_2 adj fr to h1 h2, .inl ⟨rfl, rfl, fun h => by have := h.1.2; omega⟩⟩
  by_cases h3 : to < 0
  · exact ⟨Sl.nil, false, rpathM_3 adj fr to h1 h2 h3, .inl ⟨rfl, rfl, fun h => by have := h.2.1.1; omega⟩⟩
  by_cases h4 : to ≥ (adj.l.length : Int)
  · exact ⟨Sl.nil, false, rpathM_4 adj fr to h1 h2 h3 h4, .inl ⟨rfl, rfl, fun h => by have := h.2.1.2; omega⟩⟩
  have hfr : Nod adj.l fr := ⟨by omega, by omega⟩
  have hto : Nod adj.l to := ⟨by omega, by omega⟩
  obtain ⟨d, hfar, hd⟩ := rfar_runs adj to hto hs hr
  have hfd : 0 ≤ fr ∧ fr < (d.l.length : Int) := by rw [hd.len]; exact hfr
  obtain ⟨w, hw⟩ := get_int hfd
  by_cases h8 : w = -1
  · refine ⟨Sl.nil, false, rpathM_5 adj fr to d w h1 h2 h3 h4 hfar hfd hw h8, .inl ⟨rfl, rfl, fun h => ?_⟩⟩
    obtain ⟨n, hn⟩ := h.2.2
    rcases hd.val fr hfr w hw with ⟨_, hno⟩ | ⟨k, hk, _⟩
    · exact hno n hn.1
    · omega
  rcases hd.val fr hfr w hw with ⟨hk, _⟩ | ⟨N, rfl, hN⟩
  · exact absurd hk h8
  have hNl := hN.lt
  obtain ⟨ex, s', hg, _, o9, l, a, n, rfl, rfl, hG, hl⟩ := Sys.loop_go (X := X) (f := 15) (nt := 101) (Γ := []) (a := sub b15 [1, 1, 1, 1, 1, 1, 0, 1, 0, 0]) (m := 0)
    (fun σ : Nat × Int × DV × List Int => ⟨fl [(0, .c (eSl adj)), (8, .c (eSl d)), (9, σ.2.2.1), (10, dInt σ.2.1), (11, dInt σ.1)], ⟨[], []⟩⟩)
    (fun σ => Grown σ.2.2.1 σ.2.2.2 ∧ Dist adj.l to σ.1 σ.2.1 ∧ σ.2.2.2 ++ pathL adj.l d.l σ.1 σ.2.1 = fr :: pathL adj.l d.l N fr) (fun σ => σ.1)
    (fun ex s' => ∃ (o9 : DV) (l : List Int) (a n : Int), ex = .exit 0 ∧ s' = ⟨fl [(0, .c (eSl adj)), (8, .c (eSl d)), (9, o9), (10, dInt a), (11, dInt n), (49, dB false)], ⟨[], []⟩⟩ ∧ Grown o9 l ∧ l = fr :: pathL adj.l d.l N fr)
    (by
      rintro ⟨n, a, o9, l⟩ ⟨hG, hda, hl⟩
      simp only at hG hda hl
      cases n with
      | zero =>
        have hl' : l = fr :: pathL adj.l d.l N fr := by simpa [pathL] using hl
        cases hG with
        | one x => exact .inr ⟨_, _, rpathBk_2 adj d a (0 : Nat) x (by simp), by simp, _, _, a, (0 : Nat), rfl, rfl, .one x, hl'⟩
        | more l => exact .inr ⟨_, _, rpathBa_2 adj d a (0 : Nat) l (by simp), by simp, _, _, a, (0 : Nat), rfl, rfl, .more l, hl'⟩
      | succ n =>
        have ha := hda.nod
        obtain ⟨row, hrow⟩ := get_int (l := adj.l) (i := a) ha
        have hrl := hr row (List.mem_of_getElem? hrow)
        have hdl := hda.lt
        have hnx : nxt adj.l d.l a (n + 1 : Nat) = row.l.foldl (stepP (nearP d.l (n + 1 : Nat))) (-1) := by simp only [nxt, hrow]
        have hnext := nxt_ok hd hda
        have hlen : l.length + (n + 1) = N + 1 := by
          have := congrArg List.length hl
          simpa [pathL_length] using this
        have e1 : ((n + 1 : Nat) : Int) - 1 = (n : Int) := by omega
        obtain ⟨k, hgo⟩ := rpath_k adj d o9 a (n + 1 : Nat) ha (by omega) row hrow hrl hd.len
        rw [← hnx] at hgo
        have hl2 : (l ++ [nxt adj.l d.l a (n + 1 : Nat)]) ++ pathL adj.l d.l n (nxt adj.l d.l a (n + 1 : Nat)) = fr :: pathL adj.l d.l N fr := by
          rw [List.append_assoc]; exact hl
        cases hG with
        | one x =>
          refine .inl ⟨_, (n, nxt adj.l d.l a (n + 1 : Nat), _, _), rpathBk_1 adj d a (n + 1 : Nat) x _ k (by omega) hgo (by omega), by rw [e1]; rfl, ⟨.more ([x] ++ [nxt adj.l d.l a (n + 1 : Nat)]), hnext, hl2⟩, by simp⟩
        | more l =>
          refine .inl ⟨_, (n, nxt adj.l d.l a (n + 1 : Nat), _, _), rpathBa_1 adj d a (n + 1 : Nat) l _ k (by omega) hgo (by simp; omega) (by omega), by rw [e1]; rfl, ⟨.more (l ++ [nxt adj.l d.l a (n + 1 : Nat)]), hnext, hl2⟩, by simp⟩)
    (N, fr, _, _) ⟨.one fr, hN, rfl⟩ rfl
  cases hG with
  | one x =>
    obtain rfl : x = fr := (List.cons.inj hl).1
    exact ⟨Sl.of true _, true, rpathM_6 adj x to d N a n h1 h2 h3 h4 hfar hfd hw h8 hg, .inr ⟨rfl, N, d.l, hd, hfr, hto, hN, hl⟩⟩
  | more l => exact ⟨Sl.of false l, true, rpathM_7 adj fr to d N a n l h1 h2 h3 h4 hfar hfd hw h8 hg, .inr ⟨rfl, N, d.l, hd, hfr, hto, hN, hl⟩⟩
end Go.Proofs.Ytclnpjnodmfkcaa
