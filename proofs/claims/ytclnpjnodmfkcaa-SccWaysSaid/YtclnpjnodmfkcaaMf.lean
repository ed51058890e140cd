/-
  The document's far and Path.
-/
import Derived.Test.YtclnpjnodmfkcaaWg
import Derived.Test.YtclnpjnodmfkcaaD
set_option linter.unusedVariables false
set_option linter.unusedSimpArgs false
set_option maxRecDepth 10000
namespace Go.Proofs.Ytclnpjnodmfkcaa
open Go Go.Abs Go.Proofs Go.Proofs.Scc

theorem set_self' {α : Type} {l : List α} {i : Nat} {a : α} (h : l[i]? = some a) : l.set i a = l := by
  refine List.ext_getElem? fun j => ?_
  rw [List.getElem?_set]
  by_cases hij : i = j
  · subst hij
    rw [if_pos rfl, if_pos (List.getElem?_eq_some_iff.1 h).1, h]
  · rw [if_neg hij]

abbrev k27 : List Nat := [1, 1, 1, 1, 0, 1, 0, 0, 1, 0, 0, 1, 0, 0, 1, 0, 0, 1, 1, 0]
theorem rfar_k (adj : Sl (Sl Int)) (n i : Nat) (row : Sl Int) (hi : i < adj.l.length) (hrow : adj.l[i]? = some row) (hrl : row.l.length ≤ 1000000) (d0 : List Int) (hd0 : d0.length = adj.l.length) (hdi : d0[i]? = some (-1)) (hn : n ≤ 1000000) :
    ∃ v k : Int, X.Go 27 81 [] (sub b27 k27) ⟨fl [(0, .c (eSl adj)), (5, .ms 0 1 0 adj.l.length 1 true), (7, dInt n), (8, dInt i), (9, dInt 0)], ⟨[⟨1, dcells d0⟩], []⟩⟩ (.exit 6) ⟨fl [(0, .c (eSl adj)), (5, .ms 0 1 0 adj.l.length 1 true), (7, dInt n), (8, dInt i), (9, dInt k), (49, dB false)], ⟨[⟨1, dcells (d0.set i v)⟩], []⟩⟩ ∧
      (v = -1 ∨ v = (n : Int) + 1) ∧ (v = (n : Int) + 1 ↔ ∃ y ∈ row.l, Nod adj.l y ∧ d0[y.toNat]? = some (n : Int)) := by
  have hs0 : d0.set i (-1) = d0 := set_self' hdi
  obtain ⟨ex, s', hg, _, v, k, rfl, rfl, hv, hs⟩ := Sys.loop_go (X := X) (f := 27) (nt := 81) (Γ := []) (a := sub b27 (k27 ++ [0])) (m := 1)
    (fun σ : Nat × Int => ⟨fl [(0, .c (eSl adj)), (5, .ms 0 1 0 adj.l.length 1 true), (7, dInt n), (8, dInt i), (9, dInt σ.1)], ⟨[⟨1, dcells (d0.set i σ.2)⟩], []⟩⟩)
    (fun σ => σ.1 ≤ row.l.length ∧ (σ.2 = -1 ∨ σ.2 = (n : Int) + 1) ∧ (σ.2 = (n : Int) + 1 ↔ ∃ y ∈ row.l.take σ.1, Nod adj.l y ∧ d0[y.toNat]? = some (n : Int))) (fun σ => row.l.length - σ.1)
    (fun ex s' => ∃ v k : Int, ex = .exit 6 ∧ s' = ⟨fl [(0, .c (eSl adj)), (5, .ms 0 1 0 adj.l.length 1 true), (7, dInt n), (8, dInt i), (9, dInt k), (49, dB false)], ⟨[⟨1, dcells (d0.set i v)⟩], []⟩⟩ ∧
      (v = -1 ∨ v = (n : Int) + 1) ∧ (v = (n : Int) + 1 ↔ ∃ y ∈ row.l, Nod adj.l y ∧ d0[y.toNat]? = some (n : Int)))
    (by
      rintro ⟨k, v⟩ ⟨hk, hv, hs⟩
      simp only at hk hv hs
      have hrow' : adj.l[(i : Int).toNat]? = some row := by simpa using hrow
      have hb : 0 ≤ (i : Int) ∧ (i : Int) < (adj.l.length : Int) := by omega
      by_cases h3 : (k : Int) < (row.l.length : Int)
      · obtain ⟨y, hy⟩ := get_nat h3
        have hy' : row.l[k]? = some y := by simpa using hy
        have htk : row.l.take (k + 1) = row.l.take k ++ [y] := by rw [List.take_add_one, hy']; rfl
        have skip : (¬ (Nod adj.l y ∧ d0[y.toNat]? = some (n : Int))) → (v = (n : Int) + 1 ↔ ∃ y ∈ row.l.take (k + 1), Nod adj.l y ∧ d0[y.toNat]? = some (n : Int)) := fun hno => by
          rw [hs, htk]
          constructor
          · rintro ⟨z, h1, h2⟩; exact ⟨z, by simp [h1], h2⟩
          · rintro ⟨z, h1, h2⟩
            rcases List.mem_append.1 h1 with h1 | h1
            · exact ⟨z, h1, h2⟩
            · rw [List.mem_singleton] at h1; subst h1; exact absurd h2 hno
        by_cases h6 : y ≥ 0
        · by_cases h7 : y < (adj.l.length : Int)
          · obtain ⟨w, hw⟩ := get_int (l := d0.set i v) (i := y) (by rw [List.length_set, hd0]; exact ⟨h6, h7⟩)
            have hwn : w = (n : Int) ↔ d0[y.toNat]? = some (n : Int) := by
              have hw2 := hw
              rw [List.getElem?_set] at hw2
              by_cases hiy : i = y.toNat
              · rw [if_pos hiy, if_pos (by omega)] at hw2
                cases hw2
                rw [← hiy, hdi, Option.some.injEq]
                omega
              · rw [if_neg hiy] at hw2
                rw [hw2, Option.some.injEq]
            by_cases h10 : w = (n : Int)
            · have e : (d0.set i v).set (i : Int).toNat ((n : Int) + 1) = d0.set i ((n : Int) + 1) := by simp
              refine .inl ⟨_, (k + 1, (n : Int) + 1), rfarD_1 adj n i k (d0.set i v) row y w hb hrow' h3 (by omega) hy h6 h7 ⟨h6, h7⟩ hw h10 (by omega) (by rw [List.length_set]; omega) (by omega), by rw [e]; rfl, ⟨by simp only; omega, .inr rfl, ?_⟩, by simp only; omega⟩
              simp only [true_iff]
              exact ⟨y, by rw [htk]; simp, ⟨h6, h7⟩, hwn.1 h10⟩
            · exact .inl ⟨_, (k + 1, v), rfarD_2 adj n i k (d0.set i v) row y w hb hrow' h3 (by omega) hy h6 h7 ⟨h6, h7⟩ hw h10 (by omega), rfl, ⟨by simp only; omega, hv, skip fun h => h10 (hwn.2 h.2)⟩, by simp only; omega⟩
          · exact .inl ⟨_, (k + 1, v), rfarD_3 adj n i k (d0.set i v) row y hb hrow' h3 (by omega) hy h6 h7 (by omega), rfl, ⟨by simp only; omega, hv, skip fun h => h7 h.1.2⟩, by simp only; omega⟩
        · exact .inl ⟨_, (k + 1, v), rfarD_4 adj n i k (d0.set i v) row y hb hrow' h3 (by omega) hy h6 (by omega), rfl, ⟨by simp only; omega, hv, skip fun h => h6 h.1.1⟩, by simp only; omega⟩
      · refine .inr ⟨_, _, rfarD_5 adj n i k (d0.set i v) row hb hrow' h3, by simp, v, k, rfl, rfl, hv, ?_⟩
        rw [List.take_of_length_le (by omega)] at hs
        exact hs)
    (0, -1) ⟨by simp, .inl rfl, by simp; omega⟩ rfl
  refine ⟨v, k, ?_, hv, hs⟩
  simp only [hs0] at hg
  exact hg

abbrev i27 : List Nat := [1, 1, 1, 1, 0, 1, 0, 0, 1, 0, 0, 1, 0]
theorem rfar_i (adj : Sl (Sl Int)) (to : Int) (hs : adj.l.length ≤ 1000000) (hr : ∀ r ∈ adj.l, r.l.length ≤ 1000000) (n : Nat) (hn : n ≤ 1000000) (d0 : List Int) (hd0 : d0.length = adj.l.length) (hlev : ∀ x, Nod adj.l x → ∀ v, d0[x.toNat]? = some v → Lev adj.l to n x v) :
    ∃ (d : List Int) (i : Int), X.Go 27 81 [] (sub b27 i27) ⟨fl [(0, .c (eSl adj)), (5, .ms 0 1 0 adj.l.length 1 true), (7, dInt n), (8, dInt 0)], ⟨[⟨1, dcells d0⟩], []⟩⟩ (.exit 4) ⟨fl [(0, .c (eSl adj)), (5, .ms 0 1 0 adj.l.length 1 true), (7, dInt n), (8, dInt i), (35, dB false)], ⟨[⟨1, dcells d⟩], []⟩⟩ ∧
      d.length = adj.l.length ∧ ∀ x, Nod adj.l x → ∀ v, d[x.toNat]? = some v → Lev adj.l to (n + 1) x v := by
  obtain ⟨ex, s', hg, _, d, i, rfl, rfl, h1, h2⟩ := Sys.loop_go (X := X) (f := 27) (nt := 81) (Γ := []) (a := sub b27 (i27 ++ [0])) (m := 1)
    (fun σ : Nat × List Int => ⟨fl [(0, .c (eSl adj)), (5, .ms 0 1 0 adj.l.length 1 true), (7, dInt n), (8, dInt σ.1)], ⟨[⟨1, dcells σ.2⟩], []⟩⟩)
    (fun σ => σ.1 ≤ adj.l.length ∧ σ.2.length = adj.l.length ∧ ∀ x, Nod adj.l x → ∀ v, σ.2[x.toNat]? = some v → if x < σ.1 then Lev adj.l to (n + 1) x v else Lev adj.l to n x v) (fun σ => adj.l.length - σ.1)
    (fun ex s' => ∃ (d : List Int) (i : Int), ex = .exit 4 ∧ s' = ⟨fl [(0, .c (eSl adj)), (5, .ms 0 1 0 adj.l.length 1 true), (7, dInt n), (8, dInt i), (35, dB false)], ⟨[⟨1, dcells d⟩], []⟩⟩ ∧
      d.length = adj.l.length ∧ ∀ x, Nod adj.l x → ∀ v, d[x.toNat]? = some v → Lev adj.l to (n + 1) x v)
    (by
      rintro ⟨i, d⟩ ⟨hi, hd, hall⟩
      simp only at hi hd hall
      by_cases h1 : (i : Int) < (adj.l.length : Int)
      · obtain ⟨row, hrow⟩ := get_nat h1
        have hrow' : adj.l[i]? = some row := by simpa using hrow
        have hrl := hr row (List.mem_of_getElem? hrow')
        have hni : Nod adj.l (i : Int) := ⟨by omega, h1⟩
        obtain ⟨w, hw⟩ := get_int (l := d) (i := (i : Int)) (by rw [hd]; exact hni)
        have hli := hall i hni w hw
        rw [if_neg (by omega)] at hli
        by_cases h4 : w ≠ (-1)
        · refine .inl ⟨_, (i + 1, d), rfarC_1 adj n i d w h1 hni hw h4 (by omega), rfl, ⟨by simp only; omega, hd, fun x hx v hv => ?_⟩, by simp only; omega⟩
          simp only at hv ⊢
          by_cases hxi : x = i
          · subst hxi
            rw [if_pos (by omega)]
            rw [hw] at hv; cases hv
            exact hli.keep h4
          · have := hall x hx v hv
            by_cases hlt : x < i
            · rw [if_pos hlt] at this; rw [if_pos (by omega)]; exact this
            · rw [if_neg hlt] at this; rw [if_neg (by omega)]; exact this
        · have hw1 : w = -1 := by omega
          subst hw1
          obtain ⟨v, k, hgo, hv, hvs⟩ := rfar_k adj n i row (by omega) hrow' hrl d hd (by simpa using hw) hn
          refine .inl ⟨_, (i + 1, d.set i v), rfarC_2 adj n i d (-1) (d.set i v) k h1 hni hw h4 hgo (by omega), rfl, ⟨by simp only; omega, by simpa using hd, fun x hx u hu => ?_⟩, by simp only; omega⟩
          simp only at hu ⊢
          rw [List.getElem?_set] at hu
          have hx0 := hx.1
          by_cases hxi : x = i
          · subst hxi
            rw [if_pos (by omega)]
            rw [if_pos (by omega), if_pos (by omega)] at hu
            cases hu
            refine hli.next hni hv (hvs.trans ⟨?_, ?_⟩)
            · rintro ⟨y, hy1, hy2, hy3⟩
              refine ⟨y, ⟨by omega, ⟨row, hrow, hy1⟩, hy2⟩, ?_⟩
              have := hall y hy2 n hy3
              split at this
              · exact this.eqn
              · exact this.eqn
            · rintro ⟨y, ⟨_, ⟨row', hrow2, hy1⟩, hy2⟩, hd3⟩
              rw [hrow] at hrow2; cases hrow2
              obtain ⟨u, hu⟩ := get_int (l := d) (i := y) (by rw [hd]; exact hy2)
              have := hall y hy2 u hu
              refine ⟨y, hy1, hy2, ?_⟩
              rw [hu]
              split at this
              · rw [Lev.eq' (.inr this) hd3]
              · rw [Lev.eq' (.inl this) hd3]
          · rw [if_neg (by omega)] at hu
            have := hall x hx u hu
            by_cases hlt : x < i
            · rw [if_pos hlt] at this; rw [if_pos (by omega)]; exact this
            · rw [if_neg hlt] at this; rw [if_neg (by omega)]; exact this
      · refine .inr ⟨_, _, rfarC_3 adj n i d h1, by simp, d, i, rfl, rfl, hd, fun x hx v hv => ?_⟩
        have := hall x hx v hv
        rw [if_pos (by have := hx.2; omega)] at this
        exact this)
    (0, d0) ⟨by simp, hd0, fun x hx v hv => by
      rw [if_neg (by have := hx.1; simp; omega)]
      exact hlev x hx v hv⟩ rfl
  exact ⟨d, i, hg, h1, h2⟩

theorem rfar_runs (adj : Sl (Sl Int)) (to : Int) (ht : Nod adj.l to) (hs : adj.l.length ≤ 1000000) (hr : ∀ r ∈ adj.l, r.l.length ≤ 1000000) :
    ∃ d : Sl Int, X.RunsC 27 [.c (eSl adj), dInt to] (.c (eSl d)) ∧ IsDist adj.l to d.l := by
  obtain ⟨ex, s', hg, _, d0, i, rfl, rfl, h1⟩ := Sys.loop_go (X := X) (f := 27) (nt := 81) (Γ := []) (a := sub b27 [1, 1, 0, 1, 0, 0]) (m := 1)
    (fun σ : Nat × List Int => ⟨fl [(0, .c (eSl adj)), (1, dInt to), (5, .ms 0 1 0 adj.l.length 1 true), (6, dInt σ.1)], ⟨[⟨1, dcells σ.2⟩], []⟩⟩)
    (fun σ => σ.1 ≤ adj.l.length ∧ σ.2.length = adj.l.length ∧ ∀ j, j < σ.1 → σ.2[j]? = some (-1)) (fun σ => adj.l.length - σ.1)
    (fun ex s' => ∃ (d : List Int) (i : Int), ex = .exit 0 ∧ s' = ⟨fl [(0, .c (eSl adj)), (1, dInt to), (5, .ms 0 1 0 adj.l.length 1 true), (6, dInt i), (17, dB false)], ⟨[⟨1, dcells d⟩], []⟩⟩ ∧ d = List.replicate adj.l.length (-1))
    (by
      rintro ⟨i, d⟩ ⟨hi, hd, hall⟩
      simp only at hi hd hall
      by_cases h1 : (i : Int) < (adj.l.length : Int)
      · refine .inl ⟨_, (i + 1, d.set (i : Int).toNat (-1)), rfarA_1 adj to i d h1 (by omega) (by omega) (by omega), rfl, ⟨by simp only; omega, by simpa using hd, fun j hj => ?_⟩, by simp only; omega⟩
        simp only at hj ⊢
        rw [List.getElem?_set]
        by_cases hji : j = i
        · subst hji; rw [if_pos (by omega), if_pos (by omega)]
        · rw [if_neg (by omega)]; exact hall j (by omega)
      · refine .inr ⟨_, _, rfarA_2 adj to i d h1, by simp, d, i, rfl, rfl, ?_⟩
        refine List.ext_getElem? fun j => ?_
        rw [List.getElem?_replicate]
        by_cases hj : j < adj.l.length
        · rw [if_pos hj]; exact hall j (by omega)
        · rw [if_neg hj]; exact List.getElem?_eq_none (by omega))
    (0, List.replicate adj.l.length 0) ⟨by simp, by simp, fun j hj => absurd hj (by simp)⟩ rfl
  subst h1
  obtain ⟨ex, s', hg', _, d, n, rfl, rfl, h1, h2⟩ := Sys.loop_go (X := X) (f := 27) (nt := 81) (Γ := []) (a := sub b27 [1, 1, 1, 1, 0, 1, 0, 0]) (m := 1)
    (fun σ : Nat × List Int => ⟨fl [(0, .c (eSl adj)), (5, .ms 0 1 0 adj.l.length 1 true), (7, dInt σ.1)], ⟨[⟨1, dcells σ.2⟩], []⟩⟩)
    (fun σ => σ.1 ≤ adj.l.length ∧ σ.2.length = adj.l.length ∧ ∀ x, Nod adj.l x → ∀ v, σ.2[x.toNat]? = some v → Lev adj.l to σ.1 x v) (fun σ => adj.l.length - σ.1)
    (fun ex s' => ∃ (d : List Int) (n : Int), ex = .exit 2 ∧ s' = ⟨fl [(0, .c (eSl adj)), (5, .ms 0 1 0 adj.l.length 1 true), (7, dInt n), (29, dB false)], ⟨[⟨1, dcells d⟩], []⟩⟩ ∧ d.length = adj.l.length ∧ IsDist adj.l to d)
    (by
      rintro ⟨n, d⟩ ⟨hn, hd, hall⟩
      simp only at hn hd hall
      by_cases h1 : (n : Int) < (adj.l.length : Int)
      · obtain ⟨d', i, hgo, hd', hall'⟩ := rfar_i adj to hs hr n (by omega) d hd hall
        exact .inl ⟨_, (n + 1, d'), rfarB_1 adj n d d' i h1 hgo (by omega), rfl, ⟨by simp only; omega, hd', hall'⟩, by simp only; omega⟩
      · refine .inr ⟨_, _, rfarB_2 adj n d h1, by simp, d, n, rfl, rfl, hd, Lev.done hd fun x hx v hv => ?_⟩
        obtain rfl : n = adj.l.length := by omega
        exact hall x hx v hv)
    (0, (List.replicate adj.l.length (-1)).set to.toNat 0) ⟨by simp, by simp, fun x hx v hv => Lev.start ht hx hv⟩ rfl
  exact ⟨Sl.of true d, rfarM_1 adj to _ i d n (by omega) hg ht (by have := ht.1; have := ht.2; simp; omega) hg' h1, h2⟩
end Go.Proofs.Ytclnpjnodmfkcaa
