/-
  Part of the proof: printed by the session's own program out of the program's form, or typed; it states no claim by itself.
-/
import Derived.Test.YtclnpjnodmfkcaaWn
import Derived.Test.YtclnpjnodmfkcaaMp
import Derived.Test.YtclnpjnodmfkcaaWj
import Derived.Test.YtclnpjnodmfkcaaMe
/-
  Ways within a component.
-/
set_option linter.unusedVariables false
set_option linter.unusedSimpArgs false
set_option maxRecDepth 10000
namespace Go.Proofs.Ytclnpjnodmfkcaa
open Go Go.Abs Go.Proofs Go.Proofs.Scc

theorem arc_within {A : Adj} {g : Sl (Sl Int)} {c : List Int} (hg : g.l.map (·.l) = wRows A c) {y z : Int} (ha : Arc A y z) (hy : y ∈ c) (hz : z ∈ c) : Arc g.l y z := by
  have hlen : g.l.length = A.length := by
    have := congrArg List.length hg
    simpa [wRows] using this
  obtain ⟨h0, ⟨row, hrow, hzr⟩, hzn⟩ := ha
  have hyl := (List.getElem?_eq_some_iff.1 hrow).1
  have h1 : (g.l.map (·.l))[y.toNat]? = some (wRow A c y.toNat) := by
    rw [hg]; simp [wRows, hyl]
  rw [List.getElem?_map, Option.map_eq_some_iff] at h1
  obtain ⟨r, hr, hrl⟩ := h1
  refine ⟨h0, ⟨r, hr, ?_⟩, hzn.1, by rw [hlen]; exact hzn.2⟩
  rw [hrl]
  have hyc : ((y.toNat : Nat) : Int) ∈ c := by rw [show ((y.toNat : Nat) : Int) = y by omega]; exact hy
  simp only [wRow, hyc, if_true, selN_mem]
  refine ⟨hzn.1, hzn.2, ?_⟩
  simp [hz, rowOf_eq hrow, hzr]
theorem way_within {A : Adj} {g : Sl (Sl Int)} {c : List Int} (hg : g.l.map (·.l) = wRows A c) {x : Int} (hx : x ∈ c) (hc : ∀ y, Mutual A x y → y ∈ c) {z : Int} (hw : Scc.Way A x z) : Scc.Way A z x → Scc.Way g.l x z := by
  have hlen : g.l.length = A.length := by
    have := congrArg List.length hg
    simpa [wRows] using this
  induction hw with
  | refl h => exact fun _ => .refl ⟨h.1, by rw [hlen]; exact h.2⟩
  | step hxy ha ih =>
    intro hb
    have hyx := ha.way.trans hb
    exact .step (ih hyx) (arc_within hg ha (hc _ ⟨hxy, hyx⟩) (hc _ ⟨hxy.trans ha.way, hb⟩))
end Go.Proofs.Ytclnpjnodmfkcaa
namespace Go.Proofs.Ytclnpjnodmfkcaa
open Go Go.Abs Go.Proofs Go.Proofs.Scc
theorem dist_of_way {A : Adj} {x y : Int} (h : Scc.Way A x y) : ∃ n, Dist A y n x := by
  obtain ⟨n, hn⟩ := way_iff.1 h
  obtain ⟨k, _, hk⟩ := hn.dist
  exact ⟨k, hk⟩
theorem path_yes (adj : Sl (Sl Int)) (x y : Int) (hs : adj.l.length ≤ 40) (hr : ∀ r ∈ adj.l, r.l.length ≤ 1000) (h : Scc.Way adj.l x y) : ∃ s : Sl Int, X.RunsC 14 [.c (eSl adj), dInt x, dInt y] (.tup [.c (eSl s), dB true]) := by
  obtain ⟨s, b, h1, h2⟩ := path_runs adj x y hs hr
  rcases h2 with ⟨_, _, hno⟩ | ⟨rfl, _⟩
  · exact absurd ⟨h.src, h.dst, dist_of_way h⟩ hno
  · exact ⟨s, h1⟩
theorem path_is (adj : Sl (Sl Int)) (x y : Int) (hs : adj.l.length ≤ 40) (hr : ∀ r ∈ adj.l, r.l.length ≤ 1000) : ∃ (s : Sl Int) (b : Bool), X.RunsC 14 [.c (eSl adj), dInt x, dInt y] (.tup [.c (eSl s), dB b]) ∧ (b = true → Scc.Way adj.l x y) := by
  obtain ⟨s, b, h1, h2⟩ := path_runs adj x y hs hr
  refine ⟨s, b, h1, fun hb => ?_⟩
  rcases h2 with ⟨rfl, _, _⟩ | ⟨_, n, d, _, _, _, h3, _⟩
  · cases hb
  · exact way_iff.2 ⟨n, h3.1⟩

/-- Between two components no way leads there and back. -/
theorem round_b (adj cs : Sl (Sl Int)) (hs : adj.l.length ≤ 40) (hr : ∀ r ∈ adj.l, r.l.length ≤ 1000) (hC : IsComps adj.l (cs.l.map (·.l))) (seen : List Int) (i : Nat) (hi : i < cs.l.length) :
    ∃ j : Int, X.Go 7 177 [] (sub b7 [1, 1, 1, 1, 0, 1, 0, 0, 1, 0, 0, 1, 1, 1, 0]) ⟨fl [(0, .c (eSl adj)), (3, .c (eSl cs)), (4, .ms 0 1 0 adj.l.length 1 true), (5, dInt i), (12, dInt 0)], ⟨[⟨1, dcells seen⟩], []⟩⟩ (.exit 4) ⟨fl [(0, .c (eSl adj)), (3, .c (eSl cs)), (4, .ms 0 1 0 adj.l.length 1 true), (5, dInt i), (12, dInt j), (124, dB false)], ⟨[⟨1, dcells seen⟩], []⟩⟩ := by
  have hcl : cs.l.length ≤ 40 := by have := hC.le.1; simp at this; omega
  have head : ∀ (k : Nat) (c : Sl Int), cs.l[k]? = some c → ∃ h, c.l[0]? = some h ∧ h ∈ c.l ∧ c.l.headD 0 = h ∧ c.l ∈ cs.l.map (·.l) := fun k c hc => by
    have hm : c.l ∈ cs.l.map (·.l) := List.mem_map_of_mem (List.mem_of_getElem? hc)
    have hne := (hC.rise _ hm).1
    cases hcl : c.l with
    | nil => exact absurd hcl hne
    | cons a t => exact ⟨a, rfl, by simp, rfl, hcl ▸ hm⟩
  obtain ⟨ex, s', hg, _, j, rfl, rfl⟩ := Sys.loop_go (X := X) (f := 7) (nt := 177) (Γ := []) (a := sub b7 [1, 1, 1, 1, 0, 1, 0, 0, 1, 0, 0, 1, 1, 1, 0, 0]) (m := 1)
    (fun k : Nat => ⟨fl [(0, .c (eSl adj)), (3, .c (eSl cs)), (4, .ms 0 1 0 adj.l.length 1 true), (5, dInt i), (12, dInt k)], ⟨[⟨1, dcells seen⟩], []⟩⟩)
    (fun k => k ≤ i) (fun k => i - k)
    (fun ex s' => ∃ j : Int, ex = .exit 4 ∧ s' = ⟨fl [(0, .c (eSl adj)), (3, .c (eSl cs)), (4, .ms 0 1 0 adj.l.length 1 true), (5, dInt i), (12, dInt j), (124, dB false)], ⟨[⟨1, dcells seen⟩], []⟩⟩)
    (by
      intro k hk
      by_cases h1 : (k : Int) < (i : Int)
      · obtain ⟨c, hc⟩ := get_nat (l := cs.l) (i := i) (by omega)
        obtain ⟨e, he⟩ := get_nat (l := cs.l) (i := k) (by omega)
        obtain ⟨x, x1, x2, x3, x4⟩ := head i c (by simpa using hc)
        obtain ⟨y, y1, y2, y3, y4⟩ := head k e (by simpa using he)
        have hcp := List.length_pos_of_mem x2
        have hep := List.length_pos_of_mem y2
        obtain ⟨s1, p, g1, w1⟩ := path_is adj x y hs hr
        obtain ⟨s2, q, g2, w2⟩ := path_is adj y x hs hr
        have both : ¬ (p = true ∧ q = true) := fun ⟨hp, hq⟩ => by
          have hm : Mutual adj.l x y := ⟨w1 hp, w2 hq⟩
          have hyc := (hC.comp _ x4 x x2 y).2 hm
          have heq : c.l = e.l := rising_ext (hC.rise _ x4).2 (hC.rise _ y4).2 fun z => by rw [hC.comp _ x4 y hyc, hC.comp _ y4 y y2]
          have ho := hC.order
          rw [List.pairwise_map] at ho
          have hlt := List.pairwise_iff_getElem.1 ho k i (by omega) hi (by omega)
          have e1 : cs.l[k]'(by omega) = e := by have := (List.getElem?_eq_some_iff.1 he).2; simpa using this
          have e2 : cs.l[i]'hi = c := by have := (List.getElem?_eq_some_iff.1 hc).2; simpa using this
          rw [e1, e2, heq] at hlt
          omega
        cases p <;> cases q
        · exact .inl ⟨_, k + 1, roundB_4 adj cs seen i k c x e y s1 s2 h1 (by omega) hc (by omega) x1 (by omega) he (by omega) y1 g1 g2 (by omega), rfl, by omega, by omega⟩
        · exact .inl ⟨_, k + 1, roundB_3 adj cs seen i k c x e y s1 s2 h1 (by omega) hc (by omega) x1 (by omega) he (by omega) y1 g1 g2 (by omega), rfl, by omega, by omega⟩
        · exact .inl ⟨_, k + 1, roundB_2 adj cs seen i k c x e y s1 s2 h1 (by omega) hc (by omega) x1 (by omega) he (by omega) y1 g1 g2 (by omega), rfl, by omega, by omega⟩
        · exact absurd ⟨rfl, rfl⟩ both
      · exact .inr ⟨_, _, roundB_5 adj cs seen i k h1, by simp, k, rfl, rfl⟩)
    0 (by omega) rfl
  exact ⟨j, hg⟩
end Go.Proofs.Ytclnpjnodmfkcaa

/-
  Within a component a way leads from each to each.
-/
set_option linter.unusedVariables false
set_option linter.unusedSimpArgs false
set_option maxRecDepth 10000
namespace Go.Proofs.Ytclnpjnodmfkcaa
open Go Go.Abs Go.Proofs Go.Proofs.Scc
theorem round_a (adj cs g : Sl (Sl Int)) (hs : adj.l.length ≤ 40) (hC : IsComps adj.l (cs.l.map (·.l))) (i : Nat) (c : Sl Int) (hc : cs.l[i]? = some c) (hg : g.l.map (·.l) = wRows adj.l c.l) (seen : List Int) (hl : seen.length = adj.l.length) (hv : ∀ v ∈ seen, 0 ≤ v ∧ v ≤ 1000) :
    ∃ (k : Int) (seen' : List Int), X.Go 7 177 [] (sub b7 [1, 1, 1, 1, 0, 1, 0, 0, 1, 0, 0, 1, 0, 1, 0]) ⟨fl [(0, .c (eSl adj)), (3, .c (eSl cs)), (4, .ms 0 1 0 adj.l.length 1 true), (5, dInt i), (6, .c (eSl g)), (7, dInt 0)], ⟨[⟨1, dcells seen⟩], []⟩⟩ (.exit 2) ⟨fl [(0, .c (eSl adj)), (3, .c (eSl cs)), (4, .ms 0 1 0 adj.l.length 1 true), (5, dInt i), (6, .c (eSl g)), (7, dInt k), (45, dB false)], ⟨[⟨1, dcells seen'⟩], []⟩⟩ ∧
      seen'.length = adj.l.length ∧ ∀ x, Nod adj.l x → ∀ v, seen[x.toNat]? = some v → seen'[x.toNat]? = some (v + if x ∈ c.l then 1 else 0) := by
  have hm : c.l ∈ cs.l.map (·.l) := List.mem_map_of_mem (List.mem_of_getElem? hc)
  have hrise := (hC.rise _ hm).2
  have hnod := hC.nod _ hm
  have hcl := hC.le.2 _ hm
  have hil := (List.getElem?_eq_some_iff.1 hc).1
  have hcsl : cs.l.length ≤ 40 := by have := hC.le.1; simp at this; omega
  have hlen : g.l.length = adj.l.length := by
    have := congrArg List.length hg
    simpa [wRows] using this
  have hgr : ∀ r ∈ g.l, r.l.length ≤ 1000 := fun r hr => by
    have h1 : r.l ∈ wRows adj.l c.l := by rw [← hg]; exact List.mem_map_of_mem hr
    obtain ⟨j, _, h2⟩ := List.mem_map.1 h1
    rw [← h2]
    unfold wRow
    split
    · have := selN_len (fun k => decide (k ∈ c.l) && decide (k ∈ rowOf adj.l j)) adj.l.length
      omega
    · simp
  have yes : ∀ x ∈ c.l, ∀ y ∈ c.l, ∃ s : Sl Int, X.RunsC 14 [.c (eSl g), dInt x, dInt y] (.tup [.c (eSl s), dB true]) := fun x hx y hy => by
    have hxy := (hC.comp _ hm x hx y).1 hy
    exact path_yes g x y (by omega) hgr (way_within hg hx (fun z hz => (hC.comp _ hm x hx z).2 hz) hxy.1 hxy.2)
  obtain ⟨ex, s', hgo, _, k, seen', rfl, rfl, h1, h2⟩ := Sys.loop_go (X := X) (f := 7) (nt := 177) (Γ := []) (a := sub b7 [1, 1, 1, 1, 0, 1, 0, 0, 1, 0, 0, 1, 0, 1, 0, 0]) (m := 1)
    (fun σ : Nat × List Int => ⟨fl [(0, .c (eSl adj)), (3, .c (eSl cs)), (4, .ms 0 1 0 adj.l.length 1 true), (5, dInt i), (6, .c (eSl g)), (7, dInt σ.1)], ⟨[⟨1, dcells σ.2⟩], []⟩⟩)
    (fun σ => σ.1 ≤ c.l.length ∧ σ.2.length = adj.l.length ∧ ∀ x, Nod adj.l x → ∀ v, seen[x.toNat]? = some v → σ.2[x.toNat]? = some (v + if x ∈ c.l.take σ.1 then 1 else 0)) (fun σ => c.l.length - σ.1)
    (fun ex s' => ∃ (k : Int) (seen' : List Int), ex = .exit 2 ∧ s' = ⟨fl [(0, .c (eSl adj)), (3, .c (eSl cs)), (4, .ms 0 1 0 adj.l.length 1 true), (5, dInt i), (6, .c (eSl g)), (7, dInt k), (45, dB false)], ⟨[⟨1, dcells seen'⟩], []⟩⟩ ∧
      seen'.length = adj.l.length ∧ ∀ x, Nod adj.l x → ∀ v, seen[x.toNat]? = some v → seen'[x.toNat]? = some (v + if x ∈ c.l then 1 else 0))
    (by
      rintro ⟨k, sn⟩ ⟨hk, hsl, hall⟩
      simp only at hk hsl hall
      have hci : cs.l[(i : Int).toNat]? = some c := by simpa using hc
      by_cases h3 : (k : Int) < (c.l.length : Int)
      · obtain ⟨y, hy⟩ := get_nat h3
        have hy' : c.l[k]? = some y := by simpa using hy
        have hyc := List.mem_of_getElem? hy'
        have hny := hnod y hyc
        have hy0 := hny.1; have hy1 := hny.2
        have htk : c.l.take (k + 1) = c.l.take k ++ [y] := by rw [List.take_add_one, hy']; rfl
        have hnot : y ∉ c.l.take k := fun hmem => by
          have hr2 := hrise
          rw [← List.take_append_drop k c.l, List.pairwise_append] at hr2
          have hyd : y ∈ c.l.drop k := List.mem_iff_getElem?.2 ⟨0, by simpa using hy'⟩
          have := hr2.2.2 y hmem y hyd
          omega
        obtain ⟨v, hvv⟩ := get_int (l := seen) (i := y) (by rw [hl]; exact hny)
        have hb := hv v (List.mem_of_getElem? hvv)
        have hsn := hall y hny v hvv
        rw [if_neg hnot, Int.add_zero] at hsn
        have hpos : 0 < c.l.length := by omega
        have h0m : c.l[0]? = some (c.l[0]'hpos) := List.getElem?_eq_getElem hpos
        obtain ⟨s1, g1⟩ := yes _ (List.getElem_mem hpos) y hyc
        obtain ⟨s2, g2⟩ := yes y hyc _ (List.getElem_mem hpos)
        refine .inl ⟨_, (k + 1, sn.set y.toNat (v + 1)), roundA_3 adj cs g sn i k c y v _ s1 s2 (by omega) hci h3 (by omega) hy (by omega) (by omega) hny hsn (by omega) (by rw [hsl]; exact hny) (by omega) h0m g1 g2 (by omega), rfl, ⟨by simp only; omega, by simpa using hsl, fun x hx u hu => ?_⟩, by simp only; omega⟩
        have hx0 := hx.1
        simp only
        rw [htk, List.getElem?_set]
        by_cases hxy : x = y
        · subst hxy
          rw [hvv] at hu; cases hu
          rw [if_pos rfl, if_pos (by omega)]; simp
        · rw [if_neg (by omega), hall x hx u hu]; simp [hxy]
      · rw [List.take_of_length_le (by omega)] at hall
        exact .inr ⟨_, _, roundA_7 adj cs g sn i k c (by omega) hci h3, by simp, k, sn, rfl, rfl, hsl, hall⟩)
    (0, seen) ⟨by simp, hl, fun x hx v hv => by simp [hv]⟩ rfl
  exact ⟨k, seen', hgo, h1, h2⟩
end Go.Proofs.Ytclnpjnodmfkcaa
