/-
  Part of the proof: printed by the session's own program out of the program's form, or typed; it states no claim by itself.
-/
import Derived.Test.YtkfmoodaplelnaaPb
import Derived.Test.YtkfmoodaplelnaaNe
import Derived.Test.YtkfmoodaplelnaaFf
/-
  held.Nests and the document's Nests are the same list.
-/
set_option linter.unusedVariables false
set_option linter.unusedSimpArgs false
set_option linter.unusedSectionVars false
set_option maxRecDepth 100000
namespace Go.Proofs.Ytkfmoodaplelnaa
open Go Go.Abs Go.Proofs
def leG (a b : GNest) : Prop := a.outer < b.outer ∨ (a.outer = b.outer ∧ a.inner ≤ b.inner)
def ltG (a b : GNest) : Prop := a.outer < b.outer ∨ (a.outer = b.outer ∧ a.inner < b.inner)
theorem ltG_of {a b : GNest} (h : leG a b) (hn : a ≠ b) : ltG a b := by
  rcases h with h | ⟨h1, h2⟩
  · exact .inl h
  · refine .inr ⟨h1, ?_⟩
    rcases Int.lt_or_eq_of_le h2 with h | h
    · exact h
    · exact absurd (by cases a; cases b; simp only at h1 h; subst h1; subst h; rfl) hn
theorem leG_anti {a b : GNest} (h : leG a b) (h' : leG b a) : a = b := by
  unfold leG at h h'
  cases a; cases b
  simp only at h h'
  simp only [GNest.mk.injEq]
  omega
theorem strict_ext : ∀ {l l' : List GNest}, l.Pairwise ltG → l'.Pairwise ltG → (∀ x, x ∈ l ↔ x ∈ l') → l = l'
  | [], [], _, _, _ => rfl
  | [], b :: l', _, _, h => absurd ((h b).2 List.mem_cons_self) (by simp)
  | a :: l, [], _, _, h => absurd ((h a).1 List.mem_cons_self) (by simp)
  | a :: l, b :: l', h1, h2, h => by
    obtain ⟨p1, p2⟩ := List.pairwise_cons.1 h1
    obtain ⟨q1, q2⟩ := List.pairwise_cons.1 h2
    have hab : a = b := by
      rcases List.mem_cons.1 ((h a).1 List.mem_cons_self) with g | g
      · exact g
      · rcases List.mem_cons.1 ((h b).2 List.mem_cons_self) with g' | g'
        · exact g'.symm
        · have := p1 b g'; have := q1 a g
          unfold ltG at *; omega
    subst hab
    have hne : ∀ {x}, ltG a x → x ≠ a := fun hx he => by subst he; unfold ltG at hx; omega
    rw [strict_ext p2 q2 fun x => ⟨fun hx => (List.mem_cons.1 ((h x).1 (List.mem_cons_of_mem _ hx))).resolve_left (hne (p1 x hx)), fun hx => (List.mem_cons.1 ((h x).2 (List.mem_cons_of_mem _ hx))).resolve_left (hne (q1 x hx))⟩]
/-! ### sorted and compact -/
theorem sortG_mem {l : List GNest} {x : GNest} : x ∈ sortG l ↔ x ∈ l := by
  unfold sortG sortN
  constructor
  · intro h
    obtain ⟨p, h1, h2⟩ := List.mem_map.1 h
    obtain ⟨y, h3, h4⟩ := List.mem_map.1 (List.mem_mergeSort.1 h1)
    subst h4; subst h2; exact h3
  · intro h
    exact List.mem_map.2 ⟨toP x, List.mem_mergeSort.2 (List.mem_map.2 ⟨x, h, rfl⟩), rfl⟩
theorem sortG_size (l : List GNest) : (sortG l).length = l.length := by simp [sortG, sortN]
theorem cmp_le (x y : Int × Int) : (!(decide (cmpN y x < 0))) = true ↔ x.1 < y.1 ∨ (x.1 = y.1 ∧ x.2 ≤ y.2) := by
  unfold cmpN
  simp only [Bool.not_eq_true', decide_eq_false_iff_not]
  split
  · exact iff_of_false (by decide) (by omega)
  · split
    · exact iff_of_true (by decide) (by omega)
    · split
      · exact iff_of_false (by decide) (by omega)
      · split
        · exact iff_of_true (by decide) (by omega)
        · exact iff_of_true (by decide) (by omega)
theorem sortG_sorted (l : List GNest) : (sortG l).Pairwise leG := by
  unfold sortG sortN
  rw [List.pairwise_map]
  have h := List.pairwise_mergeSort (le := fun x y : Int × Int => !(decide (cmpN y x < 0))) (fun a b c h1 h2 => by rw [cmp_le] at *; omega) (fun a b => by rw [Bool.or_eq_true, cmp_le, cmp_le]; omega) (l.map toP)
  exact h.imp fun {a b} h => (cmp_le a b).1 h
theorem dn_ok {l : List GNest} (hs : l.Pairwise leG) : ∀ i, i ≤ l.length → (dn l i).Pairwise ltG ∧ ∀ x, x ∈ dn l i ↔ x ∈ l.take i
  | 0, _ => ⟨List.Pairwise.nil, fun x => by simp [dn]⟩
  | i + 1, hi => by
    obtain ⟨h1, h2⟩ := dn_ok hs i (by omega)
    have hlt : i < l.length := by omega
    have hg : l[i]? = some l[i] := List.getElem?_eq_getElem hlt
    have htake : l.take (i + 1) = l.take i ++ [l[i]] := by rw [List.take_add_one, hg]; rfl
    have hp : ∀ j k : Nat, j < k → ∀ a b, l[j]? = some a → l[k]? = some b → leG a b := fun j k hjk a b ha hb => by
      obtain ⟨ha1, ha2⟩ := List.getElem?_eq_some_iff.1 ha
      obtain ⟨hb1, hb2⟩ := List.getElem?_eq_some_iff.1 hb
      subst ha2; subst hb2
      exact List.pairwise_iff_getElem.1 hs j k ha1 hb1 hjk
    unfold dn
    rw [hg, htake]
    simp only
    split
    · rename_i hc
      refine ⟨h1, fun x => ?_⟩
      rw [h2, List.mem_append, List.mem_singleton]
      refine ⟨.inl, fun h => h.elim id fun h => ?_⟩
      subst h
      obtain ⟨c1, c2⟩ := List.getElem?_eq_some_iff.1 hc.2
      exact List.mem_take_iff_getElem.2 ⟨i - 1, by omega, c2⟩
    · rename_i hc
      refine ⟨List.pairwise_append.2 ⟨h1, List.pairwise_singleton _ _, fun y hy z hz => ?_⟩, fun x => by rw [List.mem_append, List.mem_append, h2]⟩
      rw [List.mem_singleton] at hz
      subst hz
      obtain ⟨j, hj, hj2⟩ := List.mem_take_iff_getElem.1 ((h2 y).1 hy)
      have hj3 : l[j]? = some y := by rw [List.getElem?_eq_getElem (by omega), hj2]
      refine ltG_of (hp j i (by omega) _ _ hj3 hg) fun he => ?_
      subst he
      refine hc ⟨by omega, ?_⟩
      by_cases hji : j = i - 1
      · subst hji; exact hj3
      · have hm : l[i - 1]? = some (l[i - 1]'(by omega)) := List.getElem?_eq_getElem (by omega)
        have a1 := hp j (i - 1) (by omega) _ _ hj3 hm
        have a2 := hp (i - 1) i (by omega) _ _ hm hg
        rw [hm, leG_anti a1 a2]
theorem dn_whole {l : List GNest} : (dn (sortG l) l.length).Pairwise ltG ∧ ∀ x, x ∈ dn (sortG l) l.length ↔ x ∈ l := by
  obtain ⟨h1, h2⟩ := dn_ok (sortG_sorted l) l.length (by rw [sortG_size]; omega)
  refine ⟨h1, fun x => ?_⟩
  rw [h2, List.take_of_length_le (by rw [sortG_size]; omega), sortG_mem]
/-! ### held.Nests -/
/-- Is j entered while i is owned? -/
def inE (σ : Mo) (i j : Nat) (e : GEdge) : Bool := decide (e.kind = 4) && (decide (e.mon = (j : Int)) && (hasM σ e.from_ && (decide ((at0 σ e.from_).get j = 0) && decide ((at0 σ e.from_).get i > 0))))
def inN (σ : Mo) (es : List GEdge) (i j : Nat) : Bool := es.any (inE σ i j)
theorem nestJ_mem {o : Held_owned} {b : Int} {m : Nat} {x : GNest} : x ∈ nestJ o b m 0 ↔ ∃ i : Nat, i < m ∧ o.get i > 0 ∧ x = ⟨(i : Int), b⟩ := by
  unfold nestJ
  simp only [List.mem_map, List.mem_filter, List.mem_range'_1, decide_eq_true_eq]
  constructor
  · rintro ⟨i, ⟨h1, h2⟩, h3⟩; exact ⟨i, by omega, h2, h3.symm⟩
  · rintro ⟨i, h1, h2, h3⟩; exact ⟨i, ⟨by omega, h2⟩, h3.symm⟩
theorem nestsL_mem {f : GFlow} {m : Nat} (hm : m ≤ 8) {σ : Mo} (iv : Iv f m σ) {es : List GEdge} (hes : ∀ e ∈ es, edgeOk f.locs (m : Int) e) {x : GNest} : x ∈ nestsL m σ es ↔ ∃ i j : Nat, i < m ∧ j < m ∧ inN σ es i j = true ∧ x = ⟨(i : Int), (j : Int)⟩ := by
  unfold nestsL
  rw [List.mem_flatMap]
  simp only [inN, inE, List.any_eq_true, Bool.and_eq_true, decide_eq_true_eq]
  constructor
  · rintro ⟨e, he, hx⟩
    unfold nestE at hx
    split at hx
    · rename_i hc
      obtain ⟨i, h1, h2, h3⟩ := nestJ_mem.1 hx
      have hk := (hes e he).2.2 (by omega)
      have hb := iv.at_bd e.from_ e.mon.toNat
      have ha : atN σ e.from_ = at0 σ e.from_ := rfl
      rw [ha] at h2 hc
      refine ⟨i, e.mon.toNat, h1, by omega, ⟨e, he, hc.2.1, by omega, hc.1, by have := hc.2.2; omega, h2⟩, ?_⟩
      rw [h3, show ((e.mon.toNat : Nat) : Int) = e.mon by omega]
    · cases hx
  · rintro ⟨i, j, h1, h2, ⟨e, he, hk, hmon, hh, hz, hp⟩, rfl⟩
    refine ⟨e, he, ?_⟩
    unfold nestE
    have ha : atN σ e.from_ = at0 σ e.from_ := rfl
    have hj : e.mon.toNat = j := by omega
    rw [ha, if_pos ⟨hh, hk, by rw [hj, hz]; decide⟩, hmon]
    exact nestJ_mem.2 ⟨i, h1, hp, rfl⟩
end Go.Proofs.Ytkfmoodaplelnaa

/-
  The document's Nests, plain.
-/
set_option linter.unusedVariables false
set_option linter.unusedSimpArgs false
set_option linter.unusedSectionVars false
set_option maxRecDepth 100000
namespace Go.Proofs.Ytkfmoodaplelnaa
open Go Go.Abs Go.Proofs
def rowN (σ : Mo) (es : List GEdge) (i : Nat) : Nat → Nat → List GNest
  | 0, _ => []
  | c + 1, v => if inN σ es i v = true then ⟨(i : Int), (v : Int)⟩ :: rowN σ es i c (v + 1) else rowN σ es i c (v + 1)
def allN (σ : Mo) (es : List GEdge) (m : Nat) : Nat → Nat → List GNest
  | 0, _ => []
  | c + 1, v => rowN σ es v m 0 ++ allN σ es m c (v + 1)
theorem rowN_mem {σ : Mo} {es : List GEdge} {i : Nat} {x : GNest} : ∀ {c v : Nat}, x ∈ rowN σ es i c v ↔ ∃ j, v ≤ j ∧ j < v + c ∧ inN σ es i j = true ∧ x = ⟨(i : Int), (j : Int)⟩
  | 0, v => by simp only [rowN, List.not_mem_nil, false_iff]; rintro ⟨j, h1, h2, _⟩; omega
  | c + 1, v => by
    have ih := rowN_mem (σ := σ) (es := es) (i := i) (x := x) (c := c) (v := v + 1)
    unfold rowN
    split
    · rename_i hc
      rw [List.mem_cons, ih]
      constructor
      · rintro (h | ⟨j, h1, h2, h3, h4⟩)
        · exact ⟨v, by omega, by omega, hc, h⟩
        · exact ⟨j, by omega, by omega, h3, h4⟩
      · rintro ⟨j, h1, h2, h3, h4⟩
        by_cases hj : j = v
        · subst hj; exact .inl h4
        · exact .inr ⟨j, by omega, by omega, h3, h4⟩
    · rename_i hc
      rw [ih]
      constructor
      · rintro ⟨j, h1, h2, h3, h4⟩; exact ⟨j, by omega, by omega, h3, h4⟩
      · rintro ⟨j, h1, h2, h3, h4⟩
        have : j ≠ v := fun h => hc (h ▸ h3)
        exact ⟨j, by omega, by omega, h3, h4⟩
theorem rowN_len {σ : Mo} {es : List GEdge} {i : Nat} : ∀ {c v : Nat}, (rowN σ es i c v).length ≤ c
  | 0, _ => by simp [rowN]
  | c + 1, v => by
    have ih := rowN_len (σ := σ) (es := es) (i := i) (c := c) (v := v + 1)
    unfold rowN
    split
    · simp; omega
    · omega
theorem rowN_lt {σ : Mo} {es : List GEdge} {i : Nat} : ∀ {c v : Nat}, (rowN σ es i c v).Pairwise ltG
  | 0, _ => List.Pairwise.nil
  | c + 1, v => by
    have ih := rowN_lt (σ := σ) (es := es) (i := i) (c := c) (v := v + 1)
    unfold rowN
    split
    · refine List.pairwise_cons.2 ⟨fun y hy => ?_, ih⟩
      obtain ⟨j, h1, h2, h3, rfl⟩ := rowN_mem.1 hy
      exact .inr ⟨rfl, by show (v : Int) < (j : Int); omega⟩
    · exact ih
theorem allN_mem {σ : Mo} {es : List GEdge} {m : Nat} {x : GNest} : ∀ {c v : Nat}, x ∈ allN σ es m c v ↔ ∃ i j : Nat, v ≤ i ∧ i < v + c ∧ j < m ∧ inN σ es i j = true ∧ x = ⟨(i : Int), (j : Int)⟩
  | 0, v => by simp only [allN, List.not_mem_nil, false_iff]; rintro ⟨i, j, h1, h2, _⟩; omega
  | c + 1, v => by
    have ih := allN_mem (σ := σ) (es := es) (m := m) (x := x) (c := c) (v := v + 1)
    unfold allN
    rw [List.mem_append, ih, rowN_mem]
    constructor
    · rintro (⟨j, h1, h2, h3, h4⟩ | ⟨i, j, h1, h2, h3, h4⟩)
      · exact ⟨v, j, by omega, by omega, by omega, h3, h4⟩
      · exact ⟨i, j, by omega, by omega, h3, h4⟩
    · rintro ⟨i, j, h1, h2, h3, h4, h5⟩
      by_cases hi : i = v
      · subst hi; exact .inl ⟨j, by omega, by omega, h4, h5⟩
      · exact .inr ⟨i, j, by omega, by omega, h3, h4, h5⟩
theorem allN_len {σ : Mo} {es : List GEdge} {m : Nat} : ∀ {c v : Nat}, (allN σ es m c v).length ≤ c * m
  | 0, _ => by simp [allN]
  | c + 1, v => by
    have ih := allN_len (σ := σ) (es := es) (m := m) (c := c) (v := v + 1)
    have h := rowN_len (σ := σ) (es := es) (i := v) (c := m) (v := 0)
    unfold allN
    rw [List.length_append, Nat.succ_mul]; omega
theorem allN_lt {σ : Mo} {es : List GEdge} {m : Nat} : ∀ {c v : Nat}, (allN σ es m c v).Pairwise ltG
  | 0, _ => List.Pairwise.nil
  | c + 1, v => by
    unfold allN
    refine List.pairwise_append.2 ⟨rowN_lt, allN_lt, fun x hx y hy => ?_⟩
    obtain ⟨j, _, _, _, rfl⟩ := rowN_mem.1 hx
    obtain ⟨i, j', h1, _, _, _, rfl⟩ := allN_mem.1 hy
    exact .inl (by show (v : Int) < (i : Int); omega)
/-- What the two come to. -/
theorem nests_eq {f : GFlow} {m : Nat} (hm : m ≤ 8) {σ : Mo} (iv : Iv f m σ) {es : List GEdge} (hes : ∀ e ∈ es, edgeOk f.locs (m : Int) e) : dn (sortG (nestsL m σ es)) (nestsL m σ es).length = allN σ es m m 0 := by
  obtain ⟨h1, h2⟩ := dn_whole (l := nestsL m σ es)
  refine strict_ext h1 allN_lt fun x => ?_
  rw [h2, nestsL_mem hm iv hes, allN_mem]
  constructor
  · rintro ⟨i, j, h1, h2, h3⟩; exact ⟨i, j, by omega, by omega, h2, h3⟩
  · rintro ⟨i, j, h1, h2, h3⟩; exact ⟨i, j, by omega, h3⟩
/-! ### the document's loops -/
section
variable {f : GFlow} {m : Nat} (hm : m ≤ 8) {σ : Mo} (hL : f.locs ≤ 100000) (hlen : f.edges.l.length ≤ 100000) (hes : ∀ e ∈ f.edges.l, edgeOk f.locs (m : Int) e) {x : Sl (Sl Int)} {r : Sl Bool} (hx : x.l.map Sl.l = outL m f.locs.toNat σ) (hr : ∀ i : Nat, i < f.locs.toNat → r.l[i]? = some (hasM σ (i : Int)))
include hm hL hlen hes hx hr
def isM : vigilref13_Nests_J16_8O → Bool
  | .m .. => true
  | .m_1 .. => false
theorem j16_ok {N : Nat} {p1 : Int} {l : List GNest} {b : Bool} {i j v : Nat} (hi : i < m) (hj : j < m) {e : GEdge} (he : f.edges.l[v]? = some e) : ∃ o, vigilref13_Nests_J16_8 f p1 x r (i : Int) l (j : Int) b (v : Int) N = some o ∧ isM o = inE σ i j e := by
  have hmem : e ∈ f.edges.l := List.mem_of_getElem? he
  have hok := hes e hmem
  unfold vigilref13_Nests_J16_8 inE
  rw [atI_nat, he]
  simp only [Option.bind_some]
  by_cases h1 : e.kind = 4
  · rw [if_pos h1, decide_eq_true h1]
    by_cases h2 : e.mon = (j : Int)
    · rw [if_pos h2, decide_eq_true h2]
      obtain ⟨a, ha⟩ := Int.eq_ofNat_of_zero_le hok.1.1
      have ha' : a < f.locs.toNat := by have := hok.1; omega
      rw [ha, atI_nat, hr a ha']
      simp only [Option.bind_some]
      cases hh : hasM σ (a : Int) with
      | true =>
        simp only [cond_true, Bool.true_and]
        obtain ⟨o, ho⟩ : ∃ o, getM σ (a : Int) = some o := by
          unfold hasM at hh
          exact Option.isSome_iff_exists.1 hh
        have hat : at0 σ (a : Int) = o := by unfold at0 lookM; rw [ho]; rfl
        have hxv := congrArg (·[a]?) hx
        simp only [outL, List.getElem?_map, List.getElem?_range ha', Option.map_some, ho] at hxv
        obtain ⟨s, hs1, hs2⟩ := Option.map_eq_some_iff.1 hxv
        rw [atI_nat, hs1, hat]
        simp only [Option.bind_some]
        rw [hs2, atI_nat, vecm_get hm _ hj]
        simp only [Option.bind_some]
        by_cases h3 : o.get j = 0
        · rw [if_pos h3, decide_eq_true h3, atI_nat, vecm_get hm _ hi]
          simp only [Option.bind_some, Bool.true_and]
          by_cases h4 : o.get i > 0
          · rw [if_pos h4, decide_eq_true h4]; exact ⟨_, rfl, rfl⟩
          · rw [if_neg h4, decide_eq_false h4]; exact ⟨_, rfl, rfl⟩
        · rw [if_neg h3, decide_eq_false h3]; exact ⟨_, rfl, rfl⟩
      | false => exact ⟨_, rfl, rfl⟩
    · rw [if_neg h2, decide_eq_false h2]; exact ⟨_, rfl, rfl⟩
  · rw [if_neg h1, decide_eq_false h1]; exact ⟨_, rfl, rfl⟩
theorem l14_ok {N : Nat} {p1 : Int} {l : List GNest} {i j : Nat} (hi : i < m) (hj : j < m) : ∀ (k v : Nat) (w : Int) (b : Bool), (v : Int) = w → v ≤ f.edges.l.length → f.edges.l.length + 1 ≤ v + k →
    ∃ u, vigilref13_Nests_L14_4 f p1 x r (i : Int) l (j : Int) N k b w = some (.e4 (b || (f.edges.l.drop v).any (inE σ i j)) u)
  | 0, v, w, b, hw, hv, hk => by omega
  | k + 1, v, w, b, hw, hv, hk => by
    subst hw
    unfold vigilref13_Nests_L14_4
    by_cases h : v < f.edges.l.length
    · rw [if_pos (by omega)]
      have he : f.edges.l[v]? = some f.edges.l[v] := List.getElem?_eq_getElem h
      obtain ⟨o, h1, h2⟩ := j16_ok hm hL hlen hes hx hr (N := N) (p1 := p1) (l := l) (b := b) hi hj he
      rw [h1, List.drop_eq_getElem_cons h, List.any_cons, ← h2]
      simp only [Option.bind_some]
      have hinr : InR ((v : Int) + 1) := inr_of (by omega) (by omega)
      cases o with
      | m =>
        simp only [if_pos hinr]
        obtain ⟨u, hu⟩ := l14_ok hi hj k (v + 1) ((v : Int) + 1) true (by omega) (by omega) (by omega)
        exact ⟨u, by rw [hu]; simp [isM]⟩
      | m_1 =>
        simp only [if_pos hinr]
        obtain ⟨u, hu⟩ := l14_ok hi hj k (v + 1) ((v : Int) + 1) b (by omega) (by omega) (by omega)
        exact ⟨u, by rw [hu]; simp [isM]⟩
    · rw [if_neg (by omega), List.drop_eq_nil_of_le (by omega)]
      exact ⟨(v : Int), by simp⟩
theorem l10_ok {N : Nat} (hN : f.edges.l.length + 1 ≤ N) {i : Nat} (hi : i < m) : ∀ (k v : Nat) (w : Int) (l : List GNest), (v : Int) = w → v ≤ m → m + 1 ≤ v + k → l.length ≤ 1000 + v →
    ∃ u, vigilref13_Nests_L10_2 f (m : Int) x r (i : Int) N k l w = some (.e2 (l ++ rowN σ f.edges.l i (m - v) v) u)
  | 0, v, w, l, hw, hv, hk, hl => by omega
  | k + 1, v, w, l, hw, hv, hk, hl => by
    subst hw
    unfold vigilref13_Nests_L10_2
    by_cases h : v < m
    · rw [if_pos (by omega)]
      obtain ⟨u, hu⟩ := l14_ok hm hL hlen hes hx hr (N := N) (p1 := (m : Int)) (l := l) hi h N 0 0 false rfl (by omega) (by omega)
      have hinr : InR ((v : Int) + 1) := inr_of (by omega) (by omega)
      obtain ⟨c, hc⟩ : ∃ c, m - v = c + 1 := ⟨m - v - 1, by omega⟩
      have hc' : m - (v + 1) = c := by omega
      have ih := fun l => l10_ok hN hi k (v + 1) ((v : Int) + 1) l (by omega) (by omega) (by omega)
      rw [hc'] at ih
      rw [hu, hc]
      simp only [Option.bind_some, List.drop_zero, Bool.false_or, rowN]
      have hin : f.edges.l.any (inE σ i v) = inN σ f.edges.l i v := rfl
      rw [hin]
      cases hh : inN σ f.edges.l i v with
      | true =>
        rw [cond_true, if_pos (show Room 16 (l ++ ([({ outer := (i : Int), inner := (v : Int) } : GNest)] : List GNest)).length by unfold Room; simp; omega), if_pos hinr, if_pos rfl]
        obtain ⟨u, hu⟩ := ih (l ++ ([({ outer := (i : Int), inner := (v : Int) } : GNest)] : List GNest)) (by simp; omega)
        exact ⟨u, by rw [hu, List.append_assoc]; rfl⟩
      | false =>
        rw [cond_false, if_pos hinr, if_neg (by decide)]
        exact ih l (by omega)
    · rw [if_neg (by omega), show m - v = 0 by omega]
      exact ⟨_, by rw [show rowN σ f.edges.l i 0 v = [] from rfl, List.append_nil]⟩
theorem l7_ok {N : Nat} (hN : f.edges.l.length + 1 ≤ N) (hN2 : 9 ≤ N) : ∀ (k v : Nat) (w : Int) (l : List GNest), (v : Int) = w → v ≤ m → m + 1 ≤ v + k → l.length ≤ v * m →
    ∃ u, vigilref13_Nests_L7 f (m : Int) x r N k l w = some (.e0 (l ++ allN σ f.edges.l m (m - v) v) u)
  | 0, v, w, l, hw, hv, hk, hl => by omega
  | k + 1, v, w, l, hw, hv, hk, hl => by
    subst hw
    unfold vigilref13_Nests_L7
    by_cases h : v < m
    · rw [if_pos (by omega)]
      have hb : v * m ≤ 8 * 8 := Nat.mul_le_mul (by omega) hm
      obtain ⟨u, hu⟩ := l10_ok hm hL hlen hes hx hr hN h N 0 0 l rfl (by omega) (by omega) (by omega)
      have hinr : InR ((v : Int) + 1) := inr_of (by omega) (by omega)
      obtain ⟨c, hc⟩ : ∃ c, m - v = c + 1 := ⟨m - v - 1, by omega⟩
      have hc' : m - (v + 1) = c := by omega
      have hlr := rowN_len (σ := σ) (es := f.edges.l) (i := v) (c := m) (v := 0)
      obtain ⟨u', hu'⟩ := l7_ok hN hN2 k (v + 1) ((v : Int) + 1) (l ++ rowN σ f.edges.l v m 0) (by omega) (by omega) (by omega) (by rw [List.length_append, Nat.succ_mul]; omega)
      rw [hc'] at hu'
      rw [hu, hc]
      simp only [Option.bind_some, if_pos hinr, allN]
      exact ⟨u', by rw [show m - 0 = m from rfl, hu', List.append_assoc]⟩
    · rw [if_neg (by omega), show m - v = 0 by omega]
      exact ⟨_, by rw [show allN σ f.edges.l m 0 v = [] from rfl, List.append_nil]⟩
end
/-! ### are two lists of nests the same? -/
theorem all_loop (p0 p1 : Sl GNest) (N : Nat) (hl : p0.l = p1.l) (hs : p0.l.length ≤ 100000) : ∀ (k v : Nat) (w : Int), (v : Int) = w → v ≤ p0.l.length → p0.l.length + 1 ≤ v + k → ∃ u, vigilref13_All_L4 p0 p1 N k w = some (.e0 u)
  | 0, v, w, hw, hv, hk => by omega
  | k + 1, v, w, hw, hv, hk => by
    subst hw
    unfold vigilref13_All_L4
    by_cases h : v < p0.l.length
    · rw [if_pos (by omega), ← hl, atI_nat, List.getElem?_eq_getElem h]
      simp only [Option.bind_some, if_true]
      rw [if_pos (inr_of (by omega) (by omega))]
      exact all_loop p0 p1 N hl hs k (v + 1) _ (by omega) (by omega) (by omega)
    · rw [if_neg (by omega)]; exact ⟨_, rfl⟩
theorem all_same (p0 p1 : Sl GNest) {N : Nat} (hl : p0.l = p1.l) (hs : p0.l.length ≤ 100000) (hN : p0.l.length + 1 ≤ N) : vigilref13_All N p0 p1 = some true := by
  unfold vigilref13_All
  rw [if_neg (by rw [hl]; simp)]
  obtain ⟨u, hu⟩ := all_loop p0 p1 N hl hs N 0 0 rfl (by omega) (by omega)
  rw [hu]; rfl
end Go.Proofs.Ytkfmoodaplelnaa
