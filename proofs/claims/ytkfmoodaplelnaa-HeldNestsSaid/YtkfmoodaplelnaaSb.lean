/-
  Part of the proof: printed by the session's own program out of the program's form, or typed; it states no claim by itself.
-/
import Derived.Test.YtkfmoodaplelnaaQa
import Derived.Test.YtkfmoodaplelnaaSa
import Derived.Test.YtkfmoodaplelnaaFf
import Derived.Test.YtkfmoodaplelnaaLv
/-
  The document's Round tells whether there is a circle.
-/
set_option linter.unusedVariables false
set_option linter.unusedSimpArgs false
set_option linter.unusedSectionVars false
set_option maxRecDepth 100000
namespace Go.Proofs.Ytkfmoodaplelnaa
open Go Go.Abs Go.Proofs
/-- Who comes in by way of x. -/
def addS (x : Int) : List GNest → List Int → List Int
  | [], a => a
  | e :: l, a => if e.outer = x ∧ e.inner ∉ a then addS x l (a ++ [e.inner]) else addS x l a
theorem addS_mono {x : Int} : ∀ {l : List GNest} {a : List Int}, ∃ b, addS x l a = a ++ b
  | [], a => ⟨[], by simp [addS]⟩
  | e :: l, a => by
    unfold addS
    split
    · obtain ⟨b, hb⟩ := addS_mono (x := x) (l := l) (a := a ++ [e.inner])
      exact ⟨[e.inner] ++ b, by rw [hb, List.append_assoc]⟩
    · exact addS_mono
theorem addS_mem {x y : Int} : ∀ {l : List GNest} {a : List Int}, y ∈ addS x l a ↔ y ∈ a ∨ ∃ e ∈ l, e.outer = x ∧ e.inner = y
  | [], a => by simp [addS]
  | e :: l, a => by
    unfold addS
    split
    · rename_i hc
      rw [addS_mem, List.mem_append, List.mem_singleton]
      constructor
      · rintro ((h | h) | ⟨e', h1, h2, h3⟩)
        · exact .inl h
        · exact .inr ⟨e, List.mem_cons_self, hc.1, h.symm⟩
        · exact .inr ⟨e', List.mem_cons_of_mem _ h1, h2, h3⟩
      · rintro (h | ⟨e', h1, h2, h3⟩)
        · exact .inl (.inl h)
        · rcases List.mem_cons.1 h1 with rfl | h1
          · exact .inl (.inr h3.symm)
          · exact .inr ⟨e', h1, h2, h3⟩
    · rename_i hc
      rw [addS_mem]
      constructor
      · rintro (h | ⟨e', h1, h2, h3⟩)
        · exact .inl h
        · exact .inr ⟨e', List.mem_cons_of_mem _ h1, h2, h3⟩
      · rintro (h | ⟨e', h1, h2, h3⟩)
        · exact .inl h
        · rcases List.mem_cons.1 h1 with rfl | h1
          · refine .inl ?_
            by_cases hy : e'.inner ∈ a
            · exact h3 ▸ hy
            · exact absurd ⟨h2, hy⟩ hc
          · exact .inr ⟨e', h1, h2, h3⟩
theorem addS_nodup {x : Int} : ∀ {l : List GNest} {a : List Int}, a.Nodup → (addS x l a).Nodup
  | [], a, h => h
  | e :: l, a, h => by
    unfold addS
    split
    · rename_i hc
      refine addS_nodup (List.nodup_append.2 ⟨h, by simp, fun y hy z hz => ?_⟩)
      rw [List.mem_singleton] at hz
      rintro rfl
      exact hc.2 (hz ▸ hy)
    · exact addS_nodup h
theorem nodup_sub : ∀ {a b : List Int}, a.Nodup → (∀ x ∈ a, x ∈ b) → a.length ≤ b.length
  | [], b, _, _ => by simp
  | x :: a, b, h, hs => by
    obtain ⟨h1, h2⟩ := List.nodup_cons.1 h
    have hx : x ∈ b := hs x List.mem_cons_self
    have := nodup_sub (a := a) (b := b.erase x) h2 fun y hy => (List.mem_erase_of_ne (fun (he : y = x) => h1 (by rw [← he]; exact hy))).2 (hs y (List.mem_cons_of_mem _ hy))
    rw [List.length_erase_of_mem hx] at this
    have : 0 < b.length := List.length_pos_of_mem hx
    simp; omega
section
variable (p0 : Sl GNest) (hs : p0.l.length ≤ 1000) {N : Nat}
theorem fresh_loop {v3 v5 : Int} {a : List Int} (ha : a.length ≤ 100000) {j : Nat} {e : GNest} (he : p0.l[j]? = some e) : ∀ (k v : Nat) (w : Int) (b : Bool), (v : Int) = w → v ≤ a.length → a.length + 1 ≤ v + k →
    ∃ u, vigilref13_Round_L15_15 p0 v3 v5 a (j : Int) N k b w = some (.e6 (b && (a.drop v).all fun x => decide (x ≠ e.inner)) u)
  | 0, v, w, b, hw, hv, hk => by omega
  | k + 1, v, w, b, hw, hv, hk => by
    subst hw
    unfold vigilref13_Round_L15_15
    by_cases h : v < a.length
    · have hinr : InR ((v : Int) + 1) := inr_of (by omega) (by omega)
      rw [if_pos (by omega), List.drop_eq_getElem_cons h, List.all_cons]
      simp only [if_pos hinr]
      cases b with
      | false =>
        rw [cond_false]
        obtain ⟨u, hu⟩ := fresh_loop ha he k (v + 1) ((v : Int) + 1) false (by omega) (by omega) (by omega)
        exact ⟨u, by rw [hu]; simp⟩
      | true =>
        rw [cond_true, atI_nat, List.getElem?_eq_getElem h, atI_nat, he]
        simp only [Option.bind_some]
        by_cases hc : a[v] ≠ e.inner
        · rw [if_pos hc, decide_eq_true hc]
          obtain ⟨u, hu⟩ := fresh_loop ha he k (v + 1) ((v : Int) + 1) true (by omega) (by omega) (by omega)
          exact ⟨u, by rw [hu]; simp⟩
        · rw [if_neg hc, decide_eq_false hc]
          obtain ⟨u, hu⟩ := fresh_loop ha he k (v + 1) ((v : Int) + 1) false (by omega) (by omega) (by omega)
          exact ⟨u, by rw [hu]; simp⟩
    · rw [if_neg (by omega), List.drop_eq_nil_of_le (by omega)]
      exact ⟨(v : Int), by simp⟩
theorem skip_loop {v3 v5 v6 : Int} {a : List Int} (ha : a.length ≤ 100000) : ∀ (k v : Nat) (w : Int), (v : Int) = w → v ≤ a.length → a.length + 1 ≤ v + k → ∃ u, vigilref13_Round_L15_16 p0 v3 v5 a v6 N k w = some (.e6 u)
  | 0, v, w, hw, hv, hk => by omega
  | k + 1, v, w, hw, hv, hk => by
    subst hw
    unfold vigilref13_Round_L15_16
    by_cases h : v < a.length
    · rw [if_pos (by omega), if_pos (inr_of (by omega) (by omega))]
      exact skip_loop ha k (v + 1) _ (by omega) (by omega) (by omega)
    · rw [if_neg (by omega)]; exact ⟨_, rfl⟩
include hs
theorem add_loop {v3 : Int} {x : Int} {t : Nat} : ∀ (k v : Nat) (w : Int) (a : List Int), (v : Int) = w → v ≤ p0.l.length → p0.l.length + 1 ≤ v + k → a.length ≤ 10000 + v → a.length + (p0.l.length - v) + 1 ≤ N → a[t]? = some x →
    ∃ u, vigilref13_Round_L11_4 p0 v3 (t : Int) N k a w = some (.e4 (addS x (p0.l.drop v) a) u)
  | 0, v, w, a, hw, hv, hk, ha, hN, hx => by omega
  | k + 1, v, w, a, hw, hv, hk, ha, hN, hx => by
    subst hw
    unfold vigilref13_Round_L11_4
    by_cases h : v < p0.l.length
    · have hinr : InR ((v : Int) + 1) := inr_of (by omega) (by omega)
      have he : p0.l[v]? = some p0.l[v] := List.getElem?_eq_getElem h
      rw [if_pos (by omega), List.drop_eq_getElem_cons h, atI_nat, he, atI_nat, hx]
      simp only [Option.bind_some, if_pos hinr, addS]
      by_cases hc : p0.l[v].outer = x
      · rw [if_pos hc]
        obtain ⟨u, hu⟩ := fresh_loop p0 (N := N) (v3 := v3) (v5 := (t : Int)) (a := a) (by omega) he N 0 0 true rfl (by omega) (by omega)
        rw [hu]
        simp only [Option.bind_some, List.drop_zero, Bool.true_and]
        by_cases hm : p0.l[v].inner ∈ a
        · have hall : (a.all fun y => decide (y ≠ p0.l[v].inner)) = false := by
            rw [Bool.eq_false_iff]
            intro hh
            have := List.all_eq_true.1 hh _ hm
            simp at this
          rw [hall, cond_false, if_neg (fun h => h.2 hm)]
          exact add_loop k (v + 1) _ a (by omega) (by omega) (by omega) (by omega) (by omega) hx
        · have hall : (a.all fun y => decide (y ≠ p0.l[v].inner)) = true := by
            rw [List.all_eq_true]
            intro y hy
            exact decide_eq_true fun he => hm (he ▸ hy)
          rw [hall, cond_true, if_pos (show Room 8 (a ++ ([p0.l[v].inner] : List Int)).length by unfold Room; simp; omega), if_pos ⟨hc, hm⟩]
          exact add_loop k (v + 1) _ (a ++ [p0.l[v].inner]) (by omega) (by omega) (by omega) (by simp; omega) (by simp; omega) (by rw [List.getElem?_append_left (List.getElem?_eq_some_iff.1 hx).1]; exact hx)
      · rw [if_neg hc, if_neg (fun h => hc h.1)]
        obtain ⟨u, hu⟩ := skip_loop p0 (N := N) (v3 := v3) (v5 := (t : Int)) (v6 := (v : Int)) (a := a) (by omega) N 0 0 rfl (by omega) (by omega)
        rw [hu]
        simp only [Option.bind_some]
        exact add_loop k (v + 1) _ a (by omega) (by omega) (by omega) (by omega) (by omega) hx
    · rw [if_neg (by omega), List.drop_eq_nil_of_le (by omega)]
      exact ⟨_, rfl⟩
end
/-- From a to y in no step or some. -/
def Rs0 (nx : Int → List Int) (a y : Int) : Prop := y = a ∨ Rch nx a y
theorem Rs0.snoc {nx : Int → List Int} {a y z : Int} (h : Rs0 nx a y) (h' : z ∈ nx y) : Rs0 nx a z := by
  rcases h with rfl | h
  · exact .inr (.one h')
  · exact .inr (h.snoc h')
section
variable (p0 : Sl GNest) (hs : p0.l.length ≤ 1000) {N : Nat} (hN : 2 * p0.l.length + 3 ≤ N)
include hs hN
open Classical in
theorem from_loop {i : Nat} {e : GNest} (he : p0.l[i]? = some e) : ∀ (k v : Nat) (w : Int) (a : List Int), (v : Int) = w → v ≤ a.length → p0.l.length + 1 ≤ v + k → a.Nodup → (∀ y ∈ a, ∃ e' ∈ p0.l, e'.inner = y) → e.inner ∈ a → (∀ y ∈ a, Rs0 (nxL p0.l) e.inner y) → (∀ y ∈ a.take v, y ≠ e.outer ∧ ∀ z ∈ nxL p0.l y, z ∈ a) →
    (vigilref13_Round_L6_2 p0 (i : Int) N k a w = some .r ∧ Rs0 (nxL p0.l) e.inner e.outer) ∨ (∃ a' u, vigilref13_Round_L6_2 p0 (i : Int) N k a w = some (.e2 a' u) ∧ ¬ Rs0 (nxL p0.l) e.inner e.outer)
  | k, v, w, a, hw, hv, hk, hnd, hin, h0, hr, hc => by
    have hlen : a.length ≤ p0.l.length := by
      have := nodup_sub (b := p0.l.map GNest.inner) hnd fun y hy => by obtain ⟨e', h1, h2⟩ := hin y hy; exact List.mem_map.2 ⟨e', h1, h2⟩
      simpa using this
    match k, hk with
    | 0, hk => omega
    | k + 1, hk =>
    subst hw
    unfold vigilref13_Round_L6_2
    by_cases h : v < a.length
    · have hinr : InR ((v : Int) + 1) := inr_of (by omega) (by omega)
      have hx : a[v]? = some a[v] := List.getElem?_eq_getElem h
      rw [if_pos (by omega), atI_nat, hx, atI_nat, he]
      simp only [Option.bind_some, if_pos hinr]
      by_cases hq : a[v] = e.outer
      · rw [if_pos hq]
        exact .inl ⟨rfl, hq ▸ hr _ (List.mem_of_getElem? hx)⟩
      · rw [if_neg hq]
        obtain ⟨u, hu⟩ := add_loop p0 hs (N := N) (v3 := (i : Int)) (x := a[v]) (t := v) N 0 0 a rfl (by omega) (by omega) (by omega) (by omega) hx
        rw [hu]
        simp only [Option.bind_some, List.drop_zero]
        obtain ⟨b, hb⟩ := addS_mono (x := a[v]) (l := p0.l) (a := a)
        refine from_loop he k (v + 1) ((v : Int) + 1) (addS a[v] p0.l a) (by omega) (by rw [hb, List.length_append]; omega) (by omega) (addS_nodup hnd) (fun y hy => ?_) (addS_mem.2 (.inl h0)) (fun y hy => ?_) (fun y hy => ?_)
        · rcases addS_mem.1 hy with hy | ⟨e', h1, _, h3⟩
          · exact hin y hy
          · exact ⟨e', h1, h3⟩
        · rcases addS_mem.1 hy with hy | ⟨e', h1, h2, h3⟩
          · exact hr y hy
          · exact (hr _ (List.mem_of_getElem? hx)).snoc (nxL_mem.2 ⟨e', h1, h2, h3⟩)
        · rw [hb, List.take_append_of_le_length (by omega), List.take_add_one, hx, List.mem_append] at hy
          rcases hy with hy | hy
          · exact ⟨(hc y hy).1, fun z hz => addS_mem.2 (.inl ((hc y hy).2 z hz))⟩
          · simp only [Option.toList_some, List.mem_singleton] at hy
            subst hy
            refine ⟨hq, fun z hz => addS_mem.2 (.inr ?_)⟩
            exact nxL_mem.1 hz
    · rw [if_neg (by omega)]
      refine .inr ⟨_, _, rfl, fun hh => ?_⟩
      rw [List.take_of_length_le (by omega)] at hc
      have hcl : ∀ y z, y ∈ a → Rch (nxL p0.l) y z → z ∈ a := fun y z hy hyz => by
        induction hyz with
        | one h => exact (hc _ hy).2 _ h
        | cons h _ ih => exact ih ((hc _ hy).2 _ h)
      have hmem : e.outer ∈ a := by
        rcases hh with hh | hh
        · rw [hh]; exact h0
        · exact hcl _ _ h0 hh
      exact (hc _ hmem).1 rfl
open Classical in
theorem any_loop : ∀ (k v : Nat) (w : Int), (v : Int) = w → v ≤ p0.l.length → p0.l.length + 1 ≤ v + k → (∀ e ∈ p0.l.take v, ¬ Rs0 (nxL p0.l) e.inner e.outer) →
    (vigilref13_Round_L2 p0 N k w = some .r ∧ Cyc (nxL p0.l)) ∨ (∃ u, vigilref13_Round_L2 p0 N k w = some (.e0 u) ∧ ¬ Cyc (nxL p0.l))
  | 0, v, w, hw, hv, hk, hc => by omega
  | k + 1, v, w, hw, hv, hk, hc => by
    subst hw
    unfold vigilref13_Round_L2
    by_cases h : v < p0.l.length
    · have hinr : InR ((v : Int) + 1) := inr_of (by omega) (by omega)
      have he : p0.l[v]? = some p0.l[v] := List.getElem?_eq_getElem h
      have hm : p0.l[v] ∈ p0.l := List.getElem_mem h
      rw [if_pos (by omega), atI_nat, he]
      simp only [Option.bind_some, if_pos hinr]
      rcases from_loop p0 hs hN he N 0 0 [p0.l[v].inner] rfl (by simp) (by omega) (by simp) (fun y hy => ⟨p0.l[v], hm, (List.mem_singleton.1 hy).symm⟩) (by simp) (fun y hy => .inl (List.mem_singleton.1 hy)) (fun y hy => by simp at hy) with ⟨h1, h2⟩ | ⟨a', u, h1, h2⟩
      · rw [h1]
        refine .inl ⟨rfl, p0.l[v].outer, ?_⟩
        have hstep : p0.l[v].inner ∈ nxL p0.l p0.l[v].outer := nxL_mem.2 ⟨_, hm, rfl, rfl⟩
        rcases h2 with h2 | h2
        · rw [← h2] at hstep; exact .one (by rw [h2] at hstep ⊢; exact hstep)
        · exact .cons hstep h2
      · rw [h1]
        simp only [Option.bind_some]
        refine any_loop k (v + 1) _ (by omega) (by omega) (by omega) fun e hem => ?_
        rw [List.take_add_one, he, List.mem_append] at hem
        rcases hem with hem | hem
        · exact hc e hem
        · simp only [Option.toList_some, List.mem_singleton] at hem
          subst hem; exact h2
    · rw [if_neg (by omega)]
      refine .inr ⟨_, rfl, ?_⟩
      rintro ⟨x, hx⟩
      rw [List.take_of_length_le (by omega)] at hc
      cases hx with
      | one h =>
        obtain ⟨e, h1, h2, h3⟩ := nxL_mem.1 h
        exact hc e h1 (.inl (by rw [h2, h3]))
      | cons h h' =>
        obtain ⟨e, h1, h2, h3⟩ := nxL_mem.1 h
        exact hc e h1 (.inr (by rw [h2, h3]; exact h'))
open Classical in
/-- The document's Round. -/
theorem ref_round : vigilref13_Round N p0 = some (decide (Cyc (nxL p0.l))) := by
  unfold vigilref13_Round
  rcases any_loop p0 hs hN N 0 0 rfl (by omega) (by omega) (fun e he => by simp at he) with ⟨h1, h2⟩ | ⟨u, h1, h2⟩
  · rw [h1, decide_eq_true h2]; rfl
  · rw [h1, decide_eq_false h2]; rfl
end
end Go.Proofs.Ytkfmoodaplelnaa

/-
  HeldNests answers true.
-/
set_option linter.unusedVariables false
set_option linter.unusedSimpArgs false
set_option linter.unusedSectionVars false
set_option maxRecDepth 100000
namespace Go.Proofs.Ytkfmoodaplelnaa
open Go Go.Abs Go.Proofs
/-- What is known. -/
abbrev kn5 : Kn := ⟨fun _ _ => none, memoP [([], dB true)], fun _ _ => none, fun h => (by cases h), some true, fun {b} h st => (by cases h; rfl), sort2P 25 sortN, true, fun _ => rfl⟩
theorem nests_same {f : GFlow} {m : Int} (hlen : f.edges.l.length ≤ 100) : letI := kn5; ∃ x l, held_Nests 1000 f m = some x ∧ vigilref13_Nests 1000 f m = some l ∧ x.l = l ∧ l.length ≤ 64 := by
  letI := kn5
  show ∃ x l, held_Nests 1000 f m = some x ∧ vigilref13_Nests 1000 f m = some l ∧ x.l = l ∧ l.length ≤ 64
  unfold held_Nests vigilref13_Nests
  rw [if_pos (show Kn.srt = true from rfl)]
  rcases find_ok (f := f) (m := m) (N := 1000) (by omega) (by omega) (by omega) with ⟨hs, h1⟩ | ⟨hs, h1⟩
  · rcases ref_held (f := f) (m := m) (N := 1000) (by omega) (by omega) (by omega) with ⟨_, h2⟩ | ⟨hs', _⟩
    · rw [h1, h2]; exact ⟨_, _, rfl, rfl, rfl, by simp⟩
    · exact absurd hs' hs
  · rcases ref_held (f := f) (m := m) (N := 1000) (by omega) (by omega) (by omega) with ⟨hs', _⟩ | ⟨_, h2⟩
    · exact absurd hs hs'
    · rcases h1 with ⟨o1, σ, w, g1, iv, g2⟩ | ⟨g1, o1, o2, o3, g2⟩
      · rcases h2 with ⟨σ', l, q1, q2, q3⟩ | ⟨q1, _⟩
        · rw [g1] at q1; cases q1
          rw [g2, q2]
          simp only [Option.bind_some, cond_true]
          have hb := hs.1
          have hm8 : m.toNat ≤ 8 := by omega
          have hmm : (m.toNat : Int) = m := by omega
          have hes : ∀ e ∈ f.edges.l, edgeOk f.locs (m.toNat : Int) e := by rw [hmm]; exact hs.2
          obtain ⟨r, r1, r2⟩ := reached_ok (N := 1000) hs (by omega) (by omega) (by omega) g1 iv
          obtain ⟨u, hu⟩ := l7_ok (f := f) (m := m.toNat) hm8 (σ := σ) (by omega) (by omega) hes (x := ⟨false, true, l⟩) q3 r2 (N := 1000) (by omega) (by omega) 1000 0 0 [] rfl (by omega) (by omega) (by simp)
          rw [hmm, List.nil_append, show m.toNat - 0 = m.toNat from rfl] at hu
          have hlen2 := allN_len (σ := σ) (es := f.edges.l) (m := m.toNat) (c := m.toNat) (v := 0)
          have h64 : m.toNat * m.toNat ≤ 8 * 8 := Nat.mul_le_mul hm8 hm8
          have heq := nests_eq hm8 iv hes
          rw [r1]
          simp only [Option.bind_some]
          rw [hu, if_pos ⟨by omega, by omega, fun e he hk => by have := (hs.2 e he).2.2 (by omega); omega⟩]
          revert heq
          generalize nestsL m.toNat σ f.edges.l = c
          intro heq
          cases c with
          | nil => exact ⟨_, _, rfl, rfl, heq, by show (allN _ _ _ _ _).length ≤ 64; omega⟩
          | cons y ys => exact ⟨_, _, rfl, rfl, heq, by show (allN _ _ _ _ _).length ≤ 64; omega⟩
        · rw [g1] at q1; cases q1
      · rcases h2 with ⟨σ', l, q1, q2, q3⟩ | ⟨q1, q2⟩
        · rw [g1] at q1; cases q1
        · rw [g2, q2]; exact ⟨_, _, rfl, rfl, rfl, by simp⟩
open Classical in
theorem nests_true (f : GFlow) (m : Int) (l : Sl GNest) : letI := kn5; vigillaw13_HeldNests 1000 f m l = some true := by
  letI := kn5
  show vigillaw13_HeldNests 1000 f m l = some true
  have hlv : Kn.lv = some true := rfl
  unfold vigillaw13_HeldNests vigillaw13_HeldNests_J1
  by_cases h1 : (f.edges.l.length : Int) > 100
  · rw [if_pos h1]; rfl
  rw [if_neg h1]
  have hmain : l.l.length ≤ 100 → ((held_Nests 1000 f m).bind fun x_5 =>
    (vigilref13_Nests 1000 f m).bind fun x_6 =>
    (vigilref13_All 1000 x_5 (Sl.gr x_6)).bind fun x_7 =>
    bif x_7 then
      if Room 16 (([] : List GNest) ++ l.l).length then (held_Round 1000 (⟨false, false, (([] : List GNest) ++ l.l)⟩ : Sl GNest)).bind fun x_8 =>
      (vigilref13_Round 1000 l).bind fun x_9 =>
      bif x_8 then
        bif x_9 then
          (Kn.lv).bind fun x_10 =>
          some x_10
        else some false
      else bif x_9 then
        some false
      else (Kn.lv).bind fun x_11 =>
      some x_11
      else none
    else some false) = some true := fun hl => by
    obtain ⟨x, y, s1, s2, s3, s4⟩ := nests_same (f := f) (m := m) (by omega)
    have ha := all_same x (Sl.gr y) (N := 1000) s3 (by rw [s3]; omega) (by rw [s3]; omega)
    have hr := round_plain (⟨false, false, l.l⟩ : Sl GNest) (N := 1000) (by simp; omega) (by simp; omega)
    have hr2 := ref_round l (by omega) (N := 1000) (by omega)
    rw [s1, s2]
    simp only [Option.bind_some, ha, cond_true, List.nil_append]
    rw [if_pos (show Room 16 l.l.length by unfold Room; omega), hr, hr2, hlv]
    simp only [Option.bind_some]
    cases decide (Cyc (nxL l.l)) <;> rfl
  by_cases h2 : f.locs > 100
  · rw [if_pos h2]
    by_cases h3 : f.locs ≤ 600
    · rw [if_pos h3]; rfl
    rw [if_neg h3]
    by_cases h4 : (l.l.length : Int) > 100
    · rw [if_pos h4]; rfl
    rw [if_neg h4]
    exact hmain (by omega)
  rw [if_neg h2]
  by_cases h4 : (l.l.length : Int) > 100
  · rw [if_pos h4]; rfl
  rw [if_neg h4]
  exact hmain (by omega)
end Go.Proofs.Ytkfmoodaplelnaa
