/-
  Part of the proof: printed by the session's own program out of the program's form, or typed; it states no claim by itself.
-/
import Derived.Test.YtclnpjnodmfkcaaWn
import Derived.Test.YtclnpjnodmfkcaaMn
/-
  The document's Comps.
-/
set_option linter.unusedVariables false
set_option linter.unusedSimpArgs false
set_option maxRecDepth 10000
namespace Go.Proofs.Ytclnpjnodmfkcaa
open Go Go.Abs Go.Proofs Go.Proofs.Scc

/-- Who is reached from each. -/
structure AllM (A : Adj) (n : Nat) (all : List (Sl Bool)) : Prop where
  len : all.length = n
  get : ∀ j : Nat, j < n → ∃ m, all[j]? = some m ∧ m.l.length = A.length ∧ ∀ x, Nod A x → (m.l[x.toNat]? = some true ↔ Scc.Way A j x)
theorem rcomps_all (adj : Sl (Sl Int)) (hr : ∀ r ∈ adj.l, r.l.length ≤ 1000000) (hs : adj.l.length ≤ 1000000) :
    ∃ (all : List (Sl Bool)) (i : Int), X.Go 18 71 [] (sub b18 [1, 1, 0, 1, 0]) ⟨fl [(0, .c (eSl adj)), (3, .c (.sl true true [] 0)), (4, dInt 0)], ⟨[], []⟩⟩ (.exit 0) ⟨fl [(0, .c (eSl adj)), (3, apv all), (4, dInt i), (13, dB false)], ⟨[], []⟩⟩ ∧ AllM adj.l adj.l.length all := by
  obtain ⟨ex, s', hg, _, all, i, rfl, rfl, h⟩ := Sys.loop_go (X := X) (f := 18) (nt := 71) (Γ := []) (a := sub b18 [1, 1, 0, 1, 0, 0]) (m := 0)
    (fun σ : Nat × List (Sl Bool) => ⟨fl [(0, .c (eSl adj)), (3, apv σ.2), (4, dInt σ.1)], ⟨[], []⟩⟩)
    (fun σ => σ.1 ≤ adj.l.length ∧ AllM adj.l σ.1 σ.2) (fun σ => adj.l.length - σ.1)
    (fun ex s' => ∃ (all : List (Sl Bool)) (i : Int), ex = .exit 0 ∧ s' = ⟨fl [(0, .c (eSl adj)), (3, apv all), (4, dInt i), (13, dB false)], ⟨[], []⟩⟩ ∧ AllM adj.l adj.l.length all)
    (by
      rintro ⟨i, all⟩ ⟨hi, hA⟩
      simp only at hi hA
      by_cases h1 : (i : Int) < (adj.l.length : Int)
      · obtain ⟨seen, g1, g2, g3⟩ := marks_runs adj (Sl.of true [(i : Int)]) hs (by simp [Sl.of]) hr
        have hl := hA.len
        refine .inl ⟨_, (i + 1, all ++ [Sl.of true seen]), rcompsA_1 adj i all (Sl.of true seen) h1 g1 (by simp; omega) (by omega), rfl, ⟨by simp only; omega, by simp [hl], fun j hj => ?_⟩, by simp only; omega⟩
        by_cases hji : j = i
        · subst hji
          refine ⟨Sl.of true seen, by rw [← hl]; simp, g2, fun x hx => ?_⟩
          have := g3 x
          simp only [Reached, Sl.of, List.mem_singleton, exists_eq_left] at this
          rw [← this]
          exact ⟨fun h => ⟨hx.1, h⟩, fun h => h.2⟩
        · obtain ⟨m, h2, h3, h4⟩ := hA.get j (by omega)
          exact ⟨m, by rw [List.getElem?_append_left (by omega)]; exact h2, h3, h4⟩
      · have : i = adj.l.length := by omega
        subst this
        exact .inr ⟨_, _, rcompsA_2 adj _ all h1, by simp, all, _, rfl, rfl, hA⟩)
    (0, []) ⟨by simp, by simp, fun j hj => absurd hj (by simp)⟩ rfl
  exact ⟨all, i, hg, h⟩

/-- Those from i on, below k, that go round with i. -/
structure Part (A : Adj) (i k : Nat) (c : List Int) : Prop where
  mem : ∀ x, x ∈ c ↔ (i : Int) ≤ x ∧ x < k ∧ Mutual A i x
  rise : c.Pairwise (· < ·)
theorem rcomps_part (adj : Sl (Sl Int)) (hs : adj.l.length ≤ 1000000) (all : List (Sl Bool)) (hA : AllM adj.l adj.l.length all) (i : Nat) (hi : i < adj.l.length) (ov : DV) (done : List Bool) (hd : done.length = adj.l.length) :
    ∃ (c : List Int) (k : Int) (done' : List Bool), X.Go 18 71 [] (sub b18 [1, 1, 1, 1, 1, 0, 1, 0, 0, 1, 0, 0, 1, 1, 0, 1, 0]) ⟨fl [(0, .c (eSl adj)), (3, .ap false (cells all) all.length 1), (5, ov), (6, .ms 0 1 0 adj.l.length 1 true), (7, dInt i), (8, .c (.sl true true [] 0)), (9, dInt i)], ⟨[⟨1, dcells done⟩], []⟩⟩ (.exit 4) ⟨fl [(0, .c (eSl adj)), (3, .ap false (cells all) all.length 1), (5, ov), (6, .ms 0 1 0 adj.l.length 1 true), (7, dInt i), (8, apv c), (9, dInt k), (40, dB false)], ⟨[⟨1, dcells done'⟩], []⟩⟩ ∧
      Part adj.l i adj.l.length c ∧ done'.length = adj.l.length ∧ ∀ x, Nod adj.l x → ∀ b, done[x.toNat]? = some b → done'[x.toNat]? = some (b || decide (x ∈ c)) := by
  obtain ⟨ex, s', hg, _, c, k, done', rfl, rfl, h1, h2, h3⟩ := Sys.loop_go (X := X) (f := 18) (nt := 71) (Γ := []) (a := sub b18 [1, 1, 1, 1, 1, 0, 1, 0, 0, 1, 0, 0, 1, 1, 0, 1, 0, 0]) (m := 1)
    (fun σ : Nat × List Int × List Bool => ⟨fl [(0, .c (eSl adj)), (3, .ap false (cells all) all.length 1), (5, ov), (6, .ms 0 1 0 adj.l.length 1 true), (7, dInt i), (8, apv σ.2.1), (9, dInt σ.1)], ⟨[⟨1, dcells σ.2.2⟩], []⟩⟩)
    (fun σ => (i ≤ σ.1 ∧ σ.1 ≤ adj.l.length) ∧ Part adj.l i σ.1 σ.2.1 ∧ σ.2.2.length = adj.l.length ∧ ∀ x, Nod adj.l x → ∀ b, done[x.toNat]? = some b → σ.2.2[x.toNat]? = some (b || decide (x ∈ σ.2.1))) (fun σ => adj.l.length - σ.1)
    (fun ex s' => ∃ (c : List Int) (k : Int) (done' : List Bool), ex = .exit 4 ∧ s' = ⟨fl [(0, .c (eSl adj)), (3, .ap false (cells all) all.length 1), (5, ov), (6, .ms 0 1 0 adj.l.length 1 true), (7, dInt i), (8, apv c), (9, dInt k), (40, dB false)], ⟨[⟨1, dcells done'⟩], []⟩⟩ ∧
      Part adj.l i adj.l.length c ∧ done'.length = adj.l.length ∧ ∀ x, Nod adj.l x → ∀ b, done[x.toNat]? = some b → done'[x.toNat]? = some (b || decide (x ∈ c)))
    (by
      rintro ⟨k, c, dn⟩ ⟨⟨hik0, hk⟩, hP, hl, hdn⟩
      simp only at hik0 hk hP hl hdn
      by_cases h1 : (k : Int) < (adj.l.length : Int)
      · have hnk : Nod adj.l (k : Int) := ⟨by omega, h1⟩
        have hni : Nod adj.l (i : Int) := ⟨by omega, by omega⟩
        obtain ⟨mi, a1, a2, a3⟩ := hA.get i hi
        obtain ⟨mk, b1, b2, b3⟩ := hA.get k (by omega)
        have hal := hA.len
        obtain ⟨u, hu⟩ := get_int (l := mi.l) (i := (k : Int)) (by rw [a2]; exact hnk)
        obtain ⟨w, hw⟩ := get_int (l := mk.l) (i := (i : Int)) (by rw [b2]; exact hni)
        have hub : u = true ↔ Scc.Way adj.l i k := by rw [← a3 k hnk, hu]; simp
        have hwb : w = true ↔ Scc.Way adj.l k i := by rw [← b3 i hni, hw]; simp
        have ia : 0 ≤ (i : Int) ∧ (i : Int) < (all.length : Int) := by omega
        have ka : 0 ≤ (k : Int) ∧ (k : Int) < (all.length : Int) := by omega
        have a1' : all[(i : Int).toNat]? = some mi := by simpa using a1
        have b1' : all[(k : Int).toNat]? = some mk := by simpa using b1
        have kmi : 0 ≤ (k : Int) ∧ (k : Int) < (mi.l.length : Int) := by rw [a2]; exact hnk
        have imk : 0 ≤ (i : Int) ∧ (i : Int) < (mk.l.length : Int) := by rw [b2]; exact hni
        have skip : ¬ Mutual adj.l i k → Part adj.l i (k + 1) c := fun hno => ⟨fun x => by
          rw [hP.mem]
          constructor
          · rintro ⟨x1, x2, x3⟩; exact ⟨x1, by omega, x3⟩
          · rintro ⟨x1, x2, x3⟩
            refine ⟨x1, ?_, x3⟩
            have : x ≠ k := fun e => hno (e ▸ x3)
            omega, hP.rise⟩
        have hcl : c.length ≤ adj.l.length := nodes_le (hP.rise.imp fun {x y} h e => by rw [e] at h; omega) fun x hx => by
          have := (hP.mem x).1 hx; omega
        cases u with
        | false => exact .inl ⟨_, (k + 1, c, dn), rcompsC_3 adj all dn i k ov c mi h1 ia a1' kmi hu (by omega), rfl, ⟨by simp only; omega, skip fun h => by have := hub.2 h.1; simp at this, hl, hdn⟩, by simp only; omega⟩
        | true =>
          cases w with
          | false => exact .inl ⟨_, (k + 1, c, dn), rcompsC_2 adj all dn i k ov c mi mk h1 ia a1' kmi hu ka b1' imk hw (by omega), rfl, ⟨by simp only; omega, skip fun h => by have := hwb.2 h.2; simp at this, hl, hdn⟩, by simp only; omega⟩
          | true =>
            have hm : Mutual adj.l i k := ⟨hub.1 rfl, hwb.1 rfl⟩
            by_cases hik : (i : Int) ≤ k
            · refine .inl ⟨_, (k + 1, c ++ [(k : Int)], dn.set (k : Int).toNat true), rcompsC_1 adj all dn i k ov c mi mk h1 ia a1' kmi hu ka b1' imk hw (by simp; omega) hnk (by omega) (by omega), rfl, ⟨by simp only; omega, ⟨fun x => ?_, ?_⟩, by simpa using hl, fun x hx b hb => ?_⟩, by simp only; omega⟩
              · simp only
                rw [List.mem_append, List.mem_singleton, hP.mem]
                constructor
                · rintro (⟨x1, x2, x3⟩ | rfl)
                  · exact ⟨x1, by omega, x3⟩
                  · exact ⟨hik, by omega, hm⟩
                · rintro ⟨x1, x2, x3⟩
                  by_cases hxk : x = k
                  · exact .inr hxk
                  · exact .inl ⟨x1, by omega, x3⟩
              · simp only
                rw [List.pairwise_append]
                refine ⟨hP.rise, by simp, fun x hx y hy => ?_⟩
                rw [List.mem_singleton] at hy
                have := (hP.mem x).1 hx; omega
              · have hx0 := hx.1
                simp only
                rw [List.getElem?_set]
                by_cases hxk : x = k
                · subst hxk; rw [if_pos rfl, if_pos (by omega)]; simp
                · rw [if_neg (by omega), hdn x hx b hb]; simp [hxk]
            · omega
      · have : k = adj.l.length := by omega
        subst this
        exact .inr ⟨_, _, rcompsC_4 adj all dn i _ ov c h1, by simp, c, _, dn, rfl, rfl, hP, hl, hdn⟩)
    (i, [], done) ⟨by simp only; omega, ⟨fun x => by simp; omega, by simp⟩, hd, fun x hx b hb => by simp [hb]⟩ rfl
  exact ⟨c, k, done', hg, h1, h2, h3⟩

structure BS where
  i : Nat
  out : List (Sl Int)
  done : List Bool
structure Outs (A : Adj) (i : Nat) (out : List (Sl Int)) (done : List Bool) : Prop where
  len : done.length = A.length
  rise : ∀ o ∈ out, o.l ≠ [] ∧ o.l.Pairwise (· < ·)
  comp : ∀ o ∈ out, ∀ x ∈ o.l, ∀ y, y ∈ o.l ↔ Mutual A x y
  nod : ∀ o ∈ out, ∀ x ∈ o.l, Nod A x
  order : out.Pairwise (fun o o' => o.l.headD 0 < o'.l.headD 0)
  before : ∀ o ∈ out, o.l.headD 0 < i
  mark : ∀ x, Nod A x → (done[x.toNat]? = some true ↔ ∃ o ∈ out, x ∈ o.l)
  all : ∀ x, Nod A x → x < i → ∃ o ∈ out, x ∈ o.l
theorem mut_refl {A : Adj} {x : Int} (h : Nod A x) : Mutual A x x := ⟨.refl h, .refl h⟩
theorem mut_symm {A : Adj} {x y : Int} (h : Mutual A x y) : Mutual A y x := ⟨h.2, h.1⟩
theorem mut_trans {A : Adj} {x y z : Int} (h : Mutual A x y) (h' : Mutual A y z) : Mutual A x z := ⟨h.1.trans h'.1, h'.2.trans h.2⟩
theorem Outs.step {A : Adj} {i : Nat} {out : List (Sl Int)} {done done' : List Bool} (h : Outs A i out done) (hi : i < A.length) (h0 : done[i]? = some false) {c : List Int} (hP : Part A i A.length c) (hl : done'.length = A.length) (hd : ∀ x, Nod A x → ∀ b, done[x.toNat]? = some b → done'[x.toNat]? = some (b || decide (x ∈ c))) : c ≠ [] ∧ Outs A (i + 1) (out ++ [Sl.of false c]) done' := by
  have hni : Nod A (i : Int) := ⟨by omega, by omega⟩
  have hic : (i : Int) ∈ c := (hP.mem i).2 ⟨Int.le_refl _, by omega, mut_refl hni⟩
  have hnot : ¬ ∃ o ∈ out, (i : Int) ∈ o.l := fun he => by
    have := (h.mark i hni).2 he
    rw [Int.toNat_natCast, h0] at this; cases this
  have hhead : c.headD 0 = i := by
    have hr := hP.rise
    cases c with
    | nil => simp at hic
    | cons a t =>
      rw [List.pairwise_cons] at hr
      have ha := (hP.mem a).1 (by simp)
      show a = (i : Int)
      rcases List.mem_cons.1 hic with e | e
      · exact e.symm
      · have := hr.1 _ e; omega
  have hne : c ≠ [] := fun e => by rw [e] at hic; simp at hic
  refine ⟨hne, hl, fun o ho => ?_, fun o ho => ?_, fun o ho x hx => ?_, ?_, fun o ho => ?_, fun x hx => ?_, fun x hx hlt => ?_⟩
  · rcases List.mem_append.1 ho with ho | ho
    · exact h.rise o ho
    · rw [List.mem_singleton] at ho; subst ho; exact ⟨hne, hP.rise⟩
  · rcases List.mem_append.1 ho with ho | ho
    · exact h.comp o ho
    · rw [List.mem_singleton] at ho; subst ho
      intro x hx y
      have hx' := (hP.mem x).1 hx
      show y ∈ c ↔ _
      constructor
      · intro hy
        exact mut_trans (mut_symm hx'.2.2) ((hP.mem y).1 hy).2.2
      · intro hm
        have hiy := mut_trans hx'.2.2 hm
        have hny : Nod A y := hiy.2.src
        refine (hP.mem y).2 ⟨?_, hny.2, hiy⟩
        by_cases hlt : y < (i : Int)
        · obtain ⟨o, ho, hyo⟩ := h.all y hny hlt
          exact absurd ⟨o, ho, (h.comp o ho y hyo i).2 (mut_symm hiy)⟩ hnot
        · omega
  · rcases List.mem_append.1 ho with ho | ho
    · exact h.nod o ho x hx
    · rw [List.mem_singleton] at ho; subst ho
      exact ((hP.mem x).1 hx).2.2.2.src
  · rw [List.pairwise_append]
    refine ⟨h.order, by simp, fun o ho o' ho' => ?_⟩
    rw [List.mem_singleton] at ho'; subst ho'
    show _ < c.headD 0
    rw [hhead]; exact h.before o ho
  · rcases List.mem_append.1 ho with ho | ho
    · have := h.before o ho; omega
    · rw [List.mem_singleton] at ho; subst ho
      show c.headD 0 < _
      rw [hhead]; omega
  · obtain ⟨b, hb⟩ := get_int (l := done) (i := x) (by rw [h.len]; exact hx)
    rw [hd x hx b hb]
    have hm := h.mark x hx
    rw [hb] at hm
    simp only [Option.some.injEq] at hm ⊢
    rw [Bool.or_eq_true, hm, decide_eq_true_eq]
    constructor
    · rintro (⟨o, ho, hxo⟩ | hxc)
      · exact ⟨o, List.mem_append_left _ ho, hxo⟩
      · exact ⟨_, List.mem_append_right _ (List.mem_singleton.2 rfl), hxc⟩
    · rintro ⟨o, ho, hxo⟩
      rcases List.mem_append.1 ho with ho | ho
      · exact .inl ⟨o, ho, hxo⟩
      · rw [List.mem_singleton] at ho; subst ho; exact .inr hxo
  · by_cases hxi : x = i
    · subst hxi; exact ⟨_, List.mem_append_right _ (List.mem_singleton.2 rfl), hic⟩
    · obtain ⟨o, ho, hxo⟩ := h.all x hx (by omega)
      exact ⟨o, List.mem_append_left _ ho, hxo⟩
theorem Outs.keep {A : Adj} {i : Nat} {out : List (Sl Int)} {done : List Bool} (h : Outs A i out done) (hi : i < A.length) (h1 : done[i]? = some true) : Outs A (i + 1) out done :=
  ⟨h.len, h.rise, h.comp, h.nod, h.order, fun o ho => by have := h.before o ho; omega, h.mark, fun x hx hlt => by
    by_cases hxi : x = i
    · subst hxi; exact (h.mark _ hx).1 (by simpa using h1)
    · exact h.all x hx (by omega)⟩
theorem Outs.done {A : Adj} {out : List (Sl Int)} {dn : List Bool} (h : Outs A A.length out dn) : IsComps A (out.map (·.l)) := by
  refine ⟨fun o ho => ?_, fun o ho => ?_, fun o ho => ?_, fun x hx => ?_, ?_⟩
  · obtain ⟨s, hs, rfl⟩ := List.mem_map.1 ho; exact h.rise s hs
  · obtain ⟨s, hs, rfl⟩ := List.mem_map.1 ho; exact h.comp s hs
  · obtain ⟨s, hs, rfl⟩ := List.mem_map.1 ho; exact h.nod s hs
  · obtain ⟨o, ho, hxo⟩ := h.all x hx hx.2
    exact ⟨o.l, List.mem_map_of_mem ho, hxo⟩
  · rw [List.pairwise_map]; exact h.order
theorem Outs.le {A : Adj} {i : Nat} {out : List (Sl Int)} {dn : List Bool} (h : Outs A i out dn) : out.length ≤ A.length := by
  have hnd : (out.map fun o => o.l.headD 0).Nodup := by
    rw [List.Nodup, List.pairwise_map]
    exact h.order.imp fun {a b} hlt e => by rw [e] at hlt; omega
  have := nodes_le (n := A.length) hnd fun x hx => by
    obtain ⟨o, ho, rfl⟩ := List.mem_map.1 hx
    refine h.nod o ho _ ?_
    have := (h.rise o ho).1
    cases hol : o.l with
    | nil => exact absurd hol this
    | cons a t => simp
  simpa using this
end Go.Proofs.Ytclnpjnodmfkcaa

/-
  The document's Comps: what it answers.
-/
set_option linter.unusedVariables false
set_option linter.unusedSimpArgs false
set_option maxRecDepth 10000
namespace Go.Proofs.Ytclnpjnodmfkcaa
open Go Go.Abs Go.Proofs Go.Proofs.Scc

theorem rcomps_runs (adj : Sl (Sl Int)) (hr : ∀ r ∈ adj.l, r.l.length ≤ 1000000) (hs : adj.l.length ≤ 1000000) :
    ∃ s : Sl (Sl Int), X.RunsC 18 [.c (eSl adj)] (.c (eSl s)) ∧ IsComps adj.l (s.l.map (·.l)) := by
  obtain ⟨all, i, hall, hA⟩ := rcomps_all adj hr hs
  have hstart : Outs adj.l 0 [] (List.replicate adj.l.length false) := by
    refine ⟨by simp, by simp, by simp, by simp, by simp, by simp, fun x hx => ?_, fun x hx hlt => by have := hx.1; simp at hlt; omega⟩
    have h1 := hx.1; have h2 := hx.2
    rw [List.getElem?_replicate, if_pos (by omega)]; simp
  by_cases hN : adj.l.length = 0
  · have hall0 : all = [] := List.length_eq_zero_iff.1 (by rw [hA.len, hN])
    subst hall0
    have hno : ¬ ((0 : Nat) : Int) < (adj.l.length : Int) := by omega
    obtain ⟨ex, s', hg, _, rfl, rfl⟩ := Sys.loop_go (X := X) (f := 18) (nt := 71) (Γ := []) (a := sub b18 [1, 1, 1, 1, 1, 0, 1, 0, 0]) (m := 1)
      (fun σ : Nat => ⟨fl [(0, .c (eSl adj)), (3, .c (.sl true true [] 0)), (5, .c (.sl true true [] 0)), (6, .ms 0 1 0 adj.l.length 1 true), (7, dInt (0 : Nat))], ⟨[⟨1, dcells (List.replicate adj.l.length (false : Bool))⟩], []⟩⟩)
      (fun σ => True) (fun σ => σ)
      (fun ex s' => ex = .exit 2 ∧ s' = ⟨fl [(0, .c (eSl adj)), (3, .c (.sl true true [] 0)), (5, .c (.sl true true [] 0)), (6, .ms 0 1 0 adj.l.length 1 true), (7, dInt (0 : Nat)), (29, dB false)], ⟨[⟨1, dcells (List.replicate adj.l.length (false : Bool))⟩], []⟩⟩)
      (fun σ _ => .inr ⟨_, _, rcomps9_2 adj (List.replicate adj.l.length false) (0 : Nat) hno, by simp, rfl, rfl⟩)
      0 trivial rfl
    refine ⟨Sl.nil, rcomps0_1 adj i (0 : Nat) hall (by omega) hg, ?_⟩
    have := hstart
    rw [show (0 : Nat) = adj.l.length from hN.symm] at this
    exact this.done
  · have hane : all ≠ [] := fun e => hN (by rw [← hA.len, e]; rfl)
    rw [apv_ne hane] at hall
    obtain ⟨ex, s', hg, _, out, j, done, rfl, rfl, h1⟩ := Sys.loop_go (X := X) (f := 18) (nt := 71) (Γ := []) (a := sub b18 [1, 1, 1, 1, 1, 0, 1, 0, 0]) (m := 1)
      (fun σ : BS => ⟨fl [(0, .c (eSl adj)), (3, .ap false (cells all) all.length 1), (5, apv σ.out), (6, .ms 0 1 0 adj.l.length 1 true), (7, dInt σ.i)], ⟨[⟨1, dcells σ.done⟩], []⟩⟩)
      (fun σ => σ.i ≤ adj.l.length ∧ Outs adj.l σ.i σ.out σ.done) (fun σ => adj.l.length - σ.i)
      (fun ex s' => ∃ (out : List (Sl Int)) (j : Int) (done : List Bool), ex = .exit 2 ∧ s' = ⟨fl [(0, .c (eSl adj)), (3, .ap false (cells all) all.length 1), (5, apv out), (6, .ms 0 1 0 adj.l.length 1 true), (7, dInt j), (29, dB false)], ⟨[⟨1, dcells done⟩], []⟩⟩ ∧ Outs adj.l adj.l.length out done)
      (by
        rintro ⟨i, out, done⟩ ⟨hi, hO⟩
        simp only at hi hO
        by_cases h1 : (i : Int) < (adj.l.length : Int)
        · have hni : Nod adj.l (i : Int) := ⟨by omega, h1⟩
          obtain ⟨b, hb⟩ := get_int (l := done) (i := (i : Int)) (by rw [hO.len]; exact hni)
          have hb' : done[i]? = some b := by simpa using hb
          have hle := hO.le
          cases b with
          | true => exact .inl ⟨_, ⟨i + 1, out, done⟩, rcompsB_1 adj all done i out h1 hni hb (by omega), rfl, ⟨by simp only; omega, hO.keep (by omega) hb'⟩, by simp only; omega⟩
          | false =>
            obtain ⟨c, k, done', hgo, hP, hl, hd⟩ := rcomps_part adj hs all hA i (by omega) (apv out) done hO.len
            obtain ⟨hne, hO'⟩ := hO.step (by omega) hb' hP hl hd
            rw [apv_ne hne] at hgo
            exact .inl ⟨_, ⟨i + 1, out ++ [Sl.of false c], done'⟩, rcompsB_2 adj all done i out c k done' h1 hni hb hgo (by simp; omega) (by omega), rfl, ⟨by simp only; omega, hO'⟩, by simp only; omega⟩
        · have : i = adj.l.length := by omega
          subst this
          exact .inr ⟨_, _, rcompsB_3 adj all done _ out h1, by simp, out, _, done, rfl, rfl, hO⟩)
      ⟨0, [], List.replicate adj.l.length false⟩ ⟨by simp, hstart⟩ rfl
    have hone : out ≠ [] := fun e => by
      obtain ⟨o, ho, _⟩ := h1.all 0 ⟨by omega, by omega⟩ (by omega)
      rw [e] at ho; simp at ho
    rw [apv_ne hone] at hg
    exact ⟨Sl.of false out, rcompsM_1 adj all i out j done hall (by omega) hg, h1.done⟩

theorem IsComps.ext {A : Adj} {L L' : List (List Int)} (h : IsComps A L) (h' : IsComps A L') : L = L' := by
  have hd : ∀ {M : List (List Int)}, IsComps A M → ∀ o ∈ M, o.headD 0 ∈ o := fun hM o ho => by
    have := (hM.rise o ho).1
    cases o with
    | nil => exact absurd rfl this
    | cons a t => simp
  have sub : ∀ {M M' : List (List Int)}, IsComps A M → IsComps A M' → ∀ o ∈ M, o ∈ M' := fun {M M'} hM hM' o ho => by
    have hx := hd hM o ho
    obtain ⟨o', ho', hx'⟩ := hM'.all _ (hM.nod o ho _ hx)
    have e : o = o' := rising_ext (hM.rise o ho).2 (hM'.rise o' ho').2 fun y => by rw [hM.comp o ho _ hx, hM'.comp o' ho' _ hx']
    rw [e]; exact ho'
  have key : ∀ (M M' : List (List Int)), M.Pairwise (fun o o' => o.headD 0 < o'.headD 0) → M'.Pairwise (fun o o' => o.headD 0 < o'.headD 0) → (∀ o, o ∈ M ↔ o ∈ M') → M = M' := by
    intro M
    induction M with
    | nil =>
      intro M' _ _ hm
      cases M' with
      | nil => rfl
      | cons a t => exact absurd ((hm a).2 (by simp)) (by simp)
    | cons a t ih =>
      intro M' hp hp' hm
      cases M' with
      | nil => exact absurd ((hm a).1 (by simp)) (by simp)
      | cons b u =>
        rw [List.pairwise_cons] at hp hp'
        have hab : a = b := by
          rcases List.mem_cons.1 ((hm a).1 (by simp)) with e | e
          · exact e
          · rcases List.mem_cons.1 ((hm b).2 (by simp)) with e' | e'
            · exact e'.symm
            · have h1 := hp.1 b e'
              have h2 := hp'.1 a e
              omega
        subst hab
        rw [ih u hp.2 hp'.2 fun o => ?_]
        have := hm o
        constructor
        · intro ho
          rcases List.mem_cons.1 (this.1 (by simp [ho])) with e | e
          · have := hp.1 o ho; rw [e] at this; omega
          · exact e
        · intro ho
          rcases List.mem_cons.1 (this.2 (by simp [ho])) with e | e
          · have := hp'.1 o ho; rw [e] at this; omega
          · exact e
  exact key L L' h.order h'.order fun o => ⟨sub h h' o, sub h' h o⟩
theorem IsComps.le {A : Adj} {L : List (List Int)} (h : IsComps A L) : L.length ≤ A.length ∧ ∀ o ∈ L, o.length ≤ A.length := by
  refine ⟨?_, fun o ho => nodes_le ((h.rise o ho).2.imp fun {x y} hlt e => by rw [e] at hlt; omega) fun x hx => h.nod o ho x hx⟩
  refine outs_len (fun o ho => (h.rise o ho).1) ?_ h.nod
  refine h.order.imp_of_mem fun {o o'} ho ho' hlt x hx hx' => ?_
  have e : o = o' := rising_ext (h.rise o ho).2 (h.rise o' ho').2 fun y => by rw [h.comp o ho x hx, h.comp o' ho' x hx']
  rw [e] at hlt; omega
end Go.Proofs.Ytclnpjnodmfkcaa
