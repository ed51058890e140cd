/-
  Part of the proof: printed by the session's own program out of the program's form, or typed; it states no claim by itself.
-/
import Derived.Test.YtkfmoodaplelnaaPa
/-
  held.find comes to what the plain search comes to.
-/
set_option linter.unusedVariables false
set_option linter.unusedSimpArgs false
set_option linter.unusedSectionVars false
set_option maxRecDepth 100000
namespace Go.Proofs.Ytkfmoodaplelnaa
open Go Go.Abs Go.Proofs
theorem along_ok (N : Nat) {m : Nat} (hm : m ≤ 8) (o : Held_owned) (e : GEdge) (he : 4 ≤ e.kind ∧ e.kind ≤ 8 → 0 ≤ e.mon ∧ e.mon < (m : Int)) (hb : ∀ i, 0 ≤ o.get i ∧ o.get i ≤ 100000) :
    (∃ o', alongP o e = some o' ∧ held_owned_along N o e = some (o', true)) ∨ (alongP o e = none ∧ ∃ o', held_owned_along N o e = some (o', false)) := by
  unfold alongP held_owned_along
  have h0 := hb e.mon.toNat
  by_cases h4 : e.kind = 4
  · have := he (by omega)
    rw [if_pos h4, if_pos h4, if_pos (show 0 ≤ e.mon ∧ e.mon < (8 : Int) by omega), if_pos (inr_of (by omega) (by omega))]
    exact .inl ⟨_, rfl, rfl⟩
  · rw [if_neg h4, if_neg h4]
    by_cases h5 : e.kind = 5
    · have := he (by omega)
      rw [if_pos h5, if_pos h5, if_pos (show 0 ≤ e.mon ∧ e.mon < (8 : Int) by omega), if_pos (inr_of (by omega) (by omega)), get_upd _ (by omega), if_pos rfl]
      by_cases hn : o.get e.mon.toNat - 1 < 0
      · rw [if_pos hn, if_neg (by omega)]
        exact .inr ⟨rfl, _, rfl⟩
      · rw [if_neg hn, if_pos (by omega)]
        exact .inl ⟨_, rfl, rfl⟩
    · rw [if_neg h5, if_neg h5]
      exact .inl ⟨_, rfl, rfl⟩
section
variable {f : GFlow} {m : Nat} (hm : m ≤ 8) (hL : f.locs ≤ 600)
include hm hL
theorem reach_ok (N : Nat) {e : GEdge} {σ : Sg} {w : Rs Int} {o1 : List (Rs Int)} {c0 d0 : ByteArray} {c1 d1 : Bool} {c2 d2 : Int} {c3 d3 : Sl GEdge} {c4 d4 : Sl GGuard} {c5 : Nat} (iv : Iv f m σ) (he : edgeOk f.locs m e) (hw : w.l = σ.map Prod.fst) :
    (∃ σ' w', stepE σ e = some σ' ∧ w'.l = σ'.map Prod.fst ∧ held_finder_reach N e c0 c1 c2 c3 c4 o1 σ d0 d1 d2 d3 d4 w c5 = some (true, σ', w')) ∨ (stepE σ e = none ∧ ∃ a b, held_finder_reach N e c0 c1 c2 c3 c4 o1 σ d0 d1 d2 d3 d4 w c5 = some (false, a, b)) := by
  have hlen := iv.len
  have hroom : Room 8 (w.l ++ ([e.to_] : List Int)).length := by
    unfold Room
    rw [hw]; simp; omega
  unfold stepE held_finder_reach
  rcases along_ok N hm (at0 σ e.from_) e he.2.2 (fun i => by have := iv.at_bd e.from_ i; omega) with ⟨o', h1, h2⟩ | ⟨h1, o', h2⟩
  · have h2' : held_owned_along N (lookM (({ a0 := 0, a1 := 0, a2 := 0, a3 := 0, a4 := 0, a5 := 0, a6 := 0, a7 := 0 } : Held_owned) : Held_owned) σ e.from_) e = some (o', true) := h2
    rw [h1, h2']
    simp only [Option.bind_some, cond_true]
    by_cases hh : hasM σ e.to_ = true
    · rw [if_pos hh, if_pos hh]
      by_cases hq : at0 σ e.to_ = o'
      · have hq' : (lookM (({ a0 := 0, a1 := 0, a2 := 0, a3 := 0, a4 := 0, a5 := 0, a6 := 0, a7 := 0 } : Held_owned) : Held_owned) σ e.to_) = o' := hq
        rw [if_pos hq, if_pos hq']
        exact .inl ⟨σ, w, rfl, hw, rfl⟩
      · have hq' : ¬ (lookM (({ a0 := 0, a1 := 0, a2 := 0, a3 := 0, a4 := 0, a5 := 0, a6 := 0, a7 := 0 } : Held_owned) : Held_owned) σ e.to_) = o' := hq
        rw [if_neg hq, if_neg hq']
        exact .inr ⟨rfl, _, _, rfl⟩
    · rw [if_neg hh, if_neg hh]
      have hn : e.to_ ∉ σ.map Prod.fst := fun h => hh (hasM_iff.2 h)
      rw [putM_new hn]
      by_cases hk : w.k = true
      · rw [if_pos hk, if_pos hroom]
        exact .inl ⟨_, _, rfl, by simp [hw], rfl⟩
      · rw [if_neg hk, if_pos hroom]
        exact .inl ⟨_, _, rfl, by simp [hw], rfl⟩
  · have h2' : held_owned_along N (lookM (({ a0 := 0, a1 := 0, a2 := 0, a3 := 0, a4 := 0, a5 := 0, a6 := 0, a7 := 0 } : Held_owned) : Held_owned) σ e.from_) e = some (o', false) := h2
    rw [h1, h2']
    exact .inr ⟨rfl, _, _, rfl⟩
/-- All edges of a place. -/
theorem inner_ok {N : Nat} {o1 : List (Rs Int)} {v9 : Int} {w1 : Rs Int} {E : List GEdge} (hE : w1.l.map (fun j : Int => f.edges.l[j.toNat]?) = E.map some) (h0 : ∀ j ∈ w1.l, 0 ≤ j) (hEo : ∀ e ∈ E, edgeOk f.locs m e) (hlen : w1.l.length ≤ 100000) : ∀ (k v : Nat) (i : Int) (σ : Sg) (w : Rs Int), i = (v : Int) → v ≤ w1.l.length → w1.l.length + 1 ≤ v + k → Iv f m σ → w.l = σ.map Prod.fst →
    (∃ σ' w' u, stepL (E.drop v) σ = some σ' ∧ w'.l = σ'.map Prod.fst ∧ held_find_L13_2 f o1 v9 w1 N k i σ w = some (.e4 u σ' w')) ∨ (stepL (E.drop v) σ = none ∧ ∃ a b, held_find_L13_2 f o1 v9 w1 N k i σ w = some (.r a b))
  | 0, v, i, σ, w, hi, hv, hk, iv, hw => by omega
  | k + 1, v, i, σ, w, hi, hv, hk, iv, hw => by
    have hEl : E.length = w1.l.length := by have := congrArg List.length hE; simpa using this.symm
    unfold held_find_L13_2
    have hsl : (Rs.sl w1).l = w1.l := rfl
    rw [hsl]
    by_cases h : i < (w1.l.length : Int)
    · rw [if_pos h]
      have hv' : v < w1.l.length := by omega
      have hve : v < E.length := by omega
      have hj : 0 ≤ w1.l[v] := h0 _ (List.getElem_mem hv')
      have he : f.edges.l[(w1.l[v]).toNat]? = some E[v] := by
        have := congrArg (·[v]?) hE
        simp only [List.getElem?_map, List.getElem?_eq_getElem hv', List.getElem?_eq_getElem hve, Option.map_some] at this
        exact Option.some.inj this
      rw [List.drop_eq_getElem_cons hve]
      simp only [show atI w1.l i = w1.l[v]? by rw [hi, atI_nat], List.getElem?_eq_getElem hv', Option.bind_some, atI_of hj he]
      rcases reach_ok hm hL N (e := E[v]) (o1 := o1) (c0 := f.name) (c1 := f.star) (c2 := f.locs) (c3 := f.edges) (c4 := f.guards) (d0 := f.name) (d1 := f.star) (d2 := f.locs) (d3 := f.edges) (d4 := f.guards) (c5 := f.locs.toNat) iv (hEo _ (List.getElem_mem hve)) hw with ⟨σ', w', h1, h2, h3⟩ | ⟨h1, a, b, h3⟩
      · rw [h3]
        simp only [Option.bind_some, cond_true]
        rw [if_pos (inr_of (by omega) (by omega))]
        obtain ⟨iv', _⟩ := iv.step hm (hEo _ (List.getElem_mem hve)) h1
        have hst : stepL (E[v] :: E.drop (v + 1)) σ = stepL (E.drop (v + 1)) σ' := by
          simp only [stepL, h1, Option.bind_some]
        rw [hst]
        exact inner_ok hE h0 hEo hlen k (v + 1) (i + 1) σ' w' (by omega) (by omega) (by omega) iv' h2
      · rw [h3]
        refine .inr ⟨?_, _, _, rfl⟩
        simp only [stepL, h1, Option.bind_none]
    · rw [if_neg h, List.drop_eq_nil_of_le (by omega)]
      exact .inl ⟨σ, w, _, rfl, hw, rfl⟩
/-- The lists of edges that lead from each place. -/
def OutOk (f : GFlow) (o1 : List (Rs Int)) (es : List GEdge) : Prop := o1.length = f.locs.toNat ∧ ∀ (a : Nat) (w : Rs Int), o1[a]? = some w → w.l.length ≤ es.length ∧ (∀ j ∈ w.l, 0 ≤ j) ∧ w.l.map (fun j : Int => f.edges.l[j.toNat]?) = (fromE es (a : Int)).map some
omit hm hL in
theorem out_loop (hes : ∀ e ∈ f.edges.l, edgeOk f.locs m e) (hlen : f.edges.l.length ≤ 100000) {N : Nat} : ∀ (k v : Nat) (i : Int) (o1 : List (Rs Int)), i = (v : Int) → v ≤ f.edges.l.length → f.edges.l.length + 1 ≤ v + k → OutOk f o1 (f.edges.l.take v) →
    ∃ u o1', held_find_L5 f N k i o1 = some (.e0 u o1') ∧ OutOk f o1' f.edges.l
  | 0, v, i, o1, hi, hv, hk, ok => by omega
  | k + 1, v, i, o1, hi, hv, hk, ok => by
    unfold held_find_L5
    by_cases h : i < (f.edges.l.length : Int)
    · rw [if_pos h]
      have hv' : v < f.edges.l.length := by omega
      have he := hes _ (List.getElem_mem hv')
      have hr := he.1
      have hb : (f.edges.l[v].from_).toNat < o1.length := by rw [ok.1]; omega
      have hat : atI o1 f.edges.l[v].from_ = some o1[(f.edges.l[v].from_).toNat] := atI_of (by omega) (List.getElem?_eq_getElem hb)
      simp only [show atI f.edges.l i = f.edges.l[v]? by rw [hi, atI_nat], List.getElem?_eq_getElem hv', Option.bind_some]
      rw [if_pos (show 0 ≤ f.edges.l[v].from_ ∧ f.edges.l[v].from_ < (f.locs.toNat : Int) by omega), hat]
      simp only [Option.bind_some]
      have hok := ok.2 _ _ (List.getElem?_eq_getElem hb)
      have hok' : OutOk f (o1.set (f.edges.l[v].from_).toNat ⟨false, o1[(f.edges.l[v].from_).toNat].l ++ ([i] : List Int)⟩) (f.edges.l.take (v + 1)) := by
        refine ⟨by simp [ok.1], fun a w hw => ?_⟩
        rw [List.take_succ_eq_append_getElem hv']
        rw [List.getElem?_set] at hw
        split at hw
        · rename_i hae
          subst hae
          first
            | rw [if_pos hb] at hw
            | skip
          cases hw
          refine ⟨by have := hok.1; simp only [List.length_append, List.length_singleton] at this ⊢; omega, fun j hj => ?_, ?_⟩
          · rcases List.mem_append.1 hj with hj | hj
            · exact hok.2.1 j hj
            · simp only [List.mem_singleton] at hj; omega
          · have hd : f.edges.l[v].from_ = (((f.edges.l[v].from_).toNat : Nat) : Int) := by omega
            rw [List.map_append, hok.2.2, fromE, fromE, List.filter_append, List.map_append]
            congr 1
            rw [List.filter_cons_of_pos (by rw [← hd]; simp), hi]
            simp [hv']
        · rename_i hae
          have := ok.2 a w hw
          refine ⟨by have := this.1; simp only [List.length_append, List.length_singleton]; omega, this.2.1, ?_⟩
          rw [this.2.2, fromE, fromE, List.filter_append, List.map_append, List.filter_cons_of_neg (by simp; omega)]
          simp
      have hroom : Room 8 (o1[(f.edges.l[v].from_).toNat].l ++ ([i] : List Int)).length := by
        unfold Room
        have := hok.1
        simp only [List.length_append, List.length_singleton, List.length_take] at this ⊢
        omega
      by_cases hkk : o1[(f.edges.l[v].from_).toNat].k = true
      · rw [if_pos hkk, if_pos hroom, if_pos (inr_of (by omega) (by omega))]
        exact out_loop hes hlen k (v + 1) (i + 1) _ (by omega) (by omega) (by omega) hok'
      · rw [if_neg hkk, if_pos hroom, if_pos (inr_of (by omega) (by omega))]
        exact out_loop hes hlen k (v + 1) (i + 1) _ (by omega) (by omega) (by omega) hok'
    · rw [if_neg h]
      have : v = f.edges.l.length := by omega
      subst this
      rw [List.take_length] at ok
      exact ⟨_, _, rfl, ok⟩
theorem outer_ok (hes : ∀ e ∈ f.edges.l, edgeOk f.locs m e) (hlen : f.edges.l.length ≤ 100000) {N : Nat} (hN : f.edges.l.length + 1 ≤ N) {o1 : List (Rs Int)} (ok : OutOk f o1 f.edges.l) : ∀ (k v : Nat) (i : Int) (σ : Sg) (w : Rs Int), i = (v : Int) → v ≤ σ.length → f.locs.toNat + 1 ≤ v + k → Iv f m σ → w.l = σ.map Prod.fst →
    (∃ σ' w' u, runP f.edges.l k v σ = some σ' ∧ Iv f m σ' ∧ held_find_L10 f o1 N k i σ w = some (.e2 u σ' w')) ∨ (runP f.edges.l k v σ = none ∧ ∃ a b, held_find_L10 f o1 N k i σ w = some (.r a b))
  | 0, v, i, σ, w, hi, hv, hk, iv, hw => by have := iv.len; omega
  | k + 1, v, i, σ, w, hi, hv, hk, iv, hw => by
    have hlen' := iv.len
    unfold held_find_L10 runP
    have hsl : (Rs.sl w).l = w.l := rfl
    rw [hsl, hw]
    by_cases h : i < ((σ.map Prod.fst).length : Int)
    · rw [if_pos h]
      have hv' : v < σ.length := by simp at h; omega
      have hr := iv.rg _ (List.getElem_mem hv')
      have hb : (σ[v].1).toNat < o1.length := by rw [ok.1]; omega
      have hat : atI o1 σ[v].1 = some o1[(σ[v].1).toNat] := atI_of hr.1 (List.getElem?_eq_getElem hb)
      have hok := ok.2 _ _ (List.getElem?_eq_getElem hb)
      have hd : (((σ[v].1).toNat : Nat) : Int) = σ[v].1 := by omega
      rw [hd] at hok
      simp only [show atI (σ.map Prod.fst) i = (σ.map Prod.fst)[v]? by rw [hi, atI_nat], List.getElem?_map, List.getElem?_eq_getElem hv', Option.bind_some, Option.map_some]
      rw [if_pos (show 0 ≤ σ[v].1 ∧ σ[v].1 < (f.locs.toNat : Int) by omega), hat]
      simp only [Option.bind_some]
      have hfe : ∀ e ∈ fromE f.edges.l σ[v].1, edgeOk f.locs m e := fun e he => hes e (List.mem_filter.1 he).1
      rcases inner_ok hm hL (N := N) (o1 := o1) (v9 := i) hok.2.2 hok.2.1 hfe (by omega) N 0 0 σ w rfl (by omega) (by omega) iv hw with ⟨σ', w', u, h1, h2, h3⟩ | ⟨h1, a, b, h3⟩
      · rw [List.drop_zero] at h1
        rw [h3, h1]
        simp only [Option.bind_some]
        rw [if_pos (inr_of (by omega) (by omega))]
        obtain ⟨iv', τ, hτ⟩ := iv.steps hm hfe h1
        exact outer_ok hes hlen hN ok k (v + 1) (i + 1) σ' w' (by omega) (by rw [hτ, List.length_append]; omega) (by omega) iv' h2
      · rw [List.drop_zero] at h1
        rw [h3, h1]
        exact .inr ⟨rfl, _, _, rfl⟩
    · rw [if_neg h]
      have hv' : σ[v]? = none := List.getElem?_eq_none (by simp at h; omega)
      rw [hv']
      exact .inl ⟨σ, w, _, rfl, iv, rfl⟩
end
def σ0 : Sg := [(0, O0)]
theorem iv0 {f : GFlow} {m : Nat} (hL : 1 ≤ f.locs) : Iv f m σ0 := by
  refine ⟨by simp [σ0], by simp [σ0], fun p hp => ?_, fun p hp i => ?_, fun p hp i hi => ?_⟩
  · simp only [σ0, List.mem_singleton] at hp; subst hp; exact ⟨by simp, by simp; omega⟩
  · simp only [σ0, List.mem_singleton] at hp; subst hp; rw [O0_get]; simp [σ0]
  · simp only [σ0, List.mem_singleton] at hp; subst hp; exact O0_get i
/-- What held.find comes to. -/
theorem find_ok {f : GFlow} {m : Int} {N : Nat} (hlen : f.edges.l.length ≤ 100000) (hN : f.edges.l.length + 1 ≤ N) (hN2 : 601 ≤ N) :
    (¬ Shaped f m ∧ held_find N f m = some .r_2) ∨ (Shaped f m ∧ ((∃ o1 σ w, runP f.edges.l N 0 σ0 = some σ ∧ Iv f m.toNat σ ∧ held_find N f m = some (.r_1 o1 σ w)) ∨ (runP f.edges.l N 0 σ0 = none ∧ ∃ o1 o2 o3, held_find N f m = some (.r o1 o2 o3)))) := by
  unfold held_find
  rw [held_shaped f m hN hlen]
  by_cases hs : Shaped f m
  · refine .inr ⟨hs, ?_⟩
    obtain ⟨hb, hes⟩ := hs
    have hm : (m.toNat : Int) = m := by omega
    have hes' : ∀ e ∈ f.edges.l, edgeOk f.locs (m.toNat : Int) e := by rw [hm]; exact hes
    rw [decide_eq_true (show Shaped f m from ⟨hb, hes⟩)]
    simp only [Option.bind_some, cond_true]
    rw [if_pos (by omega), if_pos (show Mk 24 f.locs.toNat by unfold Mk; omega)]
    obtain ⟨u, o1, h1, h2⟩ := out_loop (m := m.toNat) hes' hlen (N := N) N 0 0 (List.replicate f.locs.toNat (Rs.nil : Rs Int)) rfl (by omega) (by omega) ⟨by simp, fun a w hw => by
      rw [List.getElem?_replicate] at hw
      split at hw
      · cases hw; simp [Rs.nil, fromE]
      · cases hw⟩
    rw [h1]
    simp only [Option.bind_some]
    rcases outer_ok (f := f) (m := m.toNat) (by omega) (by omega) hes' hlen hN h2 N 0 0 σ0 ⟨true, [0]⟩ rfl (by simp [σ0]) (by omega) (iv0 hb.1) rfl with ⟨σ', w', u, g1, g2, g3⟩ | ⟨g1, a, b, g3⟩
    · have g3' : held_find_L10 f o1 N N 0 (putM ([] : List (Int × Held_owned)) (0 : Int) ({ a0 := 0, a1 := 0, a2 := 0, a3 := 0, a4 := 0, a5 := 0, a6 := 0, a7 := 0 } : Held_owned)) (⟨true, ([0] : List Int)⟩ : Rs Int) = some (.e2 u σ' w') := g3
      rw [g3']
      exact .inl ⟨_, _, _, g1, g2, rfl⟩
    · have g3' : held_find_L10 f o1 N N 0 (putM ([] : List (Int × Held_owned)) (0 : Int) ({ a0 := 0, a1 := 0, a2 := 0, a3 := 0, a4 := 0, a5 := 0, a6 := 0, a7 := 0 } : Held_owned)) (⟨true, ([0] : List Int)⟩ : Rs Int) = some (.r a b) := g3
      rw [g3']
      exact .inr ⟨g1, _, _, _, rfl⟩
  · refine .inl ⟨hs, ?_⟩
    rw [decide_eq_false hs]; rfl
end Go.Proofs.Ytkfmoodaplelnaa

/-
  The document's Held comes to what the plain search comes to.
-/
set_option linter.unusedVariables false
set_option linter.unusedSimpArgs false
set_option linter.unusedSectionVars false
set_option maxRecDepth 100000
namespace Go.Proofs.Ytkfmoodaplelnaa
open Go Go.Abs Go.Proofs
/-- The document's lists for a state. -/
structure RelR (f : GFlow) (m : Nat) (σ : Sg) (o1 : List (Sl Int)) (o2 : List Bool) : Prop where
  l1 : o1.length = f.locs.toNat
  l2 : o2.length = f.locs.toNat
  seen : ∀ i : Nat, i < f.locs.toNat → o2[i]? = some (hasM σ (i : Int))
  val : ∀ i : Nat, i < f.locs.toNat → hasM σ (i : Int) = true → ∃ w, o1[i]? = some w ∧ w.l = vecm m (at0 σ (i : Int))
def isR : vigilref13_Held_L12_2O → Bool
  | .r .. => true
  | .e2 .. => false
theorem at0_append_old {σ : Sg} {t : Int} {o : Held_owned} {a : Int} (h : a ∈ σ.map Prod.fst) : at0 (σ ++ [(t, o)]) a = at0 σ a := by
  unfold at0 lookM
  rw [getM_append]
  cases hg : getM σ a with
  | none => exact absurd h (getM_none.1 hg)
  | some v => rfl
theorem at0_append_new {σ : Sg} {t : Int} {o : Held_owned} (h : t ∉ σ.map Prod.fst) : at0 (σ ++ [(t, o)]) t = o := by
  unfold at0 lookM
  rw [getM_append, getM_none.2 h]
  simp [getM]
theorem hasM_append {σ : Sg} {t : Int} {o : Held_owned} {a : Int} : hasM (σ ++ [(t, o)]) a = (hasM σ a || decide (t = a)) := by
  rw [Bool.eq_iff_iff, hasM_iff, Bool.or_eq_true, hasM_iff]
  simp [eq_comm]
theorem RelR.add {f : GFlow} {m : Nat} {σ : Sg} {o1 : List (Sl Int)} {o2 : List Bool} (r : RelR f m σ o1 o2) {t : Int} {o : Held_owned} (ht : 0 ≤ t ∧ t < f.locs) (hn : t ∉ σ.map Prod.fst) : RelR f m (σ ++ [(t, o)]) (o1.set t.toNat ⟨false, false, vecm m o⟩) (o2.set t.toNat true) := by
  refine ⟨by simp [r.l1], by simp [r.l2], fun i hi => ?_, fun i hi hh => ?_⟩
  · rw [List.getElem?_set, hasM_append]
    by_cases hti : t.toNat = i
    · rw [if_pos hti, if_pos (by rw [r.l2]; omega), decide_eq_true (by omega), Bool.or_true]
    · rw [if_neg hti, r.seen i hi, decide_eq_false (by omega), Bool.or_false]
  · rw [List.getElem?_set]
    by_cases hti : t.toNat = i
    · rw [if_pos hti, if_pos (by rw [r.l1]; omega)]
      have : (i : Int) = t := by omega
      rw [this, at0_append_new hn]
      exact ⟨_, rfl, rfl⟩
    · rw [if_neg hti]
      rw [hasM_append, decide_eq_false (by omega), Bool.or_false] at hh
      rw [at0_append_old (hasM_iff.1 hh)]
      exact r.val i hi hh
section
variable {f : GFlow} {m : Nat} (hm : m ≤ 8) (hL : f.locs ≤ 600)
include hm hL
theorem same_m {N : Nat} (hN : 100 ≤ N) (w : Sl Int) (o : Held_owned) : vigilref13_same N w (vecm m o) m = some (decide (vecm m o = w.l)) := by
  have h := same1_ok w (vecm m o) (N := N) (by rw [vecm_len hm]; omega) (by rw [vecm_len hm]; omega)
  rw [vecm_len hm] at h
  exact h
theorem same2_m {N : Nat} (hN : 100 ≤ N) (w : Sl Int) (o : Held_owned) : vigilref13_same_2 N w (vecm m o) = some (decide (vecm m o = w.l)) :=
  same2_ok w (vecm m o) (N := N) (by rw [vecm_len hm]; omega) (by rw [vecm_len hm]; omega)
theorem ref_inner (hes : ∀ e ∈ f.edges.l, edgeOk f.locs m e) (hlen : f.edges.l.length ≤ 100000) {N : Nat} (hN : 100 ≤ N) {v9 : Int} {a : Int} (h9 : 0 ≤ v9) : ∀ (k v : Nat) (i : Int) (σ : Sg) (v8 : List Int) (o1 : List (Sl Int)) (o2 : List Bool), i = (v : Int) → v ≤ f.edges.l.length → f.edges.l.length + 1 ≤ v + k → Iv f m σ → v8 = σ.map Prod.fst → v8[v9.toNat]? = some a → RelR f m σ o1 o2 →
    (∃ σ' u o1' o2', stepL (fromE (f.edges.l.drop v) a) σ = some σ' ∧ RelR f m σ' o1' o2' ∧ vigilref13_Held_L12_2 f v9 N k v8 i o1 o2 = some (.e2 (σ'.map Prod.fst) u o1' o2')) ∨ (stepL (fromE (f.edges.l.drop v) a) σ = none ∧ ∃ x, vigilref13_Held_L12_2 f v9 N k v8 i o1 o2 = some x ∧ isR x = true)
  | 0, v, i, σ, v8, o1, o2, hi, hv, hk, iv, hw, h8, r => by omega
  | k + 1, v, i, σ, v8, o1, o2, hi, hv, hk, iv, hw, h8, r => by
    have hlen' := iv.len
    unfold vigilref13_Held_L12_2
    by_cases h : i < (f.edges.l.length : Int)
    · rw [if_pos h]
      have hv' : v < f.edges.l.length := by omega
      have he := hes _ (List.getElem_mem hv')
      rw [List.drop_eq_getElem_cons hv']
      simp only [show atI f.edges.l i = f.edges.l[v]? by rw [hi, atI_nat], List.getElem?_eq_getElem hv', Option.bind_some, atI_of h9 h8]
      have ih := fun σ v8 o1 o2 => ref_inner hes hlen hN (a := a) h9 k (v + 1) (i + 1) σ v8 o1 o2 (by omega) (by omega) (by omega)
      generalize f.edges.l[v] = e at he ⊢
      generalize f.edges.l.drop (v + 1) = es at ih ⊢
      have hinr : InR (i + 1) := inr_of (by omega) (by omega)
      by_cases hfr : e.from_ ≠ a
      · rw [if_pos hfr, if_pos hinr]
        have : fromE (e :: es) a = fromE es a := by unfold fromE; rw [List.filter_cons_of_neg (by simpa using hfr)]
        rw [this]
        exact ih σ v8 o1 o2 iv hw h8 r
      · rw [if_neg hfr]
        have hfr' : e.from_ = a := Classical.not_not.1 hfr
        have hfe : fromE (e :: es) a = e :: fromE es a := by unfold fromE; rw [List.filter_cons_of_pos (by simpa using hfr')]
        rw [hfe]
        have hst : stepL (e :: fromE es a) σ = (stepE σ e).bind (stepL (fromE es a)) := rfl
        have hr := he.1
        have hto := he.2.1
        have hain : a ∈ σ.map Prod.fst := by rw [← hw]; exact List.mem_of_getElem? h8
        have hfd : (((e.from_).toNat : Nat) : Int) = e.from_ := by omega
        have htd : (((e.to_).toNat : Nat) : Int) = e.to_ := by omega
        rw [if_pos (show 0 ≤ e.from_ ∧ e.from_ < (f.locs.toNat : Int) by omega)]
        obtain ⟨w, hw1, hw2⟩ := r.val (e.from_).toNat (by omega) (by rw [hfd, hfr']; exact hasM_iff.2 hain)
        rw [hfd] at hw2
        rw [atI_of hr.1 hw1]
        simp only [Option.bind_some]
        have hwl : w.l.length = m := by rw [hw2, vecm_len hm]
        rw [if_pos (show Room 8 w.l.length by unfold Room; omega)]
        have hb := fun i => iv.at_bd e.from_ i
        have hsee := r.seen (e.to_).toNat (by omega)
        rw [htd] at hsee
        have hsee' : atI o2 e.to_ = some (hasM σ e.to_) := atI_of hto.1 hsee
        have hrng : 0 ≤ e.to_ ∧ e.to_ < (f.locs.toNat : Int) := by omega
        have hroom : Room 8 (v8 ++ ([e.to_] : List Int)).length := by unfold Room; rw [hw]; simp; omega
        -- what becomes of it
        have hold : hasM σ e.to_ = true → ∃ w', atI o1 e.to_ = some w' ∧ w'.l = vecm m (at0 σ e.to_) := fun hh => by
          obtain ⟨w', h1, h2⟩ := r.val (e.to_).toNat (by omega) (by rw [htd]; exact hh)
          rw [htd] at h2
          exact ⟨w', atI_of hto.1 h1, h2⟩
        have hany : ∃ w', atI o1 e.to_ = some w' := ⟨_, atI_of hto.1 (List.getElem?_eq_getElem (by rw [r.l1]; omega))⟩
        have hfin : ∀ o', alongP (at0 σ e.from_) e = some o' → ∀ (F : Option vigilref13_Held_L12_2O),
            (∀ w', hasM σ e.to_ = true → atI o1 e.to_ = some w' → at0 σ e.to_ = o' → w'.l = vecm m o' → F = vigilref13_Held_L12_2 f v9 N k v8 (i + 1) o1 o2) →
            (∀ w', hasM σ e.to_ = true → atI o1 e.to_ = some w' → ¬ vecm m o' = w'.l → ∃ x, F = some x ∧ isR x = true) →
            (∀ w', hasM σ e.to_ = false → atI o1 e.to_ = some w' → F = vigilref13_Held_L12_2 f v9 N k (v8 ++ [e.to_]) (i + 1) (o1.set e.to_.toNat ⟨false, false, vecm m o'⟩) (o2.set e.to_.toNat true)) →
            (∃ σ' u o1' o2', stepL (e :: fromE es a) σ = some σ' ∧ RelR f m σ' o1' o2' ∧ F = some (.e2 (σ'.map Prod.fst) u o1' o2')) ∨ (stepL (e :: fromE es a) σ = none ∧ ∃ x, F = some x ∧ isR x = true) := fun o' ho F hA hB hC => by
          have htl := alongP_tl hm ho (fun i hi => iv.at_tl e.from_ i hi) he.2.2
          rw [hst]
          by_cases hh : hasM σ e.to_ = true
          · obtain ⟨w', g1, g2⟩ := hold hh
            by_cases hq : at0 σ e.to_ = o'
            · have : stepE σ e = some σ := by simp only [stepE, ho, Option.bind_some, hh, if_true, hq]
              rw [this, hA w' hh g1 hq (by rw [g2, hq])]
              exact ih σ v8 o1 o2 iv hw h8 r
            · have : stepE σ e = none := by simp only [stepE, ho, Option.bind_some, hh, if_true, hq, if_false]
              rw [this]
              refine .inr ⟨rfl, hB w' hh g1 ?_⟩
              rw [g2]
              exact fun h => hq ((vecm_eq hm htl (fun i hi => iv.at_tl e.to_ i hi)).1 h).symm
          · have hn : e.to_ ∉ σ.map Prod.fst := fun h => hh (hasM_iff.2 h)
            have hs : stepE σ e = some (σ ++ [(e.to_, o')]) := by simp only [stepE, ho, Option.bind_some, hh, if_false]; rfl
            obtain ⟨w', g1⟩ := hany
            obtain ⟨iv', _⟩ := iv.step hm he hs
            rw [hs, hC w' (eq_false_of_ne_true hh) g1]
            refine ih _ _ _ _ iv' (by rw [hw]; simp) ?_ (r.add hto hn)
            rw [List.getElem?_append_left (List.getElem?_eq_some_iff.1 h8).1]; exact h8
        unfold vigilref13_Held_J17_4
        by_cases h4 : e.kind = 4
        · have hmon := he.2.2 (by omega)
          have hat : atI w.l e.mon = some ((at0 σ e.from_).get e.mon.toNat) := by rw [hw2]; exact atI_of hmon.1 (vecm_get hm _ (by omega))
          have hbm := hb e.mon.toNat
          rw [if_pos h4, hat]
          simp only [Option.bind_some]
          rw [if_pos (inr_of (by omega) (by omega))]
          simp only [Option.bind_some]
          unfold vigilref13_Held_J19_7
          rw [if_neg (by omega)]
          simp only [Option.bind_some]
          rw [if_pos hrng, hsee']
          simp only [Option.bind_some]
          have ho : alongP (at0 σ e.from_) e = some ((at0 σ e.from_).upd e.mon.toNat ((at0 σ e.from_).get e.mon.toNat + 1)) := by unfold alongP; rw [if_pos h4]
          rw [hw2, vecm_upd hm _ (by omega), vecm_len hm, vecm_len hm]
          refine hfin _ ho _ (fun w' hh g1 hq g2 => ?_) (fun w' hh g1 g2 => ?_) (fun w' hh g1 => ?_)
          · simp only [hh, cond_true, g1, Option.bind_some, same_m hm hL hN, g2, decide_true]
            rw [if_pos hinr]
          · simp only [hh, cond_true, g1, Option.bind_some, same_m hm hL hN, g2, decide_false, cond_false]
            exact ⟨_, rfl, rfl⟩
          · simp only [hh, cond_false, if_true, g1, Option.bind_some]
            rw [if_pos hroom, if_pos hinr]
        · rw [if_neg h4]
          simp only [Option.bind_some]
          unfold vigilref13_Held_J19_8
          by_cases h5 : e.kind = 5
          · have hmon := he.2.2 (by omega)
            have hat : atI w.l e.mon = some ((at0 σ e.from_).get e.mon.toNat) := by rw [hw2]; exact atI_of hmon.1 (vecm_get hm _ (by omega))
            have hbm := hb e.mon.toNat
            rw [if_pos h5, hat]
            simp only [Option.bind_some]
            rw [if_pos (inr_of (by omega) (by omega)), if_pos (show 0 ≤ e.mon ∧ e.mon < (w.l.length : Int) by omega)]
            by_cases hneg : (at0 σ e.from_).get e.mon.toNat - 1 < 0
            · rw [if_pos hneg]
              simp only [Option.bind_some]
              have ho : alongP (at0 σ e.from_) e = none := by unfold alongP; rw [if_neg h4, if_pos h5, if_pos hneg]
              rw [hst]
              refine .inr ⟨by simp only [stepE, ho, Option.bind_none], _, rfl, rfl⟩
            · rw [if_neg hneg]
              simp only [Option.bind_some]
              rw [if_pos hrng, hsee']
              simp only [Option.bind_some]
              have ho : alongP (at0 σ e.from_) e = some ((at0 σ e.from_).upd e.mon.toNat ((at0 σ e.from_).get e.mon.toNat - 1)) := by unfold alongP; rw [if_neg h4, if_pos h5, if_neg hneg]
              rw [hw2, vecm_upd hm _ (by omega), vecm_len hm, vecm_len hm]
              refine hfin _ ho _ (fun w' hh g1 hq g2 => ?_) (fun w' hh g1 g2 => ?_) (fun w' hh g1 => ?_)
              · simp only [hh, cond_true, g1, Option.bind_some, same_m hm hL hN, g2, decide_true]
                rw [if_pos hinr]
              · simp only [hh, cond_true, g1, Option.bind_some, same_m hm hL hN, g2, decide_false, cond_false]
                exact ⟨_, rfl, rfl⟩
              · simp only [hh, cond_false, if_true, g1, Option.bind_some]
                rw [if_pos hroom, if_pos hinr]
          · rw [if_neg h5]
            simp only [Option.bind_some]
            rw [if_pos hrng, hsee']
            simp only [Option.bind_some]
            have ho : alongP (at0 σ e.from_) e = some (at0 σ e.from_) := by unfold alongP; rw [if_neg h4, if_neg h5]
            rw [hw2]
            refine hfin _ ho _ (fun w' hh g1 hq g2 => ?_) (fun w' hh g1 g2 => ?_) (fun w' hh g1 => ?_)
            · simp only [hh, cond_true, g1, Option.bind_some, same2_m hm hL hN, g2, decide_true]
              rw [if_pos hinr]
            · simp only [hh, cond_true, g1, Option.bind_some, same2_m hm hL hN, g2, decide_false, cond_false]
              exact ⟨_, rfl, rfl⟩
            · simp only [hh, cond_false, if_true, g1, Option.bind_some]
              rw [if_pos hroom, if_pos hinr]
    · rw [if_neg h, List.drop_eq_nil_of_le (by omega)]
      exact .inl ⟨σ, _, o1, o2, rfl, r, by rw [hw]⟩
end
end Go.Proofs.Ytkfmoodaplelnaa
