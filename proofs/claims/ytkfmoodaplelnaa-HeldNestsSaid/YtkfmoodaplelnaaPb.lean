/-
  Part of the proof: printed by the session's own program out of the program's form, or typed; it states no claim by itself.
-/
import Derived.Test.YtkfmoodaplelnaaPa
/-
  The document's Held comes to what the plain search comes to.
-/
set_option linter.unusedVariables false
set_option linter.unusedSimpArgs false
set_option linter.unusedSectionVars false
set_option maxRecDepth 100000
namespace Go.Proofs.Ytkfmoodaplelnaa
open Go Go.Abs Go.Proofs
/-- The document's lists for a state. -/
structure RelR (f : GFlow) (m : Nat) (σ : Sg) (o1 : List (Sl Int)) (o2 : List Bool) : Prop where
  l1 : o1.length = f.locs.toNat
  l2 : o2.length = f.locs.toNat
  seen : ∀ i : Nat, i < f.locs.toNat → o2[i]? = some (hasM σ (i : Int))
  val : ∀ i : Nat, i < f.locs.toNat → hasM σ (i : Int) = true → ∃ w, o1[i]? = some w ∧ w.l = vecm m (at0 σ (i : Int))
def isR : vigilref13_Held_L12_2O → Bool
  | .r .. => true
  | .e2 .. => false
theorem at0_append_old {σ : Sg} {t : Int} {o : Held_owned} {a : Int} (h : a ∈ σ.map Prod.fst) : at0 (σ ++ [(t, o)]) a = at0 σ a := by
  unfold at0 lookM
  rw [getM_append]
  cases hg : getM σ a with
  | none => exact absurd h (getM_none.1 hg)
  | some v => rfl
theorem at0_append_new {σ : Sg} {t : Int} {o : Held_owned} (h : t ∉ σ.map Prod.fst) : at0 (σ ++ [(t, o)]) t = o := by
  unfold at0 lookM
  rw [getM_append, getM_none.2 h]
  simp [getM]
theorem hasM_append {σ : Sg} {t : Int} {o : Held_owned} {a : Int} : hasM (σ ++ [(t, o)]) a = (hasM σ a || decide (t = a)) := by
  rw [Bool.eq_iff_iff, hasM_iff, Bool.or_eq_true, hasM_iff]
  simp [eq_comm]
theorem RelR.add {f : GFlow} {m : Nat} {σ : Sg} {o1 : List (Sl Int)} {o2 : List Bool} (r : RelR f m σ o1 o2) {t : Int} {o : Held_owned} (ht : 0 ≤ t ∧ t < f.locs) (hn : t ∉ σ.map Prod.fst) : RelR f m (σ ++ [(t, o)]) (o1.set t.toNat ⟨false, false, vecm m o⟩) (o2.set t.toNat true) := by
  refine ⟨by simp [r.l1], by simp [r.l2], fun i hi => ?_, fun i hi hh => ?_⟩
  · rw [List.getElem?_set, hasM_append]
    by_cases hti : t.toNat = i
    · rw [if_pos hti, if_pos (by rw [r.l2]; omega), decide_eq_true (by omega), Bool.or_true]
    · rw [if_neg hti, r.seen i hi, decide_eq_false (by omega), Bool.or_false]
  · rw [List.getElem?_set]
    by_cases hti : t.toNat = i
    · rw [if_pos hti, if_pos (by rw [r.l1]; omega)]
      have : (i : Int) = t := by omega
      rw [this, at0_append_new hn]
      exact ⟨_, rfl, rfl⟩
    · rw [if_neg hti]
      rw [hasM_append, decide_eq_false (by omega), Bool.or_false] at hh
      rw [at0_append_old (hasM_iff.1 hh)]
      exact r.val i hi hh
section
variable {f : GFlow} {m : Nat} (hm : m ≤ 8) (hL : f.locs ≤ 600)
include hm hL
theorem same_m {N : Nat} (hN : 100 ≤ N) (w : Sl Int) (o : Held_owned) : vigilref13_same N w (vecm m o) m = some (decide (vecm m o = w.l)) := by
  have h := same1_ok w (vecm m o) (N := N) (by rw [vecm_len hm]; omega) (by rw [vecm_len hm]; omega)
  rw [vecm_len hm] at h
  exact h
theorem same2_m {N : Nat} (hN : 100 ≤ N) (w : Sl Int) (o : Held_owned) : vigilref13_same_2 N w (vecm m o) = some (decide (vecm m o = w.l)) :=
  same2_ok w (vecm m o) (N := N) (by rw [vecm_len hm]; omega) (by rw [vecm_len hm]; omega)
theorem ref_inner (hes : ∀ e ∈ f.edges.l, edgeOk f.locs m e) (hlen : f.edges.l.length ≤ 100000) {N : Nat} (hN : 100 ≤ N) {v9 : Int} {a : Int} (h9 : 0 ≤ v9) : ∀ (k v : Nat) (i : Int) (σ : Sg) (v8 : List Int) (o1 : List (Sl Int)) (o2 : List Bool), i = (v : Int) → v ≤ f.edges.l.length → f.edges.l.length + 1 ≤ v + k → Iv f m σ → v8 = σ.map Prod.fst → v8[v9.toNat]? = some a → RelR f m σ o1 o2 →
    (∃ σ' u o1' o2', stepL (fromE (f.edges.l.drop v) a) σ = some σ' ∧ RelR f m σ' o1' o2' ∧ vigilref13_Held_L12_2 f v9 N k v8 i o1 o2 = some (.e2 (σ'.map Prod.fst) u o1' o2')) ∨ (stepL (fromE (f.edges.l.drop v) a) σ = none ∧ ∃ x, vigilref13_Held_L12_2 f v9 N k v8 i o1 o2 = some x ∧ isR x = true)
  | 0, v, i, σ, v8, o1, o2, hi, hv, hk, iv, hw, h8, r => by omega
  | k + 1, v, i, σ, v8, o1, o2, hi, hv, hk, iv, hw, h8, r => by
    have hlen' := iv.len
    unfold vigilref13_Held_L12_2
    by_cases h : i < (f.edges.l.length : Int)
    · rw [if_pos h]
      have hv' : v < f.edges.l.length := by omega
      have he := hes _ (List.getElem_mem hv')
      rw [List.drop_eq_getElem_cons hv']
      simp only [show atI f.edges.l i = f.edges.l[v]? by rw [hi, atI_nat], List.getElem?_eq_getElem hv', Option.bind_some, atI_of h9 h8]
      have ih := fun σ v8 o1 o2 => ref_inner hes hlen hN (a := a) h9 k (v + 1) (i + 1) σ v8 o1 o2 (by omega) (by omega) (by omega)
      generalize f.edges.l[v] = e at he ⊢
      generalize f.edges.l.drop (v + 1) = es at ih ⊢
      have hinr : InR (i + 1) := inr_of (by omega) (by omega)
      by_cases hfr : e.from_ ≠ a
      · rw [if_pos hfr, if_pos hinr]
        have : fromE (e :: es) a = fromE es a := by unfold fromE; rw [List.filter_cons_of_neg (by simpa using hfr)]
        rw [this]
        exact ih σ v8 o1 o2 iv hw h8 r
      · rw [if_neg hfr]
        have hfr' : e.from_ = a := Classical.not_not.1 hfr
        have hfe : fromE (e :: es) a = e :: fromE es a := by unfold fromE; rw [List.filter_cons_of_pos (by simpa using hfr')]
        rw [hfe]
        have hst : stepL (e :: fromE es a) σ = (stepE σ e).bind (stepL (fromE es a)) := rfl
        have hr := he.1
        have hto := he.2.1
        have hain : a ∈ σ.map Prod.fst := by rw [← hw]; exact List.mem_of_getElem? h8
        have hfd : (((e.from_).toNat : Nat) : Int) = e.from_ := by omega
        have htd : (((e.to_).toNat : Nat) : Int) = e.to_ := by omega
        rw [if_pos (show 0 ≤ e.from_ ∧ e.from_ < (f.locs.toNat : Int) by omega)]
        obtain ⟨w, hw1, hw2⟩ := r.val (e.from_).toNat (by omega) (by rw [hfd, hfr']; exact hasM_iff.2 hain)
        rw [hfd] at hw2
        rw [atI_of hr.1 hw1]
        simp only [Option.bind_some]
        have hwl : w.l.length = m := by rw [hw2, vecm_len hm]
        rw [if_pos (show Room 8 w.l.length by unfold Room; omega)]
        have hb := fun i => iv.at_bd e.from_ i
        have hsee := r.seen (e.to_).toNat (by omega)
        rw [htd] at hsee
        have hsee' : atI o2 e.to_ = some (hasM σ e.to_) := atI_of hto.1 hsee
        have hrng : 0 ≤ e.to_ ∧ e.to_ < (f.locs.toNat : Int) := by omega
        have hroom : Room 8 (v8 ++ ([e.to_] : List Int)).length := by unfold Room; rw [hw]; simp; omega
        -- what becomes of it
        have hold : hasM σ e.to_ = true → ∃ w', atI o1 e.to_ = some w' ∧ w'.l = vecm m (at0 σ e.to_) := fun hh => by
          obtain ⟨w', h1, h2⟩ := r.val (e.to_).toNat (by omega) (by rw [htd]; exact hh)
          rw [htd] at h2
          exact ⟨w', atI_of hto.1 h1, h2⟩
        have hany : ∃ w', atI o1 e.to_ = some w' := ⟨_, atI_of hto.1 (List.getElem?_eq_getElem (by rw [r.l1]; omega))⟩
        have hfin : ∀ o', alongP (at0 σ e.from_) e = some o' → ∀ (F : Option vigilref13_Held_L12_2O),
            (∀ w', hasM σ e.to_ = true → atI o1 e.to_ = some w' → at0 σ e.to_ = o' → w'.l = vecm m o' → F = vigilref13_Held_L12_2 f v9 N k v8 (i + 1) o1 o2) →
            (∀ w', hasM σ e.to_ = true → atI o1 e.to_ = some w' → ¬ vecm m o' = w'.l → ∃ x, F = some x ∧ isR x = true) →
            (∀ w', hasM σ e.to_ = false → atI o1 e.to_ = some w' → F = vigilref13_Held_L12_2 f v9 N k (v8 ++ [e.to_]) (i + 1) (o1.set e.to_.toNat ⟨false, false, vecm m o'⟩) (o2.set e.to_.toNat true)) →
            (∃ σ' u o1' o2', stepL (e :: fromE es a) σ = some σ' ∧ RelR f m σ' o1' o2' ∧ F = some (.e2 (σ'.map Prod.fst) u o1' o2')) ∨ (stepL (e :: fromE es a) σ = none ∧ ∃ x, F = some x ∧ isR x = true) := fun o' ho F hA hB hC => by
          have htl := alongP_tl hm ho (fun i hi => iv.at_tl e.from_ i hi) he.2.2
          rw [hst]
          by_cases hh : hasM σ e.to_ = true
          · obtain ⟨w', g1, g2⟩ := hold hh
            by_cases hq : at0 σ e.to_ = o'
            · have : stepE σ e = some σ := by simp only [stepE, ho, Option.bind_some, hh, if_true, hq]
              rw [this, hA w' hh g1 hq (by rw [g2, hq])]
              exact ih σ v8 o1 o2 iv hw h8 r
            · have : stepE σ e = none := by simp only [stepE, ho, Option.bind_some, hh, if_true, hq, if_false]
              rw [this]
              refine .inr ⟨rfl, hB w' hh g1 ?_⟩
              rw [g2]
              exact fun h => hq ((vecm_eq hm htl (fun i hi => iv.at_tl e.to_ i hi)).1 h).symm
          · have hn : e.to_ ∉ σ.map Prod.fst := fun h => hh (hasM_iff.2 h)
            have hs : stepE σ e = some (σ ++ [(e.to_, o')]) := by simp only [stepE, ho, Option.bind_some, hh, if_false]; rfl
            obtain ⟨w', g1⟩ := hany
            obtain ⟨iv', _⟩ := iv.step hm he hs
            rw [hs, hC w' (eq_false_of_ne_true hh) g1]
            refine ih _ _ _ _ iv' (by rw [hw]; simp) ?_ (r.add hto hn)
            rw [List.getElem?_append_left (List.getElem?_eq_some_iff.1 h8).1]; exact h8
        unfold vigilref13_Held_J17_4
        by_cases h4 : e.kind = 4
        · have hmon := he.2.2 (by omega)
          have hat : atI w.l e.mon = some ((at0 σ e.from_).get e.mon.toNat) := by rw [hw2]; exact atI_of hmon.1 (vecm_get hm _ (by omega))
          have hbm := hb e.mon.toNat
          rw [if_pos h4, hat]
          simp only [Option.bind_some]
          rw [if_pos (inr_of (by omega) (by omega))]
          simp only [Option.bind_some]
          unfold vigilref13_Held_J19_7
          rw [if_neg (by omega)]
          simp only [Option.bind_some]
          rw [if_pos hrng, hsee']
          simp only [Option.bind_some]
          have ho : alongP (at0 σ e.from_) e = some ((at0 σ e.from_).upd e.mon.toNat ((at0 σ e.from_).get e.mon.toNat + 1)) := by unfold alongP; rw [if_pos h4]
          rw [hw2, vecm_upd hm _ (by omega), vecm_len hm, vecm_len hm]
          refine hfin _ ho _ (fun w' hh g1 hq g2 => ?_) (fun w' hh g1 g2 => ?_) (fun w' hh g1 => ?_)
          · simp only [hh, cond_true, g1, Option.bind_some, same_m hm hL hN, g2, decide_true]
            rw [if_pos hinr]
          · simp only [hh, cond_true, g1, Option.bind_some, same_m hm hL hN, g2, decide_false, cond_false]
            exact ⟨_, rfl, rfl⟩
          · simp only [hh, cond_false, if_true, g1, Option.bind_some]
            rw [if_pos hroom, if_pos hinr]
        · rw [if_neg h4]
          simp only [Option.bind_some]
          unfold vigilref13_Held_J19_8
          by_cases h5 : e.kind = 5
          · have hmon := he.2.2 (by omega)
            have hat : atI w.l e.mon = some ((at0 σ e.from_).get e.mon.toNat) := by rw [hw2]; exact atI_of hmon.1 (vecm_get hm _ (by omega))
            have hbm := hb e.mon.toNat
            rw [if_pos h5, hat]
            simp only [Option.bind_some]
            rw [if_pos (inr_of (by omega) (by omega)), if_pos (show 0 ≤ e.mon ∧ e.mon < (w.l.length : Int) by omega)]
            by_cases hneg : (at0 σ e.from_).get e.mon.toNat - 1 < 0
            · rw [if_pos hneg]
              simp only [Option.bind_some]
              have ho : alongP (at0 σ e.from_) e = none := by unfold alongP; rw [if_neg h4, if_pos h5, if_pos hneg]
              rw [hst]
              refine .inr ⟨by simp only [stepE, ho, Option.bind_none], _, rfl, rfl⟩
            · rw [if_neg hneg]
              simp only [Option.bind_some]
              rw [if_pos hrng, hsee']
              simp only [Option.bind_some]
              have ho : alongP (at0 σ e.from_) e = some ((at0 σ e.from_).upd e.mon.toNat ((at0 σ e.from_).get e.mon.toNat - 1)) := by unfold alongP; rw [if_neg h4, if_pos h5, if_neg hneg]
              rw [hw2, vecm_upd hm _ (by omega), vecm_len hm, vecm_len hm]
              refine hfin _ ho _ (fun w' hh g1 hq g2 => ?_) (fun w' hh g1 g2 => ?_) (fun w' hh g1 => ?_)
              · simp only [hh, cond_true, g1, Option.bind_some, same_m hm hL hN, g2, decide_true]
                rw [if_pos hinr]
              · simp only [hh, cond_true, g1, Option.bind_some, same_m hm hL hN, g2, decide_false, cond_false]
                exact ⟨_, rfl, rfl⟩
              · simp only [hh, cond_false, if_true, g1, Option.bind_some]
                rw [if_pos hroom, if_pos hinr]
          · rw [if_neg h5]
            simp only [Option.bind_some]
            rw [if_pos hrng, hsee']
            simp only [Option.bind_some]
            have ho : alongP (at0 σ e.from_) e = some (at0 σ e.from_) := by unfold alongP; rw [if_neg h4, if_neg h5]
            rw [hw2]
            refine hfin _ ho _ (fun w' hh g1 hq g2 => ?_) (fun w' hh g1 g2 => ?_) (fun w' hh g1 => ?_)
            · simp only [hh, cond_true, g1, Option.bind_some, same2_m hm hL hN, g2, decide_true]
              rw [if_pos hinr]
            · simp only [hh, cond_true, g1, Option.bind_some, same2_m hm hL hN, g2, decide_false, cond_false]
              exact ⟨_, rfl, rfl⟩
            · simp only [hh, cond_false, if_true, g1, Option.bind_some]
              rw [if_pos hroom, if_pos hinr]
    · rw [if_neg h, List.drop_eq_nil_of_le (by omega)]
      exact .inl ⟨σ, _, o1, o2, rfl, r, by rw [hw]⟩
end
end Go.Proofs.Ytkfmoodaplelnaa

/-
  The document's Held, Reached and Sections, plain.
-/
set_option linter.unusedVariables false
set_option linter.unusedSimpArgs false
set_option linter.unusedSectionVars false
set_option maxRecDepth 100000
namespace Go.Proofs.Ytkfmoodaplelnaa
open Go Go.Abs Go.Proofs
section
variable {f : GFlow} {m : Nat} (hm : m ≤ 8) (hL : f.locs ≤ 600)
include hm hL
def isR9 : vigilref13_Held_L9O → Bool
  | .r .. => true
  | .e0 .. => false
theorem ref_outer (hes : ∀ e ∈ f.edges.l, edgeOk f.locs m e) (hlen : f.edges.l.length ≤ 100000) {N : Nat} (hN : 100 ≤ N) (hN2 : f.edges.l.length + 1 ≤ N) : ∀ (k v : Nat) (i : Int) (σ : Sg) (v8 : List Int) (o1 : List (Sl Int)) (o2 : List Bool), i = (v : Int) → v ≤ σ.length → f.locs.toNat + 1 ≤ v + k → Iv f m σ → v8 = σ.map Prod.fst → RelR f m σ o1 o2 →
    (∃ σ' a b o1' o2', runP f.edges.l k v σ = some σ' ∧ RelR f m σ' o1' o2' ∧ vigilref13_Held_L9 f N k v8 i o1 o2 = some (.e0 a b o1' o2')) ∨ (runP f.edges.l k v σ = none ∧ ∃ x, vigilref13_Held_L9 f N k v8 i o1 o2 = some x ∧ isR9 x = true)
  | 0, v, i, σ, v8, o1, o2, hi, hv, hk, iv, hw, r => by have := iv.len; omega
  | k + 1, v, i, σ, v8, o1, o2, hi, hv, hk, iv, hw, r => by
    have hlen' := iv.len
    unfold vigilref13_Held_L9 runP
    by_cases h : i < (v8.length : Int)
    · rw [if_pos h]
      have hv' : v < σ.length := by rw [hw] at h; simp at h; omega
      have hin : i.toNat = v := by omega
      have h8 : v8[i.toNat]? = some σ[v].1 := by rw [hw, hin, List.getElem?_map, List.getElem?_eq_getElem hv']; rfl
      have hfe : ∀ e ∈ fromE f.edges.l σ[v].1, edgeOk f.locs m e := fun e he => hes e (List.mem_filter.1 he).1
      rw [List.getElem?_eq_getElem hv']
      rcases ref_inner hm hL hes hlen hN (v9 := i) (a := σ[v].1) (by omega) N 0 0 σ v8 o1 o2 rfl (by omega) (by omega) iv hw h8 r with ⟨σ', u, o1', o2', h1, h2, h3⟩ | ⟨h1, x, h3, h4⟩
      · rw [List.drop_zero] at h1
        rw [h3]
        simp only [h1, Option.bind_some]
        rw [if_pos (inr_of (by omega) (by omega))]
        obtain ⟨iv', τ, hτ⟩ := iv.steps hm hfe h1
        exact ref_outer hes hlen hN hN2 k (v + 1) (i + 1) σ' _ o1' o2' (by omega) (by rw [hτ, List.length_append]; omega) (by omega) iv' rfl h2
      · rw [List.drop_zero] at h1
        rw [h3]
        simp only [h1, Option.bind_some, Option.bind_none]
        cases x with
        | r => exact .inr ⟨trivial, _, rfl, rfl⟩
        | e2 => cases h4
    · rw [if_neg h]
      have hv' : σ[v]? = none := List.getElem?_eq_none (by rw [hw] at h; simp at h; omega)
      rw [hv']
      exact .inl ⟨σ, _, _, o1, o2, rfl, r, rfl⟩
/-- What is owned at each place, as a list. -/
def outL (m L : Nat) (σ : Sg) : List (List Int) := (List.range L).map fun i : Nat => match getM σ (i : Int) with | some o => vecm m o | none => []
omit hm hL in
theorem nil_loop {σ : Sg} {o2 : List Bool} (hL : f.locs ≤ 100000) (h2 : ∀ i : Nat, i < f.locs.toNat → o2[i]? = some (hasM σ (i : Int))) {N : Nat} : ∀ (k v : Nat) (i : Int) (o1 : List (Sl Int)), i = (v : Int) → v ≤ f.locs.toNat → f.locs.toNat + 1 ≤ v + k → o1.length = f.locs.toNat →
    (∀ j : Nat, j < f.locs.toNat → hasM σ (j : Int) = true → ∃ w, o1[j]? = some w ∧ w.l = vecm m (at0 σ (j : Int))) → (∀ j : Nat, j < v → hasM σ (j : Int) = false → o1[j]? = some Sl.nil) →
    ∃ u o1', vigilref13_Held_L30 f o2 N k i o1 = some (.e4 u o1') ∧ o1'.length = f.locs.toNat ∧ (∀ j : Nat, j < f.locs.toNat → hasM σ (j : Int) = true → ∃ w, o1'[j]? = some w ∧ w.l = vecm m (at0 σ (j : Int))) ∧ (∀ j : Nat, j < f.locs.toNat → hasM σ (j : Int) = false → o1'[j]? = some Sl.nil)
  | 0, v, i, o1, hi, hv, hk, hl, ha, hb => by omega
  | k + 1, v, i, o1, hi, hv, hk, hl, ha, hb => by
    unfold vigilref13_Held_L30
    by_cases h : i < f.locs
    · have hv' : v < f.locs.toNat := by omega
      rw [if_pos h, if_pos (show 0 ≤ i ∧ i < (f.locs.toNat : Int) by omega), show atI o2 i = o2[v]? by rw [hi, atI_nat], h2 v hv']
      simp only [Option.bind_some]
      cases hh : hasM σ (v : Int) with
      | true =>
        simp only [cond_true]
        rw [if_pos (inr_of (by omega) (by omega))]
        refine nil_loop hL h2 k (v + 1) (i + 1) o1 (by omega) (by omega) (by omega) hl ha fun j hj hn => ?_
        by_cases hjv : j = v
        · subst hjv; rw [hh] at hn; cases hn
        · exact hb j (by omega) hn
      | false =>
        simp only [cond_false]
        rw [show atI o1 i = o1[v]? by rw [hi, atI_nat], List.getElem?_eq_getElem (by omega)]
        simp only [Option.bind_some]
        rw [if_pos (inr_of (by omega) (by omega)), show i.toNat = v by omega]
        refine nil_loop hL h2 k (v + 1) (i + 1) _ (by omega) (by omega) (by omega) (by simp [hl]) (fun j hj hn => ?_) fun j hj hn => ?_
        · have hjv : v ≠ j := fun hq => by subst hq; rw [hh] at hn; cases hn
          rw [List.getElem?_set, if_neg hjv]
          exact ha j hj hn
        · rw [List.getElem?_set]
          by_cases hjv : v = j
          · rw [if_pos hjv, if_pos (by omega)]
          · rw [if_neg hjv]; exact hb j (by omega) hn
    · rw [if_neg h]
      have : v = f.locs.toNat := by omega
      subst this
      exact ⟨_, _, rfl, hl, ha, hb⟩
theorem lists_eq {σ : Sg} {o1 : List (Sl Int)} {L : Nat} (hl : o1.length = L) (ha : ∀ j : Nat, j < L → hasM σ (j : Int) = true → ∃ w, o1[j]? = some w ∧ w.l = vecm m (at0 σ (j : Int))) (hb : ∀ j : Nat, j < L → hasM σ (j : Int) = false → o1[j]? = some Sl.nil) : o1.map Sl.l = outL m L σ := by
  refine List.ext_getElem? fun i => ?_
  rw [outL, List.getElem?_map, List.getElem?_map]
  by_cases hi : i < L
  · rw [List.getElem?_range hi]
    simp only [Option.map_some]
    cases hg : getM σ (i : Int) with
    | none =>
      have : hasM σ (i : Int) = false := by unfold hasM; rw [hg]; rfl
      rw [hb i hi this]; rfl
    | some o =>
      have h1 : hasM σ (i : Int) = true := by unfold hasM; rw [hg]; rfl
      obtain ⟨w, h2, h3⟩ := ha i hi h1
      rw [h2]
      simp only [Option.map_some, h3]
      have : at0 σ (i : Int) = o := by unfold at0 lookM; rw [hg]; rfl
      rw [this]
  · rw [List.getElem?_eq_none (by omega), List.getElem?_eq_none (by simp; omega)]; rfl
end
/-- What the document's Held comes to. -/
theorem ref_held {f : GFlow} {m : Int} {N : Nat} (hlen : f.edges.l.length ≤ 100000) (hN : f.edges.l.length + 1 ≤ N) (hN2 : 700 ≤ N) :
    (¬ Shaped f m ∧ vigilref13_Held N f m = some (Sl.nil, false)) ∨ (Shaped f m ∧ ((∃ σ l, runP f.edges.l N 0 σ0 = some σ ∧ vigilref13_Held N f m = some (⟨false, true, l⟩, true) ∧ l.map Sl.l = outL m.toNat f.locs.toNat σ) ∨ (runP f.edges.l N 0 σ0 = none ∧ vigilref13_Held N f m = some (Sl.nil, false)))) := by
  unfold vigilref13_Held
  rw [ref_shaped f m hN hlen]
  by_cases hs : Shaped f m
  · refine .inr ⟨hs, ?_⟩
    obtain ⟨hb, hes⟩ := hs
    have hm : (m.toNat : Int) = m := by omega
    have hes' : ∀ e ∈ f.edges.l, edgeOk f.locs (m.toNat : Int) e := by rw [hm]; exact hes
    rw [decide_eq_true (show Shaped f m from ⟨hb, hes⟩)]
    simp only [Option.bind_some, cond_true]
    have hpos : 0 < f.locs.toNat := by omega
    have g1 : atI (List.replicate f.locs.toNat ((Sl.nil : Sl Int) : Sl Int)) 0 = some Sl.nil := atI_of (by omega) (by simp [hpos])
    have g2 : atI (List.replicate f.locs.toNat (false : Bool)) 0 = some false := atI_of (by omega) (by simp [hpos])
    rw [if_pos (by omega), if_pos (show Mk 24 f.locs.toNat by unfold Mk; omega), if_pos (show Mk 1 f.locs.toNat by unfold Mk; omega), if_pos (by omega), if_pos (show Mk 8 m.toNat by unfold Mk; omega), if_pos (show 0 ≤ (0 : Int) ∧ (0 : Int) < (f.locs.toNat : Int) by omega), g1, g2]
    simp only [Option.bind_some]
    have hrel : RelR f m.toNat σ0 ((List.replicate f.locs.toNat ((Sl.nil : Sl Int) : Sl Int)).set 0 (⟨false, true, (List.replicate m.toNat (0 : Int))⟩ : Sl Int)) ((List.replicate f.locs.toNat (false : Bool)).set 0 true) := by
      refine ⟨by simp, by simp, fun i hi => ?_, fun i hi hh => ?_⟩
      · rw [List.getElem?_set]
        by_cases h0 : 0 = i
        · subst h0; simp [hpos]; rfl
        · rw [if_neg h0]
          simp only [List.getElem?_replicate, hi, if_true]
          have : hasM σ0 (i : Int) = false := by
            unfold hasM σ0 getM; rw [if_neg (by omega)]; rfl
          rw [this]
      · rw [hasM_iff] at hh
        simp only [σ0, List.map_cons, List.map_nil, List.mem_singleton] at hh
        have h0 : i = 0 := by omega
        subst h0
        refine ⟨_, by rw [List.getElem?_set, if_pos rfl, if_pos (by simp; omega)], ?_⟩
        have ha : at0 σ0 ((0 : Nat) : Int) = O0 := rfl
        rw [ha]
        show List.replicate m.toNat (0 : Int) = vecm m.toNat O0
        have : m.toNat ≤ 8 := by omega
        revert this
        generalize m.toNat = j
        intro hj
        match j, hj with
        | 0, _ => rfl
        | 1, _ => rfl
        | 2, _ => rfl
        | 3, _ => rfl
        | 4, _ => rfl
        | 5, _ => rfl
        | 6, _ => rfl
        | 7, _ => rfl
        | 8, _ => rfl
        | j + 9, h => omega
    rcases ref_outer (f := f) (m := m.toNat) (by omega) (by omega) hes' hlen (N := N) (by omega) hN N 0 0 σ0 [0] _ _ rfl (by simp [σ0]) (by omega) (iv0 hb.1) rfl hrel with ⟨σ', a, b, o1', o2', h1, h2, h3⟩ | ⟨h1, x, h3, h4⟩
    · rw [h3]
      simp only [Option.bind_some]
      obtain ⟨u, o1'', h4, h5, h6, h7⟩ := nil_loop (m := m.toNat) (f := f) (by omega) h2.seen (N := N) N 0 0 o1' rfl (by omega) (by omega) h2.l1 h2.val (fun j hj => by omega)
      rw [h4]
      simp only [Option.bind_some]
      rw [if_pos h5.symm]
      exact .inl ⟨σ', _, h1, rfl, lists_eq (f := f) (by omega) (by omega) h5 h6 h7⟩
    · rw [h3]
      simp only [Option.bind_some]
      cases x with
      | r => exact .inr ⟨h1, rfl⟩
      | e0 => cases h4
  · refine .inl ⟨hs, ?_⟩
    rw [decide_eq_false hs]; rfl
end Go.Proofs.Ytkfmoodaplelnaa

/-
  Who is reached; sections.
-/
set_option linter.unusedVariables false
set_option linter.unusedSimpArgs false
set_option linter.unusedSectionVars false
set_option maxRecDepth 100000
namespace Go.Proofs.Ytkfmoodaplelnaa
open Go Go.Abs Go.Proofs
/-! ### the search's places -/
theorem stepE_keys {σ σ' : Sg} {e : GEdge} (h : stepE σ e = some σ') : e.to_ ∈ σ'.map Prod.fst ∧ (∀ a ∈ σ.map Prod.fst, a ∈ σ'.map Prod.fst) ∧ (∀ a ∈ σ'.map Prod.fst, a ∈ σ.map Prod.fst ∨ a = e.to_) := by
  unfold stepE at h
  obtain ⟨o, h1, h2⟩ := Option.bind_eq_some_iff.1 h
  split at h2
  · rename_i hh
    split at h2
    · cases h2; exact ⟨hasM_iff.1 hh, fun a ha => ha, fun a ha => .inl ha⟩
    · cases h2
  · cases h2
    refine ⟨by simp, fun a ha => by rw [List.map_append]; exact List.mem_append_left _ ha, fun a ha => ?_⟩
    rw [List.map_append, List.mem_append] at ha
    rcases ha with ha | ha
    · exact .inl ha
    · simp only [List.map_cons, List.map_nil, List.mem_singleton] at ha; exact .inr ha
theorem stepL_keys : ∀ {es : List GEdge} {σ σ' : Sg}, stepL es σ = some σ' → (∀ e ∈ es, e.to_ ∈ σ'.map Prod.fst) ∧ (∀ a ∈ σ.map Prod.fst, a ∈ σ'.map Prod.fst) ∧ (∀ a ∈ σ'.map Prod.fst, a ∈ σ.map Prod.fst ∨ ∃ e ∈ es, a = e.to_)
  | [], σ, σ', h => by cases h; exact ⟨fun e he => (by cases he), fun a ha => ha, fun a ha => .inl ha⟩
  | e :: es, σ, σ', h => by
    unfold stepL at h
    obtain ⟨σ1, h1, h2⟩ := Option.bind_eq_some_iff.1 h
    obtain ⟨a1, a2, a3⟩ := stepE_keys h1
    obtain ⟨b1, b2, b3⟩ := stepL_keys h2
    refine ⟨fun x hx => ?_, fun a ha => b2 a (a2 a ha), fun a ha => ?_⟩
    · rcases List.mem_cons.1 hx with rfl | hx
      · exact b2 _ a1
      · exact b1 x hx
    · rcases b3 a ha with h | ⟨x, hx, rfl⟩
      · rcases a3 a h with h | h
        · exact .inl h
        · exact .inr ⟨e, List.mem_cons_self .., h⟩
      · exact .inr ⟨x, List.mem_cons_of_mem _ hx, rfl⟩
theorem runP_keys {f : GFlow} {m : Nat} (hm : m ≤ 8) (hes : ∀ e ∈ f.edges.l, edgeOk f.locs m e) : ∀ {k v : Nat} {σ σ' : Sg}, Iv f m σ → runP f.edges.l k v σ = some σ' → (∀ j, j < v → ∀ p, σ[j]? = some p → ∀ e ∈ fromE f.edges.l p.1, e.to_ ∈ σ.map Prod.fst) →
    (∀ a ∈ σ.map Prod.fst, a ∈ σ'.map Prod.fst) ∧ (∀ e ∈ f.edges.l, e.from_ ∈ σ'.map Prod.fst → e.to_ ∈ σ'.map Prod.fst) ∧ (∀ C : Int → Prop, (∀ e ∈ f.edges.l, C e.from_ → C e.to_) → (∀ a ∈ σ.map Prod.fst, C a) → ∀ a ∈ σ'.map Prod.fst, C a)
  | 0, v, σ, σ', iv, h, hd => by cases h
  | k + 1, v, σ, σ', iv, h, hd => by
    unfold runP at h
    cases hv : σ[v]? with
    | none =>
      rw [hv] at h
      cases h
      refine ⟨fun a ha => ha, fun e he hf => ?_, fun C hC h0 => h0⟩
      obtain ⟨p, hp, hpe⟩ := List.mem_map.1 hf
      obtain ⟨j, hj⟩ := List.getElem?_of_mem hp
      have hjl := (List.getElem?_eq_some_iff.1 hj).1
      have hvl := List.getElem?_eq_none_iff.1 hv
      exact hd j (by omega) p hj e (List.mem_filter.2 ⟨he, by simp [hpe]⟩)
    | some p =>
      rw [hv] at h
      simp only at h
      obtain ⟨σ1, h1, h2⟩ := Option.bind_eq_some_iff.1 h
      have hfe : ∀ e ∈ fromE f.edges.l p.1, edgeOk f.locs m e := fun e he => hes e (List.mem_filter.1 he).1
      obtain ⟨iv1, τ, hτ⟩ := iv.steps hm hfe h1
      obtain ⟨b1, b2, b3⟩ := stepL_keys h1
      obtain ⟨c1, c2, c3⟩ := runP_keys hm hes iv1 h2 fun j hj q hq e he => by
        have hvl := (List.getElem?_eq_some_iff.1 hv).1
        rw [hτ, List.getElem?_append_left (by omega)] at hq
        by_cases hjv : j = v
        · subst hjv
          rw [hv] at hq; cases hq
          exact b1 e he
        · exact b2 _ (hd j (by omega) q hq e he)
      refine ⟨fun a ha => c1 a (b2 a ha), c2, fun C hC h0 => c3 C hC fun a ha => ?_⟩
      rcases b3 a ha with h | ⟨x, hx, rfl⟩
      · exact h0 a h
      · obtain ⟨g1, g2⟩ := List.mem_filter.1 hx
        have : x.from_ = p.1 := by simpa using g2
        exact hC x g1 (this ▸ h0 p.1 (List.mem_map_of_mem (List.mem_of_getElem? hv)))
/-! ### Reached -/
def cnt (l : List Bool) : Nat := (l.filter id).length
theorem cnt_le (l : List Bool) : cnt l ≤ l.length := List.length_filter_le _ _
theorem cnt_lt : ∀ {a b : List Bool}, a.length = b.length → (∀ j : Nat, a[j]? = some true → b[j]? = some true) → a ≠ b → cnt a < cnt b ∧ True
  | [], [], _, _, h => absurd rfl h
  | [], _ :: _, h, _, _ => by simp at h
  | _ :: _, [], h, _, _ => by simp at h
  | x :: a, y :: b, hl, h, hne => by
    have hl' : a.length = b.length := by simpa using hl
    have h' : ∀ j : Nat, a[j]? = some true → b[j]? = some true := fun j hj => by simpa using h (j + 1) (by simpa using hj)
    have h0 := h 0
    have hmono : cnt a ≤ cnt b := by
      by_cases hab : a = b
      · rw [hab]; exact Nat.le_refl _
      · exact Nat.le_of_lt (cnt_lt hl' h' hab).1
    unfold cnt at hmono ⊢
    cases x <;> cases y
    · have hab : a ≠ b := fun hh => hne (by rw [hh])
      have := (cnt_lt hl' h' hab).1
      unfold cnt at this
      simpa using this
    · simp; omega
    · simp at h0
    · have hab : a ≠ b := fun hh => hne (by rw [hh])
      have := (cnt_lt hl' h' hab).1
      unfold cnt at this
      simpa using this
section
variable {f : GFlow} {m : Int} (hes : ∀ e ∈ f.edges.l, edgeOk f.locs m e) (hlen : f.edges.l.length ≤ 100000) (hL : f.locs ≤ 100000)
include hes hlen
theorem reached_inner {N : Nat} {v4 : Int} : ∀ (k v : Nat) (i : Int) (o : List Bool), i = (v : Int) → v ≤ f.edges.l.length → f.edges.l.length + 1 ≤ v + k → o.length = f.locs.toNat →
    ∃ u o', vigilref13_Reached_L7_2 f v4 N k i o = some (.e2 u o') ∧ o'.length = f.locs.toNat ∧ (∀ j : Nat, o[j]? = some true → o'[j]? = some true) ∧ (∀ e ∈ f.edges.l.drop v, o[e.from_.toNat]? = some true → o'[e.to_.toNat]? = some true) ∧
      (∀ C : Nat → Prop, (∀ e ∈ f.edges.l, C e.from_.toNat → C e.to_.toNat) → (∀ j : Nat, o[j]? = some true → C j) → ∀ j : Nat, o'[j]? = some true → C j)
  | 0, v, i, o, hi, hv, hk, hl => by omega
  | k + 1, v, i, o, hi, hv, hk, hl => by
    unfold vigilref13_Reached_L7_2
    by_cases h : i < (f.edges.l.length : Int)
    · have hv' : v < f.edges.l.length := by omega
      have he := hes _ (List.getElem_mem hv')
      have hmem := List.getElem_mem hv'
      rw [if_pos h]
      simp only [show atI f.edges.l i = f.edges.l[v]? by rw [hi, atI_nat], List.getElem?_eq_getElem hv', Option.bind_some]
      rw [List.drop_eq_getElem_cons hv']
      have ih := fun o => reached_inner (N := N) (v4 := v4) k (v + 1) (i + 1) o (by omega) (by omega) (by omega)
      generalize f.edges.l[v] = e at he hmem ⊢
      generalize f.edges.l.drop (v + 1) = es at ih ⊢
      obtain ⟨h1, h2, _⟩ := he
      have hinr : InR (i + 1) := inr_of (by omega) (by omega)
      have hf : e.from_.toNat < o.length := by omega
      rw [if_pos (show 0 ≤ e.from_ ∧ e.from_ < (f.locs.toNat : Int) by omega), atI_of h1.1 (List.getElem?_eq_getElem hf)]
      simp only [Option.bind_some]
      cases hb : o[e.from_.toNat] with
      | true =>
        simp only [cond_true]
        rw [if_pos (show 0 ≤ e.to_ ∧ e.to_ < (f.locs.toNat : Int) by omega), atI_of h2.1 (List.getElem?_eq_getElem (show e.to_.toNat < o.length by omega))]
        simp only [Option.bind_some]
        rw [if_pos hinr]
        obtain ⟨u, o', g1, g2, g3, g4, g5⟩ := ih (o.set e.to_.toNat true) (by simp [hl])
        have hset : ∀ j : Nat, o[j]? = some true → (o.set e.to_.toNat true)[j]? = some true := fun j hj => by
          rw [List.getElem?_set]
          split
          · rw [if_pos (by omega)]
          · exact hj
        refine ⟨u, o', g1, g2, fun j hj => g3 j (hset j hj), fun x hx hj => ?_, fun C hC h0 => g5 C hC fun j hj => ?_⟩
        · rcases List.mem_cons.1 hx with rfl | hx
          · exact g3 _ (by rw [List.getElem?_set, if_pos rfl, if_pos (by omega)])
          · exact g4 x hx (hset _ hj)
        · rw [List.getElem?_set] at hj
          split at hj
          · rename_i hjt
            rw [← hjt]
            exact hC e hmem (h0 _ (by rw [List.getElem?_eq_getElem hf, hb]))
          · exact h0 j hj
      | false =>
        simp only [cond_false]
        rw [if_pos hinr]
        obtain ⟨u, o', g1, g2, g3, g4, g5⟩ := ih o hl
        refine ⟨u, o', g1, g2, g3, fun x hx hj => ?_, g5⟩
        rcases List.mem_cons.1 hx with rfl | hx
        · rw [List.getElem?_eq_getElem hf, hb] at hj; cases hj
        · exact g4 x hx hj
    · rw [if_neg h, List.drop_eq_nil_of_le (by omega)]
      exact ⟨_, o, rfl, hl, fun j hj => hj, fun e he => (by cases he), fun C hC h0 => h0⟩
def ClosedB (f : GFlow) (o : List Bool) : Prop := ∀ e ∈ f.edges.l, o[e.from_.toNat]? = some true → o[e.to_.toNat]? = some true
include hL
theorem reached_outer {N : Nat} (hN : f.edges.l.length + 1 ≤ N) : ∀ (k v : Nat) (i : Int) (o : List Bool), i = (v : Int) → v ≤ f.locs.toNat → f.locs.toNat + 1 ≤ v + k → o.length = f.locs.toNat → (ClosedB f o ∨ v + 1 ≤ cnt o) →
    ∃ u o', vigilref13_Reached_L4 f N k i o = some (.e0 u o') ∧ o'.length = f.locs.toNat ∧ ClosedB f o' ∧ (∀ j : Nat, o[j]? = some true → o'[j]? = some true) ∧
      (∀ C : Nat → Prop, (∀ e ∈ f.edges.l, C e.from_.toNat → C e.to_.toNat) → (∀ j : Nat, o[j]? = some true → C j) → ∀ j : Nat, o'[j]? = some true → C j)
  | 0, v, i, o, hi, hv, hk, hl, hc => by omega
  | k + 1, v, i, o, hi, hv, hk, hl, hc => by
    unfold vigilref13_Reached_L4
    by_cases h : i < f.locs
    · rw [if_pos h]
      obtain ⟨u, o1, g1, g2, g3, g4, g5⟩ := reached_inner hes hlen (N := N) (v4 := i) N 0 0 o rfl (by omega) (by omega) hl
      rw [g1]
      simp only [Option.bind_some]
      rw [if_pos (inr_of (by omega) (by omega))]
      rw [List.drop_zero] at g4
      have hc1 : ClosedB f o1 ∨ (v + 1) + 1 ≤ cnt o1 := by
        by_cases heq : o = o1
        · subst heq; exact .inl g4
        · rcases hc with hc | hc
          · exact .inl fun e he hf => g3 _ (hc e he (g5 (fun j => o[j]? = some true) hc (fun j hj => hj) _ hf))
          · have := (cnt_lt (by omega) g3 heq).1
            exact .inr (by omega)
      obtain ⟨u', o', q1, q2, q3, q4, q5⟩ := reached_outer hN k (v + 1) (i + 1) o1 (by omega) (by omega) (by omega) g2 hc1
      exact ⟨u', o', q1, q2, q3, fun j hj => q4 j (g3 j hj), fun C hC h0 => q5 C hC (g5 C hC h0)⟩
    · rw [if_neg h]
      have hvl : v = f.locs.toNat := by omega
      refine ⟨_, o, rfl, hl, ?_, fun j hj => hj, fun C hC h0 => h0⟩
      rcases hc with hc | hc
      · exact hc
      · have := cnt_le o; omega
end
theorem cnt_set0 : ∀ {l : List Bool}, l[0]? = some true → 1 ≤ cnt l
  | [], h => by simp at h
  | x :: l, h => by simp at h; subst h; simp [cnt]
/-- What Reached comes to. -/
theorem reached_ok {f : GFlow} {m : Int} {N : Nat} (hs : Shaped f m) (hlen : f.edges.l.length ≤ 100000) (hN : f.edges.l.length + 1 ≤ N) (hN2 : 700 ≤ N) {σ : Sg} (hr : runP f.edges.l N 0 σ0 = some σ) (iv : Iv f m.toNat σ) :
    ∃ r, vigilref13_Reached N f = some r ∧ ∀ i : Nat, i < f.locs.toNat → r.l[i]? = some (hasM σ (i : Int)) := by
  obtain ⟨hb, hes⟩ := hs
  have hm : (m.toNat : Int) = m := by omega
  have hes' : ∀ e ∈ f.edges.l, edgeOk f.locs (m.toNat : Int) e := by rw [hm]; exact hes
  obtain ⟨c1, c2, c3⟩ := runP_keys (m := m.toNat) (by omega) hes' (iv0 hb.1) hr (fun j hj => by omega)
  have hpos : 0 < f.locs.toNat := by omega
  have g2 : atI (List.replicate f.locs.toNat (false : Bool)) 0 = some false := atI_of (by omega) (by simp [hpos])
  unfold vigilref13_Reached
  rw [if_pos (by omega), if_pos (show Mk 1 f.locs.toNat by unfold Mk; omega), if_pos (show 0 ≤ (0 : Int) ∧ (0 : Int) < (f.locs.toNat : Int) by omega), g2]
  simp only [Option.bind_some]
  have h00 : ((List.replicate f.locs.toNat (false : Bool)).set 0 true)[0]? = some true := by rw [List.getElem?_set, if_pos rfl, if_pos (by simp [hpos])]
  obtain ⟨u, o', q1, q2, q3, q4, q5⟩ := reached_outer hes hlen (by omega) hN N 0 0 ((List.replicate f.locs.toNat (false : Bool)).set 0 true) rfl (by omega) (by omega) (by simp) (.inr (cnt_set0 h00))
  rw [q1]
  simp only [Option.bind_some]
  rw [if_pos q2.symm]
  refine ⟨_, rfl, fun i hi => ?_⟩
  have hlt : i < o'.length := by omega
  show o'[i]? = _
  rw [List.getElem?_eq_getElem hlt]
  congr 1
  rw [Bool.eq_iff_iff, hasM_iff]
  constructor
  · intro hh
    refine q5 (fun j => (j : Int) ∈ σ.map Prod.fst) (fun e he hf => ?_) (fun j hj => ?_) i (by rw [List.getElem?_eq_getElem hlt, hh])
    · have ho := hes e he
      have e1 : ((e.from_.toNat : Nat) : Int) = e.from_ := by have := ho.1; omega
      have e2 : ((e.to_.toNat : Nat) : Int) = e.to_ := by have := ho.2.1; omega
      rw [e2]; rw [e1] at hf
      exact c2 e he hf
    · rw [List.getElem?_set] at hj
      split at hj
      · rename_i hj0; subst hj0; exact c1 0 (by simp [σ0])
      · rw [List.getElem?_replicate] at hj; split at hj <;> simp at hj
  · intro hh
    have := c3 (fun a => o'[a.toNat]? = some true) (fun e he hf => q3 e he hf) (fun a ha => by
      simp only [σ0, List.map_cons, List.map_nil, List.mem_singleton] at ha
      subst ha
      exact q4 0 h00) (i : Int) hh
    simp only [Int.toNat_natCast, List.getElem?_eq_getElem hlt, Option.some.injEq] at this
    exact this
end Go.Proofs.Ytkfmoodaplelnaa
