/-
  HeldFinds answers true.
-/
import Derived.Test.YtkfmoodaplelnaaPc
import Derived.Test.YtkfmoodaplelnaaLv
set_option linter.unusedVariables false
set_option linter.unusedSimpArgs false
set_option linter.unusedSectionVars false
set_option maxRecDepth 100000
namespace Go.Proofs.Ytkfmoodaplelnaa
open Go Go.Abs Go.Proofs
def secs (σ : Sg) (j : Nat) : Nat → Nat → List Int
  | 0, _ => []
  | c + 1, v => if hasM σ (v : Int) = true ∧ (at0 σ (v : Int)).get j > 0 then (v : Int) :: secs σ j c (v + 1) else secs σ j c (v + 1)
theorem held_secs {f : GFlow} {σ : Sg} {mon : Int} (hmon : 0 ≤ mon ∧ mon < 8) (hL : f.locs ≤ 100000) {o1 : List (Rs Int)} {w : Rs Int} {N : Nat} : ∀ (k v : Nat) (i : Int) (l : List Int), i = (v : Int) → v ≤ f.locs.toNat → f.locs.toNat + 1 ≤ v + k → l.length ≤ v →
    ∃ u, held_Sections_L5 f mon o1 σ w N k l i = some (.e0 (l ++ secs σ mon.toNat (f.locs.toNat - v) v) u)
  | 0, v, i, l, hi, hv, hk, hl => by omega
  | k + 1, v, i, l, hi, hv, hk, hl => by
    unfold held_Sections_L5
    by_cases h : i < f.locs
    · rw [if_pos h]
      have hinr : InR (i + 1) := inr_of (by omega) (by omega)
      obtain ⟨c, hc⟩ : ∃ c, f.locs.toNat - v = c + 1 := ⟨f.locs.toNat - v - 1, by omega⟩
      have hc' : f.locs.toNat - (v + 1) = c := by omega
      rw [hc]
      have ih := fun l => held_secs (f := f) (σ := σ) hmon hL (o1 := o1) (w := w) (N := N) k (v + 1) (i + 1) l (by omega) (by omega) (by omega)
      rw [hc'] at ih
      simp only [secs]
      have hat : Held_owned.get (lookM (({ a0 := 0, a1 := 0, a2 := 0, a3 := 0, a4 := 0, a5 := 0, a6 := 0, a7 := 0 } : Held_owned) : Held_owned) σ i) mon.toNat = (at0 σ (v : Int)).get mon.toNat := by rw [hi]; rfl
      rw [hi] at ih hinr
      rw [hat, hi]
      by_cases hh : hasM σ (v : Int) = true
      · rw [if_pos hh, if_pos hmon]
        by_cases hg : (at0 σ (v : Int)).get mon.toNat > 0
        · rw [if_pos hg, if_pos (show Room 8 (l ++ ([(v : Int)] : List Int)).length by unfold Room; simp; omega), if_pos hinr, if_pos ⟨hh, hg⟩]
          obtain ⟨u, hu⟩ := ih (l ++ [(v : Int)]) (by simp; omega)
          exact ⟨u, by rw [hu, List.append_assoc]; rfl⟩
        · rw [if_neg hg, if_pos hinr, if_neg (fun h => hg h.2)]
          exact ih l (by omega)
      · rw [if_neg hh, if_pos hinr, if_neg (fun h => hh h.1)]
        exact ih l (by omega)
    · rw [if_neg h]
      have : f.locs.toNat - v = 0 := by omega
      rw [this]
      exact ⟨_, by rw [show secs σ mon.toNat 0 v = [] from rfl, List.append_nil]⟩
theorem ref_secs {f : GFlow} {m : Nat} (hm : m ≤ 8) {σ : Sg} {mon : Int} (hmon : 0 ≤ mon ∧ mon < (m : Int)) (hL : f.locs ≤ 100000) {x : Sl (Sl Int)} {r : Sl Bool} (hx : x.l.map Sl.l = outL m f.locs.toNat σ) (hr : ∀ i : Nat, i < f.locs.toNat → r.l[i]? = some (hasM σ (i : Int))) {N : Nat} : ∀ (k v : Nat) (i : Int) (l : List Int), i = (v : Int) → v ≤ f.locs.toNat → f.locs.toNat + 1 ≤ v + k → l.length ≤ v →
    ∃ u, vigilref13_Sections_L7 f mon x r N k l i = some (.e0 (l ++ secs σ mon.toNat (f.locs.toNat - v) v) u)
  | 0, v, i, l, hi, hv, hk, hl => by omega
  | k + 1, v, i, l, hi, hv, hk, hl => by
    unfold vigilref13_Sections_L7
    by_cases h : i < f.locs
    · rw [if_pos h]
      have hv' : v < f.locs.toNat := by omega
      have hinr : InR (i + 1) := inr_of (by omega) (by omega)
      obtain ⟨c, hc⟩ : ∃ c, f.locs.toNat - v = c + 1 := ⟨f.locs.toNat - v - 1, by omega⟩
      have hc' : f.locs.toNat - (v + 1) = c := by omega
      rw [hc]
      have ih := fun l => ref_secs hm hmon hL hx hr (N := N) k (v + 1) (i + 1) l (by omega) (by omega) (by omega)
      rw [hc'] at ih
      simp only [secs, show atI r.l i = r.l[v]? by rw [hi, atI_nat], hr v hv', Option.bind_some]
      cases hh : hasM σ (v : Int) with
      | true =>
        simp only [cond_true]
        obtain ⟨o, ho⟩ : ∃ o, getM σ (v : Int) = some o := by
          unfold hasM at hh
          exact Option.isSome_iff_exists.1 hh
        have hat : at0 σ (v : Int) = o := by unfold at0 lookM; rw [ho]; rfl
        have hxv := congrArg (·[v]?) hx
        simp only [outL, List.getElem?_map, List.getElem?_range hv', Option.map_some, ho] at hxv
        obtain ⟨s, hs1, hs2⟩ := Option.map_eq_some_iff.1 hxv
        have hget : atI s.l mon = some ((at0 σ (v : Int)).get mon.toNat) := by
          rw [hs2, hat]; exact atI_of hmon.1 (vecm_get hm _ (by omega))
        simp only [show atI x.l i = x.l[v]? by rw [hi, atI_nat], hs1, Option.bind_some, hget]
        by_cases hg : (at0 σ (v : Int)).get mon.toNat > 0
        · rw [if_pos hg, if_pos (show Room 8 (l ++ ([i] : List Int)).length by unfold Room; simp; omega), if_pos hinr, if_pos ⟨trivial, hg⟩]
          obtain ⟨u, hu⟩ := ih (l ++ [i]) (by simp; omega)
          exact ⟨u, by rw [hu, List.append_assoc, hi]; rfl⟩
        · rw [if_neg hg, if_pos hinr, if_neg (fun h => hg h.2)]
          exact ih l (by omega)
      | false =>
        simp only [cond_false]
        rw [if_pos hinr, if_neg (fun h => by simp at h)]
        exact ih l (by omega)
    · rw [if_neg h]
      have : f.locs.toNat - v = 0 := by omega
      rw [this]
      exact ⟨_, by rw [show secs σ mon.toNat 0 v = [] from rfl, List.append_nil]⟩
theorem secs_len (σ : Sg) (j : Nat) : ∀ (c v : Nat), (secs σ j c v).length ≤ c
  | 0, _ => by simp [secs]
  | c + 1, v => by
    have := secs_len σ j c (v + 1)
    simp only [secs]
    split
    · simp; omega
    · omega
/-- Both lists of sections are the same. -/
theorem sections_ok {f : GFlow} {m mon : Int} (hlen : f.edges.l.length ≤ 100) : ∃ l, held_Sections 1000 f m mon = some l ∧ vigilref13_Sections 1000 f m mon = some l ∧ l.length ≤ 600 := by
  unfold held_Sections vigilref13_Sections
  rcases find_ok (f := f) (m := m) (N := 1000) (by omega) (by omega) (by omega) with ⟨hs, h1⟩ | ⟨hs, h1⟩
  · rcases ref_held (f := f) (m := m) (N := 1000) (by omega) (by omega) (by omega) with ⟨_, h2⟩ | ⟨hs', _⟩
    · rw [h1, h2]; exact ⟨[], rfl, rfl, by simp⟩
    · exact absurd hs' hs
  · rcases ref_held (f := f) (m := m) (N := 1000) (by omega) (by omega) (by omega) with ⟨hs', _⟩ | ⟨_, h2⟩
    · exact absurd hs hs'
    · rcases h1 with ⟨o1, σ, w, g1, iv, g2⟩ | ⟨g1, o1, o2, o3, g2⟩
      · rcases h2 with ⟨σ', l, q1, q2, q3⟩ | ⟨q1, _⟩
        · rw [g1] at q1; cases q1
          rw [g2, q2]
          simp only [Option.bind_some, cond_true]
          by_cases hn : mon < 0
          · rw [if_pos hn, if_pos hn]; exact ⟨[], rfl, rfl, by simp⟩
          rw [if_neg hn, if_neg hn]
          by_cases hn2 : mon ≥ m
          · rw [if_pos hn2, if_pos hn2]; exact ⟨[], rfl, rfl, by simp⟩
          rw [if_neg hn2, if_neg hn2]
          have hb := hs.1
          obtain ⟨r, r1, r2⟩ := reached_ok (N := 1000) hs (by omega) (by omega) (by omega) g1 iv
          obtain ⟨u, hu⟩ := held_secs (f := f) (σ := σ) (mon := mon) (by omega) (by omega) (o1 := o1) (w := w) (N := 1000) 1000 0 0 [] rfl (by omega) (by omega) (by simp)
          obtain ⟨u', hu'⟩ := ref_secs (f := f) (m := m.toNat) (by omega) (σ := σ) (mon := mon) (by omega) (by omega) (x := ⟨false, true, l⟩) q3 r2 (N := 1000) 1000 0 0 [] rfl (by omega) (by omega) (by simp)
          rw [hu, r1]
          simp only [Option.bind_some]
          rw [hu']
          refine ⟨_, rfl, rfl, ?_⟩
          have := secs_len σ mon.toNat (f.locs.toNat - 0) 0
          simp only [List.nil_append]; omega
        · rw [g1] at q1; cases q1
      · rcases h2 with ⟨σ', l, q1, q2, q3⟩ | ⟨q1, q2⟩
        · rw [g1] at q1; cases q1
        · rw [g2, q2]; exact ⟨[], rfl, rfl, by simp⟩
theorem slO_l {m : Nat} (o : Option Held_owned) : (slO m o).l = match o with | some o => vecm m o | none => [] := by cases o <;> rfl
/-- What held.Held hands back is what the document's Held hands back. -/
theorem held_same {f : GFlow} {m : Int} (hlen : f.edges.l.length ≤ 100) : ∃ r x, held_find 1000 f m = some r ∧ findGood f m r ∧ vigilref13_Held 1000 f m = some (x, (heldV f m r).2) ∧ (heldV f m r).1.l.map Sl.l = x.l.map Sl.l ∧ (heldV f m r).1.l.length ≤ 600 ∧ ∀ s ∈ (heldV f m r).1.l, s.l.length ≤ 8 := by
  rcases find_ok (f := f) (m := m) (N := 1000) (by omega) (by omega) (by omega) with ⟨hs, h1⟩ | ⟨hs, h1⟩
  · rcases ref_held (f := f) (m := m) (N := 1000) (by omega) (by omega) (by omega) with ⟨_, h2⟩ | ⟨hs', _⟩
    · exact ⟨_, _, h1, trivial, h2, rfl, by simp [heldV], by simp [heldV]⟩
    · exact absurd hs' hs
  · rcases ref_held (f := f) (m := m) (N := 1000) (by omega) (by omega) (by omega) with ⟨hs', _⟩ | ⟨_, h2⟩
    · exact absurd hs hs'
    · have hb := hs.1
      rcases h1 with ⟨o1, σ, w, g1, iv, g2⟩ | ⟨g1, o1, o2, o3, g2⟩
      · rcases h2 with ⟨σ', l, q1, q2, q3⟩ | ⟨q1, _⟩
        · rw [g1] at q1; cases q1
          refine ⟨_, _, g2, ⟨by omega, by unfold Mk; omega, by omega, iv.ne, iv.nd, iv.rg⟩, q2, ?_, by simp [heldV]; omega, ?_⟩
          · rw [q3]
            simp only [heldV, outL, List.map_map]
            refine List.map_congr_left fun i hi => ?_
            exact slO_l _
          · intro s hs
            simp only [heldV, List.mem_map] at hs
            obtain ⟨i, _, rfl⟩ := hs
            rw [slO_l]
            cases getM σ (i : Int) with
            | none => simp
            | some o => show (vecm m.toNat o).length ≤ 8; rw [vecm_len (by omega)]; omega
        · rw [g1] at q1; cases q1
      · rcases h2 with ⟨σ', l, q1, q2, q3⟩ | ⟨q1, q2⟩
        · rw [g1] at q1; cases q1
        · exact ⟨_, _, g2, trivial, q2, rfl, by simp [heldV], by simp [heldV]⟩
/-- What is known where the law is asked. -/
noncomputable abbrev kn3 (f : GFlow) (m : Int) (v : Option (Sl (Sl Int) × Bool)) : Kn := by
  classical
  exact {
    K := fun _ args => (if args = [.c (.agg (EncX.encX f)), dInt m] then v.map fun v => DV.tup [.c (eSl v.1), dB v.2] else none).map fun d => { d }
    L := memoP [([], dB true)]
    held := fun p0 p1 => if DV.c (.agg (EncX.encX p0)) = .c (.agg (EncX.encX f)) ∧ p1 = m then v else none
    ok := fun {p0 p1 r} h st => by
      split at h
      · rename_i hh
        subst h
        have : [DV.c (.agg (EncX.encX p0)), dInt p1] = [.c (.agg (EncX.encX f)), dInt m] := by rw [hh.1, hh.2]
        rw [if_pos this]; rfl
      · cases h
    lv := some true
    lvok := fun {b} h st => by cases h; rfl }
theorem kn3_held (f : GFlow) (m : Int) (v : Option (Sl (Sl Int) × Bool)) : (kn3 f m v).held f m = v := by
  unfold kn3
  exact if_pos ⟨rfl, rfl⟩
/-- The statement: true, with what is known of held.Held. -/
theorem finds_true (f : GFlow) (m mon : Int) : ∃ v, (v = none ∨ ∃ n r, held_find n f m = some r ∧ findGood f m r ∧ v = some (heldV f m r)) ∧ letI := kn3 f m v; vigillaw13_HeldFinds 1000 f m mon = some true := by
  by_cases h1 : (f.edges.l.length : Int) > 100
  · refine ⟨none, .inl rfl, ?_⟩
    letI := kn3 f m none
    show vigillaw13_HeldFinds 1000 f m mon = some true
    unfold vigillaw13_HeldFinds vigillaw13_HeldFinds_J1
    rw [if_pos h1]; rfl
  · obtain ⟨r, x, h2, h3, h4, h5, h6, h7⟩ := held_same (f := f) (m := m) (by omega)
    refine ⟨some (heldV f m r), .inr ⟨1000, r, h2, h3, rfl⟩, ?_⟩
    letI := kn3 f m (some (heldV f m r))
    show vigillaw13_HeldFinds 1000 f m mon = some true
    have hlv : Kn.lv = some true := rfl
    have hheld : Kn.held f m = some (heldV f m r) := kn3_held f m _
    unfold vigillaw13_HeldFinds vigillaw13_HeldFinds_J1
    rw [if_neg h1]
    have hmain : ((Kn.held f m).bind fun (x_3, x_4) =>
        (vigilref13_Held 1000 f m).bind fun (x_5, x_6) =>
        (vigilref13_Lists 1000 x_3 x_5).bind fun x_7 =>
        bif x_7 then
          bif x_4 then
            bif x_6 then
              (held_Sections 1000 f m mon).bind fun x_8 =>
              (vigilref13_Sections 1000 f m mon).bind fun x_10 =>
              (vigilref13_Same 1000 (Sl.gr x_8) (Sl.gr x_10)).bind fun x_12 =>
              bif x_12 then
                (Kn.lv).bind fun x_14 =>
                some x_14
              else some false
            else some false
          else bif x_6 then
            some false
          else (held_Sections 1000 f m mon).bind fun x_9 =>
          (vigilref13_Sections 1000 f m mon).bind fun x_11 =>
          (vigilref13_Same 1000 (Sl.gr x_9) (Sl.gr x_11)).bind fun x_13 =>
          bif x_13 then
            (Kn.lv).bind fun x_15 =>
            some x_15
          else some false
        else some false) = some true := by
      obtain ⟨l, s1, s2, s3⟩ := sections_ok (f := f) (m := m) (mon := mon) (by omega)
      have hsame : vigilref13_Same 1000 (Sl.gr l) (Sl.gr l) = some true := by
        unfold vigilref13_Same
        have hgl : (Sl.gr l).l = l := rfl
        rw [same3_ok (Sl.gr l) (Sl.gr l) (N := 1000) (by rw [hgl]; omega) (by rw [hgl]; omega), decide_eq_true rfl]; rfl
      have hls := lists_ok (heldV f m r).1 x (N := 1000) (by omega) (by omega) (fun s hs => by have := h7 s hs; omega)
      rw [decide_eq_true h5] at hls
      rw [hheld, h4]
      simp only [Option.bind_some, hls, cond_true, s1, s2, hsame, hlv]
      cases (heldV f m r).2 <;> rfl
    by_cases hl : f.locs > 100
    · rw [if_pos hl]
      by_cases hl2 : f.locs ≤ 600
      · rw [if_pos hl2]; rfl
      · rw [if_neg hl2]; exact hmain
    · rw [if_neg hl]; exact hmain
end Go.Proofs.Ytkfmoodaplelnaa
