/-
  Part of the proof: printed by the session's own program out of the program's form, or typed; it states no claim by itself.
-/
import Derived.Test.YtclnpjnodmfkcaaMl
import Derived.Test.YtclnpjnodmfkcaaWm
import Derived.Test.YtclnpjnodmfkcaaPa
/-
  Comps: the components, each rising, in order of their first ones.
-/
set_option linter.unusedVariables false
set_option linter.unusedSimpArgs false
set_option maxRecDepth 10000
namespace Go.Proofs.Ytclnpjnodmfkcaa
open Go Go.Abs Go.Proofs Go.Proofs.Scc

structure ES where
  i : Nat
  S : TS
  idx : List Int
  low : List Int
  on : List Bool
  td : OS Int
  od : OS (Sl Int)
  u : Nat
  pd : List Ex
def TS.start : TS := ⟨fun _ => 0, fun _ => 0, [], 0, []⟩
theorem start_inv (A : Adj) : Inv A TS.start [] := by
  have no : ∀ x, ¬ InOut TS.start x := fun x h => by
    obtain ⟨o, ho, _⟩ := h
    simp [TS.start] at ho
  refine ⟨fun x _ => ?_, fun x _ => by simp [TS.start], by simp [TS.start], fun x hx => ?_, by simp [TS.start], fun x hx => by simp [TS.start] at hx, fun o ho => by simp [TS.start] at ho, fun o ho => by simp [TS.start] at ho, by simp [TS.start], fun x hx => absurd hx (no x), by simp, fun x hx => by simp [TS.start] at hx, fun x hx => by simp [TS.start] at hx, fun x hx => by simp [TS.start] at hx⟩
  · constructor
    · intro h; exact absurd rfl h
    · rintro (h | h)
      · simp [TS.start] at h
      · exact absurd h (no x)
  · rcases hx with h | h
    · simp [TS.start] at h
    · exact absurd h (no x)
theorem start_rep (A : Adj) : Rep A TS.start (List.replicate A.length 0) (List.replicate A.length 0) (List.replicate A.length false) none none := by
  refine ⟨by simp, by simp, by simp, fun x hx => ?_, fun x hx => ?_, fun x hx => ?_, rfl, rfl, fun s hs => by cases hs⟩ <;>
  · have h1 := hx.1; have h2 := hx.2
    rw [List.getElem?_replicate, if_pos (by omega)]
    simp [TS.start]
theorem each_runs (adj : Sl (Sl Int)) (hr : ∀ r ∈ adj.l, r.l.length ≤ 1000000) (hs : adj.l.length ≤ 1000000) :
    ∃ S idx low on td od u pd, X.Runs [] 28 [.pt 3 1 0, .fn 29 [.pt 3 1 0] []] ⟨finF adj (List.replicate adj.l.length 0) (List.replicate adj.l.length 0) (List.replicate adj.l.length false) 0 none none 0 [], []⟩ (.tup []) ⟨finF adj idx low on S.cnt td od u [], pd⟩ ∧
      Inv adj.l S [] ∧ Rep adj.l S idx low on td od ∧ ∀ x, Nod adj.l x → S.idx x ≠ 0 := by
  obtain ⟨ex, s', hg, _, S, idx, low, on, td, od, u, pd, i, rfl, rfl, h1, h2, h3⟩ := Sys.loop_go (X := X) (f := 28) (nt := 25) (Γ := []) (a := sub b28 [1, 0, 0]) (m := 7)
    (fun σ : ES => ⟨fl [(0, .pt 3 1 0), (1, .fn 29 [.pt 3 1 0] []), (9, dInt (adj.l.length : Int)), (10, dInt σ.i)], ⟨finF adj σ.idx σ.low σ.on σ.S.cnt σ.td σ.od σ.u [], σ.pd⟩⟩)
    (fun σ => σ.i ≤ adj.l.length ∧ Inv adj.l σ.S [] ∧ σ.S.cnt + unv adj.l σ.S ≤ adj.l.length ∧ Rep adj.l σ.S σ.idx σ.low σ.on σ.td σ.od ∧ ∀ x, Nod adj.l x → x < σ.i → σ.S.idx x ≠ 0) (fun σ => adj.l.length - σ.i)
    (fun ex s' => ∃ (S : TS) (idx low : List Int) (on : List Bool) (td : OS Int) (od : OS (Sl Int)) (u : Nat) (pd : List Ex) (i : Int), ex = .exit 0 ∧ s' = ⟨fl [(0, .pt 3 1 0), (1, .fn 29 [.pt 3 1 0] []), (9, dInt (adj.l.length : Int)), (10, dInt i), (11, dB false)], ⟨finF adj idx low on S.cnt td od u [], pd⟩⟩ ∧
      Inv adj.l S [] ∧ Rep adj.l S idx low on td od ∧ ∀ x, Nod adj.l x → S.idx x ≠ 0)
    (by
      rintro ⟨i, S, idx, low, on, td, od, u, pd⟩ ⟨hi, hinv, hc, hrep, hall⟩
      simp only at hi hinv hc hrep hall
      by_cases h1 : (i : Int) < (adj.l.length : Int)
      · have hni : Nod adj.l (i : Int) := ⟨by omega, h1⟩
        have hix := hrep.ix i hni
        by_cases h0 : S.idx i = 0
        · have hnil : ∀ x ∈ S.stk, Scc.Way adj.l x i := fun x hx => by
            obtain ⟨g, hg, _⟩ := hinv.down x hx
            simp at hg
          obtain ⟨S', hrun, hinv', hpost, hc'⟩ := visit_ex hs _ S [] i (Nat.le_refl _) hinv hc hni h0 hnil
          obtain ⟨idx', low', on', s', od', u', pd', B, hv, hrep', _⟩ := run_walk adj hr hs hrun idx low on td od u [] pd hrep (fun m _ => AllB.nil m)
          refine .inl ⟨_, ⟨i + 1, S', idx', low', on', some s', od', u', pd'⟩, eachB_1 adj idx low on S.cnt (td.dv 4) (od.dv 5) td.ob od.ob u pd i (S.idx i) idx' low' on' S'.cnt (OS.dv 4 (some s')) (od'.dv 5) (OS.ob (some s')) od'.ob u' pd' h1 hni hix h0 ⟨_, hv, fin_trim (T := []) (fun m _ => AllB.nil m)⟩ (by omega),
            cut_ok (l := [0, 1, 9, 10]) rfl (finF_allB (by omega) (AllB.nil 7)) rfl, ⟨by simp only; omega, hinv', hc', hrep', fun x hx hlt => ?_⟩, by simp only; omega⟩
          simp only at hlt
          by_cases hxi : x = i
          · rw [hxi]; exact hpost.seen
          · have := hall x hx (by omega)
            rw [show S'.idx x = S.idx x from hpost.idx x this]; exact this
        · refine .inl ⟨_, ⟨i + 1, S, idx, low, on, td, od, u, pd⟩, eachB_2 adj idx low on S.cnt (td.dv 4) (od.dv 5) td.ob od.ob u pd i (S.idx i) h1 hni hix h0 (by omega),
            cut_ok (l := [0, 1, 9, 10]) rfl (finF_allB (by omega) (AllB.nil 7)) rfl, ⟨by simp only; omega, hinv, hc, hrep, fun x hx hlt => ?_⟩, by simp only; omega⟩
          simp only at hlt
          by_cases hxi : x = i
          · rw [hxi]; exact h0
          · exact hall x hx (by omega)
      · exact .inr ⟨_, _, eachB_3 adj idx low on S.cnt (td.dv 4) (od.dv 5) td.ob od.ob u pd i h1, by simp, S, idx, low, on, td, od, u, pd, i, rfl, rfl, hinv, hrep, fun x hx => hall x hx (by have := hx.2; omega)⟩)
    ⟨0, TS.start, List.replicate adj.l.length 0, List.replicate adj.l.length 0, List.replicate adj.l.length false, none, none, 0, []⟩
    ⟨by simp, start_inv _, by
      have := List.length_filter_le (fun k : Nat => TS.start.idx k == 0) (List.range adj.l.length)
      rw [List.length_range] at this
      show (0 : Int) + (unv adj.l TS.start : Int) ≤ _
      unfold unv
      omega, start_rep _, fun x hx hlt => by have := hx.1; simp at hlt; omega⟩ rfl
  exact ⟨S, idx, low, on, td, od, u, pd, eachM_1 adj _ _ _ 0 (OS.dv 4 none) (OS.dv 5 none) (OS.ob none) (OS.ob none) 0 [] idx low on S.cnt (td.dv 4) (od.dv 5) td.ob od.ob u pd i hg, h1, h2, h3⟩

/-- A graph's components. -/
structure IsComps (A : Adj) (L : List (List Int)) : Prop where
  rise : ∀ o ∈ L, o ≠ [] ∧ o.Pairwise (· < ·)
  comp : ∀ o ∈ L, ∀ x ∈ o, ∀ y, y ∈ o ↔ Mutual A x y
  nod : ∀ o ∈ L, ∀ x ∈ o, Nod A x
  all : ∀ x, Nod A x → ∃ o ∈ L, x ∈ o
  order : L.Pairwise (fun o o' => o.headD 0 < o'.headD 0)
end Go.Proofs.Ytclnpjnodmfkcaa

/-
  Comps: what it answers.
-/
set_option linter.unusedVariables false
set_option linter.unusedSimpArgs false
set_option maxRecDepth 10000
namespace Go.Abs
theorem insS_sorted (s : Sl Int) : ∀ {l : List (Sl Int)}, l.Pairwise (fun a b => hd a ≤ hd b) → (insS s l).Pairwise (fun a b => hd a ≤ hd b)
  | [], _ => by simp [insS]
  | t :: l, h => by
    rw [List.pairwise_cons] at h
    unfold insS
    split
    · rename_i hle
      rw [List.pairwise_cons, List.pairwise_cons]
      refine ⟨fun b hb => ?_, h⟩
      rcases List.mem_cons.1 hb with rfl | hb
      · exact hle
      · exact Int.le_trans hle (h.1 b hb)
    · rename_i hle
      rw [List.pairwise_cons]
      refine ⟨fun b hb => ?_, insS_sorted s h.2⟩
      rcases List.mem_cons.1 ((insS_perm s l).mem_iff.1 hb) with rfl | hb
      · omega
      · exact h.1 b hb
theorem sortHeads_sorted : ∀ l, (sortHeads l).Pairwise (fun a b => hd a ≤ hd b)
  | [] => .nil
  | s :: l => insS_sorted s (sortHeads_sorted l)
end Go.Abs
namespace Go.Proofs.Ytclnpjnodmfkcaa
open Go Go.Abs Go.Proofs Go.Proofs.Scc
theorem comps_runs (adj : Sl (Sl Int)) (hr : ∀ r ∈ adj.l, r.l.length ≤ 1000000) (hs : adj.l.length ≤ 1000000) :
    ∃ s : Sl (Sl Int), X.RunsC 17 [.c (eSl adj)] (.c (eSl s)) ∧ IsComps adj.l (s.l.map (·.l)) := by
  obtain ⟨S, idx, low, on, td, od, u, pd, hrun, hinv, hrep, hall⟩ := each_runs adj hr hs
  have hstk : ∀ x, x ∉ S.stk := fun x hx => by
    obtain ⟨g, hg, _⟩ := hinv.down x hx
    simp at hg
  have hio : ∀ x, Nod adj.l x → InOut S x := fun x hx => ((hinv.seen x hx).1 (hall x hx)).resolve_left (hstk x)
  have hou := hrep.ou
  cases od with
  | none =>
    have he : S.outs = [] := by rw [← hou]; rfl
    have hno : ∀ x, ¬ Nod adj.l x := fun x hx => by
      obtain ⟨o, ho, _⟩ := hio x hx
      rw [he] at ho; simp at ho
    exact ⟨Sl.nil, compsN_1 adj idx low on S.cnt (td.dv 4) td.ob u pd (by omega) (by omega) hrun, by
      refine ⟨?_, ?_, ?_, fun x hx => absurd hx (hno x), ?_⟩ <;> simp [Sl.nil]⟩
  | some s =>
    obtain ⟨w, x, outs, r⟩ := s
    obtain ⟨hx, hrr, hne⟩ := hrep.oo _ rfl
    simp only at hx hrr hne
    subst hx; subst hrr
    have hou' : outs.map (·.l) = S.outs := hou
    have happ : dcells outs ++ dcells ([] : List (Sl Int)) = dcells outs := List.append_nil _
    have hlen : outs.length ≤ adj.l.length := by
      have := outs_len (fun o ho => (hinv.rise o ho).1) hinv.once fun o ho x hx => hinv.nod x (.inr ⟨o, ho, hx⟩)
      rw [← hou'] at this
      simpa using this
    have memO : ∀ s ∈ outs, s.l ∈ S.outs := fun s hs => by rw [← hou']; exact List.mem_map_of_mem hs
    have hl0 : ∀ s ∈ outs, s.l ≠ [] := fun s hs => (hinv.rise _ (memO s hs)).1
    have hdm : ∀ s ∈ outs, hd s ∈ s.l := fun s hs => by
      have := hl0 s hs
      unfold hd
      cases h : s.l with
      | nil => exact absurd h this
      | cons a t => simp
    have hnd : (outs.map hd).Nodup := by
      have h1 := hinv.once
      rw [← hou', List.pairwise_map] at h1
      rw [List.Nodup, List.pairwise_map]
      refine h1.imp_of_mem fun {a b} ha hb hap e => ?_
      have := hap _ (hdm a ha)
      rw [e] at this
      exact this (hdm b hb)
    simp only [finF, OS.ob, OS.dv] at hrun
    rw [happ] at hrun
    have hC := compsS_1 adj idx low on S.cnt (td.dv 4) td.ob u pd w outs (by omega) (by omega) hrun ⟨hne, by omega⟩ hl0 hnd
    have hp := sortHeads_perm outs
    refine ⟨Sl.of false (sortHeads outs), hC hp.length_eq, ?_⟩
    have mem : ∀ o, o ∈ (Sl.of false (sortHeads outs)).l.map (·.l) ↔ o ∈ S.outs := fun o => by
      rw [← hou']
      show o ∈ (sortHeads outs).map (·.l) ↔ _
      exact (hp.map _).mem_iff
    refine ⟨fun o ho => hinv.rise o ((mem o).1 ho), fun o ho => hinv.comp o ((mem o).1 ho), fun o ho x hx => hinv.nod x (.inr ⟨o, (mem o).1 ho, hx⟩), fun x hx => ?_, ?_⟩
    · obtain ⟨o, ho, hxo⟩ := hio x hx
      exact ⟨o, (mem o).2 ho, hxo⟩
    · show ((sortHeads outs).map (·.l)).Pairwise _
      rw [List.pairwise_map]
      have h1 := sortHeads_sorted outs
      have h2 : ((sortHeads outs).map hd).Nodup := (hp.map hd).nodup_iff.2 hnd
      rw [List.Nodup, List.pairwise_map] at h2
      exact (h1.and h2).imp fun {a b} h => by
        have h3 := h.1; have h4 := h.2
        show hd a < hd b
        omega
end Go.Proofs.Ytclnpjnodmfkcaa
