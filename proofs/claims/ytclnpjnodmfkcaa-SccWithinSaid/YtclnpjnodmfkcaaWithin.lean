/-
  SccWithin: for every graph and every list of nodes the call of the law returns true, and both read behind it as before. No condition.
-/
import Derived.Test.YtclnpjnodmfkcaaWf
import Derived.Test.YtclnpjnodmfkcaaMe
import Derived.Test.YtclnpjnodmfkcaaRk
set_option linter.unusedVariables false
namespace Go.Proofs.Ytclnpjnodmfkcaa
open Go Go.Abs Go.Proofs Go.Proofs.Scc Go.ChangeShapes Go.WideShapes Go.ChangeAt Go.RowKit
theorem wRow_len (A : Adj) (ns : List Int) (i : Nat) : (wRow A ns i).length ≤ A.length := by
  unfold wRow
  split
  · exact selN_len _ _
  · simp
theorem within_run (adj : Sl (Sl Int)) (ns : Sl Int) {p q : Prop} (_ : p) (_ : q) : ∃ m, X.Runs [] 6 [.c (eSl adj), .c (eSl ns)] ⟨[], []⟩ (dB true) m := by
  obtain ⟨b, hb, hsm⟩ := small_runs adj
  cases b with
  | false => exact ⟨_, lawWithin_4 adj ns hb live_runs⟩
  | true =>
    obtain ⟨h40, h80⟩ := hsm rfl
    by_cases hf : (ns.l.length : Int) > 40
    · exact ⟨_, lawWithin_1 adj ns hb hf live_runs⟩
    · have key : ∀ ns' : Sl Int, ns'.l = ns.l → ∃ r r2 : Sl (Sl Int), X.RunsC 19 [.c (eSl adj), .c (eSl ns')] (.c (eSl r)) ∧ X.RunsC 20 [.c (eSl adj), .c (eSl ns)] (.c (eSl r2)) ∧ X.RunsC 16 [.c (eSl r), .c (eSl r2)] (dB true) := fun ns' hns => by
        obtain ⟨s, h1, h2⟩ := within_runs adj ns' (by omega) (by rw [hns]; omega) (fun r hr => by have := h80 r hr; omega)
        obtain ⟨s2, g1, g2⟩ := rwith_runs adj ns (by omega) (by omega) (fun r hr => by have := h80 r hr; omega)
        rw [hns] at h2
        have hlen : s.l.length = adj.l.length := by
          have := congrArg List.length h2
          simpa [wRows] using this
        have hs := rsame_runs s s2 (by omega) (fun r hr => by
          have : r.l ∈ s.l.map (·.l) := List.mem_map.2 ⟨r, hr, rfl⟩
          rw [h2] at this
          obtain ⟨j, _, hj⟩ := List.mem_map.1 this
          have := wRow_len adj.l ns.l j
          rw [hj] at this; omega)
        rw [h2, g2] at hs
        simp only [decide_true] at hs
        exact ⟨s, s2, h1, g1, hs⟩
      by_cases hnil : ns.l = []
      · obtain ⟨r, r2, h1, h2, h3⟩ := key (Sl.of true []) (by simp [Sl.of, hnil])
        exact ⟨_, lawWithin_2 adj ns r r2 hb hf hnil h1 h2 h3 live_runs⟩
      · obtain ⟨r, r2, h1, h2, h3⟩ := key (Sl.of false ns.l) rfl
        exact ⟨_, lawWithin_3 adj ns r r2 hb hf hnil (by omega) h1 h2 h3 live_runs⟩

theorem sccWithin_lifted (os : Os) (started : os.Started) (H : Type) (enc : TypeId × Value → H) :
    ReturnsInHanded {} Try.checked os 6 .any (Rows.sccWithinSpec.pre6 enc Try.prog Try.f6 Rows.sccWithinRow.domain false) (Rows.sccWithinSpec.post enc Try.prog Try.f6 false true false false) := by
  refine returnsInHanded_of_change_sized (C := Try.checked) own started (by kernel_rfl) Try.func6
    (ChangeSpec.witness6 (enc := enc) (C := Try.checked) false ⟨#[], #[.slice none 0 0, .slice none 0 0], []⟩ 8 (by kernel_rfl) (by kernel_rfl) (by kernel_rfl) (by kernel_rfl)) ?_
  intro W base args ds gs before hval0 hW hcnd hsz0 _
  have hval : ∀ (j : Nat) t v, Try.f6.params[j]? = some t → args[j]? = some v → Value.okWide Try.prog W .any base t v := hval0
  have hW' := hW
  obtain ⟨p, q, hA0, hV, rfl, hfz, hnd⟩ := hW
  have hA : DataW.TrodAll enc Try.prog W 0 (fun _ => true) true Try.f6.params.toList args.toList ds p := hA0
  rw [Try.params6] at hA hval
  obtain ⟨v0, vs0, d0, ds0, p0, q0, hargs, rfl, rfl, h0, r0⟩ := trodAll_cons hA
  obtain ⟨v1, vs1, d1, ds1, p1, q1, rfl, rfl, rfl, h1, r1⟩ := trodAll_cons r0
  obtain ⟨rfl, rfl, rfl⟩ := trodAll_nil r1
  obtain rfl : args = #[v0, v1] := by cases args; simp_all
  obtain ⟨rfl, rfl⟩ := trodVars_none hV
  obtain ⟨a0, len0, cap0, rfl⟩ := okWide_slice Try.underlying22 (hval 0 22 v0 rfl rfl)
  obtain ⟨c0, rc0, qq0⟩ := reads_arg reads_intss h0 rfl
  obtain ⟨adj, ec0, fa0⟩ := intss_of qq0
  simp only [Enc.enc, List.cons.injEq, and_true] at ec0
  subst ec0
  obtain ⟨a1, len1, cap1, rfl⟩ := okWide_slice Try.underlying23 (hval 1 23 v1 rfl rfl)
  obtain ⟨c1, rc1, qq1⟩ := reads_arg reads_ints h1 rfl
  obtain ⟨ns, ec1, fa1⟩ := ints_of qq1
  simp only [Enc.enc, List.cons.injEq, and_true] at ec1
  subst ec1
  obtain ⟨m', hrun⟩ := within_run adj ns fa0 fa1
  refine (law_calls (X := X) (by kernel_rfl) prims_ok hrun (.cons (.c rc0) (.cons (.c rc1) (.nil)))).mono fun en W' ⟨he, hk⟩ => ?_
  exact ⟨_, he, post_true (P := Try.prog) (f := Try.f6) (s := Rows.sccWithinSpec) laidOut (by rw [Try.params6]; intro t ht; simp at ht; rcases ht with rfl | rfl <;> exact ⟨by kernel_rfl, of_decide_eq_true (by kernel_rfl)⟩) rfl Try.underlying4 rfl rfl hW' hk⟩
theorem sccWithin_holds : Rows.SccWithinSaid :=
  OpenClaim.holds_of_wide 6 Try.f6 rfl rfl rfl rfl rfl rfl rfl ⟨rfl, rfl, rfl, rfl, rfl⟩ rfl rfl rfl rfl rfl (by kernel_rfl) Try.func6 (by kernel_rfl)
    (of_decide_eq_true (by kernel_rfl)) (by unfold Func.isWrapper; first | (rw [if_pos (by decide +kernel)]; kernel_rfl) | (rw [if_neg (by decide +kernel)]; exact ⟨rfl, rfl⟩))
    (fun os started H enc _ => sccWithin_lifted os started H enc)
end Go.Proofs.Ytclnpjnodmfkcaa
