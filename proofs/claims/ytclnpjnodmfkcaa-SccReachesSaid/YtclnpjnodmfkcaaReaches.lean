/-
  SccReaches: for every graph and every list of nodes the call of the law returns true, and both read behind it as before. No condition.
-/
import Derived.Test.YtclnpjnodmfkcaaWc
import Derived.Test.YtclnpjnodmfkcaaPa
import Derived.Test.YtclnpjnodmfkcaaPr
import Derived.Test.YtclnpjnodmfkcaaLive
import Derived.Test.YtclnpjnodmfkcaaAbs31
import Derived.Test.YtclnpjnodmfkcaaRows
import Derived.OpenShut
import Derived.ProofKit
import Derived.WalkKit
set_option linter.unusedVariables false
namespace Go.Proofs.Ytclnpjnodmfkcaa
open Go Go.Abs Go.Proofs Go.Proofs.Scc Go.ChangeShapes Go.WideShapes Go.ChangeAt Go.RowKit

theorem own : ownKnob Try.prog.godebug = none := by kernel_rfl
theorem laidOut : laidOutB Try.prog = true := by kernel_rfl
theorem reads_ints {w : World} {base : Nat} : Reads Try.prog w base 23 (SliceOf IsInt) := reads_slice Try.underlying23 (by kernel_rfl) (reads_int Try.underlying3)
theorem reads_intss {w : World} {base : Nat} : Reads Try.prog w base 22 (SliceOf (SliceOf IsInt)) := reads_slice Try.underlying22 (by kernel_rfl) reads_ints
theorem ints_of {c : CV} (h : SliceOf IsInt c) : ∃ s : Sl Int, Enc.enc s = [c] ∧ (∀ a ∈ s.l, InR a) ∧ s.l.length ≤ maxLen := sl_of (fun _ h => int_of h) h
theorem intss_of {c : CV} (h : SliceOf (SliceOf IsInt) c) : ∃ s : Sl (Sl Int), Enc.enc s = [c] ∧ (∀ a ∈ s.l, (∀ b ∈ a.l, InR b) ∧ a.l.length ≤ maxLen) ∧ s.l.length ≤ maxLen := sl_of (fun _ h => ints_of h) h

theorem reaches_run (adj : Sl (Sl Int)) (fr : Sl Int) : ∃ m, X.Runs [] 3 [.c (eSl adj), .c (eSl fr)] ⟨[], []⟩ (dB true) m := by
  obtain ⟨b, hb, hsm⟩ := small_runs adj
  cases b with
  | false => exact ⟨_, lawReach_4 adj fr hb live_runs⟩
  | true =>
    obtain ⟨h40, h80⟩ := hsm rfl
    by_cases hf : (fr.l.length : Int) > 40
    · exact ⟨_, lawReach_1 adj fr hb hf live_runs⟩
    · have key : ∀ fr' : Sl Int, fr'.l = fr.l → ∃ r r2 : Sl Int, X.RunsC 12 [.c (eSl adj), .c (eSl fr')] (.c (eSl r)) ∧ X.RunsC 13 [.c (eSl adj), .c (eSl fr)] (.c (eSl r2)) ∧ X.RunsC 11 [.c (eSl r), .c (eSl r2)] (dB true) := fun fr' hfr => by
        obtain ⟨s, out, h1, h2, h3, h4⟩ := reach_runs adj fr' (by omega) (by rw [hfr]; omega) (fun r hr => by have := h80 r hr; omega)
        obtain ⟨seen, g1, g2, g3⟩ := rreach_runs adj fr (by omega) (by omega) (fun r hr => by have := h80 r hr; omega)
        have he : s.l = (apc (marked seen 0)).l := by
          rw [h2, apc_l]
          refine rising_ext (isort_rising h3) (marked_rising _ _) fun x => ?_
          rw [(isort_perm out).mem_iff, h4, marked_mem, hfr, ← g3]
          simp
        have hle : s.l.length ≤ 1000000 := by
          rw [he, apc_l]
          have := marked_len seen 0; omega
        have hs := same_runs s (apc (marked seen 0)) hle
        simp only [he, decide_true] at hs
        exact ⟨s, _, h1, g1, hs⟩
      by_cases hnil : fr.l = []
      · obtain ⟨r, r2, h1, h2, h3⟩ := key (Sl.of true []) (by simp [Sl.of, hnil])
        exact ⟨_, lawReach_2 adj fr r r2 hb hf hnil h1 h2 h3 live_runs⟩
      · obtain ⟨r, r2, h1, h2, h3⟩ := key (Sl.of false fr.l) rfl
        exact ⟨_, lawReach_3 adj fr r r2 hb hf hnil (by omega) h1 h2 h3 live_runs⟩

theorem sccReaches_lifted (hp : ∀ f p, prims f = some p → PrimOk Try.prog f p) (os : Os) (started : os.Started) (H : Type) (enc : TypeId × Value → H) :
    ReturnsInHanded {} Try.checked os 3 .any (Rows.sccReachesSpec.pre6 enc Try.prog Try.f3 Rows.sccReachesRow.domain false) (Rows.sccReachesSpec.post enc Try.prog Try.f3 false true false false) := by
  refine returnsInHanded_of_change_sized (C := Try.checked) own started (by kernel_rfl) Try.func3
    (ChangeSpec.witness6 (enc := enc) (C := Try.checked) false ⟨#[], #[.slice none 0 0, .slice none 0 0], []⟩ 8 (by kernel_rfl) (by kernel_rfl) (by kernel_rfl) (by kernel_rfl)) ?_
  intro W base args ds gs before hval0 hW hcnd hsz0 _
  have hval : ∀ (j : Nat) t v, Try.f3.params[j]? = some t → args[j]? = some v → Value.okWide Try.prog W .any base t v := hval0
  have hW' := hW
  obtain ⟨p, q, hA0, hV, rfl, hfz, hnd⟩ := hW
  have hA : DataW.TrodAll enc Try.prog W 0 (fun _ => true) true Try.f3.params.toList args.toList ds p := hA0
  rw [Try.params3] at hA hval
  obtain ⟨v0, vs0, d0, ds0, p0, q0, hargs, rfl, rfl, h0, r0⟩ := trodAll_cons hA
  obtain ⟨v1, vs1, d1, ds1, p1, q1, rfl, rfl, rfl, h1, r1⟩ := trodAll_cons r0
  obtain ⟨rfl, rfl, rfl⟩ := trodAll_nil r1
  obtain rfl : args = #[v0, v1] := by cases args; simp_all
  obtain ⟨rfl, rfl⟩ := trodVars_none hV
  obtain ⟨a0, len0, cap0, rfl⟩ := okWide_slice Try.underlying22 (hval 0 22 v0 rfl rfl)
  obtain ⟨a1, len1, cap1, rfl⟩ := okWide_slice Try.underlying23 (hval 1 23 v1 rfl rfl)
  obtain ⟨c0, rc0, qq0⟩ := reads_arg reads_intss h0 rfl
  obtain ⟨c1, rc1, qq1⟩ := reads_arg reads_ints h1 rfl
  obtain ⟨adj, ec0, _⟩ := intss_of qq0
  obtain ⟨fr, ec1, _⟩ := ints_of qq1
  simp only [Enc.enc, List.cons.injEq, and_true] at ec0 ec1
  subst ec0; subst ec1
  obtain ⟨m', hrun⟩ := reaches_run adj fr
  refine (law_calls (X := X) (by kernel_rfl) hp hrun (.cons (.c rc0) (.cons (.c rc1) .nil))).mono fun en W' ⟨he, hk⟩ => ?_
  exact ⟨_, he, post_true (P := Try.prog) (f := Try.f3) (s := Rows.sccReachesSpec) laidOut (by rw [Try.params3]; intro t ht; simp at ht; rcases ht with rfl | rfl <;> exact ⟨by kernel_rfl, of_decide_eq_true (by kernel_rfl)⟩) rfl Try.underlying4 rfl rfl hW' hk⟩

theorem sccReaches_over (hp : ∀ f p, prims f = some p → PrimOk Try.prog f p) : Rows.sccReachesRow.holds Try.pinned (OpenSpec.ofChange Rows.sccReachesSpec) :=
  OpenClaim.holds_of_wide 3 Try.f3 rfl rfl rfl rfl rfl rfl rfl ⟨rfl, rfl, rfl, rfl, rfl⟩ rfl rfl rfl rfl rfl (by kernel_rfl) Try.func3 (by kernel_rfl)
    (of_decide_eq_true (by kernel_rfl)) (by unfold Func.isWrapper; first | (rw [if_pos (by decide +kernel)]; kernel_rfl) | (rw [if_neg (by decide +kernel)]; exact ⟨rfl, rfl⟩))
    (fun os started H enc _ => sccReaches_lifted hp os started H enc)
/-- Whatever the graph and the nodes: the law's call returns true and leaves what it was handed as it was. -/
theorem sccReaches_holds : Rows.SccReachesSaid := sccReaches_over prims_ok
end Go.Proofs.Ytclnpjnodmfkcaa
