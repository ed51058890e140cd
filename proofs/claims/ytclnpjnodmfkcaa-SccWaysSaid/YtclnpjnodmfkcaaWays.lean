/-
  SccWays: for every graph and every node the call of the law returns true, and the graph reads behind it as before. No condition.
-/
import Derived.Test.YtclnpjnodmfkcaaWj
import Derived.Test.YtclnpjnodmfkcaaMk
import Derived.Test.YtclnpjnodmfkcaaRk
set_option linter.unusedVariables false
namespace Go.Proofs.Ytclnpjnodmfkcaa
open Go Go.Abs Go.Proofs Go.Proofs.Scc Go.ChangeShapes Go.WideShapes Go.ChangeAt Go.RowKit
theorem ways_law (adj : Sl (Sl Int)) (fr : Int) {p q : Prop} (_ : p) (_ : q) : ∃ m, X.Runs [] 8 [.c (eSl adj), dInt fr] ⟨[], []⟩ (dB true) m := by
  obtain ⟨b, hb, hsm⟩ := small_runs adj
  cases b with
  | false => exact ⟨_, lawWays_4 adj fr hb live_runs⟩
  | true =>
    obtain ⟨h40, h80⟩ := hsm rfl
    by_cases h1 : fr < 0
    · exact ⟨_, lawWays_1 adj fr hb h1 live_runs⟩
    by_cases h2 : fr ≥ (adj.l.length : Int)
    · exact ⟨_, lawWays_2 adj fr hb h1 h2 live_runs⟩
    obtain ⟨r, t, h3, h4⟩ := ways_run adj fr h40 (fun r hr => by have := h80 r hr; omega) ⟨by omega, by omega⟩
    exact ⟨_, lawWays_3 adj fr r t hb h1 h2 h3 h4 live_runs⟩

theorem sccWays_lifted (os : Os) (started : os.Started) (H : Type) (enc : TypeId × Value → H) :
    ReturnsInHanded {} Try.checked os 8 .any (Rows.sccWaysSpec.pre6 enc Try.prog Try.f8 Rows.sccWaysRow.domain false) (Rows.sccWaysSpec.post enc Try.prog Try.f8 false true false false) := by
  refine returnsInHanded_of_change_sized (C := Try.checked) own started (by kernel_rfl) Try.func8
    (ChangeSpec.witness6 (enc := enc) (C := Try.checked) false ⟨#[], #[.slice none 0 0, .int .i64 0], []⟩ 8 (by kernel_rfl) (by kernel_rfl) (by kernel_rfl) (by kernel_rfl)) ?_
  intro W base args ds gs before hval0 hW hcnd hsz0 _
  have hval : ∀ (j : Nat) t v, Try.f8.params[j]? = some t → args[j]? = some v → Value.okWide Try.prog W .any base t v := hval0
  have hW' := hW
  obtain ⟨p, q, hA0, hV, rfl, hfz, hnd⟩ := hW
  have hA : DataW.TrodAll enc Try.prog W 0 (fun _ => true) true Try.f8.params.toList args.toList ds p := hA0
  rw [Try.params8] at hA hval
  obtain ⟨v0, vs0, d0, ds0, p0, q0, hargs, rfl, rfl, h0, r0⟩ := trodAll_cons hA
  obtain ⟨v1, vs1, d1, ds1, p1, q1, rfl, rfl, rfl, h1, r1⟩ := trodAll_cons r0
  obtain ⟨rfl, rfl, rfl⟩ := trodAll_nil r1
  obtain rfl : args = #[v0, v1] := by cases args; simp_all
  obtain ⟨rfl, rfl⟩ := trodVars_none hV
  obtain ⟨a0, len0, cap0, rfl⟩ := okWide_slice Try.underlying22 (hval 0 22 v0 rfl rfl)
  obtain ⟨c0, rc0, qq0⟩ := reads_arg reads_intss h0 rfl
  obtain ⟨adj, ec0, fa0⟩ := intss_of qq0
  simp only [Enc.enc, List.cons.injEq, and_true] at ec0
  subst ec0
  obtain ⟨a1, rfl⟩ := okWide_int Try.underlying3 (hval 1 3 v1 rfl rfl)
  obtain ⟨c1, rc1, qq1⟩ := reads_arg (reads_int Try.underlying3) h1 rfl
  obtain ⟨fr, ec1, fa1⟩ := int_of qq1
  simp only [Enc.enc, List.cons.injEq, and_true] at ec1
  subst ec1
  obtain ⟨m', hrun⟩ := ways_law adj fr fa0 fa1
  refine (law_calls (X := X) (by kernel_rfl) prims_ok hrun (.cons (.c rc0) (.cons (.c rc1) (.nil)))).mono fun en W' ⟨he, hk⟩ => ?_
  exact ⟨_, he, post_true (P := Try.prog) (f := Try.f8) (s := Rows.sccWaysSpec) laidOut (by rw [Try.params8]; intro t ht; simp at ht; rcases ht with rfl | rfl <;> exact ⟨by kernel_rfl, of_decide_eq_true (by kernel_rfl)⟩) rfl Try.underlying4 rfl rfl hW' hk⟩
theorem sccWays_holds : Rows.SccWaysSaid :=
  OpenClaim.holds_of_wide 8 Try.f8 rfl rfl rfl rfl rfl rfl rfl ⟨rfl, rfl, rfl, rfl, rfl⟩ rfl rfl rfl rfl rfl (by kernel_rfl) Try.func8 (by kernel_rfl)
    (of_decide_eq_true (by kernel_rfl)) (by unfold Func.isWrapper; first | (rw [if_pos (by decide +kernel)]; kernel_rfl) | (rw [if_neg (by decide +kernel)]; exact ⟨rfl, rfl⟩))
    (fun os started H enc _ => sccWays_lifted os started H enc)
end Go.Proofs.Ytclnpjnodmfkcaa
