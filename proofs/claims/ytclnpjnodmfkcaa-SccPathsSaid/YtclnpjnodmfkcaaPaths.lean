/-
  SccPaths: for every graph and every two nodes the call of the law returns true, and the graph reads behind it as before. No condition.
-/
import Derived.Test.YtclnpjnodmfkcaaWi
import Derived.Test.YtclnpjnodmfkcaaMj
import Derived.Test.YtclnpjnodmfkcaaRk
set_option linter.unusedVariables false
namespace Go.Proofs.Ytclnpjnodmfkcaa
open Go Go.Abs Go.Proofs Go.Proofs.Scc Go.ChangeShapes Go.WideShapes Go.ChangeAt Go.RowKit
theorem paths_run (adj : Sl (Sl Int)) (fr to : Int) {p q r : Prop} (_ : p) (_ : q) (_ : r) : ∃ m, X.Runs [] 4 [.c (eSl adj), dInt fr, dInt to] ⟨[], []⟩ (dB true) m := by
  obtain ⟨b, hb, hsm⟩ := small_runs adj
  cases b with
  | false => exact ⟨_, lawPaths_5 adj fr to hb live_runs⟩
  | true =>
    obtain ⟨h40, h80⟩ := hsm rfl
    obtain ⟨s, b, h1, h2⟩ := path_runs adj fr to (by omega) (fun r hr => by have := h80 r hr; omega)
    obtain ⟨s', b', g1, g2⟩ := rpath_runs adj fr to (by omega) (fun r hr => by have := h80 r hr; omega)
    obtain ⟨he, rfl⟩ := h2.ext g2
    have hs := same_runs s s' (by have := h2.le; omega)
    simp only [he, decide_true] at hs
    cases b with
    | true => exact ⟨_, lawPaths_1 adj fr to s s' hb h1 g1 hs live_runs⟩
    | false => exact ⟨_, lawPaths_4 adj fr to s s' hb h1 g1 hs live_runs⟩

theorem sccPaths_lifted (os : Os) (started : os.Started) (H : Type) (enc : TypeId × Value → H) :
    ReturnsInHanded {} Try.checked os 4 .any (Rows.sccPathsSpec.pre6 enc Try.prog Try.f4 Rows.sccPathsRow.domain false) (Rows.sccPathsSpec.post enc Try.prog Try.f4 false true false false) := by
  refine returnsInHanded_of_change_sized (C := Try.checked) own started (by kernel_rfl) Try.func4
    (ChangeSpec.witness6 (enc := enc) (C := Try.checked) false ⟨#[], #[.slice none 0 0, .int .i64 0, .int .i64 0], []⟩ 8 (by kernel_rfl) (by kernel_rfl) (by kernel_rfl) (by kernel_rfl)) ?_
  intro W base args ds gs before hval0 hW hcnd hsz0 _
  have hval : ∀ (j : Nat) t v, Try.f4.params[j]? = some t → args[j]? = some v → Value.okWide Try.prog W .any base t v := hval0
  have hW' := hW
  obtain ⟨p, q, hA0, hV, rfl, hfz, hnd⟩ := hW
  have hA : DataW.TrodAll enc Try.prog W 0 (fun _ => true) true Try.f4.params.toList args.toList ds p := hA0
  rw [Try.params4] at hA hval
  obtain ⟨v0, vs0, d0, ds0, p0, q0, hargs, rfl, rfl, h0, r0⟩ := trodAll_cons hA
  obtain ⟨v1, vs1, d1, ds1, p1, q1, rfl, rfl, rfl, h1, r1⟩ := trodAll_cons r0
  obtain ⟨v2, vs2, d2, ds2, p2, q2, rfl, rfl, rfl, h2, r2⟩ := trodAll_cons r1
  obtain ⟨rfl, rfl, rfl⟩ := trodAll_nil r2
  obtain rfl : args = #[v0, v1, v2] := by cases args; simp_all
  obtain ⟨rfl, rfl⟩ := trodVars_none hV
  obtain ⟨a0, len0, cap0, rfl⟩ := okWide_slice Try.underlying22 (hval 0 22 v0 rfl rfl)
  obtain ⟨c0, rc0, qq0⟩ := reads_arg reads_intss h0 rfl
  obtain ⟨adj, ec0, fa0⟩ := intss_of qq0
  simp only [Enc.enc, List.cons.injEq, and_true] at ec0
  subst ec0
  obtain ⟨a1, rfl⟩ := okWide_int Try.underlying3 (hval 1 3 v1 rfl rfl)
  obtain ⟨c1, rc1, qq1⟩ := reads_arg (reads_int Try.underlying3) h1 rfl
  obtain ⟨fr, ec1, fa1⟩ := int_of qq1
  simp only [Enc.enc, List.cons.injEq, and_true] at ec1
  subst ec1
  obtain ⟨a2, rfl⟩ := okWide_int Try.underlying3 (hval 2 3 v2 rfl rfl)
  obtain ⟨c2, rc2, qq2⟩ := reads_arg (reads_int Try.underlying3) h2 rfl
  obtain ⟨to, ec2, fa2⟩ := int_of qq2
  simp only [Enc.enc, List.cons.injEq, and_true] at ec2
  subst ec2
  obtain ⟨m', hrun⟩ := paths_run adj fr to fa0 fa1 fa2
  refine (law_calls (X := X) (by kernel_rfl) prims_ok hrun (.cons (.c rc0) (.cons (.c rc1) (.cons (.c rc2) (.nil))))).mono fun en W' ⟨he, hk⟩ => ?_
  exact ⟨_, he, post_true (P := Try.prog) (f := Try.f4) (s := Rows.sccPathsSpec) laidOut (by rw [Try.params4]; intro t ht; simp at ht; rcases ht with rfl | rfl | rfl <;> exact ⟨by kernel_rfl, of_decide_eq_true (by kernel_rfl)⟩) rfl Try.underlying4 rfl rfl hW' hk⟩
theorem sccPaths_holds : Rows.SccPathsSaid :=
  OpenClaim.holds_of_wide 4 Try.f4 rfl rfl rfl rfl rfl rfl rfl ⟨rfl, rfl, rfl, rfl, rfl⟩ rfl rfl rfl rfl rfl (by kernel_rfl) Try.func4 (by kernel_rfl)
    (of_decide_eq_true (by kernel_rfl)) (by unfold Func.isWrapper; first | (rw [if_pos (by decide +kernel)]; kernel_rfl) | (rw [if_neg (by decide +kernel)]; exact ⟨rfl, rfl⟩))
    (fun os started H enc _ => sccPaths_lifted os started H enc)
end Go.Proofs.Ytclnpjnodmfkcaa
