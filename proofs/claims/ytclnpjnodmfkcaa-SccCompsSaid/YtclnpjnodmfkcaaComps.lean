/-
  SccComps: for every graph the call of the law returns true, and the graph reads behind it as before. No condition.
-/
import Derived.Test.YtclnpjnodmfkcaaMp
import Derived.Test.YtclnpjnodmfkcaaMe
import Derived.Test.YtclnpjnodmfkcaaRk
set_option linter.unusedVariables false
namespace Go.Proofs.Ytclnpjnodmfkcaa
open Go Go.Abs Go.Proofs Go.Proofs.Scc Go.ChangeShapes Go.WideShapes Go.ChangeAt Go.RowKit
theorem comps_law (adj : Sl (Sl Int)) {p : Prop} (_ : p) : ∃ m, X.Runs [] 5 [.c (eSl adj)] ⟨[], []⟩ (dB true) m := by
  obtain ⟨b, hb, hsm⟩ := small_runs adj
  cases b with
  | false => exact ⟨_, lawComps_2 adj hb live_runs⟩
  | true =>
    obtain ⟨h40, h80⟩ := hsm rfl
    obtain ⟨s, h1, h2⟩ := comps_runs adj (fun r hr => by have := h80 r hr; omega) (by omega)
    obtain ⟨s', g1, g2⟩ := rcomps_runs adj (fun r hr => by have := h80 r hr; omega) (by omega)
    have he := h2.ext g2
    have hle := h2.le
    have hs := rsame_runs s s' (by have := hle.1; simp at this; omega) (fun r hr => by
      have := hle.2 r.l (List.mem_map_of_mem hr); omega)
    simp only [he, decide_true] at hs
    exact ⟨_, lawComps_1 adj s s' hb h1 g1 hs live_runs⟩

theorem sccComps_lifted (os : Os) (started : os.Started) (H : Type) (enc : TypeId × Value → H) :
    ReturnsInHanded {} Try.checked os 5 .any (Rows.sccCompsSpec.pre6 enc Try.prog Try.f5 Rows.sccCompsRow.domain false) (Rows.sccCompsSpec.post enc Try.prog Try.f5 false true false false) := by
  refine returnsInHanded_of_change_sized (C := Try.checked) own started (by kernel_rfl) Try.func5
    (ChangeSpec.witness6 (enc := enc) (C := Try.checked) false ⟨#[], #[.slice none 0 0], []⟩ 8 (by kernel_rfl) (by kernel_rfl) (by kernel_rfl) (by kernel_rfl)) ?_
  intro W base args ds gs before hval0 hW hcnd hsz0 _
  have hval : ∀ (j : Nat) t v, Try.f5.params[j]? = some t → args[j]? = some v → Value.okWide Try.prog W .any base t v := hval0
  have hW' := hW
  obtain ⟨p, q, hA0, hV, rfl, hfz, hnd⟩ := hW
  have hA : DataW.TrodAll enc Try.prog W 0 (fun _ => true) true Try.f5.params.toList args.toList ds p := hA0
  rw [Try.params5] at hA hval
  obtain ⟨v0, vs0, d0, ds0, p0, q0, hargs, rfl, rfl, h0, r0⟩ := trodAll_cons hA
  obtain ⟨rfl, rfl, rfl⟩ := trodAll_nil r0
  obtain rfl : args = #[v0] := by cases args; simp_all
  obtain ⟨rfl, rfl⟩ := trodVars_none hV
  obtain ⟨a0, len0, cap0, rfl⟩ := okWide_slice Try.underlying22 (hval 0 22 v0 rfl rfl)
  obtain ⟨c0, rc0, qq0⟩ := reads_arg reads_intss h0 rfl
  obtain ⟨adj, ec0, fa0⟩ := intss_of qq0
  simp only [Enc.enc, List.cons.injEq, and_true] at ec0
  subst ec0
  obtain ⟨m', hrun⟩ := comps_law adj fa0
  refine (law_calls (X := X) (by kernel_rfl) prims_ok hrun (.cons (.c rc0) (.nil))).mono fun en W' ⟨he, hk⟩ => ?_
  exact ⟨_, he, post_true (P := Try.prog) (f := Try.f5) (s := Rows.sccCompsSpec) laidOut (by rw [Try.params5]; intro t ht; simp at ht; subst ht <;> exact ⟨by kernel_rfl, of_decide_eq_true (by kernel_rfl)⟩) rfl Try.underlying4 rfl rfl hW' hk⟩
theorem sccComps_holds : Rows.SccCompsSaid :=
  OpenClaim.holds_of_wide 5 Try.f5 rfl rfl rfl rfl rfl rfl rfl ⟨rfl, rfl, rfl, rfl, rfl⟩ rfl rfl rfl rfl rfl (by kernel_rfl) Try.func5 (by kernel_rfl)
    (of_decide_eq_true (by kernel_rfl)) (by unfold Func.isWrapper; first | (rw [if_pos (by decide +kernel)]; kernel_rfl) | (rw [if_neg (by decide +kernel)]; exact ⟨rfl, rfl⟩))
    (fun os started H enc _ => sccComps_lifted os started H enc)
end Go.Proofs.Ytclnpjnodmfkcaa
