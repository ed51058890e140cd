/-
  HeldNests: for every flow, number and list of nests the call of the law returns true, and what it was handed reads behind it as before. No condition.
-/
import Derived.Test.YtkfmoodaplelnaaSb
import Derived.Test.YtkfmoodaplelnaaLv
import Derived.Test.YtkfmoodaplelnaaRk
set_option linter.unusedVariables false
set_option maxRecDepth 100000
namespace Go.Proofs.Ytkfmoodaplelnaa
open Go Go.Abs Go.Proofs Go.ChangeShapes Go.WideShapes Go.ChangeAt Go.RowKit
theorem mixed2 : Try.prog.follows .mixedOrders = true := by kernel_rfl
theorem prims_of5 : letI := kn5; ∀ f p, prims0 f = some p → PrimOk Try.prog f p := by
  intro f p h
  unfold prims0 at h
  split at h
  · cases h; exact noP_ok
  · cases h; exact live_prim mixed2
  · cases h; exact sort_prim mixed2
  · cases h
theorem nests_run (f : GFlow) (m : Int) (l : Sl GNest) : ∃ k : Kn, (∀ g p, (@X k).pr g = some p → PrimOk Try.prog g p) ∧ (@X k).RunsC 4 [.c (.agg (EncX.encX f)), dInt m, .c (eSl l)] (dB true) := by
  have ht := nests_true f m l
  letI := kn5
  exact ⟨kn5, prims_of5, vigillaw13_HeldNests_ok ht⟩
theorem heldNests_lifted (os : Os) (started : os.Started) (H : Type) (enc : TypeId × Value → H) :
    ReturnsInHanded {} Try.checked os 4 .any (Rows.heldNestsSpec.pre6 enc Try.prog Try.f4 Rows.heldNestsRow.domain false) (Rows.heldNestsSpec.post enc Try.prog Try.f4 false true false false) := by
  refine returnsInHanded_of_change_sized (C := Try.checked) own started (by kernel_rfl) Try.func4
    (ChangeSpec.witness6 (enc := enc) (C := Try.checked) false ⟨#[], #[.agg #[.string .empty, .bool false, .int .i64 0, .slice none 0 0, .slice none 0 0], .int .i64 0, .slice none 0 0], []⟩ 8 (by kernel_rfl) (by kernel_rfl) (by kernel_rfl) (by kernel_rfl)) ?_
  intro W base args ds gs before hval0 hW hcnd hsz0 _
  have hval : ∀ (j : Nat) t v, Try.f4.params[j]? = some t → args[j]? = some v → Value.okWide Try.prog W .any base t v := hval0
  have hW' := hW
  obtain ⟨p, q, hA0, hV, rfl, hfz, hnd⟩ := hW
  have hA : DataW.TrodAll enc Try.prog W 0 (fun _ => true) true Try.f4.params.toList args.toList ds p := hA0
  rw [Try.params4] at hA hval
  obtain ⟨v0, vs0, d0, ds0, p0, q0, hargs, rfl, rfl, h0, r0⟩ := trodAll_cons hA
  obtain ⟨v1, vs1, d1, ds1, p1, q1, rfl, rfl, rfl, h1, r1⟩ := trodAll_cons r0
  obtain ⟨v2, vs2, d2, ds2, p2, q2, rfl, rfl, rfl, h2, r2⟩ := trodAll_cons r1
  obtain ⟨rfl, rfl, rfl⟩ := trodAll_nil r2
  obtain rfl : args = #[v0, v1, v2] := by cases args; simp_all
  obtain ⟨rfl, rfl⟩ := trodVars_none hV
  obtain ⟨a0, rfl, _⟩ := okWide_struct Try.underlying25 (hval 0 25 v0 rfl rfl)
  obtain ⟨fl, rc0⟩ := rdE_arg (α := GFlow) rd25 h0
  obtain ⟨a1, rfl⟩ := okWide_int Try.underlying3 (hval 1 3 v1 rfl rfl)
  obtain ⟨m, c1, ec1, rc1⟩ := rdE_arg1 (α := Int) rfl (fun F => rdE_int Try.underlying3) h1 rfl
  cases ec1
  obtain ⟨a2, len2, cap2, rfl⟩ := okWide_slice Try.underlying35 (hval 2 35 v2 rfl rfl)
  obtain ⟨l, c2, ec2, rc2⟩ := rdE_arg1 (α := Sl GNest) rfl rd35 h2 rfl
  cases ec2
  obtain ⟨k, hpr, hrun⟩ := nests_run fl m l
  rw [EncX.eq] at hrun
  refine (law_callsC (X := @X k) mixed2 hpr ⟨fun _ h => h.elim, trivial⟩ hrun (.cons (.c rc0) (.cons (.c rc1) (.cons (.c rc2) .nil)))).mono fun en W' ⟨he, hk⟩ => ?_
  exact ⟨_, he, post_true (P := Try.prog) (f := Try.f4) (s := Rows.heldNestsSpec) laidOut (by rw [Try.params4]; intro t ht; simp at ht; rcases ht with rfl | rfl | rfl <;> exact ⟨by kernel_rfl, of_decide_eq_true (by kernel_rfl)⟩) rfl Try.underlying4 rfl rfl hW' hk⟩
theorem heldNests_holds : Rows.HeldNestsSaid :=
  OpenClaim.holds_of_wide 4 Try.f4 rfl rfl rfl rfl rfl rfl rfl ⟨rfl, rfl, rfl, rfl, rfl⟩ rfl rfl rfl rfl rfl (by kernel_rfl) Try.func4 (by kernel_rfl)
    (of_decide_eq_true (by kernel_rfl)) (by unfold Func.isWrapper; first | (rw [if_pos (by decide +kernel)]; kernel_rfl) | (rw [if_neg (by decide +kernel)]; exact ⟨rfl, rfl⟩))
    (fun os started H enc _ => heldNests_lifted os started H enc)
end Go.Proofs.Ytkfmoodaplelnaa
