/-
  HeldMore: for every list of nests and every nest the call of the law returns true, and what it was handed reads behind it as before. No condition.
-/
import Derived.Test.YtkfmoodaplelnaaQa
import Derived.Test.YtkfmoodaplelnaaLv
import Derived.Test.YtkfmoodaplelnaaRk
set_option linter.unusedVariables false
set_option maxRecDepth 100000
namespace Go.Proofs.Ytkfmoodaplelnaa
open Go Go.Abs Go.Proofs Go.ChangeShapes Go.WideShapes Go.ChangeAt Go.RowKit
theorem mixed3 : Try.prog.follows .mixedOrders = true := by kernel_rfl
theorem prims_of3 [Kn] (hK : PrimOk Try.prog 7 Kn.K) (hL : PrimOk Try.prog 6 Kn.L) : ∀ f p, prims0 f = some p → PrimOk Try.prog f p := by
  intro f p h
  unfold prims0 at h
  split at h
  · cases h; exact hK
  · cases h; exact hL
  · cases h
theorem more_run (l : Sl GNest) (n : GNest) : ∃ k : Kn, (∀ g p, (@X k).pr g = some p → PrimOk Try.prog g p) ∧ (@X k).RunsC 5 [.c (eSl l), .c (.agg (EncX.encX n))] (dB true) := by
  have ht := more_true l n
  letI := kn4
  exact ⟨kn4, prims_of3 noP_ok (live_prim mixed3), vigillaw13_HeldMore_ok ht⟩
theorem heldMore_lifted (os : Os) (started : os.Started) (H : Type) (enc : TypeId × Value → H) :
    ReturnsInHanded {} Try.checked os 5 .any (Rows.heldMoreSpec.pre6 enc Try.prog Try.f5 Rows.heldMoreRow.domain false) (Rows.heldMoreSpec.post enc Try.prog Try.f5 false true false false) := by
  refine returnsInHanded_of_change_sized (C := Try.checked) own started (by kernel_rfl) Try.func5
    (ChangeSpec.witness6 (enc := enc) (C := Try.checked) false ⟨#[], #[.slice none 0 0, .agg #[.int .i64 0, .int .i64 0]], []⟩ 8 (by kernel_rfl) (by kernel_rfl) (by kernel_rfl) (by kernel_rfl)) ?_
  intro W base args ds gs before hval0 hW hcnd hsz0 _
  have hval : ∀ (j : Nat) t v, Try.f5.params[j]? = some t → args[j]? = some v → Value.okWide Try.prog W .any base t v := hval0
  have hW' := hW
  obtain ⟨p, q, hA0, hV, rfl, hfz, hnd⟩ := hW
  have hA : DataW.TrodAll enc Try.prog W 0 (fun _ => true) true Try.f5.params.toList args.toList ds p := hA0
  rw [Try.params5] at hA hval
  obtain ⟨v0, vs0, d0, ds0, p0, q0, hargs, rfl, rfl, h0, r0⟩ := trodAll_cons hA
  obtain ⟨v1, vs1, d1, ds1, p1, q1, rfl, rfl, rfl, h1, r1⟩ := trodAll_cons r0
  obtain ⟨rfl, rfl, rfl⟩ := trodAll_nil r1
  obtain rfl : args = #[v0, v1] := by cases args; simp_all
  obtain ⟨rfl, rfl⟩ := trodVars_none hV
  obtain ⟨a0, len0, cap0, rfl⟩ := okWide_slice Try.underlying35 (hval 0 35 v0 rfl rfl)
  obtain ⟨l, c0, ec0, rc0⟩ := rdE_arg1 (α := Sl GNest) rfl rd35 h0 rfl
  cases ec0
  obtain ⟨a1, rfl, _⟩ := okWide_struct Try.underlying42 (hval 1 42 v1 rfl rfl)
  obtain ⟨n, rc1⟩ := rdE_arg (α := GNest) rd42 h1
  obtain ⟨k, hpr, hrun⟩ := more_run l n
  rw [EncX.eq] at hrun
  refine (law_callsC (X := @X k) mixed3 hpr ⟨fun _ h => h.elim, trivial⟩ hrun (.cons (.c rc0) (.cons (.c rc1) .nil))).mono fun en W' ⟨he, hk⟩ => ?_
  exact ⟨_, he, post_true (P := Try.prog) (f := Try.f5) (s := Rows.heldMoreSpec) laidOut (by rw [Try.params5]; intro t ht; simp at ht; rcases ht with rfl | rfl <;> exact ⟨by kernel_rfl, of_decide_eq_true (by kernel_rfl)⟩) rfl Try.underlying4 rfl rfl hW' hk⟩
theorem heldMore_holds : Rows.HeldMoreSaid :=
  OpenClaim.holds_of_wide 5 Try.f5 rfl rfl rfl rfl rfl rfl rfl ⟨rfl, rfl, rfl, rfl, rfl⟩ rfl rfl rfl rfl rfl (by kernel_rfl) Try.func5 (by kernel_rfl)
    (of_decide_eq_true (by kernel_rfl)) (by unfold Func.isWrapper; first | (rw [if_pos (by decide +kernel)]; kernel_rfl) | (rw [if_neg (by decide +kernel)]; exact ⟨rfl, rfl⟩))
    (fun os started H enc _ => heldMore_lifted os started H enc)
end Go.Proofs.Ytkfmoodaplelnaa
