/-
  How flows come in.
-/
import Derived.Test.YtkfmoodaplelnaaTy
import Derived.Test.YtkfmoodaplelnaaAbs43
import Derived.Test.YtkfmoodaplelnaaRows
import Derived.OpenShut
import Derived.ProofKit
import Derived.WalkKit
set_option linter.unusedVariables false
set_option linter.unusedSimpArgs false
set_option maxRecDepth 100000
namespace Go.Proofs.Ytkfmoodaplelnaa
open Go Go.Abs Go.Proofs Go.ChangeShapes Go.WideShapes Go.ChangeAt Go.RowKit
theorem own : ownKnob Try.prog.godebug = none := by kernel_rfl
theorem laidOut : laidOutB Try.prog = true := by kernel_rfl
theorem rd58_ {w : World} {base : Nat} (F : Nat) (ih : ∀ G, G < F → RdE Try.prog w base G 58 GExpr) : RdE Try.prog w base F 58 GExpr := fun H enc sp held fuel vs x hF h => by
  obtain ⟨m, rfl, ⟨x0, h0⟩, ⟨x1, h1⟩, ⟨x2, h2⟩, ⟨x3, h3⟩, ⟨x4, h4⟩, ⟨x5, h5⟩, hz⟩ := struct_parts (l := [(3, 1), (9, 1), (9, 1), (2, 1), (56, 1), (3, 1)]) Try.underlying58 (by kernel_rfl) (by kernel_rfl) h
  obtain ⟨a0, r0⟩ := (rdE_int Try.underlying3) H enc sp held m _ _ (Nat.le_refl _) h0
  obtain ⟨a1, r1⟩ := (rdE_str Try.underlying9) H enc sp held m _ _ (Nat.le_refl _) h1
  obtain ⟨a2, r2⟩ := (rdE_str Try.underlying9) H enc sp held m _ _ (Nat.le_refl _) h2
  obtain ⟨a3, r3⟩ := (rdE_int Try.underlying2) H enc sp held m _ _ (Nat.le_refl _) h3
  have hsl : RdE Try.prog w base m 56 (Sl GExpr) := by
    cases m with
    | zero => exact rdE_zero
    | succ m => exact rdE_slice Try.underlying56 (by kernel_rfl) (ih m (by omega))
  obtain ⟨a4, r4⟩ := hsl H enc sp held m _ _ (Nat.le_refl _) h4
  obtain ⟨a5, r5⟩ := (rdE_int Try.underlying3) H enc sp held m _ _ (Nat.le_refl _) h5
  obtain ⟨nl, xx, l⟩ := a4
  refine ⟨⟨a0, a1, a2, a3, ⟨nl, xx, l⟩, a5⟩, ?_⟩
  have hr := RCs.parts r0 (RCs.parts r1 (RCs.parts r2 (RCs.parts r3 (RCs.parts r4 (RCs.parts r5 (RCs.nil' hz))))))
  simpa [Enc.enc, GExpr.encR, GExpr.encL1_eq, eSl, List.append_assoc] using hr
theorem rd58 {w : World} {base : Nat} (F : Nat) : RdE Try.prog w base F 58 GExpr := by
  induction F using Nat.strongRecOn with
  | ind F ih => exact rd58_ F ih
theorem rdx58 {w : World} {base : Nat} (F : Nat) : RdE Try.prog w base F 58 GExpr := rd58 F
theorem rd60 {w : World} {base : Nat} (F : Nat) : RdE Try.prog w base F 60 GEdge := fun H enc sp held fuel vs x hF h => by
  obtain ⟨m, rfl, ⟨x0, h0⟩, ⟨x1, h1⟩, ⟨x2, h2⟩, ⟨x3, h3⟩, ⟨x4, h4⟩, ⟨x5, h5⟩, ⟨x6, h6⟩, ⟨x7, h7⟩, ⟨x8, h8⟩, ⟨x9, h9⟩, hz⟩ := struct_parts (l := [(3, 1), (3, 1), (3, 1), (3, 1), (3, 1), (58, 6), (2, 1), (3, 1), (3, 1), (3, 1)]) Try.underlying60 (by kernel_rfl) (by kernel_rfl) h
  obtain ⟨a0, r0⟩ := (rdE_int Try.underlying3) H enc sp held m _ _ (Nat.le_refl _) h0
  obtain ⟨a1, r1⟩ := (rdE_int Try.underlying3) H enc sp held m _ _ (Nat.le_refl _) h1
  obtain ⟨a2, r2⟩ := (rdE_int Try.underlying3) H enc sp held m _ _ (Nat.le_refl _) h2
  obtain ⟨a3, r3⟩ := (rdE_int Try.underlying3) H enc sp held m _ _ (Nat.le_refl _) h3
  obtain ⟨a4, r4⟩ := (rdE_int Try.underlying3) H enc sp held m _ _ (Nat.le_refl _) h4
  obtain ⟨a5, r5⟩ := (rd58 _) H enc sp held m _ _ (Nat.le_refl _) h5
  obtain ⟨a6, r6⟩ := (rdE_int Try.underlying2) H enc sp held m _ _ (Nat.le_refl _) h6
  obtain ⟨a7, r7⟩ := (rdE_int Try.underlying3) H enc sp held m _ _ (Nat.le_refl _) h7
  obtain ⟨a8, r8⟩ := (rdE_int Try.underlying3) H enc sp held m _ _ (Nat.le_refl _) h8
  obtain ⟨a9, r9⟩ := (rdE_int Try.underlying3) H enc sp held m _ _ (Nat.le_refl _) h9
  refine ⟨⟨a0, a1, a2, a3, a4, a5, a6, a7, a8, a9⟩, ?_⟩
  have hr := RCs.parts r0 (RCs.parts r1 (RCs.parts r2 (RCs.parts r3 (RCs.parts r4 (RCs.parts r5 (RCs.parts r6 (RCs.parts r7 (RCs.parts r8 (RCs.parts r9 (RCs.nil' hz))))))))))
  simpa [Enc.enc, List.append_assoc] using hr
theorem rdx60 {w : World} {base : Nat} (F : Nat) : RdE Try.prog w base F 60 GEdge := rd60 F
theorem rd120 {w : World} {base : Nat} (F : Nat) : RdE Try.prog w base F 120 GGuard := fun H enc sp held fuel vs x hF h => by
  obtain ⟨m, rfl, ⟨x0, h0⟩, ⟨x1, h1⟩, ⟨x2, h2⟩, hz⟩ := struct_parts (l := [(3, 1), (58, 6), (4, 1)]) Try.underlying120 (by kernel_rfl) (by kernel_rfl) h
  obtain ⟨a0, r0⟩ := (rdE_int Try.underlying3) H enc sp held m _ _ (Nat.le_refl _) h0
  obtain ⟨a1, r1⟩ := (rd58 _) H enc sp held m _ _ (Nat.le_refl _) h1
  obtain ⟨a2, r2⟩ := (rdE_bool Try.underlying4) H enc sp held m _ _ (Nat.le_refl _) h2
  refine ⟨⟨a0, a1, a2⟩, ?_⟩
  have hr := RCs.parts r0 (RCs.parts r1 (RCs.parts r2 (RCs.nil' hz)))
  simpa [Enc.enc, List.append_assoc] using hr
theorem rdx120 {w : World} {base : Nat} (F : Nat) : RdE Try.prog w base F 120 GGuard := rd120 F
theorem rd22 {w : World} {base : Nat} (F : Nat) : RdE Try.prog w base F 22 (Sl GEdge) := (rdE_slice Try.underlying22 (by kernel_rfl) (rdx60 F)).le (Nat.le_succ F)
theorem rdx22 {w : World} {base : Nat} (F : Nat) : RdE Try.prog w base F 22 (Sl GEdge) := rd22 F
theorem rd23 {w : World} {base : Nat} (F : Nat) : RdE Try.prog w base F 23 (Sl GGuard) := (rdE_slice Try.underlying23 (by kernel_rfl) (rdx120 F)).le (Nat.le_succ F)
theorem rdx23 {w : World} {base : Nat} (F : Nat) : RdE Try.prog w base F 23 (Sl GGuard) := rd23 F
theorem rd25 {w : World} {base : Nat} (F : Nat) : RdE Try.prog w base F 25 GFlow := fun H enc sp held fuel vs x hF h => by
  obtain ⟨m, rfl, ⟨x0, h0⟩, ⟨x1, h1⟩, ⟨x2, h2⟩, ⟨x3, h3⟩, ⟨x4, h4⟩, hz⟩ := struct_parts (l := [(9, 1), (4, 1), (3, 1), (22, 1), (23, 1)]) Try.underlying25 (by kernel_rfl) (by kernel_rfl) h
  obtain ⟨a0, r0⟩ := (rdE_str Try.underlying9) H enc sp held m _ _ (Nat.le_refl _) h0
  obtain ⟨a1, r1⟩ := (rdE_bool Try.underlying4) H enc sp held m _ _ (Nat.le_refl _) h1
  obtain ⟨a2, r2⟩ := (rdE_int Try.underlying3) H enc sp held m _ _ (Nat.le_refl _) h2
  obtain ⟨a3, r3⟩ := (rd22 _) H enc sp held m _ _ (Nat.le_refl _) h3
  obtain ⟨a4, r4⟩ := (rd23 _) H enc sp held m _ _ (Nat.le_refl _) h4
  refine ⟨⟨a0, a1, a2, a3, a4⟩, ?_⟩
  have hr := RCs.parts r0 (RCs.parts r1 (RCs.parts r2 (RCs.parts r3 (RCs.parts r4 (RCs.nil' hz)))))
  simpa [Enc.enc, List.append_assoc] using hr
theorem rdx25 {w : World} {base : Nat} (F : Nat) : RdE Try.prog w base F 25 GFlow := rd25 F
theorem rd42 {w : World} {base : Nat} (F : Nat) : RdE Try.prog w base F 42 GNest := fun H enc sp held fuel vs x hF h => by
  obtain ⟨m, rfl, ⟨x0, h0⟩, ⟨x1, h1⟩, hz⟩ := struct_parts (l := [(3, 1), (3, 1)]) Try.underlying42 (by kernel_rfl) (by kernel_rfl) h
  obtain ⟨a0, r0⟩ := (rdE_int Try.underlying3) H enc sp held m _ _ (Nat.le_refl _) h0
  obtain ⟨a1, r1⟩ := (rdE_int Try.underlying3) H enc sp held m _ _ (Nat.le_refl _) h1
  refine ⟨⟨a0, a1⟩, ?_⟩
  have hr := RCs.parts r0 (RCs.parts r1 (RCs.nil' hz))
  simpa [Enc.enc, List.append_assoc] using hr
theorem rdx42 {w : World} {base : Nat} (F : Nat) : RdE Try.prog w base F 42 GNest := rd42 F
theorem rd35 {w : World} {base : Nat} (F : Nat) : RdE Try.prog w base F 35 (Sl GNest) := (rdE_slice Try.underlying35 (by kernel_rfl) (rdx42 F)).le (Nat.le_succ F)
theorem rdx35 {w : World} {base : Nat} (F : Nat) : RdE Try.prog w base F 35 (Sl GNest) := rd35 F
end Go.Proofs.Ytkfmoodaplelnaa
