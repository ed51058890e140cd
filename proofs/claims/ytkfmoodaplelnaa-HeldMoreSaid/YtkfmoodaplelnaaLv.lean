/-
  held.Held as one step; live().
-/
import Derived.Test.YtkfmoodaplelnaaHd
set_option maxRecDepth 1000000
set_option maxHeartbeats 4000000
set_option linter.unusedVariables false
set_option linter.unusedSimpArgs false
set_option linter.unusedSectionVars false
namespace Go.Proofs.Ytkfmoodaplelnaa
open Go Go.Abs Go.Proofs
/-- What held.Held is known to hand back. -/
def HeldGood (args : List DV) (d : DV) : Prop := ∃ n p0 p1 r, args = [.c (.agg (EncX.encX p0)), dInt p1] ∧ held_find n p0 p1 = some r ∧ findGood p0 p1 r ∧ d = .tup [.c (eSl (heldV p0 p1 r).1), dB (heldV p0 p1 r).2]
abbrev Pr := List Ob → List DV → Option Out
def noP : Pr := fun _ _ => none
theorem noP_ok [Gl] {P : Program} {f : FuncId} : PrimOk P f noP :=
  ⟨fun st args r h => (by cases h), fun st args r h => (by cases h), fun st st' args _ => rfl, fun m args r h => (by cases h)⟩
abbrev kn (K L : Pr) : Kn := ⟨K, L, fun _ _ => none, fun h => (by cases h), none, fun h => (by cases h)⟩
theorem prims_of {K L : Pr} (hK : PrimOk Try.prog 7 K) (hL : PrimOk Try.prog 6 L) : letI := kn K L; ∀ f p, prims0 f = some p → PrimOk Try.prog f p := by
  intro f p h
  unfold prims0 at h
  split at h
  · cases h; exact hK
  · cases h; exact hL
  · cases h
theorem held_prim (hmo : Try.prog.follows .mixedOrders = true) {p : List DV → Option DV} (hp : ∀ args d, p args = some d → HeldGood args d) : PrimOk Try.prog 7 (fun _ args => (p args).map fun d => { d }) := by
  letI := kn noP noP
  refine prim_closed (fn := Try.f7) (c := b7) (by kernel_rfl) (by kernel_rfl) (fun args d h => ?_) (fun args d h => ?_)
  · obtain ⟨n, p0, p1, r, rfl, _⟩ := hp args d h
    rfl
  · obtain ⟨n, p0, p1, r, rfl, h1, h2, rfl⟩ := hp args d h
    exact held_tri hmo (prims_of noP_ok noP_ok) h1 h2
def gE0 : GExpr := ⟨0, .empty, .empty, 0, ⟨true, true, []⟩, 0⟩
def edge0 (a b k m : Int) : GEdge := ⟨a, b, k, m, 0, gE0, 0, 0, 0, 0⟩
def two0 : GFlow := ⟨.empty, false, 5, ⟨false, true, [edge0 0 1 4 0, edge0 1 2 4 1, edge0 2 3 5 1, edge0 3 4 5 0]⟩, ⟨true, true, []⟩⟩
def K2 : Memo := [([.agg (EncX.encX two0), cInt 2], .tup [.c (eSl (⟨false, true, [⟨false, false, [0, 0]⟩, ⟨false, false, [1, 0]⟩, ⟨false, false, [1, 1]⟩, ⟨false, false, [1, 0]⟩, ⟨false, false, [0, 0]⟩]⟩ : Sl (Sl Int))), dB true]), ([.agg (EncX.encX two0), cInt 1], .tup [.c (eSl (⟨true, true, []⟩ : Sl (Sl Int))), dB false])]
noncomputable def X2 : Go.Abs.Sys := letI := kn (memoP K2) noP; X
/-- A function that the step of held.Held comes to, as a table. -/
theorem memo_prim (t : Memo) : memoP t = fun _ args => ((match cvsOf args with | some cs => t.find cs | none => none) : Option DV).map fun d => { d } := by
  funext st args
  unfold memoP
  cases cvsOf args <;> rfl
theorem K2_good {args : List DV} {d : DV} (h : (match cvsOf args with | some cs => K2.find cs | none => none) = some d) : HeldGood args d := by
  cases hc : cvsOf args with
  | none => rw [hc] at h; cases h
  | some cs =>
    rw [hc] at h
    have hm := Memo.find_mem h
    rw [cvsOf_eq hc]
    simp only [K2, List.mem_cons, Prod.mk.injEq, List.not_mem_nil, or_false] at hm
    rcases hm with ⟨rfl, rfl⟩ | ⟨rfl, rfl⟩
    · refine ⟨100, two0, 2, .r_1 [⟨false, [0]⟩, ⟨false, [1]⟩, ⟨false, [2]⟩, ⟨false, [3]⟩, ⟨true, []⟩] [(0, ⟨0, 0, 0, 0, 0, 0, 0, 0⟩), (1, ⟨1, 0, 0, 0, 0, 0, 0, 0⟩), (2, ⟨1, 1, 0, 0, 0, 0, 0, 0⟩), (3, ⟨1, 0, 0, 0, 0, 0, 0, 0⟩), (4, ⟨0, 0, 0, 0, 0, 0, 0, 0⟩)] ⟨false, [0, 1, 2, 3, 4]⟩, rfl, by kernel_rfl, ?_, by kernel_rfl⟩
      exact ⟨by decide, by decide, by decide, by decide, by decide, by decide⟩
    · exact ⟨100, two0, 1, .r_2, rfl, by kernel_rfl, trivial, rfl⟩
theorem K2_ok (hmo : Try.prog.follows .mixedOrders = true) : PrimOk Try.prog 7 (memoP K2) := by
  rw [memo_prim]
  exact held_prim hmo fun args d h => K2_good h
theorem live13 : X2.RunsC 6 [] (dB true) := Sys.runC 40 fun k => by kernel_rfl
theorem live_prim (hmo : Try.prog.follows .mixedOrders = true) : PrimOk Try.prog 6 (memoP [([], dB true)]) := by
  have h : PrimOk X2.P 6 (memoP [([], dB true)]) := memo_ok (X := X2) hmo (fun f p hf => prims_of (K2_ok hmo) noP_ok f p hf) (t := [([], dB true)]) (by intro x hx; simp only [List.mem_singleton] at hx; subst hx; exact live13)
  exact h
end Go.Proofs.Ytkfmoodaplelnaa
