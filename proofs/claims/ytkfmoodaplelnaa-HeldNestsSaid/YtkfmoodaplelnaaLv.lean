/-
  Part of the proof: printed by the session's own program out of the program's form, or typed; it states no claim by itself.
-/
import Derived.Test.YtkfmoodaplelnaaHd
import Derived.Test.YtkfmoodaplelnaaNe
import Derived.Test.YtkfmoodaplelnaaLays
import Derived.Test.YtkfmoodaplelnaaAbs43
/-
  The library's sort of nests, as one step.
-/
set_option maxRecDepth 100000
set_option maxHeartbeats 4000000
set_option linter.unusedVariables false
set_option linter.unusedSimpArgs false
set_option linter.unusedSectionVars false
namespace Go.Proofs.Ytkfmoodaplelnaa
open Go Go.Abs Go.Proofs Go.Sort Go.Lib
abbrev Pr := List Ob → List DV → Option Out
def noP : Pr := fun _ _ => none
theorem noP_ok [Gl] [Fl] {P : Program} {f : FuncId} : PrimOk P f noP :=
  ⟨fun st args r h => (by cases h), fun st args r h => (by cases h), fun st st' args _ => rfl, fun m args r h => (by cases h)⟩
abbrev kn (K L : Pr) : Kn := ⟨K, L, fun _ _ => none, fun h => (by cases h), none, fun h => (by cases h), sort2P 25 sortN, true, fun _ => rfl⟩
abbrev kn0 : Kn := ⟨noP, noP, fun _ _ => none, fun h => (by cases h), none, fun h => (by cases h), noP, false, fun h => (by cases h)⟩
theorem prims_of0 [Gl] [Fl] : letI := kn0; ∀ f p, prims0 f = some p → PrimOk Try.prog f p := by
  intro f p h
  unfold prims0 at h
  split at h
  · cases h; exact noP_ok
  · cases h; exact noP_ok
  · cases h; exact noP_ok
  · cases h
section
variable [Kn]
theorem isNaN_eq (n : Nat) (a : Int) : cmp_isNaN n a = some false := by simp [cmp_isNaN]
theorem compare_eq (n : Nat) (a b : Int) : cmp_Compare n a b = some (if a < b then -1 else if b < a then 1 else 0) := by
  unfold cmp_Compare
  simp only [isNaN_eq, Option.bind_some, cond_false]
  split
  · rfl
  · split <;> rfl
theorem or_eq (n : Nat) (a b : Int) : cmp_Or (n + 3) ⟨false, true, [a, b]⟩ = some (if a ≠ 0 then a else b) := by
  by_cases ha : a = 0
  · by_cases hb : b = 0
    · subst ha; subst hb; rfl
    · subst ha
      simp [cmp_Or, cmp_Or_L3, atI, InR, hb]
  · simp [cmp_Or, cmp_Or_L3, atI, ha]
theorem byNames_eq (a b : GNest) : held_byNames 5 a b = some (cmpN (toP a) (toP b)) := by
  unfold held_byNames cmpN toP
  simp only [compare_eq, Option.bind_some, or_eq 2]
  congr 1
  split
  · rfl
  · split
    · rfl
    · rfl
end
theorem cmp_lays (hmo : Try.prog.follows .mixedOrders = true) (blk off size : Nat) (w : World) : CmpLays Try.prog 25 #[] encP 2 cmpN blk off size w := by
  intro m os dk hs x y
  letI : Fl := ⟨True⟩
  letI := kn0
  have h := held_byNames_ok (byNames_eq (ofP x) (ofP y))
  exact call_grown (X := X) trivial hmo (fun f p h => prims_of0 f p h) (vs := [.agg (encP x).toArray, .agg (encP y).toArray]) ⟨fun _ h => h.elim, trivial⟩ h (.cons (.c (.agg (.cons rfl (.sc rfl) (.cons rfl (.sc rfl) .nil)))) (.cons (.c (.agg (.cons rfl (.sc rfl) (.cons rfl (.sc rfl) .nil)))) .nil))
theorem cmpN_lt (x y : Int × Int) : cmpN x y < 0 ↔ x.1 < y.1 ∨ (x.1 = y.1 ∧ x.2 < y.2) := by
  unfold cmpN
  split
  · exact iff_of_true (by decide) (by omega)
  · split
    · exact iff_of_false (by decide) (by omega)
    · split
      · exact iff_of_true (by decide) (by omega)
      · split
        · exact iff_of_false (by decide) (by omega)
        · exact iff_of_false (by decide) (by omega)
theorem cmpN_swo : SWO (ltOf cmpN) := by
  refine ⟨fun x => ?_, fun x y z h1 h2 => ?_, fun x y z h1 h2 => ?_⟩ <;> simp only [ltOf, cmpN_lt, decide_eq_true_eq, decide_eq_false_iff_not] at * <;> omega
theorem cmpN_total (x y : Int × Int) (h1 : ltOf cmpN x y = false) (h2 : ltOf cmpN y x = false) : x = y := by
  simp only [ltOf, cmpN_lt, decide_eq_false_iff_not] at *
  apply Prod.ext <;> omega
theorem sort_prim [Gl] [Fl] (hmo : Try.prog.follows .mixedOrders = true) : PrimOk Try.prog 24 (sort2P 25 sortN) := by
  refine sort2_ok (fun l => by simp [sortN]) (fun w fv => Try.sortNest_none none 0 fv w) ?_
  intro blk off cap l w hH hb hl
  have h := Try.sortNest_total (fun w => by kernel_rfl) (fun w => by kernel_rfl) encP (fun _ => rfl) (fun x v hv => by simp only [encP, List.mem_cons, List.not_mem_nil, or_false] at hv; rcases hv with rfl | rfl <;> rfl) cmpN cmpN_swo 25 blk off cap l.toArray w (fun args w => by kernel_rfl) (cmp_lays hmo blk off _ w) hH hb (by simpa using hl) (fun x y h1 h2 => cmpN_total x y h1 h2)
  simp only [List.size_toArray] at h
  exact h
end Go.Proofs.Ytkfmoodaplelnaa

/-
  held.Held as one step; live().
-/
set_option maxRecDepth 1000000
set_option maxHeartbeats 4000000
set_option linter.unusedVariables false
set_option linter.unusedSimpArgs false
set_option linter.unusedSectionVars false
namespace Go.Proofs.Ytkfmoodaplelnaa
open Go Go.Abs Go.Proofs
/-- What held.Held is known to hand back. -/
def HeldGood (args : List DV) (d : DV) : Prop := ∃ n p0 p1 r, args = [.c (.agg (EncX.encX p0)), dInt p1] ∧ held_find n p0 p1 = some r ∧ findGood p0 p1 r ∧ d = .tup [.c (eSl (heldV p0 p1 r).1), dB (heldV p0 p1 r).2]
theorem prims_of [Gl] [Fl] {K L : Pr} (hmo : Try.prog.follows .mixedOrders = true) (hK : PrimOk Try.prog 7 K) (hL : PrimOk Try.prog 6 L) : letI := kn K L; ∀ f p, prims0 f = some p → PrimOk Try.prog f p := by
  intro f p h
  unfold prims0 at h
  split at h
  · cases h; exact hK
  · cases h; exact hL
  · cases h; exact sort_prim hmo
  · cases h
theorem held_prim (hmo : Try.prog.follows .mixedOrders = true) {p : List DV → Option DV} (hp : ∀ args d, p args = some d → HeldGood args d) : PrimOk Try.prog 7 (fun _ args => (p args).map fun d => { d }) := by
  letI := kn noP noP
  refine prim_closed (fn := Try.f7) (c := b7) (by kernel_rfl) (by kernel_rfl) (fun args d h => ?_) (fun args d h => ?_)
  · obtain ⟨n, p0, p1, r, rfl, _⟩ := hp args d h
    rfl
  · obtain ⟨n, p0, p1, r, rfl, h1, h2, rfl⟩ := hp args d h
    exact held_tri hmo (prims_of hmo noP_ok noP_ok) h1 h2
def gE0 : GExpr := ⟨0, .empty, .empty, 0, ⟨true, true, []⟩, 0⟩
def edge0 (a b k m : Int) : GEdge := ⟨a, b, k, m, 0, gE0, 0, 0, 0, 0⟩
def two0 : GFlow := ⟨.empty, false, 5, ⟨false, true, [edge0 0 1 4 0, edge0 1 2 4 1, edge0 2 3 5 1, edge0 3 4 5 0]⟩, ⟨true, true, []⟩⟩
def K2 : Memo := [([.agg (EncX.encX two0), cInt 2], .tup [.c (eSl (⟨false, true, [⟨false, false, [0, 0]⟩, ⟨false, false, [1, 0]⟩, ⟨false, false, [1, 1]⟩, ⟨false, false, [1, 0]⟩, ⟨false, false, [0, 0]⟩]⟩ : Sl (Sl Int))), dB true]), ([.agg (EncX.encX two0), cInt 1], .tup [.c (eSl (⟨true, true, []⟩ : Sl (Sl Int))), dB false])]
noncomputable def X2 : Go.Abs.Sys := letI := kn (memoP K2) noP; X
/-- A function that the step of held.Held comes to, as a table. -/
theorem memo_prim (t : Memo) : memoP t = fun _ args => ((match cvsOf args with | some cs => t.find cs | none => none) : Option DV).map fun d => { d } := by
  funext st args
  unfold memoP
  cases cvsOf args <;> rfl
theorem K2_good {args : List DV} {d : DV} (h : (match cvsOf args with | some cs => K2.find cs | none => none) = some d) : HeldGood args d := by
  cases hc : cvsOf args with
  | none => rw [hc] at h; cases h
  | some cs =>
    rw [hc] at h
    have hm := Memo.find_mem h
    rw [cvsOf_eq hc]
    simp only [K2, List.mem_cons, Prod.mk.injEq, List.not_mem_nil, or_false] at hm
    rcases hm with ⟨rfl, rfl⟩ | ⟨rfl, rfl⟩
    · refine ⟨100, two0, 2, .r_1 [⟨false, [0]⟩, ⟨false, [1]⟩, ⟨false, [2]⟩, ⟨false, [3]⟩, ⟨true, []⟩] [(0, ⟨0, 0, 0, 0, 0, 0, 0, 0⟩), (1, ⟨1, 0, 0, 0, 0, 0, 0, 0⟩), (2, ⟨1, 1, 0, 0, 0, 0, 0, 0⟩), (3, ⟨1, 0, 0, 0, 0, 0, 0, 0⟩), (4, ⟨0, 0, 0, 0, 0, 0, 0, 0⟩)] ⟨false, [0, 1, 2, 3, 4]⟩, rfl, by kernel_rfl, ?_, by kernel_rfl⟩
      exact ⟨by decide, by decide, by decide, by decide, by decide, by decide⟩
    · exact ⟨100, two0, 1, .r_2, rfl, by kernel_rfl, trivial, rfl⟩
theorem K2_ok (hmo : Try.prog.follows .mixedOrders = true) : PrimOk Try.prog 7 (memoP K2) := by
  rw [memo_prim]
  exact held_prim hmo fun args d h => K2_good h
theorem live13 : X2.RunsC 6 [] (dB true) := Sys.runC 40 fun k => by kernel_rfl
theorem live_prim (hmo : Try.prog.follows .mixedOrders = true) : PrimOk Try.prog 6 (memoP [([], dB true)]) := by
  have h : PrimOk X2.P 6 (memoP [([], dB true)]) := memo_ok (X := X2) hmo (fun f p hf => prims_of hmo (K2_ok hmo) noP_ok f p hf) (t := [([], dB true)]) (by intro x hx; simp only [List.mem_singleton] at hx; subst hx; exact live13)
  exact h
end Go.Proofs.Ytkfmoodaplelnaa
