/-
  Part of the proof: printed by the session's own program out of the program's form, or typed; it states no claim by itself.
-/
import Derived.Test.YtilipgopjiokfaaGreatDoorVa
/-
  Runs of closed values, found by the kernel, level by level: printed by the session's own tool.
-/
set_option linter.unusedVariables false
set_option linter.unusedSimpArgs false
set_option maxRecDepth 1000000
set_option maxHeartbeats 1000000
namespace Go.Proofs.YtilipgopjiokfaaGreatDoor
open Go Go.Abs Go.Proofs
theorem lv14_1_1 : X14_0.RunsC 212 ([.agg [.sl false true [eStr [97], .sl false true [eStr [110], cInt 2, cInt 0, cInt 0, cInt 5, cInt 0] 1, eNil, cInt 0] 1, .sl false true [eStr [114], .sc (.bool true), cInt 0, .sl false true [cInt 1, eStr [], eStr [], cInt 0, cInt 0, eStr [], eStr [], cInt 0, eNil, cInt 0, eNil, cInt 0] 1, cInt 0] 1], .sl false true [cInt 1, eStr [], eStr [], cInt 0, cInt 0, eStr [], eStr [], cInt 0, eNil, cInt 0, eNil, cInt 0] 1].map .c) (.tup [dInt 1, dInt 0]) := Sys.runC 40 fun k => by kernel_rfl
theorem lv14_1_2 : X14_0.RunsC 179 ([.agg [.sl false true [eStr [97], .sl false true [eStr [110], cInt 2, cInt 0, cInt 0, cInt 5, cInt 0] 1, eNil, cInt 0] 1, .sl false true [eStr [114], .sc (.bool true), cInt 0, .sl false true [cInt 1, eStr [], eStr [], cInt 0, cInt 0, eStr [], eStr [], cInt 0, eNil, cInt 0, eNil, cInt 0] 1, cInt 0] 1]].map .c) (.tup [dInt 0, dInt 0]) := Sys.runC 40 fun k => by kernel_rfl
def known14_1 : List (Nat × List CV × DV) := [(212, [.agg [.sl false true [eStr [97], .sl false true [eStr [110], cInt 2, cInt 0, cInt 0, cInt 5, cInt 0] 1, eNil, cInt 0] 1, .sl false true [eStr [114], .sc (.bool true), cInt 0, .sl false true [cInt 1, eStr [], eStr [], cInt 0, cInt 0, eStr [], eStr [], cInt 0, eNil, cInt 0, eNil, cInt 0] 1, cInt 0] 1], .sl false true [cInt 1, eStr [], eStr [], cInt 0, cInt 0, eStr [], eStr [], cInt 0, eNil, cInt 0, eNil, cInt 0] 1], .tup [dInt 1, dInt 0]), (179, [.agg [.sl false true [eStr [97], .sl false true [eStr [110], cInt 2, cInt 0, cInt 0, cInt 5, cInt 0] 1, eNil, cInt 0] 1, .sl false true [eStr [114], .sc (.bool true), cInt 0, .sl false true [cInt 1, eStr [], eStr [], cInt 0, cInt 0, eStr [], eStr [], cInt 0, eNil, cInt 0, eNil, cInt 0] 1, cInt 0] 1]], .tup [dInt 0, dInt 0])]
theorem known14_1_ok : Known X14_0 known14_1 := ⟨lv14_1_1, lv14_1_2, trivial⟩
noncomputable def X14_1 : Go.Abs.Sys := X14_0.more known14_1
end Go.Proofs.YtilipgopjiokfaaGreatDoor

/-
  Runs of closed values, found by the kernel, level by level: printed by the session's own tool.
-/
set_option linter.unusedVariables false
set_option linter.unusedSimpArgs false
set_option maxRecDepth 1000000
set_option maxHeartbeats 1000000
namespace Go.Proofs.YtilipgopjiokfaaGreatDoor
open Go Go.Abs Go.Proofs
theorem lv14_2_1 : X14_1.RunsC 140 ([.agg [.sl false true [eStr [97], .sl false true [eStr [110], cInt 2, cInt 0, cInt 0, cInt 5, cInt 0] 1, eNil, cInt 0] 1, .sl false true [eStr [114], .sc (.bool true), cInt 0, .sl false true [cInt 1, eStr [], eStr [], cInt 0, cInt 0, eStr [], eStr [], cInt 0, eNil, cInt 0, eNil, cInt 0] 1, cInt 0] 1]].map .c) (.tup [dInt 0, dInt 0]) := Sys.runC 40 fun k => by kernel_rfl
theorem lv14_2_2 : X14_1.RunsC 141 ([.agg [.sl false true [eStr [97], .sl false true [eStr [110], cInt 2, cInt 0, cInt 0, cInt 5, cInt 0] 1, eNil, cInt 0] 1, .sl false true [eStr [114], .sc (.bool true), cInt 0, .sl false true [cInt 1, eStr [], eStr [], cInt 0, cInt 0, eStr [], eStr [], cInt 0, eNil, cInt 0, eNil, cInt 0] 1, cInt 0] 1], .sl false true [cInt 1, eStr [], eStr [], cInt 0, cInt 0, eStr [], eStr [], cInt 0, eNil, cInt 0, eNil, cInt 0] 1].map .c) (.tup [.c (.agg [eStr [], .sc (.bool false), cInt 2, .sl false false [cInt 0, cInt 1, cInt 1, cInt 0, cInt 0, cInt 0, eStr [], eStr [], cInt 0, eNil, cInt 0, cInt 0, cInt 0, cInt 0, cInt 0] 1, eNil]), dInt 0]) := Sys.runC 40 fun k => by kernel_rfl
def known14_2 : List (Nat × List CV × DV) := [(140, [.agg [.sl false true [eStr [97], .sl false true [eStr [110], cInt 2, cInt 0, cInt 0, cInt 5, cInt 0] 1, eNil, cInt 0] 1, .sl false true [eStr [114], .sc (.bool true), cInt 0, .sl false true [cInt 1, eStr [], eStr [], cInt 0, cInt 0, eStr [], eStr [], cInt 0, eNil, cInt 0, eNil, cInt 0] 1, cInt 0] 1]], .tup [dInt 0, dInt 0]), (141, [.agg [.sl false true [eStr [97], .sl false true [eStr [110], cInt 2, cInt 0, cInt 0, cInt 5, cInt 0] 1, eNil, cInt 0] 1, .sl false true [eStr [114], .sc (.bool true), cInt 0, .sl false true [cInt 1, eStr [], eStr [], cInt 0, cInt 0, eStr [], eStr [], cInt 0, eNil, cInt 0, eNil, cInt 0] 1, cInt 0] 1], .sl false true [cInt 1, eStr [], eStr [], cInt 0, cInt 0, eStr [], eStr [], cInt 0, eNil, cInt 0, eNil, cInt 0] 1], .tup [.c (.agg [eStr [], .sc (.bool false), cInt 2, .sl false false [cInt 0, cInt 1, cInt 1, cInt 0, cInt 0, cInt 0, eStr [], eStr [], cInt 0, eNil, cInt 0, cInt 0, cInt 0, cInt 0, cInt 0] 1, eNil]), dInt 0])]
theorem known14_2_ok : Known X14_1 known14_2 := ⟨lv14_2_1, lv14_2_2, trivial⟩
noncomputable def X14_2 : Go.Abs.Sys := X14_1.more known14_2
end Go.Proofs.YtilipgopjiokfaaGreatDoor

/-
  Runs of closed values, found by the kernel, level by level: printed by the session's own tool.
-/
set_option linter.unusedVariables false
set_option linter.unusedSimpArgs false
set_option maxRecDepth 1000000
set_option maxHeartbeats 1000000
namespace Go.Proofs.YtilipgopjiokfaaGreatDoor
open Go Go.Abs Go.Proofs
theorem lv14_3_1 : X14_2.RunsC 93 ([.agg [.sl false true [eStr [97], .sl false true [eStr [110], cInt 2, cInt 0, cInt 0, cInt 5, cInt 0] 1, eNil, cInt 0] 1, .sl false true [eStr [114], .sc (.bool true), cInt 0, .sl false true [cInt 1, eStr [], eStr [], cInt 0, cInt 0, eStr [], eStr [], cInt 0, eNil, cInt 0, eNil, cInt 0] 1, cInt 0] 1]].map .c) (.tup [.c (.sl false false [eStr [114], .sc (.bool true), cInt 2, .sl false false [cInt 0, cInt 1, cInt 1, cInt 0, cInt 0, cInt 0, eStr [], eStr [], cInt 0, eNil, cInt 0, cInt 0, cInt 0, cInt 0, cInt 0] 1, eNil] 1), dInt 0, dInt 0]) := Sys.runC 40 fun k => by kernel_rfl
def known14_3 : List (Nat × List CV × DV) := [(93, [.agg [.sl false true [eStr [97], .sl false true [eStr [110], cInt 2, cInt 0, cInt 0, cInt 5, cInt 0] 1, eNil, cInt 0] 1, .sl false true [eStr [114], .sc (.bool true), cInt 0, .sl false true [cInt 1, eStr [], eStr [], cInt 0, cInt 0, eStr [], eStr [], cInt 0, eNil, cInt 0, eNil, cInt 0] 1, cInt 0] 1]], .tup [.c (.sl false false [eStr [114], .sc (.bool true), cInt 2, .sl false false [cInt 0, cInt 1, cInt 1, cInt 0, cInt 0, cInt 0, eStr [], eStr [], cInt 0, eNil, cInt 0, cInt 0, cInt 0, cInt 0, cInt 0] 1, eNil] 1), dInt 0, dInt 0])]
theorem known14_3_ok : Known X14_2 known14_3 := ⟨lv14_3_1, trivial⟩
noncomputable def X14_3 : Go.Abs.Sys := X14_2.more known14_3
end Go.Proofs.YtilipgopjiokfaaGreatDoor

/-
  Runs of closed values, found by the kernel, level by level: printed by the session's own tool.
-/
set_option linter.unusedVariables false
set_option linter.unusedSimpArgs false
set_option maxRecDepth 1000000
set_option maxHeartbeats 1000000
namespace Go.Proofs.YtilipgopjiokfaaGreatDoor
open Go Go.Abs Go.Proofs
theorem live14 : X14_3.RunsC 22 [] (dB true) := Sys.runC 40 fun k => by kernel_rfl
/-- The statement's first line, taken as a step. -/
theorem live14_known [Gl] (hp : ∀ f p, prims0 f = some p → PrimOk Tryz.prog f p) (hm : Tryz.prog.follows .mixedOrders = true) : PrimOk Tryz.prog 22 (memoP [([], dB true)]) :=
  memo_ok (X := X14_3) hm (more_ok (X := X14_2) hm (more_ok (X := X14_1) hm (more_ok (X := X14_0) hm (more_ok (X := X0) hm hp known14_0_ok) known14_1_ok) known14_2_ok) known14_3_ok) (t := [([], dB true)]) (by intro x hx; simp only [List.mem_singleton] at hx; subst hx; exact live14)
end Go.Proofs.YtilipgopjiokfaaGreatDoor
