/-
  Abs33: strings.IndexByte: what it says.
-/
import Derived.Test.YtilipgopjiokfaaGreatDoorAbs32
import Derived.Shelf.Small.Strs
set_option linter.unusedVariables false
set_option linter.unusedSimpArgs false
set_option linter.unusedSectionVars false
namespace Go.Abs
open Go

/-- strings.IndexByte. -/
def indexByteP (st : List Ob) : List DV → Option Out
  | [.c (.sc (.string s)), .c (.sc (.int .u8 c))] => some { d := dInt (Lib.indexByte s.data.toList c.toNat.toUInt8) }
  | _ => none
theorem indexByteP_eq (st : List Ob) (s : ByteArray) (c : Int) : indexByteP st [.c (.sc (.string s)), .c (.sc (.int .u8 c))] = some { d := dInt (Lib.indexByte s.data.toList c.toNat.toUInt8) } := rfl
theorem indexByteP_ways {st : List Ob} {args : List DV} {r : Out} (h : indexByteP st args = some r) : ∃ s c, args = [.c (.sc (.string s)), .c (.sc (.int .u8 c))] ∧ r = { d := dInt (Lib.indexByte s.data.toList c.toNat.toUInt8) } := by
  unfold indexByteP at h
  split at h
  · cases h; exact ⟨_, _, rfl, rfl⟩
  · cases h
theorem indexByte_ok [Gl] {P : Program} {f : FuncId} (hc : ∀ s c w, Calls P f #[.string s, .int .u8 c] w fun e w' => e = .returned (.int .i64 (Lib.indexByte s.data.toList c.toNat.toUInt8)) ∧ w' = w) : PrimOk P f indexByteP := by
  refine ⟨fun st args r h => ?_, fun st args r h id o ho => ?_, fun st st' args hs => rfl, fun m args r h Γ n0 PR e reg vs n st hres hns hr => ?_⟩
  · obtain ⟨s, c, rfl, rfl⟩ := indexByteP_ways h; rfl
  · obtain ⟨s, c, rfl, rfl⟩ := indexByteP_ways h; cases ho
  · obtain ⟨s, c, rfl, rfl⟩ := indexByteP_ways h
    cases hr with
    | cons hd hrs =>
      cases hrs with
      | cons hd2 hrs2 =>
        cases hrs2
        cases hd with
        | c h1 =>
          cases hd2 with
          | c h2 =>
            cases h1 with
            | sc h1 =>
              cases h2 with
              | sc h2 =>
                refine callsIn_wide.2 ((hc s c e.w).mono fun en w' ⟨he, hw⟩ => ?_)
                subst he; subst hw
                exact ⟨e, reg, rfl, st, hns, To.refl _ _ _ _, .c (.sc rfl)⟩
end Go.Abs
