/-
  Part of the proof: printed by the session's own program out of the program's form, or typed; it states no claim by itself.
-/
import Derived.Test.YtkfmoodaplelnaaFb
/-
  Functions of the program as Lean functions, and that the interpreter comes to the same: printed by the session's own tool.
-/
set_option linter.unusedVariables false
set_option linter.unusedSimpArgs false
set_option maxRecDepth 100000
set_option maxHeartbeats 1000000
namespace Go.Proofs.Ytkfmoodaplelnaa
open Go Go.Abs Go.Proofs
variable [Kn]
def held_isShaped_1_1_c1 (o0_0 : ByteArray) (o0_1 : Bool) (o0_2 : Int) (o0_3 : Sl GEdge) (o0_4 : Sl GGuard) : List DV := [.c (.sc (.string o0_0)), dB o0_1, dInt o0_2, .c (eSl o0_3), .c (eSl o0_4)]
def held_isShaped_1_1 (n : Nat) (p0 : Int) (o0_0 : ByteArray) (o0_1 : Bool) (o0_2 : Int) (o0_3 : Sl GEdge) (o0_4 : Sl GGuard) : Option Bool :=
  if p0 ≥ 0 then
    if p0 < o0_2 then
      some true
    else some false
  else some false
theorem held_isShaped_1_1_ok {n : Nat} {p0 : Int} {o0_0 : ByteArray} {o0_1 : Bool} {o0_2 : Int} {o0_3 : Sl GEdge} {o0_4 : Sl GGuard} {r : Bool} (h : held_isShaped_1_1 n p0 o0_0 o0_1 o0_2 o0_3 o0_4 = some r) : X.RunsL 40 [dInt p0, .pt 0 1 0] [⟨1, (held_isShaped_1_1_c1 o0_0 o0_1 o0_2 o0_3 o0_4)⟩] (dB r) [⟨1, (held_isShaped_1_1_c1 o0_0 o0_1 o0_2 o0_3 o0_4)⟩] := by
  unfold held_isShaped_1_1 at h
  refine Sys.callL' (fn := Try.f40) (b := b40) (by kernel_rfl) (by kernel_rfl) rfl ?_
  by_cases h2 : p0 ≥ 0
  · replace h := iteT h2 h
    by_cases h3 : p0 < o0_2
    · replace h := iteT h3 h
      have hr := Option.some.inj h
      subst hr
      refine Sys.to [((1, 1), .b true), ((1, 6), .b true)] 999999 (.fin .ret) ⟨fl [(3, dB true)], ⟨[⟨1, (held_isShaped_1_1_c1 o0_0 o0_1 o0_2 o0_3 o0_4)⟩], []⟩⟩ (And.intro (h2) (h3)) (by kernel_rfl) ?_
      exact Sys.fin ⟨rfl, (dB true), (by kernel_rfl), endL_below rfl (AllB.cons rfl (AllB.nil 1)) rfl rfl⟩
    · replace h := iteF h3 h
      have hr := Option.some.inj h
      subst hr
      refine Sys.to [((1, 1), .b true), ((1, 6), .b false)] 999999 (.fin .ret) ⟨fl [(3, dB false)], ⟨[⟨1, (held_isShaped_1_1_c1 o0_0 o0_1 o0_2 o0_3 o0_4)⟩], []⟩⟩ (And.intro (h2) (h3)) (by kernel_rfl) ?_
      exact Sys.fin ⟨rfl, (dB false), (by kernel_rfl), endL_below rfl (AllB.cons rfl (AllB.nil 1)) rfl rfl⟩
  · replace h := iteF h2 h
    have hr := Option.some.inj h
    subst hr
    refine Sys.to [((1, 1), .b false)] 999999 (.fin .ret) ⟨fl [(3, dB false)], ⟨[⟨1, (held_isShaped_1_1_c1 o0_0 o0_1 o0_2 o0_3 o0_4)⟩], []⟩⟩ (h2) (by kernel_rfl) ?_
    exact Sys.fin ⟨rfl, (dB false), (by kernel_rfl), endL_below rfl (AllB.cons rfl (AllB.nil 1)) rfl rfl⟩
def held_isShaped_1_c1 (o0_0 : ByteArray) (o0_1 : Bool) (o0_2 : Int) (o0_3 : Sl GEdge) (o0_4 : Sl GGuard) : List DV := [.c (.sc (.string o0_0)), dB o0_1, dInt o0_2, .c (eSl o0_3), .c (eSl o0_4)]
def held_isShaped_1 (n : Nat) (p0 : GEdge) (o0_0 : ByteArray) (o0_1 : Bool) (o0_2 : Int) (o0_3 : Sl GEdge) (o0_4 : Sl GGuard) (o1_0 : Int) : Option Bool :=
  if p0.kind ≥ 4 then
    if p0.kind ≤ 8 then
      (held_isShaped_1_1 n p0.from_ o0_0 o0_1 o0_2 o0_3 o0_4).bind fun x =>
      bif x then
        (held_isShaped_1_1 n p0.to_ o0_0 o0_1 o0_2 o0_3 o0_4).bind fun x_2 =>
        bif x_2 then
          if p0.mon < 0 then
            some true
          else if p0.mon ≥ o1_0 then
            some true
          else some false
        else some true
      else some true
    else (held_isShaped_1_1 n p0.from_ o0_0 o0_1 o0_2 o0_3 o0_4).bind fun x_3 =>
    bif x_3 then
      (held_isShaped_1_1 n p0.to_ o0_0 o0_1 o0_2 o0_3 o0_4).bind fun x_4 =>
      bif x_4 then
        some false
      else some true
    else some true
  else (held_isShaped_1_1 n p0.from_ o0_0 o0_1 o0_2 o0_3 o0_4).bind fun x_5 =>
  bif x_5 then
    (held_isShaped_1_1 n p0.to_ o0_0 o0_1 o0_2 o0_3 o0_4).bind fun x_6 =>
    bif x_6 then
      some false
    else some true
  else some true
theorem held_isShaped_1_ok {n : Nat} {p0 : GEdge} {o0_0 : ByteArray} {o0_1 : Bool} {o0_2 : Int} {o0_3 : Sl GEdge} {o0_4 : Sl GGuard} {o1_0 : Int} {r : Bool} (h : held_isShaped_1 n p0 o0_0 o0_1 o0_2 o0_3 o0_4 o1_0 = some r) : X.RunsL 39 [.c (.agg (EncX.encX p0)), .pt 0 1 0, .pt 1 1 0] [⟨1, (held_isShaped_1_c1 o0_0 o0_1 o0_2 o0_3 o0_4)⟩, ⟨1, [dInt o1_0]⟩] (dB r) [⟨1, (held_isShaped_1_c1 o0_0 o0_1 o0_2 o0_3 o0_4)⟩, ⟨1, [dInt o1_0]⟩] := by
  unfold held_isShaped_1 at h
  refine Sys.callL' (fn := Try.f39) (b := b39) (by kernel_rfl) (by kernel_rfl) rfl ?_
  by_cases h3 : p0.kind ≥ 4
  · replace h := iteT h3 h
    by_cases h4 : p0.kind ≤ 8
    · replace h := iteT h4 h
      obtain ⟨x, g6, h⟩ := bindE h
      have h6 := held_isShaped_1_1_ok g6
      refine Sys.to [((2, 2), .b true), ((2, 6), .b true)] 3 (.at [1, 1, 1, 0]) ⟨fl [(2, .pt 1 1 0), (3, .pt 2 1 0), (5, .fn 40 [] [.pt 0 1 0]), (6, dB true)], ⟨[⟨1, (held_isShaped_1_c1 o0_0 o0_1 o0_2 o0_3 o0_4)⟩, ⟨1, [dInt o1_0]⟩, ⟨1, (EncX.encX p0).map DV.c⟩], []⟩⟩ (And.intro (h3) (h4)) (by kernel_rfl) ?_
      cases x with
      | true =>
        replace h := condT h
        obtain ⟨x_2, g8, h⟩ := bindE h
        have h8 := held_isShaped_1_1_ok g8
        cases x_2 with
        | true =>
          replace h := condT h
          by_cases h10 : p0.mon < 0
          · replace h := iteT h10 h
            have hr := Option.some.inj h
            subst hr
            refine Sys.to [((3, 3), .callL [dInt p0.from_, .pt 0 1 0] [⟨1, (held_isShaped_1_c1 o0_0 o0_1 o0_2 o0_3 o0_4)⟩] (dB true) [⟨1, (held_isShaped_1_c1 o0_0 o0_1 o0_2 o0_3 o0_4)⟩] (dB true) [⟨1, (held_isShaped_1_c1 o0_0 o0_1 o0_2 o0_3 o0_4)⟩, ⟨1, [dInt o1_0]⟩, ⟨1, (EncX.encX p0).map DV.c⟩]), ((3, 9), .callL [dInt p0.to_, .pt 0 1 0] [⟨1, (held_isShaped_1_c1 o0_0 o0_1 o0_2 o0_3 o0_4)⟩] (dB true) [⟨1, (held_isShaped_1_c1 o0_0 o0_1 o0_2 o0_3 o0_4)⟩] (dB true) [⟨1, (held_isShaped_1_c1 o0_0 o0_1 o0_2 o0_3 o0_4)⟩, ⟨1, [dInt o1_0]⟩, ⟨1, (EncX.encX p0).map DV.c⟩]), ((3, 17), .b true)] 999999 (.fin .ret) ⟨fl [(4, dB true)], ⟨[⟨1, (held_isShaped_1_c1 o0_0 o0_1 o0_2 o0_3 o0_4)⟩, ⟨1, [dInt o1_0]⟩, ⟨1, (EncX.encX p0).map DV.c⟩], []⟩⟩ (And.intro (And.intro (rfl : nodupB [0] = true) (And.intro (locS_cons (all := [0]) (st := [⟨1, (held_isShaped_1_c1 o0_0 o0_1 o0_2 o0_3 o0_4)⟩, ⟨1, [dInt o1_0]⟩, ⟨1, (EncX.encX p0).map DV.c⟩]) (id := 0) (ids := []) (ver := 0) (cs := (held_isShaped_1_c1 o0_0 o0_1 o0_2 o0_3 o0_4)) (cs' := (held_isShaped_1_c1 o0_0 o0_1 o0_2 o0_3 o0_4)) rfl ((by kernel_rfl : locL [0] [⟨1, (held_isShaped_1_c1 o0_0 o0_1 o0_2 o0_3 o0_4)⟩, ⟨1, [dInt o1_0]⟩, ⟨1, (EncX.encX p0).map DV.c⟩] (held_isShaped_1_c1 o0_0 o0_1 o0_2 o0_3 o0_4) = some (held_isShaped_1_c1 o0_0 o0_1 o0_2 o0_3 o0_4))) (locS_nil _ _)) (by kernel_rfl : locL [0] [⟨1, (held_isShaped_1_c1 o0_0 o0_1 o0_2 o0_3 o0_4)⟩, ⟨1, [dInt o1_0]⟩, ⟨1, (EncX.encX p0).map DV.c⟩] [dInt p0.from_, .pt 0 1 0] = some [dInt p0.from_, .pt 0 1 0]))) (And.intro (h6) (And.intro (And.intro (by kernel_rfl : bkD [0] [1] (dB true) = some (dB true)) (putBack_cons (sel := [0]) (vs := [1]) (id := 0) (v := 1) (ver := 1) (ids := []) (ws := []) (cs := (held_isShaped_1_c1 o0_0 o0_1 o0_2 o0_3 o0_4)) (cs' := (held_isShaped_1_c1 o0_0 o0_1 o0_2 o0_3 o0_4)) (st := [⟨1, (held_isShaped_1_c1 o0_0 o0_1 o0_2 o0_3 o0_4)⟩, ⟨1, [dInt o1_0]⟩, ⟨1, (EncX.encX p0).map DV.c⟩]) (st' := [⟨1, (held_isShaped_1_c1 o0_0 o0_1 o0_2 o0_3 o0_4)⟩, ⟨1, [dInt o1_0]⟩, ⟨1, (EncX.encX p0).map DV.c⟩]) ((by kernel_rfl : bkL [0] [1] (held_isShaped_1_c1 o0_0 o0_1 o0_2 o0_3 o0_4) = some (held_isShaped_1_c1 o0_0 o0_1 o0_2 o0_3 o0_4))) rfl (putBack_nil _ _ [] _))) (And.intro (And.intro (rfl : nodupB [0] = true) (And.intro (locS_cons (all := [0]) (st := [⟨1, (held_isShaped_1_c1 o0_0 o0_1 o0_2 o0_3 o0_4)⟩, ⟨1, [dInt o1_0]⟩, ⟨1, (EncX.encX p0).map DV.c⟩]) (id := 0) (ids := []) (ver := 0) (cs := (held_isShaped_1_c1 o0_0 o0_1 o0_2 o0_3 o0_4)) (cs' := (held_isShaped_1_c1 o0_0 o0_1 o0_2 o0_3 o0_4)) rfl ((by kernel_rfl : locL [0] [⟨1, (held_isShaped_1_c1 o0_0 o0_1 o0_2 o0_3 o0_4)⟩, ⟨1, [dInt o1_0]⟩, ⟨1, (EncX.encX p0).map DV.c⟩] (held_isShaped_1_c1 o0_0 o0_1 o0_2 o0_3 o0_4) = some (held_isShaped_1_c1 o0_0 o0_1 o0_2 o0_3 o0_4))) (locS_nil _ _)) (by kernel_rfl : locL [0] [⟨1, (held_isShaped_1_c1 o0_0 o0_1 o0_2 o0_3 o0_4)⟩, ⟨1, [dInt o1_0]⟩, ⟨1, (EncX.encX p0).map DV.c⟩] [dInt p0.to_, .pt 0 1 0] = some [dInt p0.to_, .pt 0 1 0]))) (And.intro (h8) (And.intro (And.intro (by kernel_rfl : bkD [0] [1] (dB true) = some (dB true)) (putBack_cons (sel := [0]) (vs := [1]) (id := 0) (v := 1) (ver := 1) (ids := []) (ws := []) (cs := (held_isShaped_1_c1 o0_0 o0_1 o0_2 o0_3 o0_4)) (cs' := (held_isShaped_1_c1 o0_0 o0_1 o0_2 o0_3 o0_4)) (st := [⟨1, (held_isShaped_1_c1 o0_0 o0_1 o0_2 o0_3 o0_4)⟩, ⟨1, [dInt o1_0]⟩, ⟨1, (EncX.encX p0).map DV.c⟩]) (st' := [⟨1, (held_isShaped_1_c1 o0_0 o0_1 o0_2 o0_3 o0_4)⟩, ⟨1, [dInt o1_0]⟩, ⟨1, (EncX.encX p0).map DV.c⟩]) ((by kernel_rfl : bkL [0] [1] (held_isShaped_1_c1 o0_0 o0_1 o0_2 o0_3 o0_4) = some (held_isShaped_1_c1 o0_0 o0_1 o0_2 o0_3 o0_4))) rfl (putBack_nil _ _ [] _))) (h10))))))) (by kernel_rfl) ?_
            exact Sys.fin ⟨rfl, (dB true), (by kernel_rfl), endL_below rfl (AllB.cons rfl (AllB.cons rfl (AllB.nil 2))) rfl rfl⟩
          · replace h := iteF h10 h
            by_cases h11 : p0.mon ≥ o1_0
            · replace h := iteT h11 h
              have hr := Option.some.inj h
              subst hr
              refine Sys.to [((3, 3), .callL [dInt p0.from_, .pt 0 1 0] [⟨1, (held_isShaped_1_c1 o0_0 o0_1 o0_2 o0_3 o0_4)⟩] (dB true) [⟨1, (held_isShaped_1_c1 o0_0 o0_1 o0_2 o0_3 o0_4)⟩] (dB true) [⟨1, (held_isShaped_1_c1 o0_0 o0_1 o0_2 o0_3 o0_4)⟩, ⟨1, [dInt o1_0]⟩, ⟨1, (EncX.encX p0).map DV.c⟩]), ((3, 9), .callL [dInt p0.to_, .pt 0 1 0] [⟨1, (held_isShaped_1_c1 o0_0 o0_1 o0_2 o0_3 o0_4)⟩] (dB true) [⟨1, (held_isShaped_1_c1 o0_0 o0_1 o0_2 o0_3 o0_4)⟩] (dB true) [⟨1, (held_isShaped_1_c1 o0_0 o0_1 o0_2 o0_3 o0_4)⟩, ⟨1, [dInt o1_0]⟩, ⟨1, (EncX.encX p0).map DV.c⟩]), ((3, 17), .b false), ((3, 22), .b true)] 999999 (.fin .ret) ⟨fl [(4, dB true)], ⟨[⟨1, (held_isShaped_1_c1 o0_0 o0_1 o0_2 o0_3 o0_4)⟩, ⟨1, [dInt o1_0]⟩, ⟨1, (EncX.encX p0).map DV.c⟩], []⟩⟩ (And.intro (And.intro (rfl : nodupB [0] = true) (And.intro (locS_cons (all := [0]) (st := [⟨1, (held_isShaped_1_c1 o0_0 o0_1 o0_2 o0_3 o0_4)⟩, ⟨1, [dInt o1_0]⟩, ⟨1, (EncX.encX p0).map DV.c⟩]) (id := 0) (ids := []) (ver := 0) (cs := (held_isShaped_1_c1 o0_0 o0_1 o0_2 o0_3 o0_4)) (cs' := (held_isShaped_1_c1 o0_0 o0_1 o0_2 o0_3 o0_4)) rfl ((by kernel_rfl : locL [0] [⟨1, (held_isShaped_1_c1 o0_0 o0_1 o0_2 o0_3 o0_4)⟩, ⟨1, [dInt o1_0]⟩, ⟨1, (EncX.encX p0).map DV.c⟩] (held_isShaped_1_c1 o0_0 o0_1 o0_2 o0_3 o0_4) = some (held_isShaped_1_c1 o0_0 o0_1 o0_2 o0_3 o0_4))) (locS_nil _ _)) (by kernel_rfl : locL [0] [⟨1, (held_isShaped_1_c1 o0_0 o0_1 o0_2 o0_3 o0_4)⟩, ⟨1, [dInt o1_0]⟩, ⟨1, (EncX.encX p0).map DV.c⟩] [dInt p0.from_, .pt 0 1 0] = some [dInt p0.from_, .pt 0 1 0]))) (And.intro (h6) (And.intro (And.intro (by kernel_rfl : bkD [0] [1] (dB true) = some (dB true)) (putBack_cons (sel := [0]) (vs := [1]) (id := 0) (v := 1) (ver := 1) (ids := []) (ws := []) (cs := (held_isShaped_1_c1 o0_0 o0_1 o0_2 o0_3 o0_4)) (cs' := (held_isShaped_1_c1 o0_0 o0_1 o0_2 o0_3 o0_4)) (st := [⟨1, (held_isShaped_1_c1 o0_0 o0_1 o0_2 o0_3 o0_4)⟩, ⟨1, [dInt o1_0]⟩, ⟨1, (EncX.encX p0).map DV.c⟩]) (st' := [⟨1, (held_isShaped_1_c1 o0_0 o0_1 o0_2 o0_3 o0_4)⟩, ⟨1, [dInt o1_0]⟩, ⟨1, (EncX.encX p0).map DV.c⟩]) ((by kernel_rfl : bkL [0] [1] (held_isShaped_1_c1 o0_0 o0_1 o0_2 o0_3 o0_4) = some (held_isShaped_1_c1 o0_0 o0_1 o0_2 o0_3 o0_4))) rfl (putBack_nil _ _ [] _))) (And.intro (And.intro (rfl : nodupB [0] = true) (And.intro (locS_cons (all := [0]) (st := [⟨1, (held_isShaped_1_c1 o0_0 o0_1 o0_2 o0_3 o0_4)⟩, ⟨1, [dInt o1_0]⟩, ⟨1, (EncX.encX p0).map DV.c⟩]) (id := 0) (ids := []) (ver := 0) (cs := (held_isShaped_1_c1 o0_0 o0_1 o0_2 o0_3 o0_4)) (cs' := (held_isShaped_1_c1 o0_0 o0_1 o0_2 o0_3 o0_4)) rfl ((by kernel_rfl : locL [0] [⟨1, (held_isShaped_1_c1 o0_0 o0_1 o0_2 o0_3 o0_4)⟩, ⟨1, [dInt o1_0]⟩, ⟨1, (EncX.encX p0).map DV.c⟩] (held_isShaped_1_c1 o0_0 o0_1 o0_2 o0_3 o0_4) = some (held_isShaped_1_c1 o0_0 o0_1 o0_2 o0_3 o0_4))) (locS_nil _ _)) (by kernel_rfl : locL [0] [⟨1, (held_isShaped_1_c1 o0_0 o0_1 o0_2 o0_3 o0_4)⟩, ⟨1, [dInt o1_0]⟩, ⟨1, (EncX.encX p0).map DV.c⟩] [dInt p0.to_, .pt 0 1 0] = some [dInt p0.to_, .pt 0 1 0]))) (And.intro (h8) (And.intro (And.intro (by kernel_rfl : bkD [0] [1] (dB true) = some (dB true)) (putBack_cons (sel := [0]) (vs := [1]) (id := 0) (v := 1) (ver := 1) (ids := []) (ws := []) (cs := (held_isShaped_1_c1 o0_0 o0_1 o0_2 o0_3 o0_4)) (cs' := (held_isShaped_1_c1 o0_0 o0_1 o0_2 o0_3 o0_4)) (st := [⟨1, (held_isShaped_1_c1 o0_0 o0_1 o0_2 o0_3 o0_4)⟩, ⟨1, [dInt o1_0]⟩, ⟨1, (EncX.encX p0).map DV.c⟩]) (st' := [⟨1, (held_isShaped_1_c1 o0_0 o0_1 o0_2 o0_3 o0_4)⟩, ⟨1, [dInt o1_0]⟩, ⟨1, (EncX.encX p0).map DV.c⟩]) ((by kernel_rfl : bkL [0] [1] (held_isShaped_1_c1 o0_0 o0_1 o0_2 o0_3 o0_4) = some (held_isShaped_1_c1 o0_0 o0_1 o0_2 o0_3 o0_4))) rfl (putBack_nil _ _ [] _))) (And.intro (h10) (h11)))))))) (by kernel_rfl) ?_
              exact Sys.fin ⟨rfl, (dB true), (by kernel_rfl), endL_below rfl (AllB.cons rfl (AllB.cons rfl (AllB.nil 2))) rfl rfl⟩
            · replace h := iteF h11 h
              have hr := Option.some.inj h
              subst hr
              refine Sys.to [((3, 3), .callL [dInt p0.from_, .pt 0 1 0] [⟨1, (held_isShaped_1_c1 o0_0 o0_1 o0_2 o0_3 o0_4)⟩] (dB true) [⟨1, (held_isShaped_1_c1 o0_0 o0_1 o0_2 o0_3 o0_4)⟩] (dB true) [⟨1, (held_isShaped_1_c1 o0_0 o0_1 o0_2 o0_3 o0_4)⟩, ⟨1, [dInt o1_0]⟩, ⟨1, (EncX.encX p0).map DV.c⟩]), ((3, 9), .callL [dInt p0.to_, .pt 0 1 0] [⟨1, (held_isShaped_1_c1 o0_0 o0_1 o0_2 o0_3 o0_4)⟩] (dB true) [⟨1, (held_isShaped_1_c1 o0_0 o0_1 o0_2 o0_3 o0_4)⟩] (dB true) [⟨1, (held_isShaped_1_c1 o0_0 o0_1 o0_2 o0_3 o0_4)⟩, ⟨1, [dInt o1_0]⟩, ⟨1, (EncX.encX p0).map DV.c⟩]), ((3, 17), .b false), ((3, 22), .b false)] 999999 (.fin .ret) ⟨fl [(4, dB false)], ⟨[⟨1, (held_isShaped_1_c1 o0_0 o0_1 o0_2 o0_3 o0_4)⟩, ⟨1, [dInt o1_0]⟩, ⟨1, (EncX.encX p0).map DV.c⟩], []⟩⟩ (And.intro (And.intro (rfl : nodupB [0] = true) (And.intro (locS_cons (all := [0]) (st := [⟨1, (held_isShaped_1_c1 o0_0 o0_1 o0_2 o0_3 o0_4)⟩, ⟨1, [dInt o1_0]⟩, ⟨1, (EncX.encX p0).map DV.c⟩]) (id := 0) (ids := []) (ver := 0) (cs := (held_isShaped_1_c1 o0_0 o0_1 o0_2 o0_3 o0_4)) (cs' := (held_isShaped_1_c1 o0_0 o0_1 o0_2 o0_3 o0_4)) rfl ((by kernel_rfl : locL [0] [⟨1, (held_isShaped_1_c1 o0_0 o0_1 o0_2 o0_3 o0_4)⟩, ⟨1, [dInt o1_0]⟩, ⟨1, (EncX.encX p0).map DV.c⟩] (held_isShaped_1_c1 o0_0 o0_1 o0_2 o0_3 o0_4) = some (held_isShaped_1_c1 o0_0 o0_1 o0_2 o0_3 o0_4))) (locS_nil _ _)) (by kernel_rfl : locL [0] [⟨1, (held_isShaped_1_c1 o0_0 o0_1 o0_2 o0_3 o0_4)⟩, ⟨1, [dInt o1_0]⟩, ⟨1, (EncX.encX p0).map DV.c⟩] [dInt p0.from_, .pt 0 1 0] = some [dInt p0.from_, .pt 0 1 0]))) (And.intro (h6) (And.intro (And.intro (by kernel_rfl : bkD [0] [1] (dB true) = some (dB true)) (putBack_cons (sel := [0]) (vs := [1]) (id := 0) (v := 1) (ver := 1) (ids := []) (ws := []) (cs := (held_isShaped_1_c1 o0_0 o0_1 o0_2 o0_3 o0_4)) (cs' := (held_isShaped_1_c1 o0_0 o0_1 o0_2 o0_3 o0_4)) (st := [⟨1, (held_isShaped_1_c1 o0_0 o0_1 o0_2 o0_3 o0_4)⟩, ⟨1, [dInt o1_0]⟩, ⟨1, (EncX.encX p0).map DV.c⟩]) (st' := [⟨1, (held_isShaped_1_c1 o0_0 o0_1 o0_2 o0_3 o0_4)⟩, ⟨1, [dInt o1_0]⟩, ⟨1, (EncX.encX p0).map DV.c⟩]) ((by kernel_rfl : bkL [0] [1] (held_isShaped_1_c1 o0_0 o0_1 o0_2 o0_3 o0_4) = some (held_isShaped_1_c1 o0_0 o0_1 o0_2 o0_3 o0_4))) rfl (putBack_nil _ _ [] _))) (And.intro (And.intro (rfl : nodupB [0] = true) (And.intro (locS_cons (all := [0]) (st := [⟨1, (held_isShaped_1_c1 o0_0 o0_1 o0_2 o0_3 o0_4)⟩, ⟨1, [dInt o1_0]⟩, ⟨1, (EncX.encX p0).map DV.c⟩]) (id := 0) (ids := []) (ver := 0) (cs := (held_isShaped_1_c1 o0_0 o0_1 o0_2 o0_3 o0_4)) (cs' := (held_isShaped_1_c1 o0_0 o0_1 o0_2 o0_3 o0_4)) rfl ((by kernel_rfl : locL [0] [⟨1, (held_isShaped_1_c1 o0_0 o0_1 o0_2 o0_3 o0_4)⟩, ⟨1, [dInt o1_0]⟩, ⟨1, (EncX.encX p0).map DV.c⟩] (held_isShaped_1_c1 o0_0 o0_1 o0_2 o0_3 o0_4) = some (held_isShaped_1_c1 o0_0 o0_1 o0_2 o0_3 o0_4))) (locS_nil _ _)) (by kernel_rfl : locL [0] [⟨1, (held_isShaped_1_c1 o0_0 o0_1 o0_2 o0_3 o0_4)⟩, ⟨1, [dInt o1_0]⟩, ⟨1, (EncX.encX p0).map DV.c⟩] [dInt p0.to_, .pt 0 1 0] = some [dInt p0.to_, .pt 0 1 0]))) (And.intro (h8) (And.intro (And.intro (by kernel_rfl : bkD [0] [1] (dB true) = some (dB true)) (putBack_cons (sel := [0]) (vs := [1]) (id := 0) (v := 1) (ver := 1) (ids := []) (ws := []) (cs := (held_isShaped_1_c1 o0_0 o0_1 o0_2 o0_3 o0_4)) (cs' := (held_isShaped_1_c1 o0_0 o0_1 o0_2 o0_3 o0_4)) (st := [⟨1, (held_isShaped_1_c1 o0_0 o0_1 o0_2 o0_3 o0_4)⟩, ⟨1, [dInt o1_0]⟩, ⟨1, (EncX.encX p0).map DV.c⟩]) (st' := [⟨1, (held_isShaped_1_c1 o0_0 o0_1 o0_2 o0_3 o0_4)⟩, ⟨1, [dInt o1_0]⟩, ⟨1, (EncX.encX p0).map DV.c⟩]) ((by kernel_rfl : bkL [0] [1] (held_isShaped_1_c1 o0_0 o0_1 o0_2 o0_3 o0_4) = some (held_isShaped_1_c1 o0_0 o0_1 o0_2 o0_3 o0_4))) rfl (putBack_nil _ _ [] _))) (And.intro (h10) (h11)))))))) (by kernel_rfl) ?_
              exact Sys.fin ⟨rfl, (dB false), (by kernel_rfl), endL_below rfl (AllB.cons rfl (AllB.cons rfl (AllB.nil 2))) rfl rfl⟩
        | false =>
          replace h := condF h
          have hr := Option.some.inj h
          subst hr
          refine Sys.to [((3, 3), .callL [dInt p0.from_, .pt 0 1 0] [⟨1, (held_isShaped_1_c1 o0_0 o0_1 o0_2 o0_3 o0_4)⟩] (dB true) [⟨1, (held_isShaped_1_c1 o0_0 o0_1 o0_2 o0_3 o0_4)⟩] (dB true) [⟨1, (held_isShaped_1_c1 o0_0 o0_1 o0_2 o0_3 o0_4)⟩, ⟨1, [dInt o1_0]⟩, ⟨1, (EncX.encX p0).map DV.c⟩]), ((3, 9), .callL [dInt p0.to_, .pt 0 1 0] [⟨1, (held_isShaped_1_c1 o0_0 o0_1 o0_2 o0_3 o0_4)⟩] (dB false) [⟨1, (held_isShaped_1_c1 o0_0 o0_1 o0_2 o0_3 o0_4)⟩] (dB false) [⟨1, (held_isShaped_1_c1 o0_0 o0_1 o0_2 o0_3 o0_4)⟩, ⟨1, [dInt o1_0]⟩, ⟨1, (EncX.encX p0).map DV.c⟩])] 999999 (.fin .ret) ⟨fl [(4, dB true)], ⟨[⟨1, (held_isShaped_1_c1 o0_0 o0_1 o0_2 o0_3 o0_4)⟩, ⟨1, [dInt o1_0]⟩, ⟨1, (EncX.encX p0).map DV.c⟩], []⟩⟩ (And.intro (And.intro (rfl : nodupB [0] = true) (And.intro (locS_cons (all := [0]) (st := [⟨1, (held_isShaped_1_c1 o0_0 o0_1 o0_2 o0_3 o0_4)⟩, ⟨1, [dInt o1_0]⟩, ⟨1, (EncX.encX p0).map DV.c⟩]) (id := 0) (ids := []) (ver := 0) (cs := (held_isShaped_1_c1 o0_0 o0_1 o0_2 o0_3 o0_4)) (cs' := (held_isShaped_1_c1 o0_0 o0_1 o0_2 o0_3 o0_4)) rfl ((by kernel_rfl : locL [0] [⟨1, (held_isShaped_1_c1 o0_0 o0_1 o0_2 o0_3 o0_4)⟩, ⟨1, [dInt o1_0]⟩, ⟨1, (EncX.encX p0).map DV.c⟩] (held_isShaped_1_c1 o0_0 o0_1 o0_2 o0_3 o0_4) = some (held_isShaped_1_c1 o0_0 o0_1 o0_2 o0_3 o0_4))) (locS_nil _ _)) (by kernel_rfl : locL [0] [⟨1, (held_isShaped_1_c1 o0_0 o0_1 o0_2 o0_3 o0_4)⟩, ⟨1, [dInt o1_0]⟩, ⟨1, (EncX.encX p0).map DV.c⟩] [dInt p0.from_, .pt 0 1 0] = some [dInt p0.from_, .pt 0 1 0]))) (And.intro (h6) (And.intro (And.intro (by kernel_rfl : bkD [0] [1] (dB true) = some (dB true)) (putBack_cons (sel := [0]) (vs := [1]) (id := 0) (v := 1) (ver := 1) (ids := []) (ws := []) (cs := (held_isShaped_1_c1 o0_0 o0_1 o0_2 o0_3 o0_4)) (cs' := (held_isShaped_1_c1 o0_0 o0_1 o0_2 o0_3 o0_4)) (st := [⟨1, (held_isShaped_1_c1 o0_0 o0_1 o0_2 o0_3 o0_4)⟩, ⟨1, [dInt o1_0]⟩, ⟨1, (EncX.encX p0).map DV.c⟩]) (st' := [⟨1, (held_isShaped_1_c1 o0_0 o0_1 o0_2 o0_3 o0_4)⟩, ⟨1, [dInt o1_0]⟩, ⟨1, (EncX.encX p0).map DV.c⟩]) ((by kernel_rfl : bkL [0] [1] (held_isShaped_1_c1 o0_0 o0_1 o0_2 o0_3 o0_4) = some (held_isShaped_1_c1 o0_0 o0_1 o0_2 o0_3 o0_4))) rfl (putBack_nil _ _ [] _))) (And.intro (And.intro (rfl : nodupB [0] = true) (And.intro (locS_cons (all := [0]) (st := [⟨1, (held_isShaped_1_c1 o0_0 o0_1 o0_2 o0_3 o0_4)⟩, ⟨1, [dInt o1_0]⟩, ⟨1, (EncX.encX p0).map DV.c⟩]) (id := 0) (ids := []) (ver := 0) (cs := (held_isShaped_1_c1 o0_0 o0_1 o0_2 o0_3 o0_4)) (cs' := (held_isShaped_1_c1 o0_0 o0_1 o0_2 o0_3 o0_4)) rfl ((by kernel_rfl : locL [0] [⟨1, (held_isShaped_1_c1 o0_0 o0_1 o0_2 o0_3 o0_4)⟩, ⟨1, [dInt o1_0]⟩, ⟨1, (EncX.encX p0).map DV.c⟩] (held_isShaped_1_c1 o0_0 o0_1 o0_2 o0_3 o0_4) = some (held_isShaped_1_c1 o0_0 o0_1 o0_2 o0_3 o0_4))) (locS_nil _ _)) (by kernel_rfl : locL [0] [⟨1, (held_isShaped_1_c1 o0_0 o0_1 o0_2 o0_3 o0_4)⟩, ⟨1, [dInt o1_0]⟩, ⟨1, (EncX.encX p0).map DV.c⟩] [dInt p0.to_, .pt 0 1 0] = some [dInt p0.to_, .pt 0 1 0]))) (And.intro (h8) (And.intro (by kernel_rfl : bkD [0] [1] (dB false) = some (dB false)) (putBack_cons (sel := [0]) (vs := [1]) (id := 0) (v := 1) (ver := 1) (ids := []) (ws := []) (cs := (held_isShaped_1_c1 o0_0 o0_1 o0_2 o0_3 o0_4)) (cs' := (held_isShaped_1_c1 o0_0 o0_1 o0_2 o0_3 o0_4)) (st := [⟨1, (held_isShaped_1_c1 o0_0 o0_1 o0_2 o0_3 o0_4)⟩, ⟨1, [dInt o1_0]⟩, ⟨1, (EncX.encX p0).map DV.c⟩]) (st' := [⟨1, (held_isShaped_1_c1 o0_0 o0_1 o0_2 o0_3 o0_4)⟩, ⟨1, [dInt o1_0]⟩, ⟨1, (EncX.encX p0).map DV.c⟩]) ((by kernel_rfl : bkL [0] [1] (held_isShaped_1_c1 o0_0 o0_1 o0_2 o0_3 o0_4) = some (held_isShaped_1_c1 o0_0 o0_1 o0_2 o0_3 o0_4))) rfl (putBack_nil _ _ [] _)))))))) (by kernel_rfl) ?_
          exact Sys.fin ⟨rfl, (dB true), (by kernel_rfl), endL_below rfl (AllB.cons rfl (AllB.cons rfl (AllB.nil 2))) rfl rfl⟩
      | false =>
        replace h := condF h
        have hr := Option.some.inj h
        subst hr
        refine Sys.to [((3, 3), .callL [dInt p0.from_, .pt 0 1 0] [⟨1, (held_isShaped_1_c1 o0_0 o0_1 o0_2 o0_3 o0_4)⟩] (dB false) [⟨1, (held_isShaped_1_c1 o0_0 o0_1 o0_2 o0_3 o0_4)⟩] (dB false) [⟨1, (held_isShaped_1_c1 o0_0 o0_1 o0_2 o0_3 o0_4)⟩, ⟨1, [dInt o1_0]⟩, ⟨1, (EncX.encX p0).map DV.c⟩])] 999999 (.fin .ret) ⟨fl [(4, dB true)], ⟨[⟨1, (held_isShaped_1_c1 o0_0 o0_1 o0_2 o0_3 o0_4)⟩, ⟨1, [dInt o1_0]⟩, ⟨1, (EncX.encX p0).map DV.c⟩], []⟩⟩ (And.intro (And.intro (rfl : nodupB [0] = true) (And.intro (locS_cons (all := [0]) (st := [⟨1, (held_isShaped_1_c1 o0_0 o0_1 o0_2 o0_3 o0_4)⟩, ⟨1, [dInt o1_0]⟩, ⟨1, (EncX.encX p0).map DV.c⟩]) (id := 0) (ids := []) (ver := 0) (cs := (held_isShaped_1_c1 o0_0 o0_1 o0_2 o0_3 o0_4)) (cs' := (held_isShaped_1_c1 o0_0 o0_1 o0_2 o0_3 o0_4)) rfl ((by kernel_rfl : locL [0] [⟨1, (held_isShaped_1_c1 o0_0 o0_1 o0_2 o0_3 o0_4)⟩, ⟨1, [dInt o1_0]⟩, ⟨1, (EncX.encX p0).map DV.c⟩] (held_isShaped_1_c1 o0_0 o0_1 o0_2 o0_3 o0_4) = some (held_isShaped_1_c1 o0_0 o0_1 o0_2 o0_3 o0_4))) (locS_nil _ _)) (by kernel_rfl : locL [0] [⟨1, (held_isShaped_1_c1 o0_0 o0_1 o0_2 o0_3 o0_4)⟩, ⟨1, [dInt o1_0]⟩, ⟨1, (EncX.encX p0).map DV.c⟩] [dInt p0.from_, .pt 0 1 0] = some [dInt p0.from_, .pt 0 1 0]))) (And.intro (h6) (And.intro (by kernel_rfl : bkD [0] [1] (dB false) = some (dB false)) (putBack_cons (sel := [0]) (vs := [1]) (id := 0) (v := 1) (ver := 1) (ids := []) (ws := []) (cs := (held_isShaped_1_c1 o0_0 o0_1 o0_2 o0_3 o0_4)) (cs' := (held_isShaped_1_c1 o0_0 o0_1 o0_2 o0_3 o0_4)) (st := [⟨1, (held_isShaped_1_c1 o0_0 o0_1 o0_2 o0_3 o0_4)⟩, ⟨1, [dInt o1_0]⟩, ⟨1, (EncX.encX p0).map DV.c⟩]) (st' := [⟨1, (held_isShaped_1_c1 o0_0 o0_1 o0_2 o0_3 o0_4)⟩, ⟨1, [dInt o1_0]⟩, ⟨1, (EncX.encX p0).map DV.c⟩]) ((by kernel_rfl : bkL [0] [1] (held_isShaped_1_c1 o0_0 o0_1 o0_2 o0_3 o0_4) = some (held_isShaped_1_c1 o0_0 o0_1 o0_2 o0_3 o0_4))) rfl (putBack_nil _ _ [] _))))) (by kernel_rfl) ?_
        exact Sys.fin ⟨rfl, (dB true), (by kernel_rfl), endL_below rfl (AllB.cons rfl (AllB.cons rfl (AllB.nil 2))) rfl rfl⟩
    · replace h := iteF h4 h
      obtain ⟨x_3, g6, h⟩ := bindE h
      have h6 := held_isShaped_1_1_ok g6
      refine Sys.to [((2, 2), .b true), ((2, 6), .b false)] 3 (.at [1, 1, 1, 0]) ⟨fl [(2, .pt 1 1 0), (3, .pt 2 1 0), (5, .fn 40 [] [.pt 0 1 0]), (6, dB false)], ⟨[⟨1, (held_isShaped_1_c1 o0_0 o0_1 o0_2 o0_3 o0_4)⟩, ⟨1, [dInt o1_0]⟩, ⟨1, (EncX.encX p0).map DV.c⟩], []⟩⟩ (And.intro (h3) (h4)) (by kernel_rfl) ?_
      cases x_3 with
      | true =>
        replace h := condT h
        obtain ⟨x_4, g8, h⟩ := bindE h
        have h8 := held_isShaped_1_1_ok g8
        cases x_4 with
        | true =>
          replace h := condT h
          have hr := Option.some.inj h
          subst hr
          refine Sys.to [((3, 3), .callL [dInt p0.from_, .pt 0 1 0] [⟨1, (held_isShaped_1_c1 o0_0 o0_1 o0_2 o0_3 o0_4)⟩] (dB true) [⟨1, (held_isShaped_1_c1 o0_0 o0_1 o0_2 o0_3 o0_4)⟩] (dB true) [⟨1, (held_isShaped_1_c1 o0_0 o0_1 o0_2 o0_3 o0_4)⟩, ⟨1, [dInt o1_0]⟩, ⟨1, (EncX.encX p0).map DV.c⟩]), ((3, 9), .callL [dInt p0.to_, .pt 0 1 0] [⟨1, (held_isShaped_1_c1 o0_0 o0_1 o0_2 o0_3 o0_4)⟩] (dB true) [⟨1, (held_isShaped_1_c1 o0_0 o0_1 o0_2 o0_3 o0_4)⟩] (dB true) [⟨1, (held_isShaped_1_c1 o0_0 o0_1 o0_2 o0_3 o0_4)⟩, ⟨1, [dInt o1_0]⟩, ⟨1, (EncX.encX p0).map DV.c⟩])] 999999 (.fin .ret) ⟨fl [(4, dB false)], ⟨[⟨1, (held_isShaped_1_c1 o0_0 o0_1 o0_2 o0_3 o0_4)⟩, ⟨1, [dInt o1_0]⟩, ⟨1, (EncX.encX p0).map DV.c⟩], []⟩⟩ (And.intro (And.intro (rfl : nodupB [0] = true) (And.intro (locS_cons (all := [0]) (st := [⟨1, (held_isShaped_1_c1 o0_0 o0_1 o0_2 o0_3 o0_4)⟩, ⟨1, [dInt o1_0]⟩, ⟨1, (EncX.encX p0).map DV.c⟩]) (id := 0) (ids := []) (ver := 0) (cs := (held_isShaped_1_c1 o0_0 o0_1 o0_2 o0_3 o0_4)) (cs' := (held_isShaped_1_c1 o0_0 o0_1 o0_2 o0_3 o0_4)) rfl ((by kernel_rfl : locL [0] [⟨1, (held_isShaped_1_c1 o0_0 o0_1 o0_2 o0_3 o0_4)⟩, ⟨1, [dInt o1_0]⟩, ⟨1, (EncX.encX p0).map DV.c⟩] (held_isShaped_1_c1 o0_0 o0_1 o0_2 o0_3 o0_4) = some (held_isShaped_1_c1 o0_0 o0_1 o0_2 o0_3 o0_4))) (locS_nil _ _)) (by kernel_rfl : locL [0] [⟨1, (held_isShaped_1_c1 o0_0 o0_1 o0_2 o0_3 o0_4)⟩, ⟨1, [dInt o1_0]⟩, ⟨1, (EncX.encX p0).map DV.c⟩] [dInt p0.from_, .pt 0 1 0] = some [dInt p0.from_, .pt 0 1 0]))) (And.intro (h6) (And.intro (And.intro (by kernel_rfl : bkD [0] [1] (dB true) = some (dB true)) (putBack_cons (sel := [0]) (vs := [1]) (id := 0) (v := 1) (ver := 1) (ids := []) (ws := []) (cs := (held_isShaped_1_c1 o0_0 o0_1 o0_2 o0_3 o0_4)) (cs' := (held_isShaped_1_c1 o0_0 o0_1 o0_2 o0_3 o0_4)) (st := [⟨1, (held_isShaped_1_c1 o0_0 o0_1 o0_2 o0_3 o0_4)⟩, ⟨1, [dInt o1_0]⟩, ⟨1, (EncX.encX p0).map DV.c⟩]) (st' := [⟨1, (held_isShaped_1_c1 o0_0 o0_1 o0_2 o0_3 o0_4)⟩, ⟨1, [dInt o1_0]⟩, ⟨1, (EncX.encX p0).map DV.c⟩]) ((by kernel_rfl : bkL [0] [1] (held_isShaped_1_c1 o0_0 o0_1 o0_2 o0_3 o0_4) = some (held_isShaped_1_c1 o0_0 o0_1 o0_2 o0_3 o0_4))) rfl (putBack_nil _ _ [] _))) (And.intro (And.intro (rfl : nodupB [0] = true) (And.intro (locS_cons (all := [0]) (st := [⟨1, (held_isShaped_1_c1 o0_0 o0_1 o0_2 o0_3 o0_4)⟩, ⟨1, [dInt o1_0]⟩, ⟨1, (EncX.encX p0).map DV.c⟩]) (id := 0) (ids := []) (ver := 0) (cs := (held_isShaped_1_c1 o0_0 o0_1 o0_2 o0_3 o0_4)) (cs' := (held_isShaped_1_c1 o0_0 o0_1 o0_2 o0_3 o0_4)) rfl ((by kernel_rfl : locL [0] [⟨1, (held_isShaped_1_c1 o0_0 o0_1 o0_2 o0_3 o0_4)⟩, ⟨1, [dInt o1_0]⟩, ⟨1, (EncX.encX p0).map DV.c⟩] (held_isShaped_1_c1 o0_0 o0_1 o0_2 o0_3 o0_4) = some (held_isShaped_1_c1 o0_0 o0_1 o0_2 o0_3 o0_4))) (locS_nil _ _)) (by kernel_rfl : locL [0] [⟨1, (held_isShaped_1_c1 o0_0 o0_1 o0_2 o0_3 o0_4)⟩, ⟨1, [dInt o1_0]⟩, ⟨1, (EncX.encX p0).map DV.c⟩] [dInt p0.to_, .pt 0 1 0] = some [dInt p0.to_, .pt 0 1 0]))) (And.intro (h8) (And.intro (by kernel_rfl : bkD [0] [1] (dB true) = some (dB true)) (putBack_cons (sel := [0]) (vs := [1]) (id := 0) (v := 1) (ver := 1) (ids := []) (ws := []) (cs := (held_isShaped_1_c1 o0_0 o0_1 o0_2 o0_3 o0_4)) (cs' := (held_isShaped_1_c1 o0_0 o0_1 o0_2 o0_3 o0_4)) (st := [⟨1, (held_isShaped_1_c1 o0_0 o0_1 o0_2 o0_3 o0_4)⟩, ⟨1, [dInt o1_0]⟩, ⟨1, (EncX.encX p0).map DV.c⟩]) (st' := [⟨1, (held_isShaped_1_c1 o0_0 o0_1 o0_2 o0_3 o0_4)⟩, ⟨1, [dInt o1_0]⟩, ⟨1, (EncX.encX p0).map DV.c⟩]) ((by kernel_rfl : bkL [0] [1] (held_isShaped_1_c1 o0_0 o0_1 o0_2 o0_3 o0_4) = some (held_isShaped_1_c1 o0_0 o0_1 o0_2 o0_3 o0_4))) rfl (putBack_nil _ _ [] _)))))))) (by kernel_rfl) ?_
          exact Sys.fin ⟨rfl, (dB false), (by kernel_rfl), endL_below rfl (AllB.cons rfl (AllB.cons rfl (AllB.nil 2))) rfl rfl⟩
        | false =>
          replace h := condF h
          have hr := Option.some.inj h
          subst hr
          refine Sys.to [((3, 3), .callL [dInt p0.from_, .pt 0 1 0] [⟨1, (held_isShaped_1_c1 o0_0 o0_1 o0_2 o0_3 o0_4)⟩] (dB true) [⟨1, (held_isShaped_1_c1 o0_0 o0_1 o0_2 o0_3 o0_4)⟩] (dB true) [⟨1, (held_isShaped_1_c1 o0_0 o0_1 o0_2 o0_3 o0_4)⟩, ⟨1, [dInt o1_0]⟩, ⟨1, (EncX.encX p0).map DV.c⟩]), ((3, 9), .callL [dInt p0.to_, .pt 0 1 0] [⟨1, (held_isShaped_1_c1 o0_0 o0_1 o0_2 o0_3 o0_4)⟩] (dB false) [⟨1, (held_isShaped_1_c1 o0_0 o0_1 o0_2 o0_3 o0_4)⟩] (dB false) [⟨1, (held_isShaped_1_c1 o0_0 o0_1 o0_2 o0_3 o0_4)⟩, ⟨1, [dInt o1_0]⟩, ⟨1, (EncX.encX p0).map DV.c⟩])] 999999 (.fin .ret) ⟨fl [(4, dB true)], ⟨[⟨1, (held_isShaped_1_c1 o0_0 o0_1 o0_2 o0_3 o0_4)⟩, ⟨1, [dInt o1_0]⟩, ⟨1, (EncX.encX p0).map DV.c⟩], []⟩⟩ (And.intro (And.intro (rfl : nodupB [0] = true) (And.intro (locS_cons (all := [0]) (st := [⟨1, (held_isShaped_1_c1 o0_0 o0_1 o0_2 o0_3 o0_4)⟩, ⟨1, [dInt o1_0]⟩, ⟨1, (EncX.encX p0).map DV.c⟩]) (id := 0) (ids := []) (ver := 0) (cs := (held_isShaped_1_c1 o0_0 o0_1 o0_2 o0_3 o0_4)) (cs' := (held_isShaped_1_c1 o0_0 o0_1 o0_2 o0_3 o0_4)) rfl ((by kernel_rfl : locL [0] [⟨1, (held_isShaped_1_c1 o0_0 o0_1 o0_2 o0_3 o0_4)⟩, ⟨1, [dInt o1_0]⟩, ⟨1, (EncX.encX p0).map DV.c⟩] (held_isShaped_1_c1 o0_0 o0_1 o0_2 o0_3 o0_4) = some (held_isShaped_1_c1 o0_0 o0_1 o0_2 o0_3 o0_4))) (locS_nil _ _)) (by kernel_rfl : locL [0] [⟨1, (held_isShaped_1_c1 o0_0 o0_1 o0_2 o0_3 o0_4)⟩, ⟨1, [dInt o1_0]⟩, ⟨1, (EncX.encX p0).map DV.c⟩] [dInt p0.from_, .pt 0 1 0] = some [dInt p0.from_, .pt 0 1 0]))) (And.intro (h6) (And.intro (And.intro (by kernel_rfl : bkD [0] [1] (dB true) = some (dB true)) (putBack_cons (sel := [0]) (vs := [1]) (id := 0) (v := 1) (ver := 1) (ids := []) (ws := []) (cs := (held_isShaped_1_c1 o0_0 o0_1 o0_2 o0_3 o0_4)) (cs' := (held_isShaped_1_c1 o0_0 o0_1 o0_2 o0_3 o0_4)) (st := [⟨1, (held_isShaped_1_c1 o0_0 o0_1 o0_2 o0_3 o0_4)⟩, ⟨1, [dInt o1_0]⟩, ⟨1, (EncX.encX p0).map DV.c⟩]) (st' := [⟨1, (held_isShaped_1_c1 o0_0 o0_1 o0_2 o0_3 o0_4)⟩, ⟨1, [dInt o1_0]⟩, ⟨1, (EncX.encX p0).map DV.c⟩]) ((by kernel_rfl : bkL [0] [1] (held_isShaped_1_c1 o0_0 o0_1 o0_2 o0_3 o0_4) = some (held_isShaped_1_c1 o0_0 o0_1 o0_2 o0_3 o0_4))) rfl (putBack_nil _ _ [] _))) (And.intro (And.intro (rfl : nodupB [0] = true) (And.intro (locS_cons (all := [0]) (st := [⟨1, (held_isShaped_1_c1 o0_0 o0_1 o0_2 o0_3 o0_4)⟩, ⟨1, [dInt o1_0]⟩, ⟨1, (EncX.encX p0).map DV.c⟩]) (id := 0) (ids := []) (ver := 0) (cs := (held_isShaped_1_c1 o0_0 o0_1 o0_2 o0_3 o0_4)) (cs' := (held_isShaped_1_c1 o0_0 o0_1 o0_2 o0_3 o0_4)) rfl ((by kernel_rfl : locL [0] [⟨1, (held_isShaped_1_c1 o0_0 o0_1 o0_2 o0_3 o0_4)⟩, ⟨1, [dInt o1_0]⟩, ⟨1, (EncX.encX p0).map DV.c⟩] (held_isShaped_1_c1 o0_0 o0_1 o0_2 o0_3 o0_4) = some (held_isShaped_1_c1 o0_0 o0_1 o0_2 o0_3 o0_4))) (locS_nil _ _)) (by kernel_rfl : locL [0] [⟨1, (held_isShaped_1_c1 o0_0 o0_1 o0_2 o0_3 o0_4)⟩, ⟨1, [dInt o1_0]⟩, ⟨1, (EncX.encX p0).map DV.c⟩] [dInt p0.to_, .pt 0 1 0] = some [dInt p0.to_, .pt 0 1 0]))) (And.intro (h8) (And.intro (by kernel_rfl : bkD [0] [1] (dB false) = some (dB false)) (putBack_cons (sel := [0]) (vs := [1]) (id := 0) (v := 1) (ver := 1) (ids := []) (ws := []) (cs := (held_isShaped_1_c1 o0_0 o0_1 o0_2 o0_3 o0_4)) (cs' := (held_isShaped_1_c1 o0_0 o0_1 o0_2 o0_3 o0_4)) (st := [⟨1, (held_isShaped_1_c1 o0_0 o0_1 o0_2 o0_3 o0_4)⟩, ⟨1, [dInt o1_0]⟩, ⟨1, (EncX.encX p0).map DV.c⟩]) (st' := [⟨1, (held_isShaped_1_c1 o0_0 o0_1 o0_2 o0_3 o0_4)⟩, ⟨1, [dInt o1_0]⟩, ⟨1, (EncX.encX p0).map DV.c⟩]) ((by kernel_rfl : bkL [0] [1] (held_isShaped_1_c1 o0_0 o0_1 o0_2 o0_3 o0_4) = some (held_isShaped_1_c1 o0_0 o0_1 o0_2 o0_3 o0_4))) rfl (putBack_nil _ _ [] _)))))))) (by kernel_rfl) ?_
          exact Sys.fin ⟨rfl, (dB true), (by kernel_rfl), endL_below rfl (AllB.cons rfl (AllB.cons rfl (AllB.nil 2))) rfl rfl⟩
      | false =>
        replace h := condF h
        have hr := Option.some.inj h
        subst hr
        refine Sys.to [((3, 3), .callL [dInt p0.from_, .pt 0 1 0] [⟨1, (held_isShaped_1_c1 o0_0 o0_1 o0_2 o0_3 o0_4)⟩] (dB false) [⟨1, (held_isShaped_1_c1 o0_0 o0_1 o0_2 o0_3 o0_4)⟩] (dB false) [⟨1, (held_isShaped_1_c1 o0_0 o0_1 o0_2 o0_3 o0_4)⟩, ⟨1, [dInt o1_0]⟩, ⟨1, (EncX.encX p0).map DV.c⟩])] 999999 (.fin .ret) ⟨fl [(4, dB true)], ⟨[⟨1, (held_isShaped_1_c1 o0_0 o0_1 o0_2 o0_3 o0_4)⟩, ⟨1, [dInt o1_0]⟩, ⟨1, (EncX.encX p0).map DV.c⟩], []⟩⟩ (And.intro (And.intro (rfl : nodupB [0] = true) (And.intro (locS_cons (all := [0]) (st := [⟨1, (held_isShaped_1_c1 o0_0 o0_1 o0_2 o0_3 o0_4)⟩, ⟨1, [dInt o1_0]⟩, ⟨1, (EncX.encX p0).map DV.c⟩]) (id := 0) (ids := []) (ver := 0) (cs := (held_isShaped_1_c1 o0_0 o0_1 o0_2 o0_3 o0_4)) (cs' := (held_isShaped_1_c1 o0_0 o0_1 o0_2 o0_3 o0_4)) rfl ((by kernel_rfl : locL [0] [⟨1, (held_isShaped_1_c1 o0_0 o0_1 o0_2 o0_3 o0_4)⟩, ⟨1, [dInt o1_0]⟩, ⟨1, (EncX.encX p0).map DV.c⟩] (held_isShaped_1_c1 o0_0 o0_1 o0_2 o0_3 o0_4) = some (held_isShaped_1_c1 o0_0 o0_1 o0_2 o0_3 o0_4))) (locS_nil _ _)) (by kernel_rfl : locL [0] [⟨1, (held_isShaped_1_c1 o0_0 o0_1 o0_2 o0_3 o0_4)⟩, ⟨1, [dInt o1_0]⟩, ⟨1, (EncX.encX p0).map DV.c⟩] [dInt p0.from_, .pt 0 1 0] = some [dInt p0.from_, .pt 0 1 0]))) (And.intro (h6) (And.intro (by kernel_rfl : bkD [0] [1] (dB false) = some (dB false)) (putBack_cons (sel := [0]) (vs := [1]) (id := 0) (v := 1) (ver := 1) (ids := []) (ws := []) (cs := (held_isShaped_1_c1 o0_0 o0_1 o0_2 o0_3 o0_4)) (cs' := (held_isShaped_1_c1 o0_0 o0_1 o0_2 o0_3 o0_4)) (st := [⟨1, (held_isShaped_1_c1 o0_0 o0_1 o0_2 o0_3 o0_4)⟩, ⟨1, [dInt o1_0]⟩, ⟨1, (EncX.encX p0).map DV.c⟩]) (st' := [⟨1, (held_isShaped_1_c1 o0_0 o0_1 o0_2 o0_3 o0_4)⟩, ⟨1, [dInt o1_0]⟩, ⟨1, (EncX.encX p0).map DV.c⟩]) ((by kernel_rfl : bkL [0] [1] (held_isShaped_1_c1 o0_0 o0_1 o0_2 o0_3 o0_4) = some (held_isShaped_1_c1 o0_0 o0_1 o0_2 o0_3 o0_4))) rfl (putBack_nil _ _ [] _))))) (by kernel_rfl) ?_
        exact Sys.fin ⟨rfl, (dB true), (by kernel_rfl), endL_below rfl (AllB.cons rfl (AllB.cons rfl (AllB.nil 2))) rfl rfl⟩
  · replace h := iteF h3 h
    obtain ⟨x_5, g5, h⟩ := bindE h
    have h5 := held_isShaped_1_1_ok g5
    refine Sys.to [((2, 2), .b false)] 3 (.at [1, 1, 1, 0]) ⟨fl [(2, .pt 1 1 0), (3, .pt 2 1 0), (5, .fn 40 [] [.pt 0 1 0]), (6, dB false)], ⟨[⟨1, (held_isShaped_1_c1 o0_0 o0_1 o0_2 o0_3 o0_4)⟩, ⟨1, [dInt o1_0]⟩, ⟨1, (EncX.encX p0).map DV.c⟩], []⟩⟩ (h3) (by kernel_rfl) ?_
    cases x_5 with
    | true =>
      replace h := condT h
      obtain ⟨x_6, g7, h⟩ := bindE h
      have h7 := held_isShaped_1_1_ok g7
      cases x_6 with
      | true =>
        replace h := condT h
        have hr := Option.some.inj h
        subst hr
        refine Sys.to [((3, 3), .callL [dInt p0.from_, .pt 0 1 0] [⟨1, (held_isShaped_1_c1 o0_0 o0_1 o0_2 o0_3 o0_4)⟩] (dB true) [⟨1, (held_isShaped_1_c1 o0_0 o0_1 o0_2 o0_3 o0_4)⟩] (dB true) [⟨1, (held_isShaped_1_c1 o0_0 o0_1 o0_2 o0_3 o0_4)⟩, ⟨1, [dInt o1_0]⟩, ⟨1, (EncX.encX p0).map DV.c⟩]), ((3, 9), .callL [dInt p0.to_, .pt 0 1 0] [⟨1, (held_isShaped_1_c1 o0_0 o0_1 o0_2 o0_3 o0_4)⟩] (dB true) [⟨1, (held_isShaped_1_c1 o0_0 o0_1 o0_2 o0_3 o0_4)⟩] (dB true) [⟨1, (held_isShaped_1_c1 o0_0 o0_1 o0_2 o0_3 o0_4)⟩, ⟨1, [dInt o1_0]⟩, ⟨1, (EncX.encX p0).map DV.c⟩])] 999999 (.fin .ret) ⟨fl [(4, dB false)], ⟨[⟨1, (held_isShaped_1_c1 o0_0 o0_1 o0_2 o0_3 o0_4)⟩, ⟨1, [dInt o1_0]⟩, ⟨1, (EncX.encX p0).map DV.c⟩], []⟩⟩ (And.intro (And.intro (rfl : nodupB [0] = true) (And.intro (locS_cons (all := [0]) (st := [⟨1, (held_isShaped_1_c1 o0_0 o0_1 o0_2 o0_3 o0_4)⟩, ⟨1, [dInt o1_0]⟩, ⟨1, (EncX.encX p0).map DV.c⟩]) (id := 0) (ids := []) (ver := 0) (cs := (held_isShaped_1_c1 o0_0 o0_1 o0_2 o0_3 o0_4)) (cs' := (held_isShaped_1_c1 o0_0 o0_1 o0_2 o0_3 o0_4)) rfl ((by kernel_rfl : locL [0] [⟨1, (held_isShaped_1_c1 o0_0 o0_1 o0_2 o0_3 o0_4)⟩, ⟨1, [dInt o1_0]⟩, ⟨1, (EncX.encX p0).map DV.c⟩] (held_isShaped_1_c1 o0_0 o0_1 o0_2 o0_3 o0_4) = some (held_isShaped_1_c1 o0_0 o0_1 o0_2 o0_3 o0_4))) (locS_nil _ _)) (by kernel_rfl : locL [0] [⟨1, (held_isShaped_1_c1 o0_0 o0_1 o0_2 o0_3 o0_4)⟩, ⟨1, [dInt o1_0]⟩, ⟨1, (EncX.encX p0).map DV.c⟩] [dInt p0.from_, .pt 0 1 0] = some [dInt p0.from_, .pt 0 1 0]))) (And.intro (h5) (And.intro (And.intro (by kernel_rfl : bkD [0] [1] (dB true) = some (dB true)) (putBack_cons (sel := [0]) (vs := [1]) (id := 0) (v := 1) (ver := 1) (ids := []) (ws := []) (cs := (held_isShaped_1_c1 o0_0 o0_1 o0_2 o0_3 o0_4)) (cs' := (held_isShaped_1_c1 o0_0 o0_1 o0_2 o0_3 o0_4)) (st := [⟨1, (held_isShaped_1_c1 o0_0 o0_1 o0_2 o0_3 o0_4)⟩, ⟨1, [dInt o1_0]⟩, ⟨1, (EncX.encX p0).map DV.c⟩]) (st' := [⟨1, (held_isShaped_1_c1 o0_0 o0_1 o0_2 o0_3 o0_4)⟩, ⟨1, [dInt o1_0]⟩, ⟨1, (EncX.encX p0).map DV.c⟩]) ((by kernel_rfl : bkL [0] [1] (held_isShaped_1_c1 o0_0 o0_1 o0_2 o0_3 o0_4) = some (held_isShaped_1_c1 o0_0 o0_1 o0_2 o0_3 o0_4))) rfl (putBack_nil _ _ [] _))) (And.intro (And.intro (rfl : nodupB [0] = true) (And.intro (locS_cons (all := [0]) (st := [⟨1, (held_isShaped_1_c1 o0_0 o0_1 o0_2 o0_3 o0_4)⟩, ⟨1, [dInt o1_0]⟩, ⟨1, (EncX.encX p0).map DV.c⟩]) (id := 0) (ids := []) (ver := 0) (cs := (held_isShaped_1_c1 o0_0 o0_1 o0_2 o0_3 o0_4)) (cs' := (held_isShaped_1_c1 o0_0 o0_1 o0_2 o0_3 o0_4)) rfl ((by kernel_rfl : locL [0] [⟨1, (held_isShaped_1_c1 o0_0 o0_1 o0_2 o0_3 o0_4)⟩, ⟨1, [dInt o1_0]⟩, ⟨1, (EncX.encX p0).map DV.c⟩] (held_isShaped_1_c1 o0_0 o0_1 o0_2 o0_3 o0_4) = some (held_isShaped_1_c1 o0_0 o0_1 o0_2 o0_3 o0_4))) (locS_nil _ _)) (by kernel_rfl : locL [0] [⟨1, (held_isShaped_1_c1 o0_0 o0_1 o0_2 o0_3 o0_4)⟩, ⟨1, [dInt o1_0]⟩, ⟨1, (EncX.encX p0).map DV.c⟩] [dInt p0.to_, .pt 0 1 0] = some [dInt p0.to_, .pt 0 1 0]))) (And.intro (h7) (And.intro (by kernel_rfl : bkD [0] [1] (dB true) = some (dB true)) (putBack_cons (sel := [0]) (vs := [1]) (id := 0) (v := 1) (ver := 1) (ids := []) (ws := []) (cs := (held_isShaped_1_c1 o0_0 o0_1 o0_2 o0_3 o0_4)) (cs' := (held_isShaped_1_c1 o0_0 o0_1 o0_2 o0_3 o0_4)) (st := [⟨1, (held_isShaped_1_c1 o0_0 o0_1 o0_2 o0_3 o0_4)⟩, ⟨1, [dInt o1_0]⟩, ⟨1, (EncX.encX p0).map DV.c⟩]) (st' := [⟨1, (held_isShaped_1_c1 o0_0 o0_1 o0_2 o0_3 o0_4)⟩, ⟨1, [dInt o1_0]⟩, ⟨1, (EncX.encX p0).map DV.c⟩]) ((by kernel_rfl : bkL [0] [1] (held_isShaped_1_c1 o0_0 o0_1 o0_2 o0_3 o0_4) = some (held_isShaped_1_c1 o0_0 o0_1 o0_2 o0_3 o0_4))) rfl (putBack_nil _ _ [] _)))))))) (by kernel_rfl) ?_
        exact Sys.fin ⟨rfl, (dB false), (by kernel_rfl), endL_below rfl (AllB.cons rfl (AllB.cons rfl (AllB.nil 2))) rfl rfl⟩
      | false =>
        replace h := condF h
        have hr := Option.some.inj h
        subst hr
        refine Sys.to [((3, 3), .callL [dInt p0.from_, .pt 0 1 0] [⟨1, (held_isShaped_1_c1 o0_0 o0_1 o0_2 o0_3 o0_4)⟩] (dB true) [⟨1, (held_isShaped_1_c1 o0_0 o0_1 o0_2 o0_3 o0_4)⟩] (dB true) [⟨1, (held_isShaped_1_c1 o0_0 o0_1 o0_2 o0_3 o0_4)⟩, ⟨1, [dInt o1_0]⟩, ⟨1, (EncX.encX p0).map DV.c⟩]), ((3, 9), .callL [dInt p0.to_, .pt 0 1 0] [⟨1, (held_isShaped_1_c1 o0_0 o0_1 o0_2 o0_3 o0_4)⟩] (dB false) [⟨1, (held_isShaped_1_c1 o0_0 o0_1 o0_2 o0_3 o0_4)⟩] (dB false) [⟨1, (held_isShaped_1_c1 o0_0 o0_1 o0_2 o0_3 o0_4)⟩, ⟨1, [dInt o1_0]⟩, ⟨1, (EncX.encX p0).map DV.c⟩])] 999999 (.fin .ret) ⟨fl [(4, dB true)], ⟨[⟨1, (held_isShaped_1_c1 o0_0 o0_1 o0_2 o0_3 o0_4)⟩, ⟨1, [dInt o1_0]⟩, ⟨1, (EncX.encX p0).map DV.c⟩], []⟩⟩ (And.intro (And.intro (rfl : nodupB [0] = true) (And.intro (locS_cons (all := [0]) (st := [⟨1, (held_isShaped_1_c1 o0_0 o0_1 o0_2 o0_3 o0_4)⟩, ⟨1, [dInt o1_0]⟩, ⟨1, (EncX.encX p0).map DV.c⟩]) (id := 0) (ids := []) (ver := 0) (cs := (held_isShaped_1_c1 o0_0 o0_1 o0_2 o0_3 o0_4)) (cs' := (held_isShaped_1_c1 o0_0 o0_1 o0_2 o0_3 o0_4)) rfl ((by kernel_rfl : locL [0] [⟨1, (held_isShaped_1_c1 o0_0 o0_1 o0_2 o0_3 o0_4)⟩, ⟨1, [dInt o1_0]⟩, ⟨1, (EncX.encX p0).map DV.c⟩] (held_isShaped_1_c1 o0_0 o0_1 o0_2 o0_3 o0_4) = some (held_isShaped_1_c1 o0_0 o0_1 o0_2 o0_3 o0_4))) (locS_nil _ _)) (by kernel_rfl : locL [0] [⟨1, (held_isShaped_1_c1 o0_0 o0_1 o0_2 o0_3 o0_4)⟩, ⟨1, [dInt o1_0]⟩, ⟨1, (EncX.encX p0).map DV.c⟩] [dInt p0.from_, .pt 0 1 0] = some [dInt p0.from_, .pt 0 1 0]))) (And.intro (h5) (And.intro (And.intro (by kernel_rfl : bkD [0] [1] (dB true) = some (dB true)) (putBack_cons (sel := [0]) (vs := [1]) (id := 0) (v := 1) (ver := 1) (ids := []) (ws := []) (cs := (held_isShaped_1_c1 o0_0 o0_1 o0_2 o0_3 o0_4)) (cs' := (held_isShaped_1_c1 o0_0 o0_1 o0_2 o0_3 o0_4)) (st := [⟨1, (held_isShaped_1_c1 o0_0 o0_1 o0_2 o0_3 o0_4)⟩, ⟨1, [dInt o1_0]⟩, ⟨1, (EncX.encX p0).map DV.c⟩]) (st' := [⟨1, (held_isShaped_1_c1 o0_0 o0_1 o0_2 o0_3 o0_4)⟩, ⟨1, [dInt o1_0]⟩, ⟨1, (EncX.encX p0).map DV.c⟩]) ((by kernel_rfl : bkL [0] [1] (held_isShaped_1_c1 o0_0 o0_1 o0_2 o0_3 o0_4) = some (held_isShaped_1_c1 o0_0 o0_1 o0_2 o0_3 o0_4))) rfl (putBack_nil _ _ [] _))) (And.intro (And.intro (rfl : nodupB [0] = true) (And.intro (locS_cons (all := [0]) (st := [⟨1, (held_isShaped_1_c1 o0_0 o0_1 o0_2 o0_3 o0_4)⟩, ⟨1, [dInt o1_0]⟩, ⟨1, (EncX.encX p0).map DV.c⟩]) (id := 0) (ids := []) (ver := 0) (cs := (held_isShaped_1_c1 o0_0 o0_1 o0_2 o0_3 o0_4)) (cs' := (held_isShaped_1_c1 o0_0 o0_1 o0_2 o0_3 o0_4)) rfl ((by kernel_rfl : locL [0] [⟨1, (held_isShaped_1_c1 o0_0 o0_1 o0_2 o0_3 o0_4)⟩, ⟨1, [dInt o1_0]⟩, ⟨1, (EncX.encX p0).map DV.c⟩] (held_isShaped_1_c1 o0_0 o0_1 o0_2 o0_3 o0_4) = some (held_isShaped_1_c1 o0_0 o0_1 o0_2 o0_3 o0_4))) (locS_nil _ _)) (by kernel_rfl : locL [0] [⟨1, (held_isShaped_1_c1 o0_0 o0_1 o0_2 o0_3 o0_4)⟩, ⟨1, [dInt o1_0]⟩, ⟨1, (EncX.encX p0).map DV.c⟩] [dInt p0.to_, .pt 0 1 0] = some [dInt p0.to_, .pt 0 1 0]))) (And.intro (h7) (And.intro (by kernel_rfl : bkD [0] [1] (dB false) = some (dB false)) (putBack_cons (sel := [0]) (vs := [1]) (id := 0) (v := 1) (ver := 1) (ids := []) (ws := []) (cs := (held_isShaped_1_c1 o0_0 o0_1 o0_2 o0_3 o0_4)) (cs' := (held_isShaped_1_c1 o0_0 o0_1 o0_2 o0_3 o0_4)) (st := [⟨1, (held_isShaped_1_c1 o0_0 o0_1 o0_2 o0_3 o0_4)⟩, ⟨1, [dInt o1_0]⟩, ⟨1, (EncX.encX p0).map DV.c⟩]) (st' := [⟨1, (held_isShaped_1_c1 o0_0 o0_1 o0_2 o0_3 o0_4)⟩, ⟨1, [dInt o1_0]⟩, ⟨1, (EncX.encX p0).map DV.c⟩]) ((by kernel_rfl : bkL [0] [1] (held_isShaped_1_c1 o0_0 o0_1 o0_2 o0_3 o0_4) = some (held_isShaped_1_c1 o0_0 o0_1 o0_2 o0_3 o0_4))) rfl (putBack_nil _ _ [] _)))))))) (by kernel_rfl) ?_
        exact Sys.fin ⟨rfl, (dB true), (by kernel_rfl), endL_below rfl (AllB.cons rfl (AllB.cons rfl (AllB.nil 2))) rfl rfl⟩
    | false =>
      replace h := condF h
      have hr := Option.some.inj h
      subst hr
      refine Sys.to [((3, 3), .callL [dInt p0.from_, .pt 0 1 0] [⟨1, (held_isShaped_1_c1 o0_0 o0_1 o0_2 o0_3 o0_4)⟩] (dB false) [⟨1, (held_isShaped_1_c1 o0_0 o0_1 o0_2 o0_3 o0_4)⟩] (dB false) [⟨1, (held_isShaped_1_c1 o0_0 o0_1 o0_2 o0_3 o0_4)⟩, ⟨1, [dInt o1_0]⟩, ⟨1, (EncX.encX p0).map DV.c⟩])] 999999 (.fin .ret) ⟨fl [(4, dB true)], ⟨[⟨1, (held_isShaped_1_c1 o0_0 o0_1 o0_2 o0_3 o0_4)⟩, ⟨1, [dInt o1_0]⟩, ⟨1, (EncX.encX p0).map DV.c⟩], []⟩⟩ (And.intro (And.intro (rfl : nodupB [0] = true) (And.intro (locS_cons (all := [0]) (st := [⟨1, (held_isShaped_1_c1 o0_0 o0_1 o0_2 o0_3 o0_4)⟩, ⟨1, [dInt o1_0]⟩, ⟨1, (EncX.encX p0).map DV.c⟩]) (id := 0) (ids := []) (ver := 0) (cs := (held_isShaped_1_c1 o0_0 o0_1 o0_2 o0_3 o0_4)) (cs' := (held_isShaped_1_c1 o0_0 o0_1 o0_2 o0_3 o0_4)) rfl ((by kernel_rfl : locL [0] [⟨1, (held_isShaped_1_c1 o0_0 o0_1 o0_2 o0_3 o0_4)⟩, ⟨1, [dInt o1_0]⟩, ⟨1, (EncX.encX p0).map DV.c⟩] (held_isShaped_1_c1 o0_0 o0_1 o0_2 o0_3 o0_4) = some (held_isShaped_1_c1 o0_0 o0_1 o0_2 o0_3 o0_4))) (locS_nil _ _)) (by kernel_rfl : locL [0] [⟨1, (held_isShaped_1_c1 o0_0 o0_1 o0_2 o0_3 o0_4)⟩, ⟨1, [dInt o1_0]⟩, ⟨1, (EncX.encX p0).map DV.c⟩] [dInt p0.from_, .pt 0 1 0] = some [dInt p0.from_, .pt 0 1 0]))) (And.intro (h5) (And.intro (by kernel_rfl : bkD [0] [1] (dB false) = some (dB false)) (putBack_cons (sel := [0]) (vs := [1]) (id := 0) (v := 1) (ver := 1) (ids := []) (ws := []) (cs := (held_isShaped_1_c1 o0_0 o0_1 o0_2 o0_3 o0_4)) (cs' := (held_isShaped_1_c1 o0_0 o0_1 o0_2 o0_3 o0_4)) (st := [⟨1, (held_isShaped_1_c1 o0_0 o0_1 o0_2 o0_3 o0_4)⟩, ⟨1, [dInt o1_0]⟩, ⟨1, (EncX.encX p0).map DV.c⟩]) (st' := [⟨1, (held_isShaped_1_c1 o0_0 o0_1 o0_2 o0_3 o0_4)⟩, ⟨1, [dInt o1_0]⟩, ⟨1, (EncX.encX p0).map DV.c⟩]) ((by kernel_rfl : bkL [0] [1] (held_isShaped_1_c1 o0_0 o0_1 o0_2 o0_3 o0_4) = some (held_isShaped_1_c1 o0_0 o0_1 o0_2 o0_3 o0_4))) rfl (putBack_nil _ _ [] _))))) (by kernel_rfl) ?_
      exact Sys.fin ⟨rfl, (dB true), (by kernel_rfl), endL_below rfl (AllB.cons rfl (AllB.cons rfl (AllB.nil 2))) rfl rfl⟩
end Go.Proofs.Ytkfmoodaplelnaa

/-
  Functions of the program as Lean functions, and that the interpreter comes to the same: printed by the session's own tool.
-/
set_option linter.unusedVariables false
set_option linter.unusedSimpArgs false
set_option maxRecDepth 100000
set_option maxHeartbeats 1000000
namespace Go.Proofs.Ytkfmoodaplelnaa
open Go Go.Abs Go.Proofs
variable [Kn]
def slices_IndexFunc_c1 (o0_0 : ByteArray) (o0_1 : Bool) (o0_2 : Int) (o0_3 : Sl GEdge) (o0_4 : Sl GGuard) : List DV := [.c (.sc (.string o0_0)), dB o0_1, dInt o0_2, .c (eSl o0_3), .c (eSl o0_4)]
inductive slices_IndexFunc_L2O where
  | r (v4 : Int)
  | e0 (v8 : Int)
def slices_IndexFunc_L2x : slices_IndexFunc_L2O → Ex
  | .r _ => .ret
  | .e0 _ => (.exit 0)
def slices_IndexFunc_L2s (p0 : Sl GEdge) (o0_0 : ByteArray) (o0_1 : Bool) (o0_2 : Int) (o0_3 : Sl GEdge) (o0_4 : Sl GGuard) (o1_0 : Int) : slices_IndexFunc_L2O → S
  | .r v4 => ⟨fl [(4, dInt v4)], ⟨[⟨1, (slices_IndexFunc_c1 o0_0 o0_1 o0_2 o0_3 o0_4)⟩, ⟨1, [dInt o1_0]⟩], []⟩⟩
  | .e0 v8 => ⟨fl [(0, .c (eSl p0)), (1, .fn 39 [] [.pt 0 1 0, .pt 1 1 0]), (7, dInt (p0.l.length : Int)), (8, dInt v8), (9, dB false)], ⟨[⟨1, (slices_IndexFunc_c1 o0_0 o0_1 o0_2 o0_3 o0_4)⟩, ⟨1, [dInt o1_0]⟩], []⟩⟩
def slices_IndexFunc_L2 (p0 : Sl GEdge) (o0_0 : ByteArray) (o0_1 : Bool) (o0_2 : Int) (o0_3 : Sl GEdge) (o0_4 : Sl GGuard) (o1_0 : Int) (n : Nat) : Nat → Int → Option slices_IndexFunc_L2O
  | 0, _ => none
  | k + 1, v8 =>
    if v8 < (p0.l.length : Int) then
      (atI p0.l v8).bind fun v14 =>
      (held_isShaped_1 n v14 o0_0 o0_1 o0_2 o0_3 o0_4 o1_0).bind fun x =>
      bif x then
        some (.r v8)
      else if InR (v8 + 1) then slices_IndexFunc_L2 p0 o0_0 o0_1 o0_2 o0_3 o0_4 o1_0 n k (v8 + 1)
      else none
    else some (.e0 v8)
theorem slices_IndexFunc_L2_ok (p0 : Sl GEdge) (o0_0 : ByteArray) (o0_1 : Bool) (o0_2 : Int) (o0_3 : Sl GEdge) (o0_4 : Sl GGuard) (o1_0 : Int) (n : Nat) : ∀ (k : Nat) (v8 : Int) (o : slices_IndexFunc_L2O), slices_IndexFunc_L2 p0 o0_0 o0_1 o0_2 o0_3 o0_4 o1_0 n k v8 = some o → ∀ s : S, restrS (X.an.rs 54 2) s = ⟨fl [(0, .c (eSl p0)), (1, .fn 39 [] [.pt 0 1 0, .pt 1 1 0]), (7, dInt (p0.l.length : Int)), (8, dInt v8)], ⟨[⟨1, (slices_IndexFunc_c1 o0_0 o0_1 o0_2 o0_3 o0_4)⟩, ⟨1, [dInt o1_0]⟩], []⟩⟩ → X.Loop 54 19 [] (sub b54 [1, 0, 1, 0, 0]) 2 s (slices_IndexFunc_L2x o) (slices_IndexFunc_L2s p0 o0_0 o0_1 o0_2 o0_3 o0_4 o1_0 o) := by
  intro k
  induction k with
  | zero => intro v8 o h s hs; unfold slices_IndexFunc_L2 at h; cases h
  | succ k ih =>
    intro v8 o h s hs
    unfold slices_IndexFunc_L2 at h
    refine Sys.loopQ hs ?_
    by_cases h1 : v8 < (p0.l.length : Int)
    · replace h := iteT h1 h
      obtain ⟨v14, h4, h⟩ := bindE h
      obtain ⟨x, g5, h⟩ := bindE h
      have h5 := held_isShaped_1_ok g5
      refine Sys.to [((2, 0), .b true)] 4 (.at [1, 1, 0, 0, 1, 0]) ⟨fl [(0, .c (eSl p0)), (1, .fn 39 [] [.pt 0 1 0, .pt 1 1 0]), (5, dInt v8), (7, dInt (p0.l.length : Int)), (8, dInt v8)], ⟨[⟨1, (slices_IndexFunc_c1 o0_0 o0_1 o0_2 o0_3 o0_4)⟩, ⟨1, [dInt o1_0]⟩], []⟩⟩ (h1) (by kernel_rfl) ?_
      cases x with
      | true =>
        replace h := condT h
        have hr := Option.some.inj h
        subst hr
        exact Sys.endX [((4, 3), .ix), ((4, 4), .agg (EncX.encX v14)), ((4, 5), .callL [.c (.agg (EncX.encX v14)), .pt 0 1 0, .pt 1 1 0] [⟨1, (slices_IndexFunc_c1 o0_0 o0_1 o0_2 o0_3 o0_4)⟩, ⟨1, [dInt o1_0]⟩] (dB true) [⟨1, (slices_IndexFunc_c1 o0_0 o0_1 o0_2 o0_3 o0_4)⟩, ⟨1, [dInt o1_0]⟩] (dB true) [⟨1, (slices_IndexFunc_c1 o0_0 o0_1 o0_2 o0_3 o0_4)⟩, ⟨1, [dInt o1_0]⟩])] (And.intro (atI_b h4) (And.intro (span_at 0 15 (by decide) (atI_g h4)) (And.intro (And.intro (rfl : nodupB [0, 1] = true) (And.intro (locS_cons (all := [0, 1]) (st := [⟨1, (slices_IndexFunc_c1 o0_0 o0_1 o0_2 o0_3 o0_4)⟩, ⟨1, [dInt o1_0]⟩]) (id := 0) (ids := [1]) (ver := 0) (cs := (slices_IndexFunc_c1 o0_0 o0_1 o0_2 o0_3 o0_4)) (cs' := (slices_IndexFunc_c1 o0_0 o0_1 o0_2 o0_3 o0_4)) rfl ((by kernel_rfl : locL [0, 1] [⟨1, (slices_IndexFunc_c1 o0_0 o0_1 o0_2 o0_3 o0_4)⟩, ⟨1, [dInt o1_0]⟩] (slices_IndexFunc_c1 o0_0 o0_1 o0_2 o0_3 o0_4) = some (slices_IndexFunc_c1 o0_0 o0_1 o0_2 o0_3 o0_4))) (locS_cons (all := [0, 1]) (st := [⟨1, (slices_IndexFunc_c1 o0_0 o0_1 o0_2 o0_3 o0_4)⟩, ⟨1, [dInt o1_0]⟩]) (id := 1) (ids := []) (ver := 0) (cs := [dInt o1_0]) (cs' := [dInt o1_0]) rfl ((by kernel_rfl : locL [0, 1] [⟨1, (slices_IndexFunc_c1 o0_0 o0_1 o0_2 o0_3 o0_4)⟩, ⟨1, [dInt o1_0]⟩] [dInt o1_0] = some [dInt o1_0])) (locS_nil _ _))) (by kernel_rfl : locL [0, 1] [⟨1, (slices_IndexFunc_c1 o0_0 o0_1 o0_2 o0_3 o0_4)⟩, ⟨1, [dInt o1_0]⟩] [.c (.agg (EncX.encX v14)), .pt 0 1 0, .pt 1 1 0] = some [.c (.agg (EncX.encX v14)), .pt 0 1 0, .pt 1 1 0]))) (And.intro (h5) (And.intro (by kernel_rfl : bkD [0, 1] [1, 1] (dB true) = some (dB true)) (putBack_cons (sel := [0, 1]) (vs := [1, 1]) (id := 0) (v := 1) (ver := 1) (ids := [1]) (ws := [1]) (cs := (slices_IndexFunc_c1 o0_0 o0_1 o0_2 o0_3 o0_4)) (cs' := (slices_IndexFunc_c1 o0_0 o0_1 o0_2 o0_3 o0_4)) (st := [⟨1, (slices_IndexFunc_c1 o0_0 o0_1 o0_2 o0_3 o0_4)⟩, ⟨1, [dInt o1_0]⟩]) (st' := [⟨1, (slices_IndexFunc_c1 o0_0 o0_1 o0_2 o0_3 o0_4)⟩, ⟨1, [dInt o1_0]⟩]) ((by kernel_rfl : bkL [0, 1] [1, 1] (slices_IndexFunc_c1 o0_0 o0_1 o0_2 o0_3 o0_4) = some (slices_IndexFunc_c1 o0_0 o0_1 o0_2 o0_3 o0_4))) rfl (putBack_cons (sel := [0, 1]) (vs := [1, 1]) (id := 1) (v := 1) (ver := 1) (ids := []) (ws := []) (cs := [dInt o1_0]) (cs' := [dInt o1_0]) (st := [⟨1, (slices_IndexFunc_c1 o0_0 o0_1 o0_2 o0_3 o0_4)⟩, ⟨1, [dInt o1_0]⟩]) (st' := [⟨1, (slices_IndexFunc_c1 o0_0 o0_1 o0_2 o0_3 o0_4)⟩, ⟨1, [dInt o1_0]⟩]) ((by kernel_rfl : bkL [0, 1] [1, 1] [dInt o1_0] = some [dInt o1_0])) rfl (putBack_nil _ _ [] _)))))))) rfl (by kernel_rfl)
      | false =>
        replace h := condF h
        by_cases h8 : InR (v8 + 1)
        case neg => exact absurd (iteF h8 h) (by simp)
        replace h := iteT h8 h
        refine Sys.to [((4, 3), .ix), ((4, 4), .agg (EncX.encX v14)), ((4, 5), .callL [.c (.agg (EncX.encX v14)), .pt 0 1 0, .pt 1 1 0] [⟨1, (slices_IndexFunc_c1 o0_0 o0_1 o0_2 o0_3 o0_4)⟩, ⟨1, [dInt o1_0]⟩] (dB false) [⟨1, (slices_IndexFunc_c1 o0_0 o0_1 o0_2 o0_3 o0_4)⟩, ⟨1, [dInt o1_0]⟩] (dB false) [⟨1, (slices_IndexFunc_c1 o0_0 o0_1 o0_2 o0_3 o0_4)⟩, ⟨1, [dInt o1_0]⟩]), ((6, 0), .n)] 999999 (.fin .normal) ⟨fl [(0, .c (eSl p0)), (1, .fn 39 [] [.pt 0 1 0, .pt 1 1 0]), (7, dInt (p0.l.length : Int)), (8, dInt (v8 + 1))], ⟨[⟨1, (slices_IndexFunc_c1 o0_0 o0_1 o0_2 o0_3 o0_4)⟩, ⟨1, [dInt o1_0]⟩], []⟩⟩ (And.intro (atI_b h4) (And.intro (span_at 0 15 (by decide) (atI_g h4)) (And.intro (And.intro (rfl : nodupB [0, 1] = true) (And.intro (locS_cons (all := [0, 1]) (st := [⟨1, (slices_IndexFunc_c1 o0_0 o0_1 o0_2 o0_3 o0_4)⟩, ⟨1, [dInt o1_0]⟩]) (id := 0) (ids := [1]) (ver := 0) (cs := (slices_IndexFunc_c1 o0_0 o0_1 o0_2 o0_3 o0_4)) (cs' := (slices_IndexFunc_c1 o0_0 o0_1 o0_2 o0_3 o0_4)) rfl ((by kernel_rfl : locL [0, 1] [⟨1, (slices_IndexFunc_c1 o0_0 o0_1 o0_2 o0_3 o0_4)⟩, ⟨1, [dInt o1_0]⟩] (slices_IndexFunc_c1 o0_0 o0_1 o0_2 o0_3 o0_4) = some (slices_IndexFunc_c1 o0_0 o0_1 o0_2 o0_3 o0_4))) (locS_cons (all := [0, 1]) (st := [⟨1, (slices_IndexFunc_c1 o0_0 o0_1 o0_2 o0_3 o0_4)⟩, ⟨1, [dInt o1_0]⟩]) (id := 1) (ids := []) (ver := 0) (cs := [dInt o1_0]) (cs' := [dInt o1_0]) rfl ((by kernel_rfl : locL [0, 1] [⟨1, (slices_IndexFunc_c1 o0_0 o0_1 o0_2 o0_3 o0_4)⟩, ⟨1, [dInt o1_0]⟩] [dInt o1_0] = some [dInt o1_0])) (locS_nil _ _))) (by kernel_rfl : locL [0, 1] [⟨1, (slices_IndexFunc_c1 o0_0 o0_1 o0_2 o0_3 o0_4)⟩, ⟨1, [dInt o1_0]⟩] [.c (.agg (EncX.encX v14)), .pt 0 1 0, .pt 1 1 0] = some [.c (.agg (EncX.encX v14)), .pt 0 1 0, .pt 1 1 0]))) (And.intro (h5) (And.intro (And.intro (by kernel_rfl : bkD [0, 1] [1, 1] (dB false) = some (dB false)) (putBack_cons (sel := [0, 1]) (vs := [1, 1]) (id := 0) (v := 1) (ver := 1) (ids := [1]) (ws := [1]) (cs := (slices_IndexFunc_c1 o0_0 o0_1 o0_2 o0_3 o0_4)) (cs' := (slices_IndexFunc_c1 o0_0 o0_1 o0_2 o0_3 o0_4)) (st := [⟨1, (slices_IndexFunc_c1 o0_0 o0_1 o0_2 o0_3 o0_4)⟩, ⟨1, [dInt o1_0]⟩]) (st' := [⟨1, (slices_IndexFunc_c1 o0_0 o0_1 o0_2 o0_3 o0_4)⟩, ⟨1, [dInt o1_0]⟩]) ((by kernel_rfl : bkL [0, 1] [1, 1] (slices_IndexFunc_c1 o0_0 o0_1 o0_2 o0_3 o0_4) = some (slices_IndexFunc_c1 o0_0 o0_1 o0_2 o0_3 o0_4))) rfl (putBack_cons (sel := [0, 1]) (vs := [1, 1]) (id := 1) (v := 1) (ver := 1) (ids := []) (ws := []) (cs := [dInt o1_0]) (cs' := [dInt o1_0]) (st := [⟨1, (slices_IndexFunc_c1 o0_0 o0_1 o0_2 o0_3 o0_4)⟩, ⟨1, [dInt o1_0]⟩]) (st' := [⟨1, (slices_IndexFunc_c1 o0_0 o0_1 o0_2 o0_3 o0_4)⟩, ⟨1, [dInt o1_0]⟩]) ((by kernel_rfl : bkL [0, 1] [1, 1] [dInt o1_0] = some [dInt o1_0])) rfl (putBack_nil _ _ [] _)))) (h8)))))) (by kernel_rfl) ?_
        exact Sys.fin (.inl ⟨rfl, ⟨fl [(0, .c (eSl p0)), (1, .fn 39 [] [.pt 0 1 0, .pt 1 1 0]), (7, dInt (p0.l.length : Int)), (8, dInt (v8 + 1))], ⟨[⟨1, (slices_IndexFunc_c1 o0_0 o0_1 o0_2 o0_3 o0_4)⟩, ⟨1, [dInt o1_0]⟩], []⟩⟩, (by kernel_rfl), ih (v8 + 1) _ h _ (by kernel_rfl)⟩)
    · replace h := iteF h1 h
      have hr := Option.some.inj h
      subst hr
      exact Sys.endX [((2, 0), .b false)] (h1) rfl (by kernel_rfl)

def slices_IndexFunc (n : Nat) (p0 : Sl GEdge) (o0_0 : ByteArray) (o0_1 : Bool) (o0_2 : Int) (o0_3 : Sl GEdge) (o0_4 : Sl GGuard) (o1_0 : Int) : Option Int :=
  (slices_IndexFunc_L2 p0 o0_0 o0_1 o0_2 o0_3 o0_4 o1_0 n n 0).bind fun o_2 => match o_2 with
  | .r v4 =>
    some v4
  | .e0 v8_2 =>
    some (-1)
theorem slices_IndexFunc_ok {n : Nat} {p0 : Sl GEdge} {o0_0 : ByteArray} {o0_1 : Bool} {o0_2 : Int} {o0_3 : Sl GEdge} {o0_4 : Sl GGuard} {o1_0 : Int} {r : Int} (h : slices_IndexFunc n p0 o0_0 o0_1 o0_2 o0_3 o0_4 o1_0 = some r) : X.RunsL 54 [.c (eSl p0), .fn 39 [] [.pt 0 1 0, .pt 1 1 0]] [⟨1, (slices_IndexFunc_c1 o0_0 o0_1 o0_2 o0_3 o0_4)⟩, ⟨1, [dInt o1_0]⟩] (dInt r) [⟨1, (slices_IndexFunc_c1 o0_0 o0_1 o0_2 o0_3 o0_4)⟩, ⟨1, [dInt o1_0]⟩] := by
  unfold slices_IndexFunc at h
  refine Sys.callL' (fn := Try.f54) (b := b54) (by kernel_rfl) (by kernel_rfl) rfl ?_
  obtain ⟨o_2, g3, h⟩ := bindE h
  have h3 := slices_IndexFunc_L2_ok p0 o0_0 o0_1 o0_2 o0_3 o0_4 o1_0 n n 0 _ g3
  cases o_2 with
  | r v4 =>
    dsimp only at h
    have hr := Option.some.inj h
    subst hr
    refine Sys.to [((2, 1000), .code .ret ⟨fl [(4, dInt v4)], ⟨[⟨1, (slices_IndexFunc_c1 o0_0 o0_1 o0_2 o0_3 o0_4)⟩, ⟨1, [dInt o1_0]⟩], []⟩⟩)] 999999 (.fin .ret) ⟨fl [(4, dInt v4)], ⟨[⟨1, (slices_IndexFunc_c1 o0_0 o0_1 o0_2 o0_3 o0_4)⟩, ⟨1, [dInt o1_0]⟩], []⟩⟩ (Sys.Loop.goM (h3 ⟨fl [(0, .c (eSl p0)), (1, .fn 39 [] [.pt 0 1 0, .pt 1 1 0]), (7, dInt (p0.l.length : Int)), (8, dInt 0)], ⟨[⟨1, (slices_IndexFunc_c1 o0_0 o0_1 o0_2 o0_3 o0_4)⟩, ⟨1, [dInt o1_0]⟩], []⟩⟩ (by kernel_rfl)) (by kernel_rfl)) (by kernel_rfl) ?_
    exact Sys.fin ⟨rfl, (dInt v4), (by kernel_rfl), endL_below rfl (AllB.cons rfl (AllB.cons rfl (AllB.nil 2))) rfl rfl⟩
  | e0 v8_2 =>
    dsimp only at h
    have hr := Option.some.inj h
    subst hr
    refine Sys.to [((2, 1000), .code (.exit 0) ⟨fl [(0, .c (eSl p0)), (1, .fn 39 [] [.pt 0 1 0, .pt 1 1 0]), (7, dInt (p0.l.length : Int)), (8, dInt v8_2), (9, dB false)], ⟨[⟨1, (slices_IndexFunc_c1 o0_0 o0_1 o0_2 o0_3 o0_4)⟩, ⟨1, [dInt o1_0]⟩], []⟩⟩)] 999999 (.fin .ret) ⟨fl [(4, dInt (-1))], ⟨[⟨1, (slices_IndexFunc_c1 o0_0 o0_1 o0_2 o0_3 o0_4)⟩, ⟨1, [dInt o1_0]⟩], []⟩⟩ (Sys.Loop.goM (h3 ⟨fl [(0, .c (eSl p0)), (1, .fn 39 [] [.pt 0 1 0, .pt 1 1 0]), (7, dInt (p0.l.length : Int)), (8, dInt 0)], ⟨[⟨1, (slices_IndexFunc_c1 o0_0 o0_1 o0_2 o0_3 o0_4)⟩, ⟨1, [dInt o1_0]⟩], []⟩⟩ (by kernel_rfl)) (by kernel_rfl)) (by kernel_rfl) ?_
    exact Sys.fin ⟨rfl, (dInt (-1)), (by kernel_rfl), endL_below rfl (AllB.cons rfl (AllB.cons rfl (AllB.nil 2))) rfl rfl⟩
def slices_ContainsFunc_c1 (o0_0 : ByteArray) (o0_1 : Bool) (o0_2 : Int) (o0_3 : Sl GEdge) (o0_4 : Sl GGuard) : List DV := [.c (.sc (.string o0_0)), dB o0_1, dInt o0_2, .c (eSl o0_3), .c (eSl o0_4)]
def slices_ContainsFunc (n : Nat) (p0 : Sl GEdge) (o0_0 : ByteArray) (o0_1 : Bool) (o0_2 : Int) (o0_3 : Sl GEdge) (o0_4 : Sl GGuard) (o1_0 : Int) : Option Bool :=
  (slices_IndexFunc n p0 o0_0 o0_1 o0_2 o0_3 o0_4 o1_0).bind fun x =>
  if x ≥ 0 then
    some true
  else some false
theorem slices_ContainsFunc_ok {n : Nat} {p0 : Sl GEdge} {o0_0 : ByteArray} {o0_1 : Bool} {o0_2 : Int} {o0_3 : Sl GEdge} {o0_4 : Sl GGuard} {o1_0 : Int} {r : Bool} (h : slices_ContainsFunc n p0 o0_0 o0_1 o0_2 o0_3 o0_4 o1_0 = some r) : X.RunsL 41 [.c (eSl p0), .fn 39 [] [.pt 0 1 0, .pt 1 1 0]] [⟨1, (slices_ContainsFunc_c1 o0_0 o0_1 o0_2 o0_3 o0_4)⟩, ⟨1, [dInt o1_0]⟩] (dB r) [⟨1, (slices_ContainsFunc_c1 o0_0 o0_1 o0_2 o0_3 o0_4)⟩, ⟨1, [dInt o1_0]⟩] := by
  unfold slices_ContainsFunc at h
  refine Sys.callL' (fn := Try.f41) (b := b41) (by kernel_rfl) (by kernel_rfl) rfl ?_
  obtain ⟨x, g2, h⟩ := bindE h
  have h2 := slices_IndexFunc_ok g2
  by_cases h3 : x ≥ 0
  · replace h := iteT h3 h
    have hr := Option.some.inj h
    subst hr
    refine Sys.to [((1, 2), .callL [.c (eSl p0), .fn 39 [] [.pt 0 1 0, .pt 1 1 0]] [⟨1, (slices_ContainsFunc_c1 o0_0 o0_1 o0_2 o0_3 o0_4)⟩, ⟨1, [dInt o1_0]⟩] (dInt x) [⟨1, (slices_ContainsFunc_c1 o0_0 o0_1 o0_2 o0_3 o0_4)⟩, ⟨1, [dInt o1_0]⟩] (dInt x) [⟨1, (slices_ContainsFunc_c1 o0_0 o0_1 o0_2 o0_3 o0_4)⟩, ⟨1, [dInt o1_0]⟩]), ((1, 3), .b true)] 999999 (.fin .ret) ⟨fl [(4, dB true)], ⟨[⟨1, (slices_ContainsFunc_c1 o0_0 o0_1 o0_2 o0_3 o0_4)⟩, ⟨1, [dInt o1_0]⟩], []⟩⟩ (And.intro (And.intro (rfl : nodupB [0, 1] = true) (And.intro (locS_cons (all := [0, 1]) (st := [⟨1, (slices_ContainsFunc_c1 o0_0 o0_1 o0_2 o0_3 o0_4)⟩, ⟨1, [dInt o1_0]⟩]) (id := 0) (ids := [1]) (ver := 0) (cs := (slices_ContainsFunc_c1 o0_0 o0_1 o0_2 o0_3 o0_4)) (cs' := (slices_ContainsFunc_c1 o0_0 o0_1 o0_2 o0_3 o0_4)) rfl ((by kernel_rfl : locL [0, 1] [⟨1, (slices_ContainsFunc_c1 o0_0 o0_1 o0_2 o0_3 o0_4)⟩, ⟨1, [dInt o1_0]⟩] (slices_ContainsFunc_c1 o0_0 o0_1 o0_2 o0_3 o0_4) = some (slices_ContainsFunc_c1 o0_0 o0_1 o0_2 o0_3 o0_4))) (locS_cons (all := [0, 1]) (st := [⟨1, (slices_ContainsFunc_c1 o0_0 o0_1 o0_2 o0_3 o0_4)⟩, ⟨1, [dInt o1_0]⟩]) (id := 1) (ids := []) (ver := 0) (cs := [dInt o1_0]) (cs' := [dInt o1_0]) rfl ((by kernel_rfl : locL [0, 1] [⟨1, (slices_ContainsFunc_c1 o0_0 o0_1 o0_2 o0_3 o0_4)⟩, ⟨1, [dInt o1_0]⟩] [dInt o1_0] = some [dInt o1_0])) (locS_nil _ _))) (by kernel_rfl : locL [0, 1] [⟨1, (slices_ContainsFunc_c1 o0_0 o0_1 o0_2 o0_3 o0_4)⟩, ⟨1, [dInt o1_0]⟩] [.c (eSl p0), .fn 39 [] [.pt 0 1 0, .pt 1 1 0]] = some [.c (eSl p0), .fn 39 [] [.pt 0 1 0, .pt 1 1 0]]))) (And.intro (h2) (And.intro (And.intro (by kernel_rfl : bkD [0, 1] [1, 1] (dInt x) = some (dInt x)) (putBack_cons (sel := [0, 1]) (vs := [1, 1]) (id := 0) (v := 1) (ver := 1) (ids := [1]) (ws := [1]) (cs := (slices_ContainsFunc_c1 o0_0 o0_1 o0_2 o0_3 o0_4)) (cs' := (slices_ContainsFunc_c1 o0_0 o0_1 o0_2 o0_3 o0_4)) (st := [⟨1, (slices_ContainsFunc_c1 o0_0 o0_1 o0_2 o0_3 o0_4)⟩, ⟨1, [dInt o1_0]⟩]) (st' := [⟨1, (slices_ContainsFunc_c1 o0_0 o0_1 o0_2 o0_3 o0_4)⟩, ⟨1, [dInt o1_0]⟩]) ((by kernel_rfl : bkL [0, 1] [1, 1] (slices_ContainsFunc_c1 o0_0 o0_1 o0_2 o0_3 o0_4) = some (slices_ContainsFunc_c1 o0_0 o0_1 o0_2 o0_3 o0_4))) rfl (putBack_cons (sel := [0, 1]) (vs := [1, 1]) (id := 1) (v := 1) (ver := 1) (ids := []) (ws := []) (cs := [dInt o1_0]) (cs' := [dInt o1_0]) (st := [⟨1, (slices_ContainsFunc_c1 o0_0 o0_1 o0_2 o0_3 o0_4)⟩, ⟨1, [dInt o1_0]⟩]) (st' := [⟨1, (slices_ContainsFunc_c1 o0_0 o0_1 o0_2 o0_3 o0_4)⟩, ⟨1, [dInt o1_0]⟩]) ((by kernel_rfl : bkL [0, 1] [1, 1] [dInt o1_0] = some [dInt o1_0])) rfl (putBack_nil _ _ [] _)))) (h3)))) (by kernel_rfl) ?_
    exact Sys.fin ⟨rfl, (dB true), (by kernel_rfl), endL_below rfl (AllB.cons rfl (AllB.cons rfl (AllB.nil 2))) rfl rfl⟩
  · replace h := iteF h3 h
    have hr := Option.some.inj h
    subst hr
    refine Sys.to [((1, 2), .callL [.c (eSl p0), .fn 39 [] [.pt 0 1 0, .pt 1 1 0]] [⟨1, (slices_ContainsFunc_c1 o0_0 o0_1 o0_2 o0_3 o0_4)⟩, ⟨1, [dInt o1_0]⟩] (dInt x) [⟨1, (slices_ContainsFunc_c1 o0_0 o0_1 o0_2 o0_3 o0_4)⟩, ⟨1, [dInt o1_0]⟩] (dInt x) [⟨1, (slices_ContainsFunc_c1 o0_0 o0_1 o0_2 o0_3 o0_4)⟩, ⟨1, [dInt o1_0]⟩]), ((1, 3), .b false)] 999999 (.fin .ret) ⟨fl [(4, dB false)], ⟨[⟨1, (slices_ContainsFunc_c1 o0_0 o0_1 o0_2 o0_3 o0_4)⟩, ⟨1, [dInt o1_0]⟩], []⟩⟩ (And.intro (And.intro (rfl : nodupB [0, 1] = true) (And.intro (locS_cons (all := [0, 1]) (st := [⟨1, (slices_ContainsFunc_c1 o0_0 o0_1 o0_2 o0_3 o0_4)⟩, ⟨1, [dInt o1_0]⟩]) (id := 0) (ids := [1]) (ver := 0) (cs := (slices_ContainsFunc_c1 o0_0 o0_1 o0_2 o0_3 o0_4)) (cs' := (slices_ContainsFunc_c1 o0_0 o0_1 o0_2 o0_3 o0_4)) rfl ((by kernel_rfl : locL [0, 1] [⟨1, (slices_ContainsFunc_c1 o0_0 o0_1 o0_2 o0_3 o0_4)⟩, ⟨1, [dInt o1_0]⟩] (slices_ContainsFunc_c1 o0_0 o0_1 o0_2 o0_3 o0_4) = some (slices_ContainsFunc_c1 o0_0 o0_1 o0_2 o0_3 o0_4))) (locS_cons (all := [0, 1]) (st := [⟨1, (slices_ContainsFunc_c1 o0_0 o0_1 o0_2 o0_3 o0_4)⟩, ⟨1, [dInt o1_0]⟩]) (id := 1) (ids := []) (ver := 0) (cs := [dInt o1_0]) (cs' := [dInt o1_0]) rfl ((by kernel_rfl : locL [0, 1] [⟨1, (slices_ContainsFunc_c1 o0_0 o0_1 o0_2 o0_3 o0_4)⟩, ⟨1, [dInt o1_0]⟩] [dInt o1_0] = some [dInt o1_0])) (locS_nil _ _))) (by kernel_rfl : locL [0, 1] [⟨1, (slices_ContainsFunc_c1 o0_0 o0_1 o0_2 o0_3 o0_4)⟩, ⟨1, [dInt o1_0]⟩] [.c (eSl p0), .fn 39 [] [.pt 0 1 0, .pt 1 1 0]] = some [.c (eSl p0), .fn 39 [] [.pt 0 1 0, .pt 1 1 0]]))) (And.intro (h2) (And.intro (And.intro (by kernel_rfl : bkD [0, 1] [1, 1] (dInt x) = some (dInt x)) (putBack_cons (sel := [0, 1]) (vs := [1, 1]) (id := 0) (v := 1) (ver := 1) (ids := [1]) (ws := [1]) (cs := (slices_ContainsFunc_c1 o0_0 o0_1 o0_2 o0_3 o0_4)) (cs' := (slices_ContainsFunc_c1 o0_0 o0_1 o0_2 o0_3 o0_4)) (st := [⟨1, (slices_ContainsFunc_c1 o0_0 o0_1 o0_2 o0_3 o0_4)⟩, ⟨1, [dInt o1_0]⟩]) (st' := [⟨1, (slices_ContainsFunc_c1 o0_0 o0_1 o0_2 o0_3 o0_4)⟩, ⟨1, [dInt o1_0]⟩]) ((by kernel_rfl : bkL [0, 1] [1, 1] (slices_ContainsFunc_c1 o0_0 o0_1 o0_2 o0_3 o0_4) = some (slices_ContainsFunc_c1 o0_0 o0_1 o0_2 o0_3 o0_4))) rfl (putBack_cons (sel := [0, 1]) (vs := [1, 1]) (id := 1) (v := 1) (ver := 1) (ids := []) (ws := []) (cs := [dInt o1_0]) (cs' := [dInt o1_0]) (st := [⟨1, (slices_ContainsFunc_c1 o0_0 o0_1 o0_2 o0_3 o0_4)⟩, ⟨1, [dInt o1_0]⟩]) (st' := [⟨1, (slices_ContainsFunc_c1 o0_0 o0_1 o0_2 o0_3 o0_4)⟩, ⟨1, [dInt o1_0]⟩]) ((by kernel_rfl : bkL [0, 1] [1, 1] [dInt o1_0] = some [dInt o1_0])) rfl (putBack_nil _ _ [] _)))) (h3)))) (by kernel_rfl) ?_
    exact Sys.fin ⟨rfl, (dB false), (by kernel_rfl), endL_below rfl (AllB.cons rfl (AllB.cons rfl (AllB.nil 2))) rfl rfl⟩
def held_isShaped_c1 (p0 : GFlow) : List DV := [.c (.sc (.string p0.name)), dB p0.star, dInt p0.locs, .c (eSl p0.edges), .c (eSl p0.guards)]
inductive held_isShaped_J1O where
  | r
  | m
def held_isShaped_J1x : held_isShaped_J1O → Ex
  | .r => .ret
  | .m => .normal
def held_isShaped_J1s (p0 : GFlow) (p1 : Int) : held_isShaped_J1O → S
  | .r => ⟨fl [(4, dB false)], ⟨[⟨1, (EncX.encX p0).map DV.c⟩, ⟨1, [dInt p1]⟩], []⟩⟩
  | .m => ⟨fl [(2, .pt 0 1 0), (3, .pt 1 1 0), (21, dB false)], ⟨[⟨1, (EncX.encX p0).map DV.c⟩, ⟨1, [dInt p1]⟩], []⟩⟩
def held_isShaped_J1 (p0 : GFlow) (p1 : Int) (n : Nat) : Option held_isShaped_J1O :=
  if p0.locs < 1 then
    some (.r)
  else if p0.locs > 600 then
    some (.r)
  else if p1 < 0 then
    some (.r)
  else if p1 > 8 then
    some (.r)
  else some (.m)
theorem held_isShaped_J1_ok (p0 : GFlow) (p1 : Int) (n : Nat) (o : held_isShaped_J1O) (h : held_isShaped_J1 p0 p1 n = some o) : X.Go 31 28 [] (sub b31 [1, 0]) ⟨fl [(2, .pt 0 1 0), (3, .pt 1 1 0)], ⟨[⟨1, (EncX.encX p0).map DV.c⟩, ⟨1, [dInt p1]⟩], []⟩⟩ (held_isShaped_J1x o) (held_isShaped_J1s p0 p1 o) := by
  unfold held_isShaped_J1 at h
  refine Sys.goE ?_
  by_cases h1 : p0.locs < 1
  · replace h := iteT h1 h
    have hr := Option.some.inj h
    subst hr
    exact Sys.endJ [((1, 2), .b true)] (h1) (by kernel_rfl)
  · replace h := iteF h1 h
    by_cases h2 : p0.locs > 600
    · replace h := iteT h2 h
      have hr := Option.some.inj h
      subst hr
      exact Sys.endJ [((1, 2), .b false), ((1, 6), .b true)] (And.intro (h1) (h2)) (by kernel_rfl)
    · replace h := iteF h2 h
      by_cases h3 : p1 < 0
      · replace h := iteT h3 h
        have hr := Option.some.inj h
        subst hr
        exact Sys.endJ [((1, 2), .b false), ((1, 6), .b false), ((1, 10), .b true)] (And.intro (h1) (And.intro (h2) (h3))) (by kernel_rfl)
      · replace h := iteF h3 h
        by_cases h4 : p1 > 8
        · replace h := iteT h4 h
          have hr := Option.some.inj h
          subst hr
          exact Sys.endJ [((1, 2), .b false), ((1, 6), .b false), ((1, 10), .b false), ((1, 14), .b true)] (And.intro (h1) (And.intro (h2) (And.intro (h3) (h4)))) (by kernel_rfl)
        · replace h := iteF h4 h
          have hr := Option.some.inj h
          subst hr
          exact Sys.endJ [((1, 2), .b false), ((1, 6), .b false), ((1, 10), .b false), ((1, 14), .b false)] (And.intro (h1) (And.intro (h2) (And.intro (h3) (h4)))) (by kernel_rfl)

def held_isShaped (n : Nat) (p0 : GFlow) (p1 : Int) : Option Bool :=
  (held_isShaped_J1 p0 p1 n).bind fun o_2 => match o_2 with
  | .r =>
    some false
  | .m =>
    (slices_ContainsFunc n p0.edges p0.name p0.star p0.locs p0.edges p0.guards p1).bind fun x =>
    bif x then
      some false
    else some true
theorem held_isShaped_ok {n : Nat} {p0 : GFlow} {p1 : Int} {r : Bool} (h : held_isShaped n p0 p1 = some r) : X.RunsC 31 [.c (.agg (EncX.encX p0)), dInt p1] (dB r) := by
  unfold held_isShaped at h
  refine Sys.callC' (fn := Try.f31) (b := b31) (by kernel_rfl) (by kernel_rfl) ?_
  refine Sys.to [] 201001 (.at [1, 0]) ⟨fl [(2, .pt 0 1 0), (3, .pt 1 1 0)], ⟨[⟨1, (EncX.encX p0).map DV.c⟩, ⟨1, [dInt p1]⟩], []⟩⟩ (True.intro) (by kernel_rfl) ?_
  obtain ⟨o_2, g2, h⟩ := bindE h
  have h2 := held_isShaped_J1_ok p0 p1 n _ g2
  cases o_2 with
  | r =>
    dsimp only at h
    refine Sys.over h2 ?_
    have hr := Option.some.inj h
    subst hr
    exact Sys.endC [] (True.intro) (by kernel_rfl)
  | m =>
    dsimp only at h
    refine Sys.over h2 ?_
    obtain ⟨x, g5, h⟩ := bindE h
    have h5 := slices_ContainsFunc_ok g5
    cases x with
    | true =>
      replace h := condT h
      have hr := Option.some.inj h
      subst hr
      exact Sys.endC [((4, 3), .callL [.c (eSl p0.edges), .fn 39 [] [.pt 0 1 0, .pt 1 1 0]] [⟨1, (held_isShaped_c1 p0)⟩, ⟨1, [dInt p1]⟩] (dB true) [⟨1, (held_isShaped_c1 p0)⟩, ⟨1, [dInt p1]⟩] (dB true) [⟨1, (held_isShaped_c1 p0)⟩, ⟨1, [dInt p1]⟩])] (And.intro (And.intro (rfl : nodupB [0, 1] = true) (And.intro (locS_cons (all := [0, 1]) (st := [⟨1, (EncX.encX p0).map DV.c⟩, ⟨1, [dInt p1]⟩]) (id := 0) (ids := [1]) (ver := 0) (cs := (EncX.encX p0).map DV.c) (cs' := (held_isShaped_c1 p0)) rfl ((by kernel_rfl : locL [0, 1] [⟨1, (EncX.encX p0).map DV.c⟩, ⟨1, [dInt p1]⟩] ((EncX.encX p0).map DV.c) = some (held_isShaped_c1 p0))) (locS_cons (all := [0, 1]) (st := [⟨1, (EncX.encX p0).map DV.c⟩, ⟨1, [dInt p1]⟩]) (id := 1) (ids := []) (ver := 0) (cs := [dInt p1]) (cs' := [dInt p1]) rfl ((by kernel_rfl : locL [0, 1] [⟨1, (EncX.encX p0).map DV.c⟩, ⟨1, [dInt p1]⟩] [dInt p1] = some [dInt p1])) (locS_nil _ _))) (by kernel_rfl : locL [0, 1] [⟨1, (EncX.encX p0).map DV.c⟩, ⟨1, [dInt p1]⟩] [.c (eSl p0.edges), .fn 39 [] [.pt 0 1 0, .pt 1 1 0]] = some [.c (eSl p0.edges), .fn 39 [] [.pt 0 1 0, .pt 1 1 0]]))) (And.intro (h5) (And.intro (by kernel_rfl : bkD [0, 1] [1, 1] (dB true) = some (dB true)) (putBack_cons (sel := [0, 1]) (vs := [1, 1]) (id := 0) (v := 1) (ver := 1) (ids := [1]) (ws := [1]) (cs := (held_isShaped_c1 p0)) (cs' := (held_isShaped_c1 p0)) (st := [⟨1, (EncX.encX p0).map DV.c⟩, ⟨1, [dInt p1]⟩]) (st' := [⟨1, (held_isShaped_c1 p0)⟩, ⟨1, [dInt p1]⟩]) ((by kernel_rfl : bkL [0, 1] [1, 1] (held_isShaped_c1 p0) = some (held_isShaped_c1 p0))) rfl (putBack_cons (sel := [0, 1]) (vs := [1, 1]) (id := 1) (v := 1) (ver := 1) (ids := []) (ws := []) (cs := [dInt p1]) (cs' := [dInt p1]) (st := [⟨1, (held_isShaped_c1 p0)⟩, ⟨1, [dInt p1]⟩]) (st' := [⟨1, (held_isShaped_c1 p0)⟩, ⟨1, [dInt p1]⟩]) ((by kernel_rfl : bkL [0, 1] [1, 1] [dInt p1] = some [dInt p1])) rfl (putBack_nil _ _ [] _)))))) (by kernel_rfl)
    | false =>
      replace h := condF h
      have hr := Option.some.inj h
      subst hr
      exact Sys.endC [((4, 3), .callL [.c (eSl p0.edges), .fn 39 [] [.pt 0 1 0, .pt 1 1 0]] [⟨1, (held_isShaped_c1 p0)⟩, ⟨1, [dInt p1]⟩] (dB false) [⟨1, (held_isShaped_c1 p0)⟩, ⟨1, [dInt p1]⟩] (dB false) [⟨1, (held_isShaped_c1 p0)⟩, ⟨1, [dInt p1]⟩])] (And.intro (And.intro (rfl : nodupB [0, 1] = true) (And.intro (locS_cons (all := [0, 1]) (st := [⟨1, (EncX.encX p0).map DV.c⟩, ⟨1, [dInt p1]⟩]) (id := 0) (ids := [1]) (ver := 0) (cs := (EncX.encX p0).map DV.c) (cs' := (held_isShaped_c1 p0)) rfl ((by kernel_rfl : locL [0, 1] [⟨1, (EncX.encX p0).map DV.c⟩, ⟨1, [dInt p1]⟩] ((EncX.encX p0).map DV.c) = some (held_isShaped_c1 p0))) (locS_cons (all := [0, 1]) (st := [⟨1, (EncX.encX p0).map DV.c⟩, ⟨1, [dInt p1]⟩]) (id := 1) (ids := []) (ver := 0) (cs := [dInt p1]) (cs' := [dInt p1]) rfl ((by kernel_rfl : locL [0, 1] [⟨1, (EncX.encX p0).map DV.c⟩, ⟨1, [dInt p1]⟩] [dInt p1] = some [dInt p1])) (locS_nil _ _))) (by kernel_rfl : locL [0, 1] [⟨1, (EncX.encX p0).map DV.c⟩, ⟨1, [dInt p1]⟩] [.c (eSl p0.edges), .fn 39 [] [.pt 0 1 0, .pt 1 1 0]] = some [.c (eSl p0.edges), .fn 39 [] [.pt 0 1 0, .pt 1 1 0]]))) (And.intro (h5) (And.intro (by kernel_rfl : bkD [0, 1] [1, 1] (dB false) = some (dB false)) (putBack_cons (sel := [0, 1]) (vs := [1, 1]) (id := 0) (v := 1) (ver := 1) (ids := [1]) (ws := [1]) (cs := (held_isShaped_c1 p0)) (cs' := (held_isShaped_c1 p0)) (st := [⟨1, (EncX.encX p0).map DV.c⟩, ⟨1, [dInt p1]⟩]) (st' := [⟨1, (held_isShaped_c1 p0)⟩, ⟨1, [dInt p1]⟩]) ((by kernel_rfl : bkL [0, 1] [1, 1] (held_isShaped_c1 p0) = some (held_isShaped_c1 p0))) rfl (putBack_cons (sel := [0, 1]) (vs := [1, 1]) (id := 1) (v := 1) (ver := 1) (ids := []) (ws := []) (cs := [dInt p1]) (cs' := [dInt p1]) (st := [⟨1, (held_isShaped_c1 p0)⟩, ⟨1, [dInt p1]⟩]) (st' := [⟨1, (held_isShaped_c1 p0)⟩, ⟨1, [dInt p1]⟩]) ((by kernel_rfl : bkL [0, 1] [1, 1] [dInt p1] = some [dInt p1])) rfl (putBack_nil _ _ [] _)))))) (by kernel_rfl)
def held_owned_along (n : Nat) (p0 : Held_owned) (p1 : GEdge) : Option (Held_owned × Bool) :=
  if p1.kind = 4 then
    if 0 ≤ p1.mon ∧ p1.mon < (8 : Int) then if InR ((Held_owned.get p0 p1.mon.toNat) + 1) then some ((Held_owned.upd p0 p1.mon.toNat ((Held_owned.get p0 p1.mon.toNat) + 1)), true)
    else none
    else none
  else if p1.kind = 5 then
    if 0 ≤ p1.mon ∧ p1.mon < (8 : Int) then if InR ((Held_owned.get p0 p1.mon.toNat) - 1) then if (Held_owned.get (Held_owned.upd p0 p1.mon.toNat ((Held_owned.get p0 p1.mon.toNat) - 1)) p1.mon.toNat) ≥ 0 then
      some ((Held_owned.upd p0 p1.mon.toNat ((Held_owned.get p0 p1.mon.toNat) - 1)), true)
    else some ((Held_owned.upd p0 p1.mon.toNat ((Held_owned.get p0 p1.mon.toNat) - 1)), false)
    else none
    else none
  else some (p0, true)
theorem held_owned_along_ok {n : Nat} {p0 : Held_owned} {p1 : GEdge} {r : Held_owned × Bool} (h : held_owned_along n p0 p1 = some r) : X.RunsC 42 [.c (.agg (EncX.encX p0)), .c (.agg (EncX.encX p1))] (.tup [.c (.agg (EncX.encX r.1)), dB r.2]) := by
  unfold held_owned_along at h
  refine Sys.callC' (fn := Try.f42) (b := b42) (by kernel_rfl) (by kernel_rfl) ?_
  by_cases h3 : p1.kind = 4
  · replace h := iteT h3 h
    by_cases h5 : 0 ≤ p1.mon ∧ p1.mon < (8 : Int)
    case neg => exact absurd (iteF h5 h) (by simp)
    replace h := iteT h5 h
    by_cases h6 : InR ((Held_owned.get p0 p1.mon.toNat) + 1)
    case neg => exact absurd (iteF h6 h) (by simp)
    replace h := iteT h6 h
    have hr := Option.some.inj h
    subst hr
    exact Sys.endC [((2, 0), .b true), ((3, 2), .ix), ((3, 3), .cell (cInt (Held_owned.get p0 p1.mon.toNat))), ((3, 4), .n), ((3, 5), .ix), ((3, 6), .st ((EncX.encX (Held_owned.upd p0 p1.mon.toNat ((Held_owned.get p0 p1.mon.toNat) + 1))).map DV.c))] (And.intro (h3) (And.intro (h5) (And.intro (And.intro (rfl : (1 : Nat) = 1) (Held_owned.get_at p0 h5)) (And.intro (h6) (And.intro (h5) (And.intro (rfl : (1 : Nat) = 1) (Held_owned.upd_at p0 ((Held_owned.get p0 p1.mon.toNat) + 1) h5))))))) (by kernel_rfl)
  · replace h := iteF h3 h
    refine Sys.to [((2, 0), .b false)] 4 (.at [1, 0, 1, 0, 1, 1, 0]) ⟨fl [(2, .pt 0 1 0), (3, .pt 1 1 0), (4, .pt 2 1 0), (7, dInt p1.kind), (8, dB false)], ⟨[⟨1, (EncX.encX p0).map DV.c⟩, ⟨1, (EncX.encX p1).map DV.c⟩, ⟨1, (EncX.encX ({ a0 := 0, a1 := 0, a2 := 0, a3 := 0, a4 := 0, a5 := 0, a6 := 0, a7 := 0 } : Held_owned)).map DV.c⟩], []⟩⟩ (h3) (by kernel_rfl) ?_
    by_cases h5 : p1.kind = 5
    · replace h := iteT h5 h
      by_cases h7 : 0 ≤ p1.mon ∧ p1.mon < (8 : Int)
      case neg => exact absurd (iteF h7 h) (by simp)
      replace h := iteT h7 h
      by_cases h8 : InR ((Held_owned.get p0 p1.mon.toNat) - 1)
      case neg => exact absurd (iteF h8 h) (by simp)
      replace h := iteT h8 h
      refine Sys.to [((4, 0), .b true), ((5, 2), .ix), ((5, 3), .cell (cInt (Held_owned.get p0 p1.mon.toNat))), ((5, 4), .n), ((5, 5), .ix), ((5, 6), .st ((EncX.encX (Held_owned.upd p0 p1.mon.toNat ((Held_owned.get p0 p1.mon.toNat) - 1))).map DV.c))] 6 (.at [1, 0, 1, 0, 1, 1, 1, 0, 1, 0]) ⟨fl [(2, .pt 0 1 0), (3, .pt 1 1 0), (4, .pt 2 1 0)], ⟨[⟨1, (EncX.encX (Held_owned.upd p0 p1.mon.toNat ((Held_owned.get p0 p1.mon.toNat) - 1))).map DV.c⟩, ⟨1, (EncX.encX p1).map DV.c⟩, ⟨1, (EncX.encX ({ a0 := 0, a1 := 0, a2 := 0, a3 := 0, a4 := 0, a5 := 0, a6 := 0, a7 := 0 } : Held_owned)).map DV.c⟩], []⟩⟩ (And.intro (h5) (And.intro (h7) (And.intro (And.intro (rfl : (1 : Nat) = 1) (Held_owned.get_at p0 h7)) (And.intro (h8) (And.intro (h7) (And.intro (rfl : (1 : Nat) = 1) (Held_owned.upd_at p0 ((Held_owned.get p0 p1.mon.toNat) - 1) h7))))))) (by kernel_rfl) ?_
      by_cases h10 : (Held_owned.get (Held_owned.upd p0 p1.mon.toNat ((Held_owned.get p0 p1.mon.toNat) - 1)) p1.mon.toNat) ≥ 0
      · replace h := iteT h10 h
        have hr := Option.some.inj h
        subst hr
        exact Sys.endC [((6, 3), .ix), ((6, 4), .cell (cInt (Held_owned.get (Held_owned.upd p0 p1.mon.toNat ((Held_owned.get p0 p1.mon.toNat) - 1)) p1.mon.toNat))), ((6, 5), .b true)] (And.intro (h7) (And.intro (And.intro (rfl : (1 : Nat) = 1) (Held_owned.get_at (Held_owned.upd p0 p1.mon.toNat ((Held_owned.get p0 p1.mon.toNat) - 1)) h7)) (h10))) (by kernel_rfl)
      · replace h := iteF h10 h
        have hr := Option.some.inj h
        subst hr
        exact Sys.endC [((6, 3), .ix), ((6, 4), .cell (cInt (Held_owned.get (Held_owned.upd p0 p1.mon.toNat ((Held_owned.get p0 p1.mon.toNat) - 1)) p1.mon.toNat))), ((6, 5), .b false)] (And.intro (h7) (And.intro (And.intro (rfl : (1 : Nat) = 1) (Held_owned.get_at (Held_owned.upd p0 p1.mon.toNat ((Held_owned.get p0 p1.mon.toNat) - 1)) h7)) (h10))) (by kernel_rfl)
    · replace h := iteF h5 h
      have hr := Option.some.inj h
      subst hr
      exact Sys.endC [((4, 0), .b false)] (h5) (by kernel_rfl)
def held_finder_reach_c1 (o0_0 : ByteArray) (o0_1 : Bool) (o0_2 : Int) (o0_3 : Sl GEdge) (o0_4 : Sl GGuard) : List DV := [.c (.sc (.string o0_0)), dB o0_1, dInt o0_2, .c (eSl o0_3), .c (eSl o0_4)]
def held_finder_reach_c2 (o3_0 : ByteArray) (o3_1 : Bool) (o3_2 : Int) (o3_3 : Sl GEdge) (o3_4 : Sl GGuard) (o3_7 : Rs Int) (o3_5n : Nat) : List DV := [.c (.sc (.string o3_0)), dB o3_1, dInt o3_2, .c (eSl o3_3), .c (eSl o3_4), .ms 1 1 0 o3_5n 1 true, .mp 2 1, rsl o3_7]
def held_finder_reach_c3 (o3_0 : ByteArray) (o3_1 : Bool) (o3_2 : Int) (o3_3 : Sl GEdge) (o3_4 : Sl GGuard) (o3_7 : Rs Int) (o3_5n : Nat) : List DV := [.c (.sc (.string o3_0)), dB o3_1, dInt o3_2, .c (eSl o3_3), .c (eSl o3_4), .ms 1 1 0 o3_5n 1 true, .mp 2 1, .c (.sl o3_7.l.isEmpty true (cells o3_7.l) o3_7.l.length)]
def held_finder_reach_c4 (o3_0 : ByteArray) (o3_1 : Bool) (o3_2 : Int) (o3_3 : Sl GEdge) (o3_4 : Sl GGuard) (o3_7 : Rs Int) (o3_5n : Nat) : List DV := [.c (.sc (.string o3_0)), dB o3_1, dInt o3_2, .c (eSl o3_3), .c (eSl o3_4), .ms 1 1 0 o3_5n 1 true, .mp 2 1, .c (.sl false false (cells o3_7.l) o3_7.l.length)]
def held_finder_reach_c5 (p1 : GEdge) (o3_0 : ByteArray) (o3_1 : Bool) (o3_2 : Int) (o3_3 : Sl GEdge) (o3_4 : Sl GGuard) (o3_7 : Rs Int) (o3_5n : Nat) : List DV := [.c (.sc (.string o3_0)), dB o3_1, dInt o3_2, .c (eSl o3_3), .c (eSl o3_4), .ms 1 1 0 o3_5n 1 true, .mp 2 1, apf (o3_7.l ++ ([p1.to_] : List Int))]
def held_finder_reach (n : Nat) (p1 : GEdge) (o0_0 : ByteArray) (o0_1 : Bool) (o0_2 : Int) (o0_3 : Sl GEdge) (o0_4 : Sl GGuard) (o1 : List (Rs Int)) (o2 : List (Int × Held_owned)) (o3_0 : ByteArray) (o3_1 : Bool) (o3_2 : Int) (o3_3 : Sl GEdge) (o3_4 : Sl GGuard) (o3_7 : Rs Int) (o3_5n : Nat) : Option (Bool × (List (Int × Held_owned)) × Rs Int) :=
  (held_owned_along n (lookM (({ a0 := 0, a1 := 0, a2 := 0, a3 := 0, a4 := 0, a5 := 0, a6 := 0, a7 := 0 } : Held_owned) : Held_owned) o2 p1.from_) p1).bind fun (x, x_2) =>
  bif x_2 then
    if hasM o2 p1.to_ = true then
      if (lookM (({ a0 := 0, a1 := 0, a2 := 0, a3 := 0, a4 := 0, a5 := 0, a6 := 0, a7 := 0 } : Held_owned) : Held_owned) o2 p1.to_) = x then
        some (true, o2, o3_7)
      else some (false, o2, o3_7)
    else if o3_7.k = true then
      if Room 8 (o3_7.l ++ ([p1.to_] : List Int)).length then some (true, (putM o2 p1.to_ x), (⟨false, (o3_7.l ++ ([p1.to_] : List Int))⟩ : Rs Int))
      else none
    else if Room 8 (o3_7.l ++ ([p1.to_] : List Int)).length then some (true, (putM o2 p1.to_ x), (⟨false, (o3_7.l ++ ([p1.to_] : List Int))⟩ : Rs Int))
    else none
  else some (false, o2, o3_7)
theorem held_finder_reach_ok {n : Nat} {p1 : GEdge} {o0_0 : ByteArray} {o0_1 : Bool} {o0_2 : Int} {o0_3 : Sl GEdge} {o0_4 : Sl GGuard} {o1 : List (Rs Int)} {o2 : List (Int × Held_owned)} {o3_0 : ByteArray} {o3_1 : Bool} {o3_2 : Int} {o3_3 : Sl GEdge} {o3_4 : Sl GGuard} {o3_7 : Rs Int} {o3_5n : Nat} {r : Bool × (List (Int × Held_owned)) × Rs Int} (h : held_finder_reach n p1 o0_0 o0_1 o0_2 o0_3 o0_4 o1 o2 o3_0 o3_1 o3_2 o3_3 o3_4 o3_7 o3_5n = some r) : X.RunsW 32 [.pt 3 1 0, .c (.agg (EncX.encX p1))] [⟨1, (held_finder_reach_c1 o0_0 o0_1 o0_2 o0_3 o0_4)⟩, ⟨1, rcells o1⟩, mkOb 1 (.map (encM o2)), ⟨1, (held_finder_reach_c2 o3_0 o3_1 o3_2 o3_3 o3_4 o3_7 o3_5n)⟩] (dB r.1) [⟨1, (held_finder_reach_c1 o0_0 o0_1 o0_2 o0_3 o0_4)⟩, ⟨1, rcells o1⟩, mkOb 1 (.map (encM r.2.1)), ⟨1, [.c (.sc (.string o3_0)), dB o3_1, dInt o3_2, .c (eSl o3_3), .c (eSl o3_4), .ms 1 1 0 o3_5n 1 true, .mp 2 1, rsl r.2.2]⟩] := by
  unfold held_finder_reach at h
  refine Sys.callW' (fn := Try.f32) (b := b32) (by kernel_rfl) (by kernel_rfl) rfl ?_
  obtain ⟨⟨x, x_2⟩, g2, h⟩ := bindE h
  dsimp only at h
  have h2 := held_owned_along_ok g2
  refine Sys.to [((1, 6), .op { d := .c (.agg (EncX.encX (lookM (({ a0 := 0, a1 := 0, a2 := 0, a3 := 0, a4 := 0, a5 := 0, a6 := 0, a7 := 0 } : Held_owned) : Held_owned) o2 p1.from_))) }), ((1, 8), .call (.tup [.c (.agg (EncX.encX x)), dB x_2]) ⟨[], []⟩)] 2 (.at [1, 1, 0, 0]) ⟨fl [(0, .pt 3 1 0), (3, .pt 4 1 0), (5, .pt 5 1 0), (6, dB x_2)], ⟨[⟨1, (held_finder_reach_c1 o0_0 o0_1 o0_2 o0_3 o0_4)⟩, ⟨1, rcells o1⟩, mkOb 1 (.map (encM o2)), ⟨1, (held_finder_reach_c2 o3_0 o3_1 o3_2 o3_3 o3_4 o3_7 o3_5n)⟩, ⟨1, (EncX.encX p1).map DV.c⟩, ⟨1, (EncX.encX x).map DV.c⟩], []⟩⟩ (And.intro (lookM_ok (P := X.P) (t := 48) (et := 52) (st := [⟨1, (held_finder_reach_c1 o0_0 o0_1 o0_2 o0_3 o0_4)⟩, ⟨1, rcells o1⟩, mkOb 1 (.map (encM o2)), ⟨1, (held_finder_reach_c2 o3_0 o3_1 o3_2 o3_3 o3_4 o3_7 o3_5n)⟩, ⟨1, (EncX.encX p1).map DV.c⟩, ⟨0, []⟩]) (id := 2) (ver := 1) (l := o2) (k := p1.from_) (z := (({ a0 := 0, a1 := 0, a2 := 0, a3 := 0, a4 := 0, a5 := 0, a6 := 0, a7 := 0 } : Held_owned) : Held_owned)) (by kernel_rfl) (by kernel_rfl) rfl) (h2)) (by kernel_rfl) ?_
  cases x_2 with
  | true =>
    replace h := condT h
    by_cases h6 : hasM o2 p1.to_ = true
    · replace h := iteT h6 h
      refine Sys.to [((4, 6), .op { d := .tup [.c (.agg (EncX.encX (lookM (({ a0 := 0, a1 := 0, a2 := 0, a3 := 0, a4 := 0, a5 := 0, a6 := 0, a7 := 0 } : Held_owned) : Held_owned) o2 p1.to_))), dB true] })] 9 (.at [1, 1, 1, 1, 1, 0]) ⟨fl [(0, .pt 3 1 0), (3, .pt 4 1 0), (5, .pt 5 1 0), (7, .pt 6 1 0), (34, dB false)], ⟨[⟨1, (held_finder_reach_c1 o0_0 o0_1 o0_2 o0_3 o0_4)⟩, ⟨1, rcells o1⟩, mkOb 1 (.map (encM o2)), ⟨1, (held_finder_reach_c2 o3_0 o3_1 o3_2 o3_3 o3_4 o3_7 o3_5n)⟩, ⟨1, (EncX.encX p1).map DV.c⟩, ⟨1, (EncX.encX x).map DV.c⟩, ⟨1, (EncX.encX (lookM (({ a0 := 0, a1 := 0, a2 := 0, a3 := 0, a4 := 0, a5 := 0, a6 := 0, a7 := 0 } : Held_owned) : Held_owned) o2 p1.to_)).map DV.c⟩], []⟩⟩ (look2M_ok (P := X.P) (t := 48) (et := 52) (st := [⟨1, (held_finder_reach_c1 o0_0 o0_1 o0_2 o0_3 o0_4)⟩, ⟨1, rcells o1⟩, mkOb 1 (.map (encM o2)), ⟨1, (held_finder_reach_c2 o3_0 o3_1 o3_2 o3_3 o3_4 o3_7 o3_5n)⟩, ⟨1, (EncX.encX p1).map DV.c⟩, ⟨1, (EncX.encX x).map DV.c⟩, ⟨0, []⟩]) (id := 2) (ver := 1) (l := o2) (k := p1.to_) (z := (({ a0 := 0, a1 := 0, a2 := 0, a3 := 0, a4 := 0, a5 := 0, a6 := 0, a7 := 0 } : Held_owned) : Held_owned)) (b := true) (by kernel_rfl) (by kernel_rfl) rfl h6) (by kernel_rfl) ?_
      by_cases h9 : (lookM (({ a0 := 0, a1 := 0, a2 := 0, a3 := 0, a4 := 0, a5 := 0, a6 := 0, a7 := 0 } : Held_owned) : Held_owned) o2 p1.to_) = x
      · replace h := iteT h9 h
        have hr := Option.some.inj h
        subst hr
        refine Sys.to [((9, 2), .op { d := dB true })] 999999 (.fin .ret) ⟨fl [(4, dB true)], ⟨[⟨1, (held_finder_reach_c1 o0_0 o0_1 o0_2 o0_3 o0_4)⟩, ⟨1, rcells o1⟩, mkOb 1 (.map (encM o2)), ⟨1, (held_finder_reach_c2 o3_0 o3_1 o3_2 o3_3 o3_4 o3_7 o3_5n)⟩, ⟨1, (EncX.encX p1).map DV.c⟩, ⟨1, (EncX.encX x).map DV.c⟩, ⟨1, (EncX.encX (lookM (({ a0 := 0, a1 := 0, a2 := 0, a3 := 0, a4 := 0, a5 := 0, a6 := 0, a7 := 0 } : Held_owned) : Held_owned) o2 p1.to_)).map DV.c⟩], []⟩⟩ (rec_eql_true (Held_owned_eq (lookM (({ a0 := 0, a1 := 0, a2 := 0, a3 := 0, a4 := 0, a5 := 0, a6 := 0, a7 := 0 } : Held_owned) : Held_owned) o2 p1.to_) x) h9) (by kernel_rfl) ?_
        exact Sys.fin ⟨rfl, (by kernel_rfl), trim_ok rfl (AllB.cons rfl (AllB.cons (below_rcells 4 o1) (AllB.consM (l := o2) (AllB.cons (allc_cons rfl (allc_cons rfl (allc_cons rfl (allc_cons rfl (allc_cons rfl (allc_cons rfl (allc_cons rfl (allc_cons (below_rsl 4 o3_7) (allc_nil 4))))))))) (AllB.nil 4))))) rfl⟩
      · replace h := iteF h9 h
        have hr := Option.some.inj h
        subst hr
        refine Sys.to [((9, 2), .op { d := dB false })] 999999 (.fin .ret) ⟨fl [(4, dB false)], ⟨[⟨1, (held_finder_reach_c1 o0_0 o0_1 o0_2 o0_3 o0_4)⟩, ⟨1, rcells o1⟩, mkOb 1 (.map (encM o2)), ⟨1, (held_finder_reach_c2 o3_0 o3_1 o3_2 o3_3 o3_4 o3_7 o3_5n)⟩, ⟨1, (EncX.encX p1).map DV.c⟩, ⟨1, (EncX.encX x).map DV.c⟩, ⟨1, (EncX.encX (lookM (({ a0 := 0, a1 := 0, a2 := 0, a3 := 0, a4 := 0, a5 := 0, a6 := 0, a7 := 0 } : Held_owned) : Held_owned) o2 p1.to_)).map DV.c⟩], []⟩⟩ (rec_eql_false (Held_owned_eq (lookM (({ a0 := 0, a1 := 0, a2 := 0, a3 := 0, a4 := 0, a5 := 0, a6 := 0, a7 := 0 } : Held_owned) : Held_owned) o2 p1.to_) x) h9) (by kernel_rfl) ?_
        exact Sys.fin ⟨rfl, (by kernel_rfl), trim_ok rfl (AllB.cons rfl (AllB.cons (below_rcells 4 o1) (AllB.consM (l := o2) (AllB.cons (allc_cons rfl (allc_cons rfl (allc_cons rfl (allc_cons rfl (allc_cons rfl (allc_cons rfl (allc_cons rfl (allc_cons (below_rsl 4 o3_7) (allc_nil 4))))))))) (AllB.nil 4))))) rfl⟩
    · replace h := iteF h6 h
      refine Sys.to [((4, 6), .op { d := .tup [.c (.agg (EncX.encX (lookM (({ a0 := 0, a1 := 0, a2 := 0, a3 := 0, a4 := 0, a5 := 0, a6 := 0, a7 := 0 } : Held_owned) : Held_owned) o2 p1.to_))), dB false] }), ((6, 7), .op { d := .un, set := some (2, mkOb 1 (.map (encM (putM o2 p1.to_ x)))) })] 7 (.at [1, 1, 1, 1, 0, 1, 0, 1, 0]) ⟨fl [(0, .pt 3 1 0), (3, .pt 4 1 0)], ⟨[⟨1, (held_finder_reach_c1 o0_0 o0_1 o0_2 o0_3 o0_4)⟩, ⟨1, rcells o1⟩, mkOb 1 (.map (encM (putM o2 p1.to_ x))), ⟨1, (held_finder_reach_c2 o3_0 o3_1 o3_2 o3_3 o3_4 o3_7 o3_5n)⟩, ⟨1, (EncX.encX p1).map DV.c⟩, ⟨1, (EncX.encX x).map DV.c⟩, ⟨1, (EncX.encX (lookM (({ a0 := 0, a1 := 0, a2 := 0, a3 := 0, a4 := 0, a5 := 0, a6 := 0, a7 := 0 } : Held_owned) : Held_owned) o2 p1.to_)).map DV.c⟩], []⟩⟩ (And.intro (look2M_ok (P := X.P) (t := 48) (et := 52) (st := [⟨1, (held_finder_reach_c1 o0_0 o0_1 o0_2 o0_3 o0_4)⟩, ⟨1, rcells o1⟩, mkOb 1 (.map (encM o2)), ⟨1, (held_finder_reach_c2 o3_0 o3_1 o3_2 o3_3 o3_4 o3_7 o3_5n)⟩, ⟨1, (EncX.encX p1).map DV.c⟩, ⟨1, (EncX.encX x).map DV.c⟩, ⟨0, []⟩]) (id := 2) (ver := 1) (l := o2) (k := p1.to_) (z := (({ a0 := 0, a1 := 0, a2 := 0, a3 := 0, a4 := 0, a5 := 0, a6 := 0, a7 := 0 } : Held_owned) : Held_owned)) (b := false) (by kernel_rfl) (by kernel_rfl) rfl (eq_false_of_ne_true h6)) (putM_ok (P := X.P) (t := 48) (et := 52) (st := [⟨1, (held_finder_reach_c1 o0_0 o0_1 o0_2 o0_3 o0_4)⟩, ⟨1, rcells o1⟩, mkOb 1 (.map (encM o2)), ⟨1, (held_finder_reach_c2 o3_0 o3_1 o3_2 o3_3 o3_4 o3_7 o3_5n)⟩, ⟨1, (EncX.encX p1).map DV.c⟩, ⟨1, (EncX.encX x).map DV.c⟩, ⟨1, (EncX.encX (lookM (({ a0 := 0, a1 := 0, a2 := 0, a3 := 0, a4 := 0, a5 := 0, a6 := 0, a7 := 0 } : Held_owned) : Held_owned) o2 p1.to_)).map DV.c⟩]) (id := 2) (ver := 1) (l := o2) (k := p1.to_) (v := x) (by kernel_rfl) rfl)) (by kernel_rfl) ?_
      by_cases h10 : o3_7.k = true
      · replace h := iteT h10 h
        by_cases h11 : Room 8 (o3_7.l ++ ([p1.to_] : List Int)).length
        case neg => exact absurd (iteF h11 h) (by simp)
        replace h := iteT h11 h
        have hr := Option.some.inj h
        subst hr
        refine Sys.to [((7, 4), .lmv (.c (.sl o3_7.l.isEmpty true (cells o3_7.l) o3_7.l.length)) (held_finder_reach_c3 o3_0 o3_1 o3_2 o3_3 o3_4 o3_7 o3_5n)), ((7, 8), .app (cells (o3_7.l ++ ([p1.to_] : List Int))) (o3_7.l ++ ([p1.to_] : List Int)).length)] 999999 (.fin .ret) ⟨fl [(4, dB true)], ⟨[⟨1, (held_finder_reach_c1 o0_0 o0_1 o0_2 o0_3 o0_4)⟩, ⟨1, rcells o1⟩, mkOb 1 (.map (encM (putM o2 p1.to_ x))), ⟨1, (held_finder_reach_c5 p1 o3_0 o3_1 o3_2 o3_3 o3_4 o3_7 o3_5n)⟩, ⟨1, (EncX.encX p1).map DV.c⟩, ⟨1, (EncX.encX x).map DV.c⟩, ⟨1, (EncX.encX (lookM (({ a0 := 0, a1 := 0, a2 := 0, a3 := 0, a4 := 0, a5 := 0, a6 := 0, a7 := 0 } : Held_owned) : Held_owned) o2 p1.to_)).map DV.c⟩], []⟩⟩ (And.intro (And.intro (rfl : (1 : Nat) = 1) (And.intro (congrArg some (rsl_t h10)) (rfl : (held_finder_reach_c3 o3_0 o3_1 o3_2 o3_3 o3_4 o3_7 o3_5n) = (held_finder_reach_c3 o3_0 o3_1 o3_2 o3_3 o3_4 o3_7 o3_5n)))) (apx_lit o3_7.l ([p1.to_] : List Int) (by simp) (b := 8) (by decide) h11)) (by kernel_rfl) ?_
        exact Sys.fin ⟨rfl, (by kernel_rfl), trim_ok rfl (AllB.cons rfl (AllB.cons (below_rcells 4 o1) (AllB.consM (l := (putM o2 p1.to_ x)) (AllB.cons rfl (AllB.nil 4))))) rfl⟩
      · replace h := iteF h10 h
        by_cases h11 : Room 8 (o3_7.l ++ ([p1.to_] : List Int)).length
        case neg => exact absurd (iteF h11 h) (by simp)
        replace h := iteT h11 h
        have hr := Option.some.inj h
        subst hr
        refine Sys.to [((7, 4), .lmv (apf o3_7.l) (held_finder_reach_c4 o3_0 o3_1 o3_2 o3_3 o3_4 o3_7 o3_5n)), ((7, 8), .appF false (cells (o3_7.l ++ ([p1.to_] : List Int))) (o3_7.l ++ ([p1.to_] : List Int)).length)] 999999 (.fin .ret) ⟨fl [(4, dB true)], ⟨[⟨1, (held_finder_reach_c1 o0_0 o0_1 o0_2 o0_3 o0_4)⟩, ⟨1, rcells o1⟩, mkOb 1 (.map (encM (putM o2 p1.to_ x))), ⟨1, (held_finder_reach_c5 p1 o3_0 o3_1 o3_2 o3_3 o3_4 o3_7 o3_5n)⟩, ⟨1, (EncX.encX p1).map DV.c⟩, ⟨1, (EncX.encX x).map DV.c⟩, ⟨1, (EncX.encX (lookM (({ a0 := 0, a1 := 0, a2 := 0, a3 := 0, a4 := 0, a5 := 0, a6 := 0, a7 := 0 } : Held_owned) : Held_owned) o2 p1.to_)).map DV.c⟩], []⟩⟩ (And.intro (And.intro (rfl : (1 : Nat) = 1) (And.intro (congrArg some (rsl_f h10)) (rfl : (held_finder_reach_c4 o3_0 o3_1 o3_2 o3_3 o3_4 o3_7 o3_5n) = (held_finder_reach_c4 o3_0 o3_1 o3_2 o3_3 o3_4 o3_7 o3_5n)))) (apf_lit o3_7.l ([p1.to_] : List Int) (b := 8) (by decide) h11)) (by kernel_rfl) ?_
        exact Sys.fin ⟨rfl, (by kernel_rfl), trim_ok rfl (AllB.cons rfl (AllB.cons (below_rcells 4 o1) (AllB.consM (l := (putM o2 p1.to_ x)) (AllB.cons rfl (AllB.nil 4))))) rfl⟩
  | false =>
    replace h := condF h
    have hr := Option.some.inj h
    subst hr
    refine Sys.to [] 999999 (.fin .ret) ⟨fl [(4, dB false)], ⟨[⟨1, (held_finder_reach_c1 o0_0 o0_1 o0_2 o0_3 o0_4)⟩, ⟨1, rcells o1⟩, mkOb 1 (.map (encM o2)), ⟨1, (held_finder_reach_c2 o3_0 o3_1 o3_2 o3_3 o3_4 o3_7 o3_5n)⟩, ⟨1, (EncX.encX p1).map DV.c⟩, ⟨1, (EncX.encX x).map DV.c⟩], []⟩⟩ (True.intro) (by kernel_rfl) ?_
    exact Sys.fin ⟨rfl, (by kernel_rfl), trim_ok rfl (AllB.cons rfl (AllB.cons (below_rcells 4 o1) (AllB.consM (l := o2) (AllB.cons (allc_cons rfl (allc_cons rfl (allc_cons rfl (allc_cons rfl (allc_cons rfl (allc_cons rfl (allc_cons rfl (allc_cons (below_rsl 4 o3_7) (allc_nil 4))))))))) (AllB.nil 4))))) rfl⟩
end Go.Proofs.Ytkfmoodaplelnaa
