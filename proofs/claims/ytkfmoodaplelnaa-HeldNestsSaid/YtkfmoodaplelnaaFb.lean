/-
  Functions of the program as Lean functions, and that the interpreter comes to the same: printed by the session's own tool.
-/
import Derived.Test.YtkfmoodaplelnaaFa
set_option linter.unusedVariables false
set_option linter.unusedSimpArgs false
set_option maxRecDepth 100000
set_option maxHeartbeats 1000000
namespace Go.Proofs.Ytkfmoodaplelnaa
open Go Go.Abs Go.Proofs
variable [Kn]
def vigilref13_Held_c1 (o3_0 : Int) (o3_1 : Int) (o3_2 : Int) (o3_3 : Int) (o3_4 : Int) (o3_5 : Int) (o3_6 : ByteArray) (o3_7 : ByteArray) (o3_8 : Int) (o3_9 : Sl GExpr) (o3_10 : Int) (o3_11 : Int) (o3_12 : Int) (o3_13 : Int) (o3_14 : Int) : List DV := [dInt o3_0, dInt o3_1, dInt o3_2, dInt o3_3, dInt o3_4, dInt o3_5, .c (.sc (.string o3_6)), .c (.sc (.string o3_7)), dInt o3_8, .c (eSl o3_9), dInt o3_10, dInt o3_11, dInt o3_12, dInt o3_13, dInt o3_14]
def vigilref13_Held_c2 (o3_0_2 : Int) (o3_1_2 : Int) (o3_2_2 : Int) (o3_3_2 : Int) (o3_4_2 : Int) (o3_5_2 : Int) (o3_6_2 : ByteArray) (o3_7_2 : ByteArray) (o3_8_2 : Int) (o3_9_2 : Sl GExpr) (o3_10_2 : Int) (o3_11_2 : Int) (o3_12_2 : Int) (o3_13_2 : Int) (o3_14_2 : Int) : List DV := [dInt o3_0_2, dInt o3_1_2, dInt o3_2_2, dInt o3_3_2, dInt o3_4_2, dInt o3_5_2, .c (.sc (.string o3_6_2)), .c (.sc (.string o3_7_2)), dInt o3_8_2, .c (eSl o3_9_2), dInt o3_10_2, dInt o3_11_2, dInt o3_12_2, dInt o3_13_2, dInt o3_14_2]
inductive vigilref13_Held_J17_4O where
  | m (o4 : List Int)
  | m_1
def vigilref13_Held_J17_4x : vigilref13_Held_J17_4O → Ex
  | .m _ => .normal
  | .m_1 => .normal
def vigilref13_Held_J17_4s (p0 : GFlow) (v9 : Int) (v8_12 : List Int) (v10 : Int) (o1_12 : List (Sl Int)) (o2_12 : List Bool) (v47 : GEdge) (w1_2 : Sl Int) : vigilref13_Held_J17_4O → S
  | .m o4 => ⟨fl [(2, .pt 0 1 0), (6, .ms 1 1 0 p0.locs.toNat 1 true), (7, .ms 2 1 0 p0.locs.toNat 1 true), (8, apf v8_12), (9, dInt v9), (10, dInt v10), (11, .pt 3 1 0), (12, .ms 4 1 0 w1_2.l.length 1 false)], ⟨[⟨1, (EncX.encX p0).map DV.c⟩, ⟨1, dcells o1_12⟩, ⟨1, dcells o2_12⟩, ⟨1, (EncX.encX v47).map DV.c⟩, ⟨1, dcells o4⟩], []⟩⟩
  | .m_1 => ⟨fl [(2, .pt 0 1 0), (6, .ms 1 1 0 p0.locs.toNat 1 true), (7, .ms 2 1 0 p0.locs.toNat 1 true), (8, apf v8_12), (9, dInt v9), (10, dInt v10), (11, .pt 3 1 0), (12, .ms 4 1 0 w1_2.l.length 1 false), (65, dB false)], ⟨[⟨1, (EncX.encX p0).map DV.c⟩, ⟨1, dcells o1_12⟩, ⟨1, dcells o2_12⟩, ⟨1, (EncX.encX v47).map DV.c⟩, ⟨1, dcells w1_2.l⟩], []⟩⟩
def vigilref13_Held_J17_4 (p0 : GFlow) (v9 : Int) (v8_12 : List Int) (v10 : Int) (o1_12 : List (Sl Int)) (o2_12 : List Bool) (v47 : GEdge) (w1_2 : Sl Int) (n : Nat) : Option vigilref13_Held_J17_4O :=
  if v47.kind = 4 then
    (atI w1_2.l v47.mon).bind fun v69 =>
    if InR (v69 + 1) then some (.m (w1_2.l.set v47.mon.toNat (v69 + 1)))
    else none
  else some (.m_1)
theorem vigilref13_Held_J17_4_ok (p0 : GFlow) (v9 : Int) (v8_12 : List Int) (v10 : Int) (o1_12 : List (Sl Int)) (o2_12 : List Bool) (v47 : GEdge) (w1_2 : Sl Int) (n : Nat) (o : vigilref13_Held_J17_4O) (h : vigilref13_Held_J17_4 p0 v9 v8_12 v10 o1_12 o2_12 v47 w1_2 n = some o) : X.Go 8 131 [] (sub b8 [1, 1, 1, 1, 1, 1, 1, 0, 1, 0, 0, 1, 0, 0, 1, 0, 0, 1, 0, 0, 1, 1, 1, 0]) ⟨fl [(2, .pt 0 1 0), (6, .ms 1 1 0 p0.locs.toNat 1 true), (7, .ms 2 1 0 p0.locs.toNat 1 true), (8, apf v8_12), (9, dInt v9), (10, dInt v10), (11, .pt 3 1 0), (12, .ms 4 1 0 w1_2.l.length 1 false)], ⟨[⟨1, (EncX.encX p0).map DV.c⟩, ⟨1, dcells o1_12⟩, ⟨1, dcells o2_12⟩, ⟨1, (EncX.encX v47).map DV.c⟩, ⟨1, dcells w1_2.l⟩], []⟩⟩ (vigilref13_Held_J17_4x o) (vigilref13_Held_J17_4s p0 v9 v8_12 v10 o1_12 o2_12 v47 w1_2 o) := by
  unfold vigilref13_Held_J17_4 at h
  refine Sys.goE ?_
  by_cases h1 : v47.kind = 4
  · replace h := iteT h1 h
    obtain ⟨v69, h3, h⟩ := bindE h
    by_cases h4 : InR (v69 + 1)
    case neg => exact absurd (iteF h4 h) (by simp)
    replace h := iteT h4 h
    have hr := Option.some.inj h
    subst hr
    exact Sys.endJ [((17, 2), .b true), ((18, 3), .ix), ((18, 4), .cell (cInt v69)), ((18, 5), .n), ((18, 6), .ix), ((18, 7), .st (dcells (w1_2.l.set v47.mon.toNat (v69 + 1))))] (And.intro (h1) (And.intro (atI_b h3) (And.intro (And.intro (rfl : (1 : Nat) = 1) (dcell_at' 0 (c := cInt v69) rfl (atI_g h3))) (And.intro (h4) (And.intro (atI_b h3) (And.intro (rfl : (1 : Nat) = 1) (dst_part 0 [dInt (v69 + 1)] (v69 + 1) (atI_g h3) rfl (Nat.le_of_ble_eq_true rfl)))))))) (by kernel_rfl)
  · replace h := iteF h1 h
    have hr := Option.some.inj h
    subst hr
    exact Sys.endJ [((17, 2), .b false)] (h1) (by kernel_rfl)

inductive vigilref13_Held_J19_7O where
  | r (o4' : List Int)
  | m (o4' : List Int)
  | m_2
def vigilref13_Held_J19_7x : vigilref13_Held_J19_7O → Ex
  | .r _ => .ret
  | .m _ => .normal
  | .m_2 => .normal
def vigilref13_Held_J19_7s (p0 : GFlow) (v9 : Int) (v8_12 : List Int) (v10 : Int) (o1_12 : List (Sl Int)) (o2_12 : List Bool) (v47 : GEdge) (w1_2 : Sl Int) (o4 : List Int) : vigilref13_Held_J19_7O → S
  | .r o4' => ⟨fl [(4, .c (.sl true true [] 0)), (5, dB false)], ⟨[⟨1, (EncX.encX p0).map DV.c⟩, ⟨1, dcells o1_12⟩, ⟨1, dcells o2_12⟩, ⟨1, (EncX.encX v47).map DV.c⟩, ⟨1, dcells o4'⟩], []⟩⟩
  | .m o4' => ⟨fl [(2, .pt 0 1 0), (6, .ms 1 1 0 p0.locs.toNat 1 true), (7, .ms 2 1 0 p0.locs.toNat 1 true), (8, apf v8_12), (9, dInt v9), (10, dInt v10), (11, .pt 3 1 0), (12, .ms 4 1 0 w1_2.l.length 1 false), (88, dB false)], ⟨[⟨1, (EncX.encX p0).map DV.c⟩, ⟨1, dcells o1_12⟩, ⟨1, dcells o2_12⟩, ⟨1, (EncX.encX v47).map DV.c⟩, ⟨1, dcells o4'⟩], []⟩⟩
  | .m_2 => ⟨fl [(2, .pt 0 1 0), (6, .ms 1 1 0 p0.locs.toNat 1 true), (7, .ms 2 1 0 p0.locs.toNat 1 true), (8, apf v8_12), (9, dInt v9), (10, dInt v10), (11, .pt 3 1 0), (12, .ms 4 1 0 w1_2.l.length 1 false), (75, dB false)], ⟨[⟨1, (EncX.encX p0).map DV.c⟩, ⟨1, dcells o1_12⟩, ⟨1, dcells o2_12⟩, ⟨1, (EncX.encX v47).map DV.c⟩, ⟨1, dcells o4⟩], []⟩⟩
def vigilref13_Held_J19_7 (p0 : GFlow) (v9 : Int) (v8_12 : List Int) (v10 : Int) (o1_12 : List (Sl Int)) (o2_12 : List Bool) (v47 : GEdge) (w1_2 : Sl Int) (o4 : List Int) (n : Nat) : Option vigilref13_Held_J19_7O :=
  if v47.kind = 5 then
    if 0 ≤ v47.mon ∧ v47.mon < (w1_2.l.length : Int) then (atI o4 v47.mon).bind fun w4 =>
    if InR (w4 - 1) then if (w4 - 1) < 0 then
      some (.r (o4.set v47.mon.toNat (w4 - 1)))
    else some (.m (o4.set v47.mon.toNat (w4 - 1)))
    else none
    else none
  else some (.m_2)
theorem vigilref13_Held_J19_7_ok (p0 : GFlow) (v9 : Int) (v8_12 : List Int) (v10 : Int) (o1_12 : List (Sl Int)) (o2_12 : List Bool) (v47 : GEdge) (w1_2 : Sl Int) (o4 : List Int) (n : Nat) (o : vigilref13_Held_J19_7O) (h : vigilref13_Held_J19_7 p0 v9 v8_12 v10 o1_12 o2_12 v47 w1_2 o4 n = some o) : X.Go 8 131 [] (sub b8 [1, 1, 1, 1, 1, 1, 1, 0, 1, 0, 0, 1, 0, 0, 1, 0, 0, 1, 0, 0, 1, 1, 1, 1, 0]) ⟨fl [(2, .pt 0 1 0), (6, .ms 1 1 0 p0.locs.toNat 1 true), (7, .ms 2 1 0 p0.locs.toNat 1 true), (8, apf v8_12), (9, dInt v9), (10, dInt v10), (11, .pt 3 1 0), (12, .ms 4 1 0 w1_2.l.length 1 false)], ⟨[⟨1, (EncX.encX p0).map DV.c⟩, ⟨1, dcells o1_12⟩, ⟨1, dcells o2_12⟩, ⟨1, (EncX.encX v47).map DV.c⟩, ⟨1, dcells o4⟩], []⟩⟩ (vigilref13_Held_J19_7x o) (vigilref13_Held_J19_7s p0 v9 v8_12 v10 o1_12 o2_12 v47 w1_2 o4 o) := by
  unfold vigilref13_Held_J19_7 at h
  refine Sys.goE ?_
  by_cases h1 : v47.kind = 5
  · replace h := iteT h1 h
    by_cases h3 : 0 ≤ v47.mon ∧ v47.mon < (w1_2.l.length : Int)
    case neg => exact absurd (iteF h3 h) (by simp)
    replace h := iteT h3 h
    obtain ⟨w4, h4, h⟩ := bindE h
    by_cases h5 : InR (w4 - 1)
    case neg => exact absurd (iteF h5 h) (by simp)
    replace h := iteT h5 h
    refine Sys.to [((19, 2), .b true), ((20, 3), .ix), ((20, 4), .cell (cInt w4)), ((20, 5), .n), ((20, 6), .ix), ((20, 7), .st (dcells (o4.set v47.mon.toNat (w4 - 1))))] 21 (.at [1, 0, 1, 0]) ⟨fl [(2, .pt 0 1 0), (6, .ms 1 1 0 p0.locs.toNat 1 true), (7, .ms 2 1 0 p0.locs.toNat 1 true), (8, apf v8_12), (9, dInt v9), (10, dInt v10), (11, .pt 3 1 0), (12, .ms 4 1 0 w1_2.l.length 1 false)], ⟨[⟨1, (EncX.encX p0).map DV.c⟩, ⟨1, dcells o1_12⟩, ⟨1, dcells o2_12⟩, ⟨1, (EncX.encX v47).map DV.c⟩, ⟨1, dcells (o4.set v47.mon.toNat (w4 - 1))⟩], []⟩⟩ (And.intro (h1) (And.intro (h3) (And.intro (And.intro (rfl : (1 : Nat) = 1) (dcell_at' 0 (c := cInt w4) rfl (atI_g h4))) (And.intro (h5) (And.intro (h3) (And.intro (rfl : (1 : Nat) = 1) (dst_part 0 [dInt (w4 - 1)] (w4 - 1) (atI_g h4) rfl (Nat.le_of_ble_eq_true rfl)))))))) (by kernel_rfl) ?_
    by_cases h7 : (w4 - 1) < 0
    · replace h := iteT h7 h
      have hr := Option.some.inj h
      subst hr
      exact Sys.endJ [((21, 3), .ix), ((21, 4), .cell (cInt (w4 - 1))), ((21, 5), .b true)] (And.intro (h3) (And.intro (And.intro (rfl : (1 : Nat) = 1) (dcell_at' 0 (c := cInt (w4 - 1)) rfl (getset (b := (w4 - 1)) (atI_g h4)))) (h7))) (by kernel_rfl)
    · replace h := iteF h7 h
      have hr := Option.some.inj h
      subst hr
      exact Sys.endJ [((21, 3), .ix), ((21, 4), .cell (cInt (w4 - 1))), ((21, 5), .b false)] (And.intro (h3) (And.intro (And.intro (rfl : (1 : Nat) = 1) (dcell_at' 0 (c := cInt (w4 - 1)) rfl (getset (b := (w4 - 1)) (atI_g h4)))) (h7))) (by kernel_rfl)
  · replace h := iteF h1 h
    have hr := Option.some.inj h
    subst hr
    exact Sys.endJ [((19, 2), .b false)] (h1) (by kernel_rfl)

inductive vigilref13_Held_J19_8O where
  | r (o4 : List Int)
  | m (o4 : List Int)
  | m_2
def vigilref13_Held_J19_8x : vigilref13_Held_J19_8O → Ex
  | .r _ => .ret
  | .m _ => .normal
  | .m_2 => .normal
def vigilref13_Held_J19_8s (p0 : GFlow) (v9 : Int) (v8_12 : List Int) (v10 : Int) (o1_12 : List (Sl Int)) (o2_12 : List Bool) (v47 : GEdge) (w1_2 : Sl Int) : vigilref13_Held_J19_8O → S
  | .r o4 => ⟨fl [(4, .c (.sl true true [] 0)), (5, dB false)], ⟨[⟨1, (EncX.encX p0).map DV.c⟩, ⟨1, dcells o1_12⟩, ⟨1, dcells o2_12⟩, ⟨1, (EncX.encX v47).map DV.c⟩, ⟨1, dcells o4⟩], []⟩⟩
  | .m o4 => ⟨fl [(2, .pt 0 1 0), (6, .ms 1 1 0 p0.locs.toNat 1 true), (7, .ms 2 1 0 p0.locs.toNat 1 true), (8, apf v8_12), (9, dInt v9), (10, dInt v10), (11, .pt 3 1 0), (12, .ms 4 1 0 w1_2.l.length 1 false), (88, dB false)], ⟨[⟨1, (EncX.encX p0).map DV.c⟩, ⟨1, dcells o1_12⟩, ⟨1, dcells o2_12⟩, ⟨1, (EncX.encX v47).map DV.c⟩, ⟨1, dcells o4⟩], []⟩⟩
  | .m_2 => ⟨fl [(2, .pt 0 1 0), (6, .ms 1 1 0 p0.locs.toNat 1 true), (7, .ms 2 1 0 p0.locs.toNat 1 true), (8, apf v8_12), (9, dInt v9), (10, dInt v10), (11, .pt 3 1 0), (12, .ms 4 1 0 w1_2.l.length 1 false), (75, dB false)], ⟨[⟨1, (EncX.encX p0).map DV.c⟩, ⟨1, dcells o1_12⟩, ⟨1, dcells o2_12⟩, ⟨1, (EncX.encX v47).map DV.c⟩, ⟨1, dcells w1_2.l⟩], []⟩⟩
def vigilref13_Held_J19_8 (p0 : GFlow) (v9 : Int) (v8_12 : List Int) (v10 : Int) (o1_12 : List (Sl Int)) (o2_12 : List Bool) (v47 : GEdge) (w1_2 : Sl Int) (n : Nat) : Option vigilref13_Held_J19_8O :=
  if v47.kind = 5 then
    (atI w1_2.l v47.mon).bind fun v79 =>
    if InR (v79 - 1) then if 0 ≤ v47.mon ∧ v47.mon < (w1_2.l.length : Int) then if (v79 - 1) < 0 then
      some (.r (w1_2.l.set v47.mon.toNat (v79 - 1)))
    else some (.m (w1_2.l.set v47.mon.toNat (v79 - 1)))
    else none
    else none
  else some (.m_2)
theorem vigilref13_Held_J19_8_ok (p0 : GFlow) (v9 : Int) (v8_12 : List Int) (v10 : Int) (o1_12 : List (Sl Int)) (o2_12 : List Bool) (v47 : GEdge) (w1_2 : Sl Int) (n : Nat) (o : vigilref13_Held_J19_8O) (h : vigilref13_Held_J19_8 p0 v9 v8_12 v10 o1_12 o2_12 v47 w1_2 n = some o) : X.Go 8 131 [] (sub b8 [1, 1, 1, 1, 1, 1, 1, 0, 1, 0, 0, 1, 0, 0, 1, 0, 0, 1, 0, 0, 1, 1, 1, 1, 0]) ⟨fl [(2, .pt 0 1 0), (6, .ms 1 1 0 p0.locs.toNat 1 true), (7, .ms 2 1 0 p0.locs.toNat 1 true), (8, apf v8_12), (9, dInt v9), (10, dInt v10), (11, .pt 3 1 0), (12, .ms 4 1 0 w1_2.l.length 1 false), (65, dB false)], ⟨[⟨1, (EncX.encX p0).map DV.c⟩, ⟨1, dcells o1_12⟩, ⟨1, dcells o2_12⟩, ⟨1, (EncX.encX v47).map DV.c⟩, ⟨1, dcells w1_2.l⟩], []⟩⟩ (vigilref13_Held_J19_8x o) (vigilref13_Held_J19_8s p0 v9 v8_12 v10 o1_12 o2_12 v47 w1_2 o) := by
  unfold vigilref13_Held_J19_8 at h
  refine Sys.goE ?_
  by_cases h1 : v47.kind = 5
  · replace h := iteT h1 h
    obtain ⟨v79, h3, h⟩ := bindE h
    by_cases h4 : InR (v79 - 1)
    case neg => exact absurd (iteF h4 h) (by simp)
    replace h := iteT h4 h
    by_cases h6 : 0 ≤ v47.mon ∧ v47.mon < (w1_2.l.length : Int)
    case neg => exact absurd (iteF h6 h) (by simp)
    replace h := iteT h6 h
    refine Sys.to [((19, 2), .b true), ((20, 3), .ix), ((20, 4), .cell (cInt v79)), ((20, 5), .n), ((20, 6), .ix), ((20, 7), .st (dcells (w1_2.l.set v47.mon.toNat (v79 - 1))))] 21 (.at [1, 0, 1, 0]) ⟨fl [(2, .pt 0 1 0), (6, .ms 1 1 0 p0.locs.toNat 1 true), (7, .ms 2 1 0 p0.locs.toNat 1 true), (8, apf v8_12), (9, dInt v9), (10, dInt v10), (11, .pt 3 1 0), (12, .ms 4 1 0 w1_2.l.length 1 false)], ⟨[⟨1, (EncX.encX p0).map DV.c⟩, ⟨1, dcells o1_12⟩, ⟨1, dcells o2_12⟩, ⟨1, (EncX.encX v47).map DV.c⟩, ⟨1, dcells (w1_2.l.set v47.mon.toNat (v79 - 1))⟩], []⟩⟩ (And.intro (h1) (And.intro (atI_b h3) (And.intro (And.intro (rfl : (1 : Nat) = 1) (dcell_at' 0 (c := cInt v79) rfl (atI_g h3))) (And.intro (h4) (And.intro (atI_b h3) (And.intro (rfl : (1 : Nat) = 1) (dst_part 0 [dInt (v79 - 1)] (v79 - 1) (atI_g h3) rfl (Nat.le_of_ble_eq_true rfl)))))))) (by kernel_rfl) ?_
    by_cases h7 : (v79 - 1) < 0
    · replace h := iteT h7 h
      have hr := Option.some.inj h
      subst hr
      exact Sys.endJ [((21, 3), .ix), ((21, 4), .cell (cInt (v79 - 1))), ((21, 5), .b true)] (And.intro (h6) (And.intro (And.intro (rfl : (1 : Nat) = 1) (dcell_at' 0 (c := cInt (v79 - 1)) rfl (getset (b := (v79 - 1)) (atI_g h3)))) (h7))) (by kernel_rfl)
    · replace h := iteF h7 h
      have hr := Option.some.inj h
      subst hr
      exact Sys.endJ [((21, 3), .ix), ((21, 4), .cell (cInt (v79 - 1))), ((21, 5), .b false)] (And.intro (h6) (And.intro (And.intro (rfl : (1 : Nat) = 1) (dcell_at' 0 (c := cInt (v79 - 1)) rfl (getset (b := (v79 - 1)) (atI_g h3)))) (h7))) (by kernel_rfl)
  · replace h := iteF h1 h
    have hr := Option.some.inj h
    subst hr
    exact Sys.endJ [((19, 2), .b false)] (h1) (by kernel_rfl)

inductive vigilref13_Held_L12_2O where
  | r (o1' : List (Sl Int)) (o2' : List Bool) (o3_0 : Int) (o3_1 : Int) (o3_2 : Int) (o3_3 : Int) (o3_4 : Int) (o3_5 : Int) (o3_6 : ByteArray) (o3_7 : ByteArray) (o3_8 : Int) (o3_9 : Sl GExpr) (o3_10 : Int) (o3_11 : Int) (o3_12 : Int) (o3_13 : Int) (o3_14 : Int) (o4 : List Int)
  | e2 (v8' : List Int) (v10 : Int) (o1' : List (Sl Int)) (o2' : List Bool)
def vigilref13_Held_L12_2x : vigilref13_Held_L12_2O → Ex
  | .r _ _ _ _ _ _ _ _ _ _ _ _ _ _ _ _ _ _ => .ret
  | .e2 _ _ _ _ => (.exit 2)
def vigilref13_Held_L12_2s (p0 : GFlow) (v9 : Int) : vigilref13_Held_L12_2O → S
  | .r o1' o2' o3_0 o3_1 o3_2 o3_3 o3_4 o3_5 o3_6 o3_7 o3_8 o3_9 o3_10 o3_11 o3_12 o3_13 o3_14 o4 => ⟨fl [(4, .c (.sl true true [] 0)), (5, dB false)], ⟨[⟨1, (EncX.encX p0).map DV.c⟩, ⟨1, dcells o1'⟩, ⟨1, dcells o2'⟩, ⟨1, (vigilref13_Held_c1 o3_0 o3_1 o3_2 o3_3 o3_4 o3_5 o3_6 o3_7 o3_8 o3_9 o3_10 o3_11 o3_12 o3_13 o3_14)⟩, ⟨1, dcells o4⟩], []⟩⟩
  | .e2 v8' v10 o1' o2' => ⟨fl [(2, .pt 0 1 0), (6, .ms 1 1 0 p0.locs.toNat 1 true), (7, .ms 2 1 0 p0.locs.toNat 1 true), (8, apf v8'), (9, dInt v9), (10, dInt v10), (41, dB false)], ⟨[⟨1, (EncX.encX p0).map DV.c⟩, ⟨1, dcells o1'⟩, ⟨1, dcells o2'⟩], []⟩⟩
def vigilref13_Held_L12_2 (p0 : GFlow) (v9 : Int) (n : Nat) : Nat → List Int → Int → List (Sl Int) → List Bool → Option vigilref13_Held_L12_2O
  | 0, _, _, _, _ => none
  | k + 1, v8_12, v10, o1_12, o2_12 =>
    if v10 < (p0.edges.l.length : Int) then
      (atI p0.edges.l v10).bind fun v47 =>
      (atI v8_12 v9).bind fun v53 =>
      if v47.from_ ≠ v53 then
        if InR (v10 + 1) then vigilref13_Held_L12_2 p0 v9 n k v8_12 (v10 + 1) o1_12 o2_12
        else none
      else if 0 ≤ v47.from_ ∧ v47.from_ < (p0.locs.toNat : Int) then (atI o1_12 v47.from_).bind fun w1_2 =>
      if Room 8 w1_2.l.length then (vigilref13_Held_J17_4 p0 v9 v8_12 v10 o1_12 o2_12 v47 w1_2 n).bind fun o_2 => match o_2 with
      | .m o4 =>
        (vigilref13_Held_J19_7 p0 v9 v8_12 v10 o1_12 o2_12 v47 w1_2 o4 n).bind fun o_3 => match o_3 with
        | .r o4_2 =>
          some (.r o1_12 o2_12 v47.from_ v47.to_ v47.kind v47.mon v47.var v47.e_.op v47.e_.mon v47.e_.name v47.e_.n_ v47.e_.kids v47.e_.at_ v47.n_ v47.site v47.out v47.at_ o4_2)
        | .m o4_3 =>
          if 0 ≤ v47.to_ ∧ v47.to_ < (p0.locs.toNat : Int) then (atI o2_12 v47.to_).bind fun w2_2 =>
          bif w2_2 then
            (atI o1_12 v47.to_).bind fun w1_3 =>
            (vigilref13_same n w1_3 o4_3 w1_2.l.length).bind fun x_2 =>
            bif x_2 then
              if InR (v10 + 1) then vigilref13_Held_L12_2 p0 v9 n k v8_12 (v10 + 1) o1_12 o2_12
              else none
            else some (.r o1_12 o2_12 v47.from_ v47.to_ v47.kind v47.mon v47.var v47.e_.op v47.e_.mon v47.e_.name v47.e_.n_ v47.e_.kids v47.e_.at_ v47.n_ v47.site v47.out v47.at_ o4_3)
          else if w1_2.l.length = o4_3.length then (atI o1_12 v47.to_).bind fun w1_4 =>
          if Room 8 (v8_12 ++ ([v47.to_] : List Int)).length then if InR (v10 + 1) then vigilref13_Held_L12_2 p0 v9 n k (v8_12 ++ ([v47.to_] : List Int)) (v10 + 1) (o1_12.set v47.to_.toNat (⟨false, false, o4_3⟩ : Sl Int)) (o2_12.set v47.to_.toNat true)
          else none
          else none
          else none
          else none
        | .m_2 =>
          if 0 ≤ v47.to_ ∧ v47.to_ < (p0.locs.toNat : Int) then (atI o2_12 v47.to_).bind fun w2_3 =>
          bif w2_3 then
            (atI o1_12 v47.to_).bind fun w1_5 =>
            (vigilref13_same n w1_5 o4 w1_2.l.length).bind fun x_3 =>
            bif x_3 then
              if InR (v10 + 1) then vigilref13_Held_L12_2 p0 v9 n k v8_12 (v10 + 1) o1_12 o2_12
              else none
            else some (.r o1_12 o2_12 v47.from_ v47.to_ v47.kind v47.mon v47.var v47.e_.op v47.e_.mon v47.e_.name v47.e_.n_ v47.e_.kids v47.e_.at_ v47.n_ v47.site v47.out v47.at_ o4)
          else if w1_2.l.length = o4.length then (atI o1_12 v47.to_).bind fun w1_6 =>
          if Room 8 (v8_12 ++ ([v47.to_] : List Int)).length then if InR (v10 + 1) then vigilref13_Held_L12_2 p0 v9 n k (v8_12 ++ ([v47.to_] : List Int)) (v10 + 1) (o1_12.set v47.to_.toNat (⟨false, false, o4⟩ : Sl Int)) (o2_12.set v47.to_.toNat true)
          else none
          else none
          else none
          else none
      | .m_1 =>
        (vigilref13_Held_J19_8 p0 v9 v8_12 v10 o1_12 o2_12 v47 w1_2 n).bind fun o_4 => match o_4 with
        | .r o4_4 =>
          some (.r o1_12 o2_12 v47.from_ v47.to_ v47.kind v47.mon v47.var v47.e_.op v47.e_.mon v47.e_.name v47.e_.n_ v47.e_.kids v47.e_.at_ v47.n_ v47.site v47.out v47.at_ o4_4)
        | .m o4_5 =>
          if 0 ≤ v47.to_ ∧ v47.to_ < (p0.locs.toNat : Int) then (atI o2_12 v47.to_).bind fun w2_4 =>
          bif w2_4 then
            (atI o1_12 v47.to_).bind fun w1_7 =>
            (vigilref13_same n w1_7 o4_5 w1_2.l.length).bind fun x_4 =>
            bif x_4 then
              if InR (v10 + 1) then vigilref13_Held_L12_2 p0 v9 n k v8_12 (v10 + 1) o1_12 o2_12
              else none
            else some (.r o1_12 o2_12 v47.from_ v47.to_ v47.kind v47.mon v47.var v47.e_.op v47.e_.mon v47.e_.name v47.e_.n_ v47.e_.kids v47.e_.at_ v47.n_ v47.site v47.out v47.at_ o4_5)
          else if w1_2.l.length = o4_5.length then (atI o1_12 v47.to_).bind fun w1_8 =>
          if Room 8 (v8_12 ++ ([v47.to_] : List Int)).length then if InR (v10 + 1) then vigilref13_Held_L12_2 p0 v9 n k (v8_12 ++ ([v47.to_] : List Int)) (v10 + 1) (o1_12.set v47.to_.toNat (⟨false, false, o4_5⟩ : Sl Int)) (o2_12.set v47.to_.toNat true)
          else none
          else none
          else none
          else none
        | .m_2 =>
          if 0 ≤ v47.to_ ∧ v47.to_ < (p0.locs.toNat : Int) then (atI o2_12 v47.to_).bind fun w2_5 =>
          bif w2_5 then
            (atI o1_12 v47.to_).bind fun w1_9 =>
            (vigilref13_same_2 n w1_9 w1_2.l).bind fun x_5 =>
            bif x_5 then
              if InR (v10 + 1) then vigilref13_Held_L12_2 p0 v9 n k v8_12 (v10 + 1) o1_12 o2_12
              else none
            else some (.r o1_12 o2_12 v47.from_ v47.to_ v47.kind v47.mon v47.var v47.e_.op v47.e_.mon v47.e_.name v47.e_.n_ v47.e_.kids v47.e_.at_ v47.n_ v47.site v47.out v47.at_ w1_2.l)
          else (atI o1_12 v47.to_).bind fun w1_10 =>
          if Room 8 (v8_12 ++ ([v47.to_] : List Int)).length then if InR (v10 + 1) then vigilref13_Held_L12_2 p0 v9 n k (v8_12 ++ ([v47.to_] : List Int)) (v10 + 1) (o1_12.set v47.to_.toNat (⟨false, false, w1_2.l⟩ : Sl Int)) (o2_12.set v47.to_.toNat true)
          else none
          else none
          else none
      else none
      else none
    else some (.e2 v8_12 v10 o1_12 o2_12)
theorem vigilref13_Held_L12_2_ok (p0 : GFlow) (v9 : Int) (n : Nat) : ∀ (k : Nat) (v8_12 : List Int) (v10 : Int) (o1_12 : List (Sl Int)) (o2_12 : List Bool) (o : vigilref13_Held_L12_2O), vigilref13_Held_L12_2 p0 v9 n k v8_12 v10 o1_12 o2_12 = some o → ∀ s : S, restrS (X.an.rs 8 12) s = ⟨fl [(2, .pt 0 1 0), (6, .ms 1 1 0 p0.locs.toNat 1 true), (7, .ms 2 1 0 p0.locs.toNat 1 true), (8, apf v8_12), (9, dInt v9), (10, dInt v10)], ⟨[⟨1, (EncX.encX p0).map DV.c⟩, ⟨1, dcells o1_12⟩, ⟨1, dcells o2_12⟩], []⟩⟩ → X.Loop 8 131 [] (sub b8 [1, 1, 1, 1, 1, 1, 1, 0, 1, 0, 0, 1, 0, 0, 1, 0, 0]) 3 s (vigilref13_Held_L12_2x o) (vigilref13_Held_L12_2s p0 v9 o) := by
  intro k
  induction k with
  | zero => intro v8_12 v10 o1_12 o2_12 o h s hs; unfold vigilref13_Held_L12_2 at h; cases h
  | succ k ih =>
    intro v8_12 v10 o1_12 o2_12 o h s hs
    unfold vigilref13_Held_L12_2 at h
    refine Sys.loopQ hs ?_
    by_cases h1 : v10 < (p0.edges.l.length : Int)
    · replace h := iteT h1 h
      obtain ⟨v47, h3, h⟩ := bindE h
      obtain ⟨v53, h5, h⟩ := bindE h
      refine Sys.to [((12, 4), .b true), ((14, 3), .ix), ((14, 4), .agg (EncX.encX v47))] 15 (.at [1, 0, 0, 1, 0, 0]) ⟨fl [(2, .pt 0 1 0), (6, .ms 1 1 0 p0.locs.toNat 1 true), (7, .ms 2 1 0 p0.locs.toNat 1 true), (8, apf v8_12), (9, dInt v9), (10, dInt v10), (11, .pt 3 1 0)], ⟨[⟨1, (EncX.encX p0).map DV.c⟩, ⟨1, dcells o1_12⟩, ⟨1, dcells o2_12⟩, ⟨1, (EncX.encX v47).map DV.c⟩], []⟩⟩ (And.intro (h1) (And.intro (atI_b h3) (span_at 0 15 (by decide) (atI_g h3)))) (by kernel_rfl) ?_
      by_cases h6 : v47.from_ ≠ v53
      · replace h := iteT h6 h
        by_cases h8 : InR (v10 + 1)
        case neg => exact absurd (iteF h8 h) (by simp)
        replace h := iteT h8 h
        refine Sys.to [((15, 4), .ix), ((15, 5), .cell (cInt v53)), ((15, 6), .b true), ((13, 1), .n)] 999999 (.fin .normal) ⟨fl [(2, .pt 0 1 0), (6, .ms 1 1 0 p0.locs.toNat 1 true), (7, .ms 2 1 0 p0.locs.toNat 1 true), (8, apf v8_12), (9, dInt v9), (10, dInt (v10 + 1))], ⟨[⟨1, (EncX.encX p0).map DV.c⟩, ⟨1, dcells o1_12⟩, ⟨1, dcells o2_12⟩, ⟨1, (EncX.encX v47).map DV.c⟩], []⟩⟩ (And.intro (atI_b h5) (And.intro (cell_at 0 (c := cInt v53) rfl (atI_g h5)) (And.intro (h6) (h8)))) (by kernel_rfl) ?_
        exact Sys.fin (.inl ⟨rfl, ⟨fl [(2, .pt 0 1 0), (6, .ms 1 1 0 p0.locs.toNat 1 true), (7, .ms 2 1 0 p0.locs.toNat 1 true), (8, apf v8_12), (9, dInt v9), (10, dInt (v10 + 1))], ⟨[⟨1, (EncX.encX p0).map DV.c⟩, ⟨1, dcells o1_12⟩, ⟨1, dcells o2_12⟩], []⟩⟩, (cut_ok (l := [2, 6, 7, 8, 9, 10]) rfl (AllB.cons rfl (AllB.cons (below_dcells 3 o1_12) (AllB.cons (below_dcells 3 o2_12) (AllB.nil 3)))) rfl), ih v8_12 (v10 + 1) o1_12 o2_12 _ h _ (by kernel_rfl)⟩)
      · replace h := iteF h6 h
        by_cases h8 : 0 ≤ v47.from_ ∧ v47.from_ < (p0.locs.toNat : Int)
        case neg => exact absurd (iteF h8 h) (by simp)
        replace h := iteT h8 h
        obtain ⟨w1_2, h9, h⟩ := bindE h
        by_cases h10 : Room 8 w1_2.l.length
        case neg => exact absurd (iteF h10 h) (by simp)
        replace h := iteT h10 h
        refine Sys.to [((15, 4), .ix), ((15, 5), .cell (cInt v53)), ((15, 6), .b false), ((16, 4), .ix), ((16, 5), .cell (eSl w1_2)), ((16, 6), .appN)] 217003 (.at [1, 0, 0, 1, 1, 1, 0]) ⟨fl [(2, .pt 0 1 0), (6, .ms 1 1 0 p0.locs.toNat 1 true), (7, .ms 2 1 0 p0.locs.toNat 1 true), (8, apf v8_12), (9, dInt v9), (10, dInt v10), (11, .pt 3 1 0), (12, .ms 4 1 0 w1_2.l.length 1 false)], ⟨[⟨1, (EncX.encX p0).map DV.c⟩, ⟨1, dcells o1_12⟩, ⟨1, dcells o2_12⟩, ⟨1, (EncX.encX v47).map DV.c⟩, ⟨1, dcells w1_2.l⟩], []⟩⟩ (And.intro (atI_b h5) (And.intro (cell_at 0 (c := cInt v53) rfl (atI_g h5)) (And.intro (h6) (And.intro (h8) (And.intro (And.intro (rfl : (1 : Nat) = 1) (dcell_at' 0 (c := eSl w1_2) rfl (atI_g h9))) (appN_ok w1_2.l (b := 8) (by decide) h10)))))) (by kernel_rfl) ?_
        obtain ⟨o_2, g12, h⟩ := bindE h
        have h12 := vigilref13_Held_J17_4_ok p0 v9 v8_12 v10 o1_12 o2_12 v47 w1_2 n _ g12
        cases o_2 with
        | m o4 =>
          dsimp only at h
          refine Sys.over h12 ?_
          refine Sys.to [] 219003 (.at [1, 0, 0, 1, 1, 1, 1, 0]) ⟨fl [(2, .pt 0 1 0), (6, .ms 1 1 0 p0.locs.toNat 1 true), (7, .ms 2 1 0 p0.locs.toNat 1 true), (8, apf v8_12), (9, dInt v9), (10, dInt v10), (11, .pt 3 1 0), (12, .ms 4 1 0 w1_2.l.length 1 false)], ⟨[⟨1, (EncX.encX p0).map DV.c⟩, ⟨1, dcells o1_12⟩, ⟨1, dcells o2_12⟩, ⟨1, (EncX.encX v47).map DV.c⟩, ⟨1, dcells o4⟩], []⟩⟩ (True.intro) (by kernel_rfl) ?_
          obtain ⟨o_3, g14, h⟩ := bindE h
          have h14 := vigilref13_Held_J19_7_ok p0 v9 v8_12 v10 o1_12 o2_12 v47 w1_2 o4 n _ g14
          cases o_3 with
          | r o4_2 =>
            dsimp only at h
            refine Sys.over h14 ?_
            have hr := Option.some.inj h
            subst hr
            exact Sys.endX [] (True.intro) rfl (by kernel_rfl)
          | m o4_3 =>
            dsimp only at h
            refine Sys.over h14 ?_
            by_cases h16 : 0 ≤ v47.to_ ∧ v47.to_ < (p0.locs.toNat : Int)
            case neg => exact absurd (iteF h16 h) (by simp)
            replace h := iteT h16 h
            obtain ⟨w2_2, h17, h⟩ := bindE h
            cases w2_2 with
            | true =>
              replace h := condT h
              obtain ⟨w1_3, h20, h⟩ := bindE h
              obtain ⟨x_2, g21, h⟩ := bindE h
              have h21 := vigilref13_same_ok g21
              refine Sys.to [((23, 3), .ix), ((23, 4), .cell (.sc (.bool true)))] 24 (.at [1, 0, 0, 1, 1, 1, 1, 1, 0, 1, 0, 0, 0]) ⟨fl [(2, .pt 0 1 0), (6, .ms 1 1 0 p0.locs.toNat 1 true), (7, .ms 2 1 0 p0.locs.toNat 1 true), (8, apf v8_12), (9, dInt v9), (10, dInt v10), (11, .pt 3 1 0), (12, .ms 4 1 0 w1_2.l.length 1 false), (93, dB true)], ⟨[⟨1, (EncX.encX p0).map DV.c⟩, ⟨1, dcells o1_12⟩, ⟨1, dcells o2_12⟩, ⟨1, (EncX.encX v47).map DV.c⟩, ⟨1, dcells o4_3⟩], []⟩⟩ (And.intro (h16) (And.intro (rfl : (1 : Nat) = 1) (dcell_at' 0 (c := .sc (.bool true)) rfl (atI_g h17)))) (by kernel_rfl) ?_
              cases x_2 with
              | true =>
                replace h := condT h
                by_cases h24 : InR (v10 + 1)
                case neg => exact absurd (iteF h24 h) (by simp)
                replace h := iteT h24 h
                refine Sys.to [((24, 4), .ix), ((24, 5), .cell (eSl w1_3)), ((24, 6), .callL [.ms 0 1 0 w1_2.l.length 1 false, .c (eSl w1_3)] [⟨1, dcells o4_3⟩] (dB true) [⟨1, dcells o4_3⟩] (dB true) [⟨1, (EncX.encX p0).map DV.c⟩, ⟨1, dcells o1_12⟩, ⟨1, dcells o2_12⟩, ⟨1, (EncX.encX v47).map DV.c⟩, ⟨1, dcells o4_3⟩]), ((13, 1), .n)] 999999 (.fin .normal) ⟨fl [(2, .pt 0 1 0), (6, .ms 1 1 0 p0.locs.toNat 1 true), (7, .ms 2 1 0 p0.locs.toNat 1 true), (8, apf v8_12), (9, dInt v9), (10, dInt (v10 + 1))], ⟨[⟨1, (EncX.encX p0).map DV.c⟩, ⟨1, dcells o1_12⟩, ⟨1, dcells o2_12⟩, ⟨1, (EncX.encX v47).map DV.c⟩, ⟨1, dcells o4_3⟩], []⟩⟩ (And.intro (h16) (And.intro (And.intro (rfl : (1 : Nat) = 1) (dcell_at' 0 (c := eSl w1_3) rfl (atI_g h20))) (And.intro (And.intro (rfl : nodupB [4] = true) (And.intro (locS_cons (all := [4]) (st := [⟨1, (EncX.encX p0).map DV.c⟩, ⟨1, dcells o1_12⟩, ⟨1, dcells o2_12⟩, ⟨1, (EncX.encX v47).map DV.c⟩, ⟨1, dcells o4_3⟩]) (id := 4) (ids := []) (ver := 0) (cs := dcells o4_3) (cs' := dcells o4_3) rfl (locL_dcells _ _ _) (locS_nil _ _)) (by kernel_rfl : locL [4] [⟨1, (EncX.encX p0).map DV.c⟩, ⟨1, dcells o1_12⟩, ⟨1, dcells o2_12⟩, ⟨1, (EncX.encX v47).map DV.c⟩, ⟨1, dcells o4_3⟩] [.ms 4 1 0 w1_2.l.length 1 false, .c (eSl w1_3)] = some [.ms 0 1 0 w1_2.l.length 1 false, .c (eSl w1_3)]))) (And.intro (h21) (And.intro (And.intro (by kernel_rfl : bkD [4] [1] (dB true) = some (dB true)) (putBack_cons (sel := [4]) (vs := [1]) (id := 4) (v := 1) (ver := 1) (ids := []) (ws := []) (cs := dcells o4_3) (cs' := dcells o4_3) (st := [⟨1, (EncX.encX p0).map DV.c⟩, ⟨1, dcells o1_12⟩, ⟨1, dcells o2_12⟩, ⟨1, (EncX.encX v47).map DV.c⟩, ⟨1, dcells o4_3⟩]) (st' := [⟨1, (EncX.encX p0).map DV.c⟩, ⟨1, dcells o1_12⟩, ⟨1, dcells o2_12⟩, ⟨1, (EncX.encX v47).map DV.c⟩, ⟨1, dcells o4_3⟩]) (bkL_dcells _ _ _) rfl (putBack_nil _ _ [] _))) (h24)))))) (by kernel_rfl) ?_
                exact Sys.fin (.inl ⟨rfl, ⟨fl [(2, .pt 0 1 0), (6, .ms 1 1 0 p0.locs.toNat 1 true), (7, .ms 2 1 0 p0.locs.toNat 1 true), (8, apf v8_12), (9, dInt v9), (10, dInt (v10 + 1))], ⟨[⟨1, (EncX.encX p0).map DV.c⟩, ⟨1, dcells o1_12⟩, ⟨1, dcells o2_12⟩], []⟩⟩, (cut_ok (l := [2, 6, 7, 8, 9, 10]) rfl (AllB.cons rfl (AllB.cons (below_dcells 3 o1_12) (AllB.cons (below_dcells 3 o2_12) (AllB.nil 3)))) rfl), ih v8_12 (v10 + 1) o1_12 o2_12 _ h _ (by kernel_rfl)⟩)
              | false =>
                replace h := condF h
                have hr := Option.some.inj h
                subst hr
                exact Sys.endX [((24, 4), .ix), ((24, 5), .cell (eSl w1_3)), ((24, 6), .callL [.ms 0 1 0 w1_2.l.length 1 false, .c (eSl w1_3)] [⟨1, dcells o4_3⟩] (dB false) [⟨1, dcells o4_3⟩] (dB false) [⟨1, (EncX.encX p0).map DV.c⟩, ⟨1, dcells o1_12⟩, ⟨1, dcells o2_12⟩, ⟨1, (EncX.encX v47).map DV.c⟩, ⟨1, dcells o4_3⟩])] (And.intro (h16) (And.intro (And.intro (rfl : (1 : Nat) = 1) (dcell_at' 0 (c := eSl w1_3) rfl (atI_g h20))) (And.intro (And.intro (rfl : nodupB [4] = true) (And.intro (locS_cons (all := [4]) (st := [⟨1, (EncX.encX p0).map DV.c⟩, ⟨1, dcells o1_12⟩, ⟨1, dcells o2_12⟩, ⟨1, (EncX.encX v47).map DV.c⟩, ⟨1, dcells o4_3⟩]) (id := 4) (ids := []) (ver := 0) (cs := dcells o4_3) (cs' := dcells o4_3) rfl (locL_dcells _ _ _) (locS_nil _ _)) (by kernel_rfl : locL [4] [⟨1, (EncX.encX p0).map DV.c⟩, ⟨1, dcells o1_12⟩, ⟨1, dcells o2_12⟩, ⟨1, (EncX.encX v47).map DV.c⟩, ⟨1, dcells o4_3⟩] [.ms 4 1 0 w1_2.l.length 1 false, .c (eSl w1_3)] = some [.ms 0 1 0 w1_2.l.length 1 false, .c (eSl w1_3)]))) (And.intro (h21) (And.intro (by kernel_rfl : bkD [4] [1] (dB false) = some (dB false)) (putBack_cons (sel := [4]) (vs := [1]) (id := 4) (v := 1) (ver := 1) (ids := []) (ws := []) (cs := dcells o4_3) (cs' := dcells o4_3) (st := [⟨1, (EncX.encX p0).map DV.c⟩, ⟨1, dcells o1_12⟩, ⟨1, dcells o2_12⟩, ⟨1, (EncX.encX v47).map DV.c⟩, ⟨1, dcells o4_3⟩]) (st' := [⟨1, (EncX.encX p0).map DV.c⟩, ⟨1, dcells o1_12⟩, ⟨1, dcells o2_12⟩, ⟨1, (EncX.encX v47).map DV.c⟩, ⟨1, dcells o4_3⟩]) (bkL_dcells _ _ _) rfl (putBack_nil _ _ [] _))))))) rfl (by kernel_rfl)
            | false =>
              replace h := condF h
              by_cases h21 : w1_2.l.length = o4_3.length
              case neg => exact absurd (iteF h21 h) (by simp)
              replace h := iteT h21 h
              obtain ⟨w1_4, h22, h⟩ := bindE h
              by_cases h24 : Room 8 (v8_12 ++ ([v47.to_] : List Int)).length
              case neg => exact absurd (iteF h24 h) (by simp)
              replace h := iteT h24 h
              by_cases h26 : InR (v10 + 1)
              case neg => exact absurd (iteF h26 h) (by simp)
              replace h := iteT h26 h
              refine Sys.to [((23, 3), .ix), ((23, 4), .cell (.sc (.bool false))), ((26, 3), .ix), ((26, 4), .st (dcells (o2_12.set v47.to_.toNat true))), ((27, 3), .op { d := .c (.sl false false (cells o4_3) o4_3.length), set := some (4, ⟨2, []⟩) }), ((27, 4), .ix), ((27, 5), .st (dcells (o1_12.set v47.to_.toNat (⟨false, false, o4_3⟩ : Sl Int)))), ((28, 4), .appF false (cells (v8_12 ++ ([v47.to_] : List Int))) (v8_12 ++ ([v47.to_] : List Int)).length), ((13, 1), .n)] 999999 (.fin .normal) ⟨fl [(2, .pt 0 1 0), (6, .ms 1 1 0 p0.locs.toNat 1 true), (7, .ms 2 1 0 p0.locs.toNat 1 true), (8, apf (v8_12 ++ ([v47.to_] : List Int))), (9, dInt v9), (10, dInt (v10 + 1))], ⟨[⟨1, (EncX.encX p0).map DV.c⟩, ⟨1, dcells (o1_12.set v47.to_.toNat (⟨false, false, o4_3⟩ : Sl Int))⟩, ⟨1, dcells (o2_12.set v47.to_.toNat true)⟩, ⟨1, (EncX.encX v47).map DV.c⟩, ⟨2, []⟩], []⟩⟩ (And.intro (h16) (And.intro (And.intro (rfl : (1 : Nat) = 1) (dcell_at' 0 (c := .sc (.bool false)) rfl (atI_g h17))) (And.intro (h16) (And.intro (And.intro (rfl : (1 : Nat) = 1) (dst_part 0 [dB true] true (atI_g h17) rfl (Nat.le_of_ble_eq_true rfl))) (And.intro (freeze_ok (st := [⟨1, (EncX.encX p0).map DV.c⟩, ⟨1, dcells o1_12⟩, ⟨1, dcells (o2_12.set v47.to_.toNat true)⟩, ⟨1, (EncX.encX v47).map DV.c⟩, ⟨1, dcells o4_3⟩]) (id := 4) (ver := 1) (x := false) (l := o4_3) rfl h21) (And.intro (h16) (And.intro (And.intro (rfl : (1 : Nat) = 1) (dst_part 0 [.c (.sl false false (cells o4_3) o4_3.length)] (⟨false, false, o4_3⟩ : Sl Int) (atI_g h22) rfl (Nat.le_of_ble_eq_true rfl))) (And.intro (apf_lit v8_12 ([v47.to_] : List Int) (b := 8) (by decide) h24) (h26))))))))) (by kernel_rfl) ?_
              exact Sys.fin (.inl ⟨rfl, ⟨fl [(2, .pt 0 1 0), (6, .ms 1 1 0 p0.locs.toNat 1 true), (7, .ms 2 1 0 p0.locs.toNat 1 true), (8, apf (v8_12 ++ ([v47.to_] : List Int))), (9, dInt v9), (10, dInt (v10 + 1))], ⟨[⟨1, (EncX.encX p0).map DV.c⟩, ⟨1, dcells (o1_12.set v47.to_.toNat (⟨false, false, o4_3⟩ : Sl Int))⟩, ⟨1, dcells (o2_12.set v47.to_.toNat true)⟩], []⟩⟩, (cut_ok (l := [2, 6, 7, 8, 9, 10]) rfl (AllB.cons rfl (AllB.cons (below_dcells 3 (o1_12.set v47.to_.toNat (⟨false, false, o4_3⟩ : Sl Int))) (AllB.cons (below_dcells 3 (o2_12.set v47.to_.toNat true)) (AllB.nil 3)))) rfl), ih (v8_12 ++ ([v47.to_] : List Int)) (v10 + 1) (o1_12.set v47.to_.toNat (⟨false, false, o4_3⟩ : Sl Int)) (o2_12.set v47.to_.toNat true) _ h _ (by kernel_rfl)⟩)
          | m_2 =>
            dsimp only at h
            refine Sys.over h14 ?_
            by_cases h16 : 0 ≤ v47.to_ ∧ v47.to_ < (p0.locs.toNat : Int)
            case neg => exact absurd (iteF h16 h) (by simp)
            replace h := iteT h16 h
            obtain ⟨w2_3, h17, h⟩ := bindE h
            cases w2_3 with
            | true =>
              replace h := condT h
              obtain ⟨w1_5, h20, h⟩ := bindE h
              obtain ⟨x_3, g21, h⟩ := bindE h
              have h21 := vigilref13_same_ok g21
              refine Sys.to [((23, 3), .ix), ((23, 4), .cell (.sc (.bool true)))] 24 (.at [1, 0, 0, 1, 1, 1, 1, 1, 0, 1, 0, 0, 0]) ⟨fl [(2, .pt 0 1 0), (6, .ms 1 1 0 p0.locs.toNat 1 true), (7, .ms 2 1 0 p0.locs.toNat 1 true), (8, apf v8_12), (9, dInt v9), (10, dInt v10), (11, .pt 3 1 0), (12, .ms 4 1 0 w1_2.l.length 1 false), (93, dB true)], ⟨[⟨1, (EncX.encX p0).map DV.c⟩, ⟨1, dcells o1_12⟩, ⟨1, dcells o2_12⟩, ⟨1, (EncX.encX v47).map DV.c⟩, ⟨1, dcells o4⟩], []⟩⟩ (And.intro (h16) (And.intro (rfl : (1 : Nat) = 1) (dcell_at' 0 (c := .sc (.bool true)) rfl (atI_g h17)))) (by kernel_rfl) ?_
              cases x_3 with
              | true =>
                replace h := condT h
                by_cases h24 : InR (v10 + 1)
                case neg => exact absurd (iteF h24 h) (by simp)
                replace h := iteT h24 h
                refine Sys.to [((24, 4), .ix), ((24, 5), .cell (eSl w1_5)), ((24, 6), .callL [.ms 0 1 0 w1_2.l.length 1 false, .c (eSl w1_5)] [⟨1, dcells o4⟩] (dB true) [⟨1, dcells o4⟩] (dB true) [⟨1, (EncX.encX p0).map DV.c⟩, ⟨1, dcells o1_12⟩, ⟨1, dcells o2_12⟩, ⟨1, (EncX.encX v47).map DV.c⟩, ⟨1, dcells o4⟩]), ((13, 1), .n)] 999999 (.fin .normal) ⟨fl [(2, .pt 0 1 0), (6, .ms 1 1 0 p0.locs.toNat 1 true), (7, .ms 2 1 0 p0.locs.toNat 1 true), (8, apf v8_12), (9, dInt v9), (10, dInt (v10 + 1))], ⟨[⟨1, (EncX.encX p0).map DV.c⟩, ⟨1, dcells o1_12⟩, ⟨1, dcells o2_12⟩, ⟨1, (EncX.encX v47).map DV.c⟩, ⟨1, dcells o4⟩], []⟩⟩ (And.intro (h16) (And.intro (And.intro (rfl : (1 : Nat) = 1) (dcell_at' 0 (c := eSl w1_5) rfl (atI_g h20))) (And.intro (And.intro (rfl : nodupB [4] = true) (And.intro (locS_cons (all := [4]) (st := [⟨1, (EncX.encX p0).map DV.c⟩, ⟨1, dcells o1_12⟩, ⟨1, dcells o2_12⟩, ⟨1, (EncX.encX v47).map DV.c⟩, ⟨1, dcells o4⟩]) (id := 4) (ids := []) (ver := 0) (cs := dcells o4) (cs' := dcells o4) rfl (locL_dcells _ _ _) (locS_nil _ _)) (by kernel_rfl : locL [4] [⟨1, (EncX.encX p0).map DV.c⟩, ⟨1, dcells o1_12⟩, ⟨1, dcells o2_12⟩, ⟨1, (EncX.encX v47).map DV.c⟩, ⟨1, dcells o4⟩] [.ms 4 1 0 w1_2.l.length 1 false, .c (eSl w1_5)] = some [.ms 0 1 0 w1_2.l.length 1 false, .c (eSl w1_5)]))) (And.intro (h21) (And.intro (And.intro (by kernel_rfl : bkD [4] [1] (dB true) = some (dB true)) (putBack_cons (sel := [4]) (vs := [1]) (id := 4) (v := 1) (ver := 1) (ids := []) (ws := []) (cs := dcells o4) (cs' := dcells o4) (st := [⟨1, (EncX.encX p0).map DV.c⟩, ⟨1, dcells o1_12⟩, ⟨1, dcells o2_12⟩, ⟨1, (EncX.encX v47).map DV.c⟩, ⟨1, dcells o4⟩]) (st' := [⟨1, (EncX.encX p0).map DV.c⟩, ⟨1, dcells o1_12⟩, ⟨1, dcells o2_12⟩, ⟨1, (EncX.encX v47).map DV.c⟩, ⟨1, dcells o4⟩]) (bkL_dcells _ _ _) rfl (putBack_nil _ _ [] _))) (h24)))))) (by kernel_rfl) ?_
                exact Sys.fin (.inl ⟨rfl, ⟨fl [(2, .pt 0 1 0), (6, .ms 1 1 0 p0.locs.toNat 1 true), (7, .ms 2 1 0 p0.locs.toNat 1 true), (8, apf v8_12), (9, dInt v9), (10, dInt (v10 + 1))], ⟨[⟨1, (EncX.encX p0).map DV.c⟩, ⟨1, dcells o1_12⟩, ⟨1, dcells o2_12⟩], []⟩⟩, (cut_ok (l := [2, 6, 7, 8, 9, 10]) rfl (AllB.cons rfl (AllB.cons (below_dcells 3 o1_12) (AllB.cons (below_dcells 3 o2_12) (AllB.nil 3)))) rfl), ih v8_12 (v10 + 1) o1_12 o2_12 _ h _ (by kernel_rfl)⟩)
              | false =>
                replace h := condF h
                have hr := Option.some.inj h
                subst hr
                exact Sys.endX [((24, 4), .ix), ((24, 5), .cell (eSl w1_5)), ((24, 6), .callL [.ms 0 1 0 w1_2.l.length 1 false, .c (eSl w1_5)] [⟨1, dcells o4⟩] (dB false) [⟨1, dcells o4⟩] (dB false) [⟨1, (EncX.encX p0).map DV.c⟩, ⟨1, dcells o1_12⟩, ⟨1, dcells o2_12⟩, ⟨1, (EncX.encX v47).map DV.c⟩, ⟨1, dcells o4⟩])] (And.intro (h16) (And.intro (And.intro (rfl : (1 : Nat) = 1) (dcell_at' 0 (c := eSl w1_5) rfl (atI_g h20))) (And.intro (And.intro (rfl : nodupB [4] = true) (And.intro (locS_cons (all := [4]) (st := [⟨1, (EncX.encX p0).map DV.c⟩, ⟨1, dcells o1_12⟩, ⟨1, dcells o2_12⟩, ⟨1, (EncX.encX v47).map DV.c⟩, ⟨1, dcells o4⟩]) (id := 4) (ids := []) (ver := 0) (cs := dcells o4) (cs' := dcells o4) rfl (locL_dcells _ _ _) (locS_nil _ _)) (by kernel_rfl : locL [4] [⟨1, (EncX.encX p0).map DV.c⟩, ⟨1, dcells o1_12⟩, ⟨1, dcells o2_12⟩, ⟨1, (EncX.encX v47).map DV.c⟩, ⟨1, dcells o4⟩] [.ms 4 1 0 w1_2.l.length 1 false, .c (eSl w1_5)] = some [.ms 0 1 0 w1_2.l.length 1 false, .c (eSl w1_5)]))) (And.intro (h21) (And.intro (by kernel_rfl : bkD [4] [1] (dB false) = some (dB false)) (putBack_cons (sel := [4]) (vs := [1]) (id := 4) (v := 1) (ver := 1) (ids := []) (ws := []) (cs := dcells o4) (cs' := dcells o4) (st := [⟨1, (EncX.encX p0).map DV.c⟩, ⟨1, dcells o1_12⟩, ⟨1, dcells o2_12⟩, ⟨1, (EncX.encX v47).map DV.c⟩, ⟨1, dcells o4⟩]) (st' := [⟨1, (EncX.encX p0).map DV.c⟩, ⟨1, dcells o1_12⟩, ⟨1, dcells o2_12⟩, ⟨1, (EncX.encX v47).map DV.c⟩, ⟨1, dcells o4⟩]) (bkL_dcells _ _ _) rfl (putBack_nil _ _ [] _))))))) rfl (by kernel_rfl)
            | false =>
              replace h := condF h
              by_cases h21 : w1_2.l.length = o4.length
              case neg => exact absurd (iteF h21 h) (by simp)
              replace h := iteT h21 h
              obtain ⟨w1_6, h22, h⟩ := bindE h
              by_cases h24 : Room 8 (v8_12 ++ ([v47.to_] : List Int)).length
              case neg => exact absurd (iteF h24 h) (by simp)
              replace h := iteT h24 h
              by_cases h26 : InR (v10 + 1)
              case neg => exact absurd (iteF h26 h) (by simp)
              replace h := iteT h26 h
              refine Sys.to [((23, 3), .ix), ((23, 4), .cell (.sc (.bool false))), ((26, 3), .ix), ((26, 4), .st (dcells (o2_12.set v47.to_.toNat true))), ((27, 3), .op { d := .c (.sl false false (cells o4) o4.length), set := some (4, ⟨2, []⟩) }), ((27, 4), .ix), ((27, 5), .st (dcells (o1_12.set v47.to_.toNat (⟨false, false, o4⟩ : Sl Int)))), ((28, 4), .appF false (cells (v8_12 ++ ([v47.to_] : List Int))) (v8_12 ++ ([v47.to_] : List Int)).length), ((13, 1), .n)] 999999 (.fin .normal) ⟨fl [(2, .pt 0 1 0), (6, .ms 1 1 0 p0.locs.toNat 1 true), (7, .ms 2 1 0 p0.locs.toNat 1 true), (8, apf (v8_12 ++ ([v47.to_] : List Int))), (9, dInt v9), (10, dInt (v10 + 1))], ⟨[⟨1, (EncX.encX p0).map DV.c⟩, ⟨1, dcells (o1_12.set v47.to_.toNat (⟨false, false, o4⟩ : Sl Int))⟩, ⟨1, dcells (o2_12.set v47.to_.toNat true)⟩, ⟨1, (EncX.encX v47).map DV.c⟩, ⟨2, []⟩], []⟩⟩ (And.intro (h16) (And.intro (And.intro (rfl : (1 : Nat) = 1) (dcell_at' 0 (c := .sc (.bool false)) rfl (atI_g h17))) (And.intro (h16) (And.intro (And.intro (rfl : (1 : Nat) = 1) (dst_part 0 [dB true] true (atI_g h17) rfl (Nat.le_of_ble_eq_true rfl))) (And.intro (freeze_ok (st := [⟨1, (EncX.encX p0).map DV.c⟩, ⟨1, dcells o1_12⟩, ⟨1, dcells (o2_12.set v47.to_.toNat true)⟩, ⟨1, (EncX.encX v47).map DV.c⟩, ⟨1, dcells o4⟩]) (id := 4) (ver := 1) (x := false) (l := o4) rfl h21) (And.intro (h16) (And.intro (And.intro (rfl : (1 : Nat) = 1) (dst_part 0 [.c (.sl false false (cells o4) o4.length)] (⟨false, false, o4⟩ : Sl Int) (atI_g h22) rfl (Nat.le_of_ble_eq_true rfl))) (And.intro (apf_lit v8_12 ([v47.to_] : List Int) (b := 8) (by decide) h24) (h26))))))))) (by kernel_rfl) ?_
              exact Sys.fin (.inl ⟨rfl, ⟨fl [(2, .pt 0 1 0), (6, .ms 1 1 0 p0.locs.toNat 1 true), (7, .ms 2 1 0 p0.locs.toNat 1 true), (8, apf (v8_12 ++ ([v47.to_] : List Int))), (9, dInt v9), (10, dInt (v10 + 1))], ⟨[⟨1, (EncX.encX p0).map DV.c⟩, ⟨1, dcells (o1_12.set v47.to_.toNat (⟨false, false, o4⟩ : Sl Int))⟩, ⟨1, dcells (o2_12.set v47.to_.toNat true)⟩], []⟩⟩, (cut_ok (l := [2, 6, 7, 8, 9, 10]) rfl (AllB.cons rfl (AllB.cons (below_dcells 3 (o1_12.set v47.to_.toNat (⟨false, false, o4⟩ : Sl Int))) (AllB.cons (below_dcells 3 (o2_12.set v47.to_.toNat true)) (AllB.nil 3)))) rfl), ih (v8_12 ++ ([v47.to_] : List Int)) (v10 + 1) (o1_12.set v47.to_.toNat (⟨false, false, o4⟩ : Sl Int)) (o2_12.set v47.to_.toNat true) _ h _ (by kernel_rfl)⟩)
        | m_1 =>
          dsimp only at h
          refine Sys.over h12 ?_
          refine Sys.to [] 219003 (.at [1, 0, 0, 1, 1, 1, 1, 0]) ⟨fl [(2, .pt 0 1 0), (6, .ms 1 1 0 p0.locs.toNat 1 true), (7, .ms 2 1 0 p0.locs.toNat 1 true), (8, apf v8_12), (9, dInt v9), (10, dInt v10), (11, .pt 3 1 0), (12, .ms 4 1 0 w1_2.l.length 1 false), (65, dB false)], ⟨[⟨1, (EncX.encX p0).map DV.c⟩, ⟨1, dcells o1_12⟩, ⟨1, dcells o2_12⟩, ⟨1, (EncX.encX v47).map DV.c⟩, ⟨1, dcells w1_2.l⟩], []⟩⟩ (True.intro) (by kernel_rfl) ?_
          obtain ⟨o_4, g14, h⟩ := bindE h
          have h14 := vigilref13_Held_J19_8_ok p0 v9 v8_12 v10 o1_12 o2_12 v47 w1_2 n _ g14
          cases o_4 with
          | r o4_4 =>
            dsimp only at h
            refine Sys.over h14 ?_
            have hr := Option.some.inj h
            subst hr
            exact Sys.endX [] (True.intro) rfl (by kernel_rfl)
          | m o4_5 =>
            dsimp only at h
            refine Sys.over h14 ?_
            by_cases h16 : 0 ≤ v47.to_ ∧ v47.to_ < (p0.locs.toNat : Int)
            case neg => exact absurd (iteF h16 h) (by simp)
            replace h := iteT h16 h
            obtain ⟨w2_4, h17, h⟩ := bindE h
            cases w2_4 with
            | true =>
              replace h := condT h
              obtain ⟨w1_7, h20, h⟩ := bindE h
              obtain ⟨x_4, g21, h⟩ := bindE h
              have h21 := vigilref13_same_ok g21
              refine Sys.to [((23, 3), .ix), ((23, 4), .cell (.sc (.bool true)))] 24 (.at [1, 0, 0, 1, 1, 1, 1, 1, 0, 1, 0, 0, 0]) ⟨fl [(2, .pt 0 1 0), (6, .ms 1 1 0 p0.locs.toNat 1 true), (7, .ms 2 1 0 p0.locs.toNat 1 true), (8, apf v8_12), (9, dInt v9), (10, dInt v10), (11, .pt 3 1 0), (12, .ms 4 1 0 w1_2.l.length 1 false), (93, dB true)], ⟨[⟨1, (EncX.encX p0).map DV.c⟩, ⟨1, dcells o1_12⟩, ⟨1, dcells o2_12⟩, ⟨1, (EncX.encX v47).map DV.c⟩, ⟨1, dcells o4_5⟩], []⟩⟩ (And.intro (h16) (And.intro (rfl : (1 : Nat) = 1) (dcell_at' 0 (c := .sc (.bool true)) rfl (atI_g h17)))) (by kernel_rfl) ?_
              cases x_4 with
              | true =>
                replace h := condT h
                by_cases h24 : InR (v10 + 1)
                case neg => exact absurd (iteF h24 h) (by simp)
                replace h := iteT h24 h
                refine Sys.to [((24, 4), .ix), ((24, 5), .cell (eSl w1_7)), ((24, 6), .callL [.ms 0 1 0 w1_2.l.length 1 false, .c (eSl w1_7)] [⟨1, dcells o4_5⟩] (dB true) [⟨1, dcells o4_5⟩] (dB true) [⟨1, (EncX.encX p0).map DV.c⟩, ⟨1, dcells o1_12⟩, ⟨1, dcells o2_12⟩, ⟨1, (EncX.encX v47).map DV.c⟩, ⟨1, dcells o4_5⟩]), ((13, 1), .n)] 999999 (.fin .normal) ⟨fl [(2, .pt 0 1 0), (6, .ms 1 1 0 p0.locs.toNat 1 true), (7, .ms 2 1 0 p0.locs.toNat 1 true), (8, apf v8_12), (9, dInt v9), (10, dInt (v10 + 1))], ⟨[⟨1, (EncX.encX p0).map DV.c⟩, ⟨1, dcells o1_12⟩, ⟨1, dcells o2_12⟩, ⟨1, (EncX.encX v47).map DV.c⟩, ⟨1, dcells o4_5⟩], []⟩⟩ (And.intro (h16) (And.intro (And.intro (rfl : (1 : Nat) = 1) (dcell_at' 0 (c := eSl w1_7) rfl (atI_g h20))) (And.intro (And.intro (rfl : nodupB [4] = true) (And.intro (locS_cons (all := [4]) (st := [⟨1, (EncX.encX p0).map DV.c⟩, ⟨1, dcells o1_12⟩, ⟨1, dcells o2_12⟩, ⟨1, (EncX.encX v47).map DV.c⟩, ⟨1, dcells o4_5⟩]) (id := 4) (ids := []) (ver := 0) (cs := dcells o4_5) (cs' := dcells o4_5) rfl (locL_dcells _ _ _) (locS_nil _ _)) (by kernel_rfl : locL [4] [⟨1, (EncX.encX p0).map DV.c⟩, ⟨1, dcells o1_12⟩, ⟨1, dcells o2_12⟩, ⟨1, (EncX.encX v47).map DV.c⟩, ⟨1, dcells o4_5⟩] [.ms 4 1 0 w1_2.l.length 1 false, .c (eSl w1_7)] = some [.ms 0 1 0 w1_2.l.length 1 false, .c (eSl w1_7)]))) (And.intro (h21) (And.intro (And.intro (by kernel_rfl : bkD [4] [1] (dB true) = some (dB true)) (putBack_cons (sel := [4]) (vs := [1]) (id := 4) (v := 1) (ver := 1) (ids := []) (ws := []) (cs := dcells o4_5) (cs' := dcells o4_5) (st := [⟨1, (EncX.encX p0).map DV.c⟩, ⟨1, dcells o1_12⟩, ⟨1, dcells o2_12⟩, ⟨1, (EncX.encX v47).map DV.c⟩, ⟨1, dcells o4_5⟩]) (st' := [⟨1, (EncX.encX p0).map DV.c⟩, ⟨1, dcells o1_12⟩, ⟨1, dcells o2_12⟩, ⟨1, (EncX.encX v47).map DV.c⟩, ⟨1, dcells o4_5⟩]) (bkL_dcells _ _ _) rfl (putBack_nil _ _ [] _))) (h24)))))) (by kernel_rfl) ?_
                exact Sys.fin (.inl ⟨rfl, ⟨fl [(2, .pt 0 1 0), (6, .ms 1 1 0 p0.locs.toNat 1 true), (7, .ms 2 1 0 p0.locs.toNat 1 true), (8, apf v8_12), (9, dInt v9), (10, dInt (v10 + 1))], ⟨[⟨1, (EncX.encX p0).map DV.c⟩, ⟨1, dcells o1_12⟩, ⟨1, dcells o2_12⟩], []⟩⟩, (cut_ok (l := [2, 6, 7, 8, 9, 10]) rfl (AllB.cons rfl (AllB.cons (below_dcells 3 o1_12) (AllB.cons (below_dcells 3 o2_12) (AllB.nil 3)))) rfl), ih v8_12 (v10 + 1) o1_12 o2_12 _ h _ (by kernel_rfl)⟩)
              | false =>
                replace h := condF h
                have hr := Option.some.inj h
                subst hr
                exact Sys.endX [((24, 4), .ix), ((24, 5), .cell (eSl w1_7)), ((24, 6), .callL [.ms 0 1 0 w1_2.l.length 1 false, .c (eSl w1_7)] [⟨1, dcells o4_5⟩] (dB false) [⟨1, dcells o4_5⟩] (dB false) [⟨1, (EncX.encX p0).map DV.c⟩, ⟨1, dcells o1_12⟩, ⟨1, dcells o2_12⟩, ⟨1, (EncX.encX v47).map DV.c⟩, ⟨1, dcells o4_5⟩])] (And.intro (h16) (And.intro (And.intro (rfl : (1 : Nat) = 1) (dcell_at' 0 (c := eSl w1_7) rfl (atI_g h20))) (And.intro (And.intro (rfl : nodupB [4] = true) (And.intro (locS_cons (all := [4]) (st := [⟨1, (EncX.encX p0).map DV.c⟩, ⟨1, dcells o1_12⟩, ⟨1, dcells o2_12⟩, ⟨1, (EncX.encX v47).map DV.c⟩, ⟨1, dcells o4_5⟩]) (id := 4) (ids := []) (ver := 0) (cs := dcells o4_5) (cs' := dcells o4_5) rfl (locL_dcells _ _ _) (locS_nil _ _)) (by kernel_rfl : locL [4] [⟨1, (EncX.encX p0).map DV.c⟩, ⟨1, dcells o1_12⟩, ⟨1, dcells o2_12⟩, ⟨1, (EncX.encX v47).map DV.c⟩, ⟨1, dcells o4_5⟩] [.ms 4 1 0 w1_2.l.length 1 false, .c (eSl w1_7)] = some [.ms 0 1 0 w1_2.l.length 1 false, .c (eSl w1_7)]))) (And.intro (h21) (And.intro (by kernel_rfl : bkD [4] [1] (dB false) = some (dB false)) (putBack_cons (sel := [4]) (vs := [1]) (id := 4) (v := 1) (ver := 1) (ids := []) (ws := []) (cs := dcells o4_5) (cs' := dcells o4_5) (st := [⟨1, (EncX.encX p0).map DV.c⟩, ⟨1, dcells o1_12⟩, ⟨1, dcells o2_12⟩, ⟨1, (EncX.encX v47).map DV.c⟩, ⟨1, dcells o4_5⟩]) (st' := [⟨1, (EncX.encX p0).map DV.c⟩, ⟨1, dcells o1_12⟩, ⟨1, dcells o2_12⟩, ⟨1, (EncX.encX v47).map DV.c⟩, ⟨1, dcells o4_5⟩]) (bkL_dcells _ _ _) rfl (putBack_nil _ _ [] _))))))) rfl (by kernel_rfl)
            | false =>
              replace h := condF h
              by_cases h21 : w1_2.l.length = o4_5.length
              case neg => exact absurd (iteF h21 h) (by simp)
              replace h := iteT h21 h
              obtain ⟨w1_8, h22, h⟩ := bindE h
              by_cases h24 : Room 8 (v8_12 ++ ([v47.to_] : List Int)).length
              case neg => exact absurd (iteF h24 h) (by simp)
              replace h := iteT h24 h
              by_cases h26 : InR (v10 + 1)
              case neg => exact absurd (iteF h26 h) (by simp)
              replace h := iteT h26 h
              refine Sys.to [((23, 3), .ix), ((23, 4), .cell (.sc (.bool false))), ((26, 3), .ix), ((26, 4), .st (dcells (o2_12.set v47.to_.toNat true))), ((27, 3), .op { d := .c (.sl false false (cells o4_5) o4_5.length), set := some (4, ⟨2, []⟩) }), ((27, 4), .ix), ((27, 5), .st (dcells (o1_12.set v47.to_.toNat (⟨false, false, o4_5⟩ : Sl Int)))), ((28, 4), .appF false (cells (v8_12 ++ ([v47.to_] : List Int))) (v8_12 ++ ([v47.to_] : List Int)).length), ((13, 1), .n)] 999999 (.fin .normal) ⟨fl [(2, .pt 0 1 0), (6, .ms 1 1 0 p0.locs.toNat 1 true), (7, .ms 2 1 0 p0.locs.toNat 1 true), (8, apf (v8_12 ++ ([v47.to_] : List Int))), (9, dInt v9), (10, dInt (v10 + 1))], ⟨[⟨1, (EncX.encX p0).map DV.c⟩, ⟨1, dcells (o1_12.set v47.to_.toNat (⟨false, false, o4_5⟩ : Sl Int))⟩, ⟨1, dcells (o2_12.set v47.to_.toNat true)⟩, ⟨1, (EncX.encX v47).map DV.c⟩, ⟨2, []⟩], []⟩⟩ (And.intro (h16) (And.intro (And.intro (rfl : (1 : Nat) = 1) (dcell_at' 0 (c := .sc (.bool false)) rfl (atI_g h17))) (And.intro (h16) (And.intro (And.intro (rfl : (1 : Nat) = 1) (dst_part 0 [dB true] true (atI_g h17) rfl (Nat.le_of_ble_eq_true rfl))) (And.intro (freeze_ok (st := [⟨1, (EncX.encX p0).map DV.c⟩, ⟨1, dcells o1_12⟩, ⟨1, dcells (o2_12.set v47.to_.toNat true)⟩, ⟨1, (EncX.encX v47).map DV.c⟩, ⟨1, dcells o4_5⟩]) (id := 4) (ver := 1) (x := false) (l := o4_5) rfl h21) (And.intro (h16) (And.intro (And.intro (rfl : (1 : Nat) = 1) (dst_part 0 [.c (.sl false false (cells o4_5) o4_5.length)] (⟨false, false, o4_5⟩ : Sl Int) (atI_g h22) rfl (Nat.le_of_ble_eq_true rfl))) (And.intro (apf_lit v8_12 ([v47.to_] : List Int) (b := 8) (by decide) h24) (h26))))))))) (by kernel_rfl) ?_
              exact Sys.fin (.inl ⟨rfl, ⟨fl [(2, .pt 0 1 0), (6, .ms 1 1 0 p0.locs.toNat 1 true), (7, .ms 2 1 0 p0.locs.toNat 1 true), (8, apf (v8_12 ++ ([v47.to_] : List Int))), (9, dInt v9), (10, dInt (v10 + 1))], ⟨[⟨1, (EncX.encX p0).map DV.c⟩, ⟨1, dcells (o1_12.set v47.to_.toNat (⟨false, false, o4_5⟩ : Sl Int))⟩, ⟨1, dcells (o2_12.set v47.to_.toNat true)⟩], []⟩⟩, (cut_ok (l := [2, 6, 7, 8, 9, 10]) rfl (AllB.cons rfl (AllB.cons (below_dcells 3 (o1_12.set v47.to_.toNat (⟨false, false, o4_5⟩ : Sl Int))) (AllB.cons (below_dcells 3 (o2_12.set v47.to_.toNat true)) (AllB.nil 3)))) rfl), ih (v8_12 ++ ([v47.to_] : List Int)) (v10 + 1) (o1_12.set v47.to_.toNat (⟨false, false, o4_5⟩ : Sl Int)) (o2_12.set v47.to_.toNat true) _ h _ (by kernel_rfl)⟩)
          | m_2 =>
            dsimp only at h
            refine Sys.over h14 ?_
            by_cases h16 : 0 ≤ v47.to_ ∧ v47.to_ < (p0.locs.toNat : Int)
            case neg => exact absurd (iteF h16 h) (by simp)
            replace h := iteT h16 h
            obtain ⟨w2_5, h17, h⟩ := bindE h
            cases w2_5 with
            | true =>
              replace h := condT h
              obtain ⟨w1_9, h20, h⟩ := bindE h
              obtain ⟨x_5, g21, h⟩ := bindE h
              have h21 := vigilref13_same_2_ok g21
              refine Sys.to [((23, 3), .ix), ((23, 4), .cell (.sc (.bool true)))] 24 (.at [1, 0, 0, 1, 1, 1, 1, 1, 0, 1, 0, 0, 0]) ⟨fl [(2, .pt 0 1 0), (6, .ms 1 1 0 p0.locs.toNat 1 true), (7, .ms 2 1 0 p0.locs.toNat 1 true), (8, apf v8_12), (9, dInt v9), (10, dInt v10), (11, .pt 3 1 0), (12, .ms 4 1 0 w1_2.l.length 1 false), (93, dB true)], ⟨[⟨1, (EncX.encX p0).map DV.c⟩, ⟨1, dcells o1_12⟩, ⟨1, dcells o2_12⟩, ⟨1, (EncX.encX v47).map DV.c⟩, ⟨1, dcells w1_2.l⟩], []⟩⟩ (And.intro (h16) (And.intro (rfl : (1 : Nat) = 1) (dcell_at' 0 (c := .sc (.bool true)) rfl (atI_g h17)))) (by kernel_rfl) ?_
              cases x_5 with
              | true =>
                replace h := condT h
                by_cases h24 : InR (v10 + 1)
                case neg => exact absurd (iteF h24 h) (by simp)
                replace h := iteT h24 h
                refine Sys.to [((24, 4), .ix), ((24, 5), .cell (eSl w1_9)), ((24, 6), .callL [.ms 0 1 0 w1_2.l.length 1 false, .c (eSl w1_9)] [⟨1, dcells w1_2.l⟩] (dB true) [⟨1, dcells w1_2.l⟩] (dB true) [⟨1, (EncX.encX p0).map DV.c⟩, ⟨1, dcells o1_12⟩, ⟨1, dcells o2_12⟩, ⟨1, (EncX.encX v47).map DV.c⟩, ⟨1, dcells w1_2.l⟩]), ((13, 1), .n)] 999999 (.fin .normal) ⟨fl [(2, .pt 0 1 0), (6, .ms 1 1 0 p0.locs.toNat 1 true), (7, .ms 2 1 0 p0.locs.toNat 1 true), (8, apf v8_12), (9, dInt v9), (10, dInt (v10 + 1))], ⟨[⟨1, (EncX.encX p0).map DV.c⟩, ⟨1, dcells o1_12⟩, ⟨1, dcells o2_12⟩, ⟨1, (EncX.encX v47).map DV.c⟩, ⟨1, dcells w1_2.l⟩], []⟩⟩ (And.intro (h16) (And.intro (And.intro (rfl : (1 : Nat) = 1) (dcell_at' 0 (c := eSl w1_9) rfl (atI_g h20))) (And.intro (And.intro (rfl : nodupB [4] = true) (And.intro (locS_cons (all := [4]) (st := [⟨1, (EncX.encX p0).map DV.c⟩, ⟨1, dcells o1_12⟩, ⟨1, dcells o2_12⟩, ⟨1, (EncX.encX v47).map DV.c⟩, ⟨1, dcells w1_2.l⟩]) (id := 4) (ids := []) (ver := 0) (cs := dcells w1_2.l) (cs' := dcells w1_2.l) rfl (locL_dcells _ _ _) (locS_nil _ _)) (by kernel_rfl : locL [4] [⟨1, (EncX.encX p0).map DV.c⟩, ⟨1, dcells o1_12⟩, ⟨1, dcells o2_12⟩, ⟨1, (EncX.encX v47).map DV.c⟩, ⟨1, dcells w1_2.l⟩] [.ms 4 1 0 w1_2.l.length 1 false, .c (eSl w1_9)] = some [.ms 0 1 0 w1_2.l.length 1 false, .c (eSl w1_9)]))) (And.intro (h21) (And.intro (And.intro (by kernel_rfl : bkD [4] [1] (dB true) = some (dB true)) (putBack_cons (sel := [4]) (vs := [1]) (id := 4) (v := 1) (ver := 1) (ids := []) (ws := []) (cs := dcells w1_2.l) (cs' := dcells w1_2.l) (st := [⟨1, (EncX.encX p0).map DV.c⟩, ⟨1, dcells o1_12⟩, ⟨1, dcells o2_12⟩, ⟨1, (EncX.encX v47).map DV.c⟩, ⟨1, dcells w1_2.l⟩]) (st' := [⟨1, (EncX.encX p0).map DV.c⟩, ⟨1, dcells o1_12⟩, ⟨1, dcells o2_12⟩, ⟨1, (EncX.encX v47).map DV.c⟩, ⟨1, dcells w1_2.l⟩]) (bkL_dcells _ _ _) rfl (putBack_nil _ _ [] _))) (h24)))))) (by kernel_rfl) ?_
                exact Sys.fin (.inl ⟨rfl, ⟨fl [(2, .pt 0 1 0), (6, .ms 1 1 0 p0.locs.toNat 1 true), (7, .ms 2 1 0 p0.locs.toNat 1 true), (8, apf v8_12), (9, dInt v9), (10, dInt (v10 + 1))], ⟨[⟨1, (EncX.encX p0).map DV.c⟩, ⟨1, dcells o1_12⟩, ⟨1, dcells o2_12⟩], []⟩⟩, (cut_ok (l := [2, 6, 7, 8, 9, 10]) rfl (AllB.cons rfl (AllB.cons (below_dcells 3 o1_12) (AllB.cons (below_dcells 3 o2_12) (AllB.nil 3)))) rfl), ih v8_12 (v10 + 1) o1_12 o2_12 _ h _ (by kernel_rfl)⟩)
              | false =>
                replace h := condF h
                have hr := Option.some.inj h
                subst hr
                exact Sys.endX [((24, 4), .ix), ((24, 5), .cell (eSl w1_9)), ((24, 6), .callL [.ms 0 1 0 w1_2.l.length 1 false, .c (eSl w1_9)] [⟨1, dcells w1_2.l⟩] (dB false) [⟨1, dcells w1_2.l⟩] (dB false) [⟨1, (EncX.encX p0).map DV.c⟩, ⟨1, dcells o1_12⟩, ⟨1, dcells o2_12⟩, ⟨1, (EncX.encX v47).map DV.c⟩, ⟨1, dcells w1_2.l⟩])] (And.intro (h16) (And.intro (And.intro (rfl : (1 : Nat) = 1) (dcell_at' 0 (c := eSl w1_9) rfl (atI_g h20))) (And.intro (And.intro (rfl : nodupB [4] = true) (And.intro (locS_cons (all := [4]) (st := [⟨1, (EncX.encX p0).map DV.c⟩, ⟨1, dcells o1_12⟩, ⟨1, dcells o2_12⟩, ⟨1, (EncX.encX v47).map DV.c⟩, ⟨1, dcells w1_2.l⟩]) (id := 4) (ids := []) (ver := 0) (cs := dcells w1_2.l) (cs' := dcells w1_2.l) rfl (locL_dcells _ _ _) (locS_nil _ _)) (by kernel_rfl : locL [4] [⟨1, (EncX.encX p0).map DV.c⟩, ⟨1, dcells o1_12⟩, ⟨1, dcells o2_12⟩, ⟨1, (EncX.encX v47).map DV.c⟩, ⟨1, dcells w1_2.l⟩] [.ms 4 1 0 w1_2.l.length 1 false, .c (eSl w1_9)] = some [.ms 0 1 0 w1_2.l.length 1 false, .c (eSl w1_9)]))) (And.intro (h21) (And.intro (by kernel_rfl : bkD [4] [1] (dB false) = some (dB false)) (putBack_cons (sel := [4]) (vs := [1]) (id := 4) (v := 1) (ver := 1) (ids := []) (ws := []) (cs := dcells w1_2.l) (cs' := dcells w1_2.l) (st := [⟨1, (EncX.encX p0).map DV.c⟩, ⟨1, dcells o1_12⟩, ⟨1, dcells o2_12⟩, ⟨1, (EncX.encX v47).map DV.c⟩, ⟨1, dcells w1_2.l⟩]) (st' := [⟨1, (EncX.encX p0).map DV.c⟩, ⟨1, dcells o1_12⟩, ⟨1, dcells o2_12⟩, ⟨1, (EncX.encX v47).map DV.c⟩, ⟨1, dcells w1_2.l⟩]) (bkL_dcells _ _ _) rfl (putBack_nil _ _ [] _))))))) rfl (by kernel_rfl)
            | false =>
              replace h := condF h
              obtain ⟨w1_10, h21, h⟩ := bindE h
              by_cases h23 : Room 8 (v8_12 ++ ([v47.to_] : List Int)).length
              case neg => exact absurd (iteF h23 h) (by simp)
              replace h := iteT h23 h
              by_cases h25 : InR (v10 + 1)
              case neg => exact absurd (iteF h25 h) (by simp)
              replace h := iteT h25 h
              refine Sys.to [((23, 3), .ix), ((23, 4), .cell (.sc (.bool false))), ((26, 3), .ix), ((26, 4), .st (dcells (o2_12.set v47.to_.toNat true))), ((27, 3), .op { d := .c (.sl false false (cells w1_2.l) w1_2.l.length), set := some (4, ⟨2, []⟩) }), ((27, 4), .ix), ((27, 5), .st (dcells (o1_12.set v47.to_.toNat (⟨false, false, w1_2.l⟩ : Sl Int)))), ((28, 4), .appF false (cells (v8_12 ++ ([v47.to_] : List Int))) (v8_12 ++ ([v47.to_] : List Int)).length), ((13, 1), .n)] 999999 (.fin .normal) ⟨fl [(2, .pt 0 1 0), (6, .ms 1 1 0 p0.locs.toNat 1 true), (7, .ms 2 1 0 p0.locs.toNat 1 true), (8, apf (v8_12 ++ ([v47.to_] : List Int))), (9, dInt v9), (10, dInt (v10 + 1))], ⟨[⟨1, (EncX.encX p0).map DV.c⟩, ⟨1, dcells (o1_12.set v47.to_.toNat (⟨false, false, w1_2.l⟩ : Sl Int))⟩, ⟨1, dcells (o2_12.set v47.to_.toNat true)⟩, ⟨1, (EncX.encX v47).map DV.c⟩, ⟨2, []⟩], []⟩⟩ (And.intro (h16) (And.intro (And.intro (rfl : (1 : Nat) = 1) (dcell_at' 0 (c := .sc (.bool false)) rfl (atI_g h17))) (And.intro (h16) (And.intro (And.intro (rfl : (1 : Nat) = 1) (dst_part 0 [dB true] true (atI_g h17) rfl (Nat.le_of_ble_eq_true rfl))) (And.intro (freeze_ok (st := [⟨1, (EncX.encX p0).map DV.c⟩, ⟨1, dcells o1_12⟩, ⟨1, dcells (o2_12.set v47.to_.toNat true)⟩, ⟨1, (EncX.encX v47).map DV.c⟩, ⟨1, dcells w1_2.l⟩]) (id := 4) (ver := 1) (x := false) (l := w1_2.l) rfl rfl) (And.intro (h16) (And.intro (And.intro (rfl : (1 : Nat) = 1) (dst_part 0 [.c (.sl false false (cells w1_2.l) w1_2.l.length)] (⟨false, false, w1_2.l⟩ : Sl Int) (atI_g h21) rfl (Nat.le_of_ble_eq_true rfl))) (And.intro (apf_lit v8_12 ([v47.to_] : List Int) (b := 8) (by decide) h23) (h25))))))))) (by kernel_rfl) ?_
              exact Sys.fin (.inl ⟨rfl, ⟨fl [(2, .pt 0 1 0), (6, .ms 1 1 0 p0.locs.toNat 1 true), (7, .ms 2 1 0 p0.locs.toNat 1 true), (8, apf (v8_12 ++ ([v47.to_] : List Int))), (9, dInt v9), (10, dInt (v10 + 1))], ⟨[⟨1, (EncX.encX p0).map DV.c⟩, ⟨1, dcells (o1_12.set v47.to_.toNat (⟨false, false, w1_2.l⟩ : Sl Int))⟩, ⟨1, dcells (o2_12.set v47.to_.toNat true)⟩], []⟩⟩, (cut_ok (l := [2, 6, 7, 8, 9, 10]) rfl (AllB.cons rfl (AllB.cons (below_dcells 3 (o1_12.set v47.to_.toNat (⟨false, false, w1_2.l⟩ : Sl Int))) (AllB.cons (below_dcells 3 (o2_12.set v47.to_.toNat true)) (AllB.nil 3)))) rfl), ih (v8_12 ++ ([v47.to_] : List Int)) (v10 + 1) (o1_12.set v47.to_.toNat (⟨false, false, w1_2.l⟩ : Sl Int)) (o2_12.set v47.to_.toNat true) _ h _ (by kernel_rfl)⟩)
    · replace h := iteF h1 h
      have hr := Option.some.inj h
      subst hr
      exact Sys.endX [((12, 4), .b false)] (h1) rfl (by kernel_rfl)

inductive vigilref13_Held_L9O where
  | r (o1 : List (Sl Int)) (o2 : List Bool) (o3_0 : Int) (o3_1 : Int) (o3_2 : Int) (o3_3 : Int) (o3_4 : Int) (o3_5 : Int) (o3_6 : ByteArray) (o3_7 : ByteArray) (o3_8 : Int) (o3_9 : Sl GExpr) (o3_10 : Int) (o3_11 : Int) (o3_12 : Int) (o3_13 : Int) (o3_14 : Int) (o4 : List Int)
  | e0 (v8 : List Int) (v9 : Int) (o1 : List (Sl Int)) (o2 : List Bool)
def vigilref13_Held_L9x : vigilref13_Held_L9O → Ex
  | .r _ _ _ _ _ _ _ _ _ _ _ _ _ _ _ _ _ _ => .ret
  | .e0 _ _ _ _ => (.exit 0)
def vigilref13_Held_L9s (p0 : GFlow) : vigilref13_Held_L9O → S
  | .r o1 o2 o3_0 o3_1 o3_2 o3_3 o3_4 o3_5 o3_6 o3_7 o3_8 o3_9 o3_10 o3_11 o3_12 o3_13 o3_14 o4 => ⟨fl [(4, .c (.sl true true [] 0)), (5, dB false)], ⟨[⟨1, (EncX.encX p0).map DV.c⟩, ⟨1, dcells o1⟩, ⟨1, dcells o2⟩, ⟨1, (vigilref13_Held_c1 o3_0 o3_1 o3_2 o3_3 o3_4 o3_5 o3_6 o3_7 o3_8 o3_9 o3_10 o3_11 o3_12 o3_13 o3_14)⟩, ⟨1, dcells o4⟩], []⟩⟩
  | .e0 v8 v9 o1 o2 => ⟨fl [(2, .pt 0 1 0), (6, .ms 1 1 0 p0.locs.toNat 1 true), (7, .ms 2 1 0 p0.locs.toNat 1 true), (8, apf v8), (9, dInt v9), (34, dB false)], ⟨[⟨1, (EncX.encX p0).map DV.c⟩, ⟨1, dcells o1⟩, ⟨1, dcells o2⟩], []⟩⟩
def vigilref13_Held_L9 (p0 : GFlow) (n : Nat) : Nat → List Int → Int → List (Sl Int) → List Bool → Option vigilref13_Held_L9O
  | 0, _, _, _, _ => none
  | k + 1, v8, v9, o1, o2 =>
    if v9 < (v8.length : Int) then
      (vigilref13_Held_L12_2 p0 v9 n n v8 0 o1 o2).bind fun o_5 => match o_5 with
      | .r o1_2 o2_2 o3_0 o3_1 o3_2 o3_3 o3_4 o3_5 o3_6 o3_7 o3_8 o3_9 o3_10 o3_11 o3_12 o3_13 o3_14 o4_6 =>
        some (.r o1_2 o2_2 o3_0 o3_1 o3_2 o3_3 o3_4 o3_5 o3_6 o3_7 o3_8 o3_9 o3_10 o3_11 o3_12 o3_13 o3_14 o4_6)
      | .e2 v8_2 v10_2 o1_3 o2_3 =>
        if InR (v9 + 1) then vigilref13_Held_L9 p0 n k v8_2 (v9 + 1) o1_3 o2_3
        else none
    else some (.e0 v8 v9 o1 o2)
theorem vigilref13_Held_L9_ok (p0 : GFlow) (n : Nat) : ∀ (k : Nat) (v8 : List Int) (v9 : Int) (o1 : List (Sl Int)) (o2 : List Bool) (o : vigilref13_Held_L9O), vigilref13_Held_L9 p0 n k v8 v9 o1 o2 = some o → ∀ s : S, restrS (X.an.rs 8 9) s = ⟨fl [(2, .pt 0 1 0), (6, .ms 1 1 0 p0.locs.toNat 1 true), (7, .ms 2 1 0 p0.locs.toNat 1 true), (8, apf v8), (9, dInt v9)], ⟨[⟨1, (EncX.encX p0).map DV.c⟩, ⟨1, dcells o1⟩, ⟨1, dcells o2⟩], []⟩⟩ → X.Loop 8 131 [] (sub b8 [1, 1, 1, 1, 1, 1, 1, 0, 1, 0, 0]) 3 s (vigilref13_Held_L9x o) (vigilref13_Held_L9s p0 o) := by
  intro k
  induction k with
  | zero => intro v8 v9 o1 o2 o h s hs; unfold vigilref13_Held_L9 at h; cases h
  | succ k ih =>
    intro v8 v9 o1 o2 o h s hs
    unfold vigilref13_Held_L9 at h
    refine Sys.loopQ hs ?_
    by_cases h1 : v9 < (v8.length : Int)
    · replace h := iteT h1 h
      refine Sys.to [((9, 3), .b true)] 100012 (.at [1, 0, 0, 1, 0]) ⟨fl [(2, .pt 0 1 0), (6, .ms 1 1 0 p0.locs.toNat 1 true), (7, .ms 2 1 0 p0.locs.toNat 1 true), (8, apf v8), (9, dInt v9), (10, dInt 0)], ⟨[⟨1, (EncX.encX p0).map DV.c⟩, ⟨1, dcells o1⟩, ⟨1, dcells o2⟩], []⟩⟩ (h1) (by kernel_rfl) ?_
      obtain ⟨o_5, g4, h⟩ := bindE h
      have h4 := vigilref13_Held_L12_2_ok p0 v9 n n v8 0 o1 o2 _ g4
      cases o_5 with
      | r o1_2 o2_2 o3_0 o3_1 o3_2 o3_3 o3_4 o3_5 o3_6 o3_7 o3_8 o3_9 o3_10 o3_11 o3_12 o3_13 o3_14 o4_6 =>
        dsimp only at h
        have hr := Option.some.inj h
        subst hr
        exact Sys.endX [((12, 1000), .code .ret ⟨fl [(4, .c (.sl true true [] 0)), (5, dB false)], ⟨[⟨1, (EncX.encX p0).map DV.c⟩, ⟨1, dcells o1_2⟩, ⟨1, dcells o2_2⟩, ⟨1, (vigilref13_Held_c1 o3_0 o3_1 o3_2 o3_3 o3_4 o3_5 o3_6 o3_7 o3_8 o3_9 o3_10 o3_11 o3_12 o3_13 o3_14)⟩, ⟨1, dcells o4_6⟩], []⟩⟩)] (Sys.Loop.goM (h4 ⟨fl [(2, .pt 0 1 0), (6, .ms 1 1 0 p0.locs.toNat 1 true), (7, .ms 2 1 0 p0.locs.toNat 1 true), (8, apf v8), (9, dInt v9), (10, dInt 0)], ⟨[⟨1, (EncX.encX p0).map DV.c⟩, ⟨1, dcells o1⟩, ⟨1, dcells o2⟩], []⟩⟩ (by kernel_rfl)) (by kernel_rfl)) rfl (by kernel_rfl)
      | e2 v8_2 v10_2 o1_3 o2_3 =>
        dsimp only at h
        by_cases h6 : InR (v9 + 1)
        case neg => exact absurd (iteF h6 h) (by simp)
        replace h := iteT h6 h
        refine Sys.to [((12, 1000), .code (.exit 2) ⟨fl [(2, .pt 0 1 0), (6, .ms 1 1 0 p0.locs.toNat 1 true), (7, .ms 2 1 0 p0.locs.toNat 1 true), (8, apf v8_2), (9, dInt v9), (10, dInt v10_2), (41, dB false)], ⟨[⟨1, (EncX.encX p0).map DV.c⟩, ⟨1, dcells o1_3⟩, ⟨1, dcells o2_3⟩], []⟩⟩), ((10, 1), .n)] 999999 (.fin .normal) ⟨fl [(2, .pt 0 1 0), (6, .ms 1 1 0 p0.locs.toNat 1 true), (7, .ms 2 1 0 p0.locs.toNat 1 true), (8, apf v8_2), (9, dInt (v9 + 1))], ⟨[⟨1, (EncX.encX p0).map DV.c⟩, ⟨1, dcells o1_3⟩, ⟨1, dcells o2_3⟩], []⟩⟩ (And.intro (Sys.Loop.goM (h4 ⟨fl [(2, .pt 0 1 0), (6, .ms 1 1 0 p0.locs.toNat 1 true), (7, .ms 2 1 0 p0.locs.toNat 1 true), (8, apf v8), (9, dInt v9), (10, dInt 0)], ⟨[⟨1, (EncX.encX p0).map DV.c⟩, ⟨1, dcells o1⟩, ⟨1, dcells o2⟩], []⟩⟩ (by kernel_rfl)) (by kernel_rfl)) (h6)) (by kernel_rfl) ?_
        exact Sys.fin (.inl ⟨rfl, ⟨fl [(2, .pt 0 1 0), (6, .ms 1 1 0 p0.locs.toNat 1 true), (7, .ms 2 1 0 p0.locs.toNat 1 true), (8, apf v8_2), (9, dInt (v9 + 1))], ⟨[⟨1, (EncX.encX p0).map DV.c⟩, ⟨1, dcells o1_3⟩, ⟨1, dcells o2_3⟩], []⟩⟩, (cut_ok (l := [2, 6, 7, 8, 9]) rfl (AllB.cons rfl (AllB.cons (below_dcells 3 o1_3) (AllB.cons (below_dcells 3 o2_3) (AllB.nil 3)))) rfl), ih v8_2 (v9 + 1) o1_3 o2_3 _ h _ (by kernel_rfl)⟩)
    · replace h := iteF h1 h
      have hr := Option.some.inj h
      subst hr
      exact Sys.endX [((9, 3), .b false)] (h1) rfl (by kernel_rfl)

inductive vigilref13_Held_L30O where
  | e4 (v13 : Int) (o1 : List (Sl Int))
def vigilref13_Held_L30x : vigilref13_Held_L30O → Ex
  | .e4 _ _ => (.exit 4)
def vigilref13_Held_L30s (p0 : GFlow) (o2_5 : List Bool) : vigilref13_Held_L30O → S
  | .e4 v13 o1 => ⟨fl [(2, .pt 0 1 0), (6, .ms 1 1 0 p0.locs.toNat 1 true), (7, .ms 2 1 0 p0.locs.toNat 1 true), (13, dInt v13), (119, dB false)], ⟨[⟨1, (EncX.encX p0).map DV.c⟩, ⟨1, dcells o1⟩, ⟨1, dcells o2_5⟩], []⟩⟩
def vigilref13_Held_L30 (p0 : GFlow) (o2_5 : List Bool) (n : Nat) : Nat → Int → List (Sl Int) → Option vigilref13_Held_L30O
  | 0, _, _ => none
  | k + 1, v13, o1_30 =>
    if v13 < p0.locs then
      if 0 ≤ v13 ∧ v13 < (p0.locs.toNat : Int) then (atI o2_5 v13).bind fun w2_6 =>
      bif w2_6 then
        if InR (v13 + 1) then vigilref13_Held_L30 p0 o2_5 n k (v13 + 1) o1_30
        else none
      else (atI o1_30 v13).bind fun w1_11 =>
      if InR (v13 + 1) then vigilref13_Held_L30 p0 o2_5 n k (v13 + 1) (o1_30.set v13.toNat (Sl.nil : Sl Int))
      else none
      else none
    else some (.e4 v13 o1_30)
theorem vigilref13_Held_L30_ok (p0 : GFlow) (o2_5 : List Bool) (n : Nat) : ∀ (k : Nat) (v13 : Int) (o1_30 : List (Sl Int)) (o : vigilref13_Held_L30O), vigilref13_Held_L30 p0 o2_5 n k v13 o1_30 = some o → ∀ s : S, restrS (X.an.rs 8 30) s = ⟨fl [(2, .pt 0 1 0), (6, .ms 1 1 0 p0.locs.toNat 1 true), (7, .ms 2 1 0 p0.locs.toNat 1 true), (13, dInt v13)], ⟨[⟨1, (EncX.encX p0).map DV.c⟩, ⟨1, dcells o1_30⟩, ⟨1, dcells o2_5⟩], []⟩⟩ → X.Loop 8 131 [] (sub b8 [1, 1, 1, 1, 1, 1, 1, 1, 0, 1, 0, 0]) 3 s (vigilref13_Held_L30x o) (vigilref13_Held_L30s p0 o2_5 o) := by
  intro k
  induction k with
  | zero => intro v13 o1_30 o h s hs; unfold vigilref13_Held_L30 at h; cases h
  | succ k ih =>
    intro v13 o1_30 o h s hs
    unfold vigilref13_Held_L30 at h
    refine Sys.loopQ hs ?_
    by_cases h1 : v13 < p0.locs
    · replace h := iteT h1 h
      by_cases h3 : 0 ≤ v13 ∧ v13 < (p0.locs.toNat : Int)
      case neg => exact absurd (iteF h3 h) (by simp)
      replace h := iteT h3 h
      obtain ⟨w2_6, h4, h⟩ := bindE h
      refine Sys.to [((30, 3), .b true)] 32 (.at [1, 0, 0, 0]) ⟨fl [(2, .pt 0 1 0), (6, .ms 1 1 0 p0.locs.toNat 1 true), (7, .ms 2 1 0 p0.locs.toNat 1 true), (13, dInt v13), (119, dB true)], ⟨[⟨1, (EncX.encX p0).map DV.c⟩, ⟨1, dcells o1_30⟩, ⟨1, dcells o2_5⟩], []⟩⟩ (h1) (by kernel_rfl) ?_
      cases w2_6 with
      | true =>
        replace h := condT h
        by_cases h7 : InR (v13 + 1)
        case neg => exact absurd (iteF h7 h) (by simp)
        replace h := iteT h7 h
        refine Sys.to [((32, 2), .ix), ((32, 3), .cell (.sc (.bool true))), ((31, 1), .n)] 999999 (.fin .normal) ⟨fl [(2, .pt 0 1 0), (6, .ms 1 1 0 p0.locs.toNat 1 true), (7, .ms 2 1 0 p0.locs.toNat 1 true), (13, dInt (v13 + 1))], ⟨[⟨1, (EncX.encX p0).map DV.c⟩, ⟨1, dcells o1_30⟩, ⟨1, dcells o2_5⟩], []⟩⟩ (And.intro (h3) (And.intro (And.intro (rfl : (1 : Nat) = 1) (dcell_at' 0 (c := .sc (.bool true)) rfl (atI_g h4))) (h7))) (by kernel_rfl) ?_
        exact Sys.fin (.inl ⟨rfl, ⟨fl [(2, .pt 0 1 0), (6, .ms 1 1 0 p0.locs.toNat 1 true), (7, .ms 2 1 0 p0.locs.toNat 1 true), (13, dInt (v13 + 1))], ⟨[⟨1, (EncX.encX p0).map DV.c⟩, ⟨1, dcells o1_30⟩, ⟨1, dcells o2_5⟩], []⟩⟩, (by kernel_rfl), ih (v13 + 1) o1_30 _ h _ (by kernel_rfl)⟩)
      | false =>
        replace h := condF h
        obtain ⟨w1_11, h7, h⟩ := bindE h
        by_cases h9 : InR (v13 + 1)
        case neg => exact absurd (iteF h9 h) (by simp)
        replace h := iteT h9 h
        refine Sys.to [((32, 2), .ix), ((32, 3), .cell (.sc (.bool false))), ((33, 2), .ix), ((33, 3), .st (dcells (o1_30.set v13.toNat (Sl.nil : Sl Int)))), ((31, 1), .n)] 999999 (.fin .normal) ⟨fl [(2, .pt 0 1 0), (6, .ms 1 1 0 p0.locs.toNat 1 true), (7, .ms 2 1 0 p0.locs.toNat 1 true), (13, dInt (v13 + 1))], ⟨[⟨1, (EncX.encX p0).map DV.c⟩, ⟨1, dcells (o1_30.set v13.toNat (Sl.nil : Sl Int))⟩, ⟨1, dcells o2_5⟩], []⟩⟩ (And.intro (h3) (And.intro (And.intro (rfl : (1 : Nat) = 1) (dcell_at' 0 (c := .sc (.bool false)) rfl (atI_g h4))) (And.intro (h3) (And.intro (And.intro (rfl : (1 : Nat) = 1) (dst_part 0 [.c (.sl true true [] 0)] (Sl.nil : Sl Int) (atI_g h7) rfl (Nat.le_of_ble_eq_true rfl))) (h9))))) (by kernel_rfl) ?_
        exact Sys.fin (.inl ⟨rfl, ⟨fl [(2, .pt 0 1 0), (6, .ms 1 1 0 p0.locs.toNat 1 true), (7, .ms 2 1 0 p0.locs.toNat 1 true), (13, dInt (v13 + 1))], ⟨[⟨1, (EncX.encX p0).map DV.c⟩, ⟨1, dcells (o1_30.set v13.toNat (Sl.nil : Sl Int))⟩, ⟨1, dcells o2_5⟩], []⟩⟩, (by kernel_rfl), ih (v13 + 1) (o1_30.set v13.toNat (Sl.nil : Sl Int)) _ h _ (by kernel_rfl)⟩)
    · replace h := iteF h1 h
      have hr := Option.some.inj h
      subst hr
      exact Sys.endX [((30, 3), .b false)] (h1) rfl (by kernel_rfl)

def vigilref13_Held (n : Nat) (p0 : GFlow) (p1 : Int) : Option (Sl (Sl Int) × Bool) :=
  (vigilref13_shaped n p0 p1).bind fun x =>
  bif x then
    if 0 ≤ p0.locs then if Mk 24 p0.locs.toNat then if Mk 1 p0.locs.toNat then if 0 ≤ p1 then if Mk 8 p1.toNat then if 0 ≤ (0 : Int) ∧ (0 : Int) < (p0.locs.toNat : Int) then (atI (List.replicate p0.locs.toNat ((Sl.nil : Sl Int) : Sl Int)) 0).bind fun w1 =>
    (atI (List.replicate p0.locs.toNat (false : Bool)) 0).bind fun w2 =>
    (vigilref13_Held_L9 p0 n n ([0] : List Int) 0 ((List.replicate p0.locs.toNat ((Sl.nil : Sl Int) : Sl Int)).set 0 (⟨false, true, (List.replicate p1.toNat (0 : Int))⟩ : Sl Int)) ((List.replicate p0.locs.toNat (false : Bool)).set 0 true)).bind fun o_6 => match o_6 with
    | .r o1_4 o2_4 o3_0_2 o3_1_2 o3_2_2 o3_3_2 o3_4_2 o3_5_2 o3_6_2 o3_7_2 o3_8_2 o3_9_2 o3_10_2 o3_11_2 o3_12_2 o3_13_2 o3_14_2 o4_7 =>
      some ((Sl.nil : Sl (Sl Int)), false)
    | .e0 v8_3 v9_2 o1_5 o2_5 =>
      (vigilref13_Held_L30 p0 o2_5 n n 0 o1_5).bind fun o_7 => match o_7 with
      | .e4 v13_2 o1_6 =>
        if p0.locs.toNat = o1_6.length then some ((⟨false, true, o1_6⟩ : Sl (Sl Int)), true)
        else none
    else none
    else none
    else none
    else none
    else none
    else none
  else some ((Sl.nil : Sl (Sl Int)), false)
theorem vigilref13_Held_ok {n : Nat} {p0 : GFlow} {p1 : Int} {r : Sl (Sl Int) × Bool} (h : vigilref13_Held n p0 p1 = some r) : X.RunsC 8 [.c (.agg (EncX.encX p0)), dInt p1] (.tup [.c (eSl r.1), dB r.2]) := by
  unfold vigilref13_Held at h
  refine Sys.callC' (fn := Try.f8) (b := b8) (by kernel_rfl) (by kernel_rfl) ?_
  obtain ⟨x, g2, h⟩ := bindE h
  have h2 := vigilref13_shaped_ok g2
  cases x with
  | true =>
    replace h := condT h
    by_cases h5 : 0 ≤ p0.locs
    case neg => exact absurd (iteF h5 h) (by simp)
    replace h := iteT h5 h
    by_cases h6 : Mk 24 p0.locs.toNat
    case neg => exact absurd (iteF h6 h) (by simp)
    replace h := iteT h6 h
    by_cases h8 : Mk 1 p0.locs.toNat
    case neg => exact absurd (iteF h8 h) (by simp)
    replace h := iteT h8 h
    by_cases h10 : 0 ≤ p1
    case neg => exact absurd (iteF h10 h) (by simp)
    replace h := iteT h10 h
    by_cases h11 : Mk 8 p1.toNat
    case neg => exact absurd (iteF h11 h) (by simp)
    replace h := iteT h11 h
    by_cases h12 : 0 ≤ (0 : Int) ∧ (0 : Int) < (p0.locs.toNat : Int)
    case neg => exact absurd (iteF h12 h) (by simp)
    replace h := iteT h12 h
    obtain ⟨w1, h13, h⟩ := bindE h
    obtain ⟨w2, h15, h⟩ := bindE h
    refine Sys.to [((1, 2), .call (dB true) ⟨[], []⟩), ((3, 2), .mk (dcells (List.replicate p0.locs.toNat ((Sl.nil : Sl Int) : Sl Int))) true), ((4, 2), .mk (dcells (List.replicate p0.locs.toNat (false : Bool))) true), ((5, 2), .op { d := .c (.sl false true (cells (List.replicate p1.toNat (0 : Int))) ((List.replicate p1.toNat (0 : Int)).length)) }), ((5, 3), .ix), ((5, 4), .st (dcells ((List.replicate p0.locs.toNat ((Sl.nil : Sl Int) : Sl Int)).set 0 (⟨false, true, (List.replicate p1.toNat (0 : Int))⟩ : Sl Int)))), ((6, 1), .ix), ((6, 2), .st (dcells ((List.replicate p0.locs.toNat (false : Bool)).set 0 true)))] 100009 (.at [1, 1, 1, 1, 1, 1, 1, 0, 1, 0]) ⟨fl [(2, .pt 0 1 0), (6, .ms 1 1 0 p0.locs.toNat 1 true), (7, .ms 2 1 0 p0.locs.toNat 1 true), (8, apf ([0] : List Int)), (9, dInt 0)], ⟨[⟨1, (EncX.encX p0).map DV.c⟩, ⟨1, dcells ((List.replicate p0.locs.toNat ((Sl.nil : Sl Int) : Sl Int)).set 0 (⟨false, true, (List.replicate p1.toNat (0 : Int))⟩ : Sl Int))⟩, ⟨1, dcells ((List.replicate p0.locs.toNat (false : Bool)).set 0 true)⟩], []⟩⟩ (And.intro (h2) (And.intro (mk_okI ((Sl.nil : Sl Int) : Sl Int) h5 h6) (And.intro (mk_okI (false : Bool) h5 h8) (And.intro (makeC_ok (P := X.P) (t := 32) (e := 3) (0 : Int) (b := 8) (s := 1) (by kernel_rfl) (by kernel_rfl) (by kernel_rfl) (by kernel_rfl) h10 h11) (And.intro (h12) (And.intro (And.intro (rfl : (1 : Nat) = 1) (dst_part 0 [.c (.sl false true (cells (List.replicate p1.toNat (0 : Int))) ((List.replicate p1.toNat (0 : Int)).length))] (⟨false, true, (List.replicate p1.toNat (0 : Int))⟩ : Sl Int) (atI_g h13) rfl (Nat.le_of_ble_eq_true rfl))) (And.intro (h12) (And.intro (rfl : (1 : Nat) = 1) (dst_part 0 [dB true] true (atI_g h15) rfl (Nat.le_of_ble_eq_true rfl)))))))))) (by kernel_rfl) ?_
    obtain ⟨o_6, g19, h⟩ := bindE h
    have h19 := vigilref13_Held_L9_ok p0 n n ([0] : List Int) 0 ((List.replicate p0.locs.toNat ((Sl.nil : Sl Int) : Sl Int)).set 0 (⟨false, true, (List.replicate p1.toNat (0 : Int))⟩ : Sl Int)) ((List.replicate p0.locs.toNat (false : Bool)).set 0 true) _ g19
    cases o_6 with
    | r o1_4 o2_4 o3_0_2 o3_1_2 o3_2_2 o3_3_2 o3_4_2 o3_5_2 o3_6_2 o3_7_2 o3_8_2 o3_9_2 o3_10_2 o3_11_2 o3_12_2 o3_13_2 o3_14_2 o4_7 =>
      dsimp only at h
      have hr := Option.some.inj h
      subst hr
      exact Sys.endC [((9, 1000), .code .ret ⟨fl [(4, .c (.sl true true [] 0)), (5, dB false)], ⟨[⟨1, (EncX.encX p0).map DV.c⟩, ⟨1, dcells o1_4⟩, ⟨1, dcells o2_4⟩, ⟨1, (vigilref13_Held_c2 o3_0_2 o3_1_2 o3_2_2 o3_3_2 o3_4_2 o3_5_2 o3_6_2 o3_7_2 o3_8_2 o3_9_2 o3_10_2 o3_11_2 o3_12_2 o3_13_2 o3_14_2)⟩, ⟨1, dcells o4_7⟩], []⟩⟩)] (Sys.Loop.goM (h19 ⟨fl [(2, .pt 0 1 0), (6, .ms 1 1 0 p0.locs.toNat 1 true), (7, .ms 2 1 0 p0.locs.toNat 1 true), (8, apf ([0] : List Int)), (9, dInt 0)], ⟨[⟨1, (EncX.encX p0).map DV.c⟩, ⟨1, dcells ((List.replicate p0.locs.toNat ((Sl.nil : Sl Int) : Sl Int)).set 0 (⟨false, true, (List.replicate p1.toNat (0 : Int))⟩ : Sl Int))⟩, ⟨1, dcells ((List.replicate p0.locs.toNat (false : Bool)).set 0 true)⟩], []⟩⟩ (by kernel_rfl)) (by kernel_rfl)) (by kernel_rfl)
    | e0 v8_3 v9_2 o1_5 o2_5 =>
      dsimp only at h
      obtain ⟨o_7, g22, h⟩ := bindE h
      have h22 := vigilref13_Held_L30_ok p0 o2_5 n n 0 o1_5 _ g22
      cases o_7 with
      | e4 v13_2 o1_6 =>
        dsimp only at h
        by_cases h24 : p0.locs.toNat = o1_6.length
        case neg => exact absurd (iteF h24 h) (by simp)
        replace h := iteT h24 h
        have hr := Option.some.inj h
        subst hr
        refine Sys.to [((9, 1000), .code (.exit 0) ⟨fl [(2, .pt 0 1 0), (6, .ms 1 1 0 p0.locs.toNat 1 true), (7, .ms 2 1 0 p0.locs.toNat 1 true), (8, apf v8_3), (9, dInt v9_2), (34, dB false)], ⟨[⟨1, (EncX.encX p0).map DV.c⟩, ⟨1, dcells o1_5⟩, ⟨1, dcells o2_5⟩], []⟩⟩), ((30, 1000), .code (.exit 4) ⟨fl [(2, .pt 0 1 0), (6, .ms 1 1 0 p0.locs.toNat 1 true), (7, .ms 2 1 0 p0.locs.toNat 1 true), (13, dInt v13_2), (119, dB false)], ⟨[⟨1, (EncX.encX p0).map DV.c⟩, ⟨1, dcells o1_6⟩, ⟨1, dcells o2_5⟩], []⟩⟩)] 999999 (.fin .ret) ⟨fl [(4, .ms 1 1 0 p0.locs.toNat 1 true), (5, dB true)], ⟨[⟨1, (EncX.encX p0).map DV.c⟩, ⟨1, dcells o1_6⟩, ⟨1, dcells o2_5⟩], []⟩⟩ (And.intro (Sys.Loop.goM (h19 ⟨fl [(2, .pt 0 1 0), (6, .ms 1 1 0 p0.locs.toNat 1 true), (7, .ms 2 1 0 p0.locs.toNat 1 true), (8, apf ([0] : List Int)), (9, dInt 0)], ⟨[⟨1, (EncX.encX p0).map DV.c⟩, ⟨1, dcells ((List.replicate p0.locs.toNat ((Sl.nil : Sl Int) : Sl Int)).set 0 (⟨false, true, (List.replicate p1.toNat (0 : Int))⟩ : Sl Int))⟩, ⟨1, dcells ((List.replicate p0.locs.toNat (false : Bool)).set 0 true)⟩], []⟩⟩ (by kernel_rfl)) (by kernel_rfl)) (Sys.Loop.goM (h22 ⟨fl [(2, .pt 0 1 0), (6, .ms 1 1 0 p0.locs.toNat 1 true), (7, .ms 2 1 0 p0.locs.toNat 1 true), (13, dInt 0)], ⟨[⟨1, (EncX.encX p0).map DV.c⟩, ⟨1, dcells o1_5⟩, ⟨1, dcells o2_5⟩], []⟩⟩ (by kernel_rfl)) (by kernel_rfl))) (by kernel_rfl) ?_
        exact Sys.fin ⟨rfl, (.tup [.ms 1 1 0 p0.locs.toNat 1 true, dB true]), (by kernel_rfl), (closeTop_tup (closeList_cons (closeD_ms h24 _ (getO_of rfl rfl)) (closeList_cons (rfl) (closeList_nil _))))⟩
  | false =>
    replace h := condF h
    have hr := Option.some.inj h
    subst hr
    exact Sys.endC [((1, 2), .call (dB false) ⟨[], []⟩)] (h2) (by kernel_rfl)
end Go.Proofs.Ytkfmoodaplelnaa
