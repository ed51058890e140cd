/-
  Functions of the program as Lean functions, and that the interpreter comes to the same: printed by the session's own tool.
-/
import Derived.Test.YtilipgopjiokfaaGreatDoorFc
set_option linter.unusedVariables false
set_option linter.unusedSimpArgs false
set_option maxRecDepth 100000
set_option maxHeartbeats 1000000
namespace Go.Proofs.YtilipgopjiokfaaGreatDoor
open Go Go.Abs Go.Proofs
def vigillaw16_ScriptTexts (n : Nat) (p0 : Sl GPick) (p1 : ByteArray) : Option Bool :=
  if (p0.l.length : Int) > 200 then
    some true
  else if (p1.size : Int) > 2000 then
    some true
  else if Room 24 (([] : List GPick) ++ p0.l).length then (script_Put n (⟨false, false, (([] : List GPick) ++ p0.l)⟩ : Sl GPick)).bind fun (x, x_2) =>
  (vigilref16_Put n p0).bind fun (x_3, x_4) =>
  (script_Parse n p1).bind fun (x_5, x_6) =>
  (vigilref16_Parse n p1).bind fun (x_7, x_8) =>
  if x = x_3 then
    (vigillaw16_num n x_2).bind fun x_9 =>
    if x_9 = x_4 then
      (vigilref15_SamePicks n x_5 x_7).bind fun x_10 =>
      bif x_10 then
        (vigillaw16_num n x_6).bind fun x_11 =>
        if x_11 = x_8 then
          some true
        else some false
      else some false
    else some false
  else some false
  else none
theorem vigillaw16_ScriptTexts_ok {n : Nat} {p0 : Sl GPick} {p1 : ByteArray} {r : Bool} (h : vigillaw16_ScriptTexts n p0 p1 = some r) : X.RunsC 3 [.c (eSl p0), .c (.sc (.string p1))] (dB r) := by
  unfold vigillaw16_ScriptTexts at h
  refine Sys.callC' (fn := Tryz.f3) (b := b3) (by kernel_rfl) (by kernel_rfl) ?_
  by_cases h2 : (p0.l.length : Int) > 200
  · replace h := iteT h2 h
    have hr := Option.some.inj h
    subst hr
    exact Sys.endC [((1, 2), .b true), ((2, 0), .call (dB true) ⟨[], []⟩)] (And.intro (h2) (vigillaw16_live_ok)) (by kernel_rfl)
  · replace h := iteF h2 h
    by_cases h3 : (p1.size : Int) > 2000
    · replace h := iteT h3 h
      have hr := Option.some.inj h
      subst hr
      exact Sys.endC [((1, 2), .b false), ((1, 6), .b true), ((2, 0), .call (dB true) ⟨[], []⟩)] (And.intro (h2) (And.intro (h3) (vigillaw16_live_ok))) (by kernel_rfl)
    · replace h := iteF h3 h
      by_cases h5 : Room 24 (([] : List GPick) ++ p0.l).length
      case neg => exact absurd (iteF h5 h) (by simp)
      replace h := iteT h5 h
      obtain ⟨⟨x, x_2⟩, g6, h⟩ := bindE h
      dsimp only at h
      have h6 := script_Put_ok g6
      obtain ⟨⟨x_3, x_4⟩, g8, h⟩ := bindE h
      dsimp only at h
      have h8 := vigilref16_Put_ok g8
      obtain ⟨⟨x_5, x_6⟩, g10, h⟩ := bindE h
      dsimp only at h
      have h10 := script_Parse_ok g10
      obtain ⟨⟨x_7, x_8⟩, g12, h⟩ := bindE h
      dsimp only at h
      have h12 := vigilref16_Parse_ok g12
      refine Sys.to [((1, 2), .b false), ((1, 6), .b false), ((3, 2), .appF false (cells (([] : List GPick) ++ p0.l)) (([] : List GPick) ++ p0.l).length), ((3, 3), .call (.tup [.c (.sc (.string x)), dInt x_2]) ⟨[], []⟩), ((4, 1), .call (.tup [.c (.sc (.string x_3)), dInt x_4]) ⟨[], []⟩), ((5, 1), .call (.tup [.c (eSl x_5), dInt x_6]) ⟨[], []⟩), ((6, 1), .call (.tup [.c (eSl x_7), dInt x_8]) ⟨[], []⟩)] 7 (.at [1, 1, 1, 1, 1, 1, 0]) ⟨fl [(5, .c (.sc (.string x))), (6, dInt x_2), (7, .c (.sc (.string x_3))), (8, dInt x_4), (9, .c (eSl x_5)), (10, dInt x_6), (11, .c (eSl x_7)), (12, dInt x_8)], ⟨[], []⟩⟩ (And.intro (h2) (And.intro (h3) (And.intro (apf_sl ([] : List GPick) p0.l (b := 24) (by decide) h5) (And.intro (h6) (And.intro (h8) (And.intro (h10) (h12))))))) (by kernel_rfl) ?_
      by_cases h14 : x = x_3
      · replace h := iteT h14 h
        obtain ⟨x_9, g15, h⟩ := bindE h
        have h15 := vigillaw16_num_ok g15
        by_cases h16 : x_9 = x_4
        · replace h := iteT h16 h
          obtain ⟨x_10, g17, h⟩ := bindE h
          have h17 := vigilref15_SamePicks_ok g17
          cases x_10 with
          | true =>
            replace h := condT h
            obtain ⟨x_11, g19, h⟩ := bindE h
            have h19 := vigillaw16_num_ok g19
            by_cases h20 : x_11 = x_8
            · replace h := iteT h20 h
              have hr := Option.some.inj h
              subst hr
              exact Sys.endC [((7, 2), .op { d := dB true }), ((7, 5), .call (dInt x_9) ⟨[], []⟩), ((7, 7), .b true), ((7, 12), .call (dB true) ⟨[], []⟩), ((7, 16), .call (dInt x_11) ⟨[], []⟩), ((7, 18), .b true), ((7, 21), .call (dB true) ⟨[], []⟩)] (And.intro (str_eql_true h14) (And.intro (h15) (And.intro (h16) (And.intro (h17) (And.intro (h19) (And.intro (h20) (vigillaw16_live_ok))))))) (by kernel_rfl)
            · replace h := iteF h20 h
              have hr := Option.some.inj h
              subst hr
              exact Sys.endC [((7, 2), .op { d := dB true }), ((7, 5), .call (dInt x_9) ⟨[], []⟩), ((7, 7), .b true), ((7, 12), .call (dB true) ⟨[], []⟩), ((7, 16), .call (dInt x_11) ⟨[], []⟩), ((7, 18), .b false)] (And.intro (str_eql_true h14) (And.intro (h15) (And.intro (h16) (And.intro (h17) (And.intro (h19) (h20)))))) (by kernel_rfl)
          | false =>
            replace h := condF h
            have hr := Option.some.inj h
            subst hr
            exact Sys.endC [((7, 2), .op { d := dB true }), ((7, 5), .call (dInt x_9) ⟨[], []⟩), ((7, 7), .b true), ((7, 12), .call (dB false) ⟨[], []⟩)] (And.intro (str_eql_true h14) (And.intro (h15) (And.intro (h16) (h17)))) (by kernel_rfl)
        · replace h := iteF h16 h
          have hr := Option.some.inj h
          subst hr
          exact Sys.endC [((7, 2), .op { d := dB true }), ((7, 5), .call (dInt x_9) ⟨[], []⟩), ((7, 7), .b false)] (And.intro (str_eql_true h14) (And.intro (h15) (h16))) (by kernel_rfl)
      · replace h := iteF h14 h
        have hr := Option.some.inj h
        subst hr
        exact Sys.endC [((7, 2), .op { d := dB false })] (str_eql_false h14) (by kernel_rfl)
inductive vigillaw16_ScriptBack_J4O where
  | r
  | m
  | m_2
def vigillaw16_ScriptBack_J4x : vigillaw16_ScriptBack_J4O → Ex
  | .r => .ret
  | .m => .normal
  | .m_2 => .normal
def vigillaw16_ScriptBack_J4s (p0 : Sl GPick) (p1 : ByteArray) (x : ByteArray) (x_2 : Int) : vigillaw16_ScriptBack_J4O → S
  | .r => ⟨fl [(4, dB false)], ⟨[], []⟩⟩
  | .m => ⟨fl [(1, .c (.sc (.string p1))), (43, dB false)], ⟨[], []⟩⟩
  | .m_2 => ⟨fl [(0, .c (eSl p0)), (1, .c (.sc (.string p1))), (5, .c (.sc (.string x))), (29, dB false)], ⟨[], []⟩⟩
def vigillaw16_ScriptBack_J4 (p0 : Sl GPick) (p1 : ByteArray) (x : ByteArray) (x_2 : Int) (n : Nat) : Option vigillaw16_ScriptBack_J4O :=
  (vigillaw16_num n x_2).bind fun x_3 =>
  if x_3 = 0 then
    (script_Parse n x).bind fun (x_4, x_5) =>
    (vigillaw16_num n x_5).bind fun x_6 =>
    if x_6 ≠ 0 then
      some (.r)
    else (vigilref15_SamePicks n p0 x_4).bind fun x_7 =>
    bif x_7 then
      some (.m)
    else some (.r)
  else some (.m_2)
theorem vigillaw16_ScriptBack_J4_ok (p0 : Sl GPick) (p1 : ByteArray) (x : ByteArray) (x_2 : Int) (n : Nat) (o : vigillaw16_ScriptBack_J4O) (h : vigillaw16_ScriptBack_J4 p0 p1 x x_2 n = some o) : X.Go 4 74 [] (sub b4 [1, 1, 1, 0]) ⟨fl [(0, .c (eSl p0)), (1, .c (.sc (.string p1))), (5, .c (.sc (.string x))), (6, dInt x_2)], ⟨[], []⟩⟩ (vigillaw16_ScriptBack_J4x o) (vigillaw16_ScriptBack_J4s p0 p1 x x_2 o) := by
  unfold vigillaw16_ScriptBack_J4 at h
  refine Sys.goE ?_
  obtain ⟨x_3, g1, h⟩ := bindE h
  have h1 := vigillaw16_num_ok g1
  by_cases h2 : x_3 = 0
  · replace h := iteT h2 h
    obtain ⟨⟨x_4, x_5⟩, g4, h⟩ := bindE h
    dsimp only at h
    have h4 := script_Parse_ok g4
    obtain ⟨x_6, g6, h⟩ := bindE h
    have h6 := vigillaw16_num_ok g6
    refine Sys.to [((4, 1), .call (dInt x_3) ⟨[], []⟩), ((4, 2), .b true), ((5, 1), .call (.tup [.c (eSl x_4), dInt x_5]) ⟨[], []⟩)] 6 (.at [1, 0, 1, 0]) ⟨fl [(0, .c (eSl p0)), (1, .c (.sc (.string p1))), (7, .c (eSl x_4)), (8, dInt x_5)], ⟨[], []⟩⟩ (And.intro (h1) (And.intro (h2) (h4))) (by kernel_rfl) ?_
    by_cases h7 : x_6 ≠ 0
    · replace h := iteT h7 h
      have hr := Option.some.inj h
      subst hr
      exact Sys.endJ [((6, 1), .call (dInt x_6) ⟨[], []⟩), ((6, 2), .b true)] (And.intro (h6) (h7)) (by kernel_rfl)
    · replace h := iteF h7 h
      obtain ⟨x_7, g8, h⟩ := bindE h
      have h8 := vigilref15_SamePicks_ok g8
      cases x_7 with
      | true =>
        replace h := condT h
        have hr := Option.some.inj h
        subst hr
        exact Sys.endJ [((6, 1), .call (dInt x_6) ⟨[], []⟩), ((6, 2), .b false), ((6, 6), .call (dB true) ⟨[], []⟩)] (And.intro (h6) (And.intro (h7) (h8))) (by kernel_rfl)
      | false =>
        replace h := condF h
        have hr := Option.some.inj h
        subst hr
        exact Sys.endJ [((6, 1), .call (dInt x_6) ⟨[], []⟩), ((6, 2), .b false), ((6, 6), .call (dB false) ⟨[], []⟩)] (And.intro (h6) (And.intro (h7) (h8))) (by kernel_rfl)
  · replace h := iteF h2 h
    have hr := Option.some.inj h
    subst hr
    exact Sys.endJ [((4, 1), .call (dInt x_3) ⟨[], []⟩), ((4, 2), .b false)] (And.intro (h1) (h2)) (by kernel_rfl)

def vigillaw16_ScriptBack (n : Nat) (p0 : Sl GPick) (p1 : ByteArray) : Option Bool :=
  if (p0.l.length : Int) > 200 then
    some true
  else if (p1.size : Int) > 2000 then
    some true
  else (script_Put n p0).bind fun (x, x_2) =>
  (vigillaw16_ScriptBack_J4 p0 p1 x x_2 n).bind fun o_2 => match o_2 with
  | .r =>
    some false
  | .m =>
    (script_Parse n p1).bind fun (x_8, x_9) =>
    (vigillaw16_num n x_9).bind fun x_10 =>
    if x_10 ≠ 0 then
      if (x_8.l.length : Int) = 0 then
        some true
      else some false
    else (script_Put n x_8).bind fun (x_11, x_12) =>
    (vigillaw16_num n x_12).bind fun x_13 =>
    if x_13 = 0 then
      if x_11 = p1 then
        some true
      else some false
    else some false
  | .m_2 =>
    (script_Parse n p1).bind fun (x_14, x_15) =>
    (vigillaw16_num n x_15).bind fun x_16 =>
    if x_16 ≠ 0 then
      if (x_14.l.length : Int) = 0 then
        some true
      else some false
    else (script_Put n x_14).bind fun (x_17, x_18) =>
    (vigillaw16_num n x_18).bind fun x_19 =>
    if x_19 = 0 then
      if x_17 = p1 then
        some true
      else some false
    else some false
theorem vigillaw16_ScriptBack_ok {n : Nat} {p0 : Sl GPick} {p1 : ByteArray} {r : Bool} (h : vigillaw16_ScriptBack n p0 p1 = some r) : X.RunsC 4 [.c (eSl p0), .c (.sc (.string p1))] (dB r) := by
  unfold vigillaw16_ScriptBack at h
  refine Sys.callC' (fn := Tryz.f4) (b := b4) (by kernel_rfl) (by kernel_rfl) ?_
  by_cases h2 : (p0.l.length : Int) > 200
  · replace h := iteT h2 h
    have hr := Option.some.inj h
    subst hr
    exact Sys.endC [((1, 2), .b true), ((2, 0), .call (dB true) ⟨[], []⟩)] (And.intro (h2) (vigillaw16_live_ok)) (by kernel_rfl)
  · replace h := iteF h2 h
    by_cases h3 : (p1.size : Int) > 2000
    · replace h := iteT h3 h
      have hr := Option.some.inj h
      subst hr
      exact Sys.endC [((1, 2), .b false), ((1, 6), .b true), ((2, 0), .call (dB true) ⟨[], []⟩)] (And.intro (h2) (And.intro (h3) (vigillaw16_live_ok))) (by kernel_rfl)
    · replace h := iteF h3 h
      obtain ⟨⟨x, x_2⟩, g5, h⟩ := bindE h
      dsimp only at h
      have h5 := script_Put_ok g5
      refine Sys.to [((1, 2), .b false), ((1, 6), .b false), ((3, 1), .call (.tup [.c (.sc (.string x)), dInt x_2]) ⟨[], []⟩)] 204001 (.at [1, 1, 1, 0]) ⟨fl [(0, .c (eSl p0)), (1, .c (.sc (.string p1))), (5, .c (.sc (.string x))), (6, dInt x_2)], ⟨[], []⟩⟩ (And.intro (h2) (And.intro (h3) (h5))) (by kernel_rfl) ?_
      obtain ⟨o_2, g7, h⟩ := bindE h
      have h7 := vigillaw16_ScriptBack_J4_ok p0 p1 x x_2 n _ g7
      cases o_2 with
      | r =>
        dsimp only at h
        refine Sys.over h7 ?_
        have hr := Option.some.inj h
        subst hr
        exact Sys.endC [] (True.intro) (by kernel_rfl)
      | m =>
        dsimp only at h
        refine Sys.over h7 ?_
        obtain ⟨⟨x_8, x_9⟩, g9, h⟩ := bindE h
        dsimp only at h
        have h9 := script_Parse_ok g9
        obtain ⟨x_10, g11, h⟩ := bindE h
        have h11 := vigillaw16_num_ok g11
        refine Sys.to [((8, 1), .call (.tup [.c (eSl x_8), dInt x_9]) ⟨[], []⟩)] 9 (.at [1, 1, 1, 1, 1, 0, 0]) ⟨fl [(1, .c (.sc (.string p1))), (9, .c (eSl x_8)), (10, dInt x_9)], ⟨[], []⟩⟩ (h9) (by kernel_rfl) ?_
        by_cases h12 : x_10 ≠ 0
        · replace h := iteT h12 h
          refine Sys.to [((9, 1), .call (dInt x_10) ⟨[], []⟩), ((9, 2), .b true)] 10 (.at [1, 1, 1, 1, 1, 0, 1, 0, 0]) ⟨fl [(1, .c (.sc (.string p1))), (9, .c (eSl x_8)), (51, dB true)], ⟨[], []⟩⟩ (And.intro (h11) (h12)) (by kernel_rfl) ?_
          by_cases h14 : (x_8.l.length : Int) = 0
          · replace h := iteT h14 h
            have hr := Option.some.inj h
            subst hr
            exact Sys.endC [((10, 2), .b true), ((10, 4), .call (dB true) ⟨[], []⟩)] (And.intro (h14) (vigillaw16_live_ok)) (by kernel_rfl)
          · replace h := iteF h14 h
            have hr := Option.some.inj h
            subst hr
            exact Sys.endC [((10, 2), .b false)] (h14) (by kernel_rfl)
        · replace h := iteF h12 h
          obtain ⟨⟨x_11, x_12⟩, g14, h⟩ := bindE h
          dsimp only at h
          have h14 := script_Put_ok g14
          obtain ⟨x_13, g16, h⟩ := bindE h
          have h16 := vigillaw16_num_ok g16
          refine Sys.to [((9, 1), .call (dInt x_10) ⟨[], []⟩), ((9, 2), .b false), ((11, 1), .call (.tup [.c (.sc (.string x_11)), dInt x_12]) ⟨[], []⟩)] 12 (.at [1, 1, 1, 1, 1, 1, 1, 0]) ⟨fl [(1, .c (.sc (.string p1))), (11, .c (.sc (.string x_11))), (12, dInt x_12)], ⟨[], []⟩⟩ (And.intro (h11) (And.intro (h12) (h14))) (by kernel_rfl) ?_
          by_cases h17 : x_13 = 0
          · replace h := iteT h17 h
            by_cases h18 : x_11 = p1
            · replace h := iteT h18 h
              have hr := Option.some.inj h
              subst hr
              exact Sys.endC [((12, 1), .call (dInt x_13) ⟨[], []⟩), ((12, 2), .b true), ((12, 6), .op { d := dB true }), ((12, 9), .call (dB true) ⟨[], []⟩)] (And.intro (h16) (And.intro (h17) (And.intro (str_eql_true h18) (vigillaw16_live_ok)))) (by kernel_rfl)
            · replace h := iteF h18 h
              have hr := Option.some.inj h
              subst hr
              exact Sys.endC [((12, 1), .call (dInt x_13) ⟨[], []⟩), ((12, 2), .b true), ((12, 6), .op { d := dB false })] (And.intro (h16) (And.intro (h17) (str_eql_false h18))) (by kernel_rfl)
          · replace h := iteF h17 h
            have hr := Option.some.inj h
            subst hr
            exact Sys.endC [((12, 1), .call (dInt x_13) ⟨[], []⟩), ((12, 2), .b false)] (And.intro (h16) (h17)) (by kernel_rfl)
      | m_2 =>
        dsimp only at h
        refine Sys.over h7 ?_
        obtain ⟨⟨x_14, x_15⟩, g9, h⟩ := bindE h
        dsimp only at h
        have h9 := script_Parse_ok g9
        obtain ⟨x_16, g11, h⟩ := bindE h
        have h11 := vigillaw16_num_ok g11
        refine Sys.to [((8, 1), .call (.tup [.c (eSl x_14), dInt x_15]) ⟨[], []⟩)] 9 (.at [1, 1, 1, 1, 1, 0, 0]) ⟨fl [(1, .c (.sc (.string p1))), (9, .c (eSl x_14)), (10, dInt x_15)], ⟨[], []⟩⟩ (h9) (by kernel_rfl) ?_
        by_cases h12 : x_16 ≠ 0
        · replace h := iteT h12 h
          refine Sys.to [((9, 1), .call (dInt x_16) ⟨[], []⟩), ((9, 2), .b true)] 10 (.at [1, 1, 1, 1, 1, 0, 1, 0, 0]) ⟨fl [(1, .c (.sc (.string p1))), (9, .c (eSl x_14)), (51, dB true)], ⟨[], []⟩⟩ (And.intro (h11) (h12)) (by kernel_rfl) ?_
          by_cases h14 : (x_14.l.length : Int) = 0
          · replace h := iteT h14 h
            have hr := Option.some.inj h
            subst hr
            exact Sys.endC [((10, 2), .b true), ((10, 4), .call (dB true) ⟨[], []⟩)] (And.intro (h14) (vigillaw16_live_ok)) (by kernel_rfl)
          · replace h := iteF h14 h
            have hr := Option.some.inj h
            subst hr
            exact Sys.endC [((10, 2), .b false)] (h14) (by kernel_rfl)
        · replace h := iteF h12 h
          obtain ⟨⟨x_17, x_18⟩, g14, h⟩ := bindE h
          dsimp only at h
          have h14 := script_Put_ok g14
          obtain ⟨x_19, g16, h⟩ := bindE h
          have h16 := vigillaw16_num_ok g16
          refine Sys.to [((9, 1), .call (dInt x_16) ⟨[], []⟩), ((9, 2), .b false), ((11, 1), .call (.tup [.c (.sc (.string x_17)), dInt x_18]) ⟨[], []⟩)] 12 (.at [1, 1, 1, 1, 1, 1, 1, 0]) ⟨fl [(1, .c (.sc (.string p1))), (11, .c (.sc (.string x_17))), (12, dInt x_18)], ⟨[], []⟩⟩ (And.intro (h11) (And.intro (h12) (h14))) (by kernel_rfl) ?_
          by_cases h17 : x_19 = 0
          · replace h := iteT h17 h
            by_cases h18 : x_17 = p1
            · replace h := iteT h18 h
              have hr := Option.some.inj h
              subst hr
              exact Sys.endC [((12, 1), .call (dInt x_19) ⟨[], []⟩), ((12, 2), .b true), ((12, 6), .op { d := dB true }), ((12, 9), .call (dB true) ⟨[], []⟩)] (And.intro (h16) (And.intro (h17) (And.intro (str_eql_true h18) (vigillaw16_live_ok)))) (by kernel_rfl)
            · replace h := iteF h18 h
              have hr := Option.some.inj h
              subst hr
              exact Sys.endC [((12, 1), .call (dInt x_19) ⟨[], []⟩), ((12, 2), .b true), ((12, 6), .op { d := dB false })] (And.intro (h16) (And.intro (h17) (str_eql_false h18))) (by kernel_rfl)
          · replace h := iteF h17 h
            have hr := Option.some.inj h
            subst hr
            exact Sys.endC [((12, 1), .call (dInt x_19) ⟨[], []⟩), ((12, 2), .b false)] (And.intro (h16) (h17)) (by kernel_rfl)
end Go.Proofs.YtilipgopjiokfaaGreatDoor
