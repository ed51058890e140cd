/-
  Part of the proof: printed by the session's own program out of the program's form, or typed; it states no claim by itself.
-/
import Derived.Test.YtilipgopjiokfaaGreatDoorFa
/-
  Functions of the program as Lean functions, and that the interpreter comes to the same: printed by the session's own tool.
-/
set_option linter.unusedVariables false
set_option linter.unusedSimpArgs false
set_option maxRecDepth 100000
set_option maxHeartbeats 1000000
namespace Go.Proofs.YtilipgopjiokfaaGreatDoor
open Go Go.Abs Go.Proofs
inductive vigilref16_pick_L7O where
  | r (v3 : Bool) (o0_1 : Int) (o0_2 : Int)
  | e0 (v6 : Int)
def vigilref16_pick_L7x : vigilref16_pick_L7O → Ex
  | .r _ _ _ => .ret
  | .e0 _ => (.exit 0)
def vigilref16_pick_L7s (p0 : ByteArray) : vigilref16_pick_L7O → S
  | .r v3 o0_1 o0_2 => ⟨fl [(2, .pt 0 1 0), (3, dB v3)], ⟨[⟨1, [dInt 0, dInt o0_1, dInt o0_2]⟩], []⟩⟩
  | .e0 v6 => ⟨fl [(0, .c (.sc (.string p0))), (2, .pt 0 1 0), (6, dInt v6), (36, dB false)], ⟨[⟨1, [dInt 0, dInt 0, dInt 0]⟩], []⟩⟩
def vigilref16_pick_L7 (p0 : ByteArray) (n : Nat) : Nat → Int → Option vigilref16_pick_L7O
  | 0, _ => none
  | k + 1, v6 =>
    if v6 < (p0.size : Int) then
      (byteI p0 v6).bind fun v41 =>
      if v41 = 46 then
        if 0 ≤ v6 ∧ v6 ≤ (p0.size : Int) then (vigilref16_number n (p0.extract 0 v6.toNat)).bind fun (x_3, x_4) =>
        if InR (v6 + 1) then if 0 ≤ (v6 + 1) ∧ (v6 + 1) ≤ (p0.size : Int) then (vigilref16_number n (p0.extract (v6 + 1).toNat p0.size)).bind fun (x_5, x_6) =>
        bif x_4 then
          bif x_6 then
            if x_5 > 0 then
              some (.r true x_3 x_5)
            else some (.r false x_3 x_5)
          else some (.r false x_3 x_5)
        else some (.r false x_3 x_5)
        else none
        else none
        else none
      else if InR (v6 + 1) then vigilref16_pick_L7 p0 n k (v6 + 1)
      else none
    else some (.e0 v6)
theorem vigilref16_pick_L7_ok (p0 : ByteArray) (n : Nat) : ∀ (k : Nat) (v6 : Int) (o : vigilref16_pick_L7O), vigilref16_pick_L7 p0 n k v6 = some o → ∀ s : S, restrS (X.an.rs 38 7) s = ⟨fl [(0, .c (.sc (.string p0))), (2, .pt 0 1 0), (6, dInt v6)], ⟨[⟨1, [dInt 0, dInt 0, dInt 0]⟩], []⟩⟩ → X.Loop 38 77 [] (sub b38 [1, 1, 1, 0, 1, 0, 0]) 1 s (vigilref16_pick_L7x o) (vigilref16_pick_L7s p0 o) := by
  intro k
  induction k with
  | zero => intro v6 o h s hs; unfold vigilref16_pick_L7 at h; cases h
  | succ k ih =>
    intro v6 o h s hs
    unfold vigilref16_pick_L7 at h
    refine Sys.loopQ hs ?_
    by_cases h1 : v6 < (p0.size : Int)
    · replace h := iteT h1 h
      obtain ⟨v41, h3, h⟩ := bindE h
      refine Sys.to [((7, 3), .b true)] 9 (.at [1, 0, 0, 0]) ⟨fl [(0, .c (.sc (.string p0))), (2, .pt 0 1 0), (6, dInt v6), (36, dB true)], ⟨[⟨1, [dInt 0, dInt 0, dInt 0]⟩], []⟩⟩ (h1) (by kernel_rfl) ?_
      by_cases h4 : v41 = 46
      · replace h := iteT h4 h
        by_cases h6 : 0 ≤ v6 ∧ v6 ≤ (p0.size : Int)
        case neg => exact absurd (iteF h6 h) (by simp)
        replace h := iteT h6 h
        obtain ⟨⟨x_3, x_4⟩, g7, h⟩ := bindE h
        dsimp only at h
        have h7 := vigilref16_number_ok g7
        by_cases h9 : InR (v6 + 1)
        case neg => exact absurd (iteF h9 h) (by simp)
        replace h := iteT h9 h
        by_cases h10 : 0 ≤ (v6 + 1) ∧ (v6 + 1) ≤ (p0.size : Int)
        case neg => exact absurd (iteF h10 h) (by simp)
        replace h := iteT h10 h
        obtain ⟨⟨x_5, x_6⟩, g11, h⟩ := bindE h
        dsimp only at h
        have h11 := vigilref16_number_ok g11
        refine Sys.to [((9, 2), .op { d := .c (.sc (.int .u8 v41)) }), ((9, 3), .b true), ((10, 2), .op { d := .c (.sc (.string (p0.extract 0 v6.toNat))) }), ((10, 3), .call (.tup [dInt x_3, dB x_4]) ⟨[], []⟩), ((11, 2), .n), ((11, 3), .op { d := .c (.sc (.string (p0.extract (v6 + 1).toNat p0.size))) }), ((11, 4), .call (.tup [dInt x_5, dB x_6]) ⟨[], []⟩)] 12 (.at [1, 0, 0, 1, 0, 1, 1, 0]) ⟨fl [(2, .pt 0 1 0), (7, dInt x_3), (8, dB x_4), (9, dInt x_5), (10, dB x_6)], ⟨[⟨1, [dInt 0, dInt 0, dInt 0]⟩], []⟩⟩ (And.intro (byte_ix h3) (And.intro (h4) (And.intro (str_slc_hi (P0 := X.P) (t0 := 9) (st0 := [⟨1, [dInt 0, dInt 0, dInt 0]⟩]) (by kernel_rfl) h6) (And.intro (h7) (And.intro (h9) (And.intro (str_slc_lo (P0 := X.P) (t0 := 9) (st0 := [⟨1, [dInt 0, dInt 0, dInt 0]⟩]) (by kernel_rfl) h10) (h11))))))) (by kernel_rfl) ?_
        cases x_4 with
        | true =>
          replace h := condT h
          cases x_6 with
          | true =>
            replace h := condT h
            by_cases h15 : x_5 > 0
            · replace h := iteT h15 h
              have hr := Option.some.inj h
              subst hr
              exact Sys.endX [((12, 9), .b true)] (h15) rfl (by kernel_rfl)
            · replace h := iteF h15 h
              have hr := Option.some.inj h
              subst hr
              exact Sys.endX [((12, 9), .b false)] (h15) rfl (by kernel_rfl)
          | false =>
            replace h := condF h
            have hr := Option.some.inj h
            subst hr
            exact Sys.endX [] (True.intro) rfl (by kernel_rfl)
        | false =>
          replace h := condF h
          have hr := Option.some.inj h
          subst hr
          exact Sys.endX [] (True.intro) rfl (by kernel_rfl)
      · replace h := iteF h4 h
        by_cases h6 : InR (v6 + 1)
        case neg => exact absurd (iteF h6 h) (by simp)
        replace h := iteT h6 h
        refine Sys.to [((9, 2), .op { d := .c (.sc (.int .u8 v41)) }), ((9, 3), .b false), ((8, 1), .n)] 999999 (.fin .normal) ⟨fl [(0, .c (.sc (.string p0))), (2, .pt 0 1 0), (6, dInt (v6 + 1))], ⟨[⟨1, [dInt 0, dInt 0, dInt 0]⟩], []⟩⟩ (And.intro (byte_ix h3) (And.intro (h4) (h6))) (by kernel_rfl) ?_
        exact Sys.fin (.inl ⟨rfl, ⟨fl [(0, .c (.sc (.string p0))), (2, .pt 0 1 0), (6, dInt (v6 + 1))], ⟨[⟨1, [dInt 0, dInt 0, dInt 0]⟩], []⟩⟩, (by kernel_rfl), ih (v6 + 1) _ h _ (by kernel_rfl)⟩)
    · replace h := iteF h1 h
      have hr := Option.some.inj h
      subst hr
      exact Sys.endX [((7, 3), .b false)] (h1) rfl (by kernel_rfl)

inductive vigilref16_pick_L7_2O where
  | r (v3 : Bool) (o0_1 : Int) (o0_2 : Int)
  | e0 (v6 : Int)
def vigilref16_pick_L7_2x : vigilref16_pick_L7_2O → Ex
  | .r _ _ _ => .ret
  | .e0 _ => (.exit 0)
def vigilref16_pick_L7_2s (p0 : ByteArray) : vigilref16_pick_L7_2O → S
  | .r v3 o0_1 o0_2 => ⟨fl [(2, .pt 0 1 0), (3, dB v3)], ⟨[⟨1, [dInt 0, dInt o0_1, dInt o0_2]⟩], []⟩⟩
  | .e0 v6 => ⟨fl [(0, .c (.sc (.string p0))), (2, .pt 0 1 0), (6, dInt v6), (36, dB false)], ⟨[⟨1, [dInt 0, dInt 0, dInt 0]⟩], []⟩⟩
def vigilref16_pick_L7_2 (p0 : ByteArray) (n : Nat) : Nat → Int → Option vigilref16_pick_L7_2O
  | 0, _ => none
  | k + 1, v6_7 =>
    if v6_7 < (p0.size : Int) then
      (byteI p0 v6_7).bind fun v41_2 =>
      if v41_2 = 46 then
        if 0 ≤ v6_7 ∧ v6_7 ≤ (p0.size : Int) then (vigilref16_number n (p0.extract 0 v6_7.toNat)).bind fun (x_9, x_10) =>
        if InR (v6_7 + 1) then if 0 ≤ (v6_7 + 1) ∧ (v6_7 + 1) ≤ (p0.size : Int) then (vigilref16_number n (p0.extract (v6_7 + 1).toNat p0.size)).bind fun (x_11, x_12) =>
        bif x_10 then
          bif x_12 then
            if x_11 > 0 then
              some (.r true x_9 x_11)
            else some (.r false x_9 x_11)
          else some (.r false x_9 x_11)
        else some (.r false x_9 x_11)
        else none
        else none
        else none
      else if InR (v6_7 + 1) then vigilref16_pick_L7_2 p0 n k (v6_7 + 1)
      else none
    else some (.e0 v6_7)
theorem vigilref16_pick_L7_2_ok (p0 : ByteArray) (n : Nat) : ∀ (k : Nat) (v6_7 : Int) (o : vigilref16_pick_L7_2O), vigilref16_pick_L7_2 p0 n k v6_7 = some o → ∀ s : S, restrS (X.an.rs 38 7) s = ⟨fl [(0, .c (.sc (.string p0))), (2, .pt 0 1 0), (6, dInt v6_7)], ⟨[⟨1, [dInt 0, dInt 0, dInt 0]⟩], []⟩⟩ → X.Loop 38 77 [] (sub b38 [1, 1, 1, 0, 1, 0, 0]) 1 s (vigilref16_pick_L7_2x o) (vigilref16_pick_L7_2s p0 o) := by
  intro k
  induction k with
  | zero => intro v6_7 o h s hs; unfold vigilref16_pick_L7_2 at h; cases h
  | succ k ih =>
    intro v6_7 o h s hs
    unfold vigilref16_pick_L7_2 at h
    refine Sys.loopQ hs ?_
    by_cases h1 : v6_7 < (p0.size : Int)
    · replace h := iteT h1 h
      obtain ⟨v41_2, h3, h⟩ := bindE h
      refine Sys.to [((7, 3), .b true)] 9 (.at [1, 0, 0, 0]) ⟨fl [(0, .c (.sc (.string p0))), (2, .pt 0 1 0), (6, dInt v6_7), (36, dB true)], ⟨[⟨1, [dInt 0, dInt 0, dInt 0]⟩], []⟩⟩ (h1) (by kernel_rfl) ?_
      by_cases h4 : v41_2 = 46
      · replace h := iteT h4 h
        by_cases h6 : 0 ≤ v6_7 ∧ v6_7 ≤ (p0.size : Int)
        case neg => exact absurd (iteF h6 h) (by simp)
        replace h := iteT h6 h
        obtain ⟨⟨x_9, x_10⟩, g7, h⟩ := bindE h
        dsimp only at h
        have h7 := vigilref16_number_ok g7
        by_cases h9 : InR (v6_7 + 1)
        case neg => exact absurd (iteF h9 h) (by simp)
        replace h := iteT h9 h
        by_cases h10 : 0 ≤ (v6_7 + 1) ∧ (v6_7 + 1) ≤ (p0.size : Int)
        case neg => exact absurd (iteF h10 h) (by simp)
        replace h := iteT h10 h
        obtain ⟨⟨x_11, x_12⟩, g11, h⟩ := bindE h
        dsimp only at h
        have h11 := vigilref16_number_ok g11
        refine Sys.to [((9, 2), .op { d := .c (.sc (.int .u8 v41_2)) }), ((9, 3), .b true), ((10, 2), .op { d := .c (.sc (.string (p0.extract 0 v6_7.toNat))) }), ((10, 3), .call (.tup [dInt x_9, dB x_10]) ⟨[], []⟩), ((11, 2), .n), ((11, 3), .op { d := .c (.sc (.string (p0.extract (v6_7 + 1).toNat p0.size))) }), ((11, 4), .call (.tup [dInt x_11, dB x_12]) ⟨[], []⟩)] 12 (.at [1, 0, 0, 1, 0, 1, 1, 0]) ⟨fl [(2, .pt 0 1 0), (7, dInt x_9), (8, dB x_10), (9, dInt x_11), (10, dB x_12)], ⟨[⟨1, [dInt 0, dInt 0, dInt 0]⟩], []⟩⟩ (And.intro (byte_ix h3) (And.intro (h4) (And.intro (str_slc_hi (P0 := X.P) (t0 := 9) (st0 := [⟨1, [dInt 0, dInt 0, dInt 0]⟩]) (by kernel_rfl) h6) (And.intro (h7) (And.intro (h9) (And.intro (str_slc_lo (P0 := X.P) (t0 := 9) (st0 := [⟨1, [dInt 0, dInt 0, dInt 0]⟩]) (by kernel_rfl) h10) (h11))))))) (by kernel_rfl) ?_
        cases x_10 with
        | true =>
          replace h := condT h
          cases x_12 with
          | true =>
            replace h := condT h
            by_cases h15 : x_11 > 0
            · replace h := iteT h15 h
              have hr := Option.some.inj h
              subst hr
              exact Sys.endX [((12, 9), .b true)] (h15) rfl (by kernel_rfl)
            · replace h := iteF h15 h
              have hr := Option.some.inj h
              subst hr
              exact Sys.endX [((12, 9), .b false)] (h15) rfl (by kernel_rfl)
          | false =>
            replace h := condF h
            have hr := Option.some.inj h
            subst hr
            exact Sys.endX [] (True.intro) rfl (by kernel_rfl)
        | false =>
          replace h := condF h
          have hr := Option.some.inj h
          subst hr
          exact Sys.endX [] (True.intro) rfl (by kernel_rfl)
      · replace h := iteF h4 h
        by_cases h6 : InR (v6_7 + 1)
        case neg => exact absurd (iteF h6 h) (by simp)
        replace h := iteT h6 h
        refine Sys.to [((9, 2), .op { d := .c (.sc (.int .u8 v41_2)) }), ((9, 3), .b false), ((8, 1), .n)] 999999 (.fin .normal) ⟨fl [(0, .c (.sc (.string p0))), (2, .pt 0 1 0), (6, dInt (v6_7 + 1))], ⟨[⟨1, [dInt 0, dInt 0, dInt 0]⟩], []⟩⟩ (And.intro (byte_ix h3) (And.intro (h4) (h6))) (by kernel_rfl) ?_
        exact Sys.fin (.inl ⟨rfl, ⟨fl [(0, .c (.sc (.string p0))), (2, .pt 0 1 0), (6, dInt (v6_7 + 1))], ⟨[⟨1, [dInt 0, dInt 0, dInt 0]⟩], []⟩⟩, (by kernel_rfl), ih (v6_7 + 1) _ h _ (by kernel_rfl)⟩)
    · replace h := iteF h1 h
      have hr := Option.some.inj h
      subst hr
      exact Sys.endX [((7, 3), .b false)] (h1) rfl (by kernel_rfl)

def vigilref16_pick (n : Nat) (p0 : ByteArray) : Option (GPick × Bool) :=
  if p0 = (⟨#[116]⟩ : ByteArray) then
    some (({ kind := 2, thread := 0, draw := 0 } : GPick), true)
  else if (p0.size : Int) > 0 then
    (byteI p0 0).bind fun v21 =>
    if v21 = 115 then
      if 0 ≤ (1 : Int) ∧ (1 : Int) ≤ (p0.size : Int) then (vigilref16_number n (p0.extract (1 : Int).toNat p0.size)).bind fun (x, x_2) =>
      some (({ kind := 1, thread := x, draw := 0 } : GPick), x_2)
      else none
    else (vigilref16_pick_L7 p0 n n 0).bind fun o_2 => match o_2 with
    | .r v3 o0_1 o0_2 =>
      some (({ kind := 0, thread := o0_1, draw := o0_2 } : GPick), v3)
    | .e0 v6_2 =>
      (vigilref16_number n p0).bind fun (x_7, x_8) =>
      some (({ kind := 0, thread := x_7, draw := 0 } : GPick), x_8)
  else (vigilref16_pick_L7_2 p0 n n 0).bind fun o_3 => match o_3 with
  | .r v3_2 o0_1_2 o0_2_2 =>
    some (({ kind := 0, thread := o0_1_2, draw := o0_2_2 } : GPick), v3_2)
  | .e0 v6_3 =>
    (vigilref16_number n p0).bind fun (x_13, x_14) =>
    some (({ kind := 0, thread := x_13, draw := 0 } : GPick), x_14)
theorem vigilref16_pick_ok {n : Nat} {p0 : ByteArray} {r : GPick × Bool} (h : vigilref16_pick n p0 = some r) : X.RunsC 38 [.c (.sc (.string p0))] (.tup [.c (.agg (EncX.encX r.1)), dB r.2]) := by
  unfold vigilref16_pick at h
  refine Sys.callC' (fn := Tryz.f38) (b := b38) (by kernel_rfl) (by kernel_rfl) ?_
  by_cases h2 : p0 = (⟨#[116]⟩ : ByteArray)
  · replace h := iteT h2 h
    have hr := Option.some.inj h
    subst hr
    exact Sys.endC [((1, 1), .op { d := dB true })] (str_eql_true h2) (by kernel_rfl)
  · replace h := iteF h2 h
    refine Sys.to [((1, 1), .op { d := dB false })] 3 (.at [1, 1, 0, 0]) ⟨fl [(0, .c (.sc (.string p0))), (2, .pt 0 1 0), (14, dB false)], ⟨[⟨1, [dInt 0, dInt 0, dInt 0]⟩], []⟩⟩ (str_eql_false h2) (by kernel_rfl) ?_
    by_cases h4 : (p0.size : Int) > 0
    · replace h := iteT h4 h
      obtain ⟨v21, h5, h⟩ := bindE h
      by_cases h6 : v21 = 115
      · replace h := iteT h6 h
        by_cases h8 : 0 ≤ (1 : Int) ∧ (1 : Int) ≤ (p0.size : Int)
        case neg => exact absurd (iteF h8 h) (by simp)
        replace h := iteT h8 h
        obtain ⟨⟨x, x_2⟩, g9, h⟩ := bindE h
        dsimp only at h
        have h9 := vigilref16_number_ok g9
        have hr := Option.some.inj h
        subst hr
        exact Sys.endC [((3, 2), .b true), ((3, 5), .op { d := .c (.sc (.int .u8 v21)) }), ((3, 6), .b true), ((4, 1), .op { d := .c (.sc (.string (p0.extract (1 : Int).toNat p0.size))) }), ((4, 2), .call (.tup [dInt x, dB x_2]) ⟨[], []⟩)] (And.intro (h4) (And.intro (byte_ix h5) (And.intro (h6) (And.intro (str_slc_lo (P0 := X.P) (t0 := 9) (st0 := [⟨1, [dInt 0, dInt 0, dInt 0]⟩]) (by kernel_rfl) h8) (h9))))) (by kernel_rfl)
      · replace h := iteF h6 h
        refine Sys.to [((3, 2), .b true), ((3, 5), .op { d := .c (.sc (.int .u8 v21)) }), ((3, 6), .b false)] 100007 (.at [1, 1, 1, 0, 1, 0]) ⟨fl [(0, .c (.sc (.string p0))), (2, .pt 0 1 0), (6, dInt 0)], ⟨[⟨1, [dInt 0, dInt 0, dInt 0]⟩], []⟩⟩ (And.intro (h4) (And.intro (byte_ix h5) (h6))) (by kernel_rfl) ?_
        obtain ⟨o_2, g9, h⟩ := bindE h
        have h9 := vigilref16_pick_L7_ok p0 n n 0 _ g9
        cases o_2 with
        | r v3 o0_1 o0_2 =>
          dsimp only at h
          have hr := Option.some.inj h
          subst hr
          exact Sys.endC [((7, 1000), .code .ret ⟨fl [(2, .pt 0 1 0), (3, dB v3)], ⟨[⟨1, [dInt 0, dInt o0_1, dInt o0_2]⟩], []⟩⟩)] (Sys.Loop.goM (h9 ⟨fl [(0, .c (.sc (.string p0))), (2, .pt 0 1 0), (6, dInt 0)], ⟨[⟨1, [dInt 0, dInt 0, dInt 0]⟩], []⟩⟩ (by kernel_rfl)) (by kernel_rfl)) (by kernel_rfl)
        | e0 v6_2 =>
          dsimp only at h
          obtain ⟨⟨x_7, x_8⟩, g11, h⟩ := bindE h
          dsimp only at h
          have h11 := vigilref16_number_ok g11
          have hr := Option.some.inj h
          subst hr
          exact Sys.endC [((7, 1000), .code (.exit 0) ⟨fl [(0, .c (.sc (.string p0))), (2, .pt 0 1 0), (6, dInt v6_2), (36, dB false)], ⟨[⟨1, [dInt 0, dInt 0, dInt 0]⟩], []⟩⟩), ((13, 1), .call (.tup [dInt x_7, dB x_8]) ⟨[], []⟩)] (And.intro (Sys.Loop.goM (h9 ⟨fl [(0, .c (.sc (.string p0))), (2, .pt 0 1 0), (6, dInt 0)], ⟨[⟨1, [dInt 0, dInt 0, dInt 0]⟩], []⟩⟩ (by kernel_rfl)) (by kernel_rfl)) (h11)) (by kernel_rfl)
    · replace h := iteF h4 h
      refine Sys.to [((3, 2), .b false)] 100007 (.at [1, 1, 1, 0, 1, 0]) ⟨fl [(0, .c (.sc (.string p0))), (2, .pt 0 1 0), (6, dInt 0)], ⟨[⟨1, [dInt 0, dInt 0, dInt 0]⟩], []⟩⟩ (h4) (by kernel_rfl) ?_
      obtain ⟨o_3, g7, h⟩ := bindE h
      have h7 := vigilref16_pick_L7_2_ok p0 n n 0 _ g7
      cases o_3 with
      | r v3_2 o0_1_2 o0_2_2 =>
        dsimp only at h
        have hr := Option.some.inj h
        subst hr
        exact Sys.endC [((7, 1000), .code .ret ⟨fl [(2, .pt 0 1 0), (3, dB v3_2)], ⟨[⟨1, [dInt 0, dInt o0_1_2, dInt o0_2_2]⟩], []⟩⟩)] (Sys.Loop.goM (h7 ⟨fl [(0, .c (.sc (.string p0))), (2, .pt 0 1 0), (6, dInt 0)], ⟨[⟨1, [dInt 0, dInt 0, dInt 0]⟩], []⟩⟩ (by kernel_rfl)) (by kernel_rfl)) (by kernel_rfl)
      | e0 v6_3 =>
        dsimp only at h
        obtain ⟨⟨x_13, x_14⟩, g9, h⟩ := bindE h
        dsimp only at h
        have h9 := vigilref16_number_ok g9
        have hr := Option.some.inj h
        subst hr
        exact Sys.endC [((7, 1000), .code (.exit 0) ⟨fl [(0, .c (.sc (.string p0))), (2, .pt 0 1 0), (6, dInt v6_3), (36, dB false)], ⟨[⟨1, [dInt 0, dInt 0, dInt 0]⟩], []⟩⟩), ((13, 1), .call (.tup [dInt x_13, dB x_14]) ⟨[], []⟩)] (And.intro (Sys.Loop.goM (h7 ⟨fl [(0, .c (.sc (.string p0))), (2, .pt 0 1 0), (6, dInt 0)], ⟨[⟨1, [dInt 0, dInt 0, dInt 0]⟩], []⟩⟩ (by kernel_rfl)) (by kernel_rfl)) (h9)) (by kernel_rfl)
inductive vigilref16_Parse_L4O where
  | e0 (v4 : List GPick) (v5 : Int) (v6 : Int)
  | r (o0_0 : Int) (o0_1 : Int) (o0_2 : Int)
def vigilref16_Parse_L4x : vigilref16_Parse_L4O → Ex
  | .e0 _ _ _ => (.exit 0)
  | .r _ _ _ => .ret
def vigilref16_Parse_L4s (p0 : ByteArray) : vigilref16_Parse_L4O → S
  | .e0 v4 v5 v6 => ⟨fl [(0, .c (.sc (.string p0))), (4, apl v4), (5, dInt v5), (6, dInt v6), (16, dB false)], ⟨[], []⟩⟩
  | .r o0_0 o0_1 o0_2 => ⟨fl [(2, .c (.sl true true [] 0)), (3, dInt 2)], ⟨[⟨1, [dInt o0_0, dInt o0_1, dInt o0_2]⟩], []⟩⟩
def vigilref16_Parse_L4 (p0 : ByteArray) (n : Nat) : Nat → List GPick → Int → Int → Option vigilref16_Parse_L4O
  | 0, _, _, _ => none
  | k + 1, v4, v5, v6 =>
    if v6 ≤ (p0.size : Int) then
      if p0 = (⟨#[]⟩ : ByteArray) then
        some (.e0 v4 v5 v6)
      else if v6 < (p0.size : Int) then
        (byteI p0 v6).bind fun v26 =>
        if v26 ≠ 32 then
          if InR (v6 + 1) then vigilref16_Parse_L4 p0 n k v4 v5 (v6 + 1)
          else none
        else if 0 ≤ v5 ∧ v5 ≤ v6 ∧ v6 ≤ (p0.size : Int) then (vigilref16_pick n (p0.extract v5.toNat v6.toNat)).bind fun (x, x_2) =>
        bif x_2 then
          if (v4.length : Int) ≥ 20000 then
            some (.r x.kind x.thread x.draw)
          else if Room 24 (v4 ++ ([x] : List GPick)).length then if InR (v6 + 1) then vigilref16_Parse_L4 p0 n k (v4 ++ ([x] : List GPick)) (v6 + 1) (v6 + 1)
          else none
          else none
        else some (.r x.kind x.thread x.draw)
        else none
      else if 0 ≤ v5 ∧ v5 ≤ v6 ∧ v6 ≤ (p0.size : Int) then (vigilref16_pick n (p0.extract v5.toNat v6.toNat)).bind fun (x_3, x_4) =>
      bif x_4 then
        if (v4.length : Int) ≥ 20000 then
          some (.r x_3.kind x_3.thread x_3.draw)
        else if Room 24 (v4 ++ ([x_3] : List GPick)).length then if InR (v6 + 1) then vigilref16_Parse_L4 p0 n k (v4 ++ ([x_3] : List GPick)) (v6 + 1) (v6 + 1)
        else none
        else none
      else some (.r x_3.kind x_3.thread x_3.draw)
      else none
    else some (.e0 v4 v5 v6)
theorem vigilref16_Parse_L4_ok (p0 : ByteArray) (n : Nat) : ∀ (k : Nat) (v4 : List GPick) (v5 : Int) (v6 : Int) (o : vigilref16_Parse_L4O), vigilref16_Parse_L4 p0 n k v4 v5 v6 = some o → ∀ s : S, restrS (X.an.rs 12 4) s = ⟨fl [(0, .c (.sc (.string p0))), (4, apl v4), (5, dInt v5), (6, dInt v6)], ⟨[], []⟩⟩ → X.Loop 12 51 [] (sub b12 [1, 1, 1, 0, 1, 0, 0]) 0 s (vigilref16_Parse_L4x o) (vigilref16_Parse_L4s p0 o) := by
  intro k
  induction k with
  | zero => intro v4 v5 v6 o h s hs; unfold vigilref16_Parse_L4 at h; cases h
  | succ k ih =>
    intro v4 v5 v6 o h s hs
    unfold vigilref16_Parse_L4 at h
    refine Sys.loopQ hs ?_
    by_cases h1 : v6 ≤ (p0.size : Int)
    · replace h := iteT h1 h
      by_cases h2 : p0 = (⟨#[]⟩ : ByteArray)
      · replace h := iteT h2 h
        have hr := Option.some.inj h
        subst hr
        exact Sys.endX [((4, 3), .b true), ((4, 6), .op { d := dB false })] (And.intro (h1) (str_neq_false h2)) rfl (by kernel_rfl)
      · replace h := iteF h2 h
        refine Sys.to [((4, 3), .b true), ((4, 6), .op { d := dB true })] 6 (.at [1, 0, 0, 0, 0]) ⟨fl [(0, .c (.sc (.string p0))), (4, apl v4), (5, dInt v5), (6, dInt v6), (16, dB true)], ⟨[], []⟩⟩ (And.intro (h1) (str_neq_true h2)) (by kernel_rfl) ?_
        by_cases h4 : v6 < (p0.size : Int)
        · replace h := iteT h4 h
          obtain ⟨v26, h5, h⟩ := bindE h
          by_cases h6 : v26 ≠ 32
          · replace h := iteT h6 h
            by_cases h8 : InR (v6 + 1)
            case neg => exact absurd (iteF h8 h) (by simp)
            replace h := iteT h8 h
            refine Sys.to [((6, 3), .b true), ((6, 7), .op { d := .c (.sc (.int .u8 v26)) }), ((6, 8), .b true), ((5, 1), .n)] 999999 (.fin .normal) ⟨fl [(0, .c (.sc (.string p0))), (4, apl v4), (5, dInt v5), (6, dInt (v6 + 1))], ⟨[], []⟩⟩ (And.intro (h4) (And.intro (byte_ix h5) (And.intro (h6) (h8)))) (by kernel_rfl) ?_
            exact Sys.fin (.inl ⟨rfl, ⟨fl [(0, .c (.sc (.string p0))), (4, apl v4), (5, dInt v5), (6, dInt (v6 + 1))], ⟨[], []⟩⟩, (cut_ok (l := [0, 4, 5, 6]) rfl (AllB.nil 0) rfl), ih v4 v5 (v6 + 1) _ h _ (by kernel_rfl)⟩)
          · replace h := iteF h6 h
            by_cases h8 : 0 ≤ v5 ∧ v5 ≤ v6 ∧ v6 ≤ (p0.size : Int)
            case neg => exact absurd (iteF h8 h) (by simp)
            replace h := iteT h8 h
            obtain ⟨⟨x, x_2⟩, g9, h⟩ := bindE h
            dsimp only at h
            have h9 := vigilref16_pick_ok g9
            refine Sys.to [((6, 3), .b true), ((6, 7), .op { d := .c (.sc (.int .u8 v26)) }), ((6, 8), .b false), ((7, 3), .op { d := .c (.sc (.string (p0.extract v5.toNat v6.toNat))) }), ((7, 4), .call (.tup [.c (.agg (EncX.encX x)), dB x_2]) ⟨[], []⟩)] 8 (.at [1, 0, 0, 1, 1, 0, 0]) ⟨fl [(0, .c (.sc (.string p0))), (4, apl v4), (6, dInt v6), (7, .pt 0 1 0), (8, dB x_2)], ⟨[⟨1, (EncX.encX x).map DV.c⟩], []⟩⟩ (And.intro (h4) (And.intro (byte_ix h5) (And.intro (h6) (And.intro (str_slc (P0 := X.P) (t0 := 9) (st0 := [⟨0, []⟩]) (by kernel_rfl) h8) (h9))))) (by kernel_rfl) ?_
            cases x_2 with
            | true =>
              replace h := condT h
              by_cases h12 : (v4.length : Int) ≥ 20000
              · replace h := iteT h12 h
                have hr := Option.some.inj h
                subst hr
                exact Sys.endX [((8, 5), .b true)] (h12) rfl (by kernel_rfl)
              · replace h := iteF h12 h
                by_cases h14 : Room 24 (v4 ++ ([x] : List GPick)).length
                case neg => exact absurd (iteF h14 h) (by simp)
                replace h := iteT h14 h
                by_cases h16 : InR (v6 + 1)
                case neg => exact absurd (iteF h16 h) (by simp)
                replace h := iteT h16 h
                refine Sys.to [((8, 5), .b false), ((10, 3), .appF (v4 ++ ([x] : List GPick)).isEmpty (cells (v4 ++ ([x] : List GPick))) (v4 ++ ([x] : List GPick)).length), ((11, 1), .n), ((5, 1), .n)] 999999 (.fin .normal) ⟨fl [(0, .c (.sc (.string p0))), (4, apl (v4 ++ ([x] : List GPick))), (5, dInt (v6 + 1)), (6, dInt (v6 + 1))], ⟨[⟨1, (EncX.encX x).map DV.c⟩], []⟩⟩ (And.intro (h12) (And.intro (apl_lit v4 ([x] : List GPick) (b := 24) (by decide) h14) (And.intro (h16) (h16)))) (by kernel_rfl) ?_
                exact Sys.fin (.inl ⟨rfl, ⟨fl [(0, .c (.sc (.string p0))), (4, apl (v4 ++ ([x] : List GPick))), (5, dInt (v6 + 1)), (6, dInt (v6 + 1))], ⟨[], []⟩⟩, (cut_ok (l := [0, 4, 5, 6]) rfl (AllB.nil 0) rfl), ih (v4 ++ ([x] : List GPick)) (v6 + 1) (v6 + 1) _ h _ (by kernel_rfl)⟩)
            | false =>
              replace h := condF h
              have hr := Option.some.inj h
              subst hr
              exact Sys.endX [] (True.intro) rfl (by kernel_rfl)
        · replace h := iteF h4 h
          by_cases h6 : 0 ≤ v5 ∧ v5 ≤ v6 ∧ v6 ≤ (p0.size : Int)
          case neg => exact absurd (iteF h6 h) (by simp)
          replace h := iteT h6 h
          obtain ⟨⟨x_3, x_4⟩, g7, h⟩ := bindE h
          dsimp only at h
          have h7 := vigilref16_pick_ok g7
          refine Sys.to [((6, 3), .b false), ((7, 3), .op { d := .c (.sc (.string (p0.extract v5.toNat v6.toNat))) }), ((7, 4), .call (.tup [.c (.agg (EncX.encX x_3)), dB x_4]) ⟨[], []⟩)] 8 (.at [1, 0, 0, 1, 1, 0, 0]) ⟨fl [(0, .c (.sc (.string p0))), (4, apl v4), (6, dInt v6), (7, .pt 0 1 0), (8, dB x_4)], ⟨[⟨1, (EncX.encX x_3).map DV.c⟩], []⟩⟩ (And.intro (h4) (And.intro (str_slc (P0 := X.P) (t0 := 9) (st0 := [⟨0, []⟩]) (by kernel_rfl) h6) (h7))) (by kernel_rfl) ?_
          cases x_4 with
          | true =>
            replace h := condT h
            by_cases h10 : (v4.length : Int) ≥ 20000
            · replace h := iteT h10 h
              have hr := Option.some.inj h
              subst hr
              exact Sys.endX [((8, 5), .b true)] (h10) rfl (by kernel_rfl)
            · replace h := iteF h10 h
              by_cases h12 : Room 24 (v4 ++ ([x_3] : List GPick)).length
              case neg => exact absurd (iteF h12 h) (by simp)
              replace h := iteT h12 h
              by_cases h14 : InR (v6 + 1)
              case neg => exact absurd (iteF h14 h) (by simp)
              replace h := iteT h14 h
              refine Sys.to [((8, 5), .b false), ((10, 3), .appF (v4 ++ ([x_3] : List GPick)).isEmpty (cells (v4 ++ ([x_3] : List GPick))) (v4 ++ ([x_3] : List GPick)).length), ((11, 1), .n), ((5, 1), .n)] 999999 (.fin .normal) ⟨fl [(0, .c (.sc (.string p0))), (4, apl (v4 ++ ([x_3] : List GPick))), (5, dInt (v6 + 1)), (6, dInt (v6 + 1))], ⟨[⟨1, (EncX.encX x_3).map DV.c⟩], []⟩⟩ (And.intro (h10) (And.intro (apl_lit v4 ([x_3] : List GPick) (b := 24) (by decide) h12) (And.intro (h14) (h14)))) (by kernel_rfl) ?_
              exact Sys.fin (.inl ⟨rfl, ⟨fl [(0, .c (.sc (.string p0))), (4, apl (v4 ++ ([x_3] : List GPick))), (5, dInt (v6 + 1)), (6, dInt (v6 + 1))], ⟨[], []⟩⟩, (cut_ok (l := [0, 4, 5, 6]) rfl (AllB.nil 0) rfl), ih (v4 ++ ([x_3] : List GPick)) (v6 + 1) (v6 + 1) _ h _ (by kernel_rfl)⟩)
          | false =>
            replace h := condF h
            have hr := Option.some.inj h
            subst hr
            exact Sys.endX [] (True.intro) rfl (by kernel_rfl)
    · replace h := iteF h1 h
      have hr := Option.some.inj h
      subst hr
      exact Sys.endX [((4, 3), .b false)] (h1) rfl (by kernel_rfl)

def vigilref16_Parse (n : Nat) (p0 : ByteArray) : Option (Sl GPick × Int) :=
  (vigilref16_Parse_L4 p0 n n ([] : List GPick) 0 0).bind fun o_2 => match o_2 with
  | .e0 v4_2 v5_2 v6_2 =>
    some ((Sl.gr v4_2), 0)
  | .r o0_0 o0_1 o0_2 =>
    some ((Sl.nil : Sl GPick), 2)
theorem vigilref16_Parse_ok {n : Nat} {p0 : ByteArray} {r : Sl GPick × Int} (h : vigilref16_Parse n p0 = some r) : X.RunsC 12 [.c (.sc (.string p0))] (.tup [.c (eSl r.1), dInt r.2]) := by
  unfold vigilref16_Parse at h
  refine Sys.callC' (fn := Tryz.f12) (b := b12) (by kernel_rfl) (by kernel_rfl) ?_
  obtain ⟨o_2, g5, h⟩ := bindE h
  have h5 := vigilref16_Parse_L4_ok p0 n n ([] : List GPick) 0 0 _ g5
  cases o_2 with
  | e0 v4_2 v5_2 v6_2 =>
    dsimp only at h
    have hr := Option.some.inj h
    subst hr
    exact Sys.endC [((4, 1000), .code (.exit 0) ⟨fl [(0, .c (.sc (.string p0))), (4, apl v4_2), (5, dInt v5_2), (6, dInt v6_2), (16, dB false)], ⟨[], []⟩⟩)] (Sys.Loop.goM (h5 ⟨fl [(0, .c (.sc (.string p0))), (4, apl ([] : List GPick)), (5, dInt 0), (6, dInt 0)], ⟨[], []⟩⟩ (by kernel_rfl)) (by kernel_rfl)) (by kernel_rfl)
  | r o0_0 o0_1 o0_2 =>
    dsimp only at h
    have hr := Option.some.inj h
    subst hr
    exact Sys.endC [((4, 1000), .code .ret ⟨fl [(2, .c (.sl true true [] 0)), (3, dInt 2)], ⟨[⟨1, [dInt o0_0, dInt o0_1, dInt o0_2]⟩], []⟩⟩)] (Sys.Loop.goM (h5 ⟨fl [(0, .c (.sc (.string p0))), (4, apl ([] : List GPick)), (5, dInt 0), (6, dInt 0)], ⟨[], []⟩⟩ (by kernel_rfl)) (by kernel_rfl)) (by kernel_rfl)
inductive vigilref14_Number_L9O where
  | r
  | e0 (v6 : Int) (v7 : Int)
def vigilref14_Number_L9x : vigilref14_Number_L9O → Ex
  | .r => .ret
  | .e0 _ _ => (.exit 0)
def vigilref14_Number_L9s (p0 : ByteArray) : vigilref14_Number_L9O → S
  | .r => ⟨fl [(2, dInt 0), (3, dB false)], ⟨[], []⟩⟩
  | .e0 v6 v7 => ⟨fl [(0, .c (.sc (.string p0))), (4, dB true), (5, .c (.sc (.string (p0.extract (1 : Int).toNat p0.size)))), (6, .c (.sc (.int .u64 v6))), (7, dInt v7), (31, dB false)], ⟨[], []⟩⟩
def vigilref14_Number_L9 (p0 : ByteArray) (n : Nat) : Nat → Int → Int → Option vigilref14_Number_L9O
  | 0, _, _ => none
  | k + 1, v6, v7 =>
    if v7 < ((p0.extract (1 : Int).toNat p0.size).size : Int) then
      (byteI (p0.extract (1 : Int).toNat p0.size) v7).bind fun v36 =>
      if v36 < 48 then
        some (.r)
      else (byteI (p0.extract (1 : Int).toNat p0.size) v7).bind fun v41 =>
      if v41 > 57 then
        some (.r)
      else (byteI (p0.extract (1 : Int).toNat p0.size) v7).bind fun v48 =>
      if InR (v7 + 1) then vigilref14_Number_L9 p0 n k (Go.IntKind.u64.wrap ((Go.IntKind.u64.wrap (10 * v6)) + (Go.IntKind.u64.wrap (Go.IntKind.u8.wrap (v48 - 48))))) (v7 + 1)
      else none
    else some (.e0 v6 v7)
theorem vigilref14_Number_L9_ok (p0 : ByteArray) (n : Nat) : ∀ (k : Nat) (v6 : Int) (v7 : Int) (o : vigilref14_Number_L9O), vigilref14_Number_L9 p0 n k v6 v7 = some o → ∀ s : S, restrS (X.an.rs 47 9) s = ⟨fl [(0, .c (.sc (.string p0))), (4, dB true), (5, .c (.sc (.string (p0.extract (1 : Int).toNat p0.size)))), (6, .c (.sc (.int .u64 v6))), (7, dInt v7)], ⟨[], []⟩⟩ → X.Loop 47 62 [] (sub b47 [1, 1, 1, 1, 1, 1, 0, 1, 0, 0]) 0 s (vigilref14_Number_L9x o) (vigilref14_Number_L9s p0 o) := by
  intro k
  induction k with
  | zero => intro v6 v7 o h s hs; unfold vigilref14_Number_L9 at h; cases h
  | succ k ih =>
    intro v6 v7 o h s hs
    unfold vigilref14_Number_L9 at h
    refine Sys.loopQ hs ?_
    by_cases h1 : v7 < ((p0.extract (1 : Int).toNat p0.size).size : Int)
    · replace h := iteT h1 h
      obtain ⟨v36, h3, h⟩ := bindE h
      refine Sys.to [((9, 3), .b true)] 11 (.at [1, 0, 0, 0, 0]) ⟨fl [(0, .c (.sc (.string p0))), (4, dB true), (5, .c (.sc (.string (p0.extract (1 : Int).toNat p0.size)))), (6, .c (.sc (.int .u64 v6))), (7, dInt v7), (31, dB true)], ⟨[], []⟩⟩ (h1) (by kernel_rfl) ?_
      by_cases h4 : v36 < 48
      · replace h := iteT h4 h
        have hr := Option.some.inj h
        subst hr
        exact Sys.endX [((11, 2), .op { d := .c (.sc (.int .u8 v36)) }), ((11, 3), .b true)] (And.intro (byte_ix h3) (h4)) rfl (by kernel_rfl)
      · replace h := iteF h4 h
        obtain ⟨v41, h5, h⟩ := bindE h
        by_cases h6 : v41 > 57
        · replace h := iteT h6 h
          have hr := Option.some.inj h
          subst hr
          exact Sys.endX [((11, 2), .op { d := .c (.sc (.int .u8 v36)) }), ((11, 3), .b false), ((11, 7), .op { d := .c (.sc (.int .u8 v41)) }), ((11, 8), .b true)] (And.intro (byte_ix h3) (And.intro (h4) (And.intro (byte_ix h5) (h6)))) rfl (by kernel_rfl)
        · replace h := iteF h6 h
          obtain ⟨v48, h8, h⟩ := bindE h
          by_cases h10 : InR (v7 + 1)
          case neg => exact absurd (iteF h10 h) (by simp)
          replace h := iteT h10 h
          refine Sys.to [((11, 2), .op { d := .c (.sc (.int .u8 v36)) }), ((11, 3), .b false), ((11, 7), .op { d := .c (.sc (.int .u8 v41)) }), ((11, 8), .b false), ((13, 4), .op { d := .c (.sc (.int .u8 v48)) }), ((10, 1), .n)] 999999 (.fin .normal) ⟨fl [(0, .c (.sc (.string p0))), (4, dB true), (5, .c (.sc (.string (p0.extract (1 : Int).toNat p0.size)))), (6, .c (.sc (.int .u64 (Go.IntKind.u64.wrap ((Go.IntKind.u64.wrap (10 * v6)) + (Go.IntKind.u64.wrap (Go.IntKind.u8.wrap (v48 - 48)))))))), (7, dInt (v7 + 1))], ⟨[], []⟩⟩ (And.intro (byte_ix h3) (And.intro (h4) (And.intro (byte_ix h5) (And.intro (h6) (And.intro (byte_ix h8) (h10)))))) (by kernel_rfl) ?_
          exact Sys.fin (.inl ⟨rfl, ⟨fl [(0, .c (.sc (.string p0))), (4, dB true), (5, .c (.sc (.string (p0.extract (1 : Int).toNat p0.size)))), (6, .c (.sc (.int .u64 (Go.IntKind.u64.wrap ((Go.IntKind.u64.wrap (10 * v6)) + (Go.IntKind.u64.wrap (Go.IntKind.u8.wrap (v48 - 48)))))))), (7, dInt (v7 + 1))], ⟨[], []⟩⟩, (by kernel_rfl), ih (Go.IntKind.u64.wrap ((Go.IntKind.u64.wrap (10 * v6)) + (Go.IntKind.u64.wrap (Go.IntKind.u8.wrap (v48 - 48))))) (v7 + 1) _ h _ (by kernel_rfl)⟩)
    · replace h := iteF h1 h
      have hr := Option.some.inj h
      subst hr
      exact Sys.endX [((9, 3), .b false)] (h1) rfl (by kernel_rfl)

inductive vigilref14_Number_L9_2O where
  | r
  | e0 (v6 : Int) (v7 : Int)
def vigilref14_Number_L9_2x : vigilref14_Number_L9_2O → Ex
  | .r => .ret
  | .e0 _ _ => (.exit 0)
def vigilref14_Number_L9_2s (p0 : ByteArray) : vigilref14_Number_L9_2O → S
  | .r => ⟨fl [(2, dInt 0), (3, dB false)], ⟨[], []⟩⟩
  | .e0 v6 v7 => ⟨fl [(0, .c (.sc (.string p0))), (4, dB false), (5, .c (.sc (.string p0))), (6, .c (.sc (.int .u64 v6))), (7, dInt v7), (31, dB false)], ⟨[], []⟩⟩
def vigilref14_Number_L9_2 (p0 : ByteArray) (n : Nat) : Nat → Int → Int → Option vigilref14_Number_L9_2O
  | 0, _, _ => none
  | k + 1, v6_9, v7_9 =>
    if v7_9 < (p0.size : Int) then
      (byteI p0 v7_9).bind fun v36_2 =>
      if v36_2 < 48 then
        some (.r)
      else (byteI p0 v7_9).bind fun v41_2 =>
      if v41_2 > 57 then
        some (.r)
      else (byteI p0 v7_9).bind fun v48_2 =>
      if InR (v7_9 + 1) then vigilref14_Number_L9_2 p0 n k (Go.IntKind.u64.wrap ((Go.IntKind.u64.wrap (10 * v6_9)) + (Go.IntKind.u64.wrap (Go.IntKind.u8.wrap (v48_2 - 48))))) (v7_9 + 1)
      else none
    else some (.e0 v6_9 v7_9)
theorem vigilref14_Number_L9_2_ok (p0 : ByteArray) (n : Nat) : ∀ (k : Nat) (v6_9 : Int) (v7_9 : Int) (o : vigilref14_Number_L9_2O), vigilref14_Number_L9_2 p0 n k v6_9 v7_9 = some o → ∀ s : S, restrS (X.an.rs 47 9) s = ⟨fl [(0, .c (.sc (.string p0))), (4, dB false), (5, .c (.sc (.string p0))), (6, .c (.sc (.int .u64 v6_9))), (7, dInt v7_9)], ⟨[], []⟩⟩ → X.Loop 47 62 [] (sub b47 [1, 1, 1, 1, 1, 1, 0, 1, 0, 0]) 0 s (vigilref14_Number_L9_2x o) (vigilref14_Number_L9_2s p0 o) := by
  intro k
  induction k with
  | zero => intro v6_9 v7_9 o h s hs; unfold vigilref14_Number_L9_2 at h; cases h
  | succ k ih =>
    intro v6_9 v7_9 o h s hs
    unfold vigilref14_Number_L9_2 at h
    refine Sys.loopQ hs ?_
    by_cases h1 : v7_9 < (p0.size : Int)
    · replace h := iteT h1 h
      obtain ⟨v36_2, h3, h⟩ := bindE h
      refine Sys.to [((9, 3), .b true)] 11 (.at [1, 0, 0, 0, 0]) ⟨fl [(0, .c (.sc (.string p0))), (4, dB false), (5, .c (.sc (.string p0))), (6, .c (.sc (.int .u64 v6_9))), (7, dInt v7_9), (31, dB true)], ⟨[], []⟩⟩ (h1) (by kernel_rfl) ?_
      by_cases h4 : v36_2 < 48
      · replace h := iteT h4 h
        have hr := Option.some.inj h
        subst hr
        exact Sys.endX [((11, 2), .op { d := .c (.sc (.int .u8 v36_2)) }), ((11, 3), .b true)] (And.intro (byte_ix h3) (h4)) rfl (by kernel_rfl)
      · replace h := iteF h4 h
        obtain ⟨v41_2, h5, h⟩ := bindE h
        by_cases h6 : v41_2 > 57
        · replace h := iteT h6 h
          have hr := Option.some.inj h
          subst hr
          exact Sys.endX [((11, 2), .op { d := .c (.sc (.int .u8 v36_2)) }), ((11, 3), .b false), ((11, 7), .op { d := .c (.sc (.int .u8 v41_2)) }), ((11, 8), .b true)] (And.intro (byte_ix h3) (And.intro (h4) (And.intro (byte_ix h5) (h6)))) rfl (by kernel_rfl)
        · replace h := iteF h6 h
          obtain ⟨v48_2, h8, h⟩ := bindE h
          by_cases h10 : InR (v7_9 + 1)
          case neg => exact absurd (iteF h10 h) (by simp)
          replace h := iteT h10 h
          refine Sys.to [((11, 2), .op { d := .c (.sc (.int .u8 v36_2)) }), ((11, 3), .b false), ((11, 7), .op { d := .c (.sc (.int .u8 v41_2)) }), ((11, 8), .b false), ((13, 4), .op { d := .c (.sc (.int .u8 v48_2)) }), ((10, 1), .n)] 999999 (.fin .normal) ⟨fl [(0, .c (.sc (.string p0))), (4, dB false), (5, .c (.sc (.string p0))), (6, .c (.sc (.int .u64 (Go.IntKind.u64.wrap ((Go.IntKind.u64.wrap (10 * v6_9)) + (Go.IntKind.u64.wrap (Go.IntKind.u8.wrap (v48_2 - 48)))))))), (7, dInt (v7_9 + 1))], ⟨[], []⟩⟩ (And.intro (byte_ix h3) (And.intro (h4) (And.intro (byte_ix h5) (And.intro (h6) (And.intro (byte_ix h8) (h10)))))) (by kernel_rfl) ?_
          exact Sys.fin (.inl ⟨rfl, ⟨fl [(0, .c (.sc (.string p0))), (4, dB false), (5, .c (.sc (.string p0))), (6, .c (.sc (.int .u64 (Go.IntKind.u64.wrap ((Go.IntKind.u64.wrap (10 * v6_9)) + (Go.IntKind.u64.wrap (Go.IntKind.u8.wrap (v48_2 - 48)))))))), (7, dInt (v7_9 + 1))], ⟨[], []⟩⟩, (by kernel_rfl), ih (Go.IntKind.u64.wrap ((Go.IntKind.u64.wrap (10 * v6_9)) + (Go.IntKind.u64.wrap (Go.IntKind.u8.wrap (v48_2 - 48))))) (v7_9 + 1) _ h _ (by kernel_rfl)⟩)
    · replace h := iteF h1 h
      have hr := Option.some.inj h
      subst hr
      exact Sys.endX [((9, 3), .b false)] (h1) rfl (by kernel_rfl)

inductive vigilref14_Number_L9_3O where
  | r
  | e0 (v6 : Int) (v7 : Int)
def vigilref14_Number_L9_3x : vigilref14_Number_L9_3O → Ex
  | .r => .ret
  | .e0 _ _ => (.exit 0)
def vigilref14_Number_L9_3s (p0 : ByteArray) : vigilref14_Number_L9_3O → S
  | .r => ⟨fl [(2, dInt 0), (3, dB false)], ⟨[], []⟩⟩
  | .e0 v6 v7 => ⟨fl [(0, .c (.sc (.string p0))), (4, dB false), (5, .c (.sc (.string p0))), (6, .c (.sc (.int .u64 v6))), (7, dInt v7), (31, dB false)], ⟨[], []⟩⟩
def vigilref14_Number_L9_3 (p0 : ByteArray) (n : Nat) : Nat → Int → Int → Option vigilref14_Number_L9_3O
  | 0, _, _ => none
  | k + 1, v6_9_2, v7_9_2 =>
    if v7_9_2 < (p0.size : Int) then
      (byteI p0 v7_9_2).bind fun v36_3 =>
      if v36_3 < 48 then
        some (.r)
      else (byteI p0 v7_9_2).bind fun v41_3 =>
      if v41_3 > 57 then
        some (.r)
      else (byteI p0 v7_9_2).bind fun v48_3 =>
      if InR (v7_9_2 + 1) then vigilref14_Number_L9_3 p0 n k (Go.IntKind.u64.wrap ((Go.IntKind.u64.wrap (10 * v6_9_2)) + (Go.IntKind.u64.wrap (Go.IntKind.u8.wrap (v48_3 - 48))))) (v7_9_2 + 1)
      else none
    else some (.e0 v6_9_2 v7_9_2)
theorem vigilref14_Number_L9_3_ok (p0 : ByteArray) (n : Nat) : ∀ (k : Nat) (v6_9_2 : Int) (v7_9_2 : Int) (o : vigilref14_Number_L9_3O), vigilref14_Number_L9_3 p0 n k v6_9_2 v7_9_2 = some o → ∀ s : S, restrS (X.an.rs 47 9) s = ⟨fl [(0, .c (.sc (.string p0))), (4, dB false), (5, .c (.sc (.string p0))), (6, .c (.sc (.int .u64 v6_9_2))), (7, dInt v7_9_2)], ⟨[], []⟩⟩ → X.Loop 47 62 [] (sub b47 [1, 1, 1, 1, 1, 1, 0, 1, 0, 0]) 0 s (vigilref14_Number_L9_3x o) (vigilref14_Number_L9_3s p0 o) := by
  intro k
  induction k with
  | zero => intro v6_9_2 v7_9_2 o h s hs; unfold vigilref14_Number_L9_3 at h; cases h
  | succ k ih =>
    intro v6_9_2 v7_9_2 o h s hs
    unfold vigilref14_Number_L9_3 at h
    refine Sys.loopQ hs ?_
    by_cases h1 : v7_9_2 < (p0.size : Int)
    · replace h := iteT h1 h
      obtain ⟨v36_3, h3, h⟩ := bindE h
      refine Sys.to [((9, 3), .b true)] 11 (.at [1, 0, 0, 0, 0]) ⟨fl [(0, .c (.sc (.string p0))), (4, dB false), (5, .c (.sc (.string p0))), (6, .c (.sc (.int .u64 v6_9_2))), (7, dInt v7_9_2), (31, dB true)], ⟨[], []⟩⟩ (h1) (by kernel_rfl) ?_
      by_cases h4 : v36_3 < 48
      · replace h := iteT h4 h
        have hr := Option.some.inj h
        subst hr
        exact Sys.endX [((11, 2), .op { d := .c (.sc (.int .u8 v36_3)) }), ((11, 3), .b true)] (And.intro (byte_ix h3) (h4)) rfl (by kernel_rfl)
      · replace h := iteF h4 h
        obtain ⟨v41_3, h5, h⟩ := bindE h
        by_cases h6 : v41_3 > 57
        · replace h := iteT h6 h
          have hr := Option.some.inj h
          subst hr
          exact Sys.endX [((11, 2), .op { d := .c (.sc (.int .u8 v36_3)) }), ((11, 3), .b false), ((11, 7), .op { d := .c (.sc (.int .u8 v41_3)) }), ((11, 8), .b true)] (And.intro (byte_ix h3) (And.intro (h4) (And.intro (byte_ix h5) (h6)))) rfl (by kernel_rfl)
        · replace h := iteF h6 h
          obtain ⟨v48_3, h8, h⟩ := bindE h
          by_cases h10 : InR (v7_9_2 + 1)
          case neg => exact absurd (iteF h10 h) (by simp)
          replace h := iteT h10 h
          refine Sys.to [((11, 2), .op { d := .c (.sc (.int .u8 v36_3)) }), ((11, 3), .b false), ((11, 7), .op { d := .c (.sc (.int .u8 v41_3)) }), ((11, 8), .b false), ((13, 4), .op { d := .c (.sc (.int .u8 v48_3)) }), ((10, 1), .n)] 999999 (.fin .normal) ⟨fl [(0, .c (.sc (.string p0))), (4, dB false), (5, .c (.sc (.string p0))), (6, .c (.sc (.int .u64 (Go.IntKind.u64.wrap ((Go.IntKind.u64.wrap (10 * v6_9_2)) + (Go.IntKind.u64.wrap (Go.IntKind.u8.wrap (v48_3 - 48)))))))), (7, dInt (v7_9_2 + 1))], ⟨[], []⟩⟩ (And.intro (byte_ix h3) (And.intro (h4) (And.intro (byte_ix h5) (And.intro (h6) (And.intro (byte_ix h8) (h10)))))) (by kernel_rfl) ?_
          exact Sys.fin (.inl ⟨rfl, ⟨fl [(0, .c (.sc (.string p0))), (4, dB false), (5, .c (.sc (.string p0))), (6, .c (.sc (.int .u64 (Go.IntKind.u64.wrap ((Go.IntKind.u64.wrap (10 * v6_9_2)) + (Go.IntKind.u64.wrap (Go.IntKind.u8.wrap (v48_3 - 48)))))))), (7, dInt (v7_9_2 + 1))], ⟨[], []⟩⟩, (by kernel_rfl), ih (Go.IntKind.u64.wrap ((Go.IntKind.u64.wrap (10 * v6_9_2)) + (Go.IntKind.u64.wrap (Go.IntKind.u8.wrap (v48_3 - 48))))) (v7_9_2 + 1) _ h _ (by kernel_rfl)⟩)
    · replace h := iteF h1 h
      have hr := Option.some.inj h
      subst hr
      exact Sys.endX [((9, 3), .b false)] (h1) rfl (by kernel_rfl)

def vigilref14_Number (n : Nat) (p0 : ByteArray) : Option (Int × Bool) :=
  if (p0.size : Int) > 0 then
    (byteI p0 0).bind fun v14 =>
    if v14 = 45 then
      if 0 ≤ (1 : Int) ∧ (1 : Int) ≤ (p0.size : Int) then if (p0.extract (1 : Int).toNat p0.size) = (⟨#[]⟩ : ByteArray) then
        some (0, false)
      else if ((p0.extract (1 : Int).toNat p0.size).size : Int) > 19 then
        some (0, false)
      else (vigilref14_Number_L9 p0 n n 0 0).bind fun o_2 => match o_2 with
      | .r =>
        some (0, false)
      | .e0 v6_2 v7_2 =>
        (vigilref03_Digits n (Go.IntKind.i64.wrap (0 - (Go.IntKind.i64.wrap v6_2)))).bind fun x =>
        if x = p0 then
          some ((Go.IntKind.i64.wrap (0 - (Go.IntKind.i64.wrap v6_2))), true)
        else some ((Go.IntKind.i64.wrap (0 - (Go.IntKind.i64.wrap v6_2))), false)
      else none
    else if p0 = (⟨#[]⟩ : ByteArray) then
      some (0, false)
    else if (p0.size : Int) > 19 then
      some (0, false)
    else (vigilref14_Number_L9_2 p0 n n 0 0).bind fun o_3 => match o_3 with
    | .r =>
      some (0, false)
    | .e0 v6_3 v7_3 =>
      (vigilref03_Digits n (Go.IntKind.i64.wrap v6_3)).bind fun x_2 =>
      if x_2 = p0 then
        some ((Go.IntKind.i64.wrap v6_3), true)
      else some ((Go.IntKind.i64.wrap v6_3), false)
  else if p0 = (⟨#[]⟩ : ByteArray) then
    some (0, false)
  else if (p0.size : Int) > 19 then
    some (0, false)
  else (vigilref14_Number_L9_3 p0 n n 0 0).bind fun o_4 => match o_4 with
  | .r =>
    some (0, false)
  | .e0 v6_4 v7_4 =>
    (vigilref03_Digits n (Go.IntKind.i64.wrap v6_4)).bind fun x_3 =>
    if x_3 = p0 then
      some ((Go.IntKind.i64.wrap v6_4), true)
    else some ((Go.IntKind.i64.wrap v6_4), false)
theorem vigilref14_Number_ok {n : Nat} {p0 : ByteArray} {r : Int × Bool} (h : vigilref14_Number n p0 = some r) : X.RunsC 47 [.c (.sc (.string p0))] (.tup [dInt r.1, dB r.2]) := by
  unfold vigilref14_Number at h
  refine Sys.callC' (fn := Tryz.f47) (b := b47) (by kernel_rfl) (by kernel_rfl) ?_
  by_cases h2 : (p0.size : Int) > 0
  · replace h := iteT h2 h
    obtain ⟨v14, h3, h⟩ := bindE h
    by_cases h4 : v14 = 45
    · replace h := iteT h4 h
      by_cases h9 : 0 ≤ (1 : Int) ∧ (1 : Int) ≤ (p0.size : Int)
      case neg => exact absurd (iteF h9 h) (by simp)
      replace h := iteT h9 h
      refine Sys.to [((1, 2), .b true), ((1, 5), .op { d := .c (.sc (.int .u8 v14)) }), ((1, 6), .b true), ((4, 1), .op { d := .c (.sc (.string (p0.extract (1 : Int).toNat p0.size))) })] 5 (.at [1, 1, 1, 1, 0, 0]) ⟨fl [(0, .c (.sc (.string p0))), (4, dB true), (5, .c (.sc (.string (p0.extract (1 : Int).toNat p0.size))))], ⟨[], []⟩⟩ (And.intro (h2) (And.intro (byte_ix h3) (And.intro (h4) (str_slc_lo (P0 := X.P) (t0 := 9) (st0 := []) (by kernel_rfl) h9)))) (by kernel_rfl) ?_
      by_cases h11 : (p0.extract (1 : Int).toNat p0.size) = (⟨#[]⟩ : ByteArray)
      · replace h := iteT h11 h
        have hr := Option.some.inj h
        subst hr
        exact Sys.endC [((5, 1), .op { d := dB true })] (str_eql_true h11) (by kernel_rfl)
      · replace h := iteF h11 h
        by_cases h12 : ((p0.extract (1 : Int).toNat p0.size).size : Int) > 19
        · replace h := iteT h12 h
          have hr := Option.some.inj h
          subst hr
          exact Sys.endC [((5, 1), .op { d := dB false }), ((5, 5), .b true)] (And.intro (str_eql_false h11) (h12)) (by kernel_rfl)
        · replace h := iteF h12 h
          refine Sys.to [((5, 1), .op { d := dB false }), ((5, 5), .b false)] 100009 (.at [1, 1, 1, 1, 1, 1, 0, 1, 0]) ⟨fl [(0, .c (.sc (.string p0))), (4, dB true), (5, .c (.sc (.string (p0.extract (1 : Int).toNat p0.size)))), (6, .c (.sc (.int .u64 0))), (7, dInt 0)], ⟨[], []⟩⟩ (And.intro (str_eql_false h11) (h12)) (by kernel_rfl) ?_
          obtain ⟨o_2, g16, h⟩ := bindE h
          have h16 := vigilref14_Number_L9_ok p0 n n 0 0 _ g16
          cases o_2 with
          | r =>
            dsimp only at h
            have hr := Option.some.inj h
            subst hr
            exact Sys.endC [((9, 1000), .code .ret ⟨fl [(2, dInt 0), (3, dB false)], ⟨[], []⟩⟩)] (Sys.Loop.goM (h16 ⟨fl [(0, .c (.sc (.string p0))), (4, dB true), (5, .c (.sc (.string (p0.extract (1 : Int).toNat p0.size)))), (6, .c (.sc (.int .u64 0))), (7, dInt 0)], ⟨[], []⟩⟩ (by kernel_rfl)) (by kernel_rfl)) (by kernel_rfl)
          | e0 v6_2 v7_2 =>
            dsimp only at h
            obtain ⟨x, g21, h⟩ := bindE h
            have h21 := vigilref03_Digits_ok g21
            refine Sys.to [((9, 1000), .code (.exit 0) ⟨fl [(0, .c (.sc (.string p0))), (4, dB true), (5, .c (.sc (.string (p0.extract (1 : Int).toNat p0.size)))), (6, .c (.sc (.int .u64 v6_2))), (7, dInt v7_2), (31, dB false)], ⟨[], []⟩⟩)] 17 (.at [1, 1, 1, 1, 1, 1, 1, 1, 1, 0]) ⟨fl [(0, .c (.sc (.string p0))), (8, dInt (Go.IntKind.i64.wrap (0 - (Go.IntKind.i64.wrap v6_2))))], ⟨[], []⟩⟩ (Sys.Loop.goM (h16 ⟨fl [(0, .c (.sc (.string p0))), (4, dB true), (5, .c (.sc (.string (p0.extract (1 : Int).toNat p0.size)))), (6, .c (.sc (.int .u64 0))), (7, dInt 0)], ⟨[], []⟩⟩ (by kernel_rfl)) (by kernel_rfl)) (by kernel_rfl) ?_
            by_cases h22 : x = p0
            · replace h := iteT h22 h
              have hr := Option.some.inj h
              subst hr
              exact Sys.endC [((17, 2), .call (.c (.sc (.string x))) ⟨[], []⟩), ((17, 4), .op { d := dB true })] (And.intro (h21) (str_eql_true h22)) (by kernel_rfl)
            · replace h := iteF h22 h
              have hr := Option.some.inj h
              subst hr
              exact Sys.endC [((17, 2), .call (.c (.sc (.string x))) ⟨[], []⟩), ((17, 4), .op { d := dB false })] (And.intro (h21) (str_eql_false h22)) (by kernel_rfl)
    · replace h := iteF h4 h
      refine Sys.to [((1, 2), .b true), ((1, 5), .op { d := .c (.sc (.int .u8 v14)) }), ((1, 6), .b false)] 5 (.at [1, 1, 1, 1, 0, 0]) ⟨fl [(0, .c (.sc (.string p0))), (4, dB false), (5, .c (.sc (.string p0))), (18, dB false)], ⟨[], []⟩⟩ (And.intro (h2) (And.intro (byte_ix h3) (h4))) (by kernel_rfl) ?_
      by_cases h9 : p0 = (⟨#[]⟩ : ByteArray)
      · replace h := iteT h9 h
        have hr := Option.some.inj h
        subst hr
        exact Sys.endC [((5, 1), .op { d := dB true })] (str_eql_true h9) (by kernel_rfl)
      · replace h := iteF h9 h
        by_cases h10 : (p0.size : Int) > 19
        · replace h := iteT h10 h
          have hr := Option.some.inj h
          subst hr
          exact Sys.endC [((5, 1), .op { d := dB false }), ((5, 5), .b true)] (And.intro (str_eql_false h9) (h10)) (by kernel_rfl)
        · replace h := iteF h10 h
          refine Sys.to [((5, 1), .op { d := dB false }), ((5, 5), .b false)] 100009 (.at [1, 1, 1, 1, 1, 1, 0, 1, 0]) ⟨fl [(0, .c (.sc (.string p0))), (4, dB false), (5, .c (.sc (.string p0))), (6, .c (.sc (.int .u64 0))), (7, dInt 0)], ⟨[], []⟩⟩ (And.intro (str_eql_false h9) (h10)) (by kernel_rfl) ?_
          obtain ⟨o_3, g14, h⟩ := bindE h
          have h14 := vigilref14_Number_L9_2_ok p0 n n 0 0 _ g14
          cases o_3 with
          | r =>
            dsimp only at h
            have hr := Option.some.inj h
            subst hr
            exact Sys.endC [((9, 1000), .code .ret ⟨fl [(2, dInt 0), (3, dB false)], ⟨[], []⟩⟩)] (Sys.Loop.goM (h14 ⟨fl [(0, .c (.sc (.string p0))), (4, dB false), (5, .c (.sc (.string p0))), (6, .c (.sc (.int .u64 0))), (7, dInt 0)], ⟨[], []⟩⟩ (by kernel_rfl)) (by kernel_rfl)) (by kernel_rfl)
          | e0 v6_3 v7_3 =>
            dsimp only at h
            obtain ⟨x_2, g18, h⟩ := bindE h
            have h18 := vigilref03_Digits_ok g18
            refine Sys.to [((9, 1000), .code (.exit 0) ⟨fl [(0, .c (.sc (.string p0))), (4, dB false), (5, .c (.sc (.string p0))), (6, .c (.sc (.int .u64 v6_3))), (7, dInt v7_3), (31, dB false)], ⟨[], []⟩⟩)] 17 (.at [1, 1, 1, 1, 1, 1, 1, 1, 1, 0]) ⟨fl [(0, .c (.sc (.string p0))), (8, dInt (Go.IntKind.i64.wrap v6_3)), (54, dB false)], ⟨[], []⟩⟩ (Sys.Loop.goM (h14 ⟨fl [(0, .c (.sc (.string p0))), (4, dB false), (5, .c (.sc (.string p0))), (6, .c (.sc (.int .u64 0))), (7, dInt 0)], ⟨[], []⟩⟩ (by kernel_rfl)) (by kernel_rfl)) (by kernel_rfl) ?_
            by_cases h19 : x_2 = p0
            · replace h := iteT h19 h
              have hr := Option.some.inj h
              subst hr
              exact Sys.endC [((17, 2), .call (.c (.sc (.string x_2))) ⟨[], []⟩), ((17, 4), .op { d := dB true })] (And.intro (h18) (str_eql_true h19)) (by kernel_rfl)
            · replace h := iteF h19 h
              have hr := Option.some.inj h
              subst hr
              exact Sys.endC [((17, 2), .call (.c (.sc (.string x_2))) ⟨[], []⟩), ((17, 4), .op { d := dB false })] (And.intro (h18) (str_eql_false h19)) (by kernel_rfl)
  · replace h := iteF h2 h
    refine Sys.to [((1, 2), .b false)] 5 (.at [1, 1, 1, 1, 0, 0]) ⟨fl [(0, .c (.sc (.string p0))), (4, dB false), (5, .c (.sc (.string p0))), (18, dB false)], ⟨[], []⟩⟩ (h2) (by kernel_rfl) ?_
    by_cases h7 : p0 = (⟨#[]⟩ : ByteArray)
    · replace h := iteT h7 h
      have hr := Option.some.inj h
      subst hr
      exact Sys.endC [((5, 1), .op { d := dB true })] (str_eql_true h7) (by kernel_rfl)
    · replace h := iteF h7 h
      by_cases h8 : (p0.size : Int) > 19
      · replace h := iteT h8 h
        have hr := Option.some.inj h
        subst hr
        exact Sys.endC [((5, 1), .op { d := dB false }), ((5, 5), .b true)] (And.intro (str_eql_false h7) (h8)) (by kernel_rfl)
      · replace h := iteF h8 h
        refine Sys.to [((5, 1), .op { d := dB false }), ((5, 5), .b false)] 100009 (.at [1, 1, 1, 1, 1, 1, 0, 1, 0]) ⟨fl [(0, .c (.sc (.string p0))), (4, dB false), (5, .c (.sc (.string p0))), (6, .c (.sc (.int .u64 0))), (7, dInt 0)], ⟨[], []⟩⟩ (And.intro (str_eql_false h7) (h8)) (by kernel_rfl) ?_
        obtain ⟨o_4, g12, h⟩ := bindE h
        have h12 := vigilref14_Number_L9_3_ok p0 n n 0 0 _ g12
        cases o_4 with
        | r =>
          dsimp only at h
          have hr := Option.some.inj h
          subst hr
          exact Sys.endC [((9, 1000), .code .ret ⟨fl [(2, dInt 0), (3, dB false)], ⟨[], []⟩⟩)] (Sys.Loop.goM (h12 ⟨fl [(0, .c (.sc (.string p0))), (4, dB false), (5, .c (.sc (.string p0))), (6, .c (.sc (.int .u64 0))), (7, dInt 0)], ⟨[], []⟩⟩ (by kernel_rfl)) (by kernel_rfl)) (by kernel_rfl)
        | e0 v6_4 v7_4 =>
          dsimp only at h
          obtain ⟨x_3, g16, h⟩ := bindE h
          have h16 := vigilref03_Digits_ok g16
          refine Sys.to [((9, 1000), .code (.exit 0) ⟨fl [(0, .c (.sc (.string p0))), (4, dB false), (5, .c (.sc (.string p0))), (6, .c (.sc (.int .u64 v6_4))), (7, dInt v7_4), (31, dB false)], ⟨[], []⟩⟩)] 17 (.at [1, 1, 1, 1, 1, 1, 1, 1, 1, 0]) ⟨fl [(0, .c (.sc (.string p0))), (8, dInt (Go.IntKind.i64.wrap v6_4)), (54, dB false)], ⟨[], []⟩⟩ (Sys.Loop.goM (h12 ⟨fl [(0, .c (.sc (.string p0))), (4, dB false), (5, .c (.sc (.string p0))), (6, .c (.sc (.int .u64 0))), (7, dInt 0)], ⟨[], []⟩⟩ (by kernel_rfl)) (by kernel_rfl)) (by kernel_rfl) ?_
          by_cases h17 : x_3 = p0
          · replace h := iteT h17 h
            have hr := Option.some.inj h
            subst hr
            exact Sys.endC [((17, 2), .call (.c (.sc (.string x_3))) ⟨[], []⟩), ((17, 4), .op { d := dB true })] (And.intro (h16) (str_eql_true h17)) (by kernel_rfl)
          · replace h := iteF h17 h
            have hr := Option.some.inj h
            subst hr
            exact Sys.endC [((17, 2), .call (.c (.sc (.string x_3))) ⟨[], []⟩), ((17, 4), .op { d := dB false })] (And.intro (h16) (str_eql_false h17)) (by kernel_rfl)
end Go.Proofs.YtilipgopjiokfaaGreatDoor

/-
  Functions of the program as Lean functions, and that the interpreter comes to the same: printed by the session's own tool.
-/
set_option linter.unusedVariables false
set_option linter.unusedSimpArgs false
set_option maxRecDepth 100000
set_option maxHeartbeats 1000000
namespace Go.Proofs.YtilipgopjiokfaaGreatDoor
open Go Go.Abs Go.Proofs
inductive vigilref18_Parse_J7O where
  | r
  | m
def vigilref18_Parse_J7x : vigilref18_Parse_J7O → Ex
  | .r => .ret
  | .m => .normal
def vigilref18_Parse_J7s (p0 : ByteArray) (x_2 : Sl GPick) (x_3 : Int) (x_4 : Sl GPick) (x_5 : Int) (x_6 : Int) (x_7 : Bool) : vigilref18_Parse_J7O → S
  | .r => ⟨fl [(2, .pt 0 1 0), (3, dInt 2)], ⟨[⟨1, [.c (.sl true true [] 0), .c (.sl true true [] 0), dInt 0]⟩], []⟩⟩
  | .m => ⟨fl [(0, .c (.sc (.string p0))), (2, .pt 0 1 0), (5, .c (eSl x_2)), (7, .c (eSl x_4)), (9, dInt x_6), (79, dB false)], ⟨[⟨1, [.c (.sl true true [] 0), .c (.sl true true [] 0), dInt 0]⟩], []⟩⟩
def vigilref18_Parse_J7 (p0 : ByteArray) (x_2 : Sl GPick) (x_3 : Int) (x_4 : Sl GPick) (x_5 : Int) (x_6 : Int) (x_7 : Bool) (n : Nat) : Option vigilref18_Parse_J7O :=
  if x_3 ≠ 0 then
    some (.r)
  else if x_5 ≠ 0 then
    some (.r)
  else bif x_7 then
    if x_6 < 0 then
      some (.r)
    else if x_6 > 999999 then
      some (.r)
    else some (.m)
  else some (.r)
theorem vigilref18_Parse_J7_ok (p0 : ByteArray) (x_2 : Sl GPick) (x_3 : Int) (x_4 : Sl GPick) (x_5 : Int) (x_6 : Int) (x_7 : Bool) (n : Nat) (o : vigilref18_Parse_J7O) (h : vigilref18_Parse_J7 p0 x_2 x_3 x_4 x_5 x_6 x_7 n = some o) : X.Go 19 99 [] (sub b19 [1, 1, 1, 1, 1, 1, 0]) ⟨fl [(0, .c (.sc (.string p0))), (2, .pt 0 1 0), (5, .c (eSl x_2)), (6, dInt x_3), (7, .c (eSl x_4)), (8, dInt x_5), (9, dInt x_6), (10, dB x_7)], ⟨[⟨1, [.c (.sl true true [] 0), .c (.sl true true [] 0), dInt 0]⟩], []⟩⟩ (vigilref18_Parse_J7x o) (vigilref18_Parse_J7s p0 x_2 x_3 x_4 x_5 x_6 x_7 o) := by
  unfold vigilref18_Parse_J7 at h
  refine Sys.goE ?_
  by_cases h1 : x_3 ≠ 0
  · replace h := iteT h1 h
    have hr := Option.some.inj h
    subst hr
    exact Sys.endJ [((7, 1), .b true)] (h1) (by kernel_rfl)
  · replace h := iteF h1 h
    by_cases h2 : x_5 ≠ 0
    · replace h := iteT h2 h
      have hr := Option.some.inj h
      subst hr
      exact Sys.endJ [((7, 1), .b false), ((7, 4), .b true)] (And.intro (h1) (h2)) (by kernel_rfl)
    · replace h := iteF h2 h
      cases x_7 with
      | true =>
        replace h := condT h
        by_cases h4 : x_6 < 0
        · replace h := iteT h4 h
          have hr := Option.some.inj h
          subst hr
          exact Sys.endJ [((7, 1), .b false), ((7, 4), .b false), ((7, 12), .b true)] (And.intro (h1) (And.intro (h2) (h4))) (by kernel_rfl)
        · replace h := iteF h4 h
          by_cases h5 : x_6 > 999999
          · replace h := iteT h5 h
            have hr := Option.some.inj h
            subst hr
            exact Sys.endJ [((7, 1), .b false), ((7, 4), .b false), ((7, 12), .b false), ((7, 16), .b true)] (And.intro (h1) (And.intro (h2) (And.intro (h4) (h5)))) (by kernel_rfl)
          · replace h := iteF h5 h
            have hr := Option.some.inj h
            subst hr
            exact Sys.endJ [((7, 1), .b false), ((7, 4), .b false), ((7, 12), .b false), ((7, 16), .b false)] (And.intro (h1) (And.intro (h2) (And.intro (h4) (h5)))) (by kernel_rfl)
      | false =>
        replace h := condF h
        have hr := Option.some.inj h
        subst hr
        exact Sys.endJ [((7, 1), .b false), ((7, 4), .b false)] (And.intro (h1) (h2)) (by kernel_rfl)

def vigilref18_Parse (n : Nat) (p0 : ByteArray) : Option (GLasso × Int) :=
  (vigilref18_bars n p0).bind fun x =>
  if (x.length : Int) ≠ 2 then
    some (({ stem := (Sl.nil : Sl GPick), loop := (Sl.nil : Sl GPick), thread := 0 } : GLasso), 2)
  else (atI x 1).bind fun v21 =>
  (atI x 0).bind fun v24 =>
  if InR (v24 + 3) then if v21 < (v24 + 3) then
    some (({ stem := (Sl.nil : Sl GPick), loop := (Sl.nil : Sl GPick), thread := 0 } : GLasso), 2)
  else if 0 ≤ v24 ∧ v24 ≤ (p0.size : Int) then (vigilref16_Parse n (p0.extract 0 v24.toNat)).bind fun (x_2, x_3) =>
  if 0 ≤ (v24 + 3) ∧ (v24 + 3) ≤ v21 ∧ v21 ≤ (p0.size : Int) then (vigilref16_Parse n (p0.extract (v24 + 3).toNat v21.toNat)).bind fun (x_4, x_5) =>
  if InR (v21 + 3) then if 0 ≤ (v21 + 3) ∧ (v21 + 3) ≤ (p0.size : Int) then (vigilref14_Number n (p0.extract (v21 + 3).toNat p0.size)).bind fun (x_6, x_7) =>
  (vigilref18_Parse_J7 p0 x_2 x_3 x_4 x_5 x_6 x_7 n).bind fun o_2 => match o_2 with
  | .r =>
    some (({ stem := (Sl.nil : Sl GPick), loop := (Sl.nil : Sl GPick), thread := 0 } : GLasso), 2)
  | .m =>
    (vigilref18_Put n ({ stem := x_2, loop := x_4, thread := x_6 } : GLasso)).bind fun (x_8, x_9) =>
    if x_9 ≠ 0 then
      some (({ stem := (Sl.nil : Sl GPick), loop := (Sl.nil : Sl GPick), thread := 0 } : GLasso), 2)
    else if x_8 = p0 then
      some (({ stem := x_2, loop := x_4, thread := x_6 } : GLasso), 0)
    else some (({ stem := (Sl.nil : Sl GPick), loop := (Sl.nil : Sl GPick), thread := 0 } : GLasso), 2)
  else none
  else none
  else none
  else none
  else none
theorem vigilref18_Parse_ok {n : Nat} {p0 : ByteArray} {r : GLasso × Int} (h : vigilref18_Parse n p0 = some r) : X.RunsC 19 [.c (.sc (.string p0))] (.tup [.c (.agg (EncX.encX r.1)), dInt r.2]) := by
  unfold vigilref18_Parse at h
  refine Sys.callC' (fn := Tryz.f19) (b := b19) (by kernel_rfl) (by kernel_rfl) ?_
  obtain ⟨x, g2, h⟩ := bindE h
  have h2 := vigilref18_bars_ok g2
  refine Sys.to [((1, 1), .call (apl x) ⟨[], []⟩)] 2 (.at [1, 1, 0, 0]) ⟨fl [(0, .c (.sc (.string p0))), (2, .pt 0 1 0), (4, apl x)], ⟨[⟨1, [.c (.sl true true [] 0), .c (.sl true true [] 0), dInt 0]⟩], []⟩⟩ (h2) (by kernel_rfl) ?_
  by_cases h4 : (x.length : Int) ≠ 2
  · replace h := iteT h4 h
    have hr := Option.some.inj h
    subst hr
    exact Sys.endC [((2, 2), .b true)] (h4) (by kernel_rfl)
  · replace h := iteF h4 h
    obtain ⟨v21, h5, h⟩ := bindE h
    obtain ⟨v24, h6, h⟩ := bindE h
    by_cases h7 : InR (v24 + 3)
    case neg => exact absurd (iteF h7 h) (by simp)
    replace h := iteT h7 h
    by_cases h8 : v21 < (v24 + 3)
    · replace h := iteT h8 h
      have hr := Option.some.inj h
      subst hr
      exact Sys.endC [((2, 2), .b false), ((2, 5), .ix), ((2, 6), .cell (cInt v21)), ((2, 8), .ix), ((2, 9), .cell (cInt v24)), ((2, 10), .n), ((2, 11), .b true)] (And.intro (h4) (And.intro (atI_b h5) (And.intro (cell_at 0 (c := cInt v21) rfl (atI_g h5)) (And.intro (atI_b h6) (And.intro (cell_at 0 (c := cInt v24) rfl (atI_g h6)) (And.intro (h7) (h8))))))) (by kernel_rfl)
    · replace h := iteF h8 h
      by_cases h10 : 0 ≤ v24 ∧ v24 ≤ (p0.size : Int)
      case neg => exact absurd (iteF h10 h) (by simp)
      replace h := iteT h10 h
      obtain ⟨⟨x_2, x_3⟩, g11, h⟩ := bindE h
      dsimp only at h
      have h11 := vigilref16_Parse_ok g11
      by_cases h13 : 0 ≤ (v24 + 3) ∧ (v24 + 3) ≤ v21 ∧ v21 ≤ (p0.size : Int)
      case neg => exact absurd (iteF h13 h) (by simp)
      replace h := iteT h13 h
      obtain ⟨⟨x_4, x_5⟩, g14, h⟩ := bindE h
      dsimp only at h
      have h14 := vigilref16_Parse_ok g14
      by_cases h16 : InR (v21 + 3)
      case neg => exact absurd (iteF h16 h) (by simp)
      replace h := iteT h16 h
      by_cases h17 : 0 ≤ (v21 + 3) ∧ (v21 + 3) ≤ (p0.size : Int)
      case neg => exact absurd (iteF h17 h) (by simp)
      replace h := iteT h17 h
      obtain ⟨⟨x_6, x_7⟩, g18, h⟩ := bindE h
      dsimp only at h
      have h18 := vigilref14_Number_ok g18
      refine Sys.to [((2, 2), .b false), ((2, 5), .ix), ((2, 6), .cell (cInt v21)), ((2, 8), .ix), ((2, 9), .cell (cInt v24)), ((2, 10), .n), ((2, 11), .b false), ((4, 2), .ix), ((4, 3), .cell (cInt v24)), ((4, 4), .op { d := .c (.sc (.string (p0.extract 0 v24.toNat))) }), ((4, 5), .call (.tup [.c (eSl x_2), dInt x_3]) ⟨[], []⟩), ((5, 2), .ix), ((5, 3), .cell (cInt v24)), ((5, 4), .n), ((5, 6), .ix), ((5, 7), .cell (cInt v21)), ((5, 8), .op { d := .c (.sc (.string (p0.extract (v24 + 3).toNat v21.toNat))) }), ((5, 9), .call (.tup [.c (eSl x_4), dInt x_5]) ⟨[], []⟩), ((6, 2), .ix), ((6, 3), .cell (cInt v21)), ((6, 4), .n), ((6, 5), .op { d := .c (.sc (.string (p0.extract (v21 + 3).toNat p0.size))) }), ((6, 6), .call (.tup [dInt x_6, dB x_7]) ⟨[], []⟩)] 207001 (.at [1, 1, 1, 1, 1, 1, 0]) ⟨fl [(0, .c (.sc (.string p0))), (2, .pt 0 1 0), (5, .c (eSl x_2)), (6, dInt x_3), (7, .c (eSl x_4)), (8, dInt x_5), (9, dInt x_6), (10, dB x_7)], ⟨[⟨1, [.c (.sl true true [] 0), .c (.sl true true [] 0), dInt 0]⟩], []⟩⟩ (And.intro (h4) (And.intro (atI_b h5) (And.intro (cell_at 0 (c := cInt v21) rfl (atI_g h5)) (And.intro (atI_b h6) (And.intro (cell_at 0 (c := cInt v24) rfl (atI_g h6)) (And.intro (h7) (And.intro (h8) (And.intro (atI_b h6) (And.intro (cell_at 0 (c := cInt v24) rfl (atI_g h6)) (And.intro (str_slc_hi (P0 := X.P) (t0 := 9) (st0 := [⟨1, [.c (.sl true true [] 0), .c (.sl true true [] 0), dInt 0]⟩]) (by kernel_rfl) h10) (And.intro (h11) (And.intro (atI_b h6) (And.intro (cell_at 0 (c := cInt v24) rfl (atI_g h6)) (And.intro (h7) (And.intro (atI_b h5) (And.intro (cell_at 0 (c := cInt v21) rfl (atI_g h5)) (And.intro (str_slc (P0 := X.P) (t0 := 9) (st0 := [⟨1, [.c (.sl true true [] 0), .c (.sl true true [] 0), dInt 0]⟩]) (by kernel_rfl) h13) (And.intro (h14) (And.intro (atI_b h5) (And.intro (cell_at 0 (c := cInt v21) rfl (atI_g h5)) (And.intro (h16) (And.intro (str_slc_lo (P0 := X.P) (t0 := 9) (st0 := [⟨1, [.c (.sl true true [] 0), .c (.sl true true [] 0), dInt 0]⟩]) (by kernel_rfl) h17) (h18))))))))))))))))))))))) (by kernel_rfl) ?_
      obtain ⟨o_2, g20, h⟩ := bindE h
      have h20 := vigilref18_Parse_J7_ok p0 x_2 x_3 x_4 x_5 x_6 x_7 n _ g20
      cases o_2 with
      | r =>
        dsimp only at h
        refine Sys.over h20 ?_
        have hr := Option.some.inj h
        subst hr
        exact Sys.endC [] (True.intro) (by kernel_rfl)
      | m =>
        dsimp only at h
        refine Sys.over h20 ?_
        obtain ⟨⟨x_8, x_9⟩, g23, h⟩ := bindE h
        dsimp only at h
        have h23 := vigilref18_Put_ok g23
        refine Sys.to [((10, 1), .call (.tup [.c (.sc (.string x_8)), dInt x_9]) ⟨[], []⟩)] 11 (.at [1, 1, 1, 1, 1, 1, 1, 1, 1, 0, 0]) ⟨fl [(0, .c (.sc (.string p0))), (2, .pt 0 1 0), (11, .pt 1 1 0), (12, .c (.sc (.string x_8))), (13, dInt x_9)], ⟨[⟨1, [.c (.sl true true [] 0), .c (.sl true true [] 0), dInt 0]⟩, ⟨1, [.c (eSl x_2), .c (eSl x_4), dInt x_6]⟩], []⟩⟩ (h23) (by kernel_rfl) ?_
        by_cases h25 : x_9 ≠ 0
        · replace h := iteT h25 h
          have hr := Option.some.inj h
          subst hr
          exact Sys.endC [((11, 1), .b true)] (h25) (by kernel_rfl)
        · replace h := iteF h25 h
          by_cases h26 : x_8 = p0
          · replace h := iteT h26 h
            have hr := Option.some.inj h
            subst hr
            exact Sys.endC [((11, 1), .b false), ((11, 5), .op { d := dB false })] (And.intro (h25) (str_neq_false h26)) (by kernel_rfl)
          · replace h := iteF h26 h
            have hr := Option.some.inj h
            subst hr
            exact Sys.endC [((11, 1), .b false), ((11, 5), .op { d := dB true })] (And.intro (h25) (str_neq_true h26)) (by kernel_rfl)
def vigillaw18_num (n : Nat) (p0 : Int) : Option Int :=
  some p0
theorem vigillaw18_num_ok {n : Nat} {p0 : Int} {r : Int} (h : vigillaw18_num n p0 = some r) : X.RunsC 20 [dInt p0] (dInt r) := by
  unfold vigillaw18_num at h
  refine Sys.callC' (fn := Tryz.f20) (b := b20) (by kernel_rfl) (by kernel_rfl) ?_
  have hr := Option.some.inj h
  subst hr
  exact Sys.endC [] (True.intro) (by kernel_rfl)
inductive vigilref15_SamePicks_L4O where
  | r
  | e0 (v5 : Int)
def vigilref15_SamePicks_L4x : vigilref15_SamePicks_L4O → Ex
  | .r => .ret
  | .e0 _ => (.exit 0)
def vigilref15_SamePicks_L4s (p0 : Sl GPick) (p1 : Sl GPick) : vigilref15_SamePicks_L4O → S
  | .r => ⟨fl [(4, dB false)], ⟨[], []⟩⟩
  | .e0 v5 => ⟨fl [(0, .c (eSl p0)), (1, .c (eSl p1)), (5, dInt v5), (14, dB false)], ⟨[], []⟩⟩
def vigilref15_SamePicks_L4 (p0 : Sl GPick) (p1 : Sl GPick) (n : Nat) : Nat → Int → Option vigilref15_SamePicks_L4O
  | 0, _ => none
  | k + 1, v5 =>
    if v5 < (p0.l.length : Int) then
      (atI p0.l v5).bind fun v19 =>
      (atI p1.l v5).bind fun v23 =>
      if v19 = v23 then
        if InR (v5 + 1) then vigilref15_SamePicks_L4 p0 p1 n k (v5 + 1)
        else none
      else some (.r)
    else some (.e0 v5)
theorem vigilref15_SamePicks_L4_ok (p0 : Sl GPick) (p1 : Sl GPick) (n : Nat) : ∀ (k : Nat) (v5 : Int) (o : vigilref15_SamePicks_L4O), vigilref15_SamePicks_L4 p0 p1 n k v5 = some o → ∀ s : S, restrS (X.an.rs 14 4) s = ⟨fl [(0, .c (eSl p0)), (1, .c (eSl p1)), (5, dInt v5)], ⟨[], []⟩⟩ → X.Loop 14 26 [] (sub b14 [1, 1, 0, 1, 0, 0]) 0 s (vigilref15_SamePicks_L4x o) (vigilref15_SamePicks_L4s p0 p1 o) := by
  intro k
  induction k with
  | zero => intro v5 o h s hs; unfold vigilref15_SamePicks_L4 at h; cases h
  | succ k ih =>
    intro v5 o h s hs
    unfold vigilref15_SamePicks_L4 at h
    refine Sys.loopQ hs ?_
    by_cases h1 : v5 < (p0.l.length : Int)
    · replace h := iteT h1 h
      obtain ⟨v19, h3, h⟩ := bindE h
      obtain ⟨v23, h4, h⟩ := bindE h
      refine Sys.to [((4, 3), .b true)] 6 (.at [1, 0, 0, 0]) ⟨fl [(0, .c (eSl p0)), (1, .c (eSl p1)), (5, dInt v5), (14, dB true)], ⟨[], []⟩⟩ (h1) (by kernel_rfl) ?_
      by_cases h5 : v19 = v23
      · replace h := iteT h5 h
        by_cases h7 : InR (v5 + 1)
        case neg => exact absurd (iteF h7 h) (by simp)
        replace h := iteT h7 h
        refine Sys.to [((6, 2), .ix), ((6, 3), .agg (EncX.encX v19)), ((6, 6), .ix), ((6, 7), .agg (EncX.encX v23)), ((6, 8), .op { d := dB false }), ((5, 1), .n)] 999999 (.fin .normal) ⟨fl [(0, .c (eSl p0)), (1, .c (eSl p1)), (5, dInt (v5 + 1))], ⟨[], []⟩⟩ (And.intro (atI_b h3) (And.intro (span_at 0 3 (by decide) (atI_g h3)) (And.intro (atI_b h4) (And.intro (span_at 0 3 (by decide) (atI_g h4)) (And.intro (rec_neq_false (GPick_eq v19 v23) h5) (h7)))))) (by kernel_rfl) ?_
        exact Sys.fin (.inl ⟨rfl, ⟨fl [(0, .c (eSl p0)), (1, .c (eSl p1)), (5, dInt (v5 + 1))], ⟨[], []⟩⟩, (by kernel_rfl), ih (v5 + 1) _ h _ (by kernel_rfl)⟩)
      · replace h := iteF h5 h
        have hr := Option.some.inj h
        subst hr
        exact Sys.endX [((6, 2), .ix), ((6, 3), .agg (EncX.encX v19)), ((6, 6), .ix), ((6, 7), .agg (EncX.encX v23)), ((6, 8), .op { d := dB true })] (And.intro (atI_b h3) (And.intro (span_at 0 3 (by decide) (atI_g h3)) (And.intro (atI_b h4) (And.intro (span_at 0 3 (by decide) (atI_g h4)) (rec_neq_true (GPick_eq v19 v23) h5))))) rfl (by kernel_rfl)
    · replace h := iteF h1 h
      have hr := Option.some.inj h
      subst hr
      exact Sys.endX [((4, 3), .b false)] (h1) rfl (by kernel_rfl)

def vigilref15_SamePicks (n : Nat) (p0 : Sl GPick) (p1 : Sl GPick) : Option Bool :=
  if (p0.l.length : Int) ≠ (p1.l.length : Int) then
    some false
  else (vigilref15_SamePicks_L4 p0 p1 n n 0).bind fun o_2 => match o_2 with
  | .r =>
    some false
  | .e0 v5_2 =>
    some true
theorem vigilref15_SamePicks_ok {n : Nat} {p0 : Sl GPick} {p1 : Sl GPick} {r : Bool} (h : vigilref15_SamePicks n p0 p1 = some r) : X.RunsC 14 [.c (eSl p0), .c (eSl p1)] (dB r) := by
  unfold vigilref15_SamePicks at h
  refine Sys.callC' (fn := Tryz.f14) (b := b14) (by kernel_rfl) (by kernel_rfl) ?_
  by_cases h2 : (p0.l.length : Int) ≠ (p1.l.length : Int)
  · replace h := iteT h2 h
    have hr := Option.some.inj h
    subst hr
    exact Sys.endC [((1, 4), .b true)] (h2) (by kernel_rfl)
  · replace h := iteF h2 h
    refine Sys.to [((1, 4), .b false)] 100004 (.at [1, 1, 0, 1, 0]) ⟨fl [(0, .c (eSl p0)), (1, .c (eSl p1)), (5, dInt 0)], ⟨[], []⟩⟩ (h2) (by kernel_rfl) ?_
    obtain ⟨o_2, g5, h⟩ := bindE h
    have h5 := vigilref15_SamePicks_L4_ok p0 p1 n n 0 _ g5
    cases o_2 with
    | r =>
      dsimp only at h
      have hr := Option.some.inj h
      subst hr
      exact Sys.endC [((4, 1000), .code .ret ⟨fl [(4, dB false)], ⟨[], []⟩⟩)] (Sys.Loop.goM (h5 ⟨fl [(0, .c (eSl p0)), (1, .c (eSl p1)), (5, dInt 0)], ⟨[], []⟩⟩ (by kernel_rfl)) (by kernel_rfl)) (by kernel_rfl)
    | e0 v5_2 =>
      dsimp only at h
      have hr := Option.some.inj h
      subst hr
      exact Sys.endC [((4, 1000), .code (.exit 0) ⟨fl [(0, .c (eSl p0)), (1, .c (eSl p1)), (5, dInt v5_2), (14, dB false)], ⟨[], []⟩⟩)] (Sys.Loop.goM (h5 ⟨fl [(0, .c (eSl p0)), (1, .c (eSl p1)), (5, dInt 0)], ⟨[], []⟩⟩ (by kernel_rfl)) (by kernel_rfl)) (by kernel_rfl)
def vigilref18_Same (n : Nat) (p0 : GLasso) (p1 : GLasso) : Option Bool :=
  (vigilref15_SamePicks n p0.stem p1.stem).bind fun x =>
  bif x then
    (vigilref15_SamePicks n p0.loop p1.loop).bind fun x_2 =>
    bif x_2 then
      if p0.thread = p1.thread then
        some true
      else some false
    else some false
  else some false
theorem vigilref18_Same_ok {n : Nat} {p0 : GLasso} {p1 : GLasso} {r : Bool} (h : vigilref18_Same n p0 p1 = some r) : X.RunsC 21 [.c (.agg (EncX.encX p0)), .c (.agg (EncX.encX p1))] (dB r) := by
  unfold vigilref18_Same at h
  refine Sys.callC' (fn := Tryz.f21) (b := b21) (by kernel_rfl) (by kernel_rfl) ?_
  obtain ⟨x, g2, h⟩ := bindE h
  have h2 := vigilref15_SamePicks_ok g2
  cases x with
  | true =>
    replace h := condT h
    obtain ⟨x_2, g4, h⟩ := bindE h
    have h4 := vigilref15_SamePicks_ok g4
    cases x_2 with
    | true =>
      replace h := condT h
      by_cases h6 : p0.thread = p1.thread
      · replace h := iteT h6 h
        have hr := Option.some.inj h
        subst hr
        exact Sys.endC [((1, 4), .call (dB true) ⟨[], []⟩), ((1, 10), .call (dB true) ⟨[], []⟩), ((1, 17), .b true)] (And.intro (h2) (And.intro (h4) (h6))) (by kernel_rfl)
      · replace h := iteF h6 h
        have hr := Option.some.inj h
        subst hr
        exact Sys.endC [((1, 4), .call (dB true) ⟨[], []⟩), ((1, 10), .call (dB true) ⟨[], []⟩), ((1, 17), .b false)] (And.intro (h2) (And.intro (h4) (h6))) (by kernel_rfl)
    | false =>
      replace h := condF h
      have hr := Option.some.inj h
      subst hr
      exact Sys.endC [((1, 4), .call (dB true) ⟨[], []⟩), ((1, 10), .call (dB false) ⟨[], []⟩)] (And.intro (h2) (h4)) (by kernel_rfl)
  | false =>
    replace h := condF h
    have hr := Option.some.inj h
    subst hr
    exact Sys.endC [((1, 4), .call (dB false) ⟨[], []⟩)] (h2) (by kernel_rfl)
inductive vigillaw18_LassoTexts_J1O where
  | r
  | m
def vigillaw18_LassoTexts_J1x : vigillaw18_LassoTexts_J1O → Ex
  | .r => .ret
  | .m => .normal
def vigillaw18_LassoTexts_J1s (p0 : GLasso) (p1 : ByteArray) : vigillaw18_LassoTexts_J1O → S
  | .r => ⟨fl [(4, dB true)], ⟨[⟨1, (EncX.encX p0).map DV.c⟩], []⟩⟩
  | .m => ⟨fl [(1, .c (.sc (.string p1))), (2, .pt 0 1 0), (29, dB false)], ⟨[⟨1, (EncX.encX p0).map DV.c⟩], []⟩⟩
def vigillaw18_LassoTexts_J1 (p0 : GLasso) (p1 : ByteArray) (n : Nat) : Option vigillaw18_LassoTexts_J1O :=
  if (p0.stem.l.length : Int) > 100 then
    some (.r)
  else if (p0.loop.l.length : Int) > 100 then
    some (.r)
  else if (p1.size : Int) > 2000 then
    some (.r)
  else some (.m)
theorem vigillaw18_LassoTexts_J1_ok (p0 : GLasso) (p1 : ByteArray) (n : Nat) (o : vigillaw18_LassoTexts_J1O) (h : vigillaw18_LassoTexts_J1 p0 p1 n = some o) : X.Go 5 89 [] (sub b5 [1, 0]) ⟨fl [(1, .c (.sc (.string p1))), (2, .pt 0 1 0)], ⟨[⟨1, (EncX.encX p0).map DV.c⟩], []⟩⟩ (vigillaw18_LassoTexts_J1x o) (vigillaw18_LassoTexts_J1s p0 p1 o) := by
  unfold vigillaw18_LassoTexts_J1 at h
  refine Sys.goE ?_
  by_cases h1 : (p0.stem.l.length : Int) > 100
  · replace h := iteT h1 h
    have hr := Option.some.inj h
    subst hr
    exact Sys.endJ [((1, 3), .b true), ((2, 0), .op { d := dB true })] (And.intro (h1) ((show memoP (memoOf lives 15) [⟨1, (EncX.encX p0).map DV.c⟩] [] = some { d := dB true } from by kernel_rfl))) (by kernel_rfl)
  · replace h := iteF h1 h
    by_cases h2 : (p0.loop.l.length : Int) > 100
    · replace h := iteT h2 h
      have hr := Option.some.inj h
      subst hr
      exact Sys.endJ [((1, 3), .b false), ((1, 8), .b true), ((2, 0), .op { d := dB true })] (And.intro (h1) (And.intro (h2) ((show memoP (memoOf lives 15) [⟨1, (EncX.encX p0).map DV.c⟩] [] = some { d := dB true } from by kernel_rfl)))) (by kernel_rfl)
    · replace h := iteF h2 h
      by_cases h3 : (p1.size : Int) > 2000
      · replace h := iteT h3 h
        have hr := Option.some.inj h
        subst hr
        exact Sys.endJ [((1, 3), .b false), ((1, 8), .b false), ((1, 13), .b true), ((2, 0), .op { d := dB true })] (And.intro (h1) (And.intro (h2) (And.intro (h3) ((show memoP (memoOf lives 15) [⟨1, (EncX.encX p0).map DV.c⟩] [] = some { d := dB true } from by kernel_rfl))))) (by kernel_rfl)
      · replace h := iteF h3 h
        have hr := Option.some.inj h
        subst hr
        exact Sys.endJ [((1, 3), .b false), ((1, 8), .b false), ((1, 13), .b false)] (And.intro (h1) (And.intro (h2) (h3))) (by kernel_rfl)

inductive vigillaw18_LassoTexts_J7O where
  | r
  | m
def vigillaw18_LassoTexts_J7x : vigillaw18_LassoTexts_J7O → Ex
  | .r => .ret
  | .m => .normal
def vigillaw18_LassoTexts_J7s (p0 : GLasso) (x : ByteArray) (x_2 : Int) (x_3 : ByteArray) (x_4 : Int) (x_5 : GLasso) (x_6 : Int) (x_7 : GLasso) (x_8 : Int) : vigillaw18_LassoTexts_J7O → S
  | .r => ⟨fl [(4, dB false)], ⟨[⟨1, (EncX.encX p0).map DV.c⟩, ⟨1, (EncX.encX x_5).map DV.c⟩, ⟨1, (EncX.encX x_7).map DV.c⟩], []⟩⟩
  | .m => ⟨fl [(2, .pt 0 1 0), (5, .c (.sc (.string x))), (8, dInt x_4), (71, dB false)], ⟨[⟨1, (EncX.encX p0).map DV.c⟩, ⟨1, (EncX.encX x_5).map DV.c⟩, ⟨1, (EncX.encX x_7).map DV.c⟩], []⟩⟩
def vigillaw18_LassoTexts_J7 (p0 : GLasso) (x : ByteArray) (x_2 : Int) (x_3 : ByteArray) (x_4 : Int) (x_5 : GLasso) (x_6 : Int) (x_7 : GLasso) (x_8 : Int) (n : Nat) : Option vigillaw18_LassoTexts_J7O :=
  if x = x_3 then
    (vigillaw18_num n x_2).bind fun x_9 =>
    if x_9 ≠ x_4 then
      some (.r)
    else (vigilref18_Same n x_5 x_7).bind fun x_10 =>
    bif x_10 then
      (vigillaw18_num n x_6).bind fun x_11 =>
      if x_11 ≠ x_8 then
        some (.r)
      else some (.m)
    else some (.r)
  else some (.r)
theorem vigillaw18_LassoTexts_J7_ok (p0 : GLasso) (x : ByteArray) (x_2 : Int) (x_3 : ByteArray) (x_4 : Int) (x_5 : GLasso) (x_6 : Int) (x_7 : GLasso) (x_8 : Int) (n : Nat) (o : vigillaw18_LassoTexts_J7O) (h : vigillaw18_LassoTexts_J7 p0 x x_2 x_3 x_4 x_5 x_6 x_7 x_8 n = some o) : X.Go 5 89 [] (sub b5 [1, 1, 1, 1, 1, 1, 0]) ⟨fl [(2, .pt 0 1 0), (5, .c (.sc (.string x))), (6, dInt x_2), (7, .c (.sc (.string x_3))), (8, dInt x_4), (9, .pt 1 1 0), (10, dInt x_6), (11, .pt 2 1 0), (12, dInt x_8)], ⟨[⟨1, (EncX.encX p0).map DV.c⟩, ⟨1, (EncX.encX x_5).map DV.c⟩, ⟨1, (EncX.encX x_7).map DV.c⟩], []⟩⟩ (vigillaw18_LassoTexts_J7x o) (vigillaw18_LassoTexts_J7s p0 x x_2 x_3 x_4 x_5 x_6 x_7 x_8 o) := by
  unfold vigillaw18_LassoTexts_J7 at h
  refine Sys.goE ?_
  by_cases h1 : x = x_3
  · replace h := iteT h1 h
    obtain ⟨x_9, g2, h⟩ := bindE h
    have h2 := vigillaw18_num_ok g2
    by_cases h3 : x_9 ≠ x_4
    · replace h := iteT h3 h
      have hr := Option.some.inj h
      subst hr
      exact Sys.endJ [((7, 2), .op { d := dB false }), ((7, 5), .call (dInt x_9) ⟨[], []⟩), ((7, 7), .b true)] (And.intro (str_neq_false h1) (And.intro (h2) (h3))) (by kernel_rfl)
    · replace h := iteF h3 h
      obtain ⟨x_10, g4, h⟩ := bindE h
      have h4 := vigilref18_Same_ok g4
      cases x_10 with
      | true =>
        replace h := condT h
        obtain ⟨x_11, g6, h⟩ := bindE h
        have h6 := vigillaw18_num_ok g6
        by_cases h7 : x_11 ≠ x_8
        · replace h := iteT h7 h
          have hr := Option.some.inj h
          subst hr
          exact Sys.endJ [((7, 2), .op { d := dB false }), ((7, 5), .call (dInt x_9) ⟨[], []⟩), ((7, 7), .b false), ((7, 12), .call (dB true) ⟨[], []⟩), ((7, 17), .call (dInt x_11) ⟨[], []⟩), ((7, 19), .b true)] (And.intro (str_neq_false h1) (And.intro (h2) (And.intro (h3) (And.intro (h4) (And.intro (h6) (h7)))))) (by kernel_rfl)
        · replace h := iteF h7 h
          have hr := Option.some.inj h
          subst hr
          exact Sys.endJ [((7, 2), .op { d := dB false }), ((7, 5), .call (dInt x_9) ⟨[], []⟩), ((7, 7), .b false), ((7, 12), .call (dB true) ⟨[], []⟩), ((7, 17), .call (dInt x_11) ⟨[], []⟩), ((7, 19), .b false)] (And.intro (str_neq_false h1) (And.intro (h2) (And.intro (h3) (And.intro (h4) (And.intro (h6) (h7)))))) (by kernel_rfl)
      | false =>
        replace h := condF h
        have hr := Option.some.inj h
        subst hr
        exact Sys.endJ [((7, 2), .op { d := dB false }), ((7, 5), .call (dInt x_9) ⟨[], []⟩), ((7, 7), .b false), ((7, 12), .call (dB false) ⟨[], []⟩)] (And.intro (str_neq_false h1) (And.intro (h2) (And.intro (h3) (h4)))) (by kernel_rfl)
  · replace h := iteF h1 h
    have hr := Option.some.inj h
    subst hr
    exact Sys.endJ [((7, 2), .op { d := dB true })] (str_neq_true h1) (by kernel_rfl)

def vigillaw18_LassoTexts (n : Nat) (p0 : GLasso) (p1 : ByteArray) : Option Bool :=
  (vigillaw18_LassoTexts_J1 p0 p1 n).bind fun o_2 => match o_2 with
  | .r =>
    some true
  | .m =>
    (lasso_Put n p0).bind fun (x, x_2) =>
    (vigilref18_Put n p0).bind fun (x_3, x_4) =>
    (lasso_Parse n p1).bind fun (x_5, x_6) =>
    (vigilref18_Parse n p1).bind fun (x_7, x_8) =>
    (vigillaw18_LassoTexts_J7 p0 x x_2 x_3 x_4 x_5 x_6 x_7 x_8 n).bind fun o_3 => match o_3 with
    | .r =>
      some false
    | .m =>
      if x_4 = 0 then
        (lasso_Parse n x).bind fun (x_12, x_13) =>
        (vigillaw18_num n x_13).bind fun x_14 =>
        if x_14 ≠ 0 then
          some false
        else (vigilref18_Same n x_12 p0).bind fun x_15 =>
        bif x_15 then
          some true
        else some false
      else some true
theorem vigillaw18_LassoTexts_ok {n : Nat} {p0 : GLasso} {p1 : ByteArray} {r : Bool} (h : vigillaw18_LassoTexts n p0 p1 = some r) : X.RunsC 5 [.c (.agg (EncX.encX p0)), .c (.sc (.string p1))] (dB r) := by
  unfold vigillaw18_LassoTexts at h
  refine Sys.callC' (fn := Tryz.f5) (b := b5) (by kernel_rfl) (by kernel_rfl) ?_
  refine Sys.to [] 201001 (.at [1, 0]) ⟨fl [(1, .c (.sc (.string p1))), (2, .pt 0 1 0)], ⟨[⟨1, (EncX.encX p0).map DV.c⟩], []⟩⟩ (True.intro) (by kernel_rfl) ?_
  obtain ⟨o_2, g2, h⟩ := bindE h
  have h2 := vigillaw18_LassoTexts_J1_ok p0 p1 n _ g2
  cases o_2 with
  | r =>
    dsimp only at h
    refine Sys.over h2 ?_
    have hr := Option.some.inj h
    subst hr
    exact Sys.endC [] (True.intro) (by kernel_rfl)
  | m =>
    dsimp only at h
    refine Sys.over h2 ?_
    obtain ⟨⟨x, x_2⟩, g4, h⟩ := bindE h
    dsimp only at h
    have h4 := lasso_Put_ok g4
    obtain ⟨⟨x_3, x_4⟩, g6, h⟩ := bindE h
    dsimp only at h
    have h6 := vigilref18_Put_ok g6
    obtain ⟨⟨x_5, x_6⟩, g8, h⟩ := bindE h
    dsimp only at h
    have h8 := lasso_Parse_ok g8
    obtain ⟨⟨x_7, x_8⟩, g10, h⟩ := bindE h
    dsimp only at h
    have h10 := vigilref18_Parse_ok g10
    refine Sys.to [((3, 1), .call (.tup [.c (.sc (.string x)), dInt x_2]) ⟨[], []⟩), ((4, 1), .call (.tup [.c (.sc (.string x_3)), dInt x_4]) ⟨[], []⟩), ((5, 1), .call (.tup [.c (.agg (EncX.encX x_5)), dInt x_6]) ⟨[], []⟩), ((6, 1), .call (.tup [.c (.agg (EncX.encX x_7)), dInt x_8]) ⟨[], []⟩)] 207001 (.at [1, 1, 1, 1, 1, 1, 0]) ⟨fl [(2, .pt 0 1 0), (5, .c (.sc (.string x))), (6, dInt x_2), (7, .c (.sc (.string x_3))), (8, dInt x_4), (9, .pt 1 1 0), (10, dInt x_6), (11, .pt 2 1 0), (12, dInt x_8)], ⟨[⟨1, (EncX.encX p0).map DV.c⟩, ⟨1, (EncX.encX x_5).map DV.c⟩, ⟨1, (EncX.encX x_7).map DV.c⟩], []⟩⟩ (And.intro (h4) (And.intro (h6) (And.intro (h8) (h10)))) (by kernel_rfl) ?_
    obtain ⟨o_3, g12, h⟩ := bindE h
    have h12 := vigillaw18_LassoTexts_J7_ok p0 x x_2 x_3 x_4 x_5 x_6 x_7 x_8 n _ g12
    cases o_3 with
    | r =>
      dsimp only at h
      refine Sys.over h12 ?_
      have hr := Option.some.inj h
      subst hr
      exact Sys.endC [] (True.intro) (by kernel_rfl)
    | m =>
      dsimp only at h
      refine Sys.over h12 ?_
      by_cases h14 : x_4 = 0
      · replace h := iteT h14 h
        obtain ⟨⟨x_12, x_13⟩, g16, h⟩ := bindE h
        dsimp only at h
        have h16 := lasso_Parse_ok g16
        obtain ⟨x_14, g18, h⟩ := bindE h
        have h18 := vigillaw18_num_ok g18
        refine Sys.to [((9, 1), .b true), ((10, 1), .call (.tup [.c (.agg (EncX.encX x_12)), dInt x_13]) ⟨[], []⟩)] 11 (.at [1, 1, 1, 1, 1, 1, 1, 0, 1, 0, 1, 0]) ⟨fl [(2, .pt 0 1 0), (13, .pt 3 1 0), (14, dInt x_13)], ⟨[⟨1, (EncX.encX p0).map DV.c⟩, ⟨1, (EncX.encX x_5).map DV.c⟩, ⟨1, (EncX.encX x_7).map DV.c⟩, ⟨1, (EncX.encX x_12).map DV.c⟩], []⟩⟩ (And.intro (h14) (h16)) (by kernel_rfl) ?_
        by_cases h19 : x_14 ≠ 0
        · replace h := iteT h19 h
          have hr := Option.some.inj h
          subst hr
          exact Sys.endC [((11, 1), .call (dInt x_14) ⟨[], []⟩), ((11, 2), .b true)] (And.intro (h18) (h19)) (by kernel_rfl)
        · replace h := iteF h19 h
          obtain ⟨x_15, g20, h⟩ := bindE h
          have h20 := vigilref18_Same_ok g20
          cases x_15 with
          | true =>
            replace h := condT h
            have hr := Option.some.inj h
            subst hr
            exact Sys.endC [((11, 1), .call (dInt x_14) ⟨[], []⟩), ((11, 2), .b false), ((11, 6), .call (dB true) ⟨[], []⟩), ((13, 0), .op { d := dB true })] (And.intro (h18) (And.intro (h19) (And.intro (h20) ((show memoP (memoOf lives 15) [⟨1, (EncX.encX p0).map DV.c⟩, ⟨1, (EncX.encX x_5).map DV.c⟩, ⟨1, (EncX.encX x_7).map DV.c⟩, ⟨1, (EncX.encX x_12).map DV.c⟩] [] = some { d := dB true } from by kernel_rfl))))) (by kernel_rfl)
          | false =>
            replace h := condF h
            have hr := Option.some.inj h
            subst hr
            exact Sys.endC [((11, 1), .call (dInt x_14) ⟨[], []⟩), ((11, 2), .b false), ((11, 6), .call (dB false) ⟨[], []⟩)] (And.intro (h18) (And.intro (h19) (h20))) (by kernel_rfl)
      · replace h := iteF h14 h
        have hr := Option.some.inj h
        subst hr
        exact Sys.endC [((9, 1), .b false), ((13, 0), .op { d := dB true })] (And.intro (h14) ((show memoP (memoOf lives 15) [⟨1, (EncX.encX p0).map DV.c⟩, ⟨1, (EncX.encX x_5).map DV.c⟩, ⟨1, (EncX.encX x_7).map DV.c⟩] [] = some { d := dB true } from by kernel_rfl))) (by kernel_rfl)
end Go.Proofs.YtilipgopjiokfaaGreatDoor
