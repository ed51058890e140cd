/-
  Functions of the program as Lean functions, and that the interpreter comes to the same: printed by the session's own tool.
-/
import Derived.Test.YtkfmoodaplelnaaTy
import Derived.Test.YtkfmoodaplelnaaAn
set_option linter.unusedVariables false
set_option linter.unusedSimpArgs false
set_option maxRecDepth 100000
set_option maxHeartbeats 1000000
namespace Go.Proofs.Ytkfmoodaplelnaa
open Go Go.Abs Go.Proofs
variable [Kn]
def cmp_isNaN (n : Nat) (p0 : Int) : Option Bool :=
  if p0 ≠ p0 then
    some true
  else some false
theorem cmp_isNaN_ok {n : Nat} {p0 : Int} {r : Bool} (h : cmp_isNaN n p0 = some r) : X.RunsC 53 [dInt p0] (dB r) := by
  unfold cmp_isNaN at h
  refine Sys.callC' (fn := Try.f53) (b := b53) (by kernel_rfl) (by kernel_rfl) ?_
  by_cases h2 : p0 ≠ p0
  · replace h := iteT h2 h
    have hr := Option.some.inj h
    subst hr
    exact Sys.endC [((1, 2), .b true)] (h2) (by kernel_rfl)
  · replace h := iteF h2 h
    have hr := Option.some.inj h
    subst hr
    exact Sys.endC [((1, 2), .b false)] (h2) (by kernel_rfl)
def cmp_Compare (n : Nat) (p0 : Int) (p1 : Int) : Option Int :=
  (cmp_isNaN n p0).bind fun x =>
  (cmp_isNaN n p1).bind fun x_2 =>
  bif x then
    bif x_2 then
      some 0
    else some (-1)
  else bif x_2 then
    some 1
  else if p0 < p1 then
    some (-1)
  else if p0 > p1 then
    some 1
  else some 0
theorem cmp_Compare_ok {n : Nat} {p0 : Int} {p1 : Int} {r : Int} (h : cmp_Compare n p0 p1 = some r) : X.RunsC 36 [dInt p0, dInt p1] (dInt r) := by
  unfold cmp_Compare at h
  refine Sys.callC' (fn := Try.f36) (b := b36) (by kernel_rfl) (by kernel_rfl) ?_
  obtain ⟨x, g2, h⟩ := bindE h
  have h2 := cmp_isNaN_ok g2
  obtain ⟨x_2, g4, h⟩ := bindE h
  have h4 := cmp_isNaN_ok g4
  refine Sys.to [((1, 1), .call (dB x) ⟨[], []⟩), ((2, 1), .call (dB x_2) ⟨[], []⟩)] 3 (.at [1, 1, 1, 0, 0]) ⟨fl [(0, dInt p0), (1, dInt p1), (5, dB x), (6, dB x_2)], ⟨[], []⟩⟩ (And.intro (h2) (h4)) (by kernel_rfl) ?_
  cases x with
  | true =>
    replace h := condT h
    cases x_2 with
    | true =>
      replace h := condT h
      have hr := Option.some.inj h
      subst hr
      exact Sys.endC [] (True.intro) (by kernel_rfl)
    | false =>
      replace h := condF h
      have hr := Option.some.inj h
      subst hr
      exact Sys.endC [] (True.intro) (by kernel_rfl)
  | false =>
    replace h := condF h
    cases x_2 with
    | true =>
      replace h := condT h
      have hr := Option.some.inj h
      subst hr
      exact Sys.endC [] (True.intro) (by kernel_rfl)
    | false =>
      replace h := condF h
      by_cases h10 : p0 < p1
      · replace h := iteT h10 h
        have hr := Option.some.inj h
        subst hr
        exact Sys.endC [((9, 2), .b true)] (h10) (by kernel_rfl)
      · replace h := iteF h10 h
        refine Sys.to [((9, 2), .b false)] 11 (.at [1, 1, 1, 1, 1, 1, 0, 0]) ⟨fl [(0, dInt p0), (1, dInt p1), (16, dB false)], ⟨[], []⟩⟩ (h10) (by kernel_rfl) ?_
        by_cases h12 : p0 > p1
        · replace h := iteT h12 h
          have hr := Option.some.inj h
          subst hr
          exact Sys.endC [((11, 2), .b true)] (h12) (by kernel_rfl)
        · replace h := iteF h12 h
          have hr := Option.some.inj h
          subst hr
          exact Sys.endC [((11, 2), .b false)] (h12) (by kernel_rfl)
inductive cmp_Or_L3O where
  | r (v2 : Int)
  | e0 (v8 : Int)
def cmp_Or_L3x : cmp_Or_L3O → Ex
  | .r _ => .ret
  | .e0 _ => (.exit 0)
def cmp_Or_L3s (p0 : Sl Int) : cmp_Or_L3O → S
  | .r v2 => ⟨fl [(2, dInt v2)], ⟨[], []⟩⟩
  | .e0 v8 => ⟨fl [(3, dInt 0), (6, .c (eSl p0)), (7, dInt (p0.l.length : Int)), (8, dInt v8), (9, dB false)], ⟨[], []⟩⟩
def cmp_Or_L3 (p0 : Sl Int) (n : Nat) : Nat → Int → Option cmp_Or_L3O
  | 0, _ => none
  | k + 1, v8 =>
    if v8 < (p0.l.length : Int) then
      (atI p0.l v8).bind fun v10 =>
      if v10 ≠ 0 then
        some (.r v10)
      else if InR (v8 + 1) then cmp_Or_L3 p0 n k (v8 + 1)
      else none
    else some (.e0 v8)
theorem cmp_Or_L3_ok (p0 : Sl Int) (n : Nat) : ∀ (k : Nat) (v8 : Int) (o : cmp_Or_L3O), cmp_Or_L3 p0 n k v8 = some o → ∀ s : S, restrS (X.an.rs 35 3) s = ⟨fl [(3, dInt 0), (6, .c (eSl p0)), (7, dInt (p0.l.length : Int)), (8, dInt v8)], ⟨[], []⟩⟩ → X.Loop 35 18 [] (sub b35 [1, 1, 0, 1, 0, 0]) 0 s (cmp_Or_L3x o) (cmp_Or_L3s p0 o) := by
  intro k
  induction k with
  | zero => intro v8 o h s hs; unfold cmp_Or_L3 at h; cases h
  | succ k ih =>
    intro v8 o h s hs
    unfold cmp_Or_L3 at h
    refine Sys.loopQ hs ?_
    by_cases h1 : v8 < (p0.l.length : Int)
    · replace h := iteT h1 h
      obtain ⟨v10, h3, h⟩ := bindE h
      refine Sys.to [((3, 0), .b true), ((4, 0), .ix), ((4, 1), .cell (cInt v10))] 5 (.at [1, 1, 0, 0, 1, 0]) ⟨fl [(3, dInt 0), (5, dInt v10), (6, .c (eSl p0)), (7, dInt (p0.l.length : Int)), (8, dInt v8)], ⟨[], []⟩⟩ (And.intro (h1) (And.intro (atI_b h3) (cell_at 0 (c := cInt v10) rfl (atI_g h3)))) (by kernel_rfl) ?_
      by_cases h5 : v10 ≠ 0
      · replace h := iteT h5 h
        have hr := Option.some.inj h
        subst hr
        exact Sys.endX [((5, 2), .b true)] (h5) rfl (by kernel_rfl)
      · replace h := iteF h5 h
        by_cases h7 : InR (v8 + 1)
        case neg => exact absurd (iteF h7 h) (by simp)
        replace h := iteT h7 h
        refine Sys.to [((5, 2), .b false), ((7, 0), .n)] 999999 (.fin .normal) ⟨fl [(3, dInt 0), (6, .c (eSl p0)), (7, dInt (p0.l.length : Int)), (8, dInt (v8 + 1))], ⟨[], []⟩⟩ (And.intro (h5) (h7)) (by kernel_rfl) ?_
        exact Sys.fin (.inl ⟨rfl, ⟨fl [(3, dInt 0), (6, .c (eSl p0)), (7, dInt (p0.l.length : Int)), (8, dInt (v8 + 1))], ⟨[], []⟩⟩, (by kernel_rfl), ih (v8 + 1) _ h _ (by kernel_rfl)⟩)
    · replace h := iteF h1 h
      have hr := Option.some.inj h
      subst hr
      exact Sys.endX [((3, 0), .b false)] (h1) rfl (by kernel_rfl)

def cmp_Or (n : Nat) (p0 : Sl Int) : Option Int :=
  (cmp_Or_L3 p0 n n 0).bind fun o_2 => match o_2 with
  | .r v2 =>
    some v2
  | .e0 v8_2 =>
    some 0
theorem cmp_Or_ok {n : Nat} {p0 : Sl Int} {r : Int} (h : cmp_Or n p0 = some r) : X.RunsC 35 [.c (eSl p0)] (dInt r) := by
  unfold cmp_Or at h
  refine Sys.callC' (fn := Try.f35) (b := b35) (by kernel_rfl) (by kernel_rfl) ?_
  obtain ⟨o_2, g4, h⟩ := bindE h
  have h4 := cmp_Or_L3_ok p0 n n 0 _ g4
  cases o_2 with
  | r v2 =>
    dsimp only at h
    have hr := Option.some.inj h
    subst hr
    exact Sys.endC [((3, 1000), .code .ret ⟨fl [(2, dInt v2)], ⟨[], []⟩⟩)] (Sys.Loop.goM (h4 ⟨fl [(3, dInt 0), (6, .c (eSl p0)), (7, dInt (p0.l.length : Int)), (8, dInt 0)], ⟨[], []⟩⟩ (by kernel_rfl)) (by kernel_rfl)) (by kernel_rfl)
  | e0 v8_2 =>
    dsimp only at h
    have hr := Option.some.inj h
    subst hr
    exact Sys.endC [((3, 1000), .code (.exit 0) ⟨fl [(3, dInt 0), (6, .c (eSl p0)), (7, dInt (p0.l.length : Int)), (8, dInt v8_2), (9, dB false)], ⟨[], []⟩⟩)] (Sys.Loop.goM (h4 ⟨fl [(3, dInt 0), (6, .c (eSl p0)), (7, dInt (p0.l.length : Int)), (8, dInt 0)], ⟨[], []⟩⟩ (by kernel_rfl)) (by kernel_rfl)) (by kernel_rfl)
def held_byNames (n : Nat) (p0 : GNest) (p1 : GNest) : Option Int :=
  (cmp_Compare n p0.outer p1.outer).bind fun x =>
  (cmp_Compare n p0.inner p1.inner).bind fun x_2 =>
  (cmp_Or n (⟨false, true, ([x, x_2] : List Int)⟩ : Sl Int)).bind fun x_3 =>
  some x_3
theorem held_byNames_ok {n : Nat} {p0 : GNest} {p1 : GNest} {r : Int} (h : held_byNames n p0 p1 = some r) : X.RunsC 25 [.c (.agg (EncX.encX p0)), .c (.agg (EncX.encX p1))] (dInt r) := by
  unfold held_byNames at h
  refine Sys.callC' (fn := Try.f25) (b := b25) (by kernel_rfl) (by kernel_rfl) ?_
  obtain ⟨x, g2, h⟩ := bindE h
  have h2 := cmp_Compare_ok g2
  obtain ⟨x_2, g3, h⟩ := bindE h
  have h3 := cmp_Compare_ok g3
  obtain ⟨x_3, g4, h⟩ := bindE h
  have h4 := cmp_Or_ok g4
  have hr := Option.some.inj h
  subst hr
  exact Sys.endC [((1, 4), .call (dInt x) ⟨[], []⟩), ((1, 9), .call (dInt x_2) ⟨[], []⟩), ((1, 11), .call (dInt x_3) ⟨[], []⟩)] (And.intro (h2) (And.intro (h3) (h4))) (by kernel_rfl)
def vigilref13_shaped_c1 (o1_0 : Int) (o1_1 : Int) (o1_2 : Int) (o1_3 : Int) (o1_4 : Int) (o1_5 : Int) (o1_6 : ByteArray) (o1_7 : ByteArray) (o1_8 : Int) (o1_9 : Sl GExpr) (o1_10 : Int) (o1_11 : Int) (o1_12 : Int) (o1_13 : Int) (o1_14 : Int) : List DV := [dInt o1_0, dInt o1_1, dInt o1_2, dInt o1_3, dInt o1_4, dInt o1_5, .c (.sc (.string o1_6)), .c (.sc (.string o1_7)), dInt o1_8, .c (eSl o1_9), dInt o1_10, dInt o1_11, dInt o1_12, dInt o1_13, dInt o1_14]
inductive vigilref13_shaped_J1O where
  | r
  | m
def vigilref13_shaped_J1x : vigilref13_shaped_J1O → Ex
  | .r => .ret
  | .m => .normal
def vigilref13_shaped_J1s (p0 : GFlow) (p1 : Int) : vigilref13_shaped_J1O → S
  | .r => ⟨fl [(4, dB false)], ⟨[⟨1, (EncX.encX p0).map DV.c⟩], []⟩⟩
  | .m => ⟨fl [(1, dInt p1), (2, .pt 0 1 0), (22, dB false)], ⟨[⟨1, (EncX.encX p0).map DV.c⟩], []⟩⟩
def vigilref13_shaped_J1 (p0 : GFlow) (p1 : Int) (n : Nat) : Option vigilref13_shaped_J1O :=
  if p0.locs < 1 then
    some (.r)
  else if p0.locs > 600 then
    some (.r)
  else if p1 < 0 then
    some (.r)
  else if p1 > 8 then
    some (.r)
  else some (.m)
theorem vigilref13_shaped_J1_ok (p0 : GFlow) (p1 : Int) (n : Nat) (o : vigilref13_shaped_J1O) (h : vigilref13_shaped_J1 p0 p1 n = some o) : X.Go 21 76 [] (sub b21 [1, 0]) ⟨fl [(1, dInt p1), (2, .pt 0 1 0)], ⟨[⟨1, (EncX.encX p0).map DV.c⟩], []⟩⟩ (vigilref13_shaped_J1x o) (vigilref13_shaped_J1s p0 p1 o) := by
  unfold vigilref13_shaped_J1 at h
  refine Sys.goE ?_
  by_cases h1 : p0.locs < 1
  · replace h := iteT h1 h
    have hr := Option.some.inj h
    subst hr
    exact Sys.endJ [((1, 2), .b true)] (h1) (by kernel_rfl)
  · replace h := iteF h1 h
    by_cases h2 : p0.locs > 600
    · replace h := iteT h2 h
      have hr := Option.some.inj h
      subst hr
      exact Sys.endJ [((1, 2), .b false), ((1, 6), .b true)] (And.intro (h1) (h2)) (by kernel_rfl)
    · replace h := iteF h2 h
      by_cases h3 : p1 < 0
      · replace h := iteT h3 h
        have hr := Option.some.inj h
        subst hr
        exact Sys.endJ [((1, 2), .b false), ((1, 6), .b false), ((1, 10), .b true)] (And.intro (h1) (And.intro (h2) (h3))) (by kernel_rfl)
      · replace h := iteF h3 h
        by_cases h4 : p1 > 8
        · replace h := iteT h4 h
          have hr := Option.some.inj h
          subst hr
          exact Sys.endJ [((1, 2), .b false), ((1, 6), .b false), ((1, 10), .b false), ((1, 14), .b true)] (And.intro (h1) (And.intro (h2) (And.intro (h3) (h4)))) (by kernel_rfl)
        · replace h := iteF h4 h
          have hr := Option.some.inj h
          subst hr
          exact Sys.endJ [((1, 2), .b false), ((1, 6), .b false), ((1, 10), .b false), ((1, 14), .b false)] (And.intro (h1) (And.intro (h2) (And.intro (h3) (h4)))) (by kernel_rfl)

inductive vigilref13_shaped_J7_2O where
  | r
  | m
def vigilref13_shaped_J7_2x : vigilref13_shaped_J7_2O → Ex
  | .r => .ret
  | .m => .normal
def vigilref13_shaped_J7_2s (p0 : GFlow) (p1 : Int) (v5 : Int) (v33 : GEdge) : vigilref13_shaped_J7_2O → S
  | .r => ⟨fl [(4, dB false)], ⟨[⟨1, (EncX.encX p0).map DV.c⟩, ⟨1, (EncX.encX v33).map DV.c⟩], []⟩⟩
  | .m => ⟨fl [(1, dInt p1), (2, .pt 0 1 0), (5, dInt v5), (6, .pt 1 1 0), (56, dB false)], ⟨[⟨1, (EncX.encX p0).map DV.c⟩, ⟨1, (EncX.encX v33).map DV.c⟩], []⟩⟩
def vigilref13_shaped_J7_2 (p0 : GFlow) (p1 : Int) (v5 : Int) (v33 : GEdge) (n : Nat) : Option vigilref13_shaped_J7_2O :=
  if v33.from_ < 0 then
    some (.r)
  else if v33.from_ ≥ p0.locs then
    some (.r)
  else if v33.to_ < 0 then
    some (.r)
  else if v33.to_ ≥ p0.locs then
    some (.r)
  else some (.m)
theorem vigilref13_shaped_J7_2_ok (p0 : GFlow) (p1 : Int) (v5 : Int) (v33 : GEdge) (n : Nat) (o : vigilref13_shaped_J7_2O) (h : vigilref13_shaped_J7_2 p0 p1 v5 v33 n = some o) : X.Go 21 76 [] (sub b21 [1, 1, 0, 1, 0, 0, 1, 0, 0, 1, 0]) ⟨fl [(1, dInt p1), (2, .pt 0 1 0), (5, dInt v5), (6, .pt 1 1 0)], ⟨[⟨1, (EncX.encX p0).map DV.c⟩, ⟨1, (EncX.encX v33).map DV.c⟩], []⟩⟩ (vigilref13_shaped_J7_2x o) (vigilref13_shaped_J7_2s p0 p1 v5 v33 o) := by
  unfold vigilref13_shaped_J7_2 at h
  refine Sys.goE ?_
  by_cases h1 : v33.from_ < 0
  · replace h := iteT h1 h
    have hr := Option.some.inj h
    subst hr
    exact Sys.endJ [((7, 2), .b true)] (h1) (by kernel_rfl)
  · replace h := iteF h1 h
    by_cases h2 : v33.from_ ≥ p0.locs
    · replace h := iteT h2 h
      have hr := Option.some.inj h
      subst hr
      exact Sys.endJ [((7, 2), .b false), ((7, 8), .b true)] (And.intro (h1) (h2)) (by kernel_rfl)
    · replace h := iteF h2 h
      by_cases h3 : v33.to_ < 0
      · replace h := iteT h3 h
        have hr := Option.some.inj h
        subst hr
        exact Sys.endJ [((7, 2), .b false), ((7, 8), .b false), ((7, 13), .b true)] (And.intro (h1) (And.intro (h2) (h3))) (by kernel_rfl)
      · replace h := iteF h3 h
        by_cases h4 : v33.to_ ≥ p0.locs
        · replace h := iteT h4 h
          have hr := Option.some.inj h
          subst hr
          exact Sys.endJ [((7, 2), .b false), ((7, 8), .b false), ((7, 13), .b false), ((7, 20), .b true)] (And.intro (h1) (And.intro (h2) (And.intro (h3) (h4)))) (by kernel_rfl)
        · replace h := iteF h4 h
          have hr := Option.some.inj h
          subst hr
          exact Sys.endJ [((7, 2), .b false), ((7, 8), .b false), ((7, 13), .b false), ((7, 20), .b false)] (And.intro (h1) (And.intro (h2) (And.intro (h3) (h4)))) (by kernel_rfl)

inductive vigilref13_shaped_L4O where
  | r (o1_0 : Int) (o1_1 : Int) (o1_2 : Int) (o1_3 : Int) (o1_4 : Int) (o1_5 : Int) (o1_6 : ByteArray) (o1_7 : ByteArray) (o1_8 : Int) (o1_9 : Sl GExpr) (o1_10 : Int) (o1_11 : Int) (o1_12 : Int) (o1_13 : Int) (o1_14 : Int)
  | e0 (v5 : Int)
def vigilref13_shaped_L4x : vigilref13_shaped_L4O → Ex
  | .r _ _ _ _ _ _ _ _ _ _ _ _ _ _ _ => .ret
  | .e0 _ => (.exit 0)
def vigilref13_shaped_L4s (p0 : GFlow) (p1 : Int) : vigilref13_shaped_L4O → S
  | .r o1_0 o1_1 o1_2 o1_3 o1_4 o1_5 o1_6 o1_7 o1_8 o1_9 o1_10 o1_11 o1_12 o1_13 o1_14 => ⟨fl [(4, dB false)], ⟨[⟨1, (EncX.encX p0).map DV.c⟩, ⟨1, (vigilref13_shaped_c1 o1_0 o1_1 o1_2 o1_3 o1_4 o1_5 o1_6 o1_7 o1_8 o1_9 o1_10 o1_11 o1_12 o1_13 o1_14)⟩], []⟩⟩
  | .e0 v5 => ⟨fl [(1, dInt p1), (2, .pt 0 1 0), (5, dInt v5), (27, dB false)], ⟨[⟨1, (EncX.encX p0).map DV.c⟩], []⟩⟩
def vigilref13_shaped_L4 (p0 : GFlow) (p1 : Int) (n : Nat) : Nat → Int → Option vigilref13_shaped_L4O
  | 0, _ => none
  | k + 1, v5 =>
    if v5 < (p0.edges.l.length : Int) then
      (atI p0.edges.l v5).bind fun v33 =>
      (vigilref13_shaped_J7_2 p0 p1 v5 v33 n).bind fun o_3 => match o_3 with
      | .r =>
        some (.r v33.from_ v33.to_ v33.kind v33.mon v33.var v33.e_.op v33.e_.mon v33.e_.name v33.e_.n_ v33.e_.kids v33.e_.at_ v33.n_ v33.site v33.out v33.at_)
      | .m =>
        if v33.kind ≥ 4 then
          if v33.kind ≤ 8 then
            if v33.mon < 0 then
              some (.r v33.from_ v33.to_ v33.kind v33.mon v33.var v33.e_.op v33.e_.mon v33.e_.name v33.e_.n_ v33.e_.kids v33.e_.at_ v33.n_ v33.site v33.out v33.at_)
            else if v33.mon ≥ p1 then
              some (.r v33.from_ v33.to_ v33.kind v33.mon v33.var v33.e_.op v33.e_.mon v33.e_.name v33.e_.n_ v33.e_.kids v33.e_.at_ v33.n_ v33.site v33.out v33.at_)
            else if InR (v5 + 1) then vigilref13_shaped_L4 p0 p1 n k (v5 + 1)
            else none
          else if InR (v5 + 1) then vigilref13_shaped_L4 p0 p1 n k (v5 + 1)
          else none
        else if InR (v5 + 1) then vigilref13_shaped_L4 p0 p1 n k (v5 + 1)
        else none
    else some (.e0 v5)
theorem vigilref13_shaped_L4_ok (p0 : GFlow) (p1 : Int) (n : Nat) : ∀ (k : Nat) (v5 : Int) (o : vigilref13_shaped_L4O), vigilref13_shaped_L4 p0 p1 n k v5 = some o → ∀ s : S, restrS (X.an.rs 21 4) s = ⟨fl [(1, dInt p1), (2, .pt 0 1 0), (5, dInt v5)], ⟨[⟨1, (EncX.encX p0).map DV.c⟩], []⟩⟩ → X.Loop 21 76 [] (sub b21 [1, 1, 0, 1, 0, 0]) 1 s (vigilref13_shaped_L4x o) (vigilref13_shaped_L4s p0 p1 o) := by
  intro k
  induction k with
  | zero => intro v5 o h s hs; unfold vigilref13_shaped_L4 at h; cases h
  | succ k ih =>
    intro v5 o h s hs
    unfold vigilref13_shaped_L4 at h
    refine Sys.loopQ hs ?_
    by_cases h1 : v5 < (p0.edges.l.length : Int)
    · replace h := iteT h1 h
      obtain ⟨v33, h3, h⟩ := bindE h
      refine Sys.to [((4, 4), .b true), ((6, 3), .ix), ((6, 4), .agg (EncX.encX v33))] 207003 (.at [1, 0, 0, 1, 0]) ⟨fl [(1, dInt p1), (2, .pt 0 1 0), (5, dInt v5), (6, .pt 1 1 0)], ⟨[⟨1, (EncX.encX p0).map DV.c⟩, ⟨1, (EncX.encX v33).map DV.c⟩], []⟩⟩ (And.intro (h1) (And.intro (atI_b h3) (span_at 0 15 (by decide) (atI_g h3)))) (by kernel_rfl) ?_
      obtain ⟨o_3, g5, h⟩ := bindE h
      have h5 := vigilref13_shaped_J7_2_ok p0 p1 v5 v33 n _ g5
      cases o_3 with
      | r =>
        dsimp only at h
        refine Sys.over h5 ?_
        have hr := Option.some.inj h
        subst hr
        exact Sys.endX [] (True.intro) rfl (by kernel_rfl)
      | m =>
        dsimp only at h
        refine Sys.over h5 ?_
        by_cases h7 : v33.kind ≥ 4
        · replace h := iteT h7 h
          by_cases h8 : v33.kind ≤ 8
          · replace h := iteT h8 h
            by_cases h9 : v33.mon < 0
            · replace h := iteT h9 h
              have hr := Option.some.inj h
              subst hr
              exact Sys.endX [((9, 2), .b true), ((9, 6), .b true), ((9, 11), .b true)] (And.intro (h7) (And.intro (h8) (h9))) rfl (by kernel_rfl)
            · replace h := iteF h9 h
              by_cases h10 : v33.mon ≥ p1
              · replace h := iteT h10 h
                have hr := Option.some.inj h
                subst hr
                exact Sys.endX [((9, 2), .b true), ((9, 6), .b true), ((9, 11), .b false), ((9, 16), .b true)] (And.intro (h7) (And.intro (h8) (And.intro (h9) (h10)))) rfl (by kernel_rfl)
              · replace h := iteF h10 h
                by_cases h12 : InR (v5 + 1)
                case neg => exact absurd (iteF h12 h) (by simp)
                replace h := iteT h12 h
                refine Sys.to [((9, 2), .b true), ((9, 6), .b true), ((9, 11), .b false), ((9, 16), .b false), ((5, 1), .n)] 999999 (.fin .normal) ⟨fl [(1, dInt p1), (2, .pt 0 1 0), (5, dInt (v5 + 1))], ⟨[⟨1, (EncX.encX p0).map DV.c⟩, ⟨1, (EncX.encX v33).map DV.c⟩], []⟩⟩ (And.intro (h7) (And.intro (h8) (And.intro (h9) (And.intro (h10) (h12))))) (by kernel_rfl) ?_
                exact Sys.fin (.inl ⟨rfl, ⟨fl [(1, dInt p1), (2, .pt 0 1 0), (5, dInt (v5 + 1))], ⟨[⟨1, (EncX.encX p0).map DV.c⟩], []⟩⟩, (cut_ok (l := [1, 2, 5]) rfl (AllB.cons rfl (AllB.nil 1)) rfl), ih (v5 + 1) _ h _ (by kernel_rfl)⟩)
          · replace h := iteF h8 h
            by_cases h10 : InR (v5 + 1)
            case neg => exact absurd (iteF h10 h) (by simp)
            replace h := iteT h10 h
            refine Sys.to [((9, 2), .b true), ((9, 6), .b false), ((5, 1), .n)] 999999 (.fin .normal) ⟨fl [(1, dInt p1), (2, .pt 0 1 0), (5, dInt (v5 + 1))], ⟨[⟨1, (EncX.encX p0).map DV.c⟩, ⟨1, (EncX.encX v33).map DV.c⟩], []⟩⟩ (And.intro (h7) (And.intro (h8) (h10))) (by kernel_rfl) ?_
            exact Sys.fin (.inl ⟨rfl, ⟨fl [(1, dInt p1), (2, .pt 0 1 0), (5, dInt (v5 + 1))], ⟨[⟨1, (EncX.encX p0).map DV.c⟩], []⟩⟩, (cut_ok (l := [1, 2, 5]) rfl (AllB.cons rfl (AllB.nil 1)) rfl), ih (v5 + 1) _ h _ (by kernel_rfl)⟩)
        · replace h := iteF h7 h
          by_cases h9 : InR (v5 + 1)
          case neg => exact absurd (iteF h9 h) (by simp)
          replace h := iteT h9 h
          refine Sys.to [((9, 2), .b false), ((5, 1), .n)] 999999 (.fin .normal) ⟨fl [(1, dInt p1), (2, .pt 0 1 0), (5, dInt (v5 + 1))], ⟨[⟨1, (EncX.encX p0).map DV.c⟩, ⟨1, (EncX.encX v33).map DV.c⟩], []⟩⟩ (And.intro (h7) (h9)) (by kernel_rfl) ?_
          exact Sys.fin (.inl ⟨rfl, ⟨fl [(1, dInt p1), (2, .pt 0 1 0), (5, dInt (v5 + 1))], ⟨[⟨1, (EncX.encX p0).map DV.c⟩], []⟩⟩, (cut_ok (l := [1, 2, 5]) rfl (AllB.cons rfl (AllB.nil 1)) rfl), ih (v5 + 1) _ h _ (by kernel_rfl)⟩)
    · replace h := iteF h1 h
      have hr := Option.some.inj h
      subst hr
      exact Sys.endX [((4, 4), .b false)] (h1) rfl (by kernel_rfl)

def vigilref13_shaped (n : Nat) (p0 : GFlow) (p1 : Int) : Option Bool :=
  (vigilref13_shaped_J1 p0 p1 n).bind fun o_2 => match o_2 with
  | .r =>
    some false
  | .m =>
    (vigilref13_shaped_L4 p0 p1 n n 0).bind fun o_4 => match o_4 with
    | .r o1_0 o1_1 o1_2 o1_3 o1_4 o1_5 o1_6 o1_7 o1_8 o1_9 o1_10 o1_11 o1_12 o1_13 o1_14 =>
      some false
    | .e0 v5_2 =>
      some true
theorem vigilref13_shaped_ok {n : Nat} {p0 : GFlow} {p1 : Int} {r : Bool} (h : vigilref13_shaped n p0 p1 = some r) : X.RunsC 21 [.c (.agg (EncX.encX p0)), dInt p1] (dB r) := by
  unfold vigilref13_shaped at h
  refine Sys.callC' (fn := Try.f21) (b := b21) (by kernel_rfl) (by kernel_rfl) ?_
  refine Sys.to [] 201001 (.at [1, 0]) ⟨fl [(1, dInt p1), (2, .pt 0 1 0)], ⟨[⟨1, (EncX.encX p0).map DV.c⟩], []⟩⟩ (True.intro) (by kernel_rfl) ?_
  obtain ⟨o_2, g2, h⟩ := bindE h
  have h2 := vigilref13_shaped_J1_ok p0 p1 n _ g2
  cases o_2 with
  | r =>
    dsimp only at h
    refine Sys.over h2 ?_
    have hr := Option.some.inj h
    subst hr
    exact Sys.endC [] (True.intro) (by kernel_rfl)
  | m =>
    dsimp only at h
    refine Sys.over h2 ?_
    obtain ⟨o_4, g5, h⟩ := bindE h
    have h5 := vigilref13_shaped_L4_ok p0 p1 n n 0 _ g5
    cases o_4 with
    | r o1_0 o1_1 o1_2 o1_3 o1_4 o1_5 o1_6 o1_7 o1_8 o1_9 o1_10 o1_11 o1_12 o1_13 o1_14 =>
      dsimp only at h
      have hr := Option.some.inj h
      subst hr
      exact Sys.endC [((4, 1000), .code .ret ⟨fl [(4, dB false)], ⟨[⟨1, (EncX.encX p0).map DV.c⟩, ⟨1, (vigilref13_shaped_c1 o1_0 o1_1 o1_2 o1_3 o1_4 o1_5 o1_6 o1_7 o1_8 o1_9 o1_10 o1_11 o1_12 o1_13 o1_14)⟩], []⟩⟩)] (Sys.Loop.goM (h5 ⟨fl [(1, dInt p1), (2, .pt 0 1 0), (5, dInt 0)], ⟨[⟨1, (EncX.encX p0).map DV.c⟩], []⟩⟩ (by kernel_rfl)) (by kernel_rfl)) (by kernel_rfl)
    | e0 v5_2 =>
      dsimp only at h
      have hr := Option.some.inj h
      subst hr
      exact Sys.endC [((4, 1000), .code (.exit 0) ⟨fl [(1, dInt p1), (2, .pt 0 1 0), (5, dInt v5_2), (27, dB false)], ⟨[⟨1, (EncX.encX p0).map DV.c⟩], []⟩⟩)] (Sys.Loop.goM (h5 ⟨fl [(1, dInt p1), (2, .pt 0 1 0), (5, dInt 0)], ⟨[⟨1, (EncX.encX p0).map DV.c⟩], []⟩⟩ (by kernel_rfl)) (by kernel_rfl)) (by kernel_rfl)
inductive vigilref13_same_L4O where
  | r
  | e0 (v5 : Int)
def vigilref13_same_L4x : vigilref13_same_L4O → Ex
  | .r => .ret
  | .e0 _ => (.exit 0)
def vigilref13_same_L4s (p1 : Sl Int) (o0 : List Int) (p0n : Nat) : vigilref13_same_L4O → S
  | .r => ⟨fl [(4, dB false)], ⟨[⟨1, dcells o0⟩], []⟩⟩
  | .e0 v5 => ⟨fl [(0, .ms 0 1 0 p0n 1 false), (1, .c (eSl p1)), (5, dInt v5), (14, dB false)], ⟨[⟨1, dcells o0⟩], []⟩⟩
def vigilref13_same_L4 (p1 : Sl Int) (o0 : List Int) (p0n : Nat) (n : Nat) : Nat → Int → Option vigilref13_same_L4O
  | 0, _ => none
  | k + 1, v5 =>
    if v5 < (p0n : Int) then
      if 0 ≤ v5 ∧ v5 < (p0n : Int) then (atI o0 v5).bind fun w0 =>
      (atI p1.l v5).bind fun v23 =>
      if w0 ≠ v23 then
        some (.r)
      else if InR (v5 + 1) then vigilref13_same_L4 p1 o0 p0n n k (v5 + 1)
      else none
      else none
    else some (.e0 v5)
theorem vigilref13_same_L4_ok (p1 : Sl Int) (o0 : List Int) (p0n : Nat) (n : Nat) : ∀ (k : Nat) (v5 : Int) (o : vigilref13_same_L4O), vigilref13_same_L4 p1 o0 p0n n k v5 = some o → ∀ s : S, restrS (X.an.rs 22 4) s = ⟨fl [(0, .ms 0 1 0 p0n 1 false), (1, .c (eSl p1)), (5, dInt v5)], ⟨[⟨1, dcells o0⟩], []⟩⟩ → X.Loop 22 26 [] (sub b22 [1, 1, 0, 1, 0, 0]) 1 s (vigilref13_same_L4x o) (vigilref13_same_L4s p1 o0 p0n o) := by
  intro k
  induction k with
  | zero => intro v5 o h s hs; unfold vigilref13_same_L4 at h; cases h
  | succ k ih =>
    intro v5 o h s hs
    unfold vigilref13_same_L4 at h
    refine Sys.loopQ hs ?_
    by_cases h1 : v5 < (p0n : Int)
    · replace h := iteT h1 h
      by_cases h3 : 0 ≤ v5 ∧ v5 < (p0n : Int)
      case neg => exact absurd (iteF h3 h) (by simp)
      replace h := iteT h3 h
      obtain ⟨w0, h4, h⟩ := bindE h
      obtain ⟨v23, h5, h⟩ := bindE h
      refine Sys.to [((4, 3), .b true)] 6 (.at [1, 0, 0, 0]) ⟨fl [(0, .ms 0 1 0 p0n 1 false), (1, .c (eSl p1)), (5, dInt v5), (14, dB true)], ⟨[⟨1, dcells o0⟩], []⟩⟩ (h1) (by kernel_rfl) ?_
      by_cases h6 : w0 ≠ v23
      · replace h := iteT h6 h
        have hr := Option.some.inj h
        subst hr
        exact Sys.endX [((6, 2), .ix), ((6, 3), .cell (cInt w0)), ((6, 6), .ix), ((6, 7), .cell (cInt v23)), ((6, 8), .b true)] (And.intro (h3) (And.intro (And.intro (rfl : (1 : Nat) = 1) (dcell_at' 0 (c := cInt w0) rfl (atI_g h4))) (And.intro (atI_b h5) (And.intro (cell_at 0 (c := cInt v23) rfl (atI_g h5)) (h6))))) rfl (by kernel_rfl)
      · replace h := iteF h6 h
        by_cases h8 : InR (v5 + 1)
        case neg => exact absurd (iteF h8 h) (by simp)
        replace h := iteT h8 h
        refine Sys.to [((6, 2), .ix), ((6, 3), .cell (cInt w0)), ((6, 6), .ix), ((6, 7), .cell (cInt v23)), ((6, 8), .b false), ((5, 1), .n)] 999999 (.fin .normal) ⟨fl [(0, .ms 0 1 0 p0n 1 false), (1, .c (eSl p1)), (5, dInt (v5 + 1))], ⟨[⟨1, dcells o0⟩], []⟩⟩ (And.intro (h3) (And.intro (And.intro (rfl : (1 : Nat) = 1) (dcell_at' 0 (c := cInt w0) rfl (atI_g h4))) (And.intro (atI_b h5) (And.intro (cell_at 0 (c := cInt v23) rfl (atI_g h5)) (And.intro (h6) (h8)))))) (by kernel_rfl) ?_
        exact Sys.fin (.inl ⟨rfl, ⟨fl [(0, .ms 0 1 0 p0n 1 false), (1, .c (eSl p1)), (5, dInt (v5 + 1))], ⟨[⟨1, dcells o0⟩], []⟩⟩, (by kernel_rfl), ih (v5 + 1) _ h _ (by kernel_rfl)⟩)
    · replace h := iteF h1 h
      have hr := Option.some.inj h
      subst hr
      exact Sys.endX [((4, 3), .b false)] (h1) rfl (by kernel_rfl)

def vigilref13_same (n : Nat) (p1 : Sl Int) (o0 : List Int) (p0n : Nat) : Option Bool :=
  if (p0n : Int) ≠ (p1.l.length : Int) then
    some false
  else (vigilref13_same_L4 p1 o0 p0n n n 0).bind fun o_2 => match o_2 with
  | .r =>
    some false
  | .e0 v5_2 =>
    some true
theorem vigilref13_same_ok {n : Nat} {p1 : Sl Int} {o0 : List Int} {p0n : Nat} {r : Bool} (h : vigilref13_same n p1 o0 p0n = some r) : X.RunsL 22 [.ms 0 1 0 p0n 1 false, .c (eSl p1)] [⟨1, dcells o0⟩] (dB r) [⟨1, dcells o0⟩] := by
  unfold vigilref13_same at h
  refine Sys.callL' (fn := Try.f22) (b := b22) (by kernel_rfl) (by kernel_rfl) rfl ?_
  by_cases h2 : (p0n : Int) ≠ (p1.l.length : Int)
  · replace h := iteT h2 h
    have hr := Option.some.inj h
    subst hr
    refine Sys.to [((1, 4), .b true)] 999999 (.fin .ret) ⟨fl [(4, dB false)], ⟨[⟨1, dcells o0⟩], []⟩⟩ (h2) (by kernel_rfl) ?_
    exact Sys.fin ⟨rfl, (dB false), (by kernel_rfl), endL_below rfl (AllB.cons (below_dcells 1 o0) (AllB.nil 1)) rfl rfl⟩
  · replace h := iteF h2 h
    refine Sys.to [((1, 4), .b false)] 100004 (.at [1, 1, 0, 1, 0]) ⟨fl [(0, .ms 0 1 0 p0n 1 false), (1, .c (eSl p1)), (5, dInt 0)], ⟨[⟨1, dcells o0⟩], []⟩⟩ (h2) (by kernel_rfl) ?_
    obtain ⟨o_2, g5, h⟩ := bindE h
    have h5 := vigilref13_same_L4_ok p1 o0 p0n n n 0 _ g5
    cases o_2 with
    | r =>
      dsimp only at h
      have hr := Option.some.inj h
      subst hr
      refine Sys.to [((4, 1000), .code .ret ⟨fl [(4, dB false)], ⟨[⟨1, dcells o0⟩], []⟩⟩)] 999999 (.fin .ret) ⟨fl [(4, dB false)], ⟨[⟨1, dcells o0⟩], []⟩⟩ (Sys.Loop.goM (h5 ⟨fl [(0, .ms 0 1 0 p0n 1 false), (1, .c (eSl p1)), (5, dInt 0)], ⟨[⟨1, dcells o0⟩], []⟩⟩ (by kernel_rfl)) (by kernel_rfl)) (by kernel_rfl) ?_
      exact Sys.fin ⟨rfl, (dB false), (by kernel_rfl), endL_below rfl (AllB.cons (below_dcells 1 o0) (AllB.nil 1)) rfl rfl⟩
    | e0 v5_2 =>
      dsimp only at h
      have hr := Option.some.inj h
      subst hr
      refine Sys.to [((4, 1000), .code (.exit 0) ⟨fl [(0, .ms 0 1 0 p0n 1 false), (1, .c (eSl p1)), (5, dInt v5_2), (14, dB false)], ⟨[⟨1, dcells o0⟩], []⟩⟩)] 999999 (.fin .ret) ⟨fl [(4, dB true)], ⟨[⟨1, dcells o0⟩], []⟩⟩ (Sys.Loop.goM (h5 ⟨fl [(0, .ms 0 1 0 p0n 1 false), (1, .c (eSl p1)), (5, dInt 0)], ⟨[⟨1, dcells o0⟩], []⟩⟩ (by kernel_rfl)) (by kernel_rfl)) (by kernel_rfl) ?_
      exact Sys.fin ⟨rfl, (dB true), (by kernel_rfl), endL_below rfl (AllB.cons (below_dcells 1 o0) (AllB.nil 1)) rfl rfl⟩
inductive vigilref13_same_2_L4O where
  | r
  | e0 (v5 : Int)
def vigilref13_same_2_L4x : vigilref13_same_2_L4O → Ex
  | .r => .ret
  | .e0 _ => (.exit 0)
def vigilref13_same_2_L4s (p1 : Sl Int) (o0 : List Int) : vigilref13_same_2_L4O → S
  | .r => ⟨fl [(4, dB false)], ⟨[⟨1, dcells o0⟩], []⟩⟩
  | .e0 v5 => ⟨fl [(0, .ms 0 1 0 o0.length 1 false), (1, .c (eSl p1)), (5, dInt v5), (14, dB false)], ⟨[⟨1, dcells o0⟩], []⟩⟩
def vigilref13_same_2_L4 (p1 : Sl Int) (o0 : List Int) (n : Nat) : Nat → Int → Option vigilref13_same_2_L4O
  | 0, _ => none
  | k + 1, v5 =>
    if v5 < (o0.length : Int) then
      (atI o0 v5).bind fun v19 =>
      (atI p1.l v5).bind fun v23 =>
      if v19 ≠ v23 then
        some (.r)
      else if InR (v5 + 1) then vigilref13_same_2_L4 p1 o0 n k (v5 + 1)
      else none
    else some (.e0 v5)
theorem vigilref13_same_2_L4_ok (p1 : Sl Int) (o0 : List Int) (n : Nat) : ∀ (k : Nat) (v5 : Int) (o : vigilref13_same_2_L4O), vigilref13_same_2_L4 p1 o0 n k v5 = some o → ∀ s : S, restrS (X.an.rs 22 4) s = ⟨fl [(0, .ms 0 1 0 o0.length 1 false), (1, .c (eSl p1)), (5, dInt v5)], ⟨[⟨1, dcells o0⟩], []⟩⟩ → X.Loop 22 26 [] (sub b22 [1, 1, 0, 1, 0, 0]) 1 s (vigilref13_same_2_L4x o) (vigilref13_same_2_L4s p1 o0 o) := by
  intro k
  induction k with
  | zero => intro v5 o h s hs; unfold vigilref13_same_2_L4 at h; cases h
  | succ k ih =>
    intro v5 o h s hs
    unfold vigilref13_same_2_L4 at h
    refine Sys.loopQ hs ?_
    by_cases h1 : v5 < (o0.length : Int)
    · replace h := iteT h1 h
      obtain ⟨v19, h3, h⟩ := bindE h
      obtain ⟨v23, h4, h⟩ := bindE h
      refine Sys.to [((4, 3), .b true)] 6 (.at [1, 0, 0, 0]) ⟨fl [(0, .ms 0 1 0 o0.length 1 false), (1, .c (eSl p1)), (5, dInt v5), (14, dB true)], ⟨[⟨1, dcells o0⟩], []⟩⟩ (h1) (by kernel_rfl) ?_
      by_cases h5 : v19 ≠ v23
      · replace h := iteT h5 h
        have hr := Option.some.inj h
        subst hr
        exact Sys.endX [((6, 2), .ix), ((6, 3), .cell (cInt v19)), ((6, 6), .ix), ((6, 7), .cell (cInt v23)), ((6, 8), .b true)] (And.intro (atI_b h3) (And.intro (And.intro (rfl : (1 : Nat) = 1) (dcell_at' 0 (c := cInt v19) rfl (atI_g h3))) (And.intro (atI_b h4) (And.intro (cell_at 0 (c := cInt v23) rfl (atI_g h4)) (h5))))) rfl (by kernel_rfl)
      · replace h := iteF h5 h
        by_cases h7 : InR (v5 + 1)
        case neg => exact absurd (iteF h7 h) (by simp)
        replace h := iteT h7 h
        refine Sys.to [((6, 2), .ix), ((6, 3), .cell (cInt v19)), ((6, 6), .ix), ((6, 7), .cell (cInt v23)), ((6, 8), .b false), ((5, 1), .n)] 999999 (.fin .normal) ⟨fl [(0, .ms 0 1 0 o0.length 1 false), (1, .c (eSl p1)), (5, dInt (v5 + 1))], ⟨[⟨1, dcells o0⟩], []⟩⟩ (And.intro (atI_b h3) (And.intro (And.intro (rfl : (1 : Nat) = 1) (dcell_at' 0 (c := cInt v19) rfl (atI_g h3))) (And.intro (atI_b h4) (And.intro (cell_at 0 (c := cInt v23) rfl (atI_g h4)) (And.intro (h5) (h7)))))) (by kernel_rfl) ?_
        exact Sys.fin (.inl ⟨rfl, ⟨fl [(0, .ms 0 1 0 o0.length 1 false), (1, .c (eSl p1)), (5, dInt (v5 + 1))], ⟨[⟨1, dcells o0⟩], []⟩⟩, (by kernel_rfl), ih (v5 + 1) _ h _ (by kernel_rfl)⟩)
    · replace h := iteF h1 h
      have hr := Option.some.inj h
      subst hr
      exact Sys.endX [((4, 3), .b false)] (h1) rfl (by kernel_rfl)

def vigilref13_same_2 (n : Nat) (p1 : Sl Int) (o0 : List Int) : Option Bool :=
  if (o0.length : Int) ≠ (p1.l.length : Int) then
    some false
  else (vigilref13_same_2_L4 p1 o0 n n 0).bind fun o_2 => match o_2 with
  | .r =>
    some false
  | .e0 v5_2 =>
    some true
theorem vigilref13_same_2_ok {n : Nat} {p1 : Sl Int} {o0 : List Int} {r : Bool} (h : vigilref13_same_2 n p1 o0 = some r) : X.RunsL 22 [.ms 0 1 0 o0.length 1 false, .c (eSl p1)] [⟨1, dcells o0⟩] (dB r) [⟨1, dcells o0⟩] := by
  unfold vigilref13_same_2 at h
  refine Sys.callL' (fn := Try.f22) (b := b22) (by kernel_rfl) (by kernel_rfl) rfl ?_
  by_cases h2 : (o0.length : Int) ≠ (p1.l.length : Int)
  · replace h := iteT h2 h
    have hr := Option.some.inj h
    subst hr
    refine Sys.to [((1, 4), .b true)] 999999 (.fin .ret) ⟨fl [(4, dB false)], ⟨[⟨1, dcells o0⟩], []⟩⟩ (h2) (by kernel_rfl) ?_
    exact Sys.fin ⟨rfl, (dB false), (by kernel_rfl), endL_below rfl (AllB.cons (below_dcells 1 o0) (AllB.nil 1)) rfl rfl⟩
  · replace h := iteF h2 h
    refine Sys.to [((1, 4), .b false)] 100004 (.at [1, 1, 0, 1, 0]) ⟨fl [(0, .ms 0 1 0 o0.length 1 false), (1, .c (eSl p1)), (5, dInt 0)], ⟨[⟨1, dcells o0⟩], []⟩⟩ (h2) (by kernel_rfl) ?_
    obtain ⟨o_2, g5, h⟩ := bindE h
    have h5 := vigilref13_same_2_L4_ok p1 o0 n n 0 _ g5
    cases o_2 with
    | r =>
      dsimp only at h
      have hr := Option.some.inj h
      subst hr
      refine Sys.to [((4, 1000), .code .ret ⟨fl [(4, dB false)], ⟨[⟨1, dcells o0⟩], []⟩⟩)] 999999 (.fin .ret) ⟨fl [(4, dB false)], ⟨[⟨1, dcells o0⟩], []⟩⟩ (Sys.Loop.goM (h5 ⟨fl [(0, .ms 0 1 0 o0.length 1 false), (1, .c (eSl p1)), (5, dInt 0)], ⟨[⟨1, dcells o0⟩], []⟩⟩ (by kernel_rfl)) (by kernel_rfl)) (by kernel_rfl) ?_
      exact Sys.fin ⟨rfl, (dB false), (by kernel_rfl), endL_below rfl (AllB.cons (below_dcells 1 o0) (AllB.nil 1)) rfl rfl⟩
    | e0 v5_2 =>
      dsimp only at h
      have hr := Option.some.inj h
      subst hr
      refine Sys.to [((4, 1000), .code (.exit 0) ⟨fl [(0, .ms 0 1 0 o0.length 1 false), (1, .c (eSl p1)), (5, dInt v5_2), (14, dB false)], ⟨[⟨1, dcells o0⟩], []⟩⟩)] 999999 (.fin .ret) ⟨fl [(4, dB true)], ⟨[⟨1, dcells o0⟩], []⟩⟩ (Sys.Loop.goM (h5 ⟨fl [(0, .ms 0 1 0 o0.length 1 false), (1, .c (eSl p1)), (5, dInt 0)], ⟨[⟨1, dcells o0⟩], []⟩⟩ (by kernel_rfl)) (by kernel_rfl)) (by kernel_rfl) ?_
      exact Sys.fin ⟨rfl, (dB true), (by kernel_rfl), endL_below rfl (AllB.cons (below_dcells 1 o0) (AllB.nil 1)) rfl rfl⟩
end Go.Proofs.Ytkfmoodaplelnaa
