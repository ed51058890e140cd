/-
  Functions of the program as Lean functions, and that the interpreter comes to the same: printed by the session's own tool.
-/
import Derived.Test.YtkfmoodaplelnaaFd
import Derived.Test.YtkfmoodaplelnaaRe
set_option linter.unusedVariables false
set_option linter.unusedSimpArgs false
set_option maxRecDepth 100000
set_option maxHeartbeats 1000000
namespace Go.Proofs.Ytkfmoodaplelnaa
open Go Go.Abs Go.Proofs
variable [Kn]
inductive vigilref13_Sections_L7O where
  | e0 (v10 : List Int) (v11 : Int)
def vigilref13_Sections_L7x : vigilref13_Sections_L7O → Ex
  | .e0 _ _ => (.exit 0)
def vigilref13_Sections_L7s (p0 : GFlow) (p2 : Int) (x : Sl (Sl Int)) (x_3 : Sl Bool) : vigilref13_Sections_L7O → S
  | .e0 v10 v11 => ⟨fl [(2, dInt p2), (3, .pt 0 1 0), (7, .c (eSl x)), (9, .c (eSl x_3)), (10, apl v10), (11, dInt v11), (34, dB false)], ⟨[⟨1, (EncX.encX p0).map DV.c⟩], []⟩⟩
def vigilref13_Sections_L7 (p0 : GFlow) (p2 : Int) (x : Sl (Sl Int)) (x_3 : Sl Bool) (n : Nat) : Nat → List Int → Int → Option vigilref13_Sections_L7O
  | 0, _, _ => none
  | k + 1, v10, v11 =>
    if v11 < p0.locs then
      (atI x_3.l v11).bind fun v39 =>
      bif v39 then
        (atI x.l v11).bind fun v44 =>
        (atI v44.l p2).bind fun v47 =>
        if v47 > 0 then
          if Room 8 (v10 ++ ([v11] : List Int)).length then if InR (v11 + 1) then vigilref13_Sections_L7 p0 p2 x x_3 n k (v10 ++ ([v11] : List Int)) (v11 + 1)
          else none
          else none
        else if InR (v11 + 1) then vigilref13_Sections_L7 p0 p2 x x_3 n k v10 (v11 + 1)
        else none
      else if InR (v11 + 1) then vigilref13_Sections_L7 p0 p2 x x_3 n k v10 (v11 + 1)
      else none
    else some (.e0 v10 v11)
theorem vigilref13_Sections_L7_ok (p0 : GFlow) (p2 : Int) (x : Sl (Sl Int)) (x_3 : Sl Bool) (n : Nat) : ∀ (k : Nat) (v10 : List Int) (v11 : Int) (o : vigilref13_Sections_L7O), vigilref13_Sections_L7 p0 p2 x x_3 n k v10 v11 = some o → ∀ s : S, restrS (X.an.rs 12 7) s = ⟨fl [(2, dInt p2), (3, .pt 0 1 0), (7, .c (eSl x)), (9, .c (eSl x_3)), (10, apl v10), (11, dInt v11)], ⟨[⟨1, (EncX.encX p0).map DV.c⟩], []⟩⟩ → X.Loop 12 56 [] (sub b12 [1, 1, 1, 1, 1, 0, 1, 0, 0]) 1 s (vigilref13_Sections_L7x o) (vigilref13_Sections_L7s p0 p2 x x_3 o) := by
  intro k
  induction k with
  | zero => intro v10 v11 o h s hs; unfold vigilref13_Sections_L7 at h; cases h
  | succ k ih =>
    intro v10 v11 o h s hs
    unfold vigilref13_Sections_L7 at h
    refine Sys.loopQ hs ?_
    by_cases h1 : v11 < p0.locs
    · replace h := iteT h1 h
      obtain ⟨v39, h3, h⟩ := bindE h
      refine Sys.to [((7, 3), .b true)] 9 (.at [1, 0, 0, 0]) ⟨fl [(2, dInt p2), (3, .pt 0 1 0), (7, .c (eSl x)), (9, .c (eSl x_3)), (10, apl v10), (11, dInt v11), (34, dB true)], ⟨[⟨1, (EncX.encX p0).map DV.c⟩], []⟩⟩ (h1) (by kernel_rfl) ?_
      cases v39 with
      | true =>
        replace h := condT h
        obtain ⟨v44, h5, h⟩ := bindE h
        obtain ⟨v47, h6, h⟩ := bindE h
        by_cases h7 : v47 > 0
        · replace h := iteT h7 h
          by_cases h9 : Room 8 (v10 ++ ([v11] : List Int)).length
          case neg => exact absurd (iteF h9 h) (by simp)
          replace h := iteT h9 h
          by_cases h11 : InR (v11 + 1)
          case neg => exact absurd (iteF h11 h) (by simp)
          replace h := iteT h11 h
          refine Sys.to [((9, 2), .ix), ((9, 3), .cell (.sc (.bool true))), ((9, 7), .ix), ((9, 8), .cell (eSl v44)), ((9, 10), .ix), ((9, 11), .cell (cInt v47)), ((9, 12), .b true), ((10, 3), .appF (v10 ++ ([v11] : List Int)).isEmpty (cells (v10 ++ ([v11] : List Int))) (v10 ++ ([v11] : List Int)).length), ((8, 1), .n)] 999999 (.fin .normal) ⟨fl [(2, dInt p2), (3, .pt 0 1 0), (7, .c (eSl x)), (9, .c (eSl x_3)), (10, apl (v10 ++ ([v11] : List Int))), (11, dInt (v11 + 1))], ⟨[⟨1, (EncX.encX p0).map DV.c⟩], []⟩⟩ (And.intro (atI_b h3) (And.intro (cell_at 0 (c := .sc (.bool true)) rfl (atI_g h3)) (And.intro (atI_b h5) (And.intro (cell_at 0 (c := eSl v44) rfl (atI_g h5)) (And.intro (atI_b h6) (And.intro (cell_at 0 (c := cInt v47) rfl (atI_g h6)) (And.intro (h7) (And.intro (apl_lit v10 ([v11] : List Int) (b := 8) (by decide) h9) (h11))))))))) (by kernel_rfl) ?_
          exact Sys.fin (.inl ⟨rfl, ⟨fl [(2, dInt p2), (3, .pt 0 1 0), (7, .c (eSl x)), (9, .c (eSl x_3)), (10, apl (v10 ++ ([v11] : List Int))), (11, dInt (v11 + 1))], ⟨[⟨1, (EncX.encX p0).map DV.c⟩], []⟩⟩, (by kernel_rfl), ih (v10 ++ ([v11] : List Int)) (v11 + 1) _ h _ (by kernel_rfl)⟩)
        · replace h := iteF h7 h
          by_cases h9 : InR (v11 + 1)
          case neg => exact absurd (iteF h9 h) (by simp)
          replace h := iteT h9 h
          refine Sys.to [((9, 2), .ix), ((9, 3), .cell (.sc (.bool true))), ((9, 7), .ix), ((9, 8), .cell (eSl v44)), ((9, 10), .ix), ((9, 11), .cell (cInt v47)), ((9, 12), .b false), ((8, 1), .n)] 999999 (.fin .normal) ⟨fl [(2, dInt p2), (3, .pt 0 1 0), (7, .c (eSl x)), (9, .c (eSl x_3)), (10, apl v10), (11, dInt (v11 + 1))], ⟨[⟨1, (EncX.encX p0).map DV.c⟩], []⟩⟩ (And.intro (atI_b h3) (And.intro (cell_at 0 (c := .sc (.bool true)) rfl (atI_g h3)) (And.intro (atI_b h5) (And.intro (cell_at 0 (c := eSl v44) rfl (atI_g h5)) (And.intro (atI_b h6) (And.intro (cell_at 0 (c := cInt v47) rfl (atI_g h6)) (And.intro (h7) (h9)))))))) (by kernel_rfl) ?_
          exact Sys.fin (.inl ⟨rfl, ⟨fl [(2, dInt p2), (3, .pt 0 1 0), (7, .c (eSl x)), (9, .c (eSl x_3)), (10, apl v10), (11, dInt (v11 + 1))], ⟨[⟨1, (EncX.encX p0).map DV.c⟩], []⟩⟩, (by kernel_rfl), ih v10 (v11 + 1) _ h _ (by kernel_rfl)⟩)
      | false =>
        replace h := condF h
        by_cases h6 : InR (v11 + 1)
        case neg => exact absurd (iteF h6 h) (by simp)
        replace h := iteT h6 h
        refine Sys.to [((9, 2), .ix), ((9, 3), .cell (.sc (.bool false))), ((8, 1), .n)] 999999 (.fin .normal) ⟨fl [(2, dInt p2), (3, .pt 0 1 0), (7, .c (eSl x)), (9, .c (eSl x_3)), (10, apl v10), (11, dInt (v11 + 1))], ⟨[⟨1, (EncX.encX p0).map DV.c⟩], []⟩⟩ (And.intro (atI_b h3) (And.intro (cell_at 0 (c := .sc (.bool false)) rfl (atI_g h3)) (h6))) (by kernel_rfl) ?_
        exact Sys.fin (.inl ⟨rfl, ⟨fl [(2, dInt p2), (3, .pt 0 1 0), (7, .c (eSl x)), (9, .c (eSl x_3)), (10, apl v10), (11, dInt (v11 + 1))], ⟨[⟨1, (EncX.encX p0).map DV.c⟩], []⟩⟩, (by kernel_rfl), ih v10 (v11 + 1) _ h _ (by kernel_rfl)⟩)
    · replace h := iteF h1 h
      have hr := Option.some.inj h
      subst hr
      exact Sys.endX [((7, 3), .b false)] (h1) rfl (by kernel_rfl)

def vigilref13_Sections (n : Nat) (p0 : GFlow) (p1 : Int) (p2 : Int) : Option (List Int) :=
  (vigilref13_Held n p0 p1).bind fun (x, x_2) =>
  bif x_2 then
    if p2 < 0 then
      some ([] : List Int)
    else if p2 ≥ p1 then
      some ([] : List Int)
    else (vigilref13_Reached n p0).bind fun x_3 =>
    (vigilref13_Sections_L7 p0 p2 x x_3 n n ([] : List Int) 0).bind fun o_2 => match o_2 with
    | .e0 v10_2 v11_2 =>
      some v10_2
  else some ([] : List Int)
theorem vigilref13_Sections_ok {n : Nat} {p0 : GFlow} {p1 : Int} {p2 : Int} {r : List Int} (h : vigilref13_Sections n p0 p1 p2 = some r) : X.RunsC 12 [.c (.agg (EncX.encX p0)), dInt p1, dInt p2] (apl r) := by
  unfold vigilref13_Sections at h
  refine Sys.callC' (fn := Try.f12) (b := b12) (by kernel_rfl) (by kernel_rfl) ?_
  obtain ⟨⟨x, x_2⟩, g2, h⟩ := bindE h
  dsimp only at h
  have h2 := vigilref13_Held_ok g2
  refine Sys.to [((1, 2), .call (.tup [.c (eSl x), dB x_2]) ⟨[], []⟩)] 2 (.at [1, 1, 0, 0]) ⟨fl [(1, dInt p1), (2, dInt p2), (3, .pt 0 1 0), (7, .c (eSl x)), (8, dB x_2)], ⟨[⟨1, (EncX.encX p0).map DV.c⟩], []⟩⟩ (h2) (by kernel_rfl) ?_
  cases x_2 with
  | true =>
    replace h := condT h
    by_cases h5 : p2 < 0
    · replace h := iteT h5 h
      have hr := Option.some.inj h
      subst hr
      exact Sys.endC [((2, 4), .b true)] (h5) (by kernel_rfl)
    · replace h := iteF h5 h
      by_cases h6 : p2 ≥ p1
      · replace h := iteT h6 h
        have hr := Option.some.inj h
        subst hr
        exact Sys.endC [((2, 4), .b false), ((2, 9), .b true)] (And.intro (h5) (h6)) (by kernel_rfl)
      · replace h := iteF h6 h
        obtain ⟨x_3, g8, h⟩ := bindE h
        have h8 := vigilref13_Reached_ok g8
        obtain ⟨o_2, g12, h⟩ := bindE h
        have h12 := vigilref13_Sections_L7_ok p0 p2 x x_3 n n ([] : List Int) 0 _ g12
        cases o_2 with
        | e0 v10_2 v11_2 =>
          dsimp only at h
          have hr := Option.some.inj h
          subst hr
          exact Sys.endC [((2, 4), .b false), ((2, 9), .b false), ((4, 1), .call (.c (eSl x_3)) ⟨[], []⟩), ((7, 1000), .code (.exit 0) ⟨fl [(2, dInt p2), (3, .pt 0 1 0), (7, .c (eSl x)), (9, .c (eSl x_3)), (10, apl v10_2), (11, dInt v11_2), (34, dB false)], ⟨[⟨1, (EncX.encX p0).map DV.c⟩], []⟩⟩)] (And.intro (h5) (And.intro (h6) (And.intro (h8) (Sys.Loop.goM (h12 ⟨fl [(2, dInt p2), (3, .pt 0 1 0), (7, .c (eSl x)), (9, .c (eSl x_3)), (10, apl ([] : List Int)), (11, dInt 0)], ⟨[⟨1, (EncX.encX p0).map DV.c⟩], []⟩⟩ (by kernel_rfl)) (by kernel_rfl))))) (by kernel_rfl)
  | false =>
    replace h := condF h
    have hr := Option.some.inj h
    subst hr
    exact Sys.endC [] (True.intro) (by kernel_rfl)
def vigilref13_Same (n : Nat) (p0 : Sl Int) (p1 : Sl Int) : Option Bool :=
  (vigilref13_same_3 n p0 p1).bind fun x =>
  some x
theorem vigilref13_Same_ok {n : Nat} {p0 : Sl Int} {p1 : Sl Int} {r : Bool} (h : vigilref13_Same n p0 p1 = some r) : X.RunsC 10 [.c (eSl p0), .c (eSl p1)] (dB r) := by
  unfold vigilref13_Same at h
  refine Sys.callC' (fn := Try.f10) (b := b10) (by kernel_rfl) (by kernel_rfl) ?_
  obtain ⟨x, g2, h⟩ := bindE h
  have h2 := vigilref13_same_3_ok g2
  have hr := Option.some.inj h
  subst hr
  exact Sys.endC [((1, 2), .call (dB x) ⟨[], []⟩)] (h2) (by kernel_rfl)
inductive vigillaw13_HeldFinds_J1O where
  | r (v6 : Bool)
  | m
def vigillaw13_HeldFinds_J1x : vigillaw13_HeldFinds_J1O → Ex
  | .r _ => .ret
  | .m => .normal
def vigillaw13_HeldFinds_J1s (p0 : GFlow) (p1 : Int) (p2 : Int) : vigillaw13_HeldFinds_J1O → S
  | .r v6 => ⟨fl [(6, dB v6)], ⟨[⟨1, (EncX.encX p0).map DV.c⟩], []⟩⟩
  | .m => ⟨fl [(1, dInt p1), (2, dInt p2), (3, .pt 0 1 0), (24, dB false)], ⟨[⟨1, (EncX.encX p0).map DV.c⟩], []⟩⟩
def vigillaw13_HeldFinds_J1 (p0 : GFlow) (p1 : Int) (p2 : Int) (n : Nat) : Option vigillaw13_HeldFinds_J1O :=
  if (p0.edges.l.length : Int) > 100 then
    (Kn.lv).bind fun x =>
    some (.r x)
  else if p0.locs > 100 then
    if p0.locs ≤ 600 then
      (Kn.lv).bind fun x_2 =>
      some (.r x_2)
    else some (.m)
  else some (.m)
theorem vigillaw13_HeldFinds_J1_ok (p0 : GFlow) (p1 : Int) (p2 : Int) (n : Nat) (o : vigillaw13_HeldFinds_J1O) (h : vigillaw13_HeldFinds_J1 p0 p1 p2 n = some o) : X.Go 3 60 [] (sub b3 [1, 0]) ⟨fl [(1, dInt p1), (2, dInt p2), (3, .pt 0 1 0)], ⟨[⟨1, (EncX.encX p0).map DV.c⟩], []⟩⟩ (vigillaw13_HeldFinds_J1x o) (vigillaw13_HeldFinds_J1s p0 p1 p2 o) := by
  unfold vigillaw13_HeldFinds_J1 at h
  refine Sys.goE ?_
  by_cases h1 : (p0.edges.l.length : Int) > 100
  · replace h := iteT h1 h
    obtain ⟨x, g3, h⟩ := bindE h
    have h3 := Kn.lvok g3
    have hr := Option.some.inj h
    subst hr
    exact Sys.endJ [((1, 3), .b true), ((2, 0), .op { d := dB x })] (And.intro (h1) ((h3 [⟨1, (EncX.encX p0).map DV.c⟩]))) (by kernel_rfl)
  · replace h := iteF h1 h
    by_cases h2 : p0.locs > 100
    · replace h := iteT h2 h
      by_cases h3 : p0.locs ≤ 600
      · replace h := iteT h3 h
        obtain ⟨x_2, g5, h⟩ := bindE h
        have h5 := Kn.lvok g5
        have hr := Option.some.inj h
        subst hr
        exact Sys.endJ [((1, 3), .b false), ((1, 7), .b true), ((1, 11), .b true), ((2, 0), .op { d := dB x_2 })] (And.intro (h1) (And.intro (h2) (And.intro (h3) ((h5 [⟨1, (EncX.encX p0).map DV.c⟩]))))) (by kernel_rfl)
      · replace h := iteF h3 h
        have hr := Option.some.inj h
        subst hr
        exact Sys.endJ [((1, 3), .b false), ((1, 7), .b true), ((1, 11), .b false)] (And.intro (h1) (And.intro (h2) (h3))) (by kernel_rfl)
    · replace h := iteF h2 h
      have hr := Option.some.inj h
      subst hr
      exact Sys.endJ [((1, 3), .b false), ((1, 7), .b false)] (And.intro (h1) (h2)) (by kernel_rfl)

def vigillaw13_HeldFinds (n : Nat) (p0 : GFlow) (p1 : Int) (p2 : Int) : Option Bool :=
  (vigillaw13_HeldFinds_J1 p0 p1 p2 n).bind fun o_2 => match o_2 with
  | .r v6 =>
    some v6
  | .m =>
    (Kn.held p0 p1).bind fun (x_3, x_4) =>
    (vigilref13_Held n p0 p1).bind fun (x_5, x_6) =>
    (vigilref13_Lists n x_3 x_5).bind fun x_7 =>
    bif x_7 then
      bif x_4 then
        bif x_6 then
          (held_Sections n p0 p1 p2).bind fun x_8 =>
          (vigilref13_Sections n p0 p1 p2).bind fun x_10 =>
          (vigilref13_Same n (Sl.gr x_8) (Sl.gr x_10)).bind fun x_12 =>
          bif x_12 then
            (Kn.lv).bind fun x_14 =>
            some x_14
          else some false
        else some false
      else bif x_6 then
        some false
      else (held_Sections n p0 p1 p2).bind fun x_9 =>
      (vigilref13_Sections n p0 p1 p2).bind fun x_11 =>
      (vigilref13_Same n (Sl.gr x_9) (Sl.gr x_11)).bind fun x_13 =>
      bif x_13 then
        (Kn.lv).bind fun x_15 =>
        some x_15
      else some false
    else some false
theorem vigillaw13_HeldFinds_ok {n : Nat} {p0 : GFlow} {p1 : Int} {p2 : Int} {r : Bool} (h : vigillaw13_HeldFinds n p0 p1 p2 = some r) : X.RunsC 3 [.c (.agg (EncX.encX p0)), dInt p1, dInt p2] (dB r) := by
  unfold vigillaw13_HeldFinds at h
  refine Sys.callC' (fn := Try.f3) (b := b3) (by kernel_rfl) (by kernel_rfl) ?_
  refine Sys.to [] 201001 (.at [1, 0]) ⟨fl [(1, dInt p1), (2, dInt p2), (3, .pt 0 1 0)], ⟨[⟨1, (EncX.encX p0).map DV.c⟩], []⟩⟩ (True.intro) (by kernel_rfl) ?_
  obtain ⟨o_2, g2, h⟩ := bindE h
  have h2 := vigillaw13_HeldFinds_J1_ok p0 p1 p2 n _ g2
  cases o_2 with
  | r v6 =>
    dsimp only at h
    refine Sys.over h2 ?_
    have hr := Option.some.inj h
    subst hr
    exact Sys.endC [] (True.intro) (by kernel_rfl)
  | m =>
    dsimp only at h
    refine Sys.over h2 ?_
    obtain ⟨⟨x_3, x_4⟩, g4, h⟩ := bindE h
    dsimp only at h
    have h4 := Kn.ok g4
    obtain ⟨⟨x_5, x_6⟩, g6, h⟩ := bindE h
    dsimp only at h
    have h6 := vigilref13_Held_ok g6
    obtain ⟨x_7, g8, h⟩ := bindE h
    have h8 := vigilref13_Lists_ok g8
    refine Sys.to [((3, 2), .op { d := .tup [.c (eSl x_3), dB x_4] }), ((4, 2), .call (.tup [.c (eSl x_5), dB x_6]) ⟨[], []⟩)] 5 (.at [1, 1, 1, 1, 0]) ⟨fl [(1, dInt p1), (2, dInt p2), (3, .pt 0 1 0), (7, .c (eSl x_3)), (8, dB x_4), (9, .c (eSl x_5)), (10, dB x_6)], ⟨[⟨1, (EncX.encX p0).map DV.c⟩], []⟩⟩ (And.intro ((h4 [⟨1, (EncX.encX p0).map DV.c⟩])) (h6)) (by kernel_rfl) ?_
    cases x_7 with
    | true =>
      replace h := condT h
      cases x_4 with
      | true =>
        replace h := condT h
        cases x_6 with
        | true =>
          replace h := condT h
          obtain ⟨x_8, g12, h⟩ := bindE h
          have h12 := held_Sections_ok g12
          obtain ⟨x_10, g13, h⟩ := bindE h
          have h13 := vigilref13_Sections_ok g13
          obtain ⟨x_12, g14, h⟩ := bindE h
          have h14 := vigilref13_Same_ok g14
          cases x_12 with
          | true =>
            replace h := condT h
            obtain ⟨x_14, g16, h⟩ := bindE h
            have h16 := Kn.lvok g16
            have hr := Option.some.inj h
            subst hr
            exact Sys.endC [((5, 2), .call (dB true) ⟨[], []⟩), ((5, 6), .op { d := dB true }), ((5, 12), .call (apl x_8) ⟨[], []⟩), ((5, 16), .call (apl x_10) ⟨[], []⟩), ((5, 17), .call (dB true) ⟨[], []⟩), ((5, 20), .op { d := dB x_14 })] (And.intro (h8) (And.intro (bool_eql (P := X.P) (t := 4) true true (by kernel_rfl) (by kernel_rfl)) (And.intro (h12) (And.intro (h13) (And.intro (h14) ((h16 [⟨1, (EncX.encX p0).map DV.c⟩]))))))) (by kernel_rfl)
          | false =>
            replace h := condF h
            have hr := Option.some.inj h
            subst hr
            exact Sys.endC [((5, 2), .call (dB true) ⟨[], []⟩), ((5, 6), .op { d := dB true }), ((5, 12), .call (apl x_8) ⟨[], []⟩), ((5, 16), .call (apl x_10) ⟨[], []⟩), ((5, 17), .call (dB false) ⟨[], []⟩)] (And.intro (h8) (And.intro (bool_eql (P := X.P) (t := 4) true true (by kernel_rfl) (by kernel_rfl)) (And.intro (h12) (And.intro (h13) (h14))))) (by kernel_rfl)
        | false =>
          replace h := condF h
          have hr := Option.some.inj h
          subst hr
          exact Sys.endC [((5, 2), .call (dB true) ⟨[], []⟩), ((5, 6), .op { d := dB false })] (And.intro (h8) (bool_eql (P := X.P) (t := 4) true false (by kernel_rfl) (by kernel_rfl))) (by kernel_rfl)
      | false =>
        replace h := condF h
        cases x_6 with
        | true =>
          replace h := condT h
          have hr := Option.some.inj h
          subst hr
          exact Sys.endC [((5, 2), .call (dB true) ⟨[], []⟩), ((5, 6), .op { d := dB false })] (And.intro (h8) (bool_eql (P := X.P) (t := 4) false true (by kernel_rfl) (by kernel_rfl))) (by kernel_rfl)
        | false =>
          replace h := condF h
          obtain ⟨x_9, g12, h⟩ := bindE h
          have h12 := held_Sections_ok g12
          obtain ⟨x_11, g13, h⟩ := bindE h
          have h13 := vigilref13_Sections_ok g13
          obtain ⟨x_13, g14, h⟩ := bindE h
          have h14 := vigilref13_Same_ok g14
          cases x_13 with
          | true =>
            replace h := condT h
            obtain ⟨x_15, g16, h⟩ := bindE h
            have h16 := Kn.lvok g16
            have hr := Option.some.inj h
            subst hr
            exact Sys.endC [((5, 2), .call (dB true) ⟨[], []⟩), ((5, 6), .op { d := dB true }), ((5, 12), .call (apl x_9) ⟨[], []⟩), ((5, 16), .call (apl x_11) ⟨[], []⟩), ((5, 17), .call (dB true) ⟨[], []⟩), ((5, 20), .op { d := dB x_15 })] (And.intro (h8) (And.intro (bool_eql (P := X.P) (t := 4) false false (by kernel_rfl) (by kernel_rfl)) (And.intro (h12) (And.intro (h13) (And.intro (h14) ((h16 [⟨1, (EncX.encX p0).map DV.c⟩]))))))) (by kernel_rfl)
          | false =>
            replace h := condF h
            have hr := Option.some.inj h
            subst hr
            exact Sys.endC [((5, 2), .call (dB true) ⟨[], []⟩), ((5, 6), .op { d := dB true }), ((5, 12), .call (apl x_9) ⟨[], []⟩), ((5, 16), .call (apl x_11) ⟨[], []⟩), ((5, 17), .call (dB false) ⟨[], []⟩)] (And.intro (h8) (And.intro (bool_eql (P := X.P) (t := 4) false false (by kernel_rfl) (by kernel_rfl)) (And.intro (h12) (And.intro (h13) (h14))))) (by kernel_rfl)
    | false =>
      replace h := condF h
      have hr := Option.some.inj h
      subst hr
      exact Sys.endC [((5, 2), .call (dB false) ⟨[], []⟩)] (h8) (by kernel_rfl)
inductive vigillaw13_HeldMore_L9O where
  | e0 (v8 : Bool) (v9 : Int)
def vigillaw13_HeldMore_L9x : vigillaw13_HeldMore_L9O → Ex
  | .e0 _ _ => (.exit 0)
def vigillaw13_HeldMore_L9s (p0 : Sl GNest) (p1 : GNest) : vigillaw13_HeldMore_L9O → S
  | .e0 v8 v9 => ⟨fl [(0, .c (eSl p0)), (3, .pt 0 1 0), (6, dB true), (7, dB true), (8, dB v8), (9, dInt v9), (43, dB false)], ⟨[⟨1, (EncX.encX p1).map DV.c⟩], []⟩⟩
def vigillaw13_HeldMore_L9 (p0 : Sl GNest) (p1 : GNest) (n : Nat) : Nat → Bool → Int → Option vigillaw13_HeldMore_L9O
  | 0, _, _ => none
  | k + 1, v8, v9 =>
    if v9 < (p0.l.length : Int) then
      bif v8 then
        (atI p0.l v9).bind fun v50 =>
        if v50.outer ≠ p1.inner then
          if InR (v9 + 1) then vigillaw13_HeldMore_L9 p0 p1 n k true (v9 + 1)
          else none
        else if InR (v9 + 1) then vigillaw13_HeldMore_L9 p0 p1 n k false (v9 + 1)
        else none
      else if InR (v9 + 1) then vigillaw13_HeldMore_L9 p0 p1 n k false (v9 + 1)
      else none
    else some (.e0 v8 v9)
theorem vigillaw13_HeldMore_L9_ok (p0 : Sl GNest) (p1 : GNest) (n : Nat) : ∀ (k : Nat) (v8 : Bool) (v9 : Int) (o : vigillaw13_HeldMore_L9O), vigillaw13_HeldMore_L9 p0 p1 n k v8 v9 = some o → ∀ s : S, restrS (X.an.rs 5 9) s = ⟨fl [(0, .c (eSl p0)), (3, .pt 0 1 0), (6, dB true), (7, dB true), (8, dB v8), (9, dInt v9)], ⟨[⟨1, (EncX.encX p1).map DV.c⟩], []⟩⟩ → X.Loop 5 74 [] (sub b5 [1, 1, 1, 1, 1, 1, 0, 1, 0, 0]) 1 s (vigillaw13_HeldMore_L9x o) (vigillaw13_HeldMore_L9s p0 p1 o) := by
  intro k
  induction k with
  | zero => intro v8 v9 o h s hs; unfold vigillaw13_HeldMore_L9 at h; cases h
  | succ k ih =>
    intro v8 v9 o h s hs
    unfold vigillaw13_HeldMore_L9 at h
    refine Sys.loopQ hs ?_
    by_cases h1 : v9 < (p0.l.length : Int)
    · replace h := iteT h1 h
      refine Sys.to [((9, 3), .b true)] 11 (.at [1, 0, 0]) ⟨fl [(0, .c (eSl p0)), (3, .pt 0 1 0), (6, dB true), (7, dB true), (8, dB v8), (9, dInt v9), (43, dB true)], ⟨[⟨1, (EncX.encX p1).map DV.c⟩], []⟩⟩ (h1) (by kernel_rfl) ?_
      cases v8 with
      | true =>
        replace h := condT h
        obtain ⟨v50, h4, h⟩ := bindE h
        by_cases h5 : v50.outer ≠ p1.inner
        · replace h := iteT h5 h
          by_cases h7 : InR (v9 + 1)
          case neg => exact absurd (iteF h7 h) (by simp)
          replace h := iteT h7 h
          refine Sys.to [((11, 4), .ix), ((11, 6), .cell (cInt v50.outer)), ((11, 9), .b true), ((10, 1), .n)] 999999 (.fin .normal) ⟨fl [(0, .c (eSl p0)), (3, .pt 0 1 0), (6, dB true), (7, dB true), (8, dB true), (9, dInt (v9 + 1))], ⟨[⟨1, (EncX.encX p1).map DV.c⟩], []⟩⟩ (And.intro (atI_b h4) (And.intro (cell_at 0 (c := cInt v50.outer) rfl (atI_g h4)) (And.intro (h5) (h7)))) (by kernel_rfl) ?_
          exact Sys.fin (.inl ⟨rfl, ⟨fl [(0, .c (eSl p0)), (3, .pt 0 1 0), (6, dB true), (7, dB true), (8, dB true), (9, dInt (v9 + 1))], ⟨[⟨1, (EncX.encX p1).map DV.c⟩], []⟩⟩, (by kernel_rfl), ih true (v9 + 1) _ h _ (by kernel_rfl)⟩)
        · replace h := iteF h5 h
          by_cases h7 : InR (v9 + 1)
          case neg => exact absurd (iteF h7 h) (by simp)
          replace h := iteT h7 h
          refine Sys.to [((11, 4), .ix), ((11, 6), .cell (cInt v50.outer)), ((11, 9), .b false), ((10, 1), .n)] 999999 (.fin .normal) ⟨fl [(0, .c (eSl p0)), (3, .pt 0 1 0), (6, dB true), (7, dB true), (8, dB false), (9, dInt (v9 + 1))], ⟨[⟨1, (EncX.encX p1).map DV.c⟩], []⟩⟩ (And.intro (atI_b h4) (And.intro (cell_at 0 (c := cInt v50.outer) rfl (atI_g h4)) (And.intro (h5) (h7)))) (by kernel_rfl) ?_
          exact Sys.fin (.inl ⟨rfl, ⟨fl [(0, .c (eSl p0)), (3, .pt 0 1 0), (6, dB true), (7, dB true), (8, dB false), (9, dInt (v9 + 1))], ⟨[⟨1, (EncX.encX p1).map DV.c⟩], []⟩⟩, (by kernel_rfl), ih false (v9 + 1) _ h _ (by kernel_rfl)⟩)
      | false =>
        replace h := condF h
        by_cases h5 : InR (v9 + 1)
        case neg => exact absurd (iteF h5 h) (by simp)
        replace h := iteT h5 h
        refine Sys.to [((10, 1), .n)] 999999 (.fin .normal) ⟨fl [(0, .c (eSl p0)), (3, .pt 0 1 0), (6, dB true), (7, dB true), (8, dB false), (9, dInt (v9 + 1))], ⟨[⟨1, (EncX.encX p1).map DV.c⟩], []⟩⟩ (h5) (by kernel_rfl) ?_
        exact Sys.fin (.inl ⟨rfl, ⟨fl [(0, .c (eSl p0)), (3, .pt 0 1 0), (6, dB true), (7, dB true), (8, dB false), (9, dInt (v9 + 1))], ⟨[⟨1, (EncX.encX p1).map DV.c⟩], []⟩⟩, (by kernel_rfl), ih false (v9 + 1) _ h _ (by kernel_rfl)⟩)
    · replace h := iteF h1 h
      have hr := Option.some.inj h
      subst hr
      exact Sys.endX [((9, 3), .b false)] (h1) rfl (by kernel_rfl)

inductive vigillaw13_HeldMore_L9_2O where
  | e0 (v8 : Bool) (v9 : Int)
def vigillaw13_HeldMore_L9_2x : vigillaw13_HeldMore_L9_2O → Ex
  | .e0 _ _ => (.exit 0)
def vigillaw13_HeldMore_L9_2s (p0 : Sl GNest) (p1 : GNest) : vigillaw13_HeldMore_L9_2O → S
  | .e0 v8 v9 => ⟨fl [(0, .c (eSl p0)), (3, .pt 0 1 0), (6, dB true), (7, dB true), (8, dB v8), (9, dInt v9), (43, dB false)], ⟨[⟨1, (EncX.encX p1).map DV.c⟩], []⟩⟩
def vigillaw13_HeldMore_L9_2 (p0 : Sl GNest) (p1 : GNest) (n : Nat) : Nat → Bool → Int → Option vigillaw13_HeldMore_L9_2O
  | 0, _, _ => none
  | k + 1, v8_9, v9_9 =>
    if v9_9 < (p0.l.length : Int) then
      bif v8_9 then
        (atI p0.l v9_9).bind fun v50_2 =>
        if v50_2.outer ≠ p1.inner then
          if InR (v9_9 + 1) then vigillaw13_HeldMore_L9_2 p0 p1 n k true (v9_9 + 1)
          else none
        else if InR (v9_9 + 1) then vigillaw13_HeldMore_L9_2 p0 p1 n k false (v9_9 + 1)
        else none
      else if InR (v9_9 + 1) then vigillaw13_HeldMore_L9_2 p0 p1 n k false (v9_9 + 1)
      else none
    else some (.e0 v8_9 v9_9)
theorem vigillaw13_HeldMore_L9_2_ok (p0 : Sl GNest) (p1 : GNest) (n : Nat) : ∀ (k : Nat) (v8_9 : Bool) (v9_9 : Int) (o : vigillaw13_HeldMore_L9_2O), vigillaw13_HeldMore_L9_2 p0 p1 n k v8_9 v9_9 = some o → ∀ s : S, restrS (X.an.rs 5 9) s = ⟨fl [(0, .c (eSl p0)), (3, .pt 0 1 0), (6, dB true), (7, dB true), (8, dB v8_9), (9, dInt v9_9)], ⟨[⟨1, (EncX.encX p1).map DV.c⟩], []⟩⟩ → X.Loop 5 74 [] (sub b5 [1, 1, 1, 1, 1, 1, 0, 1, 0, 0]) 1 s (vigillaw13_HeldMore_L9_2x o) (vigillaw13_HeldMore_L9_2s p0 p1 o) := by
  intro k
  induction k with
  | zero => intro v8_9 v9_9 o h s hs; unfold vigillaw13_HeldMore_L9_2 at h; cases h
  | succ k ih =>
    intro v8_9 v9_9 o h s hs
    unfold vigillaw13_HeldMore_L9_2 at h
    refine Sys.loopQ hs ?_
    by_cases h1 : v9_9 < (p0.l.length : Int)
    · replace h := iteT h1 h
      refine Sys.to [((9, 3), .b true)] 11 (.at [1, 0, 0]) ⟨fl [(0, .c (eSl p0)), (3, .pt 0 1 0), (6, dB true), (7, dB true), (8, dB v8_9), (9, dInt v9_9), (43, dB true)], ⟨[⟨1, (EncX.encX p1).map DV.c⟩], []⟩⟩ (h1) (by kernel_rfl) ?_
      cases v8_9 with
      | true =>
        replace h := condT h
        obtain ⟨v50_2, h4, h⟩ := bindE h
        by_cases h5 : v50_2.outer ≠ p1.inner
        · replace h := iteT h5 h
          by_cases h7 : InR (v9_9 + 1)
          case neg => exact absurd (iteF h7 h) (by simp)
          replace h := iteT h7 h
          refine Sys.to [((11, 4), .ix), ((11, 6), .cell (cInt v50_2.outer)), ((11, 9), .b true), ((10, 1), .n)] 999999 (.fin .normal) ⟨fl [(0, .c (eSl p0)), (3, .pt 0 1 0), (6, dB true), (7, dB true), (8, dB true), (9, dInt (v9_9 + 1))], ⟨[⟨1, (EncX.encX p1).map DV.c⟩], []⟩⟩ (And.intro (atI_b h4) (And.intro (cell_at 0 (c := cInt v50_2.outer) rfl (atI_g h4)) (And.intro (h5) (h7)))) (by kernel_rfl) ?_
          exact Sys.fin (.inl ⟨rfl, ⟨fl [(0, .c (eSl p0)), (3, .pt 0 1 0), (6, dB true), (7, dB true), (8, dB true), (9, dInt (v9_9 + 1))], ⟨[⟨1, (EncX.encX p1).map DV.c⟩], []⟩⟩, (by kernel_rfl), ih true (v9_9 + 1) _ h _ (by kernel_rfl)⟩)
        · replace h := iteF h5 h
          by_cases h7 : InR (v9_9 + 1)
          case neg => exact absurd (iteF h7 h) (by simp)
          replace h := iteT h7 h
          refine Sys.to [((11, 4), .ix), ((11, 6), .cell (cInt v50_2.outer)), ((11, 9), .b false), ((10, 1), .n)] 999999 (.fin .normal) ⟨fl [(0, .c (eSl p0)), (3, .pt 0 1 0), (6, dB true), (7, dB true), (8, dB false), (9, dInt (v9_9 + 1))], ⟨[⟨1, (EncX.encX p1).map DV.c⟩], []⟩⟩ (And.intro (atI_b h4) (And.intro (cell_at 0 (c := cInt v50_2.outer) rfl (atI_g h4)) (And.intro (h5) (h7)))) (by kernel_rfl) ?_
          exact Sys.fin (.inl ⟨rfl, ⟨fl [(0, .c (eSl p0)), (3, .pt 0 1 0), (6, dB true), (7, dB true), (8, dB false), (9, dInt (v9_9 + 1))], ⟨[⟨1, (EncX.encX p1).map DV.c⟩], []⟩⟩, (by kernel_rfl), ih false (v9_9 + 1) _ h _ (by kernel_rfl)⟩)
      | false =>
        replace h := condF h
        by_cases h5 : InR (v9_9 + 1)
        case neg => exact absurd (iteF h5 h) (by simp)
        replace h := iteT h5 h
        refine Sys.to [((10, 1), .n)] 999999 (.fin .normal) ⟨fl [(0, .c (eSl p0)), (3, .pt 0 1 0), (6, dB true), (7, dB true), (8, dB false), (9, dInt (v9_9 + 1))], ⟨[⟨1, (EncX.encX p1).map DV.c⟩], []⟩⟩ (h5) (by kernel_rfl) ?_
        exact Sys.fin (.inl ⟨rfl, ⟨fl [(0, .c (eSl p0)), (3, .pt 0 1 0), (6, dB true), (7, dB true), (8, dB false), (9, dInt (v9_9 + 1))], ⟨[⟨1, (EncX.encX p1).map DV.c⟩], []⟩⟩, (by kernel_rfl), ih false (v9_9 + 1) _ h _ (by kernel_rfl)⟩)
    · replace h := iteF h1 h
      have hr := Option.some.inj h
      subst hr
      exact Sys.endX [((9, 3), .b false)] (h1) rfl (by kernel_rfl)

inductive vigillaw13_HeldMore_L9_3O where
  | e0 (v8 : Bool) (v9 : Int)
def vigillaw13_HeldMore_L9_3x : vigillaw13_HeldMore_L9_3O → Ex
  | .e0 _ _ => (.exit 0)
def vigillaw13_HeldMore_L9_3s (p0 : Sl GNest) (p1 : GNest) : vigillaw13_HeldMore_L9_3O → S
  | .e0 v8 v9 => ⟨fl [(0, .c (eSl p0)), (3, .pt 0 1 0), (6, dB false), (7, dB true), (8, dB v8), (9, dInt v9), (43, dB false)], ⟨[⟨1, (EncX.encX p1).map DV.c⟩], []⟩⟩
def vigillaw13_HeldMore_L9_3 (p0 : Sl GNest) (p1 : GNest) (n : Nat) : Nat → Bool → Int → Option vigillaw13_HeldMore_L9_3O
  | 0, _, _ => none
  | k + 1, v8_9_2, v9_9_2 =>
    if v9_9_2 < (p0.l.length : Int) then
      bif v8_9_2 then
        (atI p0.l v9_9_2).bind fun v50_3 =>
        if v50_3.outer ≠ p1.inner then
          if InR (v9_9_2 + 1) then vigillaw13_HeldMore_L9_3 p0 p1 n k true (v9_9_2 + 1)
          else none
        else if InR (v9_9_2 + 1) then vigillaw13_HeldMore_L9_3 p0 p1 n k false (v9_9_2 + 1)
        else none
      else if InR (v9_9_2 + 1) then vigillaw13_HeldMore_L9_3 p0 p1 n k false (v9_9_2 + 1)
      else none
    else some (.e0 v8_9_2 v9_9_2)
theorem vigillaw13_HeldMore_L9_3_ok (p0 : Sl GNest) (p1 : GNest) (n : Nat) : ∀ (k : Nat) (v8_9_2 : Bool) (v9_9_2 : Int) (o : vigillaw13_HeldMore_L9_3O), vigillaw13_HeldMore_L9_3 p0 p1 n k v8_9_2 v9_9_2 = some o → ∀ s : S, restrS (X.an.rs 5 9) s = ⟨fl [(0, .c (eSl p0)), (3, .pt 0 1 0), (6, dB false), (7, dB true), (8, dB v8_9_2), (9, dInt v9_9_2)], ⟨[⟨1, (EncX.encX p1).map DV.c⟩], []⟩⟩ → X.Loop 5 74 [] (sub b5 [1, 1, 1, 1, 1, 1, 0, 1, 0, 0]) 1 s (vigillaw13_HeldMore_L9_3x o) (vigillaw13_HeldMore_L9_3s p0 p1 o) := by
  intro k
  induction k with
  | zero => intro v8_9_2 v9_9_2 o h s hs; unfold vigillaw13_HeldMore_L9_3 at h; cases h
  | succ k ih =>
    intro v8_9_2 v9_9_2 o h s hs
    unfold vigillaw13_HeldMore_L9_3 at h
    refine Sys.loopQ hs ?_
    by_cases h1 : v9_9_2 < (p0.l.length : Int)
    · replace h := iteT h1 h
      refine Sys.to [((9, 3), .b true)] 11 (.at [1, 0, 0]) ⟨fl [(0, .c (eSl p0)), (3, .pt 0 1 0), (6, dB false), (7, dB true), (8, dB v8_9_2), (9, dInt v9_9_2), (43, dB true)], ⟨[⟨1, (EncX.encX p1).map DV.c⟩], []⟩⟩ (h1) (by kernel_rfl) ?_
      cases v8_9_2 with
      | true =>
        replace h := condT h
        obtain ⟨v50_3, h4, h⟩ := bindE h
        by_cases h5 : v50_3.outer ≠ p1.inner
        · replace h := iteT h5 h
          by_cases h7 : InR (v9_9_2 + 1)
          case neg => exact absurd (iteF h7 h) (by simp)
          replace h := iteT h7 h
          refine Sys.to [((11, 4), .ix), ((11, 6), .cell (cInt v50_3.outer)), ((11, 9), .b true), ((10, 1), .n)] 999999 (.fin .normal) ⟨fl [(0, .c (eSl p0)), (3, .pt 0 1 0), (6, dB false), (7, dB true), (8, dB true), (9, dInt (v9_9_2 + 1))], ⟨[⟨1, (EncX.encX p1).map DV.c⟩], []⟩⟩ (And.intro (atI_b h4) (And.intro (cell_at 0 (c := cInt v50_3.outer) rfl (atI_g h4)) (And.intro (h5) (h7)))) (by kernel_rfl) ?_
          exact Sys.fin (.inl ⟨rfl, ⟨fl [(0, .c (eSl p0)), (3, .pt 0 1 0), (6, dB false), (7, dB true), (8, dB true), (9, dInt (v9_9_2 + 1))], ⟨[⟨1, (EncX.encX p1).map DV.c⟩], []⟩⟩, (by kernel_rfl), ih true (v9_9_2 + 1) _ h _ (by kernel_rfl)⟩)
        · replace h := iteF h5 h
          by_cases h7 : InR (v9_9_2 + 1)
          case neg => exact absurd (iteF h7 h) (by simp)
          replace h := iteT h7 h
          refine Sys.to [((11, 4), .ix), ((11, 6), .cell (cInt v50_3.outer)), ((11, 9), .b false), ((10, 1), .n)] 999999 (.fin .normal) ⟨fl [(0, .c (eSl p0)), (3, .pt 0 1 0), (6, dB false), (7, dB true), (8, dB false), (9, dInt (v9_9_2 + 1))], ⟨[⟨1, (EncX.encX p1).map DV.c⟩], []⟩⟩ (And.intro (atI_b h4) (And.intro (cell_at 0 (c := cInt v50_3.outer) rfl (atI_g h4)) (And.intro (h5) (h7)))) (by kernel_rfl) ?_
          exact Sys.fin (.inl ⟨rfl, ⟨fl [(0, .c (eSl p0)), (3, .pt 0 1 0), (6, dB false), (7, dB true), (8, dB false), (9, dInt (v9_9_2 + 1))], ⟨[⟨1, (EncX.encX p1).map DV.c⟩], []⟩⟩, (by kernel_rfl), ih false (v9_9_2 + 1) _ h _ (by kernel_rfl)⟩)
      | false =>
        replace h := condF h
        by_cases h5 : InR (v9_9_2 + 1)
        case neg => exact absurd (iteF h5 h) (by simp)
        replace h := iteT h5 h
        refine Sys.to [((10, 1), .n)] 999999 (.fin .normal) ⟨fl [(0, .c (eSl p0)), (3, .pt 0 1 0), (6, dB false), (7, dB true), (8, dB false), (9, dInt (v9_9_2 + 1))], ⟨[⟨1, (EncX.encX p1).map DV.c⟩], []⟩⟩ (h5) (by kernel_rfl) ?_
        exact Sys.fin (.inl ⟨rfl, ⟨fl [(0, .c (eSl p0)), (3, .pt 0 1 0), (6, dB false), (7, dB true), (8, dB false), (9, dInt (v9_9_2 + 1))], ⟨[⟨1, (EncX.encX p1).map DV.c⟩], []⟩⟩, (by kernel_rfl), ih false (v9_9_2 + 1) _ h _ (by kernel_rfl)⟩)
    · replace h := iteF h1 h
      have hr := Option.some.inj h
      subst hr
      exact Sys.endX [((9, 3), .b false)] (h1) rfl (by kernel_rfl)

inductive vigillaw13_HeldMore_L9_4O where
  | e0 (v8 : Bool) (v9 : Int)
def vigillaw13_HeldMore_L9_4x : vigillaw13_HeldMore_L9_4O → Ex
  | .e0 _ _ => (.exit 0)
def vigillaw13_HeldMore_L9_4s (p0 : Sl GNest) (p1 : GNest) (x_3 : Bool) : vigillaw13_HeldMore_L9_4O → S
  | .e0 v8 v9 => ⟨fl [(0, .c (eSl p0)), (3, .pt 0 1 0), (6, dB false), (7, dB x_3), (8, dB v8), (9, dInt v9), (43, dB false)], ⟨[⟨1, (EncX.encX p1).map DV.c⟩], []⟩⟩
def vigillaw13_HeldMore_L9_4 (p0 : Sl GNest) (p1 : GNest) (x_3 : Bool) (n : Nat) : Nat → Bool → Int → Option vigillaw13_HeldMore_L9_4O
  | 0, _, _ => none
  | k + 1, v8_9_3, v9_9_3 =>
    if v9_9_3 < (p0.l.length : Int) then
      bif v8_9_3 then
        (atI p0.l v9_9_3).bind fun v50_4 =>
        if v50_4.outer ≠ p1.inner then
          if InR (v9_9_3 + 1) then vigillaw13_HeldMore_L9_4 p0 p1 x_3 n k true (v9_9_3 + 1)
          else none
        else if InR (v9_9_3 + 1) then vigillaw13_HeldMore_L9_4 p0 p1 x_3 n k false (v9_9_3 + 1)
        else none
      else if InR (v9_9_3 + 1) then vigillaw13_HeldMore_L9_4 p0 p1 x_3 n k false (v9_9_3 + 1)
      else none
    else some (.e0 v8_9_3 v9_9_3)
theorem vigillaw13_HeldMore_L9_4_ok (p0 : Sl GNest) (p1 : GNest) (x_3 : Bool) (n : Nat) : ∀ (k : Nat) (v8_9_3 : Bool) (v9_9_3 : Int) (o : vigillaw13_HeldMore_L9_4O), vigillaw13_HeldMore_L9_4 p0 p1 x_3 n k v8_9_3 v9_9_3 = some o → ∀ s : S, restrS (X.an.rs 5 9) s = ⟨fl [(0, .c (eSl p0)), (3, .pt 0 1 0), (6, dB false), (7, dB x_3), (8, dB v8_9_3), (9, dInt v9_9_3)], ⟨[⟨1, (EncX.encX p1).map DV.c⟩], []⟩⟩ → X.Loop 5 74 [] (sub b5 [1, 1, 1, 1, 1, 1, 0, 1, 0, 0]) 1 s (vigillaw13_HeldMore_L9_4x o) (vigillaw13_HeldMore_L9_4s p0 p1 x_3 o) := by
  intro k
  induction k with
  | zero => intro v8_9_3 v9_9_3 o h s hs; unfold vigillaw13_HeldMore_L9_4 at h; cases h
  | succ k ih =>
    intro v8_9_3 v9_9_3 o h s hs
    unfold vigillaw13_HeldMore_L9_4 at h
    refine Sys.loopQ hs ?_
    by_cases h1 : v9_9_3 < (p0.l.length : Int)
    · replace h := iteT h1 h
      refine Sys.to [((9, 3), .b true)] 11 (.at [1, 0, 0]) ⟨fl [(0, .c (eSl p0)), (3, .pt 0 1 0), (6, dB false), (7, dB x_3), (8, dB v8_9_3), (9, dInt v9_9_3), (43, dB true)], ⟨[⟨1, (EncX.encX p1).map DV.c⟩], []⟩⟩ (h1) (by kernel_rfl) ?_
      cases v8_9_3 with
      | true =>
        replace h := condT h
        obtain ⟨v50_4, h4, h⟩ := bindE h
        by_cases h5 : v50_4.outer ≠ p1.inner
        · replace h := iteT h5 h
          by_cases h7 : InR (v9_9_3 + 1)
          case neg => exact absurd (iteF h7 h) (by simp)
          replace h := iteT h7 h
          refine Sys.to [((11, 4), .ix), ((11, 6), .cell (cInt v50_4.outer)), ((11, 9), .b true), ((10, 1), .n)] 999999 (.fin .normal) ⟨fl [(0, .c (eSl p0)), (3, .pt 0 1 0), (6, dB false), (7, dB x_3), (8, dB true), (9, dInt (v9_9_3 + 1))], ⟨[⟨1, (EncX.encX p1).map DV.c⟩], []⟩⟩ (And.intro (atI_b h4) (And.intro (cell_at 0 (c := cInt v50_4.outer) rfl (atI_g h4)) (And.intro (h5) (h7)))) (by kernel_rfl) ?_
          exact Sys.fin (.inl ⟨rfl, ⟨fl [(0, .c (eSl p0)), (3, .pt 0 1 0), (6, dB false), (7, dB x_3), (8, dB true), (9, dInt (v9_9_3 + 1))], ⟨[⟨1, (EncX.encX p1).map DV.c⟩], []⟩⟩, (by kernel_rfl), ih true (v9_9_3 + 1) _ h _ (by kernel_rfl)⟩)
        · replace h := iteF h5 h
          by_cases h7 : InR (v9_9_3 + 1)
          case neg => exact absurd (iteF h7 h) (by simp)
          replace h := iteT h7 h
          refine Sys.to [((11, 4), .ix), ((11, 6), .cell (cInt v50_4.outer)), ((11, 9), .b false), ((10, 1), .n)] 999999 (.fin .normal) ⟨fl [(0, .c (eSl p0)), (3, .pt 0 1 0), (6, dB false), (7, dB x_3), (8, dB false), (9, dInt (v9_9_3 + 1))], ⟨[⟨1, (EncX.encX p1).map DV.c⟩], []⟩⟩ (And.intro (atI_b h4) (And.intro (cell_at 0 (c := cInt v50_4.outer) rfl (atI_g h4)) (And.intro (h5) (h7)))) (by kernel_rfl) ?_
          exact Sys.fin (.inl ⟨rfl, ⟨fl [(0, .c (eSl p0)), (3, .pt 0 1 0), (6, dB false), (7, dB x_3), (8, dB false), (9, dInt (v9_9_3 + 1))], ⟨[⟨1, (EncX.encX p1).map DV.c⟩], []⟩⟩, (by kernel_rfl), ih false (v9_9_3 + 1) _ h _ (by kernel_rfl)⟩)
      | false =>
        replace h := condF h
        by_cases h5 : InR (v9_9_3 + 1)
        case neg => exact absurd (iteF h5 h) (by simp)
        replace h := iteT h5 h
        refine Sys.to [((10, 1), .n)] 999999 (.fin .normal) ⟨fl [(0, .c (eSl p0)), (3, .pt 0 1 0), (6, dB false), (7, dB x_3), (8, dB false), (9, dInt (v9_9_3 + 1))], ⟨[⟨1, (EncX.encX p1).map DV.c⟩], []⟩⟩ (h5) (by kernel_rfl) ?_
        exact Sys.fin (.inl ⟨rfl, ⟨fl [(0, .c (eSl p0)), (3, .pt 0 1 0), (6, dB false), (7, dB x_3), (8, dB false), (9, dInt (v9_9_3 + 1))], ⟨[⟨1, (EncX.encX p1).map DV.c⟩], []⟩⟩, (by kernel_rfl), ih false (v9_9_3 + 1) _ h _ (by kernel_rfl)⟩)
    · replace h := iteF h1 h
      have hr := Option.some.inj h
      subst hr
      exact Sys.endX [((9, 3), .b false)] (h1) rfl (by kernel_rfl)

def vigillaw13_HeldMore (n : Nat) (p0 : Sl GNest) (p1 : GNest) : Option Bool :=
  if (p0.l.length : Int) > 100 then
    (Kn.lv).bind fun x =>
    some x
  else if Room 16 (([] : List GNest) ++ p0.l).length then if Room 16 ((([] : List GNest) ++ p0.l) ++ ([p1] : List GNest)).length then (held_Round n p0).bind fun x_2 =>
  (held_Round n (⟨false, false, ((([] : List GNest) ++ p0.l) ++ ([p1] : List GNest))⟩ : Sl GNest)).bind fun x_3 =>
  bif x_2 then
    bif x_3 then
      if p1.inner = p1.outer then
        (vigillaw13_HeldMore_L9 p0 p1 n n true 0).bind fun o_2 => match o_2 with
        | .e0 v8_2 v9_2 =>
          bif v8_2 then
            (Kn.lv).bind fun x_4 =>
            some x_4
          else (Kn.lv).bind fun x_5 =>
          some x_5
      else (vigillaw13_HeldMore_L9_2 p0 p1 n n true 0).bind fun o_3 => match o_3 with
      | .e0 v8_3 v9_3 =>
        bif v8_3 then
          (Kn.lv).bind fun x_6 =>
          some x_6
        else (Kn.lv).bind fun x_7 =>
        some x_7
    else some false
  else if p1.inner = p1.outer then
    bif x_3 then
      (vigillaw13_HeldMore_L9_3 p0 p1 n n true 0).bind fun o_4 => match o_4 with
      | .e0 v8_4 v9_4 =>
        bif v8_4 then
          (Kn.lv).bind fun x_8 =>
          some x_8
        else (Kn.lv).bind fun x_9 =>
        some x_9
    else some false
  else (vigillaw13_HeldMore_L9_4 p0 p1 x_3 n n true 0).bind fun o_5 => match o_5 with
  | .e0 v8_5 v9_5 =>
    bif v8_5 then
      bif x_3 then
        some false
      else (Kn.lv).bind fun x_10 =>
      some x_10
    else (Kn.lv).bind fun x_11 =>
    some x_11
  else none
  else none
theorem vigillaw13_HeldMore_ok {n : Nat} {p0 : Sl GNest} {p1 : GNest} {r : Bool} (h : vigillaw13_HeldMore n p0 p1 = some r) : X.RunsC 5 [.c (eSl p0), .c (.agg (EncX.encX p1))] (dB r) := by
  unfold vigillaw13_HeldMore at h
  refine Sys.callC' (fn := Try.f5) (b := b5) (by kernel_rfl) (by kernel_rfl) ?_
  by_cases h2 : (p0.l.length : Int) > 100
  · replace h := iteT h2 h
    obtain ⟨x, g4, h⟩ := bindE h
    have h4 := Kn.lvok g4
    have hr := Option.some.inj h
    subst hr
    exact Sys.endC [((1, 2), .b true), ((2, 0), .op { d := dB x })] (And.intro (h2) ((h4 [⟨1, (EncX.encX p1).map DV.c⟩]))) (by kernel_rfl)
  · replace h := iteF h2 h
    by_cases h4 : Room 16 (([] : List GNest) ++ p0.l).length
    case neg => exact absurd (iteF h4 h) (by simp)
    replace h := iteT h4 h
    by_cases h5 : Room 16 ((([] : List GNest) ++ p0.l) ++ ([p1] : List GNest)).length
    case neg => exact absurd (iteF h5 h) (by simp)
    replace h := iteT h5 h
    obtain ⟨x_2, g7, h⟩ := bindE h
    have h7 := held_Round_ok g7
    obtain ⟨x_3, g8, h⟩ := bindE h
    have h8 := held_Round_ok g8
    refine Sys.to [((1, 2), .b false), ((3, 2), .appF false (cells (([] : List GNest) ++ p0.l)) (([] : List GNest) ++ p0.l).length), ((3, 5), .appF false (cells ((([] : List GNest) ++ p0.l) ++ ([p1] : List GNest))) ((([] : List GNest) ++ p0.l) ++ ([p1] : List GNest)).length), ((4, 1), .call (dB x_2) ⟨[], []⟩), ((4, 3), .call (dB x_3) ⟨[], []⟩)] 5 (.at [1, 1, 1, 1, 0, 0]) ⟨fl [(0, .c (eSl p0)), (3, .pt 0 1 0), (6, dB x_2), (7, dB x_3)], ⟨[⟨1, (EncX.encX p1).map DV.c⟩], []⟩⟩ (And.intro (h2) (And.intro (apf_sl ([] : List GNest) p0.l (b := 16) (by decide) h4) (And.intro (apf_lit (([] : List GNest) ++ p0.l) ([p1] : List GNest) (b := 16) (by decide) h5) (And.intro (h7) (h8))))) (by kernel_rfl) ?_
    cases x_2 with
    | true =>
      replace h := condT h
      cases x_3 with
      | true =>
        replace h := condT h
        by_cases h12 : p1.inner = p1.outer
        · replace h := iteT h12 h
          obtain ⟨o_2, g16, h⟩ := bindE h
          have h16 := vigillaw13_HeldMore_L9_ok p0 p1 n n true 0 _ g16
          cases o_2 with
          | e0 v8_2 v9_2 =>
            dsimp only at h
            refine Sys.to [((5, 10), .b true), ((9, 1000), .code (.exit 0) ⟨fl [(0, .c (eSl p0)), (3, .pt 0 1 0), (6, dB true), (7, dB true), (8, dB v8_2), (9, dInt v9_2), (43, dB false)], ⟨[⟨1, (EncX.encX p1).map DV.c⟩], []⟩⟩)] 12 (.at [1, 1, 1, 1, 1, 1, 1, 0]) ⟨fl [(0, .c (eSl p0)), (3, .pt 0 1 0), (6, dB true), (7, dB true), (8, dB v8_2), (9, dInt v9_2), (43, dB false)], ⟨[⟨1, (EncX.encX p1).map DV.c⟩], []⟩⟩ (And.intro (h12) (Sys.Loop.goM (h16 ⟨fl [(0, .c (eSl p0)), (3, .pt 0 1 0), (6, dB true), (7, dB true), (8, dB true), (9, dInt 0)], ⟨[⟨1, (EncX.encX p1).map DV.c⟩], []⟩⟩ (by kernel_rfl)) (by kernel_rfl))) (by kernel_rfl) ?_
            cases v8_2 with
            | true =>
              replace h := condT h
              obtain ⟨x_4, g19, h⟩ := bindE h
              have h19 := Kn.lvok g19
              have hr := Option.some.inj h
              subst hr
              exact Sys.endC [((12, 7), .b true), ((12, 15), .op { d := dB x_4 })] (And.intro (h12) ((h19 [⟨1, (EncX.encX p1).map DV.c⟩]))) (by kernel_rfl)
            | false =>
              replace h := condF h
              obtain ⟨x_5, g19, h⟩ := bindE h
              have h19 := Kn.lvok g19
              have hr := Option.some.inj h
              subst hr
              exact Sys.endC [((12, 15), .op { d := dB x_5 })] ((h19 [⟨1, (EncX.encX p1).map DV.c⟩])) (by kernel_rfl)
        · replace h := iteF h12 h
          obtain ⟨o_3, g16, h⟩ := bindE h
          have h16 := vigillaw13_HeldMore_L9_2_ok p0 p1 n n true 0 _ g16
          cases o_3 with
          | e0 v8_3 v9_3 =>
            dsimp only at h
            refine Sys.to [((5, 10), .b false), ((9, 1000), .code (.exit 0) ⟨fl [(0, .c (eSl p0)), (3, .pt 0 1 0), (6, dB true), (7, dB true), (8, dB v8_3), (9, dInt v9_3), (43, dB false)], ⟨[⟨1, (EncX.encX p1).map DV.c⟩], []⟩⟩)] 12 (.at [1, 1, 1, 1, 1, 1, 1, 0]) ⟨fl [(0, .c (eSl p0)), (3, .pt 0 1 0), (6, dB true), (7, dB true), (8, dB v8_3), (9, dInt v9_3), (43, dB false)], ⟨[⟨1, (EncX.encX p1).map DV.c⟩], []⟩⟩ (And.intro (h12) (Sys.Loop.goM (h16 ⟨fl [(0, .c (eSl p0)), (3, .pt 0 1 0), (6, dB true), (7, dB true), (8, dB true), (9, dInt 0)], ⟨[⟨1, (EncX.encX p1).map DV.c⟩], []⟩⟩ (by kernel_rfl)) (by kernel_rfl))) (by kernel_rfl) ?_
            cases v8_3 with
            | true =>
              replace h := condT h
              obtain ⟨x_6, g19, h⟩ := bindE h
              have h19 := Kn.lvok g19
              have hr := Option.some.inj h
              subst hr
              exact Sys.endC [((12, 7), .b false), ((12, 12), .op { d := dB true }), ((12, 15), .op { d := dB x_6 })] (And.intro (h12) (And.intro (bool_eql (P := X.P) (t := 4) true true (by kernel_rfl) (by kernel_rfl)) ((h19 [⟨1, (EncX.encX p1).map DV.c⟩])))) (by kernel_rfl)
            | false =>
              replace h := condF h
              obtain ⟨x_7, g19, h⟩ := bindE h
              have h19 := Kn.lvok g19
              have hr := Option.some.inj h
              subst hr
              exact Sys.endC [((12, 15), .op { d := dB x_7 })] ((h19 [⟨1, (EncX.encX p1).map DV.c⟩])) (by kernel_rfl)
      | false =>
        replace h := condF h
        have hr := Option.some.inj h
        subst hr
        exact Sys.endC [] (True.intro) (by kernel_rfl)
    | false =>
      replace h := condF h
      by_cases h11 : p1.inner = p1.outer
      · replace h := iteT h11 h
        cases x_3 with
        | true =>
          replace h := condT h
          obtain ⟨o_4, g16, h⟩ := bindE h
          have h16 := vigillaw13_HeldMore_L9_3_ok p0 p1 n n true 0 _ g16
          cases o_4 with
          | e0 v8_4 v9_4 =>
            dsimp only at h
            refine Sys.to [((5, 10), .b true), ((9, 1000), .code (.exit 0) ⟨fl [(0, .c (eSl p0)), (3, .pt 0 1 0), (6, dB false), (7, dB true), (8, dB v8_4), (9, dInt v9_4), (43, dB false)], ⟨[⟨1, (EncX.encX p1).map DV.c⟩], []⟩⟩)] 12 (.at [1, 1, 1, 1, 1, 1, 1, 0]) ⟨fl [(0, .c (eSl p0)), (3, .pt 0 1 0), (6, dB false), (7, dB true), (8, dB v8_4), (9, dInt v9_4), (43, dB false)], ⟨[⟨1, (EncX.encX p1).map DV.c⟩], []⟩⟩ (And.intro (h11) (Sys.Loop.goM (h16 ⟨fl [(0, .c (eSl p0)), (3, .pt 0 1 0), (6, dB false), (7, dB true), (8, dB true), (9, dInt 0)], ⟨[⟨1, (EncX.encX p1).map DV.c⟩], []⟩⟩ (by kernel_rfl)) (by kernel_rfl))) (by kernel_rfl) ?_
            cases v8_4 with
            | true =>
              replace h := condT h
              obtain ⟨x_8, g19, h⟩ := bindE h
              have h19 := Kn.lvok g19
              have hr := Option.some.inj h
              subst hr
              exact Sys.endC [((12, 7), .b true), ((12, 15), .op { d := dB x_8 })] (And.intro (h11) ((h19 [⟨1, (EncX.encX p1).map DV.c⟩]))) (by kernel_rfl)
            | false =>
              replace h := condF h
              obtain ⟨x_9, g19, h⟩ := bindE h
              have h19 := Kn.lvok g19
              have hr := Option.some.inj h
              subst hr
              exact Sys.endC [((12, 15), .op { d := dB x_9 })] ((h19 [⟨1, (EncX.encX p1).map DV.c⟩])) (by kernel_rfl)
        | false =>
          replace h := condF h
          have hr := Option.some.inj h
          subst hr
          exact Sys.endC [((5, 10), .b true)] (h11) (by kernel_rfl)
      · replace h := iteF h11 h
        obtain ⟨o_5, g15, h⟩ := bindE h
        have h15 := vigillaw13_HeldMore_L9_4_ok p0 p1 x_3 n n true 0 _ g15
        cases o_5 with
        | e0 v8_5 v9_5 =>
          dsimp only at h
          refine Sys.to [((5, 10), .b false), ((9, 1000), .code (.exit 0) ⟨fl [(0, .c (eSl p0)), (3, .pt 0 1 0), (6, dB false), (7, dB x_3), (8, dB v8_5), (9, dInt v9_5), (43, dB false)], ⟨[⟨1, (EncX.encX p1).map DV.c⟩], []⟩⟩)] 12 (.at [1, 1, 1, 1, 1, 1, 1, 0]) ⟨fl [(0, .c (eSl p0)), (3, .pt 0 1 0), (6, dB false), (7, dB x_3), (8, dB v8_5), (9, dInt v9_5), (43, dB false)], ⟨[⟨1, (EncX.encX p1).map DV.c⟩], []⟩⟩ (And.intro (h11) (Sys.Loop.goM (h15 ⟨fl [(0, .c (eSl p0)), (3, .pt 0 1 0), (6, dB false), (7, dB x_3), (8, dB true), (9, dInt 0)], ⟨[⟨1, (EncX.encX p1).map DV.c⟩], []⟩⟩ (by kernel_rfl)) (by kernel_rfl))) (by kernel_rfl) ?_
          cases v8_5 with
          | true =>
            replace h := condT h
            cases x_3 with
            | true =>
              replace h := condT h
              have hr := Option.some.inj h
              subst hr
              exact Sys.endC [((12, 7), .b false), ((12, 12), .op { d := dB false })] (And.intro (h11) (bool_eql (P := X.P) (t := 4) false true (by kernel_rfl) (by kernel_rfl))) (by kernel_rfl)
            | false =>
              replace h := condF h
              obtain ⟨x_10, g19, h⟩ := bindE h
              have h19 := Kn.lvok g19
              have hr := Option.some.inj h
              subst hr
              exact Sys.endC [((12, 7), .b false), ((12, 12), .op { d := dB true }), ((12, 15), .op { d := dB x_10 })] (And.intro (h11) (And.intro (bool_eql (P := X.P) (t := 4) false false (by kernel_rfl) (by kernel_rfl)) ((h19 [⟨1, (EncX.encX p1).map DV.c⟩])))) (by kernel_rfl)
          | false =>
            replace h := condF h
            obtain ⟨x_11, g18, h⟩ := bindE h
            have h18 := Kn.lvok g18
            have hr := Option.some.inj h
            subst hr
            exact Sys.endC [((12, 15), .op { d := dB x_11 })] ((h18 [⟨1, (EncX.encX p1).map DV.c⟩])) (by kernel_rfl)
end Go.Proofs.Ytkfmoodaplelnaa
