/-
  Part of the proof: printed by the session's own program out of the program's form, or typed; it states no claim by itself.
-/
import Derived.Test.YtilipgopjiokfaaGreatDoorFa
/-
  Functions of the program as Lean functions, and that the interpreter comes to the same: printed by the session's own tool.
-/
set_option linter.unusedVariables false
set_option linter.unusedSimpArgs false
set_option maxRecDepth 100000
set_option maxHeartbeats 1000000
namespace Go.Proofs.YtilipgopjiokfaaGreatDoor
open Go Go.Abs Go.Proofs
inductive vigilref14_Text_L3O where
  | e0 (v3 : ByteArray) (v4 : Int)
def vigilref14_Text_L3x : vigilref14_Text_L3O → Ex
  | .e0 _ _ => (.exit 0)
def vigilref14_Text_L3s (p0 : GWorld) : vigilref14_Text_L3O → S
  | .e0 v3 v4 => ⟨fl [(1, .pt 0 1 0), (3, .c (.sc (.string v3))), (4, dInt v4), (12, dB false)], ⟨[⟨1, (EncX.encX p0).map DV.c⟩], []⟩⟩
def vigilref14_Text_L3 (p0 : GWorld) (n : Nat) : Nat → ByteArray → Int → Option vigilref14_Text_L3O
  | 0, _, _ => none
  | k + 1, v3, v4 =>
    if v4 < (p0.threads.l.length : Int) then
      (atI p0.threads.l v4).bind fun v18 =>
      (vigilref14_digits n v18.role).bind fun x =>
      if (v3 ++ x).size ≤ 9223372036854775807 then if ((v3 ++ x) ++ (⟨#[58]⟩ : ByteArray)).size ≤ 9223372036854775807 then (vigilref14_digits n v18.loc).bind fun x_2 =>
      if (((v3 ++ x) ++ (⟨#[58]⟩ : ByteArray)) ++ x_2).size ≤ 9223372036854775807 then if ((((v3 ++ x) ++ (⟨#[58]⟩ : ByteArray)) ++ x_2) ++ (⟨#[58]⟩ : ByteArray)).size ≤ 9223372036854775807 then (vigilref14_digits n v18.state).bind fun x_3 =>
      if (((((v3 ++ x) ++ (⟨#[58]⟩ : ByteArray)) ++ x_2) ++ (⟨#[58]⟩ : ByteArray)) ++ x_3).size ≤ 9223372036854775807 then if ((((((v3 ++ x) ++ (⟨#[58]⟩ : ByteArray)) ++ x_2) ++ (⟨#[58]⟩ : ByteArray)) ++ x_3) ++ (⟨#[58]⟩ : ByteArray)).size ≤ 9223372036854775807 then (vigilref03_Digits n v18.left).bind fun x_4 =>
      if (((((((v3 ++ x) ++ (⟨#[58]⟩ : ByteArray)) ++ x_2) ++ (⟨#[58]⟩ : ByteArray)) ++ x_3) ++ (⟨#[58]⟩ : ByteArray)) ++ x_4).size ≤ 9223372036854775807 then if ((((((((v3 ++ x) ++ (⟨#[58]⟩ : ByteArray)) ++ x_2) ++ (⟨#[58]⟩ : ByteArray)) ++ x_3) ++ (⟨#[58]⟩ : ByteArray)) ++ x_4) ++ (⟨#[58]⟩ : ByteArray)).size ≤ 9223372036854775807 then (vigilref14_digits n v18.depth).bind fun x_5 =>
      if (((((((((v3 ++ x) ++ (⟨#[58]⟩ : ByteArray)) ++ x_2) ++ (⟨#[58]⟩ : ByteArray)) ++ x_3) ++ (⟨#[58]⟩ : ByteArray)) ++ x_4) ++ (⟨#[58]⟩ : ByteArray)) ++ x_5).size ≤ 9223372036854775807 then if ((((((((((v3 ++ x) ++ (⟨#[58]⟩ : ByteArray)) ++ x_2) ++ (⟨#[58]⟩ : ByteArray)) ++ x_3) ++ (⟨#[58]⟩ : ByteArray)) ++ x_4) ++ (⟨#[58]⟩ : ByteArray)) ++ x_5) ++ (⟨#[32]⟩ : ByteArray)).size ≤ 9223372036854775807 then if InR (v4 + 1) then vigilref14_Text_L3 p0 n k ((((((((((v3 ++ x) ++ (⟨#[58]⟩ : ByteArray)) ++ x_2) ++ (⟨#[58]⟩ : ByteArray)) ++ x_3) ++ (⟨#[58]⟩ : ByteArray)) ++ x_4) ++ (⟨#[58]⟩ : ByteArray)) ++ x_5) ++ (⟨#[32]⟩ : ByteArray)) (v4 + 1)
      else none
      else none
      else none
      else none
      else none
      else none
      else none
      else none
      else none
      else none
      else none
    else some (.e0 v3 v4)
theorem vigilref14_Text_L3_ok (p0 : GWorld) (n : Nat) : ∀ (k : Nat) (v3 : ByteArray) (v4 : Int) (o : vigilref14_Text_L3O), vigilref14_Text_L3 p0 n k v3 v4 = some o → ∀ s : S, restrS (X.an.rs 28 3) s = ⟨fl [(1, .pt 0 1 0), (3, .c (.sc (.string v3))), (4, dInt v4)], ⟨[⟨1, (EncX.encX p0).map DV.c⟩], []⟩⟩ → X.Loop 28 93 [] (sub b28 [1, 1, 0, 1, 0, 0]) 1 s (vigilref14_Text_L3x o) (vigilref14_Text_L3s p0 o) := by
  intro k
  induction k with
  | zero => intro v3 v4 o h s hs; unfold vigilref14_Text_L3 at h; cases h
  | succ k ih =>
    intro v3 v4 o h s hs
    unfold vigilref14_Text_L3 at h
    refine Sys.loopQ hs ?_
    by_cases h1 : v4 < (p0.threads.l.length : Int)
    · replace h := iteT h1 h
      obtain ⟨v18, h3, h⟩ := bindE h
      obtain ⟨x, g5, h⟩ := bindE h
      have h5 := vigilref14_digits_ok g5
      by_cases h6 : (v3 ++ x).size ≤ 9223372036854775807
      case neg => exact absurd (iteF h6 h) (by simp)
      replace h := iteT h6 h
      by_cases h7 : ((v3 ++ x) ++ (⟨#[58]⟩ : ByteArray)).size ≤ 9223372036854775807
      case neg => exact absurd (iteF h7 h) (by simp)
      replace h := iteT h7 h
      obtain ⟨x_2, g8, h⟩ := bindE h
      have h8 := vigilref14_digits_ok g8
      by_cases h9 : (((v3 ++ x) ++ (⟨#[58]⟩ : ByteArray)) ++ x_2).size ≤ 9223372036854775807
      case neg => exact absurd (iteF h9 h) (by simp)
      replace h := iteT h9 h
      by_cases h10 : ((((v3 ++ x) ++ (⟨#[58]⟩ : ByteArray)) ++ x_2) ++ (⟨#[58]⟩ : ByteArray)).size ≤ 9223372036854775807
      case neg => exact absurd (iteF h10 h) (by simp)
      replace h := iteT h10 h
      obtain ⟨x_3, g11, h⟩ := bindE h
      have h11 := vigilref14_digits_ok g11
      by_cases h12 : (((((v3 ++ x) ++ (⟨#[58]⟩ : ByteArray)) ++ x_2) ++ (⟨#[58]⟩ : ByteArray)) ++ x_3).size ≤ 9223372036854775807
      case neg => exact absurd (iteF h12 h) (by simp)
      replace h := iteT h12 h
      by_cases h13 : ((((((v3 ++ x) ++ (⟨#[58]⟩ : ByteArray)) ++ x_2) ++ (⟨#[58]⟩ : ByteArray)) ++ x_3) ++ (⟨#[58]⟩ : ByteArray)).size ≤ 9223372036854775807
      case neg => exact absurd (iteF h13 h) (by simp)
      replace h := iteT h13 h
      obtain ⟨x_4, g14, h⟩ := bindE h
      have h14 := vigilref03_Digits_ok g14
      by_cases h15 : (((((((v3 ++ x) ++ (⟨#[58]⟩ : ByteArray)) ++ x_2) ++ (⟨#[58]⟩ : ByteArray)) ++ x_3) ++ (⟨#[58]⟩ : ByteArray)) ++ x_4).size ≤ 9223372036854775807
      case neg => exact absurd (iteF h15 h) (by simp)
      replace h := iteT h15 h
      by_cases h16 : ((((((((v3 ++ x) ++ (⟨#[58]⟩ : ByteArray)) ++ x_2) ++ (⟨#[58]⟩ : ByteArray)) ++ x_3) ++ (⟨#[58]⟩ : ByteArray)) ++ x_4) ++ (⟨#[58]⟩ : ByteArray)).size ≤ 9223372036854775807
      case neg => exact absurd (iteF h16 h) (by simp)
      replace h := iteT h16 h
      obtain ⟨x_5, g17, h⟩ := bindE h
      have h17 := vigilref14_digits_ok g17
      by_cases h18 : (((((((((v3 ++ x) ++ (⟨#[58]⟩ : ByteArray)) ++ x_2) ++ (⟨#[58]⟩ : ByteArray)) ++ x_3) ++ (⟨#[58]⟩ : ByteArray)) ++ x_4) ++ (⟨#[58]⟩ : ByteArray)) ++ x_5).size ≤ 9223372036854775807
      case neg => exact absurd (iteF h18 h) (by simp)
      replace h := iteT h18 h
      by_cases h19 : ((((((((((v3 ++ x) ++ (⟨#[58]⟩ : ByteArray)) ++ x_2) ++ (⟨#[58]⟩ : ByteArray)) ++ x_3) ++ (⟨#[58]⟩ : ByteArray)) ++ x_4) ++ (⟨#[58]⟩ : ByteArray)) ++ x_5) ++ (⟨#[32]⟩ : ByteArray)).size ≤ 9223372036854775807
      case neg => exact absurd (iteF h19 h) (by simp)
      replace h := iteT h19 h
      by_cases h21 : InR (v4 + 1)
      case neg => exact absurd (iteF h21 h) (by simp)
      replace h := iteT h21 h
      refine Sys.to [((3, 4), .b true), ((5, 3), .ix), ((5, 4), .agg (EncX.encX v18)), ((6, 3), .call (.c (.sc (.string x))) ⟨[], []⟩), ((6, 4), .op { d := .c (.sc (.string (v3 ++ x))) }), ((6, 5), .op { d := .c (.sc (.string ((v3 ++ x) ++ (⟨#[58]⟩ : ByteArray)))) }), ((6, 8), .call (.c (.sc (.string x_2))) ⟨[], []⟩), ((6, 9), .op { d := .c (.sc (.string (((v3 ++ x) ++ (⟨#[58]⟩ : ByteArray)) ++ x_2))) }), ((6, 10), .op { d := .c (.sc (.string ((((v3 ++ x) ++ (⟨#[58]⟩ : ByteArray)) ++ x_2) ++ (⟨#[58]⟩ : ByteArray)))) }), ((6, 13), .call (.c (.sc (.string x_3))) ⟨[], []⟩), ((6, 14), .op { d := .c (.sc (.string (((((v3 ++ x) ++ (⟨#[58]⟩ : ByteArray)) ++ x_2) ++ (⟨#[58]⟩ : ByteArray)) ++ x_3))) }), ((6, 15), .op { d := .c (.sc (.string ((((((v3 ++ x) ++ (⟨#[58]⟩ : ByteArray)) ++ x_2) ++ (⟨#[58]⟩ : ByteArray)) ++ x_3) ++ (⟨#[58]⟩ : ByteArray)))) }), ((6, 18), .call (.c (.sc (.string x_4))) ⟨[], []⟩), ((6, 19), .op { d := .c (.sc (.string (((((((v3 ++ x) ++ (⟨#[58]⟩ : ByteArray)) ++ x_2) ++ (⟨#[58]⟩ : ByteArray)) ++ x_3) ++ (⟨#[58]⟩ : ByteArray)) ++ x_4))) }), ((6, 20), .op { d := .c (.sc (.string ((((((((v3 ++ x) ++ (⟨#[58]⟩ : ByteArray)) ++ x_2) ++ (⟨#[58]⟩ : ByteArray)) ++ x_3) ++ (⟨#[58]⟩ : ByteArray)) ++ x_4) ++ (⟨#[58]⟩ : ByteArray)))) }), ((6, 23), .call (.c (.sc (.string x_5))) ⟨[], []⟩), ((6, 24), .op { d := .c (.sc (.string (((((((((v3 ++ x) ++ (⟨#[58]⟩ : ByteArray)) ++ x_2) ++ (⟨#[58]⟩ : ByteArray)) ++ x_3) ++ (⟨#[58]⟩ : ByteArray)) ++ x_4) ++ (⟨#[58]⟩ : ByteArray)) ++ x_5))) }), ((6, 25), .op { d := .c (.sc (.string ((((((((((v3 ++ x) ++ (⟨#[58]⟩ : ByteArray)) ++ x_2) ++ (⟨#[58]⟩ : ByteArray)) ++ x_3) ++ (⟨#[58]⟩ : ByteArray)) ++ x_4) ++ (⟨#[58]⟩ : ByteArray)) ++ x_5) ++ (⟨#[32]⟩ : ByteArray)))) }), ((4, 1), .n)] 999999 (.fin .normal) ⟨fl [(1, .pt 0 1 0), (3, .c (.sc (.string ((((((((((v3 ++ x) ++ (⟨#[58]⟩ : ByteArray)) ++ x_2) ++ (⟨#[58]⟩ : ByteArray)) ++ x_3) ++ (⟨#[58]⟩ : ByteArray)) ++ x_4) ++ (⟨#[58]⟩ : ByteArray)) ++ x_5) ++ (⟨#[32]⟩ : ByteArray))))), (4, dInt (v4 + 1))], ⟨[⟨1, (EncX.encX p0).map DV.c⟩, ⟨1, (EncX.encX v18).map DV.c⟩], []⟩⟩ (And.intro (h1) (And.intro (atI_b h3) (And.intro (span_at 0 5 (by decide) (atI_g h3)) (And.intro (h5) (And.intro (str_add (P0 := X.P) (t0 := 9) h6) (And.intro (str_add (P0 := X.P) (t0 := 9) h7) (And.intro (h8) (And.intro (str_add (P0 := X.P) (t0 := 9) h9) (And.intro (str_add (P0 := X.P) (t0 := 9) h10) (And.intro (h11) (And.intro (str_add (P0 := X.P) (t0 := 9) h12) (And.intro (str_add (P0 := X.P) (t0 := 9) h13) (And.intro (h14) (And.intro (str_add (P0 := X.P) (t0 := 9) h15) (And.intro (str_add (P0 := X.P) (t0 := 9) h16) (And.intro (h17) (And.intro (str_add (P0 := X.P) (t0 := 9) h18) (And.intro (str_add (P0 := X.P) (t0 := 9) h19) (h21))))))))))))))))))) (by kernel_rfl) ?_
      exact Sys.fin (.inl ⟨rfl, ⟨fl [(1, .pt 0 1 0), (3, .c (.sc (.string ((((((((((v3 ++ x) ++ (⟨#[58]⟩ : ByteArray)) ++ x_2) ++ (⟨#[58]⟩ : ByteArray)) ++ x_3) ++ (⟨#[58]⟩ : ByteArray)) ++ x_4) ++ (⟨#[58]⟩ : ByteArray)) ++ x_5) ++ (⟨#[32]⟩ : ByteArray))))), (4, dInt (v4 + 1))], ⟨[⟨1, (EncX.encX p0).map DV.c⟩], []⟩⟩, (cut_ok (l := [1, 3, 4]) rfl (AllB.cons rfl (AllB.nil 1)) rfl), ih ((((((((((v3 ++ x) ++ (⟨#[58]⟩ : ByteArray)) ++ x_2) ++ (⟨#[58]⟩ : ByteArray)) ++ x_3) ++ (⟨#[58]⟩ : ByteArray)) ++ x_4) ++ (⟨#[58]⟩ : ByteArray)) ++ x_5) ++ (⟨#[32]⟩ : ByteArray)) (v4 + 1) _ h _ (by kernel_rfl)⟩)
    · replace h := iteF h1 h
      have hr := Option.some.inj h
      subst hr
      exact Sys.endX [((3, 4), .b false)] (h1) rfl (by kernel_rfl)

inductive vigilref14_Text_L9O where
  | e2 (v3 : ByteArray) (v6 : Int)
def vigilref14_Text_L9x : vigilref14_Text_L9O → Ex
  | .e2 _ _ => (.exit 2)
def vigilref14_Text_L9s (p0 : GWorld) : vigilref14_Text_L9O → S
  | .e2 v3 v6 => ⟨fl [(1, .pt 0 1 0), (3, .c (.sc (.string v3))), (6, dInt v6), (52, dB false)], ⟨[⟨1, (EncX.encX p0).map DV.c⟩], []⟩⟩
def vigilref14_Text_L9 (p0 : GWorld) (n : Nat) : Nat → ByteArray → Int → Option vigilref14_Text_L9O
  | 0, _, _ => none
  | k + 1, v3_9, v6 =>
    if v6 < (p0.locks.l.length : Int) then
      if (v3_9 ++ (⟨#[32]⟩ : ByteArray)).size ≤ 9223372036854775807 then (atI p0.locks.l v6).bind fun v60 =>
      (vigilref14_digits n v60.owner).bind fun x_6 =>
      if ((v3_9 ++ (⟨#[32]⟩ : ByteArray)) ++ x_6).size ≤ 9223372036854775807 then if (((v3_9 ++ (⟨#[32]⟩ : ByteArray)) ++ x_6) ++ (⟨#[58]⟩ : ByteArray)).size ≤ 9223372036854775807 then (vigilref14_digits n v60.depth).bind fun x_7 =>
      if ((((v3_9 ++ (⟨#[32]⟩ : ByteArray)) ++ x_6) ++ (⟨#[58]⟩ : ByteArray)) ++ x_7).size ≤ 9223372036854775807 then if InR (v6 + 1) then vigilref14_Text_L9 p0 n k ((((v3_9 ++ (⟨#[32]⟩ : ByteArray)) ++ x_6) ++ (⟨#[58]⟩ : ByteArray)) ++ x_7) (v6 + 1)
      else none
      else none
      else none
      else none
      else none
    else some (.e2 v3_9 v6)
theorem vigilref14_Text_L9_ok (p0 : GWorld) (n : Nat) : ∀ (k : Nat) (v3_9 : ByteArray) (v6 : Int) (o : vigilref14_Text_L9O), vigilref14_Text_L9 p0 n k v3_9 v6 = some o → ∀ s : S, restrS (X.an.rs 28 9) s = ⟨fl [(1, .pt 0 1 0), (3, .c (.sc (.string v3_9))), (6, dInt v6)], ⟨[⟨1, (EncX.encX p0).map DV.c⟩], []⟩⟩ → X.Loop 28 93 [] (sub b28 [1, 1, 1, 1, 0, 1, 0, 0]) 1 s (vigilref14_Text_L9x o) (vigilref14_Text_L9s p0 o) := by
  intro k
  induction k with
  | zero => intro v3_9 v6 o h s hs; unfold vigilref14_Text_L9 at h; cases h
  | succ k ih =>
    intro v3_9 v6 o h s hs
    unfold vigilref14_Text_L9 at h
    refine Sys.loopQ hs ?_
    by_cases h1 : v6 < (p0.locks.l.length : Int)
    · replace h := iteT h1 h
      by_cases h3 : (v3_9 ++ (⟨#[32]⟩ : ByteArray)).size ≤ 9223372036854775807
      case neg => exact absurd (iteF h3 h) (by simp)
      replace h := iteT h3 h
      obtain ⟨v60, h4, h⟩ := bindE h
      obtain ⟨x_6, g5, h⟩ := bindE h
      have h5 := vigilref14_digits_ok g5
      by_cases h6 : ((v3_9 ++ (⟨#[32]⟩ : ByteArray)) ++ x_6).size ≤ 9223372036854775807
      case neg => exact absurd (iteF h6 h) (by simp)
      replace h := iteT h6 h
      by_cases h7 : (((v3_9 ++ (⟨#[32]⟩ : ByteArray)) ++ x_6) ++ (⟨#[58]⟩ : ByteArray)).size ≤ 9223372036854775807
      case neg => exact absurd (iteF h7 h) (by simp)
      replace h := iteT h7 h
      obtain ⟨x_7, g8, h⟩ := bindE h
      have h8 := vigilref14_digits_ok g8
      by_cases h9 : ((((v3_9 ++ (⟨#[32]⟩ : ByteArray)) ++ x_6) ++ (⟨#[58]⟩ : ByteArray)) ++ x_7).size ≤ 9223372036854775807
      case neg => exact absurd (iteF h9 h) (by simp)
      replace h := iteT h9 h
      by_cases h11 : InR (v6 + 1)
      case neg => exact absurd (iteF h11 h) (by simp)
      replace h := iteT h11 h
      refine Sys.to [((9, 4), .b true), ((11, 1), .op { d := .c (.sc (.string (v3_9 ++ (⟨#[32]⟩ : ByteArray)))) }), ((11, 5), .ix), ((11, 7), .cell (cInt v60.owner)), ((11, 8), .call (.c (.sc (.string x_6))) ⟨[], []⟩), ((11, 9), .op { d := .c (.sc (.string ((v3_9 ++ (⟨#[32]⟩ : ByteArray)) ++ x_6))) }), ((11, 10), .op { d := .c (.sc (.string (((v3_9 ++ (⟨#[32]⟩ : ByteArray)) ++ x_6) ++ (⟨#[58]⟩ : ByteArray)))) }), ((11, 14), .ix), ((11, 16), .cell (cInt v60.depth)), ((11, 17), .call (.c (.sc (.string x_7))) ⟨[], []⟩), ((11, 18), .op { d := .c (.sc (.string ((((v3_9 ++ (⟨#[32]⟩ : ByteArray)) ++ x_6) ++ (⟨#[58]⟩ : ByteArray)) ++ x_7))) }), ((10, 1), .n)] 999999 (.fin .normal) ⟨fl [(1, .pt 0 1 0), (3, .c (.sc (.string ((((v3_9 ++ (⟨#[32]⟩ : ByteArray)) ++ x_6) ++ (⟨#[58]⟩ : ByteArray)) ++ x_7)))), (6, dInt (v6 + 1))], ⟨[⟨1, (EncX.encX p0).map DV.c⟩], []⟩⟩ (And.intro (h1) (And.intro (str_add (P0 := X.P) (t0 := 9) h3) (And.intro (atI_b h4) (And.intro (cell_at 0 (c := cInt v60.owner) rfl (atI_g h4)) (And.intro (h5) (And.intro (str_add (P0 := X.P) (t0 := 9) h6) (And.intro (str_add (P0 := X.P) (t0 := 9) h7) (And.intro (atI_b h4) (And.intro (cell_at 1 (c := cInt v60.depth) rfl (atI_g h4)) (And.intro (h8) (And.intro (str_add (P0 := X.P) (t0 := 9) h9) (h11)))))))))))) (by kernel_rfl) ?_
      exact Sys.fin (.inl ⟨rfl, ⟨fl [(1, .pt 0 1 0), (3, .c (.sc (.string ((((v3_9 ++ (⟨#[32]⟩ : ByteArray)) ++ x_6) ++ (⟨#[58]⟩ : ByteArray)) ++ x_7)))), (6, dInt (v6 + 1))], ⟨[⟨1, (EncX.encX p0).map DV.c⟩], []⟩⟩, (by kernel_rfl), ih ((((v3_9 ++ (⟨#[32]⟩ : ByteArray)) ++ x_6) ++ (⟨#[58]⟩ : ByteArray)) ++ x_7) (v6 + 1) _ h _ (by kernel_rfl)⟩)
    · replace h := iteF h1 h
      have hr := Option.some.inj h
      subst hr
      exact Sys.endX [((9, 4), .b false)] (h1) rfl (by kernel_rfl)

inductive vigilref14_Text_L14O where
  | e4 (v3 : ByteArray) (v7 : Int)
def vigilref14_Text_L14x : vigilref14_Text_L14O → Ex
  | .e4 _ _ => (.exit 4)
def vigilref14_Text_L14s (p0 : GWorld) : vigilref14_Text_L14O → S
  | .e4 v3 v7 => ⟨fl [(1, .pt 0 1 0), (3, .c (.sc (.string v3))), (7, dInt v7), (80, dB false)], ⟨[⟨1, (EncX.encX p0).map DV.c⟩], []⟩⟩
def vigilref14_Text_L14 (p0 : GWorld) (n : Nat) : Nat → ByteArray → Int → Option vigilref14_Text_L14O
  | 0, _, _ => none
  | k + 1, v3_14, v7 =>
    if v7 < (p0.vals.l.length : Int) then
      if (v3_14 ++ (⟨#[32]⟩ : ByteArray)).size ≤ 9223372036854775807 then (atI p0.vals.l v7).bind fun v88 =>
      (vigilref03_Digits n v88).bind fun x_8 =>
      if ((v3_14 ++ (⟨#[32]⟩ : ByteArray)) ++ x_8).size ≤ 9223372036854775807 then if InR (v7 + 1) then vigilref14_Text_L14 p0 n k ((v3_14 ++ (⟨#[32]⟩ : ByteArray)) ++ x_8) (v7 + 1)
      else none
      else none
      else none
    else some (.e4 v3_14 v7)
theorem vigilref14_Text_L14_ok (p0 : GWorld) (n : Nat) : ∀ (k : Nat) (v3_14 : ByteArray) (v7 : Int) (o : vigilref14_Text_L14O), vigilref14_Text_L14 p0 n k v3_14 v7 = some o → ∀ s : S, restrS (X.an.rs 28 14) s = ⟨fl [(1, .pt 0 1 0), (3, .c (.sc (.string v3_14))), (7, dInt v7)], ⟨[⟨1, (EncX.encX p0).map DV.c⟩], []⟩⟩ → X.Loop 28 93 [] (sub b28 [1, 1, 1, 1, 1, 1, 0, 1, 0, 0]) 1 s (vigilref14_Text_L14x o) (vigilref14_Text_L14s p0 o) := by
  intro k
  induction k with
  | zero => intro v3_14 v7 o h s hs; unfold vigilref14_Text_L14 at h; cases h
  | succ k ih =>
    intro v3_14 v7 o h s hs
    unfold vigilref14_Text_L14 at h
    refine Sys.loopQ hs ?_
    by_cases h1 : v7 < (p0.vals.l.length : Int)
    · replace h := iteT h1 h
      by_cases h3 : (v3_14 ++ (⟨#[32]⟩ : ByteArray)).size ≤ 9223372036854775807
      case neg => exact absurd (iteF h3 h) (by simp)
      replace h := iteT h3 h
      obtain ⟨v88, h4, h⟩ := bindE h
      obtain ⟨x_8, g5, h⟩ := bindE h
      have h5 := vigilref03_Digits_ok g5
      by_cases h6 : ((v3_14 ++ (⟨#[32]⟩ : ByteArray)) ++ x_8).size ≤ 9223372036854775807
      case neg => exact absurd (iteF h6 h) (by simp)
      replace h := iteT h6 h
      by_cases h8 : InR (v7 + 1)
      case neg => exact absurd (iteF h8 h) (by simp)
      replace h := iteT h8 h
      refine Sys.to [((14, 4), .b true), ((16, 1), .op { d := .c (.sc (.string (v3_14 ++ (⟨#[32]⟩ : ByteArray)))) }), ((16, 5), .ix), ((16, 6), .cell (cInt v88)), ((16, 7), .call (.c (.sc (.string x_8))) ⟨[], []⟩), ((16, 8), .op { d := .c (.sc (.string ((v3_14 ++ (⟨#[32]⟩ : ByteArray)) ++ x_8))) }), ((15, 1), .n)] 999999 (.fin .normal) ⟨fl [(1, .pt 0 1 0), (3, .c (.sc (.string ((v3_14 ++ (⟨#[32]⟩ : ByteArray)) ++ x_8)))), (7, dInt (v7 + 1))], ⟨[⟨1, (EncX.encX p0).map DV.c⟩], []⟩⟩ (And.intro (h1) (And.intro (str_add (P0 := X.P) (t0 := 9) h3) (And.intro (atI_b h4) (And.intro (cell_at 0 (c := cInt v88) rfl (atI_g h4)) (And.intro (h5) (And.intro (str_add (P0 := X.P) (t0 := 9) h6) (h8))))))) (by kernel_rfl) ?_
      exact Sys.fin (.inl ⟨rfl, ⟨fl [(1, .pt 0 1 0), (3, .c (.sc (.string ((v3_14 ++ (⟨#[32]⟩ : ByteArray)) ++ x_8)))), (7, dInt (v7 + 1))], ⟨[⟨1, (EncX.encX p0).map DV.c⟩], []⟩⟩, (by kernel_rfl), ih ((v3_14 ++ (⟨#[32]⟩ : ByteArray)) ++ x_8) (v7 + 1) _ h _ (by kernel_rfl)⟩)
    · replace h := iteF h1 h
      have hr := Option.some.inj h
      subst hr
      exact Sys.endX [((14, 4), .b false)] (h1) rfl (by kernel_rfl)

def vigilref14_Text (n : Nat) (p0 : GWorld) : Option ByteArray :=
  (vigilref14_Text_L3 p0 n n (⟨#[]⟩ : ByteArray) 0).bind fun o_2 => match o_2 with
  | .e0 v3_2 v4_2 =>
    if (v3_2 ++ (⟨#[47]⟩ : ByteArray)).size ≤ 9223372036854775807 then (vigilref14_Text_L9 p0 n n (v3_2 ++ (⟨#[47]⟩ : ByteArray)) 0).bind fun o_3 => match o_3 with
    | .e2 v3_3 v6_2 =>
      if (v3_3 ++ (⟨#[32, 47]⟩ : ByteArray)).size ≤ 9223372036854775807 then (vigilref14_Text_L14 p0 n n (v3_3 ++ (⟨#[32, 47]⟩ : ByteArray)) 0).bind fun o_4 => match o_4 with
      | .e4 v3_4 v7_2 =>
        some v3_4
      else none
    else none
theorem vigilref14_Text_ok {n : Nat} {p0 : GWorld} {r : ByteArray} (h : vigilref14_Text n p0 = some r) : X.RunsC 28 [.c (.agg (EncX.encX p0))] (.c (.sc (.string r))) := by
  unfold vigilref14_Text at h
  refine Sys.callC' (fn := Tryz.f28) (b := b28) (by kernel_rfl) (by kernel_rfl) ?_
  obtain ⟨o_2, g4, h⟩ := bindE h
  have h4 := vigilref14_Text_L3_ok p0 n n (⟨#[]⟩ : ByteArray) 0 _ g4
  cases o_2 with
  | e0 v3_2 v4_2 =>
    dsimp only at h
    by_cases h6 : (v3_2 ++ (⟨#[47]⟩ : ByteArray)).size ≤ 9223372036854775807
    case neg => exact absurd (iteF h6 h) (by simp)
    replace h := iteT h6 h
    obtain ⟨o_3, g9, h⟩ := bindE h
    have h9 := vigilref14_Text_L9_ok p0 n n (v3_2 ++ (⟨#[47]⟩ : ByteArray)) 0 _ g9
    cases o_3 with
    | e2 v3_3 v6_2 =>
      dsimp only at h
      by_cases h11 : (v3_3 ++ (⟨#[32, 47]⟩ : ByteArray)).size ≤ 9223372036854775807
      case neg => exact absurd (iteF h11 h) (by simp)
      replace h := iteT h11 h
      obtain ⟨o_4, g14, h⟩ := bindE h
      have h14 := vigilref14_Text_L14_ok p0 n n (v3_3 ++ (⟨#[32, 47]⟩ : ByteArray)) 0 _ g14
      cases o_4 with
      | e4 v3_4 v7_2 =>
        dsimp only at h
        have hr := Option.some.inj h
        subst hr
        exact Sys.endC [((3, 1000), .code (.exit 0) ⟨fl [(1, .pt 0 1 0), (3, .c (.sc (.string v3_2))), (4, dInt v4_2), (12, dB false)], ⟨[⟨1, (EncX.encX p0).map DV.c⟩], []⟩⟩), ((7, 1), .op { d := .c (.sc (.string (v3_2 ++ (⟨#[47]⟩ : ByteArray)))) }), ((9, 1000), .code (.exit 2) ⟨fl [(1, .pt 0 1 0), (3, .c (.sc (.string v3_3))), (6, dInt v6_2), (52, dB false)], ⟨[⟨1, (EncX.encX p0).map DV.c⟩], []⟩⟩), ((12, 1), .op { d := .c (.sc (.string (v3_3 ++ (⟨#[32, 47]⟩ : ByteArray)))) }), ((14, 1000), .code (.exit 4) ⟨fl [(1, .pt 0 1 0), (3, .c (.sc (.string v3_4))), (7, dInt v7_2), (80, dB false)], ⟨[⟨1, (EncX.encX p0).map DV.c⟩], []⟩⟩)] (And.intro (Sys.Loop.goM (h4 ⟨fl [(1, .pt 0 1 0), (3, .c (.sc (.string (⟨#[]⟩ : ByteArray)))), (4, dInt 0)], ⟨[⟨1, (EncX.encX p0).map DV.c⟩], []⟩⟩ (by kernel_rfl)) (by kernel_rfl)) (And.intro (str_add (P0 := X.P) (t0 := 9) h6) (And.intro (Sys.Loop.goM (h9 ⟨fl [(1, .pt 0 1 0), (3, .c (.sc (.string (v3_2 ++ (⟨#[47]⟩ : ByteArray))))), (6, dInt 0)], ⟨[⟨1, (EncX.encX p0).map DV.c⟩], []⟩⟩ (by kernel_rfl)) (by kernel_rfl)) (And.intro (str_add (P0 := X.P) (t0 := 9) h11) (Sys.Loop.goM (h14 ⟨fl [(1, .pt 0 1 0), (3, .c (.sc (.string (v3_3 ++ (⟨#[32, 47]⟩ : ByteArray))))), (7, dInt 0)], ⟨[⟨1, (EncX.encX p0).map DV.c⟩], []⟩⟩ (by kernel_rfl)) (by kernel_rfl)))))) (by kernel_rfl)
def vigilref14_Parse_c1 : List DV := [.c (.sl true true [] 0), .c (.sl true true [] 0), .c (.sl true true [] 0)]
def vigilref14_Parse_c10 (v50 : Int) (v53 : Int) (v56 : Int) (v59 : Int) (v62 : Int) (o1_0 : List GThread) (o1_1 : List GLock) (o1_2 : List Int) : List DV := [apl (o1_0 ++ ([({ role := v50, loc := v53, state := v56, left := v59, depth := v62 } : GThread)] : List GThread)), apl o1_1, apl o1_2]
def vigilref14_Parse_c11 (o1_0 : List GThread) (v82 : Int) (v85 : Int) (o1_1 : List GLock) (o1_2 : List Int) : List DV := [apl o1_0, apl (o1_1 ++ ([({ owner := v82, depth := v85 } : GLock)] : List GLock)), apl o1_2]
def vigilref14_Parse_c12 (o1_0 : List GThread) (v82_2 : Int) (v85_2 : Int) (o1_1 : List GLock) (o1_2 : List Int) : List DV := [apl o1_0, apl (o1_1 ++ ([({ owner := v82_2, depth := v85_2 } : GLock)] : List GLock)), apl o1_2]
inductive vigilref14_Parse_L5O where
  | r (o1_0 : List GThread) (o1_1 : List GLock) (o1_2 : List Int)
  | e0 (v6 : Int) (v7 : Int) (o1_0 : List GThread) (o1_1 : List GLock) (o1_2 : List Int)
def vigilref14_Parse_L5x : vigilref14_Parse_L5O → Ex
  | .r _ _ _ => .ret
  | .e0 _ _ _ _ _ => (.exit 0)
def vigilref14_Parse_L5s (p0 : ByteArray) (x : List ByteArray) : vigilref14_Parse_L5O → S
  | .r o1_0 o1_1 o1_2 => ⟨fl [(2, .pt 0 1 0), (3, dB false)], ⟨[⟨1, vigilref14_Parse_c1⟩, ⟨1, [apl o1_0, apl o1_1, apl o1_2]⟩], []⟩⟩
  | .e0 v6 v7 o1_0 o1_1 o1_2 => ⟨fl [(0, .c (.sc (.string p0))), (2, .pt 0 1 0), (4, .pt 1 1 0), (5, apl x), (6, dInt v6), (7, dInt v7), (16, dB false)], ⟨[⟨1, vigilref14_Parse_c1⟩, ⟨1, [apl o1_0, apl o1_1, apl o1_2]⟩], []⟩⟩
def vigilref14_Parse_L5 (p0 : ByteArray) (x : List ByteArray) (n : Nat) : Nat → Int → Int → List GThread → List GLock → List Int → Option vigilref14_Parse_L5O
  | 0, _, _, _, _, _ => none
  | k + 1, v6, v7, o1_0, o1_1, o1_2 =>
    if v7 < (x.length : Int) then
      (atI x v7).bind fun v21 =>
      if v21 = (⟨#[47]⟩ : ByteArray) then
        if InR (v6 + 1) then if InR (v7 + 1) then vigilref14_Parse_L5 p0 x n k (v6 + 1) (v7 + 1) o1_0 o1_1 o1_2
        else none
        else none
      else (vigilref14_split n v21 58).bind fun x_2 =>
      (vigilref14_numbers n (Sl.gr x_2)).bind fun (x_3, x_4) =>
      bif x_4 then
        if v6 = 0 then
          if (x_3.l.length : Int) = 5 then
            (atI x_3.l 0).bind fun v50 =>
            (atI x_3.l 1).bind fun v53 =>
            (atI x_3.l 2).bind fun v56 =>
            (atI x_3.l 3).bind fun v59 =>
            (atI x_3.l 4).bind fun v62 =>
            if Room 40 (o1_0 ++ ([({ role := v50, loc := v53, state := v56, left := v59, depth := v62 } : GThread)] : List GThread)).length then if InR (v7 + 1) then vigilref14_Parse_L5 p0 x n k v6 (v7 + 1) (o1_0 ++ ([({ role := v50, loc := v53, state := v56, left := v59, depth := v62 } : GThread)] : List GThread)) o1_1 o1_2
            else none
            else none
          else if v6 = 1 then
            if (x_3.l.length : Int) = 2 then
              (atI x_3.l 0).bind fun v82 =>
              (atI x_3.l 1).bind fun v85 =>
              if Room 16 (o1_1 ++ ([({ owner := v82, depth := v85 } : GLock)] : List GLock)).length then if InR (v7 + 1) then vigilref14_Parse_L5 p0 x n k v6 (v7 + 1) o1_0 (o1_1 ++ ([({ owner := v82, depth := v85 } : GLock)] : List GLock)) o1_2
              else none
              else none
            else if v6 = 2 then
              if (x_3.l.length : Int) = 1 then
                (atI x_3.l 0).bind fun v105 =>
                if Room 8 (o1_2 ++ ([v105] : List Int)).length then if InR (v7 + 1) then vigilref14_Parse_L5 p0 x n k v6 (v7 + 1) o1_0 o1_1 (o1_2 ++ ([v105] : List Int))
                else none
                else none
              else some (.r o1_0 o1_1 o1_2)
            else some (.r o1_0 o1_1 o1_2)
          else if v6 = 2 then
            if (x_3.l.length : Int) = 1 then
              (atI x_3.l 0).bind fun v105_2 =>
              if Room 8 (o1_2 ++ ([v105_2] : List Int)).length then if InR (v7 + 1) then vigilref14_Parse_L5 p0 x n k v6 (v7 + 1) o1_0 o1_1 (o1_2 ++ ([v105_2] : List Int))
              else none
              else none
            else some (.r o1_0 o1_1 o1_2)
          else some (.r o1_0 o1_1 o1_2)
        else if v6 = 1 then
          if (x_3.l.length : Int) = 2 then
            (atI x_3.l 0).bind fun v82_2 =>
            (atI x_3.l 1).bind fun v85_2 =>
            if Room 16 (o1_1 ++ ([({ owner := v82_2, depth := v85_2 } : GLock)] : List GLock)).length then if InR (v7 + 1) then vigilref14_Parse_L5 p0 x n k v6 (v7 + 1) o1_0 (o1_1 ++ ([({ owner := v82_2, depth := v85_2 } : GLock)] : List GLock)) o1_2
            else none
            else none
          else if v6 = 2 then
            if (x_3.l.length : Int) = 1 then
              (atI x_3.l 0).bind fun v105_3 =>
              if Room 8 (o1_2 ++ ([v105_3] : List Int)).length then if InR (v7 + 1) then vigilref14_Parse_L5 p0 x n k v6 (v7 + 1) o1_0 o1_1 (o1_2 ++ ([v105_3] : List Int))
              else none
              else none
            else some (.r o1_0 o1_1 o1_2)
          else some (.r o1_0 o1_1 o1_2)
        else if v6 = 2 then
          if (x_3.l.length : Int) = 1 then
            (atI x_3.l 0).bind fun v105_4 =>
            if Room 8 (o1_2 ++ ([v105_4] : List Int)).length then if InR (v7 + 1) then vigilref14_Parse_L5 p0 x n k v6 (v7 + 1) o1_0 o1_1 (o1_2 ++ ([v105_4] : List Int))
            else none
            else none
          else some (.r o1_0 o1_1 o1_2)
        else some (.r o1_0 o1_1 o1_2)
      else some (.r o1_0 o1_1 o1_2)
    else some (.e0 v6 v7 o1_0 o1_1 o1_2)
theorem vigilref14_Parse_L5_ok (p0 : ByteArray) (x : List ByteArray) (n : Nat) : ∀ (k : Nat) (v6 : Int) (v7 : Int) (o1_0 : List GThread) (o1_1 : List GLock) (o1_2 : List Int) (o : vigilref14_Parse_L5O), vigilref14_Parse_L5 p0 x n k v6 v7 o1_0 o1_1 o1_2 = some o → ∀ s : S, restrS (X.an.rs 24 5) s = ⟨fl [(0, .c (.sc (.string p0))), (2, .pt 0 1 0), (4, .pt 1 1 0), (5, apl x), (6, dInt v6), (7, dInt v7)], ⟨[⟨1, vigilref14_Parse_c1⟩, ⟨1, [apl o1_0, apl o1_1, apl o1_2]⟩], []⟩⟩ → X.Loop 24 120 [] (sub b24 [1, 1, 1, 1, 0, 1, 0, 0]) 2 s (vigilref14_Parse_L5x o) (vigilref14_Parse_L5s p0 x o) := by
  intro k
  induction k with
  | zero => intro v6 v7 o1_0 o1_1 o1_2 o h s hs; unfold vigilref14_Parse_L5 at h; cases h
  | succ k ih =>
    intro v6 v7 o1_0 o1_1 o1_2 o h s hs
    unfold vigilref14_Parse_L5 at h
    refine Sys.loopQ hs ?_
    by_cases h1 : v7 < (x.length : Int)
    · replace h := iteT h1 h
      obtain ⟨v21, h3, h⟩ := bindE h
      refine Sys.to [((5, 3), .b true)] 7 (.at [1, 0, 0, 0, 0]) ⟨fl [(0, .c (.sc (.string p0))), (2, .pt 0 1 0), (4, .pt 1 1 0), (5, apl x), (6, dInt v6), (7, dInt v7), (16, dB true)], ⟨[⟨1, vigilref14_Parse_c1⟩, ⟨1, [apl o1_0, apl o1_1, apl o1_2]⟩], []⟩⟩ (h1) (by kernel_rfl) ?_
      by_cases h4 : v21 = (⟨#[47]⟩ : ByteArray)
      · replace h := iteT h4 h
        by_cases h6 : InR (v6 + 1)
        case neg => exact absurd (iteF h6 h) (by simp)
        replace h := iteT h6 h
        by_cases h8 : InR (v7 + 1)
        case neg => exact absurd (iteF h8 h) (by simp)
        replace h := iteT h8 h
        refine Sys.to [((7, 2), .ix), ((7, 3), .cell (.sc (.string v21))), ((7, 4), .op { d := dB true }), ((8, 1), .n), ((6, 1), .n)] 999999 (.fin .normal) ⟨fl [(0, .c (.sc (.string p0))), (2, .pt 0 1 0), (4, .pt 1 1 0), (5, apl x), (6, dInt (v6 + 1)), (7, dInt (v7 + 1))], ⟨[⟨1, vigilref14_Parse_c1⟩, ⟨1, [apl o1_0, apl o1_1, apl o1_2]⟩], []⟩⟩ (And.intro (atI_b h3) (And.intro (cell_at 0 (c := .sc (.string v21)) rfl (atI_g h3)) (And.intro (str_eql_true h4) (And.intro (h6) (h8))))) (by kernel_rfl) ?_
        exact Sys.fin (.inl ⟨rfl, ⟨fl [(0, .c (.sc (.string p0))), (2, .pt 0 1 0), (4, .pt 1 1 0), (5, apl x), (6, dInt (v6 + 1)), (7, dInt (v7 + 1))], ⟨[⟨1, vigilref14_Parse_c1⟩, ⟨1, [apl o1_0, apl o1_1, apl o1_2]⟩], []⟩⟩, (by kernel_rfl), ih (v6 + 1) (v7 + 1) o1_0 o1_1 o1_2 _ h _ (by kernel_rfl)⟩)
      · replace h := iteF h4 h
        obtain ⟨x_2, g6, h⟩ := bindE h
        have h6 := vigilref14_split_ok g6
        obtain ⟨⟨x_3, x_4⟩, g7, h⟩ := bindE h
        dsimp only at h
        have h7 := vigilref14_numbers_ok g7
        refine Sys.to [((7, 2), .ix), ((7, 3), .cell (.sc (.string v21))), ((7, 4), .op { d := dB false }), ((9, 2), .ix), ((9, 3), .cell (.sc (.string v21))), ((9, 4), .call (apl x_2) ⟨[], []⟩), ((9, 5), .call (.tup [.c (eSl x_3), dB x_4]) ⟨[], []⟩)] 11 (.at [1, 0, 0, 1, 1, 0, 0]) ⟨fl [(0, .c (.sc (.string p0))), (2, .pt 0 1 0), (4, .pt 1 1 0), (5, apl x), (6, dInt v6), (7, dInt v7), (8, .c (eSl x_3)), (9, dB x_4)], ⟨[⟨1, vigilref14_Parse_c1⟩, ⟨1, [apl o1_0, apl o1_1, apl o1_2]⟩], []⟩⟩ (And.intro (atI_b h3) (And.intro (cell_at 0 (c := .sc (.string v21)) rfl (atI_g h3)) (And.intro (str_eql_false h4) (And.intro (atI_b h3) (And.intro (cell_at 0 (c := .sc (.string v21)) rfl (atI_g h3)) (And.intro (h6) (h7))))))) (by kernel_rfl) ?_
        cases x_4 with
        | true =>
          replace h := condT h
          by_cases h10 : v6 = 0
          · replace h := iteT h10 h
            by_cases h11 : (x_3.l.length : Int) = 5
            · replace h := iteT h11 h
              obtain ⟨v50, h13, h⟩ := bindE h
              obtain ⟨v53, h14, h⟩ := bindE h
              obtain ⟨v56, h15, h⟩ := bindE h
              obtain ⟨v59, h16, h⟩ := bindE h
              obtain ⟨v62, h17, h⟩ := bindE h
              by_cases h18 : Room 40 (o1_0 ++ ([({ role := v50, loc := v53, state := v56, left := v59, depth := v62 } : GThread)] : List GThread)).length
              case neg => exact absurd (iteF h18 h) (by simp)
              replace h := iteT h18 h
              by_cases h20 : InR (v7 + 1)
              case neg => exact absurd (iteF h20 h) (by simp)
              replace h := iteT h20 h
              refine Sys.to [((11, 3), .b true), ((11, 8), .b true), ((12, 3), .ix), ((12, 4), .cell (cInt v50)), ((12, 6), .ix), ((12, 7), .cell (cInt v53)), ((12, 9), .ix), ((12, 10), .cell (cInt v56)), ((12, 12), .ix), ((12, 13), .cell (cInt v59)), ((12, 15), .ix), ((12, 16), .cell (cInt v62)), ((12, 19), .appF (o1_0 ++ ([({ role := v50, loc := v53, state := v56, left := v59, depth := v62 } : GThread)] : List GThread)).isEmpty (cells (o1_0 ++ ([({ role := v50, loc := v53, state := v56, left := v59, depth := v62 } : GThread)] : List GThread))) (o1_0 ++ ([({ role := v50, loc := v53, state := v56, left := v59, depth := v62 } : GThread)] : List GThread)).length), ((6, 1), .n)] 999999 (.fin .normal) ⟨fl [(0, .c (.sc (.string p0))), (2, .pt 0 1 0), (4, .pt 1 1 0), (5, apl x), (6, dInt v6), (7, dInt (v7 + 1))], ⟨[⟨1, vigilref14_Parse_c1⟩, ⟨1, (vigilref14_Parse_c10 v50 v53 v56 v59 v62 o1_0 o1_1 o1_2)⟩], []⟩⟩ (And.intro (h10) (And.intro (h11) (And.intro (atI_b h13) (And.intro (cell_at 0 (c := cInt v50) rfl (atI_g h13)) (And.intro (atI_b h14) (And.intro (cell_at 0 (c := cInt v53) rfl (atI_g h14)) (And.intro (atI_b h15) (And.intro (cell_at 0 (c := cInt v56) rfl (atI_g h15)) (And.intro (atI_b h16) (And.intro (cell_at 0 (c := cInt v59) rfl (atI_g h16)) (And.intro (atI_b h17) (And.intro (cell_at 0 (c := cInt v62) rfl (atI_g h17)) (And.intro (apl_lit o1_0 ([({ role := v50, loc := v53, state := v56, left := v59, depth := v62 } : GThread)] : List GThread) (b := 40) (by decide) h18) (h20)))))))))))))) (by kernel_rfl) ?_
              exact Sys.fin (.inl ⟨rfl, ⟨fl [(0, .c (.sc (.string p0))), (2, .pt 0 1 0), (4, .pt 1 1 0), (5, apl x), (6, dInt v6), (7, dInt (v7 + 1))], ⟨[⟨1, vigilref14_Parse_c1⟩, ⟨1, (vigilref14_Parse_c10 v50 v53 v56 v59 v62 o1_0 o1_1 o1_2)⟩], []⟩⟩, (by kernel_rfl), ih v6 (v7 + 1) (o1_0 ++ ([({ role := v50, loc := v53, state := v56, left := v59, depth := v62 } : GThread)] : List GThread)) o1_1 o1_2 _ h _ (by kernel_rfl)⟩)
            · replace h := iteF h11 h
              refine Sys.to [((11, 3), .b true), ((11, 8), .b false)] 13 (.at [1, 0, 0, 1, 1, 0, 1, 1, 0]) ⟨fl [(0, .c (.sc (.string p0))), (2, .pt 0 1 0), (4, .pt 1 1 0), (5, apl x), (6, dInt v6), (7, dInt v7), (8, .c (eSl x_3)), (9, dB true), (36, dB false)], ⟨[⟨1, vigilref14_Parse_c1⟩, ⟨1, [apl o1_0, apl o1_1, apl o1_2]⟩], []⟩⟩ (And.intro (h10) (h11)) (by kernel_rfl) ?_
              by_cases h13 : v6 = 1
              · replace h := iteT h13 h
                by_cases h14 : (x_3.l.length : Int) = 2
                · replace h := iteT h14 h
                  obtain ⟨v82, h16, h⟩ := bindE h
                  obtain ⟨v85, h17, h⟩ := bindE h
                  by_cases h18 : Room 16 (o1_1 ++ ([({ owner := v82, depth := v85 } : GLock)] : List GLock)).length
                  case neg => exact absurd (iteF h18 h) (by simp)
                  replace h := iteT h18 h
                  by_cases h20 : InR (v7 + 1)
                  case neg => exact absurd (iteF h20 h) (by simp)
                  replace h := iteT h20 h
                  refine Sys.to [((13, 3), .b true), ((13, 8), .b true), ((14, 3), .ix), ((14, 4), .cell (cInt v82)), ((14, 6), .ix), ((14, 7), .cell (cInt v85)), ((14, 10), .appF (o1_1 ++ ([({ owner := v82, depth := v85 } : GLock)] : List GLock)).isEmpty (cells (o1_1 ++ ([({ owner := v82, depth := v85 } : GLock)] : List GLock))) (o1_1 ++ ([({ owner := v82, depth := v85 } : GLock)] : List GLock)).length), ((6, 1), .n)] 999999 (.fin .normal) ⟨fl [(0, .c (.sc (.string p0))), (2, .pt 0 1 0), (4, .pt 1 1 0), (5, apl x), (6, dInt v6), (7, dInt (v7 + 1))], ⟨[⟨1, vigilref14_Parse_c1⟩, ⟨1, (vigilref14_Parse_c11 o1_0 v82 v85 o1_1 o1_2)⟩], []⟩⟩ (And.intro (h13) (And.intro (h14) (And.intro (atI_b h16) (And.intro (cell_at 0 (c := cInt v82) rfl (atI_g h16)) (And.intro (atI_b h17) (And.intro (cell_at 0 (c := cInt v85) rfl (atI_g h17)) (And.intro (apl_lit o1_1 ([({ owner := v82, depth := v85 } : GLock)] : List GLock) (b := 16) (by decide) h18) (h20)))))))) (by kernel_rfl) ?_
                  exact Sys.fin (.inl ⟨rfl, ⟨fl [(0, .c (.sc (.string p0))), (2, .pt 0 1 0), (4, .pt 1 1 0), (5, apl x), (6, dInt v6), (7, dInt (v7 + 1))], ⟨[⟨1, vigilref14_Parse_c1⟩, ⟨1, (vigilref14_Parse_c11 o1_0 v82 v85 o1_1 o1_2)⟩], []⟩⟩, (by kernel_rfl), ih v6 (v7 + 1) o1_0 (o1_1 ++ ([({ owner := v82, depth := v85 } : GLock)] : List GLock)) o1_2 _ h _ (by kernel_rfl)⟩)
                · replace h := iteF h14 h
                  refine Sys.to [((13, 3), .b true), ((13, 8), .b false)] 15 (.at [1, 0, 0, 1, 1, 0, 1, 1, 1, 1, 0]) ⟨fl [(0, .c (.sc (.string p0))), (2, .pt 0 1 0), (4, .pt 1 1 0), (5, apl x), (6, dInt v6), (7, dInt v7), (8, .c (eSl x_3)), (9, dB true), (68, dB false)], ⟨[⟨1, vigilref14_Parse_c1⟩, ⟨1, [apl o1_0, apl o1_1, apl o1_2]⟩], []⟩⟩ (And.intro (h13) (h14)) (by kernel_rfl) ?_
                  by_cases h16 : v6 = 2
                  · replace h := iteT h16 h
                    by_cases h17 : (x_3.l.length : Int) = 1
                    · replace h := iteT h17 h
                      obtain ⟨v105, h19, h⟩ := bindE h
                      by_cases h20 : Room 8 (o1_2 ++ ([v105] : List Int)).length
                      case neg => exact absurd (iteF h20 h) (by simp)
                      replace h := iteT h20 h
                      by_cases h22 : InR (v7 + 1)
                      case neg => exact absurd (iteF h22 h) (by simp)
                      replace h := iteT h22 h
                      refine Sys.to [((15, 3), .b true), ((15, 8), .b true), ((16, 3), .ix), ((16, 4), .cell (cInt v105)), ((16, 6), .appF (o1_2 ++ ([v105] : List Int)).isEmpty (cells (o1_2 ++ ([v105] : List Int))) (o1_2 ++ ([v105] : List Int)).length), ((6, 1), .n)] 999999 (.fin .normal) ⟨fl [(0, .c (.sc (.string p0))), (2, .pt 0 1 0), (4, .pt 1 1 0), (5, apl x), (6, dInt v6), (7, dInt (v7 + 1))], ⟨[⟨1, vigilref14_Parse_c1⟩, ⟨1, [apl o1_0, apl o1_1, apl (o1_2 ++ ([v105] : List Int))]⟩], []⟩⟩ (And.intro (h16) (And.intro (h17) (And.intro (atI_b h19) (And.intro (cell_at 0 (c := cInt v105) rfl (atI_g h19)) (And.intro (apl_lit o1_2 ([v105] : List Int) (b := 8) (by decide) h20) (h22)))))) (by kernel_rfl) ?_
                      exact Sys.fin (.inl ⟨rfl, ⟨fl [(0, .c (.sc (.string p0))), (2, .pt 0 1 0), (4, .pt 1 1 0), (5, apl x), (6, dInt v6), (7, dInt (v7 + 1))], ⟨[⟨1, vigilref14_Parse_c1⟩, ⟨1, [apl o1_0, apl o1_1, apl (o1_2 ++ ([v105] : List Int))]⟩], []⟩⟩, (by kernel_rfl), ih v6 (v7 + 1) o1_0 o1_1 (o1_2 ++ ([v105] : List Int)) _ h _ (by kernel_rfl)⟩)
                    · replace h := iteF h17 h
                      have hr := Option.some.inj h
                      subst hr
                      exact Sys.endX [((15, 3), .b true), ((15, 8), .b false)] (And.intro (h16) (h17)) rfl (by kernel_rfl)
                  · replace h := iteF h16 h
                    have hr := Option.some.inj h
                    subst hr
                    exact Sys.endX [((15, 3), .b false)] (h16) rfl (by kernel_rfl)
              · replace h := iteF h13 h
                refine Sys.to [((13, 3), .b false)] 15 (.at [1, 0, 0, 1, 1, 0, 1, 1, 1, 1, 0]) ⟨fl [(0, .c (.sc (.string p0))), (2, .pt 0 1 0), (4, .pt 1 1 0), (5, apl x), (6, dInt v6), (7, dInt v7), (8, .c (eSl x_3)), (9, dB true), (68, dB false)], ⟨[⟨1, vigilref14_Parse_c1⟩, ⟨1, [apl o1_0, apl o1_1, apl o1_2]⟩], []⟩⟩ (h13) (by kernel_rfl) ?_
                by_cases h15 : v6 = 2
                · replace h := iteT h15 h
                  by_cases h16 : (x_3.l.length : Int) = 1
                  · replace h := iteT h16 h
                    obtain ⟨v105_2, h18, h⟩ := bindE h
                    by_cases h19 : Room 8 (o1_2 ++ ([v105_2] : List Int)).length
                    case neg => exact absurd (iteF h19 h) (by simp)
                    replace h := iteT h19 h
                    by_cases h21 : InR (v7 + 1)
                    case neg => exact absurd (iteF h21 h) (by simp)
                    replace h := iteT h21 h
                    refine Sys.to [((15, 3), .b true), ((15, 8), .b true), ((16, 3), .ix), ((16, 4), .cell (cInt v105_2)), ((16, 6), .appF (o1_2 ++ ([v105_2] : List Int)).isEmpty (cells (o1_2 ++ ([v105_2] : List Int))) (o1_2 ++ ([v105_2] : List Int)).length), ((6, 1), .n)] 999999 (.fin .normal) ⟨fl [(0, .c (.sc (.string p0))), (2, .pt 0 1 0), (4, .pt 1 1 0), (5, apl x), (6, dInt v6), (7, dInt (v7 + 1))], ⟨[⟨1, vigilref14_Parse_c1⟩, ⟨1, [apl o1_0, apl o1_1, apl (o1_2 ++ ([v105_2] : List Int))]⟩], []⟩⟩ (And.intro (h15) (And.intro (h16) (And.intro (atI_b h18) (And.intro (cell_at 0 (c := cInt v105_2) rfl (atI_g h18)) (And.intro (apl_lit o1_2 ([v105_2] : List Int) (b := 8) (by decide) h19) (h21)))))) (by kernel_rfl) ?_
                    exact Sys.fin (.inl ⟨rfl, ⟨fl [(0, .c (.sc (.string p0))), (2, .pt 0 1 0), (4, .pt 1 1 0), (5, apl x), (6, dInt v6), (7, dInt (v7 + 1))], ⟨[⟨1, vigilref14_Parse_c1⟩, ⟨1, [apl o1_0, apl o1_1, apl (o1_2 ++ ([v105_2] : List Int))]⟩], []⟩⟩, (by kernel_rfl), ih v6 (v7 + 1) o1_0 o1_1 (o1_2 ++ ([v105_2] : List Int)) _ h _ (by kernel_rfl)⟩)
                  · replace h := iteF h16 h
                    have hr := Option.some.inj h
                    subst hr
                    exact Sys.endX [((15, 3), .b true), ((15, 8), .b false)] (And.intro (h15) (h16)) rfl (by kernel_rfl)
                · replace h := iteF h15 h
                  have hr := Option.some.inj h
                  subst hr
                  exact Sys.endX [((15, 3), .b false)] (h15) rfl (by kernel_rfl)
          · replace h := iteF h10 h
            refine Sys.to [((11, 3), .b false)] 13 (.at [1, 0, 0, 1, 1, 0, 1, 1, 0]) ⟨fl [(0, .c (.sc (.string p0))), (2, .pt 0 1 0), (4, .pt 1 1 0), (5, apl x), (6, dInt v6), (7, dInt v7), (8, .c (eSl x_3)), (9, dB true), (36, dB false)], ⟨[⟨1, vigilref14_Parse_c1⟩, ⟨1, [apl o1_0, apl o1_1, apl o1_2]⟩], []⟩⟩ (h10) (by kernel_rfl) ?_
            by_cases h12 : v6 = 1
            · replace h := iteT h12 h
              by_cases h13 : (x_3.l.length : Int) = 2
              · replace h := iteT h13 h
                obtain ⟨v82_2, h15, h⟩ := bindE h
                obtain ⟨v85_2, h16, h⟩ := bindE h
                by_cases h17 : Room 16 (o1_1 ++ ([({ owner := v82_2, depth := v85_2 } : GLock)] : List GLock)).length
                case neg => exact absurd (iteF h17 h) (by simp)
                replace h := iteT h17 h
                by_cases h19 : InR (v7 + 1)
                case neg => exact absurd (iteF h19 h) (by simp)
                replace h := iteT h19 h
                refine Sys.to [((13, 3), .b true), ((13, 8), .b true), ((14, 3), .ix), ((14, 4), .cell (cInt v82_2)), ((14, 6), .ix), ((14, 7), .cell (cInt v85_2)), ((14, 10), .appF (o1_1 ++ ([({ owner := v82_2, depth := v85_2 } : GLock)] : List GLock)).isEmpty (cells (o1_1 ++ ([({ owner := v82_2, depth := v85_2 } : GLock)] : List GLock))) (o1_1 ++ ([({ owner := v82_2, depth := v85_2 } : GLock)] : List GLock)).length), ((6, 1), .n)] 999999 (.fin .normal) ⟨fl [(0, .c (.sc (.string p0))), (2, .pt 0 1 0), (4, .pt 1 1 0), (5, apl x), (6, dInt v6), (7, dInt (v7 + 1))], ⟨[⟨1, vigilref14_Parse_c1⟩, ⟨1, (vigilref14_Parse_c12 o1_0 v82_2 v85_2 o1_1 o1_2)⟩], []⟩⟩ (And.intro (h12) (And.intro (h13) (And.intro (atI_b h15) (And.intro (cell_at 0 (c := cInt v82_2) rfl (atI_g h15)) (And.intro (atI_b h16) (And.intro (cell_at 0 (c := cInt v85_2) rfl (atI_g h16)) (And.intro (apl_lit o1_1 ([({ owner := v82_2, depth := v85_2 } : GLock)] : List GLock) (b := 16) (by decide) h17) (h19)))))))) (by kernel_rfl) ?_
                exact Sys.fin (.inl ⟨rfl, ⟨fl [(0, .c (.sc (.string p0))), (2, .pt 0 1 0), (4, .pt 1 1 0), (5, apl x), (6, dInt v6), (7, dInt (v7 + 1))], ⟨[⟨1, vigilref14_Parse_c1⟩, ⟨1, (vigilref14_Parse_c12 o1_0 v82_2 v85_2 o1_1 o1_2)⟩], []⟩⟩, (by kernel_rfl), ih v6 (v7 + 1) o1_0 (o1_1 ++ ([({ owner := v82_2, depth := v85_2 } : GLock)] : List GLock)) o1_2 _ h _ (by kernel_rfl)⟩)
              · replace h := iteF h13 h
                refine Sys.to [((13, 3), .b true), ((13, 8), .b false)] 15 (.at [1, 0, 0, 1, 1, 0, 1, 1, 1, 1, 0]) ⟨fl [(0, .c (.sc (.string p0))), (2, .pt 0 1 0), (4, .pt 1 1 0), (5, apl x), (6, dInt v6), (7, dInt v7), (8, .c (eSl x_3)), (9, dB true), (68, dB false)], ⟨[⟨1, vigilref14_Parse_c1⟩, ⟨1, [apl o1_0, apl o1_1, apl o1_2]⟩], []⟩⟩ (And.intro (h12) (h13)) (by kernel_rfl) ?_
                by_cases h15 : v6 = 2
                · replace h := iteT h15 h
                  by_cases h16 : (x_3.l.length : Int) = 1
                  · replace h := iteT h16 h
                    obtain ⟨v105_3, h18, h⟩ := bindE h
                    by_cases h19 : Room 8 (o1_2 ++ ([v105_3] : List Int)).length
                    case neg => exact absurd (iteF h19 h) (by simp)
                    replace h := iteT h19 h
                    by_cases h21 : InR (v7 + 1)
                    case neg => exact absurd (iteF h21 h) (by simp)
                    replace h := iteT h21 h
                    refine Sys.to [((15, 3), .b true), ((15, 8), .b true), ((16, 3), .ix), ((16, 4), .cell (cInt v105_3)), ((16, 6), .appF (o1_2 ++ ([v105_3] : List Int)).isEmpty (cells (o1_2 ++ ([v105_3] : List Int))) (o1_2 ++ ([v105_3] : List Int)).length), ((6, 1), .n)] 999999 (.fin .normal) ⟨fl [(0, .c (.sc (.string p0))), (2, .pt 0 1 0), (4, .pt 1 1 0), (5, apl x), (6, dInt v6), (7, dInt (v7 + 1))], ⟨[⟨1, vigilref14_Parse_c1⟩, ⟨1, [apl o1_0, apl o1_1, apl (o1_2 ++ ([v105_3] : List Int))]⟩], []⟩⟩ (And.intro (h15) (And.intro (h16) (And.intro (atI_b h18) (And.intro (cell_at 0 (c := cInt v105_3) rfl (atI_g h18)) (And.intro (apl_lit o1_2 ([v105_3] : List Int) (b := 8) (by decide) h19) (h21)))))) (by kernel_rfl) ?_
                    exact Sys.fin (.inl ⟨rfl, ⟨fl [(0, .c (.sc (.string p0))), (2, .pt 0 1 0), (4, .pt 1 1 0), (5, apl x), (6, dInt v6), (7, dInt (v7 + 1))], ⟨[⟨1, vigilref14_Parse_c1⟩, ⟨1, [apl o1_0, apl o1_1, apl (o1_2 ++ ([v105_3] : List Int))]⟩], []⟩⟩, (by kernel_rfl), ih v6 (v7 + 1) o1_0 o1_1 (o1_2 ++ ([v105_3] : List Int)) _ h _ (by kernel_rfl)⟩)
                  · replace h := iteF h16 h
                    have hr := Option.some.inj h
                    subst hr
                    exact Sys.endX [((15, 3), .b true), ((15, 8), .b false)] (And.intro (h15) (h16)) rfl (by kernel_rfl)
                · replace h := iteF h15 h
                  have hr := Option.some.inj h
                  subst hr
                  exact Sys.endX [((15, 3), .b false)] (h15) rfl (by kernel_rfl)
            · replace h := iteF h12 h
              refine Sys.to [((13, 3), .b false)] 15 (.at [1, 0, 0, 1, 1, 0, 1, 1, 1, 1, 0]) ⟨fl [(0, .c (.sc (.string p0))), (2, .pt 0 1 0), (4, .pt 1 1 0), (5, apl x), (6, dInt v6), (7, dInt v7), (8, .c (eSl x_3)), (9, dB true), (68, dB false)], ⟨[⟨1, vigilref14_Parse_c1⟩, ⟨1, [apl o1_0, apl o1_1, apl o1_2]⟩], []⟩⟩ (h12) (by kernel_rfl) ?_
              by_cases h14 : v6 = 2
              · replace h := iteT h14 h
                by_cases h15 : (x_3.l.length : Int) = 1
                · replace h := iteT h15 h
                  obtain ⟨v105_4, h17, h⟩ := bindE h
                  by_cases h18 : Room 8 (o1_2 ++ ([v105_4] : List Int)).length
                  case neg => exact absurd (iteF h18 h) (by simp)
                  replace h := iteT h18 h
                  by_cases h20 : InR (v7 + 1)
                  case neg => exact absurd (iteF h20 h) (by simp)
                  replace h := iteT h20 h
                  refine Sys.to [((15, 3), .b true), ((15, 8), .b true), ((16, 3), .ix), ((16, 4), .cell (cInt v105_4)), ((16, 6), .appF (o1_2 ++ ([v105_4] : List Int)).isEmpty (cells (o1_2 ++ ([v105_4] : List Int))) (o1_2 ++ ([v105_4] : List Int)).length), ((6, 1), .n)] 999999 (.fin .normal) ⟨fl [(0, .c (.sc (.string p0))), (2, .pt 0 1 0), (4, .pt 1 1 0), (5, apl x), (6, dInt v6), (7, dInt (v7 + 1))], ⟨[⟨1, vigilref14_Parse_c1⟩, ⟨1, [apl o1_0, apl o1_1, apl (o1_2 ++ ([v105_4] : List Int))]⟩], []⟩⟩ (And.intro (h14) (And.intro (h15) (And.intro (atI_b h17) (And.intro (cell_at 0 (c := cInt v105_4) rfl (atI_g h17)) (And.intro (apl_lit o1_2 ([v105_4] : List Int) (b := 8) (by decide) h18) (h20)))))) (by kernel_rfl) ?_
                  exact Sys.fin (.inl ⟨rfl, ⟨fl [(0, .c (.sc (.string p0))), (2, .pt 0 1 0), (4, .pt 1 1 0), (5, apl x), (6, dInt v6), (7, dInt (v7 + 1))], ⟨[⟨1, vigilref14_Parse_c1⟩, ⟨1, [apl o1_0, apl o1_1, apl (o1_2 ++ ([v105_4] : List Int))]⟩], []⟩⟩, (by kernel_rfl), ih v6 (v7 + 1) o1_0 o1_1 (o1_2 ++ ([v105_4] : List Int)) _ h _ (by kernel_rfl)⟩)
                · replace h := iteF h15 h
                  have hr := Option.some.inj h
                  subst hr
                  exact Sys.endX [((15, 3), .b true), ((15, 8), .b false)] (And.intro (h14) (h15)) rfl (by kernel_rfl)
              · replace h := iteF h14 h
                have hr := Option.some.inj h
                subst hr
                exact Sys.endX [((15, 3), .b false)] (h14) rfl (by kernel_rfl)
        | false =>
          replace h := condF h
          have hr := Option.some.inj h
          subst hr
          exact Sys.endX [] (True.intro) rfl (by kernel_rfl)
    · replace h := iteF h1 h
      have hr := Option.some.inj h
      subst hr
      exact Sys.endX [((5, 3), .b false)] (h1) rfl (by kernel_rfl)

def vigilref14_Parse (n : Nat) (p0 : ByteArray) : Option (GWorld × Bool) :=
  (vigilref14_split n p0 32).bind fun x =>
  (vigilref14_Parse_L5 p0 x n n 0 0 ([] : List GThread) ([] : List GLock) ([] : List Int)).bind fun o_2 => match o_2 with
  | .r o1_0_2 o1_1_2 o1_2_2 =>
    some (({ threads := (Sl.nil : Sl GThread), locks := (Sl.nil : Sl GLock), vals := (Sl.nil : Sl Int) } : GWorld), false)
  | .e0 v6_2 v7_2 o1_0_3 o1_1_3 o1_2_3 =>
    if v6_2 ≠ 2 then
      some (({ threads := (Sl.nil : Sl GThread), locks := (Sl.nil : Sl GLock), vals := (Sl.nil : Sl Int) } : GWorld), false)
    else (vigilref14_Text n ({ threads := (Sl.gr o1_0_3), locks := (Sl.gr o1_1_3), vals := (Sl.gr o1_2_3) } : GWorld)).bind fun x_5 =>
    if x_5 = p0 then
      some (({ threads := (Sl.gr o1_0_3), locks := (Sl.gr o1_1_3), vals := (Sl.gr o1_2_3) } : GWorld), true)
    else some (({ threads := (Sl.nil : Sl GThread), locks := (Sl.nil : Sl GLock), vals := (Sl.nil : Sl Int) } : GWorld), false)
theorem vigilref14_Parse_ok {n : Nat} {p0 : ByteArray} {r : GWorld × Bool} (h : vigilref14_Parse n p0 = some r) : X.RunsC 24 [.c (.sc (.string p0))] (.tup [.c (.agg (EncX.encX r.1)), dB r.2]) := by
  unfold vigilref14_Parse at h
  refine Sys.callC' (fn := Tryz.f24) (b := b24) (by kernel_rfl) (by kernel_rfl) ?_
  obtain ⟨x, g3, h⟩ := bindE h
  have h3 := vigilref14_split_ok g3
  refine Sys.to [((2, 1), .call (apl x) ⟨[], []⟩)] 100005 (.at [1, 1, 1, 1, 0, 1, 0]) ⟨fl [(0, .c (.sc (.string p0))), (2, .pt 0 1 0), (4, .pt 1 1 0), (5, apl x), (6, dInt 0), (7, dInt 0)], ⟨[⟨1, vigilref14_Parse_c1⟩, ⟨1, [apl ([] : List GThread), apl ([] : List GLock), apl ([] : List Int)]⟩], []⟩⟩ (h3) (by kernel_rfl) ?_
  obtain ⟨o_2, g7, h⟩ := bindE h
  have h7 := vigilref14_Parse_L5_ok p0 x n n 0 0 ([] : List GThread) ([] : List GLock) ([] : List Int) _ g7
  cases o_2 with
  | r o1_0_2 o1_1_2 o1_2_2 =>
    dsimp only at h
    have hr := Option.some.inj h
    subst hr
    exact Sys.endC [((5, 1000), .code .ret ⟨fl [(2, .pt 0 1 0), (3, dB false)], ⟨[⟨1, vigilref14_Parse_c1⟩, ⟨1, [apl o1_0_2, apl o1_1_2, apl o1_2_2]⟩], []⟩⟩)] (Sys.Loop.goM (h7 ⟨fl [(0, .c (.sc (.string p0))), (2, .pt 0 1 0), (4, .pt 1 1 0), (5, apl x), (6, dInt 0), (7, dInt 0)], ⟨[⟨1, vigilref14_Parse_c1⟩, ⟨1, [apl ([] : List GThread), apl ([] : List GLock), apl ([] : List Int)]⟩], []⟩⟩ (by kernel_rfl)) (by kernel_rfl)) (by kernel_rfl)
  | e0 v6_2 v7_2 o1_0_3 o1_1_3 o1_2_3 =>
    dsimp only at h
    refine Sys.to [((5, 1000), .code (.exit 0) ⟨fl [(0, .c (.sc (.string p0))), (2, .pt 0 1 0), (4, .pt 1 1 0), (5, apl x), (6, dInt v6_2), (7, dInt v7_2), (16, dB false)], ⟨[⟨1, vigilref14_Parse_c1⟩, ⟨1, [apl o1_0_3, apl o1_1_3, apl o1_2_3]⟩], []⟩⟩)] 17 (.at [1, 1, 1, 1, 1, 0, 0]) ⟨fl [(0, .c (.sc (.string p0))), (2, .pt 0 1 0), (4, .pt 1 1 0), (5, apl x), (6, dInt v6_2), (7, dInt v7_2), (16, dB false)], ⟨[⟨1, vigilref14_Parse_c1⟩, ⟨1, [apl o1_0_3, apl o1_1_3, apl o1_2_3]⟩], []⟩⟩ (Sys.Loop.goM (h7 ⟨fl [(0, .c (.sc (.string p0))), (2, .pt 0 1 0), (4, .pt 1 1 0), (5, apl x), (6, dInt 0), (7, dInt 0)], ⟨[⟨1, vigilref14_Parse_c1⟩, ⟨1, [apl ([] : List GThread), apl ([] : List GLock), apl ([] : List Int)]⟩], []⟩⟩ (by kernel_rfl)) (by kernel_rfl)) (by kernel_rfl) ?_
    by_cases h9 : v6_2 ≠ 2
    · replace h := iteT h9 h
      have hr := Option.some.inj h
      subst hr
      exact Sys.endC [((17, 1), .b true)] (h9) (by kernel_rfl)
    · replace h := iteF h9 h
      obtain ⟨x_5, g10, h⟩ := bindE h
      have h10 := vigilref14_Text_ok g10
      by_cases h11 : x_5 = p0
      · replace h := iteT h11 h
        have hr := Option.some.inj h
        subst hr
        exact Sys.endC [((17, 1), .b false), ((17, 4), .call (.c (.sc (.string x_5))) ⟨[], []⟩), ((17, 6), .op { d := dB false })] (And.intro (h9) (And.intro (h10) (str_neq_false h11))) (by kernel_rfl)
      · replace h := iteF h11 h
        have hr := Option.some.inj h
        subst hr
        exact Sys.endC [((17, 1), .b false), ((17, 4), .call (.c (.sc (.string x_5))) ⟨[], []⟩), ((17, 6), .op { d := dB true })] (And.intro (h9) (And.intro (h10) (str_neq_true h11))) (by kernel_rfl)
inductive slices_Equal_L4O where
  | r
  | e0 (v13 : Int)
def slices_Equal_L4x : slices_Equal_L4O → Ex
  | .r => .ret
  | .e0 _ => (.exit 0)
def slices_Equal_L4s (p0 : Sl GThread) (p1 : Sl GThread) : slices_Equal_L4O → S
  | .r => ⟨fl [(4, dB false)], ⟨[], []⟩⟩
  | .e0 v13 => ⟨fl [(0, .c (eSl p0)), (1, .c (eSl p1)), (12, dInt (p0.l.length : Int)), (13, dInt v13), (14, dB false)], ⟨[], []⟩⟩
def slices_Equal_L4 (p0 : Sl GThread) (p1 : Sl GThread) (n : Nat) : Nat → Int → Option slices_Equal_L4O
  | 0, _ => none
  | k + 1, v13 =>
    if v13 < (p0.l.length : Int) then
      (atI p0.l v13).bind fun v18 =>
      (atI p1.l v13).bind fun v22 =>
      if v18 = v22 then
        if InR (v13 + 1) then slices_Equal_L4 p0 p1 n k (v13 + 1)
        else none
      else some (.r)
    else some (.e0 v13)
theorem slices_Equal_L4_ok (p0 : Sl GThread) (p1 : Sl GThread) (n : Nat) : ∀ (k : Nat) (v13 : Int) (o : slices_Equal_L4O), slices_Equal_L4 p0 p1 n k v13 = some o → ∀ s : S, restrS (X.an.rs 62 4) s = ⟨fl [(0, .c (eSl p0)), (1, .c (eSl p1)), (12, dInt (p0.l.length : Int)), (13, dInt v13)], ⟨[], []⟩⟩ → X.Loop 62 26 [] (sub b62 [1, 1, 0, 1, 0, 0]) 0 s (slices_Equal_L4x o) (slices_Equal_L4s p0 p1 o) := by
  intro k
  induction k with
  | zero => intro v13 o h s hs; unfold slices_Equal_L4 at h; cases h
  | succ k ih =>
    intro v13 o h s hs
    unfold slices_Equal_L4 at h
    refine Sys.loopQ hs ?_
    by_cases h1 : v13 < (p0.l.length : Int)
    · replace h := iteT h1 h
      obtain ⟨v18, h4, h⟩ := bindE h
      obtain ⟨v22, h5, h⟩ := bindE h
      refine Sys.to [((4, 0), .b true)] 6 (.at [1, 1, 0, 0, 1, 0]) ⟨fl [(0, .c (eSl p0)), (1, .c (eSl p1)), (5, dInt v13), (12, dInt (p0.l.length : Int)), (13, dInt v13)], ⟨[], []⟩⟩ (h1) (by kernel_rfl) ?_
      by_cases h6 : v18 = v22
      · replace h := iteT h6 h
        by_cases h8 : InR (v13 + 1)
        case neg => exact absurd (iteF h8 h) (by simp)
        replace h := iteT h8 h
        refine Sys.to [((6, 2), .ix), ((6, 3), .agg (EncX.encX v18)), ((6, 6), .ix), ((6, 7), .agg (EncX.encX v22)), ((6, 8), .op { d := dB false }), ((8, 0), .n)] 999999 (.fin .normal) ⟨fl [(0, .c (eSl p0)), (1, .c (eSl p1)), (12, dInt (p0.l.length : Int)), (13, dInt (v13 + 1))], ⟨[], []⟩⟩ (And.intro (atI_b h4) (And.intro (span_at 0 5 (by decide) (atI_g h4)) (And.intro (atI_b h5) (And.intro (span_at 0 5 (by decide) (atI_g h5)) (And.intro (rec_neq_false (GThread_eq v18 v22) h6) (h8)))))) (by kernel_rfl) ?_
        exact Sys.fin (.inl ⟨rfl, ⟨fl [(0, .c (eSl p0)), (1, .c (eSl p1)), (12, dInt (p0.l.length : Int)), (13, dInt (v13 + 1))], ⟨[], []⟩⟩, (by kernel_rfl), ih (v13 + 1) _ h _ (by kernel_rfl)⟩)
      · replace h := iteF h6 h
        have hr := Option.some.inj h
        subst hr
        exact Sys.endX [((6, 2), .ix), ((6, 3), .agg (EncX.encX v18)), ((6, 6), .ix), ((6, 7), .agg (EncX.encX v22)), ((6, 8), .op { d := dB true })] (And.intro (atI_b h4) (And.intro (span_at 0 5 (by decide) (atI_g h4)) (And.intro (atI_b h5) (And.intro (span_at 0 5 (by decide) (atI_g h5)) (rec_neq_true (GThread_eq v18 v22) h6))))) rfl (by kernel_rfl)
    · replace h := iteF h1 h
      have hr := Option.some.inj h
      subst hr
      exact Sys.endX [((4, 0), .b false)] (h1) rfl (by kernel_rfl)

def slices_Equal (n : Nat) (p0 : Sl GThread) (p1 : Sl GThread) : Option Bool :=
  if (p0.l.length : Int) ≠ (p1.l.length : Int) then
    some false
  else (slices_Equal_L4 p0 p1 n n 0).bind fun o_2 => match o_2 with
  | .r =>
    some false
  | .e0 v13_2 =>
    some true
theorem slices_Equal_ok {n : Nat} {p0 : Sl GThread} {p1 : Sl GThread} {r : Bool} (h : slices_Equal n p0 p1 = some r) : X.RunsC 62 [.c (eSl p0), .c (eSl p1)] (dB r) := by
  unfold slices_Equal at h
  refine Sys.callC' (fn := Tryz.f62) (b := b62) (by kernel_rfl) (by kernel_rfl) ?_
  by_cases h2 : (p0.l.length : Int) ≠ (p1.l.length : Int)
  · replace h := iteT h2 h
    have hr := Option.some.inj h
    subst hr
    exact Sys.endC [((1, 4), .b true)] (h2) (by kernel_rfl)
  · replace h := iteF h2 h
    refine Sys.to [((1, 4), .b false)] 100004 (.at [1, 1, 0, 1, 0]) ⟨fl [(0, .c (eSl p0)), (1, .c (eSl p1)), (12, dInt (p0.l.length : Int)), (13, dInt 0)], ⟨[], []⟩⟩ (h2) (by kernel_rfl) ?_
    obtain ⟨o_2, g5, h⟩ := bindE h
    have h5 := slices_Equal_L4_ok p0 p1 n n 0 _ g5
    cases o_2 with
    | r =>
      dsimp only at h
      have hr := Option.some.inj h
      subst hr
      exact Sys.endC [((4, 1000), .code .ret ⟨fl [(4, dB false)], ⟨[], []⟩⟩)] (Sys.Loop.goM (h5 ⟨fl [(0, .c (eSl p0)), (1, .c (eSl p1)), (12, dInt (p0.l.length : Int)), (13, dInt 0)], ⟨[], []⟩⟩ (by kernel_rfl)) (by kernel_rfl)) (by kernel_rfl)
    | e0 v13_2 =>
      dsimp only at h
      have hr := Option.some.inj h
      subst hr
      exact Sys.endC [((4, 1000), .code (.exit 0) ⟨fl [(0, .c (eSl p0)), (1, .c (eSl p1)), (12, dInt (p0.l.length : Int)), (13, dInt v13_2), (14, dB false)], ⟨[], []⟩⟩)] (Sys.Loop.goM (h5 ⟨fl [(0, .c (eSl p0)), (1, .c (eSl p1)), (12, dInt (p0.l.length : Int)), (13, dInt 0)], ⟨[], []⟩⟩ (by kernel_rfl)) (by kernel_rfl)) (by kernel_rfl)
end Go.Proofs.YtilipgopjiokfaaGreatDoor

/-
  Functions of the program as Lean functions, and that the interpreter comes to the same: printed by the session's own tool.
-/
set_option linter.unusedVariables false
set_option linter.unusedSimpArgs false
set_option maxRecDepth 100000
set_option maxHeartbeats 1000000
namespace Go.Proofs.YtilipgopjiokfaaGreatDoor
open Go Go.Abs Go.Proofs
inductive slices_Equal_2_L4O where
  | r
  | e0 (v13 : Int)
def slices_Equal_2_L4x : slices_Equal_2_L4O → Ex
  | .r => .ret
  | .e0 _ => (.exit 0)
def slices_Equal_2_L4s (p0 : Sl GLock) (p1 : Sl GLock) : slices_Equal_2_L4O → S
  | .r => ⟨fl [(4, dB false)], ⟨[], []⟩⟩
  | .e0 v13 => ⟨fl [(0, .c (eSl p0)), (1, .c (eSl p1)), (12, dInt (p0.l.length : Int)), (13, dInt v13), (14, dB false)], ⟨[], []⟩⟩
def slices_Equal_2_L4 (p0 : Sl GLock) (p1 : Sl GLock) (n : Nat) : Nat → Int → Option slices_Equal_2_L4O
  | 0, _ => none
  | k + 1, v13 =>
    if v13 < (p0.l.length : Int) then
      (atI p0.l v13).bind fun v18 =>
      (atI p1.l v13).bind fun v22 =>
      if v18 = v22 then
        if InR (v13 + 1) then slices_Equal_2_L4 p0 p1 n k (v13 + 1)
        else none
      else some (.r)
    else some (.e0 v13)
theorem slices_Equal_2_L4_ok (p0 : Sl GLock) (p1 : Sl GLock) (n : Nat) : ∀ (k : Nat) (v13 : Int) (o : slices_Equal_2_L4O), slices_Equal_2_L4 p0 p1 n k v13 = some o → ∀ s : S, restrS (X.an.rs 63 4) s = ⟨fl [(0, .c (eSl p0)), (1, .c (eSl p1)), (12, dInt (p0.l.length : Int)), (13, dInt v13)], ⟨[], []⟩⟩ → X.Loop 63 26 [] (sub b63 [1, 1, 0, 1, 0, 0]) 0 s (slices_Equal_2_L4x o) (slices_Equal_2_L4s p0 p1 o) := by
  intro k
  induction k with
  | zero => intro v13 o h s hs; unfold slices_Equal_2_L4 at h; cases h
  | succ k ih =>
    intro v13 o h s hs
    unfold slices_Equal_2_L4 at h
    refine Sys.loopQ hs ?_
    by_cases h1 : v13 < (p0.l.length : Int)
    · replace h := iteT h1 h
      obtain ⟨v18, h4, h⟩ := bindE h
      obtain ⟨v22, h5, h⟩ := bindE h
      refine Sys.to [((4, 0), .b true)] 6 (.at [1, 1, 0, 0, 1, 0]) ⟨fl [(0, .c (eSl p0)), (1, .c (eSl p1)), (5, dInt v13), (12, dInt (p0.l.length : Int)), (13, dInt v13)], ⟨[], []⟩⟩ (h1) (by kernel_rfl) ?_
      by_cases h6 : v18 = v22
      · replace h := iteT h6 h
        by_cases h8 : InR (v13 + 1)
        case neg => exact absurd (iteF h8 h) (by simp)
        replace h := iteT h8 h
        refine Sys.to [((6, 2), .ix), ((6, 3), .agg (EncX.encX v18)), ((6, 6), .ix), ((6, 7), .agg (EncX.encX v22)), ((6, 8), .op { d := dB false }), ((8, 0), .n)] 999999 (.fin .normal) ⟨fl [(0, .c (eSl p0)), (1, .c (eSl p1)), (12, dInt (p0.l.length : Int)), (13, dInt (v13 + 1))], ⟨[], []⟩⟩ (And.intro (atI_b h4) (And.intro (span_at 0 2 (by decide) (atI_g h4)) (And.intro (atI_b h5) (And.intro (span_at 0 2 (by decide) (atI_g h5)) (And.intro (rec_neq_false (GLock_eq v18 v22) h6) (h8)))))) (by kernel_rfl) ?_
        exact Sys.fin (.inl ⟨rfl, ⟨fl [(0, .c (eSl p0)), (1, .c (eSl p1)), (12, dInt (p0.l.length : Int)), (13, dInt (v13 + 1))], ⟨[], []⟩⟩, (by kernel_rfl), ih (v13 + 1) _ h _ (by kernel_rfl)⟩)
      · replace h := iteF h6 h
        have hr := Option.some.inj h
        subst hr
        exact Sys.endX [((6, 2), .ix), ((6, 3), .agg (EncX.encX v18)), ((6, 6), .ix), ((6, 7), .agg (EncX.encX v22)), ((6, 8), .op { d := dB true })] (And.intro (atI_b h4) (And.intro (span_at 0 2 (by decide) (atI_g h4)) (And.intro (atI_b h5) (And.intro (span_at 0 2 (by decide) (atI_g h5)) (rec_neq_true (GLock_eq v18 v22) h6))))) rfl (by kernel_rfl)
    · replace h := iteF h1 h
      have hr := Option.some.inj h
      subst hr
      exact Sys.endX [((4, 0), .b false)] (h1) rfl (by kernel_rfl)

def slices_Equal_2 (n : Nat) (p0 : Sl GLock) (p1 : Sl GLock) : Option Bool :=
  if (p0.l.length : Int) ≠ (p1.l.length : Int) then
    some false
  else (slices_Equal_2_L4 p0 p1 n n 0).bind fun o_2 => match o_2 with
  | .r =>
    some false
  | .e0 v13_2 =>
    some true
theorem slices_Equal_2_ok {n : Nat} {p0 : Sl GLock} {p1 : Sl GLock} {r : Bool} (h : slices_Equal_2 n p0 p1 = some r) : X.RunsC 63 [.c (eSl p0), .c (eSl p1)] (dB r) := by
  unfold slices_Equal_2 at h
  refine Sys.callC' (fn := Tryz.f63) (b := b63) (by kernel_rfl) (by kernel_rfl) ?_
  by_cases h2 : (p0.l.length : Int) ≠ (p1.l.length : Int)
  · replace h := iteT h2 h
    have hr := Option.some.inj h
    subst hr
    exact Sys.endC [((1, 4), .b true)] (h2) (by kernel_rfl)
  · replace h := iteF h2 h
    refine Sys.to [((1, 4), .b false)] 100004 (.at [1, 1, 0, 1, 0]) ⟨fl [(0, .c (eSl p0)), (1, .c (eSl p1)), (12, dInt (p0.l.length : Int)), (13, dInt 0)], ⟨[], []⟩⟩ (h2) (by kernel_rfl) ?_
    obtain ⟨o_2, g5, h⟩ := bindE h
    have h5 := slices_Equal_2_L4_ok p0 p1 n n 0 _ g5
    cases o_2 with
    | r =>
      dsimp only at h
      have hr := Option.some.inj h
      subst hr
      exact Sys.endC [((4, 1000), .code .ret ⟨fl [(4, dB false)], ⟨[], []⟩⟩)] (Sys.Loop.goM (h5 ⟨fl [(0, .c (eSl p0)), (1, .c (eSl p1)), (12, dInt (p0.l.length : Int)), (13, dInt 0)], ⟨[], []⟩⟩ (by kernel_rfl)) (by kernel_rfl)) (by kernel_rfl)
    | e0 v13_2 =>
      dsimp only at h
      have hr := Option.some.inj h
      subst hr
      exact Sys.endC [((4, 1000), .code (.exit 0) ⟨fl [(0, .c (eSl p0)), (1, .c (eSl p1)), (12, dInt (p0.l.length : Int)), (13, dInt v13_2), (14, dB false)], ⟨[], []⟩⟩)] (Sys.Loop.goM (h5 ⟨fl [(0, .c (eSl p0)), (1, .c (eSl p1)), (12, dInt (p0.l.length : Int)), (13, dInt 0)], ⟨[], []⟩⟩ (by kernel_rfl)) (by kernel_rfl)) (by kernel_rfl)
inductive slices_Equal_3_L4O where
  | r
  | e0 (v13 : Int)
def slices_Equal_3_L4x : slices_Equal_3_L4O → Ex
  | .r => .ret
  | .e0 _ => (.exit 0)
def slices_Equal_3_L4s (p0 : Sl Int) (p1 : Sl Int) : slices_Equal_3_L4O → S
  | .r => ⟨fl [(4, dB false)], ⟨[], []⟩⟩
  | .e0 v13 => ⟨fl [(0, .c (eSl p0)), (1, .c (eSl p1)), (12, dInt (p0.l.length : Int)), (13, dInt v13), (14, dB false)], ⟨[], []⟩⟩
def slices_Equal_3_L4 (p0 : Sl Int) (p1 : Sl Int) (n : Nat) : Nat → Int → Option slices_Equal_3_L4O
  | 0, _ => none
  | k + 1, v13 =>
    if v13 < (p0.l.length : Int) then
      (atI p0.l v13).bind fun v18 =>
      (atI p1.l v13).bind fun v22 =>
      if v18 ≠ v22 then
        some (.r)
      else if InR (v13 + 1) then slices_Equal_3_L4 p0 p1 n k (v13 + 1)
      else none
    else some (.e0 v13)
theorem slices_Equal_3_L4_ok (p0 : Sl Int) (p1 : Sl Int) (n : Nat) : ∀ (k : Nat) (v13 : Int) (o : slices_Equal_3_L4O), slices_Equal_3_L4 p0 p1 n k v13 = some o → ∀ s : S, restrS (X.an.rs 64 4) s = ⟨fl [(0, .c (eSl p0)), (1, .c (eSl p1)), (12, dInt (p0.l.length : Int)), (13, dInt v13)], ⟨[], []⟩⟩ → X.Loop 64 26 [] (sub b64 [1, 1, 0, 1, 0, 0]) 0 s (slices_Equal_3_L4x o) (slices_Equal_3_L4s p0 p1 o) := by
  intro k
  induction k with
  | zero => intro v13 o h s hs; unfold slices_Equal_3_L4 at h; cases h
  | succ k ih =>
    intro v13 o h s hs
    unfold slices_Equal_3_L4 at h
    refine Sys.loopQ hs ?_
    by_cases h1 : v13 < (p0.l.length : Int)
    · replace h := iteT h1 h
      obtain ⟨v18, h4, h⟩ := bindE h
      obtain ⟨v22, h5, h⟩ := bindE h
      refine Sys.to [((4, 0), .b true)] 6 (.at [1, 1, 0, 0, 1, 0]) ⟨fl [(0, .c (eSl p0)), (1, .c (eSl p1)), (5, dInt v13), (12, dInt (p0.l.length : Int)), (13, dInt v13)], ⟨[], []⟩⟩ (h1) (by kernel_rfl) ?_
      by_cases h6 : v18 ≠ v22
      · replace h := iteT h6 h
        have hr := Option.some.inj h
        subst hr
        exact Sys.endX [((6, 2), .ix), ((6, 3), .cell (cInt v18)), ((6, 6), .ix), ((6, 7), .cell (cInt v22)), ((6, 8), .b true)] (And.intro (atI_b h4) (And.intro (cell_at 0 (c := cInt v18) rfl (atI_g h4)) (And.intro (atI_b h5) (And.intro (cell_at 0 (c := cInt v22) rfl (atI_g h5)) (h6))))) rfl (by kernel_rfl)
      · replace h := iteF h6 h
        by_cases h8 : InR (v13 + 1)
        case neg => exact absurd (iteF h8 h) (by simp)
        replace h := iteT h8 h
        refine Sys.to [((6, 2), .ix), ((6, 3), .cell (cInt v18)), ((6, 6), .ix), ((6, 7), .cell (cInt v22)), ((6, 8), .b false), ((8, 0), .n)] 999999 (.fin .normal) ⟨fl [(0, .c (eSl p0)), (1, .c (eSl p1)), (12, dInt (p0.l.length : Int)), (13, dInt (v13 + 1))], ⟨[], []⟩⟩ (And.intro (atI_b h4) (And.intro (cell_at 0 (c := cInt v18) rfl (atI_g h4)) (And.intro (atI_b h5) (And.intro (cell_at 0 (c := cInt v22) rfl (atI_g h5)) (And.intro (h6) (h8)))))) (by kernel_rfl) ?_
        exact Sys.fin (.inl ⟨rfl, ⟨fl [(0, .c (eSl p0)), (1, .c (eSl p1)), (12, dInt (p0.l.length : Int)), (13, dInt (v13 + 1))], ⟨[], []⟩⟩, (by kernel_rfl), ih (v13 + 1) _ h _ (by kernel_rfl)⟩)
    · replace h := iteF h1 h
      have hr := Option.some.inj h
      subst hr
      exact Sys.endX [((4, 0), .b false)] (h1) rfl (by kernel_rfl)

def slices_Equal_3 (n : Nat) (p0 : Sl Int) (p1 : Sl Int) : Option Bool :=
  if (p0.l.length : Int) ≠ (p1.l.length : Int) then
    some false
  else (slices_Equal_3_L4 p0 p1 n n 0).bind fun o_2 => match o_2 with
  | .r =>
    some false
  | .e0 v13_2 =>
    some true
theorem slices_Equal_3_ok {n : Nat} {p0 : Sl Int} {p1 : Sl Int} {r : Bool} (h : slices_Equal_3 n p0 p1 = some r) : X.RunsC 64 [.c (eSl p0), .c (eSl p1)] (dB r) := by
  unfold slices_Equal_3 at h
  refine Sys.callC' (fn := Tryz.f64) (b := b64) (by kernel_rfl) (by kernel_rfl) ?_
  by_cases h2 : (p0.l.length : Int) ≠ (p1.l.length : Int)
  · replace h := iteT h2 h
    have hr := Option.some.inj h
    subst hr
    exact Sys.endC [((1, 4), .b true)] (h2) (by kernel_rfl)
  · replace h := iteF h2 h
    refine Sys.to [((1, 4), .b false)] 100004 (.at [1, 1, 0, 1, 0]) ⟨fl [(0, .c (eSl p0)), (1, .c (eSl p1)), (12, dInt (p0.l.length : Int)), (13, dInt 0)], ⟨[], []⟩⟩ (h2) (by kernel_rfl) ?_
    obtain ⟨o_2, g5, h⟩ := bindE h
    have h5 := slices_Equal_3_L4_ok p0 p1 n n 0 _ g5
    cases o_2 with
    | r =>
      dsimp only at h
      have hr := Option.some.inj h
      subst hr
      exact Sys.endC [((4, 1000), .code .ret ⟨fl [(4, dB false)], ⟨[], []⟩⟩)] (Sys.Loop.goM (h5 ⟨fl [(0, .c (eSl p0)), (1, .c (eSl p1)), (12, dInt (p0.l.length : Int)), (13, dInt 0)], ⟨[], []⟩⟩ (by kernel_rfl)) (by kernel_rfl)) (by kernel_rfl)
    | e0 v13_2 =>
      dsimp only at h
      have hr := Option.some.inj h
      subst hr
      exact Sys.endC [((4, 1000), .code (.exit 0) ⟨fl [(0, .c (eSl p0)), (1, .c (eSl p1)), (12, dInt (p0.l.length : Int)), (13, dInt v13_2), (14, dB false)], ⟨[], []⟩⟩)] (Sys.Loop.goM (h5 ⟨fl [(0, .c (eSl p0)), (1, .c (eSl p1)), (12, dInt (p0.l.length : Int)), (13, dInt 0)], ⟨[], []⟩⟩ (by kernel_rfl)) (by kernel_rfl)) (by kernel_rfl)
def world_Same (n : Nat) (p0 : GWorld) (p1 : GWorld) : Option Bool :=
  (slices_Equal n p0.threads p1.threads).bind fun x =>
  bif x then
    (slices_Equal_2 n p0.locks p1.locks).bind fun x_2 =>
    bif x_2 then
      (slices_Equal_3 n p0.vals p1.vals).bind fun x_3 =>
      some x_3
    else some false
  else some false
theorem world_Same_ok {n : Nat} {p0 : GWorld} {p1 : GWorld} {r : Bool} (h : world_Same n p0 p1 = some r) : X.RunsC 25 [.c (.agg (EncX.encX p0)), .c (.agg (EncX.encX p1))] (dB r) := by
  unfold world_Same at h
  refine Sys.callC' (fn := Tryz.f25) (b := b25) (by kernel_rfl) (by kernel_rfl) ?_
  obtain ⟨x, g2, h⟩ := bindE h
  have h2 := slices_Equal_ok g2
  cases x with
  | true =>
    replace h := condT h
    obtain ⟨x_2, g4, h⟩ := bindE h
    have h4 := slices_Equal_2_ok g4
    cases x_2 with
    | true =>
      replace h := condT h
      obtain ⟨x_3, g6, h⟩ := bindE h
      have h6 := slices_Equal_3_ok g6
      have hr := Option.some.inj h
      subst hr
      exact Sys.endC [((1, 4), .call (dB true) ⟨[], []⟩), ((1, 10), .call (dB true) ⟨[], []⟩), ((1, 17), .call (dB x_3) ⟨[], []⟩)] (And.intro (h2) (And.intro (h4) (h6))) (by kernel_rfl)
    | false =>
      replace h := condF h
      have hr := Option.some.inj h
      subst hr
      exact Sys.endC [((1, 4), .call (dB true) ⟨[], []⟩), ((1, 10), .call (dB false) ⟨[], []⟩)] (And.intro (h2) (h4)) (by kernel_rfl)
  | false =>
    replace h := condF h
    have hr := Option.some.inj h
    subst hr
    exact Sys.endC [((1, 4), .call (dB false) ⟨[], []⟩)] (h2) (by kernel_rfl)
inductive vigilref11_Values_L4O where
  | r
  | e0 (v5 : Int)
def vigilref11_Values_L4x : vigilref11_Values_L4O → Ex
  | .r => .ret
  | .e0 _ => (.exit 0)
def vigilref11_Values_L4s (p0 : Sl Int) (p1 : Sl Int) : vigilref11_Values_L4O → S
  | .r => ⟨fl [(4, dB false)], ⟨[], []⟩⟩
  | .e0 v5 => ⟨fl [(0, .c (eSl p0)), (1, .c (eSl p1)), (5, dInt v5), (14, dB false)], ⟨[], []⟩⟩
def vigilref11_Values_L4 (p0 : Sl Int) (p1 : Sl Int) (n : Nat) : Nat → Int → Option vigilref11_Values_L4O
  | 0, _ => none
  | k + 1, v5 =>
    if v5 < (p0.l.length : Int) then
      (atI p0.l v5).bind fun v19 =>
      (atI p1.l v5).bind fun v23 =>
      if v19 ≠ v23 then
        some (.r)
      else if InR (v5 + 1) then vigilref11_Values_L4 p0 p1 n k (v5 + 1)
      else none
    else some (.e0 v5)
theorem vigilref11_Values_L4_ok (p0 : Sl Int) (p1 : Sl Int) (n : Nat) : ∀ (k : Nat) (v5 : Int) (o : vigilref11_Values_L4O), vigilref11_Values_L4 p0 p1 n k v5 = some o → ∀ s : S, restrS (X.an.rs 65 4) s = ⟨fl [(0, .c (eSl p0)), (1, .c (eSl p1)), (5, dInt v5)], ⟨[], []⟩⟩ → X.Loop 65 26 [] (sub b65 [1, 1, 0, 1, 0, 0]) 0 s (vigilref11_Values_L4x o) (vigilref11_Values_L4s p0 p1 o) := by
  intro k
  induction k with
  | zero => intro v5 o h s hs; unfold vigilref11_Values_L4 at h; cases h
  | succ k ih =>
    intro v5 o h s hs
    unfold vigilref11_Values_L4 at h
    refine Sys.loopQ hs ?_
    by_cases h1 : v5 < (p0.l.length : Int)
    · replace h := iteT h1 h
      obtain ⟨v19, h3, h⟩ := bindE h
      obtain ⟨v23, h4, h⟩ := bindE h
      refine Sys.to [((4, 3), .b true)] 6 (.at [1, 0, 0, 0]) ⟨fl [(0, .c (eSl p0)), (1, .c (eSl p1)), (5, dInt v5), (14, dB true)], ⟨[], []⟩⟩ (h1) (by kernel_rfl) ?_
      by_cases h5 : v19 ≠ v23
      · replace h := iteT h5 h
        have hr := Option.some.inj h
        subst hr
        exact Sys.endX [((6, 2), .ix), ((6, 3), .cell (cInt v19)), ((6, 6), .ix), ((6, 7), .cell (cInt v23)), ((6, 8), .b true)] (And.intro (atI_b h3) (And.intro (cell_at 0 (c := cInt v19) rfl (atI_g h3)) (And.intro (atI_b h4) (And.intro (cell_at 0 (c := cInt v23) rfl (atI_g h4)) (h5))))) rfl (by kernel_rfl)
      · replace h := iteF h5 h
        by_cases h7 : InR (v5 + 1)
        case neg => exact absurd (iteF h7 h) (by simp)
        replace h := iteT h7 h
        refine Sys.to [((6, 2), .ix), ((6, 3), .cell (cInt v19)), ((6, 6), .ix), ((6, 7), .cell (cInt v23)), ((6, 8), .b false), ((5, 1), .n)] 999999 (.fin .normal) ⟨fl [(0, .c (eSl p0)), (1, .c (eSl p1)), (5, dInt (v5 + 1))], ⟨[], []⟩⟩ (And.intro (atI_b h3) (And.intro (cell_at 0 (c := cInt v19) rfl (atI_g h3)) (And.intro (atI_b h4) (And.intro (cell_at 0 (c := cInt v23) rfl (atI_g h4)) (And.intro (h5) (h7)))))) (by kernel_rfl) ?_
        exact Sys.fin (.inl ⟨rfl, ⟨fl [(0, .c (eSl p0)), (1, .c (eSl p1)), (5, dInt (v5 + 1))], ⟨[], []⟩⟩, (by kernel_rfl), ih (v5 + 1) _ h _ (by kernel_rfl)⟩)
    · replace h := iteF h1 h
      have hr := Option.some.inj h
      subst hr
      exact Sys.endX [((4, 3), .b false)] (h1) rfl (by kernel_rfl)

def vigilref11_Values (n : Nat) (p0 : Sl Int) (p1 : Sl Int) : Option Bool :=
  if (p0.l.length : Int) ≠ (p1.l.length : Int) then
    some false
  else (vigilref11_Values_L4 p0 p1 n n 0).bind fun o_2 => match o_2 with
  | .r =>
    some false
  | .e0 v5_2 =>
    some true
theorem vigilref11_Values_ok {n : Nat} {p0 : Sl Int} {p1 : Sl Int} {r : Bool} (h : vigilref11_Values n p0 p1 = some r) : X.RunsC 65 [.c (eSl p0), .c (eSl p1)] (dB r) := by
  unfold vigilref11_Values at h
  refine Sys.callC' (fn := Tryz.f65) (b := b65) (by kernel_rfl) (by kernel_rfl) ?_
  by_cases h2 : (p0.l.length : Int) ≠ (p1.l.length : Int)
  · replace h := iteT h2 h
    have hr := Option.some.inj h
    subst hr
    exact Sys.endC [((1, 4), .b true)] (h2) (by kernel_rfl)
  · replace h := iteF h2 h
    refine Sys.to [((1, 4), .b false)] 100004 (.at [1, 1, 0, 1, 0]) ⟨fl [(0, .c (eSl p0)), (1, .c (eSl p1)), (5, dInt 0)], ⟨[], []⟩⟩ (h2) (by kernel_rfl) ?_
    obtain ⟨o_2, g5, h⟩ := bindE h
    have h5 := vigilref11_Values_L4_ok p0 p1 n n 0 _ g5
    cases o_2 with
    | r =>
      dsimp only at h
      have hr := Option.some.inj h
      subst hr
      exact Sys.endC [((4, 1000), .code .ret ⟨fl [(4, dB false)], ⟨[], []⟩⟩)] (Sys.Loop.goM (h5 ⟨fl [(0, .c (eSl p0)), (1, .c (eSl p1)), (5, dInt 0)], ⟨[], []⟩⟩ (by kernel_rfl)) (by kernel_rfl)) (by kernel_rfl)
    | e0 v5_2 =>
      dsimp only at h
      have hr := Option.some.inj h
      subst hr
      exact Sys.endC [((4, 1000), .code (.exit 0) ⟨fl [(0, .c (eSl p0)), (1, .c (eSl p1)), (5, dInt v5_2), (14, dB false)], ⟨[], []⟩⟩)] (Sys.Loop.goM (h5 ⟨fl [(0, .c (eSl p0)), (1, .c (eSl p1)), (5, dInt 0)], ⟨[], []⟩⟩ (by kernel_rfl)) (by kernel_rfl)) (by kernel_rfl)
inductive vigilref14_Same_J1O where
  | r
  | m
def vigilref14_Same_J1x : vigilref14_Same_J1O → Ex
  | .r => .ret
  | .m => .normal
def vigilref14_Same_J1s (p0 : GWorld) (p1 : GWorld) : vigilref14_Same_J1O → S
  | .r => ⟨fl [(4, dB false)], ⟨[⟨1, (EncX.encX p0).map DV.c⟩, ⟨1, (EncX.encX p1).map DV.c⟩], []⟩⟩
  | .m => ⟨fl [(2, .pt 0 1 0), (3, .pt 1 1 0), (30, dB false)], ⟨[⟨1, (EncX.encX p0).map DV.c⟩, ⟨1, (EncX.encX p1).map DV.c⟩], []⟩⟩
def vigilref14_Same_J1 (p0 : GWorld) (p1 : GWorld) (n : Nat) : Option vigilref14_Same_J1O :=
  if (p0.threads.l.length : Int) ≠ (p1.threads.l.length : Int) then
    some (.r)
  else if (p0.locks.l.length : Int) ≠ (p1.locks.l.length : Int) then
    some (.r)
  else (vigilref11_Values n p0.vals p1.vals).bind fun x =>
  bif x then
    some (.m)
  else some (.r)
theorem vigilref14_Same_J1_ok (p0 : GWorld) (p1 : GWorld) (n : Nat) (o : vigilref14_Same_J1O) (h : vigilref14_Same_J1 p0 p1 n = some o) : X.Go 26 67 [] (sub b26 [1, 0]) ⟨fl [(2, .pt 0 1 0), (3, .pt 1 1 0)], ⟨[⟨1, (EncX.encX p0).map DV.c⟩, ⟨1, (EncX.encX p1).map DV.c⟩], []⟩⟩ (vigilref14_Same_J1x o) (vigilref14_Same_J1s p0 p1 o) := by
  unfold vigilref14_Same_J1 at h
  refine Sys.goE ?_
  by_cases h1 : (p0.threads.l.length : Int) ≠ (p1.threads.l.length : Int)
  · replace h := iteT h1 h
    have hr := Option.some.inj h
    subst hr
    exact Sys.endJ [((1, 6), .b true)] (h1) (by kernel_rfl)
  · replace h := iteF h1 h
    by_cases h2 : (p0.locks.l.length : Int) ≠ (p1.locks.l.length : Int)
    · replace h := iteT h2 h
      have hr := Option.some.inj h
      subst hr
      exact Sys.endJ [((1, 6), .b false), ((1, 14), .b true)] (And.intro (h1) (h2)) (by kernel_rfl)
    · replace h := iteF h2 h
      obtain ⟨x, g3, h⟩ := bindE h
      have h3 := vigilref11_Values_ok g3
      cases x with
      | true =>
        replace h := condT h
        have hr := Option.some.inj h
        subst hr
        exact Sys.endJ [((1, 6), .b false), ((1, 14), .b false), ((1, 21), .call (dB true) ⟨[], []⟩)] (And.intro (h1) (And.intro (h2) (h3))) (by kernel_rfl)
      | false =>
        replace h := condF h
        have hr := Option.some.inj h
        subst hr
        exact Sys.endJ [((1, 6), .b false), ((1, 14), .b false), ((1, 21), .call (dB false) ⟨[], []⟩)] (And.intro (h1) (And.intro (h2) (h3))) (by kernel_rfl)

inductive vigilref14_Same_L4O where
  | r
  | e0 (v5 : Int)
def vigilref14_Same_L4x : vigilref14_Same_L4O → Ex
  | .r => .ret
  | .e0 _ => (.exit 0)
def vigilref14_Same_L4s (p0 : GWorld) (p1 : GWorld) : vigilref14_Same_L4O → S
  | .r => ⟨fl [(4, dB false)], ⟨[⟨1, (EncX.encX p0).map DV.c⟩, ⟨1, (EncX.encX p1).map DV.c⟩], []⟩⟩
  | .e0 v5 => ⟨fl [(2, .pt 0 1 0), (3, .pt 1 1 0), (5, dInt v5), (35, dB false)], ⟨[⟨1, (EncX.encX p0).map DV.c⟩, ⟨1, (EncX.encX p1).map DV.c⟩], []⟩⟩
def vigilref14_Same_L4 (p0 : GWorld) (p1 : GWorld) (n : Nat) : Nat → Int → Option vigilref14_Same_L4O
  | 0, _ => none
  | k + 1, v5 =>
    if v5 < (p0.threads.l.length : Int) then
      (atI p0.threads.l v5).bind fun v41 =>
      (atI p1.threads.l v5).bind fun v46 =>
      if v41 = v46 then
        if InR (v5 + 1) then vigilref14_Same_L4 p0 p1 n k (v5 + 1)
        else none
      else some (.r)
    else some (.e0 v5)
theorem vigilref14_Same_L4_ok (p0 : GWorld) (p1 : GWorld) (n : Nat) : ∀ (k : Nat) (v5 : Int) (o : vigilref14_Same_L4O), vigilref14_Same_L4 p0 p1 n k v5 = some o → ∀ s : S, restrS (X.an.rs 26 4) s = ⟨fl [(2, .pt 0 1 0), (3, .pt 1 1 0), (5, dInt v5)], ⟨[⟨1, (EncX.encX p0).map DV.c⟩, ⟨1, (EncX.encX p1).map DV.c⟩], []⟩⟩ → X.Loop 26 67 [] (sub b26 [1, 1, 0, 1, 0, 0]) 2 s (vigilref14_Same_L4x o) (vigilref14_Same_L4s p0 p1 o) := by
  intro k
  induction k with
  | zero => intro v5 o h s hs; unfold vigilref14_Same_L4 at h; cases h
  | succ k ih =>
    intro v5 o h s hs
    unfold vigilref14_Same_L4 at h
    refine Sys.loopQ hs ?_
    by_cases h1 : v5 < (p0.threads.l.length : Int)
    · replace h := iteT h1 h
      obtain ⟨v41, h3, h⟩ := bindE h
      obtain ⟨v46, h4, h⟩ := bindE h
      refine Sys.to [((4, 4), .b true)] 6 (.at [1, 0, 0, 0]) ⟨fl [(2, .pt 0 1 0), (3, .pt 1 1 0), (5, dInt v5), (35, dB true)], ⟨[⟨1, (EncX.encX p0).map DV.c⟩, ⟨1, (EncX.encX p1).map DV.c⟩], []⟩⟩ (h1) (by kernel_rfl) ?_
      by_cases h5 : v41 = v46
      · replace h := iteT h5 h
        by_cases h7 : InR (v5 + 1)
        case neg => exact absurd (iteF h7 h) (by simp)
        replace h := iteT h7 h
        refine Sys.to [((6, 3), .ix), ((6, 4), .agg (EncX.encX v41)), ((6, 8), .ix), ((6, 9), .agg (EncX.encX v46)), ((6, 10), .op { d := dB false }), ((5, 1), .n)] 999999 (.fin .normal) ⟨fl [(2, .pt 0 1 0), (3, .pt 1 1 0), (5, dInt (v5 + 1))], ⟨[⟨1, (EncX.encX p0).map DV.c⟩, ⟨1, (EncX.encX p1).map DV.c⟩], []⟩⟩ (And.intro (atI_b h3) (And.intro (span_at 0 5 (by decide) (atI_g h3)) (And.intro (atI_b h4) (And.intro (span_at 0 5 (by decide) (atI_g h4)) (And.intro (rec_neq_false (GThread_eq v41 v46) h5) (h7)))))) (by kernel_rfl) ?_
        exact Sys.fin (.inl ⟨rfl, ⟨fl [(2, .pt 0 1 0), (3, .pt 1 1 0), (5, dInt (v5 + 1))], ⟨[⟨1, (EncX.encX p0).map DV.c⟩, ⟨1, (EncX.encX p1).map DV.c⟩], []⟩⟩, (by kernel_rfl), ih (v5 + 1) _ h _ (by kernel_rfl)⟩)
      · replace h := iteF h5 h
        have hr := Option.some.inj h
        subst hr
        exact Sys.endX [((6, 3), .ix), ((6, 4), .agg (EncX.encX v41)), ((6, 8), .ix), ((6, 9), .agg (EncX.encX v46)), ((6, 10), .op { d := dB true })] (And.intro (atI_b h3) (And.intro (span_at 0 5 (by decide) (atI_g h3)) (And.intro (atI_b h4) (And.intro (span_at 0 5 (by decide) (atI_g h4)) (rec_neq_true (GThread_eq v41 v46) h5))))) rfl (by kernel_rfl)
    · replace h := iteF h1 h
      have hr := Option.some.inj h
      subst hr
      exact Sys.endX [((4, 4), .b false)] (h1) rfl (by kernel_rfl)

inductive vigilref14_Same_L9O where
  | r
  | e2 (v6 : Int)
def vigilref14_Same_L9x : vigilref14_Same_L9O → Ex
  | .r => .ret
  | .e2 _ => (.exit 2)
def vigilref14_Same_L9s (p0 : GWorld) (p1 : GWorld) : vigilref14_Same_L9O → S
  | .r => ⟨fl [(4, dB false)], ⟨[⟨1, (EncX.encX p0).map DV.c⟩, ⟨1, (EncX.encX p1).map DV.c⟩], []⟩⟩
  | .e2 v6 => ⟨fl [(2, .pt 0 1 0), (3, .pt 1 1 0), (6, dInt v6), (53, dB false)], ⟨[⟨1, (EncX.encX p0).map DV.c⟩, ⟨1, (EncX.encX p1).map DV.c⟩], []⟩⟩
def vigilref14_Same_L9 (p0 : GWorld) (p1 : GWorld) (n : Nat) : Nat → Int → Option vigilref14_Same_L9O
  | 0, _ => none
  | k + 1, v6 =>
    if v6 < (p0.locks.l.length : Int) then
      (atI p0.locks.l v6).bind fun v59 =>
      (atI p1.locks.l v6).bind fun v64 =>
      if v59 = v64 then
        if InR (v6 + 1) then vigilref14_Same_L9 p0 p1 n k (v6 + 1)
        else none
      else some (.r)
    else some (.e2 v6)
theorem vigilref14_Same_L9_ok (p0 : GWorld) (p1 : GWorld) (n : Nat) : ∀ (k : Nat) (v6 : Int) (o : vigilref14_Same_L9O), vigilref14_Same_L9 p0 p1 n k v6 = some o → ∀ s : S, restrS (X.an.rs 26 9) s = ⟨fl [(2, .pt 0 1 0), (3, .pt 1 1 0), (6, dInt v6)], ⟨[⟨1, (EncX.encX p0).map DV.c⟩, ⟨1, (EncX.encX p1).map DV.c⟩], []⟩⟩ → X.Loop 26 67 [] (sub b26 [1, 1, 1, 0, 1, 0, 0]) 2 s (vigilref14_Same_L9x o) (vigilref14_Same_L9s p0 p1 o) := by
  intro k
  induction k with
  | zero => intro v6 o h s hs; unfold vigilref14_Same_L9 at h; cases h
  | succ k ih =>
    intro v6 o h s hs
    unfold vigilref14_Same_L9 at h
    refine Sys.loopQ hs ?_
    by_cases h1 : v6 < (p0.locks.l.length : Int)
    · replace h := iteT h1 h
      obtain ⟨v59, h3, h⟩ := bindE h
      obtain ⟨v64, h4, h⟩ := bindE h
      refine Sys.to [((9, 4), .b true)] 11 (.at [1, 0, 0, 0]) ⟨fl [(2, .pt 0 1 0), (3, .pt 1 1 0), (6, dInt v6), (53, dB true)], ⟨[⟨1, (EncX.encX p0).map DV.c⟩, ⟨1, (EncX.encX p1).map DV.c⟩], []⟩⟩ (h1) (by kernel_rfl) ?_
      by_cases h5 : v59 = v64
      · replace h := iteT h5 h
        by_cases h7 : InR (v6 + 1)
        case neg => exact absurd (iteF h7 h) (by simp)
        replace h := iteT h7 h
        refine Sys.to [((11, 3), .ix), ((11, 4), .agg (EncX.encX v59)), ((11, 8), .ix), ((11, 9), .agg (EncX.encX v64)), ((11, 10), .op { d := dB false }), ((10, 1), .n)] 999999 (.fin .normal) ⟨fl [(2, .pt 0 1 0), (3, .pt 1 1 0), (6, dInt (v6 + 1))], ⟨[⟨1, (EncX.encX p0).map DV.c⟩, ⟨1, (EncX.encX p1).map DV.c⟩], []⟩⟩ (And.intro (atI_b h3) (And.intro (span_at 0 2 (by decide) (atI_g h3)) (And.intro (atI_b h4) (And.intro (span_at 0 2 (by decide) (atI_g h4)) (And.intro (rec_neq_false (GLock_eq v59 v64) h5) (h7)))))) (by kernel_rfl) ?_
        exact Sys.fin (.inl ⟨rfl, ⟨fl [(2, .pt 0 1 0), (3, .pt 1 1 0), (6, dInt (v6 + 1))], ⟨[⟨1, (EncX.encX p0).map DV.c⟩, ⟨1, (EncX.encX p1).map DV.c⟩], []⟩⟩, (by kernel_rfl), ih (v6 + 1) _ h _ (by kernel_rfl)⟩)
      · replace h := iteF h5 h
        have hr := Option.some.inj h
        subst hr
        exact Sys.endX [((11, 3), .ix), ((11, 4), .agg (EncX.encX v59)), ((11, 8), .ix), ((11, 9), .agg (EncX.encX v64)), ((11, 10), .op { d := dB true })] (And.intro (atI_b h3) (And.intro (span_at 0 2 (by decide) (atI_g h3)) (And.intro (atI_b h4) (And.intro (span_at 0 2 (by decide) (atI_g h4)) (rec_neq_true (GLock_eq v59 v64) h5))))) rfl (by kernel_rfl)
    · replace h := iteF h1 h
      have hr := Option.some.inj h
      subst hr
      exact Sys.endX [((9, 4), .b false)] (h1) rfl (by kernel_rfl)

def vigilref14_Same (n : Nat) (p0 : GWorld) (p1 : GWorld) : Option Bool :=
  (vigilref14_Same_J1 p0 p1 n).bind fun o_2 => match o_2 with
  | .r =>
    some false
  | .m =>
    (vigilref14_Same_L4 p0 p1 n n 0).bind fun o_3 => match o_3 with
    | .r =>
      some false
    | .e0 v5_2 =>
      (vigilref14_Same_L9 p0 p1 n n 0).bind fun o_4 => match o_4 with
      | .r =>
        some false
      | .e2 v6_2 =>
        some true
theorem vigilref14_Same_ok {n : Nat} {p0 : GWorld} {p1 : GWorld} {r : Bool} (h : vigilref14_Same n p0 p1 = some r) : X.RunsC 26 [.c (.agg (EncX.encX p0)), .c (.agg (EncX.encX p1))] (dB r) := by
  unfold vigilref14_Same at h
  refine Sys.callC' (fn := Tryz.f26) (b := b26) (by kernel_rfl) (by kernel_rfl) ?_
  refine Sys.to [] 201001 (.at [1, 0]) ⟨fl [(2, .pt 0 1 0), (3, .pt 1 1 0)], ⟨[⟨1, (EncX.encX p0).map DV.c⟩, ⟨1, (EncX.encX p1).map DV.c⟩], []⟩⟩ (True.intro) (by kernel_rfl) ?_
  obtain ⟨o_2, g2, h⟩ := bindE h
  have h2 := vigilref14_Same_J1_ok p0 p1 n _ g2
  cases o_2 with
  | r =>
    dsimp only at h
    refine Sys.over h2 ?_
    have hr := Option.some.inj h
    subst hr
    exact Sys.endC [] (True.intro) (by kernel_rfl)
  | m =>
    dsimp only at h
    refine Sys.over h2 ?_
    obtain ⟨o_3, g5, h⟩ := bindE h
    have h5 := vigilref14_Same_L4_ok p0 p1 n n 0 _ g5
    cases o_3 with
    | r =>
      dsimp only at h
      have hr := Option.some.inj h
      subst hr
      exact Sys.endC [((4, 1000), .code .ret ⟨fl [(4, dB false)], ⟨[⟨1, (EncX.encX p0).map DV.c⟩, ⟨1, (EncX.encX p1).map DV.c⟩], []⟩⟩)] (Sys.Loop.goM (h5 ⟨fl [(2, .pt 0 1 0), (3, .pt 1 1 0), (5, dInt 0)], ⟨[⟨1, (EncX.encX p0).map DV.c⟩, ⟨1, (EncX.encX p1).map DV.c⟩], []⟩⟩ (by kernel_rfl)) (by kernel_rfl)) (by kernel_rfl)
    | e0 v5_2 =>
      dsimp only at h
      refine Sys.to [((4, 1000), .code (.exit 0) ⟨fl [(2, .pt 0 1 0), (3, .pt 1 1 0), (5, dInt v5_2), (35, dB false)], ⟨[⟨1, (EncX.encX p0).map DV.c⟩, ⟨1, (EncX.encX p1).map DV.c⟩], []⟩⟩)] 100009 (.at [1, 1, 1, 0, 1, 0]) ⟨fl [(2, .pt 0 1 0), (3, .pt 1 1 0), (6, dInt 0)], ⟨[⟨1, (EncX.encX p0).map DV.c⟩, ⟨1, (EncX.encX p1).map DV.c⟩], []⟩⟩ (Sys.Loop.goM (h5 ⟨fl [(2, .pt 0 1 0), (3, .pt 1 1 0), (5, dInt 0)], ⟨[⟨1, (EncX.encX p0).map DV.c⟩, ⟨1, (EncX.encX p1).map DV.c⟩], []⟩⟩ (by kernel_rfl)) (by kernel_rfl)) (by kernel_rfl) ?_
      obtain ⟨o_4, g8, h⟩ := bindE h
      have h8 := vigilref14_Same_L9_ok p0 p1 n n 0 _ g8
      cases o_4 with
      | r =>
        dsimp only at h
        have hr := Option.some.inj h
        subst hr
        exact Sys.endC [((9, 1000), .code .ret ⟨fl [(4, dB false)], ⟨[⟨1, (EncX.encX p0).map DV.c⟩, ⟨1, (EncX.encX p1).map DV.c⟩], []⟩⟩)] (Sys.Loop.goM (h8 ⟨fl [(2, .pt 0 1 0), (3, .pt 1 1 0), (6, dInt 0)], ⟨[⟨1, (EncX.encX p0).map DV.c⟩, ⟨1, (EncX.encX p1).map DV.c⟩], []⟩⟩ (by kernel_rfl)) (by kernel_rfl)) (by kernel_rfl)
      | e2 v6_2 =>
        dsimp only at h
        have hr := Option.some.inj h
        subst hr
        exact Sys.endC [((9, 1000), .code (.exit 2) ⟨fl [(2, .pt 0 1 0), (3, .pt 1 1 0), (6, dInt v6_2), (53, dB false)], ⟨[⟨1, (EncX.encX p0).map DV.c⟩, ⟨1, (EncX.encX p1).map DV.c⟩], []⟩⟩)] (Sys.Loop.goM (h8 ⟨fl [(2, .pt 0 1 0), (3, .pt 1 1 0), (6, dInt 0)], ⟨[⟨1, (EncX.encX p0).map DV.c⟩, ⟨1, (EncX.encX p1).map DV.c⟩], []⟩⟩ (by kernel_rfl)) (by kernel_rfl)) (by kernel_rfl)
inductive vigillaw14_WorldTexts_J1O where
  | r
  | m
def vigillaw14_WorldTexts_J1x : vigillaw14_WorldTexts_J1O → Ex
  | .r => .ret
  | .m => .normal
def vigillaw14_WorldTexts_J1s (p0 : GWorld) (p1 : GWorld) (p2 : ByteArray) : vigillaw14_WorldTexts_J1O → S
  | .r => ⟨fl [(6, dB true)], ⟨[⟨1, (EncX.encX p0).map DV.c⟩, ⟨1, (EncX.encX p1).map DV.c⟩], []⟩⟩
  | .m => ⟨fl [(2, .c (.sc (.string p2))), (3, .pt 0 1 0), (4, .pt 1 1 0), (49, dB false)], ⟨[⟨1, (EncX.encX p0).map DV.c⟩, ⟨1, (EncX.encX p1).map DV.c⟩], []⟩⟩
def vigillaw14_WorldTexts_J1 (p0 : GWorld) (p1 : GWorld) (p2 : ByteArray) (n : Nat) : Option vigillaw14_WorldTexts_J1O :=
  if (p0.threads.l.length : Int) > 60 then
    some (.r)
  else if (p0.locks.l.length : Int) > 60 then
    some (.r)
  else if (p0.vals.l.length : Int) > 60 then
    some (.r)
  else if (p1.threads.l.length : Int) > 60 then
    some (.r)
  else if (p1.locks.l.length : Int) > 60 then
    some (.r)
  else if (p1.vals.l.length : Int) > 60 then
    some (.r)
  else if (p2.size : Int) > 2000 then
    some (.r)
  else some (.m)
theorem vigillaw14_WorldTexts_J1_ok (p0 : GWorld) (p1 : GWorld) (p2 : ByteArray) (n : Nat) (o : vigillaw14_WorldTexts_J1O) (h : vigillaw14_WorldTexts_J1 p0 p1 p2 n = some o) : X.Go 6 88 [] (sub b6 [1, 0]) ⟨fl [(2, .c (.sc (.string p2))), (3, .pt 0 1 0), (4, .pt 1 1 0)], ⟨[⟨1, (EncX.encX p0).map DV.c⟩, ⟨1, (EncX.encX p1).map DV.c⟩], []⟩⟩ (vigillaw14_WorldTexts_J1x o) (vigillaw14_WorldTexts_J1s p0 p1 p2 o) := by
  unfold vigillaw14_WorldTexts_J1 at h
  refine Sys.goE ?_
  by_cases h1 : (p0.threads.l.length : Int) > 60
  · replace h := iteT h1 h
    have hr := Option.some.inj h
    subst hr
    exact Sys.endJ [((1, 3), .b true), ((2, 0), .op { d := dB true })] (And.intro (h1) ((show memoP (memoOf lives 22) [⟨1, (EncX.encX p0).map DV.c⟩, ⟨1, (EncX.encX p1).map DV.c⟩] [] = some { d := dB true } from by kernel_rfl))) (by kernel_rfl)
  · replace h := iteF h1 h
    by_cases h2 : (p0.locks.l.length : Int) > 60
    · replace h := iteT h2 h
      have hr := Option.some.inj h
      subst hr
      exact Sys.endJ [((1, 3), .b false), ((1, 8), .b true), ((2, 0), .op { d := dB true })] (And.intro (h1) (And.intro (h2) ((show memoP (memoOf lives 22) [⟨1, (EncX.encX p0).map DV.c⟩, ⟨1, (EncX.encX p1).map DV.c⟩] [] = some { d := dB true } from by kernel_rfl)))) (by kernel_rfl)
    · replace h := iteF h2 h
      by_cases h3 : (p0.vals.l.length : Int) > 60
      · replace h := iteT h3 h
        have hr := Option.some.inj h
        subst hr
        exact Sys.endJ [((1, 3), .b false), ((1, 8), .b false), ((1, 14), .b true), ((2, 0), .op { d := dB true })] (And.intro (h1) (And.intro (h2) (And.intro (h3) ((show memoP (memoOf lives 22) [⟨1, (EncX.encX p0).map DV.c⟩, ⟨1, (EncX.encX p1).map DV.c⟩] [] = some { d := dB true } from by kernel_rfl))))) (by kernel_rfl)
      · replace h := iteF h3 h
        by_cases h4 : (p1.threads.l.length : Int) > 60
        · replace h := iteT h4 h
          have hr := Option.some.inj h
          subst hr
          exact Sys.endJ [((1, 3), .b false), ((1, 8), .b false), ((1, 14), .b false), ((1, 20), .b true), ((2, 0), .op { d := dB true })] (And.intro (h1) (And.intro (h2) (And.intro (h3) (And.intro (h4) ((show memoP (memoOf lives 22) [⟨1, (EncX.encX p0).map DV.c⟩, ⟨1, (EncX.encX p1).map DV.c⟩] [] = some { d := dB true } from by kernel_rfl)))))) (by kernel_rfl)
        · replace h := iteF h4 h
          by_cases h5 : (p1.locks.l.length : Int) > 60
          · replace h := iteT h5 h
            have hr := Option.some.inj h
            subst hr
            exact Sys.endJ [((1, 3), .b false), ((1, 8), .b false), ((1, 14), .b false), ((1, 20), .b false), ((1, 26), .b true), ((2, 0), .op { d := dB true })] (And.intro (h1) (And.intro (h2) (And.intro (h3) (And.intro (h4) (And.intro (h5) ((show memoP (memoOf lives 22) [⟨1, (EncX.encX p0).map DV.c⟩, ⟨1, (EncX.encX p1).map DV.c⟩] [] = some { d := dB true } from by kernel_rfl))))))) (by kernel_rfl)
          · replace h := iteF h5 h
            by_cases h6 : (p1.vals.l.length : Int) > 60
            · replace h := iteT h6 h
              have hr := Option.some.inj h
              subst hr
              exact Sys.endJ [((1, 3), .b false), ((1, 8), .b false), ((1, 14), .b false), ((1, 20), .b false), ((1, 26), .b false), ((1, 32), .b true), ((2, 0), .op { d := dB true })] (And.intro (h1) (And.intro (h2) (And.intro (h3) (And.intro (h4) (And.intro (h5) (And.intro (h6) ((show memoP (memoOf lives 22) [⟨1, (EncX.encX p0).map DV.c⟩, ⟨1, (EncX.encX p1).map DV.c⟩] [] = some { d := dB true } from by kernel_rfl)))))))) (by kernel_rfl)
            · replace h := iteF h6 h
              by_cases h7 : (p2.size : Int) > 2000
              · replace h := iteT h7 h
                have hr := Option.some.inj h
                subst hr
                exact Sys.endJ [((1, 3), .b false), ((1, 8), .b false), ((1, 14), .b false), ((1, 20), .b false), ((1, 26), .b false), ((1, 32), .b false), ((1, 37), .b true), ((2, 0), .op { d := dB true })] (And.intro (h1) (And.intro (h2) (And.intro (h3) (And.intro (h4) (And.intro (h5) (And.intro (h6) (And.intro (h7) ((show memoP (memoOf lives 22) [⟨1, (EncX.encX p0).map DV.c⟩, ⟨1, (EncX.encX p1).map DV.c⟩] [] = some { d := dB true } from by kernel_rfl))))))))) (by kernel_rfl)
              · replace h := iteF h7 h
                have hr := Option.some.inj h
                subst hr
                exact Sys.endJ [((1, 3), .b false), ((1, 8), .b false), ((1, 14), .b false), ((1, 20), .b false), ((1, 26), .b false), ((1, 32), .b false), ((1, 37), .b false)] (And.intro (h1) (And.intro (h2) (And.intro (h3) (And.intro (h4) (And.intro (h5) (And.intro (h6) (h7))))))) (by kernel_rfl)

def vigillaw14_WorldTexts (n : Nat) (p0 : GWorld) (p1 : GWorld) (p2 : ByteArray) : Option Bool :=
  (vigillaw14_WorldTexts_J1 p0 p1 p2 n).bind fun o_2 => match o_2 with
  | .r =>
    some true
  | .m =>
    (world_Parse n p2).bind fun (x, x_2) =>
    (vigilref14_Parse n p2).bind fun (x_3, x_4) =>
    (world_Same n p0 p1).bind fun x_5 =>
    (vigilref14_Same n p0 p1).bind fun x_6 =>
    bif x_5 then
      bif x_6 then
        (world_Text n p0).bind fun x_7 =>
        (vigilref14_Text n p0).bind fun x_9 =>
        if x_7 = x_9 then
          (vigilref14_Same n x x_3).bind fun x_11 =>
          bif x_11 then
            bif x_2 then
              bif x_4 then
                some true
              else some false
            else bif x_4 then
              some false
            else some true
          else some false
        else some false
      else some false
    else bif x_6 then
      some false
    else (world_Text n p0).bind fun x_8 =>
    (vigilref14_Text n p0).bind fun x_10 =>
    if x_8 = x_10 then
      (vigilref14_Same n x x_3).bind fun x_12 =>
      bif x_12 then
        bif x_2 then
          bif x_4 then
            some true
          else some false
        else bif x_4 then
          some false
        else some true
      else some false
    else some false
theorem vigillaw14_WorldTexts_ok {n : Nat} {p0 : GWorld} {p1 : GWorld} {p2 : ByteArray} {r : Bool} (h : vigillaw14_WorldTexts n p0 p1 p2 = some r) : X.RunsC 6 [.c (.agg (EncX.encX p0)), .c (.agg (EncX.encX p1)), .c (.sc (.string p2))] (dB r) := by
  unfold vigillaw14_WorldTexts at h
  refine Sys.callC' (fn := Tryz.f6) (b := b6) (by kernel_rfl) (by kernel_rfl) ?_
  refine Sys.to [] 201001 (.at [1, 0]) ⟨fl [(2, .c (.sc (.string p2))), (3, .pt 0 1 0), (4, .pt 1 1 0)], ⟨[⟨1, (EncX.encX p0).map DV.c⟩, ⟨1, (EncX.encX p1).map DV.c⟩], []⟩⟩ (True.intro) (by kernel_rfl) ?_
  obtain ⟨o_2, g2, h⟩ := bindE h
  have h2 := vigillaw14_WorldTexts_J1_ok p0 p1 p2 n _ g2
  cases o_2 with
  | r =>
    dsimp only at h
    refine Sys.over h2 ?_
    have hr := Option.some.inj h
    subst hr
    exact Sys.endC [] (True.intro) (by kernel_rfl)
  | m =>
    dsimp only at h
    refine Sys.over h2 ?_
    obtain ⟨⟨x, x_2⟩, g4, h⟩ := bindE h
    dsimp only at h
    have h4 := world_Parse_ok g4
    obtain ⟨⟨x_3, x_4⟩, g6, h⟩ := bindE h
    dsimp only at h
    have h6 := vigilref14_Parse_ok g6
    obtain ⟨x_5, g8, h⟩ := bindE h
    have h8 := world_Same_ok g8
    obtain ⟨x_6, g9, h⟩ := bindE h
    have h9 := vigilref14_Same_ok g9
    refine Sys.to [((3, 1), .call (.tup [.c (.agg (EncX.encX x)), dB x_2]) ⟨[], []⟩), ((4, 1), .call (.tup [.c (.agg (EncX.encX x_3)), dB x_4]) ⟨[], []⟩)] 5 (.at [1, 1, 1, 1, 0]) ⟨fl [(3, .pt 0 1 0), (4, .pt 1 1 0), (7, .pt 2 1 0), (8, dB x_2), (9, .pt 3 1 0), (10, dB x_4)], ⟨[⟨1, (EncX.encX p0).map DV.c⟩, ⟨1, (EncX.encX p1).map DV.c⟩, ⟨1, (EncX.encX x).map DV.c⟩, ⟨1, (EncX.encX x_3).map DV.c⟩], []⟩⟩ (And.intro (h4) (h6)) (by kernel_rfl) ?_
    cases x_5 with
    | true =>
      replace h := condT h
      cases x_6 with
      | true =>
        replace h := condT h
        obtain ⟨x_7, g12, h⟩ := bindE h
        have h12 := world_Text_ok g12
        obtain ⟨x_9, g13, h⟩ := bindE h
        have h13 := vigilref14_Text_ok g13
        by_cases h14 : x_7 = x_9
        · replace h := iteT h14 h
          obtain ⟨x_11, g15, h⟩ := bindE h
          have h15 := vigilref14_Same_ok g15
          cases x_11 with
          | true =>
            replace h := condT h
            cases x_2 with
            | true =>
              replace h := condT h
              cases x_4 with
              | true =>
                replace h := condT h
                have hr := Option.some.inj h
                subst hr
                exact Sys.endC [((5, 2), .call (dB true) ⟨[], []⟩), ((5, 5), .call (dB true) ⟨[], []⟩), ((5, 6), .op { d := dB true }), ((5, 9), .call (.c (.sc (.string x_7))) ⟨[], []⟩), ((5, 11), .call (.c (.sc (.string x_9))) ⟨[], []⟩), ((5, 12), .op { d := dB true }), ((5, 17), .call (dB true) ⟨[], []⟩), ((5, 22), .op { d := dB true }), ((5, 25), .op { d := dB true })] (And.intro (h8) (And.intro (h9) (And.intro (bool_eql (P := X.P) (t := 4) true true (by kernel_rfl) (by kernel_rfl)) (And.intro (h12) (And.intro (h13) (And.intro (str_eql_true h14) (And.intro (h15) (And.intro (bool_eql (P := X.P) (t := 4) true true (by kernel_rfl) (by kernel_rfl)) ((show memoP (memoOf lives 22) [⟨1, (EncX.encX p0).map DV.c⟩, ⟨1, (EncX.encX p1).map DV.c⟩, ⟨1, (EncX.encX x).map DV.c⟩, ⟨1, (EncX.encX x_3).map DV.c⟩] [] = some { d := dB true } from by kernel_rfl)))))))))) (by kernel_rfl)
              | false =>
                replace h := condF h
                have hr := Option.some.inj h
                subst hr
                exact Sys.endC [((5, 2), .call (dB true) ⟨[], []⟩), ((5, 5), .call (dB true) ⟨[], []⟩), ((5, 6), .op { d := dB true }), ((5, 9), .call (.c (.sc (.string x_7))) ⟨[], []⟩), ((5, 11), .call (.c (.sc (.string x_9))) ⟨[], []⟩), ((5, 12), .op { d := dB true }), ((5, 17), .call (dB true) ⟨[], []⟩), ((5, 22), .op { d := dB false })] (And.intro (h8) (And.intro (h9) (And.intro (bool_eql (P := X.P) (t := 4) true true (by kernel_rfl) (by kernel_rfl)) (And.intro (h12) (And.intro (h13) (And.intro (str_eql_true h14) (And.intro (h15) (bool_eql (P := X.P) (t := 4) true false (by kernel_rfl) (by kernel_rfl))))))))) (by kernel_rfl)
            | false =>
              replace h := condF h
              cases x_4 with
              | true =>
                replace h := condT h
                have hr := Option.some.inj h
                subst hr
                exact Sys.endC [((5, 2), .call (dB true) ⟨[], []⟩), ((5, 5), .call (dB true) ⟨[], []⟩), ((5, 6), .op { d := dB true }), ((5, 9), .call (.c (.sc (.string x_7))) ⟨[], []⟩), ((5, 11), .call (.c (.sc (.string x_9))) ⟨[], []⟩), ((5, 12), .op { d := dB true }), ((5, 17), .call (dB true) ⟨[], []⟩), ((5, 22), .op { d := dB false })] (And.intro (h8) (And.intro (h9) (And.intro (bool_eql (P := X.P) (t := 4) true true (by kernel_rfl) (by kernel_rfl)) (And.intro (h12) (And.intro (h13) (And.intro (str_eql_true h14) (And.intro (h15) (bool_eql (P := X.P) (t := 4) false true (by kernel_rfl) (by kernel_rfl))))))))) (by kernel_rfl)
              | false =>
                replace h := condF h
                have hr := Option.some.inj h
                subst hr
                exact Sys.endC [((5, 2), .call (dB true) ⟨[], []⟩), ((5, 5), .call (dB true) ⟨[], []⟩), ((5, 6), .op { d := dB true }), ((5, 9), .call (.c (.sc (.string x_7))) ⟨[], []⟩), ((5, 11), .call (.c (.sc (.string x_9))) ⟨[], []⟩), ((5, 12), .op { d := dB true }), ((5, 17), .call (dB true) ⟨[], []⟩), ((5, 22), .op { d := dB true }), ((5, 25), .op { d := dB true })] (And.intro (h8) (And.intro (h9) (And.intro (bool_eql (P := X.P) (t := 4) true true (by kernel_rfl) (by kernel_rfl)) (And.intro (h12) (And.intro (h13) (And.intro (str_eql_true h14) (And.intro (h15) (And.intro (bool_eql (P := X.P) (t := 4) false false (by kernel_rfl) (by kernel_rfl)) ((show memoP (memoOf lives 22) [⟨1, (EncX.encX p0).map DV.c⟩, ⟨1, (EncX.encX p1).map DV.c⟩, ⟨1, (EncX.encX x).map DV.c⟩, ⟨1, (EncX.encX x_3).map DV.c⟩] [] = some { d := dB true } from by kernel_rfl)))))))))) (by kernel_rfl)
          | false =>
            replace h := condF h
            have hr := Option.some.inj h
            subst hr
            exact Sys.endC [((5, 2), .call (dB true) ⟨[], []⟩), ((5, 5), .call (dB true) ⟨[], []⟩), ((5, 6), .op { d := dB true }), ((5, 9), .call (.c (.sc (.string x_7))) ⟨[], []⟩), ((5, 11), .call (.c (.sc (.string x_9))) ⟨[], []⟩), ((5, 12), .op { d := dB true }), ((5, 17), .call (dB false) ⟨[], []⟩)] (And.intro (h8) (And.intro (h9) (And.intro (bool_eql (P := X.P) (t := 4) true true (by kernel_rfl) (by kernel_rfl)) (And.intro (h12) (And.intro (h13) (And.intro (str_eql_true h14) (h15))))))) (by kernel_rfl)
        · replace h := iteF h14 h
          have hr := Option.some.inj h
          subst hr
          exact Sys.endC [((5, 2), .call (dB true) ⟨[], []⟩), ((5, 5), .call (dB true) ⟨[], []⟩), ((5, 6), .op { d := dB true }), ((5, 9), .call (.c (.sc (.string x_7))) ⟨[], []⟩), ((5, 11), .call (.c (.sc (.string x_9))) ⟨[], []⟩), ((5, 12), .op { d := dB false })] (And.intro (h8) (And.intro (h9) (And.intro (bool_eql (P := X.P) (t := 4) true true (by kernel_rfl) (by kernel_rfl)) (And.intro (h12) (And.intro (h13) (str_eql_false h14)))))) (by kernel_rfl)
      | false =>
        replace h := condF h
        have hr := Option.some.inj h
        subst hr
        exact Sys.endC [((5, 2), .call (dB true) ⟨[], []⟩), ((5, 5), .call (dB false) ⟨[], []⟩), ((5, 6), .op { d := dB false })] (And.intro (h8) (And.intro (h9) (bool_eql (P := X.P) (t := 4) true false (by kernel_rfl) (by kernel_rfl)))) (by kernel_rfl)
    | false =>
      replace h := condF h
      cases x_6 with
      | true =>
        replace h := condT h
        have hr := Option.some.inj h
        subst hr
        exact Sys.endC [((5, 2), .call (dB false) ⟨[], []⟩), ((5, 5), .call (dB true) ⟨[], []⟩), ((5, 6), .op { d := dB false })] (And.intro (h8) (And.intro (h9) (bool_eql (P := X.P) (t := 4) false true (by kernel_rfl) (by kernel_rfl)))) (by kernel_rfl)
      | false =>
        replace h := condF h
        obtain ⟨x_8, g12, h⟩ := bindE h
        have h12 := world_Text_ok g12
        obtain ⟨x_10, g13, h⟩ := bindE h
        have h13 := vigilref14_Text_ok g13
        by_cases h14 : x_8 = x_10
        · replace h := iteT h14 h
          obtain ⟨x_12, g15, h⟩ := bindE h
          have h15 := vigilref14_Same_ok g15
          cases x_12 with
          | true =>
            replace h := condT h
            cases x_2 with
            | true =>
              replace h := condT h
              cases x_4 with
              | true =>
                replace h := condT h
                have hr := Option.some.inj h
                subst hr
                exact Sys.endC [((5, 2), .call (dB false) ⟨[], []⟩), ((5, 5), .call (dB false) ⟨[], []⟩), ((5, 6), .op { d := dB true }), ((5, 9), .call (.c (.sc (.string x_8))) ⟨[], []⟩), ((5, 11), .call (.c (.sc (.string x_10))) ⟨[], []⟩), ((5, 12), .op { d := dB true }), ((5, 17), .call (dB true) ⟨[], []⟩), ((5, 22), .op { d := dB true }), ((5, 25), .op { d := dB true })] (And.intro (h8) (And.intro (h9) (And.intro (bool_eql (P := X.P) (t := 4) false false (by kernel_rfl) (by kernel_rfl)) (And.intro (h12) (And.intro (h13) (And.intro (str_eql_true h14) (And.intro (h15) (And.intro (bool_eql (P := X.P) (t := 4) true true (by kernel_rfl) (by kernel_rfl)) ((show memoP (memoOf lives 22) [⟨1, (EncX.encX p0).map DV.c⟩, ⟨1, (EncX.encX p1).map DV.c⟩, ⟨1, (EncX.encX x).map DV.c⟩, ⟨1, (EncX.encX x_3).map DV.c⟩] [] = some { d := dB true } from by kernel_rfl)))))))))) (by kernel_rfl)
              | false =>
                replace h := condF h
                have hr := Option.some.inj h
                subst hr
                exact Sys.endC [((5, 2), .call (dB false) ⟨[], []⟩), ((5, 5), .call (dB false) ⟨[], []⟩), ((5, 6), .op { d := dB true }), ((5, 9), .call (.c (.sc (.string x_8))) ⟨[], []⟩), ((5, 11), .call (.c (.sc (.string x_10))) ⟨[], []⟩), ((5, 12), .op { d := dB true }), ((5, 17), .call (dB true) ⟨[], []⟩), ((5, 22), .op { d := dB false })] (And.intro (h8) (And.intro (h9) (And.intro (bool_eql (P := X.P) (t := 4) false false (by kernel_rfl) (by kernel_rfl)) (And.intro (h12) (And.intro (h13) (And.intro (str_eql_true h14) (And.intro (h15) (bool_eql (P := X.P) (t := 4) true false (by kernel_rfl) (by kernel_rfl))))))))) (by kernel_rfl)
            | false =>
              replace h := condF h
              cases x_4 with
              | true =>
                replace h := condT h
                have hr := Option.some.inj h
                subst hr
                exact Sys.endC [((5, 2), .call (dB false) ⟨[], []⟩), ((5, 5), .call (dB false) ⟨[], []⟩), ((5, 6), .op { d := dB true }), ((5, 9), .call (.c (.sc (.string x_8))) ⟨[], []⟩), ((5, 11), .call (.c (.sc (.string x_10))) ⟨[], []⟩), ((5, 12), .op { d := dB true }), ((5, 17), .call (dB true) ⟨[], []⟩), ((5, 22), .op { d := dB false })] (And.intro (h8) (And.intro (h9) (And.intro (bool_eql (P := X.P) (t := 4) false false (by kernel_rfl) (by kernel_rfl)) (And.intro (h12) (And.intro (h13) (And.intro (str_eql_true h14) (And.intro (h15) (bool_eql (P := X.P) (t := 4) false true (by kernel_rfl) (by kernel_rfl))))))))) (by kernel_rfl)
              | false =>
                replace h := condF h
                have hr := Option.some.inj h
                subst hr
                exact Sys.endC [((5, 2), .call (dB false) ⟨[], []⟩), ((5, 5), .call (dB false) ⟨[], []⟩), ((5, 6), .op { d := dB true }), ((5, 9), .call (.c (.sc (.string x_8))) ⟨[], []⟩), ((5, 11), .call (.c (.sc (.string x_10))) ⟨[], []⟩), ((5, 12), .op { d := dB true }), ((5, 17), .call (dB true) ⟨[], []⟩), ((5, 22), .op { d := dB true }), ((5, 25), .op { d := dB true })] (And.intro (h8) (And.intro (h9) (And.intro (bool_eql (P := X.P) (t := 4) false false (by kernel_rfl) (by kernel_rfl)) (And.intro (h12) (And.intro (h13) (And.intro (str_eql_true h14) (And.intro (h15) (And.intro (bool_eql (P := X.P) (t := 4) false false (by kernel_rfl) (by kernel_rfl)) ((show memoP (memoOf lives 22) [⟨1, (EncX.encX p0).map DV.c⟩, ⟨1, (EncX.encX p1).map DV.c⟩, ⟨1, (EncX.encX x).map DV.c⟩, ⟨1, (EncX.encX x_3).map DV.c⟩] [] = some { d := dB true } from by kernel_rfl)))))))))) (by kernel_rfl)
          | false =>
            replace h := condF h
            have hr := Option.some.inj h
            subst hr
            exact Sys.endC [((5, 2), .call (dB false) ⟨[], []⟩), ((5, 5), .call (dB false) ⟨[], []⟩), ((5, 6), .op { d := dB true }), ((5, 9), .call (.c (.sc (.string x_8))) ⟨[], []⟩), ((5, 11), .call (.c (.sc (.string x_10))) ⟨[], []⟩), ((5, 12), .op { d := dB true }), ((5, 17), .call (dB false) ⟨[], []⟩)] (And.intro (h8) (And.intro (h9) (And.intro (bool_eql (P := X.P) (t := 4) false false (by kernel_rfl) (by kernel_rfl)) (And.intro (h12) (And.intro (h13) (And.intro (str_eql_true h14) (h15))))))) (by kernel_rfl)
        · replace h := iteF h14 h
          have hr := Option.some.inj h
          subst hr
          exact Sys.endC [((5, 2), .call (dB false) ⟨[], []⟩), ((5, 5), .call (dB false) ⟨[], []⟩), ((5, 6), .op { d := dB true }), ((5, 9), .call (.c (.sc (.string x_8))) ⟨[], []⟩), ((5, 11), .call (.c (.sc (.string x_10))) ⟨[], []⟩), ((5, 12), .op { d := dB false })] (And.intro (h8) (And.intro (h9) (And.intro (bool_eql (P := X.P) (t := 4) false false (by kernel_rfl) (by kernel_rfl)) (And.intro (h12) (And.intro (h13) (str_eql_false h14)))))) (by kernel_rfl)
end Go.Proofs.YtilipgopjiokfaaGreatDoor

/-
  Functions of the program as Lean functions, and that the interpreter comes to the same: printed by the session's own tool.
-/
set_option linter.unusedVariables false
set_option linter.unusedSimpArgs false
set_option maxRecDepth 100000
set_option maxHeartbeats 1000000
namespace Go.Proofs.YtilipgopjiokfaaGreatDoor
open Go Go.Abs Go.Proofs
inductive vigillaw14_WorldBack_J1O where
  | r
  | m
def vigillaw14_WorldBack_J1x : vigillaw14_WorldBack_J1O → Ex
  | .r => .ret
  | .m => .normal
def vigillaw14_WorldBack_J1s (p0 : GWorld) (p1 : GWorld) (p2 : ByteArray) : vigillaw14_WorldBack_J1O → S
  | .r => ⟨fl [(6, dB true)], ⟨[⟨1, (EncX.encX p0).map DV.c⟩, ⟨1, (EncX.encX p1).map DV.c⟩], []⟩⟩
  | .m => ⟨fl [(2, .c (.sc (.string p2))), (3, .pt 0 1 0), (4, .pt 1 1 0), (50, dB false)], ⟨[⟨1, (EncX.encX p0).map DV.c⟩, ⟨1, (EncX.encX p1).map DV.c⟩], []⟩⟩
def vigillaw14_WorldBack_J1 (p0 : GWorld) (p1 : GWorld) (p2 : ByteArray) (n : Nat) : Option vigillaw14_WorldBack_J1O :=
  if (p0.threads.l.length : Int) > 60 then
    some (.r)
  else if (p0.locks.l.length : Int) > 60 then
    some (.r)
  else if (p0.vals.l.length : Int) > 60 then
    some (.r)
  else if (p1.threads.l.length : Int) > 60 then
    some (.r)
  else if (p1.locks.l.length : Int) > 60 then
    some (.r)
  else if (p1.vals.l.length : Int) > 60 then
    some (.r)
  else if (p2.size : Int) > 2000 then
    some (.r)
  else some (.m)
theorem vigillaw14_WorldBack_J1_ok (p0 : GWorld) (p1 : GWorld) (p2 : ByteArray) (n : Nat) (o : vigillaw14_WorldBack_J1O) (h : vigillaw14_WorldBack_J1 p0 p1 p2 n = some o) : X.Go 7 93 [] (sub b7 [1, 0]) ⟨fl [(2, .c (.sc (.string p2))), (3, .pt 0 1 0), (4, .pt 1 1 0)], ⟨[⟨1, (EncX.encX p0).map DV.c⟩, ⟨1, (EncX.encX p1).map DV.c⟩], []⟩⟩ (vigillaw14_WorldBack_J1x o) (vigillaw14_WorldBack_J1s p0 p1 p2 o) := by
  unfold vigillaw14_WorldBack_J1 at h
  refine Sys.goE ?_
  by_cases h1 : (p0.threads.l.length : Int) > 60
  · replace h := iteT h1 h
    have hr := Option.some.inj h
    subst hr
    exact Sys.endJ [((1, 3), .b true), ((2, 0), .op { d := dB true })] (And.intro (h1) ((show memoP (memoOf lives 22) [⟨1, (EncX.encX p0).map DV.c⟩, ⟨1, (EncX.encX p1).map DV.c⟩] [] = some { d := dB true } from by kernel_rfl))) (by kernel_rfl)
  · replace h := iteF h1 h
    by_cases h2 : (p0.locks.l.length : Int) > 60
    · replace h := iteT h2 h
      have hr := Option.some.inj h
      subst hr
      exact Sys.endJ [((1, 3), .b false), ((1, 8), .b true), ((2, 0), .op { d := dB true })] (And.intro (h1) (And.intro (h2) ((show memoP (memoOf lives 22) [⟨1, (EncX.encX p0).map DV.c⟩, ⟨1, (EncX.encX p1).map DV.c⟩] [] = some { d := dB true } from by kernel_rfl)))) (by kernel_rfl)
    · replace h := iteF h2 h
      by_cases h3 : (p0.vals.l.length : Int) > 60
      · replace h := iteT h3 h
        have hr := Option.some.inj h
        subst hr
        exact Sys.endJ [((1, 3), .b false), ((1, 8), .b false), ((1, 14), .b true), ((2, 0), .op { d := dB true })] (And.intro (h1) (And.intro (h2) (And.intro (h3) ((show memoP (memoOf lives 22) [⟨1, (EncX.encX p0).map DV.c⟩, ⟨1, (EncX.encX p1).map DV.c⟩] [] = some { d := dB true } from by kernel_rfl))))) (by kernel_rfl)
      · replace h := iteF h3 h
        by_cases h4 : (p1.threads.l.length : Int) > 60
        · replace h := iteT h4 h
          have hr := Option.some.inj h
          subst hr
          exact Sys.endJ [((1, 3), .b false), ((1, 8), .b false), ((1, 14), .b false), ((1, 20), .b true), ((2, 0), .op { d := dB true })] (And.intro (h1) (And.intro (h2) (And.intro (h3) (And.intro (h4) ((show memoP (memoOf lives 22) [⟨1, (EncX.encX p0).map DV.c⟩, ⟨1, (EncX.encX p1).map DV.c⟩] [] = some { d := dB true } from by kernel_rfl)))))) (by kernel_rfl)
        · replace h := iteF h4 h
          by_cases h5 : (p1.locks.l.length : Int) > 60
          · replace h := iteT h5 h
            have hr := Option.some.inj h
            subst hr
            exact Sys.endJ [((1, 3), .b false), ((1, 8), .b false), ((1, 14), .b false), ((1, 20), .b false), ((1, 26), .b true), ((2, 0), .op { d := dB true })] (And.intro (h1) (And.intro (h2) (And.intro (h3) (And.intro (h4) (And.intro (h5) ((show memoP (memoOf lives 22) [⟨1, (EncX.encX p0).map DV.c⟩, ⟨1, (EncX.encX p1).map DV.c⟩] [] = some { d := dB true } from by kernel_rfl))))))) (by kernel_rfl)
          · replace h := iteF h5 h
            by_cases h6 : (p1.vals.l.length : Int) > 60
            · replace h := iteT h6 h
              have hr := Option.some.inj h
              subst hr
              exact Sys.endJ [((1, 3), .b false), ((1, 8), .b false), ((1, 14), .b false), ((1, 20), .b false), ((1, 26), .b false), ((1, 32), .b true), ((2, 0), .op { d := dB true })] (And.intro (h1) (And.intro (h2) (And.intro (h3) (And.intro (h4) (And.intro (h5) (And.intro (h6) ((show memoP (memoOf lives 22) [⟨1, (EncX.encX p0).map DV.c⟩, ⟨1, (EncX.encX p1).map DV.c⟩] [] = some { d := dB true } from by kernel_rfl)))))))) (by kernel_rfl)
            · replace h := iteF h6 h
              by_cases h7 : (p2.size : Int) > 2000
              · replace h := iteT h7 h
                have hr := Option.some.inj h
                subst hr
                exact Sys.endJ [((1, 3), .b false), ((1, 8), .b false), ((1, 14), .b false), ((1, 20), .b false), ((1, 26), .b false), ((1, 32), .b false), ((1, 37), .b true), ((2, 0), .op { d := dB true })] (And.intro (h1) (And.intro (h2) (And.intro (h3) (And.intro (h4) (And.intro (h5) (And.intro (h6) (And.intro (h7) ((show memoP (memoOf lives 22) [⟨1, (EncX.encX p0).map DV.c⟩, ⟨1, (EncX.encX p1).map DV.c⟩] [] = some { d := dB true } from by kernel_rfl))))))))) (by kernel_rfl)
              · replace h := iteF h7 h
                have hr := Option.some.inj h
                subst hr
                exact Sys.endJ [((1, 3), .b false), ((1, 8), .b false), ((1, 14), .b false), ((1, 20), .b false), ((1, 26), .b false), ((1, 32), .b false), ((1, 37), .b false)] (And.intro (h1) (And.intro (h2) (And.intro (h3) (And.intro (h4) (And.intro (h5) (And.intro (h6) (h7))))))) (by kernel_rfl)

inductive vigillaw14_WorldBack_J5O where
  | m
  | r
def vigillaw14_WorldBack_J5x : vigillaw14_WorldBack_J5O → Ex
  | .m => .normal
  | .r => .ret
def vigillaw14_WorldBack_J5s (p0 : GWorld) (p1 : GWorld) (p2 : ByteArray) (x : ByteArray) (x_2 : GWorld) (x_3 : Bool) : vigillaw14_WorldBack_J5O → S
  | .m => ⟨fl [(2, .c (.sc (.string p2))), (76, dB false)], ⟨[⟨1, (EncX.encX p0).map DV.c⟩, ⟨1, (EncX.encX p1).map DV.c⟩, ⟨1, (EncX.encX x_2).map DV.c⟩], []⟩⟩
  | .r => ⟨fl [(6, dB false)], ⟨[⟨1, (EncX.encX p0).map DV.c⟩, ⟨1, (EncX.encX p1).map DV.c⟩, ⟨1, (EncX.encX x_2).map DV.c⟩], []⟩⟩
def vigillaw14_WorldBack_J5 (p0 : GWorld) (p1 : GWorld) (p2 : ByteArray) (x : ByteArray) (x_2 : GWorld) (x_3 : Bool) (n : Nat) : Option vigillaw14_WorldBack_J5O :=
  bif x_3 then
    (world_Same n p0 x_2).bind fun x_4 =>
    bif x_4 then
      (world_Text n p1).bind fun x_5 =>
      if x = x_5 then
        (world_Same n p0 p1).bind fun x_6 =>
        bif x_6 then
          some (.m)
        else some (.r)
      else (world_Same n p0 p1).bind fun x_7 =>
      bif x_7 then
        some (.r)
      else some (.m)
    else some (.r)
  else some (.r)
theorem vigillaw14_WorldBack_J5_ok (p0 : GWorld) (p1 : GWorld) (p2 : ByteArray) (x : ByteArray) (x_2 : GWorld) (x_3 : Bool) (n : Nat) (o : vigillaw14_WorldBack_J5O) (h : vigillaw14_WorldBack_J5 p0 p1 p2 x x_2 x_3 n = some o) : X.Go 7 93 [] (sub b7 [1, 1, 1, 1, 0]) ⟨fl [(2, .c (.sc (.string p2))), (3, .pt 0 1 0), (4, .pt 1 1 0), (7, .c (.sc (.string x))), (8, .pt 2 1 0), (9, dB x_3)], ⟨[⟨1, (EncX.encX p0).map DV.c⟩, ⟨1, (EncX.encX p1).map DV.c⟩, ⟨1, (EncX.encX x_2).map DV.c⟩], []⟩⟩ (vigillaw14_WorldBack_J5x o) (vigillaw14_WorldBack_J5s p0 p1 p2 x x_2 x_3 o) := by
  unfold vigillaw14_WorldBack_J5 at h
  refine Sys.goE ?_
  cases x_3 with
  | true =>
    replace h := condT h
    obtain ⟨x_4, g2, h⟩ := bindE h
    have h2 := world_Same_ok g2
    cases x_4 with
    | true =>
      replace h := condT h
      obtain ⟨x_5, g4, h⟩ := bindE h
      have h4 := world_Text_ok g4
      by_cases h5 : x = x_5
      · replace h := iteT h5 h
        obtain ⟨x_6, g6, h⟩ := bindE h
        have h6 := world_Same_ok g6
        cases x_6 with
        | true =>
          replace h := condT h
          have hr := Option.some.inj h
          subst hr
          exact Sys.endJ [((5, 5), .call (dB true) ⟨[], []⟩), ((5, 11), .call (.c (.sc (.string x_5))) ⟨[], []⟩), ((5, 12), .op { d := dB true }), ((5, 15), .call (dB true) ⟨[], []⟩), ((5, 16), .op { d := dB false })] (And.intro (h2) (And.intro (h4) (And.intro (str_eql_true h5) (And.intro (h6) (bool_neq (P := X.P) (t := 4) true true (by kernel_rfl) (by kernel_rfl)))))) (by kernel_rfl)
        | false =>
          replace h := condF h
          have hr := Option.some.inj h
          subst hr
          exact Sys.endJ [((5, 5), .call (dB true) ⟨[], []⟩), ((5, 11), .call (.c (.sc (.string x_5))) ⟨[], []⟩), ((5, 12), .op { d := dB true }), ((5, 15), .call (dB false) ⟨[], []⟩), ((5, 16), .op { d := dB true })] (And.intro (h2) (And.intro (h4) (And.intro (str_eql_true h5) (And.intro (h6) (bool_neq (P := X.P) (t := 4) true false (by kernel_rfl) (by kernel_rfl)))))) (by kernel_rfl)
      · replace h := iteF h5 h
        obtain ⟨x_7, g6, h⟩ := bindE h
        have h6 := world_Same_ok g6
        cases x_7 with
        | true =>
          replace h := condT h
          have hr := Option.some.inj h
          subst hr
          exact Sys.endJ [((5, 5), .call (dB true) ⟨[], []⟩), ((5, 11), .call (.c (.sc (.string x_5))) ⟨[], []⟩), ((5, 12), .op { d := dB false }), ((5, 15), .call (dB true) ⟨[], []⟩), ((5, 16), .op { d := dB true })] (And.intro (h2) (And.intro (h4) (And.intro (str_eql_false h5) (And.intro (h6) (bool_neq (P := X.P) (t := 4) false true (by kernel_rfl) (by kernel_rfl)))))) (by kernel_rfl)
        | false =>
          replace h := condF h
          have hr := Option.some.inj h
          subst hr
          exact Sys.endJ [((5, 5), .call (dB true) ⟨[], []⟩), ((5, 11), .call (.c (.sc (.string x_5))) ⟨[], []⟩), ((5, 12), .op { d := dB false }), ((5, 15), .call (dB false) ⟨[], []⟩), ((5, 16), .op { d := dB false })] (And.intro (h2) (And.intro (h4) (And.intro (str_eql_false h5) (And.intro (h6) (bool_neq (P := X.P) (t := 4) false false (by kernel_rfl) (by kernel_rfl)))))) (by kernel_rfl)
    | false =>
      replace h := condF h
      have hr := Option.some.inj h
      subst hr
      exact Sys.endJ [((5, 5), .call (dB false) ⟨[], []⟩)] (h2) (by kernel_rfl)
  | false =>
    replace h := condF h
    have hr := Option.some.inj h
    subst hr
    exact Sys.endJ [] (True.intro) (by kernel_rfl)

def vigillaw14_WorldBack (n : Nat) (p0 : GWorld) (p1 : GWorld) (p2 : ByteArray) : Option Bool :=
  (vigillaw14_WorldBack_J1 p0 p1 p2 n).bind fun o_2 => match o_2 with
  | .r =>
    some true
  | .m =>
    (world_Text n p0).bind fun x =>
    (world_Parse n x).bind fun (x_2, x_3) =>
    (vigillaw14_WorldBack_J5 p0 p1 p2 x x_2 x_3 n).bind fun o_3 => match o_3 with
    | .m =>
      (world_Parse n p2).bind fun (x_8, x_9) =>
      bif x_9 then
        (world_Text n x_8).bind fun x_10 =>
        if x_10 = p2 then
          some true
        else some false
      else some true
    | .r =>
      some false
theorem vigillaw14_WorldBack_ok {n : Nat} {p0 : GWorld} {p1 : GWorld} {p2 : ByteArray} {r : Bool} (h : vigillaw14_WorldBack n p0 p1 p2 = some r) : X.RunsC 7 [.c (.agg (EncX.encX p0)), .c (.agg (EncX.encX p1)), .c (.sc (.string p2))] (dB r) := by
  unfold vigillaw14_WorldBack at h
  refine Sys.callC' (fn := Tryz.f7) (b := b7) (by kernel_rfl) (by kernel_rfl) ?_
  refine Sys.to [] 201001 (.at [1, 0]) ⟨fl [(2, .c (.sc (.string p2))), (3, .pt 0 1 0), (4, .pt 1 1 0)], ⟨[⟨1, (EncX.encX p0).map DV.c⟩, ⟨1, (EncX.encX p1).map DV.c⟩], []⟩⟩ (True.intro) (by kernel_rfl) ?_
  obtain ⟨o_2, g2, h⟩ := bindE h
  have h2 := vigillaw14_WorldBack_J1_ok p0 p1 p2 n _ g2
  cases o_2 with
  | r =>
    dsimp only at h
    refine Sys.over h2 ?_
    have hr := Option.some.inj h
    subst hr
    exact Sys.endC [] (True.intro) (by kernel_rfl)
  | m =>
    dsimp only at h
    refine Sys.over h2 ?_
    obtain ⟨x, g4, h⟩ := bindE h
    have h4 := world_Text_ok g4
    obtain ⟨⟨x_2, x_3⟩, g6, h⟩ := bindE h
    dsimp only at h
    have h6 := world_Parse_ok g6
    refine Sys.to [((3, 1), .call (.c (.sc (.string x))) ⟨[], []⟩), ((4, 1), .call (.tup [.c (.agg (EncX.encX x_2)), dB x_3]) ⟨[], []⟩)] 205001 (.at [1, 1, 1, 1, 0]) ⟨fl [(2, .c (.sc (.string p2))), (3, .pt 0 1 0), (4, .pt 1 1 0), (7, .c (.sc (.string x))), (8, .pt 2 1 0), (9, dB x_3)], ⟨[⟨1, (EncX.encX p0).map DV.c⟩, ⟨1, (EncX.encX p1).map DV.c⟩, ⟨1, (EncX.encX x_2).map DV.c⟩], []⟩⟩ (And.intro (h4) (h6)) (by kernel_rfl) ?_
    obtain ⟨o_3, g8, h⟩ := bindE h
    have h8 := vigillaw14_WorldBack_J5_ok p0 p1 p2 x x_2 x_3 n _ g8
    cases o_3 with
    | m =>
      dsimp only at h
      refine Sys.over h8 ?_
      obtain ⟨⟨x_8, x_9⟩, g10, h⟩ := bindE h
      dsimp only at h
      have h10 := world_Parse_ok g10
      refine Sys.to [((7, 1), .call (.tup [.c (.agg (EncX.encX x_8)), dB x_9]) ⟨[], []⟩)] 8 (.at [1, 1, 1, 1, 1, 1, 0]) ⟨fl [(2, .c (.sc (.string p2))), (10, .pt 3 1 0), (11, dB x_9)], ⟨[⟨1, (EncX.encX p0).map DV.c⟩, ⟨1, (EncX.encX p1).map DV.c⟩, ⟨1, (EncX.encX x_2).map DV.c⟩, ⟨1, (EncX.encX x_8).map DV.c⟩], []⟩⟩ (h10) (by kernel_rfl) ?_
      cases x_9 with
      | true =>
        replace h := condT h
        obtain ⟨x_10, g13, h⟩ := bindE h
        have h13 := world_Text_ok g13
        by_cases h14 : x_10 = p2
        · replace h := iteT h14 h
          have hr := Option.some.inj h
          subst hr
          exact Sys.endC [((8, 4), .call (.c (.sc (.string x_10))) ⟨[], []⟩), ((8, 6), .op { d := dB true }), ((8, 9), .op { d := dB true })] (And.intro (h13) (And.intro (str_eql_true h14) ((show memoP (memoOf lives 22) [⟨1, (EncX.encX p0).map DV.c⟩, ⟨1, (EncX.encX p1).map DV.c⟩, ⟨1, (EncX.encX x_2).map DV.c⟩, ⟨1, (EncX.encX x_8).map DV.c⟩] [] = some { d := dB true } from by kernel_rfl)))) (by kernel_rfl)
        · replace h := iteF h14 h
          have hr := Option.some.inj h
          subst hr
          exact Sys.endC [((8, 4), .call (.c (.sc (.string x_10))) ⟨[], []⟩), ((8, 6), .op { d := dB false })] (And.intro (h13) (str_eql_false h14)) (by kernel_rfl)
      | false =>
        replace h := condF h
        have hr := Option.some.inj h
        subst hr
        exact Sys.endC [((8, 9), .op { d := dB true })] ((show memoP (memoOf lives 22) [⟨1, (EncX.encX p0).map DV.c⟩, ⟨1, (EncX.encX p1).map DV.c⟩, ⟨1, (EncX.encX x_2).map DV.c⟩, ⟨1, (EncX.encX x_8).map DV.c⟩] [] = some { d := dB true } from by kernel_rfl)) (by kernel_rfl)
    | r =>
      dsimp only at h
      refine Sys.over h8 ?_
      have hr := Option.some.inj h
      subst hr
      exact Sys.endC [] (True.intro) (by kernel_rfl)
end Go.Proofs.YtilipgopjiokfaaGreatDoor
