/-
  Part of the proof: printed by the session's own program out of the program's form, or typed; it states no claim by itself.
-/
import Derived.Test.YtkfmoodaplelnaaFd
import Derived.Test.YtkfmoodaplelnaaRe
import Derived.Test.YtkfmoodaplelnaaNe
/-
  Functions of the program as Lean functions, and that the interpreter comes to the same: printed by the session's own tool.
-/
set_option linter.unusedVariables false
set_option linter.unusedSimpArgs false
set_option maxRecDepth 100000
set_option maxHeartbeats 1000000
namespace Go.Proofs.Ytkfmoodaplelnaa
open Go Go.Abs Go.Proofs
variable [Kn]
def vigilref13_Nests_c1 (o1_0 : Int) (o1_1 : Int) (o1_2 : Int) (o1_3 : Int) (o1_4 : Int) (o1_5 : Int) (o1_6 : ByteArray) (o1_7 : ByteArray) (o1_8 : Int) (o1_9 : Sl GExpr) (o1_10 : Int) (o1_11 : Int) (o1_12 : Int) (o1_13 : Int) (o1_14 : Int) : List DV := [dInt o1_0, dInt o1_1, dInt o1_2, dInt o1_3, dInt o1_4, dInt o1_5, .c (.sc (.string o1_6)), .c (.sc (.string o1_7)), dInt o1_8, .c (eSl o1_9), dInt o1_10, dInt o1_11, dInt o1_12, dInt o1_13, dInt o1_14]
def vigilref13_Nests_c2 (o1_0_2 : Int) (o1_1_2 : Int) (o1_2_2 : Int) (o1_3_2 : Int) (o1_4_2 : Int) (o1_5_2 : Int) (o1_6_2 : ByteArray) (o1_7_2 : ByteArray) (o1_8_2 : Int) (o1_9_2 : Sl GExpr) (o1_10_2 : Int) (o1_11_2 : Int) (o1_12_2 : Int) (o1_13_2 : Int) (o1_14_2 : Int) : List DV := [dInt o1_0_2, dInt o1_1_2, dInt o1_2_2, dInt o1_3_2, dInt o1_4_2, dInt o1_5_2, .c (.sc (.string o1_6_2)), .c (.sc (.string o1_7_2)), dInt o1_8_2, .c (eSl o1_9_2), dInt o1_10_2, dInt o1_11_2, dInt o1_12_2, dInt o1_13_2, dInt o1_14_2]
inductive vigilref13_Nests_J16_8O where
  | m (o1_0 : Int) (o1_1 : Int) (o1_2 : Int) (o1_3 : Int) (o1_4 : Int) (o1_5 : Int) (o1_6 : ByteArray) (o1_7 : ByteArray) (o1_8 : Int) (o1_9 : Sl GExpr) (o1_10 : Int) (o1_11 : Int) (o1_12 : Int) (o1_13 : Int) (o1_14 : Int)
  | m_1 (o1_0 : Int) (o1_1 : Int) (o1_2 : Int) (o1_3 : Int) (o1_4 : Int) (o1_5 : Int) (o1_6 : ByteArray) (o1_7 : ByteArray) (o1_8 : Int) (o1_9 : Sl GExpr) (o1_10 : Int) (o1_11 : Int) (o1_12 : Int) (o1_13 : Int) (o1_14 : Int)
def vigilref13_Nests_J16_8x : vigilref13_Nests_J16_8O → Ex
  | .m _ _ _ _ _ _ _ _ _ _ _ _ _ _ _ => .normal
  | .m_1 _ _ _ _ _ _ _ _ _ _ _ _ _ _ _ => .normal
def vigilref13_Nests_J16_8s (p0 : GFlow) (p1 : Int) (x : Sl (Sl Int)) (x_3 : Sl Bool) (v9 : Int) (v8_10 : List GNest) (v10 : Int) (v11 : Bool) (v12 : Int) : vigilref13_Nests_J16_8O → S
  | .m o1_0 o1_1 o1_2 o1_3 o1_4 o1_5 o1_6 o1_7 o1_8 o1_9 o1_10 o1_11 o1_12 o1_13 o1_14 => ⟨fl [(1, dInt p1), (2, .pt 0 1 0), (5, .c (eSl x)), (7, .c (eSl x_3)), (8, apl v8_10), (9, dInt v9), (10, dInt v10), (11, dB true), (12, dInt v12)], ⟨[⟨1, (EncX.encX p0).map DV.c⟩, ⟨1, (vigilref13_Nests_c1 o1_0 o1_1 o1_2 o1_3 o1_4 o1_5 o1_6 o1_7 o1_8 o1_9 o1_10 o1_11 o1_12 o1_13 o1_14)⟩], []⟩⟩
  | .m_1 o1_0 o1_1 o1_2 o1_3 o1_4 o1_5 o1_6 o1_7 o1_8 o1_9 o1_10 o1_11 o1_12 o1_13 o1_14 => ⟨fl [(1, dInt p1), (2, .pt 0 1 0), (5, .c (eSl x)), (7, .c (eSl x_3)), (8, apl v8_10), (9, dInt v9), (10, dInt v10), (11, dB v11), (12, dInt v12), (83, dB false)], ⟨[⟨1, (EncX.encX p0).map DV.c⟩, ⟨1, (vigilref13_Nests_c1 o1_0 o1_1 o1_2 o1_3 o1_4 o1_5 o1_6 o1_7 o1_8 o1_9 o1_10 o1_11 o1_12 o1_13 o1_14)⟩], []⟩⟩
def vigilref13_Nests_J16_8 (p0 : GFlow) (p1 : Int) (x : Sl (Sl Int)) (x_3 : Sl Bool) (v9 : Int) (v8_10 : List GNest) (v10 : Int) (v11 : Bool) (v12 : Int) (n : Nat) : Option vigilref13_Nests_J16_8O :=
  (atI p0.edges.l v12).bind fun v44 =>
  if v44.kind = 4 then
    if v44.mon = v10 then
      (atI x_3.l v44.from_).bind fun v59 =>
      bif v59 then
        (atI x.l v44.from_).bind fun v66 =>
        (atI v66.l v10).bind fun v69 =>
        if v69 = 0 then
          (atI v66.l v9).bind fun v80 =>
          if v80 > 0 then
            some (.m v44.from_ v44.to_ v44.kind v44.mon v44.var v44.e_.op v44.e_.mon v44.e_.name v44.e_.n_ v44.e_.kids v44.e_.at_ v44.n_ v44.site v44.out v44.at_)
          else some (.m_1 v44.from_ v44.to_ v44.kind v44.mon v44.var v44.e_.op v44.e_.mon v44.e_.name v44.e_.n_ v44.e_.kids v44.e_.at_ v44.n_ v44.site v44.out v44.at_)
        else some (.m_1 v44.from_ v44.to_ v44.kind v44.mon v44.var v44.e_.op v44.e_.mon v44.e_.name v44.e_.n_ v44.e_.kids v44.e_.at_ v44.n_ v44.site v44.out v44.at_)
      else some (.m_1 v44.from_ v44.to_ v44.kind v44.mon v44.var v44.e_.op v44.e_.mon v44.e_.name v44.e_.n_ v44.e_.kids v44.e_.at_ v44.n_ v44.site v44.out v44.at_)
    else some (.m_1 v44.from_ v44.to_ v44.kind v44.mon v44.var v44.e_.op v44.e_.mon v44.e_.name v44.e_.n_ v44.e_.kids v44.e_.at_ v44.n_ v44.site v44.out v44.at_)
  else some (.m_1 v44.from_ v44.to_ v44.kind v44.mon v44.var v44.e_.op v44.e_.mon v44.e_.name v44.e_.n_ v44.e_.kids v44.e_.at_ v44.n_ v44.site v44.out v44.at_)
theorem vigilref13_Nests_J16_8_ok (p0 : GFlow) (p1 : Int) (x : Sl (Sl Int)) (x_3 : Sl Bool) (v9 : Int) (v8_10 : List GNest) (v10 : Int) (v11 : Bool) (v12 : Int) (n : Nat) (o : vigilref13_Nests_J16_8O) (h : vigilref13_Nests_J16_8 p0 p1 x x_3 v9 v8_10 v10 v11 v12 n = some o) : X.Go 15 92 [] (sub b15 [1, 1, 1, 1, 1, 0, 1, 0, 0, 1, 0, 0, 1, 0, 0, 1, 0, 0, 1, 0, 1, 0, 0, 1, 0]) ⟨fl [(1, dInt p1), (2, .pt 0 1 0), (5, .c (eSl x)), (7, .c (eSl x_3)), (8, apl v8_10), (9, dInt v9), (10, dInt v10), (11, dB v11), (12, dInt v12), (38, dB true)], ⟨[⟨1, (EncX.encX p0).map DV.c⟩], []⟩⟩ (vigilref13_Nests_J16_8x o) (vigilref13_Nests_J16_8s p0 p1 x x_3 v9 v8_10 v10 v11 v12 o) := by
  unfold vigilref13_Nests_J16_8 at h
  refine Sys.goE ?_
  obtain ⟨v44, h1, h⟩ := bindE h
  refine Sys.to [((16, 3), .ix), ((16, 4), .agg (EncX.encX v44))] 17 (.at [0, 1, 0]) ⟨fl [(1, dInt p1), (2, .pt 0 1 0), (5, .c (eSl x)), (7, .c (eSl x_3)), (8, apl v8_10), (9, dInt v9), (10, dInt v10), (11, dB v11), (12, dInt v12), (13, .pt 1 1 0)], ⟨[⟨1, (EncX.encX p0).map DV.c⟩, ⟨1, (EncX.encX v44).map DV.c⟩], []⟩⟩ (And.intro (atI_b h1) (span_at 0 15 (by decide) (atI_g h1))) (by kernel_rfl) ?_
  by_cases h3 : v44.kind = 4
  · replace h := iteT h3 h
    by_cases h4 : v44.mon = v10
    · replace h := iteT h4 h
      obtain ⟨v59, h5, h⟩ := bindE h
      cases v59 with
      | true =>
        replace h := condT h
        obtain ⟨v66, h7, h⟩ := bindE h
        obtain ⟨v69, h8, h⟩ := bindE h
        by_cases h9 : v69 = 0
        · replace h := iteT h9 h
          obtain ⟨v80, h10, h⟩ := bindE h
          by_cases h11 : v80 > 0
          · replace h := iteT h11 h
            have hr := Option.some.inj h
            subst hr
            exact Sys.endJ [((17, 2), .b true), ((17, 7), .b true), ((17, 13), .ix), ((17, 14), .cell (.sc (.bool true))), ((17, 20), .ix), ((17, 21), .cell (eSl v66)), ((17, 23), .ix), ((17, 24), .cell (cInt v69)), ((17, 25), .b true), ((17, 31), .ix), ((17, 32), .cell (eSl v66)), ((17, 34), .ix), ((17, 35), .cell (cInt v80)), ((17, 36), .b true)] (And.intro (h3) (And.intro (h4) (And.intro (atI_b h5) (And.intro (cell_at 0 (c := .sc (.bool true)) rfl (atI_g h5)) (And.intro (atI_b h7) (And.intro (cell_at 0 (c := eSl v66) rfl (atI_g h7)) (And.intro (atI_b h8) (And.intro (cell_at 0 (c := cInt v69) rfl (atI_g h8)) (And.intro (h9) (And.intro (atI_b h7) (And.intro (cell_at 0 (c := eSl v66) rfl (atI_g h7)) (And.intro (atI_b h10) (And.intro (cell_at 0 (c := cInt v80) rfl (atI_g h10)) (h11)))))))))))))) (by kernel_rfl)
          · replace h := iteF h11 h
            have hr := Option.some.inj h
            subst hr
            exact Sys.endJ [((17, 2), .b true), ((17, 7), .b true), ((17, 13), .ix), ((17, 14), .cell (.sc (.bool true))), ((17, 20), .ix), ((17, 21), .cell (eSl v66)), ((17, 23), .ix), ((17, 24), .cell (cInt v69)), ((17, 25), .b true), ((17, 31), .ix), ((17, 32), .cell (eSl v66)), ((17, 34), .ix), ((17, 35), .cell (cInt v80)), ((17, 36), .b false)] (And.intro (h3) (And.intro (h4) (And.intro (atI_b h5) (And.intro (cell_at 0 (c := .sc (.bool true)) rfl (atI_g h5)) (And.intro (atI_b h7) (And.intro (cell_at 0 (c := eSl v66) rfl (atI_g h7)) (And.intro (atI_b h8) (And.intro (cell_at 0 (c := cInt v69) rfl (atI_g h8)) (And.intro (h9) (And.intro (atI_b h7) (And.intro (cell_at 0 (c := eSl v66) rfl (atI_g h7)) (And.intro (atI_b h10) (And.intro (cell_at 0 (c := cInt v80) rfl (atI_g h10)) (h11)))))))))))))) (by kernel_rfl)
        · replace h := iteF h9 h
          have hr := Option.some.inj h
          subst hr
          exact Sys.endJ [((17, 2), .b true), ((17, 7), .b true), ((17, 13), .ix), ((17, 14), .cell (.sc (.bool true))), ((17, 20), .ix), ((17, 21), .cell (eSl v66)), ((17, 23), .ix), ((17, 24), .cell (cInt v69)), ((17, 25), .b false)] (And.intro (h3) (And.intro (h4) (And.intro (atI_b h5) (And.intro (cell_at 0 (c := .sc (.bool true)) rfl (atI_g h5)) (And.intro (atI_b h7) (And.intro (cell_at 0 (c := eSl v66) rfl (atI_g h7)) (And.intro (atI_b h8) (And.intro (cell_at 0 (c := cInt v69) rfl (atI_g h8)) (h9))))))))) (by kernel_rfl)
      | false =>
        replace h := condF h
        have hr := Option.some.inj h
        subst hr
        exact Sys.endJ [((17, 2), .b true), ((17, 7), .b true), ((17, 13), .ix), ((17, 14), .cell (.sc (.bool false)))] (And.intro (h3) (And.intro (h4) (And.intro (atI_b h5) (cell_at 0 (c := .sc (.bool false)) rfl (atI_g h5))))) (by kernel_rfl)
    · replace h := iteF h4 h
      have hr := Option.some.inj h
      subst hr
      exact Sys.endJ [((17, 2), .b true), ((17, 7), .b false)] (And.intro (h3) (h4)) (by kernel_rfl)
  · replace h := iteF h3 h
    have hr := Option.some.inj h
    subst hr
    exact Sys.endJ [((17, 2), .b false)] (h3) (by kernel_rfl)

inductive vigilref13_Nests_L14_4O where
  | e4 (v11 : Bool) (v12 : Int)
def vigilref13_Nests_L14_4x : vigilref13_Nests_L14_4O → Ex
  | .e4 _ _ => (.exit 4)
def vigilref13_Nests_L14_4s (p0 : GFlow) (p1 : Int) (x : Sl (Sl Int)) (x_3 : Sl Bool) (v9 : Int) (v8_10 : List GNest) (v10 : Int) : vigilref13_Nests_L14_4O → S
  | .e4 v11 v12 => ⟨fl [(1, dInt p1), (2, .pt 0 1 0), (5, .c (eSl x)), (7, .c (eSl x_3)), (8, apl v8_10), (9, dInt v9), (10, dInt v10), (11, dB v11), (12, dInt v12), (38, dB false)], ⟨[⟨1, (EncX.encX p0).map DV.c⟩], []⟩⟩
def vigilref13_Nests_L14_4 (p0 : GFlow) (p1 : Int) (x : Sl (Sl Int)) (x_3 : Sl Bool) (v9 : Int) (v8_10 : List GNest) (v10 : Int) (n : Nat) : Nat → Bool → Int → Option vigilref13_Nests_L14_4O
  | 0, _, _ => none
  | k + 1, v11, v12 =>
    if v12 < (p0.edges.l.length : Int) then
      (vigilref13_Nests_J16_8 p0 p1 x x_3 v9 v8_10 v10 v11 v12 n).bind fun o_2 => match o_2 with
      | .m o1_0 o1_1 o1_2 o1_3 o1_4 o1_5 o1_6 o1_7 o1_8 o1_9 o1_10 o1_11 o1_12 o1_13 o1_14 =>
        if InR (v12 + 1) then vigilref13_Nests_L14_4 p0 p1 x x_3 v9 v8_10 v10 n k true (v12 + 1)
        else none
      | .m_1 o1_0_2 o1_1_2 o1_2_2 o1_3_2 o1_4_2 o1_5_2 o1_6_2 o1_7_2 o1_8_2 o1_9_2 o1_10_2 o1_11_2 o1_12_2 o1_13_2 o1_14_2 =>
        if InR (v12 + 1) then vigilref13_Nests_L14_4 p0 p1 x x_3 v9 v8_10 v10 n k v11 (v12 + 1)
        else none
    else some (.e4 v11 v12)
theorem vigilref13_Nests_L14_4_ok (p0 : GFlow) (p1 : Int) (x : Sl (Sl Int)) (x_3 : Sl Bool) (v9 : Int) (v8_10 : List GNest) (v10 : Int) (n : Nat) : ∀ (k : Nat) (v11 : Bool) (v12 : Int) (o : vigilref13_Nests_L14_4O), vigilref13_Nests_L14_4 p0 p1 x x_3 v9 v8_10 v10 n k v11 v12 = some o → ∀ s : S, restrS (X.an.rs 15 14) s = ⟨fl [(1, dInt p1), (2, .pt 0 1 0), (5, .c (eSl x)), (7, .c (eSl x_3)), (8, apl v8_10), (9, dInt v9), (10, dInt v10), (11, dB v11), (12, dInt v12)], ⟨[⟨1, (EncX.encX p0).map DV.c⟩], []⟩⟩ → X.Loop 15 92 [] (sub b15 [1, 1, 1, 1, 1, 0, 1, 0, 0, 1, 0, 0, 1, 0, 0, 1, 0, 0, 1, 0, 1, 0, 0]) 1 s (vigilref13_Nests_L14_4x o) (vigilref13_Nests_L14_4s p0 p1 x x_3 v9 v8_10 v10 o) := by
  intro k
  induction k with
  | zero => intro v11 v12 o h s hs; unfold vigilref13_Nests_L14_4 at h; cases h
  | succ k ih =>
    intro v11 v12 o h s hs
    unfold vigilref13_Nests_L14_4 at h
    refine Sys.loopQ hs ?_
    by_cases h1 : v12 < (p0.edges.l.length : Int)
    · replace h := iteT h1 h
      refine Sys.to [((14, 4), .b true)] 216001 (.at [1, 0]) ⟨fl [(1, dInt p1), (2, .pt 0 1 0), (5, .c (eSl x)), (7, .c (eSl x_3)), (8, apl v8_10), (9, dInt v9), (10, dInt v10), (11, dB v11), (12, dInt v12), (38, dB true)], ⟨[⟨1, (EncX.encX p0).map DV.c⟩], []⟩⟩ (h1) (by kernel_rfl) ?_
      obtain ⟨o_2, g3, h⟩ := bindE h
      have h3 := vigilref13_Nests_J16_8_ok p0 p1 x x_3 v9 v8_10 v10 v11 v12 n _ g3
      cases o_2 with
      | m o1_0 o1_1 o1_2 o1_3 o1_4 o1_5 o1_6 o1_7 o1_8 o1_9 o1_10 o1_11 o1_12 o1_13 o1_14 =>
        dsimp only at h
        refine Sys.over h3 ?_
        by_cases h5 : InR (v12 + 1)
        case neg => exact absurd (iteF h5 h) (by simp)
        replace h := iteT h5 h
        refine Sys.to [((15, 1), .n)] 999999 (.fin .normal) ⟨fl [(1, dInt p1), (2, .pt 0 1 0), (5, .c (eSl x)), (7, .c (eSl x_3)), (8, apl v8_10), (9, dInt v9), (10, dInt v10), (11, dB true), (12, dInt (v12 + 1))], ⟨[⟨1, (EncX.encX p0).map DV.c⟩, ⟨1, (vigilref13_Nests_c1 o1_0 o1_1 o1_2 o1_3 o1_4 o1_5 o1_6 o1_7 o1_8 o1_9 o1_10 o1_11 o1_12 o1_13 o1_14)⟩], []⟩⟩ (h5) (by kernel_rfl) ?_
        exact Sys.fin (.inl ⟨rfl, ⟨fl [(1, dInt p1), (2, .pt 0 1 0), (5, .c (eSl x)), (7, .c (eSl x_3)), (8, apl v8_10), (9, dInt v9), (10, dInt v10), (11, dB true), (12, dInt (v12 + 1))], ⟨[⟨1, (EncX.encX p0).map DV.c⟩], []⟩⟩, (cut_ok (l := [1, 2, 5, 7, 8, 9, 10, 11, 12]) rfl (AllB.cons rfl (AllB.nil 1)) rfl), ih true (v12 + 1) _ h _ (by kernel_rfl)⟩)
      | m_1 o1_0_2 o1_1_2 o1_2_2 o1_3_2 o1_4_2 o1_5_2 o1_6_2 o1_7_2 o1_8_2 o1_9_2 o1_10_2 o1_11_2 o1_12_2 o1_13_2 o1_14_2 =>
        dsimp only at h
        refine Sys.over h3 ?_
        by_cases h5 : InR (v12 + 1)
        case neg => exact absurd (iteF h5 h) (by simp)
        replace h := iteT h5 h
        refine Sys.to [((15, 1), .n)] 999999 (.fin .normal) ⟨fl [(1, dInt p1), (2, .pt 0 1 0), (5, .c (eSl x)), (7, .c (eSl x_3)), (8, apl v8_10), (9, dInt v9), (10, dInt v10), (11, dB v11), (12, dInt (v12 + 1))], ⟨[⟨1, (EncX.encX p0).map DV.c⟩, ⟨1, (vigilref13_Nests_c2 o1_0_2 o1_1_2 o1_2_2 o1_3_2 o1_4_2 o1_5_2 o1_6_2 o1_7_2 o1_8_2 o1_9_2 o1_10_2 o1_11_2 o1_12_2 o1_13_2 o1_14_2)⟩], []⟩⟩ (h5) (by kernel_rfl) ?_
        exact Sys.fin (.inl ⟨rfl, ⟨fl [(1, dInt p1), (2, .pt 0 1 0), (5, .c (eSl x)), (7, .c (eSl x_3)), (8, apl v8_10), (9, dInt v9), (10, dInt v10), (11, dB v11), (12, dInt (v12 + 1))], ⟨[⟨1, (EncX.encX p0).map DV.c⟩], []⟩⟩, (cut_ok (l := [1, 2, 5, 7, 8, 9, 10, 11, 12]) rfl (AllB.cons rfl (AllB.nil 1)) rfl), ih v11 (v12 + 1) _ h _ (by kernel_rfl)⟩)
    · replace h := iteF h1 h
      have hr := Option.some.inj h
      subst hr
      exact Sys.endX [((14, 4), .b false)] (h1) rfl (by kernel_rfl)

inductive vigilref13_Nests_L10_2O where
  | e2 (v8' : List GNest) (v10 : Int)
def vigilref13_Nests_L10_2x : vigilref13_Nests_L10_2O → Ex
  | .e2 _ _ => (.exit 2)
def vigilref13_Nests_L10_2s (p0 : GFlow) (p1 : Int) (x : Sl (Sl Int)) (x_3 : Sl Bool) (v9 : Int) : vigilref13_Nests_L10_2O → S
  | .e2 v8' v10 => ⟨fl [(1, dInt p1), (2, .pt 0 1 0), (5, .c (eSl x)), (7, .c (eSl x_3)), (8, apl v8'), (9, dInt v9), (10, dInt v10), (31, dB false)], ⟨[⟨1, (EncX.encX p0).map DV.c⟩], []⟩⟩
def vigilref13_Nests_L10_2 (p0 : GFlow) (p1 : Int) (x : Sl (Sl Int)) (x_3 : Sl Bool) (v9 : Int) (n : Nat) : Nat → List GNest → Int → Option vigilref13_Nests_L10_2O
  | 0, _, _ => none
  | k + 1, v8_10, v10 =>
    if v10 < p1 then
      (vigilref13_Nests_L14_4 p0 p1 x x_3 v9 v8_10 v10 n n false 0).bind fun o_3 => match o_3 with
      | .e4 v11_2 v12_2 =>
        bif v11_2 then
          if Room 16 (v8_10 ++ ([({ outer := v9, inner := v10 } : GNest)] : List GNest)).length then if InR (v10 + 1) then vigilref13_Nests_L10_2 p0 p1 x x_3 v9 n k (v8_10 ++ ([({ outer := v9, inner := v10 } : GNest)] : List GNest)) (v10 + 1)
          else none
          else none
        else if InR (v10 + 1) then vigilref13_Nests_L10_2 p0 p1 x x_3 v9 n k v8_10 (v10 + 1)
        else none
    else some (.e2 v8_10 v10)
theorem vigilref13_Nests_L10_2_ok (p0 : GFlow) (p1 : Int) (x : Sl (Sl Int)) (x_3 : Sl Bool) (v9 : Int) (n : Nat) : ∀ (k : Nat) (v8_10 : List GNest) (v10 : Int) (o : vigilref13_Nests_L10_2O), vigilref13_Nests_L10_2 p0 p1 x x_3 v9 n k v8_10 v10 = some o → ∀ s : S, restrS (X.an.rs 15 10) s = ⟨fl [(1, dInt p1), (2, .pt 0 1 0), (5, .c (eSl x)), (7, .c (eSl x_3)), (8, apl v8_10), (9, dInt v9), (10, dInt v10)], ⟨[⟨1, (EncX.encX p0).map DV.c⟩], []⟩⟩ → X.Loop 15 92 [] (sub b15 [1, 1, 1, 1, 1, 0, 1, 0, 0, 1, 0, 0, 1, 0, 0]) 1 s (vigilref13_Nests_L10_2x o) (vigilref13_Nests_L10_2s p0 p1 x x_3 v9 o) := by
  intro k
  induction k with
  | zero => intro v8_10 v10 o h s hs; unfold vigilref13_Nests_L10_2 at h; cases h
  | succ k ih =>
    intro v8_10 v10 o h s hs
    unfold vigilref13_Nests_L10_2 at h
    refine Sys.loopQ hs ?_
    by_cases h1 : v10 < p1
    · replace h := iteT h1 h
      obtain ⟨o_3, g5, h⟩ := bindE h
      have h5 := vigilref13_Nests_L14_4_ok p0 p1 x x_3 v9 v8_10 v10 n n false 0 _ g5
      cases o_3 with
      | e4 v11_2 v12_2 =>
        dsimp only at h
        refine Sys.to [((10, 2), .b true), ((14, 1000), .code (.exit 4) ⟨fl [(1, dInt p1), (2, .pt 0 1 0), (5, .c (eSl x)), (7, .c (eSl x_3)), (8, apl v8_10), (9, dInt v9), (10, dInt v10), (11, dB v11_2), (12, dInt v12_2), (38, dB false)], ⟨[⟨1, (EncX.encX p0).map DV.c⟩], []⟩⟩)] 19 (.at [1, 0, 0, 1, 1, 0]) ⟨fl [(1, dInt p1), (2, .pt 0 1 0), (5, .c (eSl x)), (7, .c (eSl x_3)), (8, apl v8_10), (9, dInt v9), (10, dInt v10), (11, dB v11_2), (12, dInt v12_2), (38, dB false)], ⟨[⟨1, (EncX.encX p0).map DV.c⟩], []⟩⟩ (And.intro (h1) (Sys.Loop.goM (h5 ⟨fl [(1, dInt p1), (2, .pt 0 1 0), (5, .c (eSl x)), (7, .c (eSl x_3)), (8, apl v8_10), (9, dInt v9), (10, dInt v10), (11, dB false), (12, dInt 0)], ⟨[⟨1, (EncX.encX p0).map DV.c⟩], []⟩⟩ (by kernel_rfl)) (by kernel_rfl))) (by kernel_rfl) ?_
        cases v11_2 with
        | true =>
          replace h := condT h
          by_cases h9 : Room 16 (v8_10 ++ ([({ outer := v9, inner := v10 } : GNest)] : List GNest)).length
          case neg => exact absurd (iteF h9 h) (by simp)
          replace h := iteT h9 h
          by_cases h11 : InR (v10 + 1)
          case neg => exact absurd (iteF h11 h) (by simp)
          replace h := iteT h11 h
          refine Sys.to [((20, 5), .appF (v8_10 ++ ([({ outer := v9, inner := v10 } : GNest)] : List GNest)).isEmpty (cells (v8_10 ++ ([({ outer := v9, inner := v10 } : GNest)] : List GNest))) (v8_10 ++ ([({ outer := v9, inner := v10 } : GNest)] : List GNest)).length), ((11, 1), .n)] 999999 (.fin .normal) ⟨fl [(1, dInt p1), (2, .pt 0 1 0), (5, .c (eSl x)), (7, .c (eSl x_3)), (8, apl (v8_10 ++ ([({ outer := v9, inner := v10 } : GNest)] : List GNest))), (9, dInt v9), (10, dInt (v10 + 1))], ⟨[⟨1, (EncX.encX p0).map DV.c⟩], []⟩⟩ (And.intro (apl_lit v8_10 ([({ outer := v9, inner := v10 } : GNest)] : List GNest) (b := 16) (by decide) h9) (h11)) (by kernel_rfl) ?_
          exact Sys.fin (.inl ⟨rfl, ⟨fl [(1, dInt p1), (2, .pt 0 1 0), (5, .c (eSl x)), (7, .c (eSl x_3)), (8, apl (v8_10 ++ ([({ outer := v9, inner := v10 } : GNest)] : List GNest))), (9, dInt v9), (10, dInt (v10 + 1))], ⟨[⟨1, (EncX.encX p0).map DV.c⟩], []⟩⟩, (cut_ok (l := [1, 2, 5, 7, 8, 9, 10]) rfl (AllB.cons rfl (AllB.nil 1)) rfl), ih (v8_10 ++ ([({ outer := v9, inner := v10 } : GNest)] : List GNest)) (v10 + 1) _ h _ (by kernel_rfl)⟩)
        | false =>
          replace h := condF h
          by_cases h9 : InR (v10 + 1)
          case neg => exact absurd (iteF h9 h) (by simp)
          replace h := iteT h9 h
          refine Sys.to [((11, 1), .n)] 999999 (.fin .normal) ⟨fl [(1, dInt p1), (2, .pt 0 1 0), (5, .c (eSl x)), (7, .c (eSl x_3)), (8, apl v8_10), (9, dInt v9), (10, dInt (v10 + 1))], ⟨[⟨1, (EncX.encX p0).map DV.c⟩], []⟩⟩ (h9) (by kernel_rfl) ?_
          exact Sys.fin (.inl ⟨rfl, ⟨fl [(1, dInt p1), (2, .pt 0 1 0), (5, .c (eSl x)), (7, .c (eSl x_3)), (8, apl v8_10), (9, dInt v9), (10, dInt (v10 + 1))], ⟨[⟨1, (EncX.encX p0).map DV.c⟩], []⟩⟩, (cut_ok (l := [1, 2, 5, 7, 8, 9, 10]) rfl (AllB.cons rfl (AllB.nil 1)) rfl), ih v8_10 (v10 + 1) _ h _ (by kernel_rfl)⟩)
    · replace h := iteF h1 h
      have hr := Option.some.inj h
      subst hr
      exact Sys.endX [((10, 2), .b false)] (h1) rfl (by kernel_rfl)

inductive vigilref13_Nests_L7O where
  | e0 (v8 : List GNest) (v9 : Int)
def vigilref13_Nests_L7x : vigilref13_Nests_L7O → Ex
  | .e0 _ _ => (.exit 0)
def vigilref13_Nests_L7s (p0 : GFlow) (p1 : Int) (x : Sl (Sl Int)) (x_3 : Sl Bool) : vigilref13_Nests_L7O → S
  | .e0 v8 v9 => ⟨fl [(1, dInt p1), (2, .pt 0 1 0), (5, .c (eSl x)), (7, .c (eSl x_3)), (8, apl v8), (9, dInt v9), (26, dB false)], ⟨[⟨1, (EncX.encX p0).map DV.c⟩], []⟩⟩
def vigilref13_Nests_L7 (p0 : GFlow) (p1 : Int) (x : Sl (Sl Int)) (x_3 : Sl Bool) (n : Nat) : Nat → List GNest → Int → Option vigilref13_Nests_L7O
  | 0, _, _ => none
  | k + 1, v8, v9 =>
    if v9 < p1 then
      (vigilref13_Nests_L10_2 p0 p1 x x_3 v9 n n v8 0).bind fun o_4 => match o_4 with
      | .e2 v8_2 v10_2 =>
        if InR (v9 + 1) then vigilref13_Nests_L7 p0 p1 x x_3 n k v8_2 (v9 + 1)
        else none
    else some (.e0 v8 v9)
theorem vigilref13_Nests_L7_ok (p0 : GFlow) (p1 : Int) (x : Sl (Sl Int)) (x_3 : Sl Bool) (n : Nat) : ∀ (k : Nat) (v8 : List GNest) (v9 : Int) (o : vigilref13_Nests_L7O), vigilref13_Nests_L7 p0 p1 x x_3 n k v8 v9 = some o → ∀ s : S, restrS (X.an.rs 15 7) s = ⟨fl [(1, dInt p1), (2, .pt 0 1 0), (5, .c (eSl x)), (7, .c (eSl x_3)), (8, apl v8), (9, dInt v9)], ⟨[⟨1, (EncX.encX p0).map DV.c⟩], []⟩⟩ → X.Loop 15 92 [] (sub b15 [1, 1, 1, 1, 1, 0, 1, 0, 0]) 1 s (vigilref13_Nests_L7x o) (vigilref13_Nests_L7s p0 p1 x x_3 o) := by
  intro k
  induction k with
  | zero => intro v8 v9 o h s hs; unfold vigilref13_Nests_L7 at h; cases h
  | succ k ih =>
    intro v8 v9 o h s hs
    unfold vigilref13_Nests_L7 at h
    refine Sys.loopQ hs ?_
    by_cases h1 : v9 < p1
    · replace h := iteT h1 h
      obtain ⟨o_4, g4, h⟩ := bindE h
      have h4 := vigilref13_Nests_L10_2_ok p0 p1 x x_3 v9 n n v8 0 _ g4
      cases o_4 with
      | e2 v8_2 v10_2 =>
        dsimp only at h
        by_cases h6 : InR (v9 + 1)
        case neg => exact absurd (iteF h6 h) (by simp)
        replace h := iteT h6 h
        refine Sys.to [((7, 2), .b true), ((10, 1000), .code (.exit 2) ⟨fl [(1, dInt p1), (2, .pt 0 1 0), (5, .c (eSl x)), (7, .c (eSl x_3)), (8, apl v8_2), (9, dInt v9), (10, dInt v10_2), (31, dB false)], ⟨[⟨1, (EncX.encX p0).map DV.c⟩], []⟩⟩), ((8, 1), .n)] 999999 (.fin .normal) ⟨fl [(1, dInt p1), (2, .pt 0 1 0), (5, .c (eSl x)), (7, .c (eSl x_3)), (8, apl v8_2), (9, dInt (v9 + 1))], ⟨[⟨1, (EncX.encX p0).map DV.c⟩], []⟩⟩ (And.intro (h1) (And.intro (Sys.Loop.goM (h4 ⟨fl [(1, dInt p1), (2, .pt 0 1 0), (5, .c (eSl x)), (7, .c (eSl x_3)), (8, apl v8), (9, dInt v9), (10, dInt 0)], ⟨[⟨1, (EncX.encX p0).map DV.c⟩], []⟩⟩ (by kernel_rfl)) (by kernel_rfl)) (h6))) (by kernel_rfl) ?_
        exact Sys.fin (.inl ⟨rfl, ⟨fl [(1, dInt p1), (2, .pt 0 1 0), (5, .c (eSl x)), (7, .c (eSl x_3)), (8, apl v8_2), (9, dInt (v9 + 1))], ⟨[⟨1, (EncX.encX p0).map DV.c⟩], []⟩⟩, (cut_ok (l := [1, 2, 5, 7, 8, 9]) rfl (AllB.cons rfl (AllB.nil 1)) rfl), ih v8_2 (v9 + 1) _ h _ (by kernel_rfl)⟩)
    · replace h := iteF h1 h
      have hr := Option.some.inj h
      subst hr
      exact Sys.endX [((7, 2), .b false)] (h1) rfl (by kernel_rfl)

def vigilref13_Nests (n : Nat) (p0 : GFlow) (p1 : Int) : Option (List GNest) :=
  (vigilref13_Held n p0 p1).bind fun (x, x_2) =>
  bif x_2 then
    (vigilref13_Reached n p0).bind fun x_3 =>
    (vigilref13_Nests_L7 p0 p1 x x_3 n n ([] : List GNest) 0).bind fun o_5 => match o_5 with
    | .e0 v8_3 v9_2 =>
      some v8_3
  else some ([] : List GNest)
theorem vigilref13_Nests_ok {n : Nat} {p0 : GFlow} {p1 : Int} {r : List GNest} (h : vigilref13_Nests n p0 p1 = some r) : X.RunsC 15 [.c (.agg (EncX.encX p0)), dInt p1] (apl r) := by
  unfold vigilref13_Nests at h
  refine Sys.callC' (fn := Try.f15) (b := b15) (by kernel_rfl) (by kernel_rfl) ?_
  obtain ⟨⟨x, x_2⟩, g2, h⟩ := bindE h
  dsimp only at h
  have h2 := vigilref13_Held_ok g2
  refine Sys.to [((1, 2), .call (.tup [.c (eSl x), dB x_2]) ⟨[], []⟩)] 2 (.at [1, 1, 0, 0]) ⟨fl [(1, dInt p1), (2, .pt 0 1 0), (5, .c (eSl x)), (6, dB x_2)], ⟨[⟨1, (EncX.encX p0).map DV.c⟩], []⟩⟩ (h2) (by kernel_rfl) ?_
  cases x_2 with
  | true =>
    replace h := condT h
    obtain ⟨x_3, g6, h⟩ := bindE h
    have h6 := vigilref13_Reached_ok g6
    obtain ⟨o_5, g10, h⟩ := bindE h
    have h10 := vigilref13_Nests_L7_ok p0 p1 x x_3 n n ([] : List GNest) 0 _ g10
    cases o_5 with
    | e0 v8_3 v9_2 =>
      dsimp only at h
      have hr := Option.some.inj h
      subst hr
      exact Sys.endC [((4, 1), .call (.c (eSl x_3)) ⟨[], []⟩), ((7, 1000), .code (.exit 0) ⟨fl [(1, dInt p1), (2, .pt 0 1 0), (5, .c (eSl x)), (7, .c (eSl x_3)), (8, apl v8_3), (9, dInt v9_2), (26, dB false)], ⟨[⟨1, (EncX.encX p0).map DV.c⟩], []⟩⟩)] (And.intro (h6) (Sys.Loop.goM (h10 ⟨fl [(1, dInt p1), (2, .pt 0 1 0), (5, .c (eSl x)), (7, .c (eSl x_3)), (8, apl ([] : List GNest)), (9, dInt 0)], ⟨[⟨1, (EncX.encX p0).map DV.c⟩], []⟩⟩ (by kernel_rfl)) (by kernel_rfl))) (by kernel_rfl)
  | false =>
    replace h := condF h
    have hr := Option.some.inj h
    subst hr
    exact Sys.endC [] (True.intro) (by kernel_rfl)
inductive vigilref13_All_L4O where
  | r
  | e0 (v5 : Int)
def vigilref13_All_L4x : vigilref13_All_L4O → Ex
  | .r => .ret
  | .e0 _ => (.exit 0)
def vigilref13_All_L4s (p0 : Sl GNest) (p1 : Sl GNest) : vigilref13_All_L4O → S
  | .r => ⟨fl [(4, dB false)], ⟨[], []⟩⟩
  | .e0 v5 => ⟨fl [(0, .c (eSl p0)), (1, .c (eSl p1)), (5, dInt v5), (14, dB false)], ⟨[], []⟩⟩
def vigilref13_All_L4 (p0 : Sl GNest) (p1 : Sl GNest) (n : Nat) : Nat → Int → Option vigilref13_All_L4O
  | 0, _ => none
  | k + 1, v5 =>
    if v5 < (p0.l.length : Int) then
      (atI p0.l v5).bind fun v19 =>
      (atI p1.l v5).bind fun v23 =>
      if v19 = v23 then
        if InR (v5 + 1) then vigilref13_All_L4 p0 p1 n k (v5 + 1)
        else none
      else some (.r)
    else some (.e0 v5)
theorem vigilref13_All_L4_ok (p0 : Sl GNest) (p1 : Sl GNest) (n : Nat) : ∀ (k : Nat) (v5 : Int) (o : vigilref13_All_L4O), vigilref13_All_L4 p0 p1 n k v5 = some o → ∀ s : S, restrS (X.an.rs 13 4) s = ⟨fl [(0, .c (eSl p0)), (1, .c (eSl p1)), (5, dInt v5)], ⟨[], []⟩⟩ → X.Loop 13 26 [] (sub b13 [1, 1, 0, 1, 0, 0]) 0 s (vigilref13_All_L4x o) (vigilref13_All_L4s p0 p1 o) := by
  intro k
  induction k with
  | zero => intro v5 o h s hs; unfold vigilref13_All_L4 at h; cases h
  | succ k ih =>
    intro v5 o h s hs
    unfold vigilref13_All_L4 at h
    refine Sys.loopQ hs ?_
    by_cases h1 : v5 < (p0.l.length : Int)
    · replace h := iteT h1 h
      obtain ⟨v19, h3, h⟩ := bindE h
      obtain ⟨v23, h4, h⟩ := bindE h
      refine Sys.to [((4, 3), .b true)] 6 (.at [1, 0, 0, 0]) ⟨fl [(0, .c (eSl p0)), (1, .c (eSl p1)), (5, dInt v5), (14, dB true)], ⟨[], []⟩⟩ (h1) (by kernel_rfl) ?_
      by_cases h5 : v19 = v23
      · replace h := iteT h5 h
        by_cases h7 : InR (v5 + 1)
        case neg => exact absurd (iteF h7 h) (by simp)
        replace h := iteT h7 h
        refine Sys.to [((6, 2), .ix), ((6, 3), .agg (EncX.encX v19)), ((6, 6), .ix), ((6, 7), .agg (EncX.encX v23)), ((6, 8), .op { d := dB false }), ((5, 1), .n)] 999999 (.fin .normal) ⟨fl [(0, .c (eSl p0)), (1, .c (eSl p1)), (5, dInt (v5 + 1))], ⟨[], []⟩⟩ (And.intro (atI_b h3) (And.intro (span_at 0 2 (by decide) (atI_g h3)) (And.intro (atI_b h4) (And.intro (span_at 0 2 (by decide) (atI_g h4)) (And.intro (rec_neq_false (GNest_eq v19 v23) h5) (h7)))))) (by kernel_rfl) ?_
        exact Sys.fin (.inl ⟨rfl, ⟨fl [(0, .c (eSl p0)), (1, .c (eSl p1)), (5, dInt (v5 + 1))], ⟨[], []⟩⟩, (by kernel_rfl), ih (v5 + 1) _ h _ (by kernel_rfl)⟩)
      · replace h := iteF h5 h
        have hr := Option.some.inj h
        subst hr
        exact Sys.endX [((6, 2), .ix), ((6, 3), .agg (EncX.encX v19)), ((6, 6), .ix), ((6, 7), .agg (EncX.encX v23)), ((6, 8), .op { d := dB true })] (And.intro (atI_b h3) (And.intro (span_at 0 2 (by decide) (atI_g h3)) (And.intro (atI_b h4) (And.intro (span_at 0 2 (by decide) (atI_g h4)) (rec_neq_true (GNest_eq v19 v23) h5))))) rfl (by kernel_rfl)
    · replace h := iteF h1 h
      have hr := Option.some.inj h
      subst hr
      exact Sys.endX [((4, 3), .b false)] (h1) rfl (by kernel_rfl)

def vigilref13_All (n : Nat) (p0 : Sl GNest) (p1 : Sl GNest) : Option Bool :=
  if (p0.l.length : Int) ≠ (p1.l.length : Int) then
    some false
  else (vigilref13_All_L4 p0 p1 n n 0).bind fun o_2 => match o_2 with
  | .r =>
    some false
  | .e0 v5_2 =>
    some true
theorem vigilref13_All_ok {n : Nat} {p0 : Sl GNest} {p1 : Sl GNest} {r : Bool} (h : vigilref13_All n p0 p1 = some r) : X.RunsC 13 [.c (eSl p0), .c (eSl p1)] (dB r) := by
  unfold vigilref13_All at h
  refine Sys.callC' (fn := Try.f13) (b := b13) (by kernel_rfl) (by kernel_rfl) ?_
  by_cases h2 : (p0.l.length : Int) ≠ (p1.l.length : Int)
  · replace h := iteT h2 h
    have hr := Option.some.inj h
    subst hr
    exact Sys.endC [((1, 4), .b true)] (h2) (by kernel_rfl)
  · replace h := iteF h2 h
    refine Sys.to [((1, 4), .b false)] 100004 (.at [1, 1, 0, 1, 0]) ⟨fl [(0, .c (eSl p0)), (1, .c (eSl p1)), (5, dInt 0)], ⟨[], []⟩⟩ (h2) (by kernel_rfl) ?_
    obtain ⟨o_2, g5, h⟩ := bindE h
    have h5 := vigilref13_All_L4_ok p0 p1 n n 0 _ g5
    cases o_2 with
    | r =>
      dsimp only at h
      have hr := Option.some.inj h
      subst hr
      exact Sys.endC [((4, 1000), .code .ret ⟨fl [(4, dB false)], ⟨[], []⟩⟩)] (Sys.Loop.goM (h5 ⟨fl [(0, .c (eSl p0)), (1, .c (eSl p1)), (5, dInt 0)], ⟨[], []⟩⟩ (by kernel_rfl)) (by kernel_rfl)) (by kernel_rfl)
    | e0 v5_2 =>
      dsimp only at h
      have hr := Option.some.inj h
      subst hr
      exact Sys.endC [((4, 1000), .code (.exit 0) ⟨fl [(0, .c (eSl p0)), (1, .c (eSl p1)), (5, dInt v5_2), (14, dB false)], ⟨[], []⟩⟩)] (Sys.Loop.goM (h5 ⟨fl [(0, .c (eSl p0)), (1, .c (eSl p1)), (5, dInt 0)], ⟨[], []⟩⟩ (by kernel_rfl)) (by kernel_rfl)) (by kernel_rfl)
inductive vigilref13_Round_L15_15O where
  | e6 (v7 : Bool) (v8 : Int)
def vigilref13_Round_L15_15x : vigilref13_Round_L15_15O → Ex
  | .e6 _ _ => (.exit 6)
def vigilref13_Round_L15_15s (p0 : Sl GNest) (v3 : Int) (v5 : Int) (v4_11 : List Int) (v6 : Int) : vigilref13_Round_L15_15O → S
  | .e6 v7 v8 => ⟨fl [(0, .c (eSl p0)), (3, dInt v3), (4, apf v4_11), (5, dInt v5), (6, dInt v6), (7, dB v7), (8, dInt v8), (56, dB false)], ⟨[], []⟩⟩
def vigilref13_Round_L15_15 (p0 : Sl GNest) (v3 : Int) (v5 : Int) (v4_11 : List Int) (v6 : Int) (n : Nat) : Nat → Bool → Int → Option vigilref13_Round_L15_15O
  | 0, _, _ => none
  | k + 1, v7, v8 =>
    if v8 < (v4_11.length : Int) then
      bif v7 then
        (atI v4_11 v8).bind fun v63 =>
        (atI p0.l v6).bind fun v67 =>
        if v63 ≠ v67.inner then
          if InR (v8 + 1) then vigilref13_Round_L15_15 p0 v3 v5 v4_11 v6 n k true (v8 + 1)
          else none
        else if InR (v8 + 1) then vigilref13_Round_L15_15 p0 v3 v5 v4_11 v6 n k false (v8 + 1)
        else none
      else if InR (v8 + 1) then vigilref13_Round_L15_15 p0 v3 v5 v4_11 v6 n k false (v8 + 1)
      else none
    else some (.e6 v7 v8)
theorem vigilref13_Round_L15_15_ok (p0 : Sl GNest) (v3 : Int) (v5 : Int) (v4_11 : List Int) (v6 : Int) (n : Nat) : ∀ (k : Nat) (v7 : Bool) (v8 : Int) (o : vigilref13_Round_L15_15O), vigilref13_Round_L15_15 p0 v3 v5 v4_11 v6 n k v7 v8 = some o → ∀ s : S, restrS (X.an.rs 17 15) s = ⟨fl [(0, .c (eSl p0)), (3, dInt v3), (4, apf v4_11), (5, dInt v5), (6, dInt v6), (7, dB v7), (8, dInt v8)], ⟨[], []⟩⟩ → X.Loop 17 81 [] (sub b17 [1, 0, 1, 0, 0, 1, 0, 0, 1, 1, 0, 0, 1, 0, 0, 1, 1, 0, 0, 1, 0, 0, 1, 0, 1, 0, 0]) 0 s (vigilref13_Round_L15_15x o) (vigilref13_Round_L15_15s p0 v3 v5 v4_11 v6 o) := by
  intro k
  induction k with
  | zero => intro v7 v8 o h s hs; unfold vigilref13_Round_L15_15 at h; cases h
  | succ k ih =>
    intro v7 v8 o h s hs
    unfold vigilref13_Round_L15_15 at h
    refine Sys.loopQ hs ?_
    by_cases h1 : v8 < (v4_11.length : Int)
    · replace h := iteT h1 h
      refine Sys.to [((15, 3), .b true)] 17 (.at [1, 0, 0]) ⟨fl [(0, .c (eSl p0)), (3, dInt v3), (4, apf v4_11), (5, dInt v5), (6, dInt v6), (7, dB v7), (8, dInt v8), (56, dB true)], ⟨[], []⟩⟩ (h1) (by kernel_rfl) ?_
      cases v7 with
      | true =>
        replace h := condT h
        obtain ⟨v63, h4, h⟩ := bindE h
        obtain ⟨v67, h5, h⟩ := bindE h
        by_cases h6 : v63 ≠ v67.inner
        · replace h := iteT h6 h
          by_cases h8 : InR (v8 + 1)
          case neg => exact absurd (iteF h8 h) (by simp)
          replace h := iteT h8 h
          refine Sys.to [((17, 4), .ix), ((17, 5), .cell (cInt v63)), ((17, 8), .ix), ((17, 10), .cell (cInt v67.inner)), ((17, 11), .b true), ((16, 1), .n)] 999999 (.fin .normal) ⟨fl [(0, .c (eSl p0)), (3, dInt v3), (4, apf v4_11), (5, dInt v5), (6, dInt v6), (7, dB true), (8, dInt (v8 + 1))], ⟨[], []⟩⟩ (And.intro (atI_b h4) (And.intro (cell_at 0 (c := cInt v63) rfl (atI_g h4)) (And.intro (atI_b h5) (And.intro (cell_at 1 (c := cInt v67.inner) rfl (atI_g h5)) (And.intro (h6) (h8)))))) (by kernel_rfl) ?_
          exact Sys.fin (.inl ⟨rfl, ⟨fl [(0, .c (eSl p0)), (3, dInt v3), (4, apf v4_11), (5, dInt v5), (6, dInt v6), (7, dB true), (8, dInt (v8 + 1))], ⟨[], []⟩⟩, (by kernel_rfl), ih true (v8 + 1) _ h _ (by kernel_rfl)⟩)
        · replace h := iteF h6 h
          by_cases h8 : InR (v8 + 1)
          case neg => exact absurd (iteF h8 h) (by simp)
          replace h := iteT h8 h
          refine Sys.to [((17, 4), .ix), ((17, 5), .cell (cInt v63)), ((17, 8), .ix), ((17, 10), .cell (cInt v67.inner)), ((17, 11), .b false), ((16, 1), .n)] 999999 (.fin .normal) ⟨fl [(0, .c (eSl p0)), (3, dInt v3), (4, apf v4_11), (5, dInt v5), (6, dInt v6), (7, dB false), (8, dInt (v8 + 1))], ⟨[], []⟩⟩ (And.intro (atI_b h4) (And.intro (cell_at 0 (c := cInt v63) rfl (atI_g h4)) (And.intro (atI_b h5) (And.intro (cell_at 1 (c := cInt v67.inner) rfl (atI_g h5)) (And.intro (h6) (h8)))))) (by kernel_rfl) ?_
          exact Sys.fin (.inl ⟨rfl, ⟨fl [(0, .c (eSl p0)), (3, dInt v3), (4, apf v4_11), (5, dInt v5), (6, dInt v6), (7, dB false), (8, dInt (v8 + 1))], ⟨[], []⟩⟩, (by kernel_rfl), ih false (v8 + 1) _ h _ (by kernel_rfl)⟩)
      | false =>
        replace h := condF h
        by_cases h5 : InR (v8 + 1)
        case neg => exact absurd (iteF h5 h) (by simp)
        replace h := iteT h5 h
        refine Sys.to [((16, 1), .n)] 999999 (.fin .normal) ⟨fl [(0, .c (eSl p0)), (3, dInt v3), (4, apf v4_11), (5, dInt v5), (6, dInt v6), (7, dB false), (8, dInt (v8 + 1))], ⟨[], []⟩⟩ (h5) (by kernel_rfl) ?_
        exact Sys.fin (.inl ⟨rfl, ⟨fl [(0, .c (eSl p0)), (3, dInt v3), (4, apf v4_11), (5, dInt v5), (6, dInt v6), (7, dB false), (8, dInt (v8 + 1))], ⟨[], []⟩⟩, (by kernel_rfl), ih false (v8 + 1) _ h _ (by kernel_rfl)⟩)
    · replace h := iteF h1 h
      have hr := Option.some.inj h
      subst hr
      exact Sys.endX [((15, 3), .b false)] (h1) rfl (by kernel_rfl)

inductive vigilref13_Round_L15_16O where
  | e6 (v8 : Int)
def vigilref13_Round_L15_16x : vigilref13_Round_L15_16O → Ex
  | .e6 _ => (.exit 6)
def vigilref13_Round_L15_16s (p0 : Sl GNest) (v3 : Int) (v5 : Int) (v4_11 : List Int) (v6 : Int) : vigilref13_Round_L15_16O → S
  | .e6 v8 => ⟨fl [(0, .c (eSl p0)), (3, dInt v3), (4, apf v4_11), (5, dInt v5), (6, dInt v6), (7, dB false), (8, dInt v8), (56, dB false)], ⟨[], []⟩⟩
def vigilref13_Round_L15_16 (p0 : Sl GNest) (v3 : Int) (v5 : Int) (v4_11 : List Int) (v6 : Int) (n : Nat) : Nat → Int → Option vigilref13_Round_L15_16O
  | 0, _ => none
  | k + 1, v8_15 =>
    if v8_15 < (v4_11.length : Int) then
      if InR (v8_15 + 1) then vigilref13_Round_L15_16 p0 v3 v5 v4_11 v6 n k (v8_15 + 1)
      else none
    else some (.e6 v8_15)
theorem vigilref13_Round_L15_16_ok (p0 : Sl GNest) (v3 : Int) (v5 : Int) (v4_11 : List Int) (v6 : Int) (n : Nat) : ∀ (k : Nat) (v8_15 : Int) (o : vigilref13_Round_L15_16O), vigilref13_Round_L15_16 p0 v3 v5 v4_11 v6 n k v8_15 = some o → ∀ s : S, restrS (X.an.rs 17 15) s = ⟨fl [(0, .c (eSl p0)), (3, dInt v3), (4, apf v4_11), (5, dInt v5), (6, dInt v6), (7, dB false), (8, dInt v8_15)], ⟨[], []⟩⟩ → X.Loop 17 81 [] (sub b17 [1, 0, 1, 0, 0, 1, 0, 0, 1, 1, 0, 0, 1, 0, 0, 1, 1, 0, 0, 1, 0, 0, 1, 0, 1, 0, 0]) 0 s (vigilref13_Round_L15_16x o) (vigilref13_Round_L15_16s p0 v3 v5 v4_11 v6 o) := by
  intro k
  induction k with
  | zero => intro v8_15 o h s hs; unfold vigilref13_Round_L15_16 at h; cases h
  | succ k ih =>
    intro v8_15 o h s hs
    unfold vigilref13_Round_L15_16 at h
    refine Sys.loopQ hs ?_
    by_cases h1 : v8_15 < (v4_11.length : Int)
    · replace h := iteT h1 h
      by_cases h4 : InR (v8_15 + 1)
      case neg => exact absurd (iteF h4 h) (by simp)
      replace h := iteT h4 h
      refine Sys.to [((15, 3), .b true), ((16, 1), .n)] 999999 (.fin .normal) ⟨fl [(0, .c (eSl p0)), (3, dInt v3), (4, apf v4_11), (5, dInt v5), (6, dInt v6), (7, dB false), (8, dInt (v8_15 + 1))], ⟨[], []⟩⟩ (And.intro (h1) (h4)) (by kernel_rfl) ?_
      exact Sys.fin (.inl ⟨rfl, ⟨fl [(0, .c (eSl p0)), (3, dInt v3), (4, apf v4_11), (5, dInt v5), (6, dInt v6), (7, dB false), (8, dInt (v8_15 + 1))], ⟨[], []⟩⟩, (by kernel_rfl), ih (v8_15 + 1) _ h _ (by kernel_rfl)⟩)
    · replace h := iteF h1 h
      have hr := Option.some.inj h
      subst hr
      exact Sys.endX [((15, 3), .b false)] (h1) rfl (by kernel_rfl)

inductive vigilref13_Round_L11_4O where
  | e4 (v4' : List Int) (v6 : Int)
def vigilref13_Round_L11_4x : vigilref13_Round_L11_4O → Ex
  | .e4 _ _ => (.exit 4)
def vigilref13_Round_L11_4s (p0 : Sl GNest) (v3 : Int) (v5 : Int) : vigilref13_Round_L11_4O → S
  | .e4 v4' v6 => ⟨fl [(0, .c (eSl p0)), (3, dInt v3), (4, apf v4'), (5, dInt v5), (6, dInt v6), (40, dB false)], ⟨[], []⟩⟩
def vigilref13_Round_L11_4 (p0 : Sl GNest) (v3 : Int) (v5 : Int) (n : Nat) : Nat → List Int → Int → Option vigilref13_Round_L11_4O
  | 0, _, _ => none
  | k + 1, v4_11, v6 =>
    if v6 < (p0.l.length : Int) then
      (atI p0.l v6).bind fun v45 =>
      (atI v4_11 v5).bind fun v50 =>
      if v45.outer = v50 then
        (vigilref13_Round_L15_15 p0 v3 v5 v4_11 v6 n n true 0).bind fun o_2 => match o_2 with
        | .e6 v7_2 v8_2 =>
          bif v7_2 then
            if Room 8 (v4_11 ++ ([v45.inner] : List Int)).length then if InR (v6 + 1) then vigilref13_Round_L11_4 p0 v3 v5 n k (v4_11 ++ ([v45.inner] : List Int)) (v6 + 1)
            else none
            else none
          else if InR (v6 + 1) then vigilref13_Round_L11_4 p0 v3 v5 n k v4_11 (v6 + 1)
          else none
      else (vigilref13_Round_L15_16 p0 v3 v5 v4_11 v6 n n 0).bind fun o_3 => match o_3 with
      | .e6 v8_3 =>
        if InR (v6 + 1) then vigilref13_Round_L11_4 p0 v3 v5 n k v4_11 (v6 + 1)
        else none
    else some (.e4 v4_11 v6)
theorem vigilref13_Round_L11_4_ok (p0 : Sl GNest) (v3 : Int) (v5 : Int) (n : Nat) : ∀ (k : Nat) (v4_11 : List Int) (v6 : Int) (o : vigilref13_Round_L11_4O), vigilref13_Round_L11_4 p0 v3 v5 n k v4_11 v6 = some o → ∀ s : S, restrS (X.an.rs 17 11) s = ⟨fl [(0, .c (eSl p0)), (3, dInt v3), (4, apf v4_11), (5, dInt v5), (6, dInt v6)], ⟨[], []⟩⟩ → X.Loop 17 81 [] (sub b17 [1, 0, 1, 0, 0, 1, 0, 0, 1, 1, 0, 0, 1, 0, 0, 1, 1, 0, 0]) 0 s (vigilref13_Round_L11_4x o) (vigilref13_Round_L11_4s p0 v3 v5 o) := by
  intro k
  induction k with
  | zero => intro v4_11 v6 o h s hs; unfold vigilref13_Round_L11_4 at h; cases h
  | succ k ih =>
    intro v4_11 v6 o h s hs
    unfold vigilref13_Round_L11_4 at h
    refine Sys.loopQ hs ?_
    by_cases h1 : v6 < (p0.l.length : Int)
    · replace h := iteT h1 h
      obtain ⟨v45, h3, h⟩ := bindE h
      obtain ⟨v50, h4, h⟩ := bindE h
      refine Sys.to [((11, 3), .b true)] 13 (.at [1, 0, 0, 0]) ⟨fl [(0, .c (eSl p0)), (3, dInt v3), (4, apf v4_11), (5, dInt v5), (6, dInt v6), (40, dB true)], ⟨[], []⟩⟩ (h1) (by kernel_rfl) ?_
      by_cases h5 : v45.outer = v50
      · replace h := iteT h5 h
        obtain ⟨o_2, g8, h⟩ := bindE h
        have h8 := vigilref13_Round_L15_15_ok p0 v3 v5 v4_11 v6 n n true 0 _ g8
        cases o_2 with
        | e6 v7_2 v8_2 =>
          dsimp only at h
          refine Sys.to [((13, 2), .ix), ((13, 4), .cell (cInt v45.outer)), ((13, 7), .ix), ((13, 8), .cell (cInt v50)), ((13, 9), .b true), ((15, 1000), .code (.exit 6) ⟨fl [(0, .c (eSl p0)), (3, dInt v3), (4, apf v4_11), (5, dInt v5), (6, dInt v6), (7, dB v7_2), (8, dInt v8_2), (56, dB false)], ⟨[], []⟩⟩)] 18 (.at [1, 0, 0, 1, 1, 0]) ⟨fl [(0, .c (eSl p0)), (3, dInt v3), (4, apf v4_11), (5, dInt v5), (6, dInt v6), (7, dB v7_2), (8, dInt v8_2), (56, dB false)], ⟨[], []⟩⟩ (And.intro (atI_b h3) (And.intro (cell_at 0 (c := cInt v45.outer) rfl (atI_g h3)) (And.intro (atI_b h4) (And.intro (cell_at 0 (c := cInt v50) rfl (atI_g h4)) (And.intro (h5) (Sys.Loop.goM (h8 ⟨fl [(0, .c (eSl p0)), (3, dInt v3), (4, apf v4_11), (5, dInt v5), (6, dInt v6), (7, dB true), (8, dInt 0)], ⟨[], []⟩⟩ (by kernel_rfl)) (by kernel_rfl))))))) (by kernel_rfl) ?_
          cases v7_2 with
          | true =>
            replace h := condT h
            by_cases h12 : Room 8 (v4_11 ++ ([v45.inner] : List Int)).length
            case neg => exact absurd (iteF h12 h) (by simp)
            replace h := iteT h12 h
            by_cases h14 : InR (v6 + 1)
            case neg => exact absurd (iteF h14 h) (by simp)
            replace h := iteT h14 h
            refine Sys.to [((19, 3), .ix), ((19, 5), .cell (cInt v45.inner)), ((19, 7), .appF false (cells (v4_11 ++ ([v45.inner] : List Int))) (v4_11 ++ ([v45.inner] : List Int)).length), ((12, 1), .n)] 999999 (.fin .normal) ⟨fl [(0, .c (eSl p0)), (3, dInt v3), (4, apf (v4_11 ++ ([v45.inner] : List Int))), (5, dInt v5), (6, dInt (v6 + 1))], ⟨[], []⟩⟩ (And.intro (atI_b h3) (And.intro (cell_at 1 (c := cInt v45.inner) rfl (atI_g h3)) (And.intro (apf_lit v4_11 ([v45.inner] : List Int) (b := 8) (by decide) h12) (h14)))) (by kernel_rfl) ?_
            exact Sys.fin (.inl ⟨rfl, ⟨fl [(0, .c (eSl p0)), (3, dInt v3), (4, apf (v4_11 ++ ([v45.inner] : List Int))), (5, dInt v5), (6, dInt (v6 + 1))], ⟨[], []⟩⟩, (by kernel_rfl), ih (v4_11 ++ ([v45.inner] : List Int)) (v6 + 1) _ h _ (by kernel_rfl)⟩)
          | false =>
            replace h := condF h
            by_cases h12 : InR (v6 + 1)
            case neg => exact absurd (iteF h12 h) (by simp)
            replace h := iteT h12 h
            refine Sys.to [((12, 1), .n)] 999999 (.fin .normal) ⟨fl [(0, .c (eSl p0)), (3, dInt v3), (4, apf v4_11), (5, dInt v5), (6, dInt (v6 + 1))], ⟨[], []⟩⟩ (h12) (by kernel_rfl) ?_
            exact Sys.fin (.inl ⟨rfl, ⟨fl [(0, .c (eSl p0)), (3, dInt v3), (4, apf v4_11), (5, dInt v5), (6, dInt (v6 + 1))], ⟨[], []⟩⟩, (by kernel_rfl), ih v4_11 (v6 + 1) _ h _ (by kernel_rfl)⟩)
      · replace h := iteF h5 h
        obtain ⟨o_3, g8, h⟩ := bindE h
        have h8 := vigilref13_Round_L15_16_ok p0 v3 v5 v4_11 v6 n n 0 _ g8
        cases o_3 with
        | e6 v8_3 =>
          dsimp only at h
          by_cases h11 : InR (v6 + 1)
          case neg => exact absurd (iteF h11 h) (by simp)
          replace h := iteT h11 h
          refine Sys.to [((13, 2), .ix), ((13, 4), .cell (cInt v45.outer)), ((13, 7), .ix), ((13, 8), .cell (cInt v50)), ((13, 9), .b false), ((15, 1000), .code (.exit 6) ⟨fl [(0, .c (eSl p0)), (3, dInt v3), (4, apf v4_11), (5, dInt v5), (6, dInt v6), (7, dB false), (8, dInt v8_3), (56, dB false)], ⟨[], []⟩⟩), ((12, 1), .n)] 999999 (.fin .normal) ⟨fl [(0, .c (eSl p0)), (3, dInt v3), (4, apf v4_11), (5, dInt v5), (6, dInt (v6 + 1))], ⟨[], []⟩⟩ (And.intro (atI_b h3) (And.intro (cell_at 0 (c := cInt v45.outer) rfl (atI_g h3)) (And.intro (atI_b h4) (And.intro (cell_at 0 (c := cInt v50) rfl (atI_g h4)) (And.intro (h5) (And.intro (Sys.Loop.goM (h8 ⟨fl [(0, .c (eSl p0)), (3, dInt v3), (4, apf v4_11), (5, dInt v5), (6, dInt v6), (7, dB false), (8, dInt 0)], ⟨[], []⟩⟩ (by kernel_rfl)) (by kernel_rfl)) (h11))))))) (by kernel_rfl) ?_
          exact Sys.fin (.inl ⟨rfl, ⟨fl [(0, .c (eSl p0)), (3, dInt v3), (4, apf v4_11), (5, dInt v5), (6, dInt (v6 + 1))], ⟨[], []⟩⟩, (by kernel_rfl), ih v4_11 (v6 + 1) _ h _ (by kernel_rfl)⟩)
    · replace h := iteF h1 h
      have hr := Option.some.inj h
      subst hr
      exact Sys.endX [((11, 3), .b false)] (h1) rfl (by kernel_rfl)

inductive vigilref13_Round_L6_2O where
  | r
  | e2 (v4 : List Int) (v5 : Int)
def vigilref13_Round_L6_2x : vigilref13_Round_L6_2O → Ex
  | .r => .ret
  | .e2 _ _ => (.exit 2)
def vigilref13_Round_L6_2s (p0 : Sl GNest) (v3 : Int) : vigilref13_Round_L6_2O → S
  | .r => ⟨fl [(2, dB true)], ⟨[], []⟩⟩
  | .e2 v4 v5 => ⟨fl [(0, .c (eSl p0)), (3, dInt v3), (4, apf v4), (5, dInt v5), (24, dB false)], ⟨[], []⟩⟩
def vigilref13_Round_L6_2 (p0 : Sl GNest) (v3 : Int) (n : Nat) : Nat → List Int → Int → Option vigilref13_Round_L6_2O
  | 0, _, _ => none
  | k + 1, v4, v5 =>
    if v5 < (v4.length : Int) then
      (atI v4 v5).bind fun v29 =>
      (atI p0.l v3).bind fun v33 =>
      if v29 = v33.outer then
        some (.r)
      else (vigilref13_Round_L11_4 p0 v3 v5 n n v4 0).bind fun o_4 => match o_4 with
      | .e4 v4_2 v6_2 =>
        if InR (v5 + 1) then vigilref13_Round_L6_2 p0 v3 n k v4_2 (v5 + 1)
        else none
    else some (.e2 v4 v5)
theorem vigilref13_Round_L6_2_ok (p0 : Sl GNest) (v3 : Int) (n : Nat) : ∀ (k : Nat) (v4 : List Int) (v5 : Int) (o : vigilref13_Round_L6_2O), vigilref13_Round_L6_2 p0 v3 n k v4 v5 = some o → ∀ s : S, restrS (X.an.rs 17 6) s = ⟨fl [(0, .c (eSl p0)), (3, dInt v3), (4, apf v4), (5, dInt v5)], ⟨[], []⟩⟩ → X.Loop 17 81 [] (sub b17 [1, 0, 1, 0, 0, 1, 0, 0, 1, 1, 0, 0]) 0 s (vigilref13_Round_L6_2x o) (vigilref13_Round_L6_2s p0 v3 o) := by
  intro k
  induction k with
  | zero => intro v4 v5 o h s hs; unfold vigilref13_Round_L6_2 at h; cases h
  | succ k ih =>
    intro v4 v5 o h s hs
    unfold vigilref13_Round_L6_2 at h
    refine Sys.loopQ hs ?_
    by_cases h1 : v5 < (v4.length : Int)
    · replace h := iteT h1 h
      obtain ⟨v29, h3, h⟩ := bindE h
      obtain ⟨v33, h4, h⟩ := bindE h
      refine Sys.to [((6, 3), .b true)] 8 (.at [1, 0, 0, 0, 0]) ⟨fl [(0, .c (eSl p0)), (3, dInt v3), (4, apf v4), (5, dInt v5), (24, dB true)], ⟨[], []⟩⟩ (h1) (by kernel_rfl) ?_
      by_cases h5 : v29 = v33.outer
      · replace h := iteT h5 h
        have hr := Option.some.inj h
        subst hr
        exact Sys.endX [((8, 2), .ix), ((8, 3), .cell (cInt v29)), ((8, 6), .ix), ((8, 8), .cell (cInt v33.outer)), ((8, 9), .b true)] (And.intro (atI_b h3) (And.intro (cell_at 0 (c := cInt v29) rfl (atI_g h3)) (And.intro (atI_b h4) (And.intro (cell_at 0 (c := cInt v33.outer) rfl (atI_g h4)) (h5))))) rfl (by kernel_rfl)
      · replace h := iteF h5 h
        obtain ⟨o_4, g8, h⟩ := bindE h
        have h8 := vigilref13_Round_L11_4_ok p0 v3 v5 n n v4 0 _ g8
        cases o_4 with
        | e4 v4_2 v6_2 =>
          dsimp only at h
          by_cases h10 : InR (v5 + 1)
          case neg => exact absurd (iteF h10 h) (by simp)
          replace h := iteT h10 h
          refine Sys.to [((8, 2), .ix), ((8, 3), .cell (cInt v29)), ((8, 6), .ix), ((8, 8), .cell (cInt v33.outer)), ((8, 9), .b false), ((11, 1000), .code (.exit 4) ⟨fl [(0, .c (eSl p0)), (3, dInt v3), (4, apf v4_2), (5, dInt v5), (6, dInt v6_2), (40, dB false)], ⟨[], []⟩⟩), ((7, 1), .n)] 999999 (.fin .normal) ⟨fl [(0, .c (eSl p0)), (3, dInt v3), (4, apf v4_2), (5, dInt (v5 + 1))], ⟨[], []⟩⟩ (And.intro (atI_b h3) (And.intro (cell_at 0 (c := cInt v29) rfl (atI_g h3)) (And.intro (atI_b h4) (And.intro (cell_at 0 (c := cInt v33.outer) rfl (atI_g h4)) (And.intro (h5) (And.intro (Sys.Loop.goM (h8 ⟨fl [(0, .c (eSl p0)), (3, dInt v3), (4, apf v4), (5, dInt v5), (6, dInt 0)], ⟨[], []⟩⟩ (by kernel_rfl)) (by kernel_rfl)) (h10))))))) (by kernel_rfl) ?_
          exact Sys.fin (.inl ⟨rfl, ⟨fl [(0, .c (eSl p0)), (3, dInt v3), (4, apf v4_2), (5, dInt (v5 + 1))], ⟨[], []⟩⟩, (by kernel_rfl), ih v4_2 (v5 + 1) _ h _ (by kernel_rfl)⟩)
    · replace h := iteF h1 h
      have hr := Option.some.inj h
      subst hr
      exact Sys.endX [((6, 3), .b false)] (h1) rfl (by kernel_rfl)

inductive vigilref13_Round_L2O where
  | r
  | e0 (v3 : Int)
def vigilref13_Round_L2x : vigilref13_Round_L2O → Ex
  | .r => .ret
  | .e0 _ => (.exit 0)
def vigilref13_Round_L2s (p0 : Sl GNest) : vigilref13_Round_L2O → S
  | .r => ⟨fl [(2, dB true)], ⟨[], []⟩⟩
  | .e0 v3 => ⟨fl [(0, .c (eSl p0)), (3, dInt v3), (12, dB false)], ⟨[], []⟩⟩
def vigilref13_Round_L2 (p0 : Sl GNest) (n : Nat) : Nat → Int → Option vigilref13_Round_L2O
  | 0, _ => none
  | k + 1, v3 =>
    if v3 < (p0.l.length : Int) then
      (atI p0.l v3).bind fun v17 =>
      (vigilref13_Round_L6_2 p0 v3 n n ([v17.inner] : List Int) 0).bind fun o_5 => match o_5 with
      | .r =>
        some (.r)
      | .e2 v4_3 v5_2 =>
        if InR (v3 + 1) then vigilref13_Round_L2 p0 n k (v3 + 1)
        else none
    else some (.e0 v3)
theorem vigilref13_Round_L2_ok (p0 : Sl GNest) (n : Nat) : ∀ (k : Nat) (v3 : Int) (o : vigilref13_Round_L2O), vigilref13_Round_L2 p0 n k v3 = some o → ∀ s : S, restrS (X.an.rs 17 2) s = ⟨fl [(0, .c (eSl p0)), (3, dInt v3)], ⟨[], []⟩⟩ → X.Loop 17 81 [] (sub b17 [1, 0, 1, 0, 0]) 0 s (vigilref13_Round_L2x o) (vigilref13_Round_L2s p0 o) := by
  intro k
  induction k with
  | zero => intro v3 o h s hs; unfold vigilref13_Round_L2 at h; cases h
  | succ k ih =>
    intro v3 o h s hs
    unfold vigilref13_Round_L2 at h
    refine Sys.loopQ hs ?_
    by_cases h1 : v3 < (p0.l.length : Int)
    · replace h := iteT h1 h
      obtain ⟨v17, h3, h⟩ := bindE h
      refine Sys.to [((2, 3), .b true), ((4, 2), .ix), ((4, 4), .cell (cInt v17.inner))] 100006 (.at [1, 0, 0, 1, 1, 0]) ⟨fl [(0, .c (eSl p0)), (3, dInt v3), (4, apf ([v17.inner] : List Int)), (5, dInt 0)], ⟨[], []⟩⟩ (And.intro (h1) (And.intro (atI_b h3) (cell_at 1 (c := cInt v17.inner) rfl (atI_g h3)))) (by kernel_rfl) ?_
      obtain ⟨o_5, g6, h⟩ := bindE h
      have h6 := vigilref13_Round_L6_2_ok p0 v3 n n ([v17.inner] : List Int) 0 _ g6
      cases o_5 with
      | r =>
        dsimp only at h
        have hr := Option.some.inj h
        subst hr
        exact Sys.endX [((6, 1000), .code .ret ⟨fl [(2, dB true)], ⟨[], []⟩⟩)] (Sys.Loop.goM (h6 ⟨fl [(0, .c (eSl p0)), (3, dInt v3), (4, apf ([v17.inner] : List Int)), (5, dInt 0)], ⟨[], []⟩⟩ (by kernel_rfl)) (by kernel_rfl)) rfl (by kernel_rfl)
      | e2 v4_3 v5_2 =>
        dsimp only at h
        by_cases h8 : InR (v3 + 1)
        case neg => exact absurd (iteF h8 h) (by simp)
        replace h := iteT h8 h
        refine Sys.to [((6, 1000), .code (.exit 2) ⟨fl [(0, .c (eSl p0)), (3, dInt v3), (4, apf v4_3), (5, dInt v5_2), (24, dB false)], ⟨[], []⟩⟩), ((3, 1), .n)] 999999 (.fin .normal) ⟨fl [(0, .c (eSl p0)), (3, dInt (v3 + 1))], ⟨[], []⟩⟩ (And.intro (Sys.Loop.goM (h6 ⟨fl [(0, .c (eSl p0)), (3, dInt v3), (4, apf ([v17.inner] : List Int)), (5, dInt 0)], ⟨[], []⟩⟩ (by kernel_rfl)) (by kernel_rfl)) (h8)) (by kernel_rfl) ?_
        exact Sys.fin (.inl ⟨rfl, ⟨fl [(0, .c (eSl p0)), (3, dInt (v3 + 1))], ⟨[], []⟩⟩, (by kernel_rfl), ih (v3 + 1) _ h _ (by kernel_rfl)⟩)
    · replace h := iteF h1 h
      have hr := Option.some.inj h
      subst hr
      exact Sys.endX [((2, 3), .b false)] (h1) rfl (by kernel_rfl)

def vigilref13_Round (n : Nat) (p0 : Sl GNest) : Option Bool :=
  (vigilref13_Round_L2 p0 n n 0).bind fun o_6 => match o_6 with
  | .r =>
    some true
  | .e0 v3_2 =>
    some false
theorem vigilref13_Round_ok {n : Nat} {p0 : Sl GNest} {r : Bool} (h : vigilref13_Round n p0 = some r) : X.RunsC 17 [.c (eSl p0)] (dB r) := by
  unfold vigilref13_Round at h
  refine Sys.callC' (fn := Try.f17) (b := b17) (by kernel_rfl) (by kernel_rfl) ?_
  obtain ⟨o_6, g3, h⟩ := bindE h
  have h3 := vigilref13_Round_L2_ok p0 n n 0 _ g3
  cases o_6 with
  | r =>
    dsimp only at h
    have hr := Option.some.inj h
    subst hr
    exact Sys.endC [((2, 1000), .code .ret ⟨fl [(2, dB true)], ⟨[], []⟩⟩)] (Sys.Loop.goM (h3 ⟨fl [(0, .c (eSl p0)), (3, dInt 0)], ⟨[], []⟩⟩ (by kernel_rfl)) (by kernel_rfl)) (by kernel_rfl)
  | e0 v3_2 =>
    dsimp only at h
    have hr := Option.some.inj h
    subst hr
    exact Sys.endC [((2, 1000), .code (.exit 0) ⟨fl [(0, .c (eSl p0)), (3, dInt v3_2), (12, dB false)], ⟨[], []⟩⟩)] (Sys.Loop.goM (h3 ⟨fl [(0, .c (eSl p0)), (3, dInt 0)], ⟨[], []⟩⟩ (by kernel_rfl)) (by kernel_rfl)) (by kernel_rfl)
end Go.Proofs.Ytkfmoodaplelnaa

/-
  Functions of the program as Lean functions, and that the interpreter comes to the same: printed by the session's own tool.
-/
set_option linter.unusedVariables false
set_option linter.unusedSimpArgs false
set_option maxRecDepth 100000
set_option maxHeartbeats 1000000
namespace Go.Proofs.Ytkfmoodaplelnaa
open Go Go.Abs Go.Proofs
variable [Kn]
inductive vigillaw13_HeldNests_J1O where
  | r (v6 : Bool)
  | m
def vigillaw13_HeldNests_J1x : vigillaw13_HeldNests_J1O → Ex
  | .r _ => .ret
  | .m => .normal
def vigillaw13_HeldNests_J1s (p0 : GFlow) (p1 : Int) (p2 : Sl GNest) : vigillaw13_HeldNests_J1O → S
  | .r v6 => ⟨fl [(6, dB v6)], ⟨[⟨1, (EncX.encX p0).map DV.c⟩], []⟩⟩
  | .m => ⟨fl [(1, dInt p1), (2, .c (eSl p2)), (3, .pt 0 1 0), (25, dB false)], ⟨[⟨1, (EncX.encX p0).map DV.c⟩], []⟩⟩
def vigillaw13_HeldNests_J1 (p0 : GFlow) (p1 : Int) (p2 : Sl GNest) (n : Nat) : Option vigillaw13_HeldNests_J1O :=
  if (p0.edges.l.length : Int) > 100 then
    (Kn.lv).bind fun x =>
    some (.r x)
  else if p0.locs > 100 then
    if p0.locs ≤ 600 then
      (Kn.lv).bind fun x_2 =>
      some (.r x_2)
    else if (p2.l.length : Int) > 100 then
      (Kn.lv).bind fun x_3 =>
      some (.r x_3)
    else some (.m)
  else if (p2.l.length : Int) > 100 then
    (Kn.lv).bind fun x_4 =>
    some (.r x_4)
  else some (.m)
theorem vigillaw13_HeldNests_J1_ok (p0 : GFlow) (p1 : Int) (p2 : Sl GNest) (n : Nat) (o : vigillaw13_HeldNests_J1O) (h : vigillaw13_HeldNests_J1 p0 p1 p2 n = some o) : X.Go 4 46 [] (sub b4 [1, 0]) ⟨fl [(1, dInt p1), (2, .c (eSl p2)), (3, .pt 0 1 0)], ⟨[⟨1, (EncX.encX p0).map DV.c⟩], []⟩⟩ (vigillaw13_HeldNests_J1x o) (vigillaw13_HeldNests_J1s p0 p1 p2 o) := by
  unfold vigillaw13_HeldNests_J1 at h
  refine Sys.goE ?_
  by_cases h1 : (p0.edges.l.length : Int) > 100
  · replace h := iteT h1 h
    obtain ⟨x, g3, h⟩ := bindE h
    have h3 := Kn.lvok g3
    have hr := Option.some.inj h
    subst hr
    exact Sys.endJ [((1, 3), .b true), ((2, 0), .op { d := dB x })] (And.intro (h1) ((h3 [⟨1, (EncX.encX p0).map DV.c⟩]))) (by kernel_rfl)
  · replace h := iteF h1 h
    by_cases h2 : p0.locs > 100
    · replace h := iteT h2 h
      by_cases h3 : p0.locs ≤ 600
      · replace h := iteT h3 h
        obtain ⟨x_2, g5, h⟩ := bindE h
        have h5 := Kn.lvok g5
        have hr := Option.some.inj h
        subst hr
        exact Sys.endJ [((1, 3), .b false), ((1, 7), .b true), ((1, 11), .b true), ((2, 0), .op { d := dB x_2 })] (And.intro (h1) (And.intro (h2) (And.intro (h3) ((h5 [⟨1, (EncX.encX p0).map DV.c⟩]))))) (by kernel_rfl)
      · replace h := iteF h3 h
        by_cases h4 : (p2.l.length : Int) > 100
        · replace h := iteT h4 h
          obtain ⟨x_3, g6, h⟩ := bindE h
          have h6 := Kn.lvok g6
          have hr := Option.some.inj h
          subst hr
          exact Sys.endJ [((1, 3), .b false), ((1, 7), .b true), ((1, 11), .b false), ((1, 17), .b true), ((2, 0), .op { d := dB x_3 })] (And.intro (h1) (And.intro (h2) (And.intro (h3) (And.intro (h4) ((h6 [⟨1, (EncX.encX p0).map DV.c⟩])))))) (by kernel_rfl)
        · replace h := iteF h4 h
          have hr := Option.some.inj h
          subst hr
          exact Sys.endJ [((1, 3), .b false), ((1, 7), .b true), ((1, 11), .b false), ((1, 17), .b false)] (And.intro (h1) (And.intro (h2) (And.intro (h3) (h4)))) (by kernel_rfl)
    · replace h := iteF h2 h
      by_cases h3 : (p2.l.length : Int) > 100
      · replace h := iteT h3 h
        obtain ⟨x_4, g5, h⟩ := bindE h
        have h5 := Kn.lvok g5
        have hr := Option.some.inj h
        subst hr
        exact Sys.endJ [((1, 3), .b false), ((1, 7), .b false), ((1, 17), .b true), ((2, 0), .op { d := dB x_4 })] (And.intro (h1) (And.intro (h2) (And.intro (h3) ((h5 [⟨1, (EncX.encX p0).map DV.c⟩]))))) (by kernel_rfl)
      · replace h := iteF h3 h
        have hr := Option.some.inj h
        subst hr
        exact Sys.endJ [((1, 3), .b false), ((1, 7), .b false), ((1, 17), .b false)] (And.intro (h1) (And.intro (h2) (h3))) (by kernel_rfl)

def vigillaw13_HeldNests (n : Nat) (p0 : GFlow) (p1 : Int) (p2 : Sl GNest) : Option Bool :=
  (vigillaw13_HeldNests_J1 p0 p1 p2 n).bind fun o_2 => match o_2 with
  | .r v6 =>
    some v6
  | .m =>
    (held_Nests n p0 p1).bind fun x_5 =>
    (vigilref13_Nests n p0 p1).bind fun x_6 =>
    (vigilref13_All n x_5 (Sl.gr x_6)).bind fun x_7 =>
    bif x_7 then
      if Room 16 (([] : List GNest) ++ p2.l).length then (held_Round n (⟨false, false, (([] : List GNest) ++ p2.l)⟩ : Sl GNest)).bind fun x_8 =>
      (vigilref13_Round n p2).bind fun x_9 =>
      bif x_8 then
        bif x_9 then
          (Kn.lv).bind fun x_10 =>
          some x_10
        else some false
      else bif x_9 then
        some false
      else (Kn.lv).bind fun x_11 =>
      some x_11
      else none
    else some false
theorem vigillaw13_HeldNests_ok {n : Nat} {p0 : GFlow} {p1 : Int} {p2 : Sl GNest} {r : Bool} (h : vigillaw13_HeldNests n p0 p1 p2 = some r) : X.RunsC 4 [.c (.agg (EncX.encX p0)), dInt p1, .c (eSl p2)] (dB r) := by
  unfold vigillaw13_HeldNests at h
  refine Sys.callC' (fn := Try.f4) (b := b4) (by kernel_rfl) (by kernel_rfl) ?_
  refine Sys.to [] 201001 (.at [1, 0]) ⟨fl [(1, dInt p1), (2, .c (eSl p2)), (3, .pt 0 1 0)], ⟨[⟨1, (EncX.encX p0).map DV.c⟩], []⟩⟩ (True.intro) (by kernel_rfl) ?_
  obtain ⟨o_2, g2, h⟩ := bindE h
  have h2 := vigillaw13_HeldNests_J1_ok p0 p1 p2 n _ g2
  cases o_2 with
  | r v6 =>
    dsimp only at h
    refine Sys.over h2 ?_
    have hr := Option.some.inj h
    subst hr
    exact Sys.endC [] (True.intro) (by kernel_rfl)
  | m =>
    dsimp only at h
    refine Sys.over h2 ?_
    obtain ⟨x_5, g4, h⟩ := bindE h
    have h4 := held_Nests_ok g4
    obtain ⟨x_6, g5, h⟩ := bindE h
    have h5 := vigilref13_Nests_ok g5
    obtain ⟨x_7, g6, h⟩ := bindE h
    have h6 := vigilref13_All_ok g6
    cases x_7 with
    | true =>
      replace h := condT h
      by_cases h8 : Room 16 (([] : List GNest) ++ p2.l).length
      case neg => exact absurd (iteF h8 h) (by simp)
      replace h := iteT h8 h
      obtain ⟨x_8, g9, h⟩ := bindE h
      have h9 := held_Round_ok g9
      obtain ⟨x_9, g10, h⟩ := bindE h
      have h10 := vigilref13_Round_ok g10
      cases x_8 with
      | true =>
        replace h := condT h
        cases x_9 with
        | true =>
          replace h := condT h
          obtain ⟨x_10, g13, h⟩ := bindE h
          have h13 := Kn.lvok g13
          have hr := Option.some.inj h
          subst hr
          exact Sys.endC [((3, 2), .call (.c (eSl x_5)) ⟨[], []⟩), ((3, 5), .call (apl x_6) ⟨[], []⟩), ((3, 6), .call (dB true) ⟨[], []⟩), ((3, 10), .appF false (cells (([] : List GNest) ++ p2.l)) (([] : List GNest) ++ p2.l).length), ((3, 11), .call (dB true) ⟨[], []⟩), ((3, 13), .call (dB true) ⟨[], []⟩), ((3, 14), .op { d := dB true }), ((3, 17), .op { d := dB x_10 })] (And.intro (h4) (And.intro (h5) (And.intro (h6) (And.intro (apf_sl ([] : List GNest) p2.l (b := 16) (by decide) h8) (And.intro (h9) (And.intro (h10) (And.intro (bool_eql (P := X.P) (t := 4) true true (by kernel_rfl) (by kernel_rfl)) ((h13 [⟨1, (EncX.encX p0).map DV.c⟩]))))))))) (by kernel_rfl)
        | false =>
          replace h := condF h
          have hr := Option.some.inj h
          subst hr
          exact Sys.endC [((3, 2), .call (.c (eSl x_5)) ⟨[], []⟩), ((3, 5), .call (apl x_6) ⟨[], []⟩), ((3, 6), .call (dB true) ⟨[], []⟩), ((3, 10), .appF false (cells (([] : List GNest) ++ p2.l)) (([] : List GNest) ++ p2.l).length), ((3, 11), .call (dB true) ⟨[], []⟩), ((3, 13), .call (dB false) ⟨[], []⟩), ((3, 14), .op { d := dB false })] (And.intro (h4) (And.intro (h5) (And.intro (h6) (And.intro (apf_sl ([] : List GNest) p2.l (b := 16) (by decide) h8) (And.intro (h9) (And.intro (h10) (bool_eql (P := X.P) (t := 4) true false (by kernel_rfl) (by kernel_rfl)))))))) (by kernel_rfl)
      | false =>
        replace h := condF h
        cases x_9 with
        | true =>
          replace h := condT h
          have hr := Option.some.inj h
          subst hr
          exact Sys.endC [((3, 2), .call (.c (eSl x_5)) ⟨[], []⟩), ((3, 5), .call (apl x_6) ⟨[], []⟩), ((3, 6), .call (dB true) ⟨[], []⟩), ((3, 10), .appF false (cells (([] : List GNest) ++ p2.l)) (([] : List GNest) ++ p2.l).length), ((3, 11), .call (dB false) ⟨[], []⟩), ((3, 13), .call (dB true) ⟨[], []⟩), ((3, 14), .op { d := dB false })] (And.intro (h4) (And.intro (h5) (And.intro (h6) (And.intro (apf_sl ([] : List GNest) p2.l (b := 16) (by decide) h8) (And.intro (h9) (And.intro (h10) (bool_eql (P := X.P) (t := 4) false true (by kernel_rfl) (by kernel_rfl)))))))) (by kernel_rfl)
        | false =>
          replace h := condF h
          obtain ⟨x_11, g13, h⟩ := bindE h
          have h13 := Kn.lvok g13
          have hr := Option.some.inj h
          subst hr
          exact Sys.endC [((3, 2), .call (.c (eSl x_5)) ⟨[], []⟩), ((3, 5), .call (apl x_6) ⟨[], []⟩), ((3, 6), .call (dB true) ⟨[], []⟩), ((3, 10), .appF false (cells (([] : List GNest) ++ p2.l)) (([] : List GNest) ++ p2.l).length), ((3, 11), .call (dB false) ⟨[], []⟩), ((3, 13), .call (dB false) ⟨[], []⟩), ((3, 14), .op { d := dB true }), ((3, 17), .op { d := dB x_11 })] (And.intro (h4) (And.intro (h5) (And.intro (h6) (And.intro (apf_sl ([] : List GNest) p2.l (b := 16) (by decide) h8) (And.intro (h9) (And.intro (h10) (And.intro (bool_eql (P := X.P) (t := 4) false false (by kernel_rfl) (by kernel_rfl)) ((h13 [⟨1, (EncX.encX p0).map DV.c⟩]))))))))) (by kernel_rfl)
    | false =>
      replace h := condF h
      have hr := Option.some.inj h
      subst hr
      exact Sys.endC [((3, 2), .call (.c (eSl x_5)) ⟨[], []⟩), ((3, 5), .call (apl x_6) ⟨[], []⟩), ((3, 6), .call (dB false) ⟨[], []⟩)] (And.intro (h4) (And.intro (h5) (h6))) (by kernel_rfl)
end Go.Proofs.Ytkfmoodaplelnaa
