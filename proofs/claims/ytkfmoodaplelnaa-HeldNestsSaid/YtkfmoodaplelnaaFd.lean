/-
  Functions of the program as Lean functions, and that the interpreter comes to the same: printed by the session's own tool.
-/
import Derived.Test.YtkfmoodaplelnaaFc
set_option linter.unusedVariables false
set_option linter.unusedSimpArgs false
set_option maxRecDepth 100000
set_option maxHeartbeats 1000000
namespace Go.Proofs.Ytkfmoodaplelnaa
open Go Go.Abs Go.Proofs
variable [Kn]
def held_find_c1 (p0 : GFlow) : List DV := [.c (.sc (.string p0.name)), dB p0.star, dInt p0.locs, .c (eSl p0.edges), .c (eSl p0.guards), .ms 1 1 0 p0.locs.toNat 1 true, .mp 2 1, .c (.sl false true (cellsX ([0] : List Int)) 1)]
def held_find_c2 (p0 : GFlow) : List DV := [.c (.sc (.string p0.name)), dB p0.star, dInt p0.locs, .c (eSl p0.edges), .c (eSl p0.guards)]
def held_find_c3 (p0 : GFlow) (y3 : Rs Int) : List DV := [.c (.sc (.string p0.name)), dB p0.star, dInt p0.locs, .c (eSl p0.edges), .c (eSl p0.guards), .ms 1 1 0 p0.locs.toNat 1 true, .mp 2 1, rsl y3]
def held_find_c4 (p0 : GFlow) (o3_7 : Rs Int) : List DV := [.c (.sc (.string p0.name)), dB p0.star, dInt p0.locs, .c (eSl p0.edges), .c (eSl p0.guards), .ms 1 1 0 p0.locs.toNat 1 true, .mp 2 1, rsl o3_7]
def held_find_c5 (p0 : GFlow) (o3_7_2 : Rs Int) : List DV := [.c (.sc (.string p0.name)), dB p0.star, dInt p0.locs, .c (eSl p0.edges), .c (eSl p0.guards), .ms 1 1 0 p0.locs.toNat 1 true, .mp 2 1, rsl o3_7_2]
def held_find_c6 (p0 : GFlow) (o3_7_3 : Rs Int) : List DV := [.c (.sc (.string p0.name)), dB p0.star, dInt p0.locs, .c (eSl p0.edges), .c (eSl p0.guards), .ms 1 1 0 p0.locs.toNat 1 true, .mp 2 1, rsl o3_7_3]
def held_find_c7 (p0 : GFlow) (o3_7_13 : Rs Int) : List DV := [.c (.sc (.string p0.name)), dB p0.star, dInt p0.locs, .c (eSl p0.edges), .c (eSl p0.guards), .ms 1 1 0 p0.locs.toNat 1 true, .mp 2 1, rsl o3_7_13]
def held_find_c8 (p0 : GFlow) (o3_7' : Rs Int) : List DV := [.c (.sc (.string p0.name)), dB p0.star, dInt p0.locs, .c (eSl p0.edges), .c (eSl p0.guards), .ms 1 1 0 p0.locs.toNat 1 true, .mp 2 1, rsl o3_7']
def held_find_c9 (p0 : GFlow) (o3_7_4 : Rs Int) : List DV := [.c (.sc (.string p0.name)), dB p0.star, dInt p0.locs, .c (eSl p0.edges), .c (eSl p0.guards), .ms 1 1 0 p0.locs.toNat 1 true, .mp 2 1, rsl o3_7_4]
def held_find_c10 (p0 : GFlow) (o3_7_5 : Rs Int) : List DV := [.c (.sc (.string p0.name)), dB p0.star, dInt p0.locs, .c (eSl p0.edges), .c (eSl p0.guards), .ms 1 1 0 p0.locs.toNat 1 true, .mp 2 1, rsl o3_7_5]
inductive held_find_L5O where
  | e0 (v29 : Int) (o1 : List (Rs Int))
def held_find_L5x : held_find_L5O → Ex
  | .e0 _ _ => (.exit 0)
def held_find_L5s (p0 : GFlow) : held_find_L5O → S
  | .e0 v29 o1 => ⟨fl [(2, .pt 0 1 0), (6, .pt 3 1 0), (27, .c (eSl p0.edges)), (28, dInt (p0.edges.l.length : Int)), (29, dInt v29), (30, dB false)], ⟨[⟨1, (EncX.encX p0).map DV.c⟩, ⟨1, rcells o1⟩, mkOb 1 (.map (encM (putM ([] : List (Int × Held_owned)) (0 : Int) ({ a0 := 0, a1 := 0, a2 := 0, a3 := 0, a4 := 0, a5 := 0, a6 := 0, a7 := 0 } : Held_owned)))), ⟨1, (held_find_c1 p0)⟩], []⟩⟩
def held_find_L5 (p0 : GFlow) (n : Nat) : Nat → Int → List (Rs Int) → Option held_find_L5O
  | 0, _, _ => none
  | k + 1, v29, o1 =>
    if v29 < (p0.edges.l.length : Int) then
      (atI p0.edges.l v29).bind fun v32 =>
      if 0 ≤ v32.from_ ∧ v32.from_ < (p0.locs.toNat : Int) then (atI o1 v32.from_).bind fun w1 =>
      if w1.k = true then
        if Room 8 (w1.l ++ ([v29] : List Int)).length then if InR (v29 + 1) then held_find_L5 p0 n k (v29 + 1) (o1.set v32.from_.toNat ⟨false, (w1.l ++ ([v29] : List Int))⟩)
        else none
        else none
      else if Room 8 (w1.l ++ ([v29] : List Int)).length then if InR (v29 + 1) then held_find_L5 p0 n k (v29 + 1) (o1.set v32.from_.toNat ⟨false, (w1.l ++ ([v29] : List Int))⟩)
      else none
      else none
      else none
    else some (.e0 v29 o1)
theorem held_find_L5_ok (p0 : GFlow) (n : Nat) : ∀ (k : Nat) (v29 : Int) (o1 : List (Rs Int)) (o : held_find_L5O), held_find_L5 p0 n k v29 o1 = some o → ∀ s : S, restrS (X.an.rs 19 5) s = ⟨fl [(2, .pt 0 1 0), (6, .pt 3 1 0), (27, .c (eSl p0.edges)), (28, dInt (p0.edges.l.length : Int)), (29, dInt v29)], ⟨[⟨1, (EncX.encX p0).map DV.c⟩, ⟨1, rcells o1⟩, mkOb 1 (.map (encM (putM ([] : List (Int × Held_owned)) (0 : Int) ({ a0 := 0, a1 := 0, a2 := 0, a3 := 0, a4 := 0, a5 := 0, a6 := 0, a7 := 0 } : Held_owned)))), ⟨1, (held_find_c1 p0)⟩], []⟩⟩ → X.Loop 19 90 [] (sub b19 [1, 1, 1, 0, 1, 0, 0]) 4 s (held_find_L5x o) (held_find_L5s p0 o) := by
  intro k
  induction k with
  | zero => intro v29 o1 o h s hs; unfold held_find_L5 at h; cases h
  | succ k ih =>
    intro v29 o1 o h s hs
    unfold held_find_L5 at h
    refine Sys.loopQ hs ?_
    by_cases h1 : v29 < (p0.edges.l.length : Int)
    · replace h := iteT h1 h
      obtain ⟨v32, h3, h⟩ := bindE h
      by_cases h5 : 0 ≤ v32.from_ ∧ v32.from_ < (p0.locs.toNat : Int)
      case neg => exact absurd (iteF h5 h) (by simp)
      replace h := iteT h5 h
      obtain ⟨w1, h6, h⟩ := bindE h
      refine Sys.to [((5, 0), .b true), ((6, 1), .ix), ((6, 2), .agg (EncX.encX v32))] 7 (.at [1, 1, 0, 0, 1]) ⟨fl [(2, .pt 0 1 0), (6, .pt 3 1 0), (7, dInt v29), (8, .pt 4 1 0), (27, .c (eSl p0.edges)), (28, dInt (p0.edges.l.length : Int)), (29, dInt v29)], ⟨[⟨1, (EncX.encX p0).map DV.c⟩, ⟨1, rcells o1⟩, mkOb 1 (.map (encM (putM ([] : List (Int × Held_owned)) (0 : Int) ({ a0 := 0, a1 := 0, a2 := 0, a3 := 0, a4 := 0, a5 := 0, a6 := 0, a7 := 0 } : Held_owned)))), ⟨1, (held_find_c1 p0)⟩, ⟨1, (EncX.encX v32).map DV.c⟩], []⟩⟩ (And.intro (h1) (And.intro (atI_b h3) (span_at 0 15 (by decide) (atI_g h3)))) (by kernel_rfl) ?_
      by_cases h7 : w1.k = true
      · replace h := iteT h7 h
        by_cases h8 : Room 8 (w1.l ++ ([v29] : List Int)).length
        case neg => exact absurd (iteF h8 h) (by simp)
        replace h := iteT h8 h
        by_cases h10 : InR (v29 + 1)
        case neg => exact absurd (iteF h10 h) (by simp)
        replace h := iteT h10 h
        refine Sys.to [((7, 12), .ix), ((7, 13), .lmv (.c (.sl w1.l.isEmpty true (cells w1.l) w1.l.length)) (rcells o1)), ((7, 16), .app (cells (w1.l ++ ([v29] : List Int))) (w1.l ++ ([v29] : List Int)).length), ((7, 17), .ix), ((7, 18), .st (rcells (o1.set v32.from_.toNat ⟨false, (w1.l ++ ([v29] : List Int))⟩))), ((8, 0), .n)] 999999 (.fin .normal) ⟨fl [(2, .pt 0 1 0), (6, .pt 3 1 0), (27, .c (eSl p0.edges)), (28, dInt (p0.edges.l.length : Int)), (29, dInt (v29 + 1))], ⟨[⟨1, (EncX.encX p0).map DV.c⟩, ⟨1, rcells (o1.set v32.from_.toNat ⟨false, (w1.l ++ ([v29] : List Int))⟩)⟩, mkOb 1 (.map (encM (putM ([] : List (Int × Held_owned)) (0 : Int) ({ a0 := 0, a1 := 0, a2 := 0, a3 := 0, a4 := 0, a5 := 0, a6 := 0, a7 := 0 } : Held_owned)))), ⟨1, (held_find_c1 p0)⟩, ⟨1, (EncX.encX v32).map DV.c⟩], []⟩⟩ (And.intro (h5) (And.intro (And.intro (rfl : (1 : Nat) = 1) (lmv_t (atI_g h6) h7)) (And.intro (apx_lit w1.l ([v29] : List Int) (by simp) (b := 8) (by decide) h8) (And.intro (h5) (And.intro (And.intro (rfl : (1 : Nat) = 1) (rst_1 (atI_g h6) (w1.l ++ ([v29] : List Int)))) (h10)))))) (by kernel_rfl) ?_
        exact Sys.fin (.inl ⟨rfl, ⟨fl [(2, .pt 0 1 0), (6, .pt 3 1 0), (27, .c (eSl p0.edges)), (28, dInt (p0.edges.l.length : Int)), (29, dInt (v29 + 1))], ⟨[⟨1, (EncX.encX p0).map DV.c⟩, ⟨1, rcells (o1.set v32.from_.toNat ⟨false, (w1.l ++ ([v29] : List Int))⟩)⟩, mkOb 1 (.map (encM (putM ([] : List (Int × Held_owned)) (0 : Int) ({ a0 := 0, a1 := 0, a2 := 0, a3 := 0, a4 := 0, a5 := 0, a6 := 0, a7 := 0 } : Held_owned)))), ⟨1, (held_find_c1 p0)⟩], []⟩⟩, (cut_ok (l := [2, 6, 27, 28, 29]) rfl (AllB.cons rfl (AllB.cons (below_rcells 4 (o1.set v32.from_.toNat ⟨false, (w1.l ++ ([v29] : List Int))⟩)) (AllB.consM (l := (putM ([] : List (Int × Held_owned)) (0 : Int) ({ a0 := 0, a1 := 0, a2 := 0, a3 := 0, a4 := 0, a5 := 0, a6 := 0, a7 := 0 } : Held_owned))) (AllB.cons rfl (AllB.nil 4))))) rfl), ih (v29 + 1) (o1.set v32.from_.toNat ⟨false, (w1.l ++ ([v29] : List Int))⟩) _ h _ (by kernel_rfl)⟩)
      · replace h := iteF h7 h
        by_cases h8 : Room 8 (w1.l ++ ([v29] : List Int)).length
        case neg => exact absurd (iteF h8 h) (by simp)
        replace h := iteT h8 h
        by_cases h10 : InR (v29 + 1)
        case neg => exact absurd (iteF h10 h) (by simp)
        replace h := iteT h10 h
        refine Sys.to [((7, 12), .ix), ((7, 13), .lmv (apf w1.l) ((rcells o1).set v32.from_.toNat (.c (.sl false false (cells w1.l) w1.l.length)))), ((7, 16), .appF false (cells (w1.l ++ ([v29] : List Int))) (w1.l ++ ([v29] : List Int)).length), ((7, 17), .ix), ((7, 18), .st (rcells (o1.set v32.from_.toNat ⟨false, (w1.l ++ ([v29] : List Int))⟩))), ((8, 0), .n)] 999999 (.fin .normal) ⟨fl [(2, .pt 0 1 0), (6, .pt 3 1 0), (27, .c (eSl p0.edges)), (28, dInt (p0.edges.l.length : Int)), (29, dInt (v29 + 1))], ⟨[⟨1, (EncX.encX p0).map DV.c⟩, ⟨1, rcells (o1.set v32.from_.toNat ⟨false, (w1.l ++ ([v29] : List Int))⟩)⟩, mkOb 1 (.map (encM (putM ([] : List (Int × Held_owned)) (0 : Int) ({ a0 := 0, a1 := 0, a2 := 0, a3 := 0, a4 := 0, a5 := 0, a6 := 0, a7 := 0 } : Held_owned)))), ⟨1, (held_find_c1 p0)⟩, ⟨1, (EncX.encX v32).map DV.c⟩], []⟩⟩ (And.intro (h5) (And.intro (And.intro (rfl : (1 : Nat) = 1) (lmv_f (atI_g h6) h7)) (And.intro (apf_lit w1.l ([v29] : List Int) (b := 8) (by decide) h8) (And.intro (h5) (And.intro (And.intro (rfl : (1 : Nat) = 1) (rst_2 (atI_g h6) (.c (.sl false false (cells w1.l) w1.l.length)) (w1.l ++ ([v29] : List Int)))) (h10)))))) (by kernel_rfl) ?_
        exact Sys.fin (.inl ⟨rfl, ⟨fl [(2, .pt 0 1 0), (6, .pt 3 1 0), (27, .c (eSl p0.edges)), (28, dInt (p0.edges.l.length : Int)), (29, dInt (v29 + 1))], ⟨[⟨1, (EncX.encX p0).map DV.c⟩, ⟨1, rcells (o1.set v32.from_.toNat ⟨false, (w1.l ++ ([v29] : List Int))⟩)⟩, mkOb 1 (.map (encM (putM ([] : List (Int × Held_owned)) (0 : Int) ({ a0 := 0, a1 := 0, a2 := 0, a3 := 0, a4 := 0, a5 := 0, a6 := 0, a7 := 0 } : Held_owned)))), ⟨1, (held_find_c1 p0)⟩], []⟩⟩, (cut_ok (l := [2, 6, 27, 28, 29]) rfl (AllB.cons rfl (AllB.cons (below_rcells 4 (o1.set v32.from_.toNat ⟨false, (w1.l ++ ([v29] : List Int))⟩)) (AllB.consM (l := (putM ([] : List (Int × Held_owned)) (0 : Int) ({ a0 := 0, a1 := 0, a2 := 0, a3 := 0, a4 := 0, a5 := 0, a6 := 0, a7 := 0 } : Held_owned))) (AllB.cons rfl (AllB.nil 4))))) rfl), ih (v29 + 1) (o1.set v32.from_.toNat ⟨false, (w1.l ++ ([v29] : List Int))⟩) _ h _ (by kernel_rfl)⟩)
    · replace h := iteF h1 h
      have hr := Option.some.inj h
      subst hr
      exact Sys.endX [((5, 0), .b false)] (h1) rfl (by kernel_rfl)

inductive held_find_L13_2O where
  | r (o2' : List (Int × Held_owned)) (o3_7' : Rs Int)
  | e4 (v76 : Int) (o2' : List (Int × Held_owned)) (o3_7' : Rs Int)
def held_find_L13_2x : held_find_L13_2O → Ex
  | .r _ _ => .ret
  | .e4 _ _ _ => (.exit 4)
def held_find_L13_2s (p0 : GFlow) (o1_2 : List (Rs Int)) (v9 : Int) (w1_2 : Rs Int) : held_find_L13_2O → S
  | .r o2' o3_7' => ⟨fl [(4, .c (.sc (.pointer none))), (5, dB false)], ⟨[⟨1, (held_find_c2 p0)⟩, ⟨1, rcells o1_2⟩, mkOb 1 (.map (encM o2')), ⟨1, (held_find_c8 p0 o3_7')⟩], []⟩⟩
  | .e4 v76 o2' o3_7' => ⟨fl [(2, .pt 0 1 0), (6, .pt 3 1 0), (9, dInt v9), (74, .c (eSl (Rs.sl w1_2))), (75, dInt ((Rs.sl w1_2).l.length : Int)), (76, dInt v76), (77, dB false)], ⟨[⟨1, (EncX.encX p0).map DV.c⟩, ⟨1, rcells o1_2⟩, mkOb 1 (.map (encM o2')), ⟨1, (held_find_c8 p0 o3_7')⟩], []⟩⟩
def held_find_L13_2 (p0 : GFlow) (o1_2 : List (Rs Int)) (v9 : Int) (w1_2 : Rs Int) (n : Nat) : Nat → Int → List (Int × Held_owned) → Rs Int → Option held_find_L13_2O
  | 0, _, _, _ => none
  | k + 1, v76, o2_13, o3_7_13 =>
    if v76 < ((Rs.sl w1_2).l.length : Int) then
      (atI ((Rs.sl w1_2).l) v76).bind fun v78 =>
      (atI p0.edges.l v78).bind fun v84 =>
      (held_finder_reach n v84 p0.name p0.star p0.locs p0.edges p0.guards o1_2 o2_13 p0.name p0.star p0.locs p0.edges p0.guards o3_7_13 p0.locs.toNat).bind fun (x_2, y2, y3) =>
      bif x_2 then
        if InR (v76 + 1) then held_find_L13_2 p0 o1_2 v9 w1_2 n k (v76 + 1) y2 y3
        else none
      else some (.r y2 y3)
    else some (.e4 v76 o2_13 o3_7_13)
theorem held_find_L13_2_ok (p0 : GFlow) (o1_2 : List (Rs Int)) (v9 : Int) (w1_2 : Rs Int) (n : Nat) : ∀ (k : Nat) (v76 : Int) (o2_13 : List (Int × Held_owned)) (o3_7_13 : Rs Int) (o : held_find_L13_2O), held_find_L13_2 p0 o1_2 v9 w1_2 n k v76 o2_13 o3_7_13 = some o → ∀ s : S, restrS (X.an.rs 19 13) s = ⟨fl [(2, .pt 0 1 0), (6, .pt 3 1 0), (9, dInt v9), (74, .c (eSl (Rs.sl w1_2))), (75, dInt ((Rs.sl w1_2).l.length : Int)), (76, dInt v76)], ⟨[⟨1, (EncX.encX p0).map DV.c⟩, ⟨1, rcells o1_2⟩, mkOb 1 (.map (encM o2_13)), ⟨1, (held_find_c7 p0 o3_7_13)⟩], []⟩⟩ → X.Loop 19 90 [] (sub b19 [1, 1, 1, 1, 0, 1, 0, 0, 1, 0, 0, 1, 0, 0]) 4 s (held_find_L13_2x o) (held_find_L13_2s p0 o1_2 v9 w1_2 o) := by
  intro k
  induction k with
  | zero => intro v76 o2_13 o3_7_13 o h s hs; unfold held_find_L13_2 at h; cases h
  | succ k ih =>
    intro v76 o2_13 o3_7_13 o h s hs
    unfold held_find_L13_2 at h
    refine Sys.loopQ hs ?_
    by_cases h1 : v76 < ((Rs.sl w1_2).l.length : Int)
    · replace h := iteT h1 h
      obtain ⟨v78, h3, h⟩ := bindE h
      obtain ⟨v84, h5, h⟩ := bindE h
      obtain ⟨⟨x_2, y2, y3⟩, g6, h⟩ := bindE h
      dsimp only at h
      have h6 := held_finder_reach_ok g6
      refine Sys.to [((13, 0), .b true), ((14, 0), .ix), ((14, 1), .cell (cInt v78))] 15 (.at [1, 1, 0, 0, 1, 0]) ⟨fl [(2, .pt 0 1 0), (6, .pt 3 1 0), (9, dInt v9), (11, dInt v78), (74, .c (eSl (Rs.sl w1_2))), (75, dInt ((Rs.sl w1_2).l.length : Int)), (76, dInt v76)], ⟨[⟨1, (EncX.encX p0).map DV.c⟩, ⟨1, rcells o1_2⟩, mkOb 1 (.map (encM o2_13)), ⟨1, (held_find_c7 p0 o3_7_13)⟩], []⟩⟩ (And.intro (h1) (And.intro (atI_b h3) (cell_at 0 (c := cInt v78) rfl (atI_g h3)))) (by kernel_rfl) ?_
      cases x_2 with
      | true =>
        replace h := condT h
        by_cases h9 : InR (v76 + 1)
        case neg => exact absurd (iteF h9 h) (by simp)
        replace h := iteT h9 h
        refine Sys.to [((15, 4), .ix), ((15, 5), .agg (EncX.encX v84)), ((15, 6), .call (dB true) ⟨[⟨1, (held_find_c2 p0)⟩, ⟨1, rcells o1_2⟩, mkOb 1 (.map (encM y2)), ⟨1, (held_find_c3 p0 y3)⟩], []⟩), ((17, 0), .n)] 999999 (.fin .normal) ⟨fl [(2, .pt 0 1 0), (6, .pt 3 1 0), (9, dInt v9), (74, .c (eSl (Rs.sl w1_2))), (75, dInt ((Rs.sl w1_2).l.length : Int)), (76, dInt (v76 + 1))], ⟨[⟨1, (held_find_c2 p0)⟩, ⟨1, rcells o1_2⟩, mkOb 1 (.map (encM y2)), ⟨1, (held_find_c3 p0 y3)⟩], []⟩⟩ (And.intro (atI_b h5) (And.intro (span_at 0 15 (by decide) (atI_g h5)) (And.intro (h6) (h9)))) (by kernel_rfl) ?_
        exact Sys.fin (.inl ⟨rfl, ⟨fl [(2, .pt 0 1 0), (6, .pt 3 1 0), (9, dInt v9), (74, .c (eSl (Rs.sl w1_2))), (75, dInt ((Rs.sl w1_2).l.length : Int)), (76, dInt (v76 + 1))], ⟨[⟨1, (held_find_c2 p0)⟩, ⟨1, rcells o1_2⟩, mkOb 1 (.map (encM y2)), ⟨1, (held_find_c3 p0 y3)⟩], []⟩⟩, (cut_ok (l := [2, 6, 9, 74, 75, 76]) rfl (AllB.cons rfl (AllB.cons (below_rcells 4 o1_2) (AllB.consM (l := y2) (AllB.cons (allc_cons rfl (allc_cons rfl (allc_cons rfl (allc_cons rfl (allc_cons rfl (allc_cons rfl (allc_cons rfl (allc_cons (below_rsl 4 y3) (allc_nil 4))))))))) (AllB.nil 4))))) rfl), ih (v76 + 1) y2 y3 _ h _ (by kernel_rfl)⟩)
      | false =>
        replace h := condF h
        have hr := Option.some.inj h
        subst hr
        exact Sys.endX [((15, 4), .ix), ((15, 5), .agg (EncX.encX v84)), ((15, 6), .call (dB false) ⟨[⟨1, (held_find_c2 p0)⟩, ⟨1, rcells o1_2⟩, mkOb 1 (.map (encM y2)), ⟨1, (held_find_c3 p0 y3)⟩], []⟩)] (And.intro (atI_b h5) (And.intro (span_at 0 15 (by decide) (atI_g h5)) (h6))) rfl (by kernel_rfl)
    · replace h := iteF h1 h
      have hr := Option.some.inj h
      subst hr
      exact Sys.endX [((13, 0), .b false)] (h1) rfl (by kernel_rfl)

inductive held_find_L10O where
  | r (o2 : List (Int × Held_owned)) (o3_7 : Rs Int)
  | e2 (v9 : Int) (o2 : List (Int × Held_owned)) (o3_7 : Rs Int)
def held_find_L10x : held_find_L10O → Ex
  | .r _ _ => .ret
  | .e2 _ _ _ => (.exit 2)
def held_find_L10s (p0 : GFlow) (o1_2 : List (Rs Int)) : held_find_L10O → S
  | .r o2 o3_7 => ⟨fl [(4, .c (.sc (.pointer none))), (5, dB false)], ⟨[⟨1, (held_find_c2 p0)⟩, ⟨1, rcells o1_2⟩, mkOb 1 (.map (encM o2)), ⟨1, (held_find_c4 p0 o3_7)⟩], []⟩⟩
  | .e2 v9 o2 o3_7 => ⟨fl [(2, .pt 0 1 0), (6, .pt 3 1 0), (9, dInt v9), (59, dB false)], ⟨[⟨1, (EncX.encX p0).map DV.c⟩, ⟨1, rcells o1_2⟩, mkOb 1 (.map (encM o2)), ⟨1, (held_find_c4 p0 o3_7)⟩], []⟩⟩
def held_find_L10 (p0 : GFlow) (o1_2 : List (Rs Int)) (n : Nat) : Nat → Int → List (Int × Held_owned) → Rs Int → Option held_find_L10O
  | 0, _, _, _ => none
  | k + 1, v9, o2, o3_7 =>
    if v9 < ((Rs.sl o3_7).l.length : Int) then
      (atI ((Rs.sl o3_7).l) v9).bind fun v71 =>
      if 0 ≤ v71 ∧ v71 < (p0.locs.toNat : Int) then (atI o1_2 v71).bind fun w1_2 =>
      (held_find_L13_2 p0 o1_2 v9 w1_2 n n 0 o2 o3_7).bind fun o_3 => match o_3 with
      | .r o2_2 o3_7_2 =>
        some (.r o2_2 o3_7_2)
      | .e4 v76_2 o2_3 o3_7_3 =>
        if InR (v9 + 1) then held_find_L10 p0 o1_2 n k (v9 + 1) o2_3 o3_7_3
        else none
      else none
    else some (.e2 v9 o2 o3_7)
theorem held_find_L10_ok (p0 : GFlow) (o1_2 : List (Rs Int)) (n : Nat) : ∀ (k : Nat) (v9 : Int) (o2 : List (Int × Held_owned)) (o3_7 : Rs Int) (o : held_find_L10O), held_find_L10 p0 o1_2 n k v9 o2 o3_7 = some o → ∀ s : S, restrS (X.an.rs 19 10) s = ⟨fl [(2, .pt 0 1 0), (6, .pt 3 1 0), (9, dInt v9)], ⟨[⟨1, (EncX.encX p0).map DV.c⟩, ⟨1, rcells o1_2⟩, mkOb 1 (.map (encM o2)), ⟨1, (held_find_c4 p0 o3_7)⟩], []⟩⟩ → X.Loop 19 90 [] (sub b19 [1, 1, 1, 1, 0, 1, 0, 0]) 4 s (held_find_L10x o) (held_find_L10s p0 o1_2 o) := by
  intro k
  induction k with
  | zero => intro v9 o2 o3_7 o h s hs; unfold held_find_L10 at h; cases h
  | succ k ih =>
    intro v9 o2 o3_7 o h s hs
    unfold held_find_L10 at h
    refine Sys.loopQ hs ?_
    by_cases h1 : v9 < ((Rs.sl o3_7).l.length : Int)
    · replace h := iteT h1 h
      obtain ⟨v71, h3, h⟩ := bindE h
      by_cases h4 : 0 ≤ v71 ∧ v71 < (p0.locs.toNat : Int)
      case neg => exact absurd (iteF h4 h) (by simp)
      replace h := iteT h4 h
      obtain ⟨w1_2, h5, h⟩ := bindE h
      refine Sys.to [((10, 4), .op { d := .c (eSl (Rs.sl o3_7)) }), ((10, 6), .b true), ((12, 7), .op { d := .c (eSl (Rs.sl o3_7)) }), ((12, 9), .ix), ((12, 10), .cell (cInt v71)), ((12, 11), .ix), ((12, 12), .op { d := .c (eSl (Rs.sl w1_2)) })] 100013 (.at [1, 0, 0, 1, 0]) ⟨fl [(2, .pt 0 1 0), (6, .pt 3 1 0), (9, dInt v9), (74, .c (eSl (Rs.sl w1_2))), (75, dInt ((Rs.sl w1_2).l.length : Int)), (76, dInt 0)], ⟨[⟨1, (EncX.encX p0).map DV.c⟩, ⟨1, rcells o1_2⟩, mkOb 1 (.map (encM o2)), ⟨1, (held_find_c4 p0 o3_7)⟩], []⟩⟩ (And.intro (loadR_ok (P := X.P) (t := 32) (st := [⟨1, (EncX.encX p0).map DV.c⟩, ⟨1, rcells o1_2⟩, mkOb 1 (.map (encM o2)), ⟨1, (held_find_c4 p0 o3_7)⟩]) (id := 3) (ver := 1) (off := 7) (o := ⟨1, (held_find_c4 p0 o3_7)⟩) (s := o3_7) (by kernel_rfl) rfl rfl rfl) (And.intro (h1) (And.intro (loadR_ok (P := X.P) (t := 32) (st := [⟨1, (EncX.encX p0).map DV.c⟩, ⟨1, rcells o1_2⟩, mkOb 1 (.map (encM o2)), ⟨1, (held_find_c4 p0 o3_7)⟩]) (id := 3) (ver := 1) (off := 7) (o := ⟨1, (held_find_c4 p0 o3_7)⟩) (s := o3_7) (by kernel_rfl) rfl rfl rfl) (And.intro (atI_b h3) (And.intro (cell_at 0 (c := cInt v71) rfl (atI_g h3)) (And.intro (h4) (loadR_ok (P := X.P) (t := 32) (st := [⟨1, (EncX.encX p0).map DV.c⟩, ⟨1, rcells o1_2⟩, mkOb 1 (.map (encM o2)), ⟨1, (held_find_c4 p0 o3_7)⟩]) (id := 1) (ver := 1) (off := 0 + v71.toNat * 1 + 0) (o := ⟨1, rcells o1_2⟩) (s := w1_2) (by kernel_rfl) rfl rfl (rcell_at (atI_g h5))))))))) (by kernel_rfl) ?_
      obtain ⟨o_3, g7, h⟩ := bindE h
      have h7 := held_find_L13_2_ok p0 o1_2 v9 w1_2 n n 0 o2 o3_7 _ g7
      cases o_3 with
      | r o2_2 o3_7_2 =>
        dsimp only at h
        have hr := Option.some.inj h
        subst hr
        exact Sys.endX [((13, 1000), .code .ret ⟨fl [(4, .c (.sc (.pointer none))), (5, dB false)], ⟨[⟨1, (held_find_c2 p0)⟩, ⟨1, rcells o1_2⟩, mkOb 1 (.map (encM o2_2)), ⟨1, (held_find_c5 p0 o3_7_2)⟩], []⟩⟩)] (Sys.Loop.goM (h7 ⟨fl [(2, .pt 0 1 0), (6, .pt 3 1 0), (9, dInt v9), (74, .c (eSl (Rs.sl w1_2))), (75, dInt ((Rs.sl w1_2).l.length : Int)), (76, dInt 0)], ⟨[⟨1, (EncX.encX p0).map DV.c⟩, ⟨1, rcells o1_2⟩, mkOb 1 (.map (encM o2)), ⟨1, (held_find_c4 p0 o3_7)⟩], []⟩⟩ (by kernel_rfl)) (by kernel_rfl)) rfl (by kernel_rfl)
      | e4 v76_2 o2_3 o3_7_3 =>
        dsimp only at h
        by_cases h9 : InR (v9 + 1)
        case neg => exact absurd (iteF h9 h) (by simp)
        replace h := iteT h9 h
        refine Sys.to [((13, 1000), .code (.exit 4) ⟨fl [(2, .pt 0 1 0), (6, .pt 3 1 0), (9, dInt v9), (74, .c (eSl (Rs.sl w1_2))), (75, dInt ((Rs.sl w1_2).l.length : Int)), (76, dInt v76_2), (77, dB false)], ⟨[⟨1, (EncX.encX p0).map DV.c⟩, ⟨1, rcells o1_2⟩, mkOb 1 (.map (encM o2_3)), ⟨1, (held_find_c6 p0 o3_7_3)⟩], []⟩⟩), ((11, 1), .n)] 999999 (.fin .normal) ⟨fl [(2, .pt 0 1 0), (6, .pt 3 1 0), (9, dInt (v9 + 1))], ⟨[⟨1, (EncX.encX p0).map DV.c⟩, ⟨1, rcells o1_2⟩, mkOb 1 (.map (encM o2_3)), ⟨1, (held_find_c6 p0 o3_7_3)⟩], []⟩⟩ (And.intro (Sys.Loop.goM (h7 ⟨fl [(2, .pt 0 1 0), (6, .pt 3 1 0), (9, dInt v9), (74, .c (eSl (Rs.sl w1_2))), (75, dInt ((Rs.sl w1_2).l.length : Int)), (76, dInt 0)], ⟨[⟨1, (EncX.encX p0).map DV.c⟩, ⟨1, rcells o1_2⟩, mkOb 1 (.map (encM o2)), ⟨1, (held_find_c4 p0 o3_7)⟩], []⟩⟩ (by kernel_rfl)) (by kernel_rfl)) (h9)) (by kernel_rfl) ?_
        exact Sys.fin (.inl ⟨rfl, ⟨fl [(2, .pt 0 1 0), (6, .pt 3 1 0), (9, dInt (v9 + 1))], ⟨[⟨1, (EncX.encX p0).map DV.c⟩, ⟨1, rcells o1_2⟩, mkOb 1 (.map (encM o2_3)), ⟨1, (held_find_c6 p0 o3_7_3)⟩], []⟩⟩, (cut_ok (l := [2, 6, 9]) rfl (AllB.cons rfl (AllB.cons (below_rcells 4 o1_2) (AllB.consM (l := o2_3) (AllB.cons (allc_cons rfl (allc_cons rfl (allc_cons rfl (allc_cons rfl (allc_cons rfl (allc_cons rfl (allc_cons rfl (allc_cons (below_rsl 4 o3_7_3) (allc_nil 4))))))))) (AllB.nil 4))))) rfl), ih (v9 + 1) o2_3 o3_7_3 _ h _ (by kernel_rfl)⟩)
    · replace h := iteF h1 h
      have hr := Option.some.inj h
      subst hr
      exact Sys.endX [((10, 4), .op { d := .c (eSl (Rs.sl o3_7)) }), ((10, 6), .b false)] (And.intro (loadR_ok (P := X.P) (t := 32) (st := [⟨1, (EncX.encX p0).map DV.c⟩, ⟨1, rcells o1_2⟩, mkOb 1 (.map (encM o2)), ⟨1, (held_find_c4 p0 o3_7)⟩]) (id := 3) (ver := 1) (off := 7) (o := ⟨1, (held_find_c4 p0 o3_7)⟩) (s := o3_7) (by kernel_rfl) rfl rfl rfl) (h1)) rfl (by kernel_rfl)

inductive held_findO where
  | r (o1 : List (Rs Int)) (o2 : List (Int × Held_owned)) (o3_7 : Rs Int)
  | r_1 (o1 : List (Rs Int)) (o2 : List (Int × Held_owned)) (o3_7 : Rs Int)
  | r_2
def held_findx : held_findO → Ex
  | .r _ _ _ => .ret
  | .r_1 _ _ _ => .ret
  | .r_2 => .ret
def held_finds (p0 : GFlow) (p1 : Int) : held_findO → S
  | .r o1 o2 o3_7 => ⟨fl [(0, .tup [.c (.sc (.pointer none)), dB false])], ⟨[⟨1, (held_find_c2 p0)⟩, ⟨1, rcells o1⟩, mkOb 1 (.map (encM o2)), ⟨1, (held_find_c4 p0 o3_7)⟩], []⟩⟩
  | .r_1 o1 o2 o3_7 => ⟨fl [(0, .tup [.pt 3 1 0, dB true])], ⟨[⟨1, (EncX.encX p0).map DV.c⟩, ⟨1, rcells o1⟩, mkOb 1 (.map (encM o2)), ⟨1, (held_find_c4 p0 o3_7)⟩], []⟩⟩
  | .r_2 => ⟨fl [(0, .tup [.c (.sc (.pointer none)), dB false])], ⟨[⟨1, (EncX.encX p0).map DV.c⟩], []⟩⟩

def held_find (n : Nat) (p0 : GFlow) (p1 : Int) : Option held_findO :=
  (held_isShaped n p0 p1).bind fun x =>
  bif x then
    if 0 ≤ p0.locs then if Mk 24 p0.locs.toNat then (held_find_L5 p0 n n 0 (List.replicate p0.locs.toNat (Rs.nil : Rs Int))).bind fun o_2 => match o_2 with
    | .e0 v29_2 o1_2 =>
      (held_find_L10 p0 o1_2 n n 0 (putM ([] : List (Int × Held_owned)) (0 : Int) ({ a0 := 0, a1 := 0, a2 := 0, a3 := 0, a4 := 0, a5 := 0, a6 := 0, a7 := 0 } : Held_owned)) (⟨true, ([0] : List Int)⟩ : Rs Int)).bind fun o_4 => match o_4 with
      | .r o2_4 o3_7_4 =>
        some (.r o1_2 o2_4 o3_7_4)
      | .e2 v9_2 o2_5 o3_7_5 =>
        some (.r_1 o1_2 o2_5 o3_7_5)
    else none
    else none
  else some (.r_2)
theorem held_find_ok {n : Nat} {p0 : GFlow} {p1 : Int} {r : held_findO} (h : held_find n p0 p1 = some r) : X.Runs [] 19 [.c (.agg (EncX.encX p0)), dInt p1] ⟨[], []⟩ ((held_finds p0 p1 r).fr 0) (held_finds p0 p1 r).m := by
  unfold held_find at h
  refine Sys.callK' (fn := Try.f19) (b := b19) (by kernel_rfl) (by kernel_rfl) ?_
  obtain ⟨x, g2, h⟩ := bindE h
  have h2 := held_isShaped_ok g2
  cases x with
  | true =>
    replace h := condT h
    by_cases h5 : 0 ≤ p0.locs
    case neg => exact absurd (iteF h5 h) (by simp)
    replace h := iteT h5 h
    by_cases h6 : Mk 24 p0.locs.toNat
    case neg => exact absurd (iteF h6 h) (by simp)
    replace h := iteT h6 h
    obtain ⟨o_2, g9, h⟩ := bindE h
    have h9 := held_find_L5_ok p0 n n 0 (List.replicate p0.locs.toNat (Rs.nil : Rs Int)) _ g9
    cases o_2 with
    | e0 v29_2 o1_2 =>
      dsimp only at h
      refine Sys.to [((1, 2), .call (dB true) ⟨[], []⟩), ((3, 3), .mk (rcells (List.replicate p0.locs.toNat (Rs.nil : Rs Int))) true), ((3, 6), .op { d := .un, set := some (2, mkOb 1 (.map (encM (putM ([] : List (Int × Held_owned)) (0 : Int) ({ a0 := 0, a1 := 0, a2 := 0, a3 := 0, a4 := 0, a5 := 0, a6 := 0, a7 := 0 } : Held_owned))))) }), ((5, 1000), .code (.exit 0) ⟨fl [(2, .pt 0 1 0), (6, .pt 3 1 0), (27, .c (eSl p0.edges)), (28, dInt (p0.edges.l.length : Int)), (29, dInt v29_2), (30, dB false)], ⟨[⟨1, (EncX.encX p0).map DV.c⟩, ⟨1, rcells o1_2⟩, mkOb 1 (.map (encM (putM ([] : List (Int × Held_owned)) (0 : Int) ({ a0 := 0, a1 := 0, a2 := 0, a3 := 0, a4 := 0, a5 := 0, a6 := 0, a7 := 0 } : Held_owned)))), ⟨1, (held_find_c1 p0)⟩], []⟩⟩)] 100010 (.at [1, 1, 1, 1, 0, 1, 0]) ⟨fl [(2, .pt 0 1 0), (6, .pt 3 1 0), (9, dInt 0)], ⟨[⟨1, (EncX.encX p0).map DV.c⟩, ⟨1, rcells o1_2⟩, mkOb 1 (.map (encM (putM ([] : List (Int × Held_owned)) (0 : Int) ({ a0 := 0, a1 := 0, a2 := 0, a3 := 0, a4 := 0, a5 := 0, a6 := 0, a7 := 0 } : Held_owned)))), ⟨1, (held_find_c1 p0)⟩], []⟩⟩ (And.intro (h2) (And.intro (mk_okG (α := Int) h5 h6) (And.intro (putM_ok (P := X.P) (t := 48) (et := 52) (st := [⟨1, (EncX.encX p0).map DV.c⟩, ⟨1, rcells (List.replicate p0.locs.toNat (Rs.nil : Rs Int))⟩, mkOb 1 (.map (encM ([] : List (Int × Held_owned)))), ⟨0, []⟩]) (id := 2) (ver := 1) (l := ([] : List (Int × Held_owned))) (k := (0 : Int)) (v := ({ a0 := 0, a1 := 0, a2 := 0, a3 := 0, a4 := 0, a5 := 0, a6 := 0, a7 := 0 } : Held_owned)) (by kernel_rfl) rfl) (Sys.Loop.goM (h9 ⟨fl [(2, .pt 0 1 0), (6, .pt 3 1 0), (27, .c (eSl p0.edges)), (28, dInt (p0.edges.l.length : Int)), (29, dInt 0)], ⟨[⟨1, (EncX.encX p0).map DV.c⟩, ⟨1, rcells (List.replicate p0.locs.toNat (Rs.nil : Rs Int))⟩, mkOb 1 (.map (encM (putM ([] : List (Int × Held_owned)) (0 : Int) ({ a0 := 0, a1 := 0, a2 := 0, a3 := 0, a4 := 0, a5 := 0, a6 := 0, a7 := 0 } : Held_owned)))), ⟨1, (held_find_c1 p0)⟩], []⟩⟩ (by kernel_rfl)) (by kernel_rfl))))) (by kernel_rfl) ?_
      obtain ⟨o_4, g12, h⟩ := bindE h
      have h12 := held_find_L10_ok p0 o1_2 n n 0 (putM ([] : List (Int × Held_owned)) (0 : Int) ({ a0 := 0, a1 := 0, a2 := 0, a3 := 0, a4 := 0, a5 := 0, a6 := 0, a7 := 0 } : Held_owned)) (⟨true, ([0] : List Int)⟩ : Rs Int) _ g12
      cases o_4 with
      | r o2_4 o3_7_4 =>
        dsimp only at h
        have hr := Option.some.inj h
        subst hr
        exact Sys.endK [((10, 1000), .code .ret ⟨fl [(4, .c (.sc (.pointer none))), (5, dB false)], ⟨[⟨1, (held_find_c2 p0)⟩, ⟨1, rcells o1_2⟩, mkOb 1 (.map (encM o2_4)), ⟨1, (held_find_c9 p0 o3_7_4)⟩], []⟩⟩)] (Sys.Loop.goM (h12 ⟨fl [(2, .pt 0 1 0), (6, .pt 3 1 0), (9, dInt 0)], ⟨[⟨1, (EncX.encX p0).map DV.c⟩, ⟨1, rcells o1_2⟩, mkOb 1 (.map (encM (putM ([] : List (Int × Held_owned)) (0 : Int) ({ a0 := 0, a1 := 0, a2 := 0, a3 := 0, a4 := 0, a5 := 0, a6 := 0, a7 := 0 } : Held_owned)))), ⟨1, (held_find_c1 p0)⟩], []⟩⟩ (by kernel_rfl)) (by kernel_rfl)) (by kernel_rfl)
      | e2 v9_2 o2_5 o3_7_5 =>
        dsimp only at h
        have hr := Option.some.inj h
        subst hr
        exact Sys.endK [((10, 1000), .code (.exit 2) ⟨fl [(2, .pt 0 1 0), (6, .pt 3 1 0), (9, dInt v9_2), (59, dB false)], ⟨[⟨1, (EncX.encX p0).map DV.c⟩, ⟨1, rcells o1_2⟩, mkOb 1 (.map (encM o2_5)), ⟨1, (held_find_c10 p0 o3_7_5)⟩], []⟩⟩)] (Sys.Loop.goM (h12 ⟨fl [(2, .pt 0 1 0), (6, .pt 3 1 0), (9, dInt 0)], ⟨[⟨1, (EncX.encX p0).map DV.c⟩, ⟨1, rcells o1_2⟩, mkOb 1 (.map (encM (putM ([] : List (Int × Held_owned)) (0 : Int) ({ a0 := 0, a1 := 0, a2 := 0, a3 := 0, a4 := 0, a5 := 0, a6 := 0, a7 := 0 } : Held_owned)))), ⟨1, (held_find_c1 p0)⟩], []⟩⟩ (by kernel_rfl)) (by kernel_rfl)) (by kernel_rfl)
  | false =>
    replace h := condF h
    have hr := Option.some.inj h
    subst hr
    exact Sys.endK [((1, 2), .call (dB false) ⟨[], []⟩)] (h2) (by kernel_rfl)
def held_Sections_c1 (p0 : GFlow) (o3_7 : Rs Int) : List DV := [.c (.sc (.string p0.name)), dB p0.star, dInt p0.locs, .c (eSl p0.edges), .c (eSl p0.guards), .ms 1 1 0 p0.locs.toNat 1 true, .mp 2 1, rsl o3_7]
def held_Sections_c2 (p0 : GFlow) (o3_7 : Rs Int) : List DV := [.c (.sc (.string p0.name)), dB p0.star, dInt p0.locs, .c (eSl p0.edges), .c (eSl p0.guards), .ms 2 1 0 p0.locs.toNat 1 true, .mp 3 1, rsl o3_7]
def held_Sections_c3 (p0 : GFlow) : List DV := [.c (.sc (.string p0.name)), dB p0.star, dInt p0.locs, .c (eSl p0.edges), .c (eSl p0.guards)]
def held_Sections_c4 (p0 : GFlow) (o3_7_2 : Rs Int) : List DV := [.c (.sc (.string p0.name)), dB p0.star, dInt p0.locs, .c (eSl p0.edges), .c (eSl p0.guards), .ms 1 1 0 p0.locs.toNat 1 true, .mp 2 1, rsl o3_7_2]
def held_Sections_c5 (p0 : GFlow) (o3_7_2 : Rs Int) : List DV := [.c (.sc (.string p0.name)), dB p0.star, dInt p0.locs, .c (eSl p0.edges), .c (eSl p0.guards), .ms 2 1 0 p0.locs.toNat 1 true, .mp 3 1, rsl o3_7_2]
inductive vigilref13_Reached_L7_2O where
  | e2 (v5 : Int) (o1' : List Bool)
def vigilref13_Reached_L7_2x : vigilref13_Reached_L7_2O → Ex
  | .e2 _ _ => (.exit 2)
def vigilref13_Reached_L7_2s (p0 : GFlow) (v4 : Int) : vigilref13_Reached_L7_2O → S
  | .e2 v5 o1' => ⟨fl [(1, .pt 0 1 0), (3, .ms 1 1 0 p0.locs.toNat 1 true), (4, dInt v4), (5, dInt v5), (21, dB false)], ⟨[⟨1, (EncX.encX p0).map DV.c⟩, ⟨1, dcells o1'⟩], []⟩⟩
def vigilref13_Reached_L7_2 (p0 : GFlow) (v4 : Int) (n : Nat) : Nat → Int → List Bool → Option vigilref13_Reached_L7_2O
  | 0, _, _ => none
  | k + 1, v5, o1_7 =>
    if v5 < (p0.edges.l.length : Int) then
      (atI p0.edges.l v5).bind fun v28 =>
      if 0 ≤ v28.from_ ∧ v28.from_ < (p0.locs.toNat : Int) then (atI o1_7 v28.from_).bind fun w1_2 =>
      bif w1_2 then
        if 0 ≤ v28.to_ ∧ v28.to_ < (p0.locs.toNat : Int) then (atI o1_7 v28.to_).bind fun w1_3 =>
        if InR (v5 + 1) then vigilref13_Reached_L7_2 p0 v4 n k (v5 + 1) (o1_7.set v28.to_.toNat true)
        else none
        else none
      else if InR (v5 + 1) then vigilref13_Reached_L7_2 p0 v4 n k (v5 + 1) o1_7
      else none
      else none
    else some (.e2 v5 o1_7)
theorem vigilref13_Reached_L7_2_ok (p0 : GFlow) (v4 : Int) (n : Nat) : ∀ (k : Nat) (v5 : Int) (o1_7 : List Bool) (o : vigilref13_Reached_L7_2O), vigilref13_Reached_L7_2 p0 v4 n k v5 o1_7 = some o → ∀ s : S, restrS (X.an.rs 23 7) s = ⟨fl [(1, .pt 0 1 0), (3, .ms 1 1 0 p0.locs.toNat 1 true), (4, dInt v4), (5, dInt v5)], ⟨[⟨1, (EncX.encX p0).map DV.c⟩, ⟨1, dcells o1_7⟩], []⟩⟩ → X.Loop 23 42 [] (sub b23 [1, 1, 1, 0, 1, 0, 0, 1, 0, 0, 1, 0, 0]) 2 s (vigilref13_Reached_L7_2x o) (vigilref13_Reached_L7_2s p0 v4 o) := by
  intro k
  induction k with
  | zero => intro v5 o1_7 o h s hs; unfold vigilref13_Reached_L7_2 at h; cases h
  | succ k ih =>
    intro v5 o1_7 o h s hs
    unfold vigilref13_Reached_L7_2 at h
    refine Sys.loopQ hs ?_
    by_cases h1 : v5 < (p0.edges.l.length : Int)
    · replace h := iteT h1 h
      obtain ⟨v28, h3, h⟩ := bindE h
      by_cases h4 : 0 ≤ v28.from_ ∧ v28.from_ < (p0.locs.toNat : Int)
      case neg => exact absurd (iteF h4 h) (by simp)
      replace h := iteT h4 h
      obtain ⟨w1_2, h5, h⟩ := bindE h
      refine Sys.to [((7, 4), .b true)] 9 (.at [1, 0, 0, 0]) ⟨fl [(1, .pt 0 1 0), (3, .ms 1 1 0 p0.locs.toNat 1 true), (4, dInt v4), (5, dInt v5), (21, dB true)], ⟨[⟨1, (EncX.encX p0).map DV.c⟩, ⟨1, dcells o1_7⟩], []⟩⟩ (h1) (by kernel_rfl) ?_
      cases w1_2 with
      | true =>
        replace h := condT h
        by_cases h8 : 0 ≤ v28.to_ ∧ v28.to_ < (p0.locs.toNat : Int)
        case neg => exact absurd (iteF h8 h) (by simp)
        replace h := iteT h8 h
        obtain ⟨w1_3, h9, h⟩ := bindE h
        by_cases h11 : InR (v5 + 1)
        case neg => exact absurd (iteF h11 h) (by simp)
        replace h := iteT h11 h
        refine Sys.to [((9, 4), .ix), ((9, 6), .cell (cInt v28.from_)), ((9, 7), .ix), ((9, 8), .cell (.sc (.bool true))), ((10, 4), .ix), ((10, 6), .cell (cInt v28.to_)), ((10, 7), .ix), ((10, 8), .st (dcells (o1_7.set v28.to_.toNat true))), ((8, 1), .n)] 999999 (.fin .normal) ⟨fl [(1, .pt 0 1 0), (3, .ms 1 1 0 p0.locs.toNat 1 true), (4, dInt v4), (5, dInt (v5 + 1))], ⟨[⟨1, (EncX.encX p0).map DV.c⟩, ⟨1, dcells (o1_7.set v28.to_.toNat true)⟩], []⟩⟩ (And.intro (atI_b h3) (And.intro (cell_at 0 (c := cInt v28.from_) rfl (atI_g h3)) (And.intro (h4) (And.intro (And.intro (rfl : (1 : Nat) = 1) (dcell_at' 0 (c := .sc (.bool true)) rfl (atI_g h5))) (And.intro (atI_b h3) (And.intro (cell_at 1 (c := cInt v28.to_) rfl (atI_g h3)) (And.intro (h8) (And.intro (And.intro (rfl : (1 : Nat) = 1) (dst_part 0 [dB true] true (atI_g h9) rfl (Nat.le_of_ble_eq_true rfl))) (h11))))))))) (by kernel_rfl) ?_
        exact Sys.fin (.inl ⟨rfl, ⟨fl [(1, .pt 0 1 0), (3, .ms 1 1 0 p0.locs.toNat 1 true), (4, dInt v4), (5, dInt (v5 + 1))], ⟨[⟨1, (EncX.encX p0).map DV.c⟩, ⟨1, dcells (o1_7.set v28.to_.toNat true)⟩], []⟩⟩, (by kernel_rfl), ih (v5 + 1) (o1_7.set v28.to_.toNat true) _ h _ (by kernel_rfl)⟩)
      | false =>
        replace h := condF h
        by_cases h8 : InR (v5 + 1)
        case neg => exact absurd (iteF h8 h) (by simp)
        replace h := iteT h8 h
        refine Sys.to [((9, 4), .ix), ((9, 6), .cell (cInt v28.from_)), ((9, 7), .ix), ((9, 8), .cell (.sc (.bool false))), ((8, 1), .n)] 999999 (.fin .normal) ⟨fl [(1, .pt 0 1 0), (3, .ms 1 1 0 p0.locs.toNat 1 true), (4, dInt v4), (5, dInt (v5 + 1))], ⟨[⟨1, (EncX.encX p0).map DV.c⟩, ⟨1, dcells o1_7⟩], []⟩⟩ (And.intro (atI_b h3) (And.intro (cell_at 0 (c := cInt v28.from_) rfl (atI_g h3)) (And.intro (h4) (And.intro (And.intro (rfl : (1 : Nat) = 1) (dcell_at' 0 (c := .sc (.bool false)) rfl (atI_g h5))) (h8))))) (by kernel_rfl) ?_
        exact Sys.fin (.inl ⟨rfl, ⟨fl [(1, .pt 0 1 0), (3, .ms 1 1 0 p0.locs.toNat 1 true), (4, dInt v4), (5, dInt (v5 + 1))], ⟨[⟨1, (EncX.encX p0).map DV.c⟩, ⟨1, dcells o1_7⟩], []⟩⟩, (by kernel_rfl), ih (v5 + 1) o1_7 _ h _ (by kernel_rfl)⟩)
    · replace h := iteF h1 h
      have hr := Option.some.inj h
      subst hr
      exact Sys.endX [((7, 4), .b false)] (h1) rfl (by kernel_rfl)

inductive vigilref13_Reached_L4O where
  | e0 (v4 : Int) (o1 : List Bool)
def vigilref13_Reached_L4x : vigilref13_Reached_L4O → Ex
  | .e0 _ _ => (.exit 0)
def vigilref13_Reached_L4s (p0 : GFlow) : vigilref13_Reached_L4O → S
  | .e0 v4 o1 => ⟨fl [(1, .pt 0 1 0), (3, .ms 1 1 0 p0.locs.toNat 1 true), (4, dInt v4), (14, dB false)], ⟨[⟨1, (EncX.encX p0).map DV.c⟩, ⟨1, dcells o1⟩], []⟩⟩
def vigilref13_Reached_L4 (p0 : GFlow) (n : Nat) : Nat → Int → List Bool → Option vigilref13_Reached_L4O
  | 0, _, _ => none
  | k + 1, v4, o1 =>
    if v4 < p0.locs then
      (vigilref13_Reached_L7_2 p0 v4 n n 0 o1).bind fun o_2 => match o_2 with
      | .e2 v5_2 o1_2 =>
        if InR (v4 + 1) then vigilref13_Reached_L4 p0 n k (v4 + 1) o1_2
        else none
    else some (.e0 v4 o1)
theorem vigilref13_Reached_L4_ok (p0 : GFlow) (n : Nat) : ∀ (k : Nat) (v4 : Int) (o1 : List Bool) (o : vigilref13_Reached_L4O), vigilref13_Reached_L4 p0 n k v4 o1 = some o → ∀ s : S, restrS (X.an.rs 23 4) s = ⟨fl [(1, .pt 0 1 0), (3, .ms 1 1 0 p0.locs.toNat 1 true), (4, dInt v4)], ⟨[⟨1, (EncX.encX p0).map DV.c⟩, ⟨1, dcells o1⟩], []⟩⟩ → X.Loop 23 42 [] (sub b23 [1, 1, 1, 0, 1, 0, 0]) 2 s (vigilref13_Reached_L4x o) (vigilref13_Reached_L4s p0 o) := by
  intro k
  induction k with
  | zero => intro v4 o1 o h s hs; unfold vigilref13_Reached_L4 at h; cases h
  | succ k ih =>
    intro v4 o1 o h s hs
    unfold vigilref13_Reached_L4 at h
    refine Sys.loopQ hs ?_
    by_cases h1 : v4 < p0.locs
    · replace h := iteT h1 h
      obtain ⟨o_2, g4, h⟩ := bindE h
      have h4 := vigilref13_Reached_L7_2_ok p0 v4 n n 0 o1 _ g4
      cases o_2 with
      | e2 v5_2 o1_2 =>
        dsimp only at h
        by_cases h6 : InR (v4 + 1)
        case neg => exact absurd (iteF h6 h) (by simp)
        replace h := iteT h6 h
        refine Sys.to [((4, 3), .b true), ((7, 1000), .code (.exit 2) ⟨fl [(1, .pt 0 1 0), (3, .ms 1 1 0 p0.locs.toNat 1 true), (4, dInt v4), (5, dInt v5_2), (21, dB false)], ⟨[⟨1, (EncX.encX p0).map DV.c⟩, ⟨1, dcells o1_2⟩], []⟩⟩), ((5, 1), .n)] 999999 (.fin .normal) ⟨fl [(1, .pt 0 1 0), (3, .ms 1 1 0 p0.locs.toNat 1 true), (4, dInt (v4 + 1))], ⟨[⟨1, (EncX.encX p0).map DV.c⟩, ⟨1, dcells o1_2⟩], []⟩⟩ (And.intro (h1) (And.intro (Sys.Loop.goM (h4 ⟨fl [(1, .pt 0 1 0), (3, .ms 1 1 0 p0.locs.toNat 1 true), (4, dInt v4), (5, dInt 0)], ⟨[⟨1, (EncX.encX p0).map DV.c⟩, ⟨1, dcells o1⟩], []⟩⟩ (by kernel_rfl)) (by kernel_rfl)) (h6))) (by kernel_rfl) ?_
        exact Sys.fin (.inl ⟨rfl, ⟨fl [(1, .pt 0 1 0), (3, .ms 1 1 0 p0.locs.toNat 1 true), (4, dInt (v4 + 1))], ⟨[⟨1, (EncX.encX p0).map DV.c⟩, ⟨1, dcells o1_2⟩], []⟩⟩, (by kernel_rfl), ih (v4 + 1) o1_2 _ h _ (by kernel_rfl)⟩)
    · replace h := iteF h1 h
      have hr := Option.some.inj h
      subst hr
      exact Sys.endX [((4, 3), .b false)] (h1) rfl (by kernel_rfl)

def vigilref13_Reached (n : Nat) (p0 : GFlow) : Option (Sl Bool) :=
  if 0 ≤ p0.locs then if Mk 1 p0.locs.toNat then if 0 ≤ (0 : Int) ∧ (0 : Int) < (p0.locs.toNat : Int) then (atI (List.replicate p0.locs.toNat (false : Bool)) 0).bind fun w1 =>
  (vigilref13_Reached_L4 p0 n n 0 ((List.replicate p0.locs.toNat (false : Bool)).set 0 true)).bind fun o_3 => match o_3 with
  | .e0 v4_2 o1_3 =>
    if p0.locs.toNat = o1_3.length then some (⟨false, true, o1_3⟩ : Sl Bool)
    else none
  else none
  else none
  else none
theorem vigilref13_Reached_ok {n : Nat} {p0 : GFlow} {r : Sl Bool} (h : vigilref13_Reached n p0 = some r) : X.RunsC 23 [.c (.agg (EncX.encX p0))] (.c (eSl r)) := by
  unfold vigilref13_Reached at h
  refine Sys.callC' (fn := Try.f23) (b := b23) (by kernel_rfl) (by kernel_rfl) ?_
  by_cases h2 : 0 ≤ p0.locs
  case neg => exact absurd (iteF h2 h) (by simp)
  replace h := iteT h2 h
  by_cases h3 : Mk 1 p0.locs.toNat
  case neg => exact absurd (iteF h3 h) (by simp)
  replace h := iteT h3 h
  by_cases h5 : 0 ≤ (0 : Int) ∧ (0 : Int) < (p0.locs.toNat : Int)
  case neg => exact absurd (iteF h5 h) (by simp)
  replace h := iteT h5 h
  obtain ⟨w1, h6, h⟩ := bindE h
  obtain ⟨o_3, g9, h⟩ := bindE h
  have h9 := vigilref13_Reached_L4_ok p0 n n 0 ((List.replicate p0.locs.toNat (false : Bool)).set 0 true) _ g9
  cases o_3 with
  | e0 v4_2 o1_3 =>
    dsimp only at h
    by_cases h11 : p0.locs.toNat = o1_3.length
    case neg => exact absurd (iteF h11 h) (by simp)
    replace h := iteT h11 h
    have hr := Option.some.inj h
    subst hr
    refine Sys.to [((1, 2), .mk (dcells (List.replicate p0.locs.toNat (false : Bool))) true), ((2, 1), .ix), ((2, 2), .st (dcells ((List.replicate p0.locs.toNat (false : Bool)).set 0 true))), ((4, 1000), .code (.exit 0) ⟨fl [(1, .pt 0 1 0), (3, .ms 1 1 0 p0.locs.toNat 1 true), (4, dInt v4_2), (14, dB false)], ⟨[⟨1, (EncX.encX p0).map DV.c⟩, ⟨1, dcells o1_3⟩], []⟩⟩)] 999999 (.fin .ret) ⟨fl [(2, .ms 1 1 0 p0.locs.toNat 1 true)], ⟨[⟨1, (EncX.encX p0).map DV.c⟩, ⟨1, dcells o1_3⟩], []⟩⟩ (And.intro (mk_okI (false : Bool) h2 h3) (And.intro (h5) (And.intro (And.intro (rfl : (1 : Nat) = 1) (dst_part 0 [dB true] true (atI_g h6) rfl (Nat.le_of_ble_eq_true rfl))) (Sys.Loop.goM (h9 ⟨fl [(1, .pt 0 1 0), (3, .ms 1 1 0 p0.locs.toNat 1 true), (4, dInt 0)], ⟨[⟨1, (EncX.encX p0).map DV.c⟩, ⟨1, dcells ((List.replicate p0.locs.toNat (false : Bool)).set 0 true)⟩], []⟩⟩ (by kernel_rfl)) (by kernel_rfl))))) (by kernel_rfl) ?_
    exact Sys.fin ⟨rfl, (.ms 1 1 0 p0.locs.toNat 1 true), (by kernel_rfl), (closeTop_ms h11 (getO_of rfl rfl))⟩
end Go.Proofs.Ytkfmoodaplelnaa
