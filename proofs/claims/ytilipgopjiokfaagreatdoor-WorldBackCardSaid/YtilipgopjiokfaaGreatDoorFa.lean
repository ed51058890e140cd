/-
  Part of the proof: printed by the session's own program out of the program's form, or typed; it states no claim by itself.
-/
import Derived.Test.YtilipgopjiokfaaGreatDoorTy
import Derived.Test.YtilipgopjiokfaaGreatDoorAn
/-
  Functions of the program as Lean functions, and that the interpreter comes to the same: printed by the session's own tool.
-/
set_option linter.unusedVariables false
set_option linter.unusedSimpArgs false
set_option maxRecDepth 100000
set_option maxHeartbeats 1000000
namespace Go.Proofs.YtilipgopjiokfaaGreatDoor
open Go Go.Abs Go.Proofs
inductive slices_Index_L2O where
  | r (v4 : Int)
  | e0 (v8 : Int)
def slices_Index_L2x : slices_Index_L2O → Ex
  | .r _ => .ret
  | .e0 _ => (.exit 0)
def slices_Index_L2s (p0 : Sl ByteArray) (p1 : ByteArray) : slices_Index_L2O → S
  | .r v4 => ⟨fl [(4, dInt v4)], ⟨[], []⟩⟩
  | .e0 v8 => ⟨fl [(0, .c (eSl p0)), (1, .c (.sc (.string p1))), (7, dInt (p0.l.length : Int)), (8, dInt v8), (9, dB false)], ⟨[], []⟩⟩
def slices_Index_L2 (p0 : Sl ByteArray) (p1 : ByteArray) (n : Nat) : Nat → Int → Option slices_Index_L2O
  | 0, _ => none
  | k + 1, v8 =>
    if v8 < (p0.l.length : Int) then
      (atI p0.l v8).bind fun v14 =>
      if p1 = v14 then
        some (.r v8)
      else if InR (v8 + 1) then slices_Index_L2 p0 p1 n k (v8 + 1)
      else none
    else some (.e0 v8)
theorem slices_Index_L2_ok (p0 : Sl ByteArray) (p1 : ByteArray) (n : Nat) : ∀ (k : Nat) (v8 : Int) (o : slices_Index_L2O), slices_Index_L2 p0 p1 n k v8 = some o → ∀ s : S, restrS (X.an.rs 53 2) s = ⟨fl [(0, .c (eSl p0)), (1, .c (.sc (.string p1))), (7, dInt (p0.l.length : Int)), (8, dInt v8)], ⟨[], []⟩⟩ → X.Loop 53 19 [] (sub b53 [1, 0, 1, 0, 0]) 0 s (slices_Index_L2x o) (slices_Index_L2s p0 p1 o) := by
  intro k
  induction k with
  | zero => intro v8 o h s hs; unfold slices_Index_L2 at h; cases h
  | succ k ih =>
    intro v8 o h s hs
    unfold slices_Index_L2 at h
    refine Sys.loopQ hs ?_
    by_cases h1 : v8 < (p0.l.length : Int)
    · replace h := iteT h1 h
      obtain ⟨v14, h4, h⟩ := bindE h
      refine Sys.to [((2, 0), .b true)] 4 (.at [1, 1, 0, 0, 1, 0]) ⟨fl [(0, .c (eSl p0)), (1, .c (.sc (.string p1))), (5, dInt v8), (7, dInt (p0.l.length : Int)), (8, dInt v8)], ⟨[], []⟩⟩ (h1) (by kernel_rfl) ?_
      by_cases h5 : p1 = v14
      · replace h := iteT h5 h
        have hr := Option.some.inj h
        subst hr
        exact Sys.endX [((4, 3), .ix), ((4, 4), .cell (.sc (.string v14))), ((4, 5), .op { d := dB true })] (And.intro (atI_b h4) (And.intro (cell_at 0 (c := .sc (.string v14)) rfl (atI_g h4)) (str_eql_true h5))) rfl (by kernel_rfl)
      · replace h := iteF h5 h
        by_cases h7 : InR (v8 + 1)
        case neg => exact absurd (iteF h7 h) (by simp)
        replace h := iteT h7 h
        refine Sys.to [((4, 3), .ix), ((4, 4), .cell (.sc (.string v14))), ((4, 5), .op { d := dB false }), ((6, 0), .n)] 999999 (.fin .normal) ⟨fl [(0, .c (eSl p0)), (1, .c (.sc (.string p1))), (7, dInt (p0.l.length : Int)), (8, dInt (v8 + 1))], ⟨[], []⟩⟩ (And.intro (atI_b h4) (And.intro (cell_at 0 (c := .sc (.string v14)) rfl (atI_g h4)) (And.intro (str_eql_false h5) (h7)))) (by kernel_rfl) ?_
        exact Sys.fin (.inl ⟨rfl, ⟨fl [(0, .c (eSl p0)), (1, .c (.sc (.string p1))), (7, dInt (p0.l.length : Int)), (8, dInt (v8 + 1))], ⟨[], []⟩⟩, (by kernel_rfl), ih (v8 + 1) _ h _ (by kernel_rfl)⟩)
    · replace h := iteF h1 h
      have hr := Option.some.inj h
      subst hr
      exact Sys.endX [((2, 0), .b false)] (h1) rfl (by kernel_rfl)

def slices_Index (n : Nat) (p0 : Sl ByteArray) (p1 : ByteArray) : Option Int :=
  (slices_Index_L2 p0 p1 n n 0).bind fun o_2 => match o_2 with
  | .r v4 =>
    some v4
  | .e0 v8_2 =>
    some (-1)
theorem slices_Index_ok {n : Nat} {p0 : Sl ByteArray} {p1 : ByteArray} {r : Int} (h : slices_Index n p0 p1 = some r) : X.RunsC 53 [.c (eSl p0), .c (.sc (.string p1))] (dInt r) := by
  unfold slices_Index at h
  refine Sys.callC' (fn := Tryz.f53) (b := b53) (by kernel_rfl) (by kernel_rfl) ?_
  obtain ⟨o_2, g3, h⟩ := bindE h
  have h3 := slices_Index_L2_ok p0 p1 n n 0 _ g3
  cases o_2 with
  | r v4 =>
    dsimp only at h
    have hr := Option.some.inj h
    subst hr
    exact Sys.endC [((2, 1000), .code .ret ⟨fl [(4, dInt v4)], ⟨[], []⟩⟩)] (Sys.Loop.goM (h3 ⟨fl [(0, .c (eSl p0)), (1, .c (.sc (.string p1))), (7, dInt (p0.l.length : Int)), (8, dInt 0)], ⟨[], []⟩⟩ (by kernel_rfl)) (by kernel_rfl)) (by kernel_rfl)
  | e0 v8_2 =>
    dsimp only at h
    have hr := Option.some.inj h
    subst hr
    exact Sys.endC [((2, 1000), .code (.exit 0) ⟨fl [(0, .c (eSl p0)), (1, .c (.sc (.string p1))), (7, dInt (p0.l.length : Int)), (8, dInt v8_2), (9, dB false)], ⟨[], []⟩⟩)] (Sys.Loop.goM (h3 ⟨fl [(0, .c (eSl p0)), (1, .c (.sc (.string p1))), (7, dInt (p0.l.length : Int)), (8, dInt 0)], ⟨[], []⟩⟩ (by kernel_rfl)) (by kernel_rfl)) (by kernel_rfl)
inductive world_numbers_L6O where
  | r (o0 : List Int)
  | e0 (v22 : Int) (o0 : List Int)
def world_numbers_L6x : world_numbers_L6O → Ex
  | .r _ => .ret
  | .e0 _ _ => (.exit 0)
def world_numbers_L6s (p0 : ByteArray) (p1 : Int) : world_numbers_L6O → S
  | .r o0 => ⟨fl [(4, .c (.sl true true [] 0)), (5, dB false)], ⟨[⟨1, dcells o0⟩], []⟩⟩
  | .e0 v22 o0 => ⟨fl [(7, .ms 0 1 0 p1.toNat 1 true), (20, .c (.sl false true (cells (splitS p0 (⟨#[58]⟩ : ByteArray))) ((splitS p0 (⟨#[58]⟩ : ByteArray)).length))), (21, dInt ((splitS p0 (⟨#[58]⟩ : ByteArray)).length : Int)), (22, dInt v22), (23, dB false)], ⟨[⟨1, dcells o0⟩], []⟩⟩
def world_numbers_L6 (p0 : ByteArray) (p1 : Int) (n : Nat) : Nat → Int → List Int → Option world_numbers_L6O
  | 0, _, _ => none
  | k + 1, v22, o0 =>
    if v22 < ((splitS p0 (⟨#[58]⟩ : ByteArray)).length : Int) then
      (atI (splitS p0 (⟨#[58]⟩ : ByteArray)) v22).bind fun v25 =>
      if v25.size ≤ 281474976710656 then if (atoiR v25).2 = true then
        some (.r o0)
      else if 0 ≤ v22 ∧ v22 < (p1.toNat : Int) then (atI o0 v22).bind fun w0 =>
      if InR (v22 + 1) then world_numbers_L6 p0 p1 n k (v22 + 1) (o0.set v22.toNat ((atoiR v25).1))
      else none
      else none
      else none
    else some (.e0 v22 o0)
theorem world_numbers_L6_ok (p0 : ByteArray) (p1 : Int) (n : Nat) : ∀ (k : Nat) (v22 : Int) (o0 : List Int) (o : world_numbers_L6O), world_numbers_L6 p0 p1 n k v22 o0 = some o → ∀ s : S, restrS (X.an.rs 105 6) s = ⟨fl [(7, .ms 0 1 0 p1.toNat 1 true), (20, .c (.sl false true (cells (splitS p0 (⟨#[58]⟩ : ByteArray))) ((splitS p0 (⟨#[58]⟩ : ByteArray)).length))), (21, dInt ((splitS p0 (⟨#[58]⟩ : ByteArray)).length : Int)), (22, dInt v22)], ⟨[⟨1, dcells o0⟩], []⟩⟩ → X.Loop 105 40 [] (sub b105 [1, 1, 1, 1, 0, 1, 0, 0]) 1 s (world_numbers_L6x o) (world_numbers_L6s p0 p1 o) := by
  intro k
  induction k with
  | zero => intro v22 o0 o h s hs; unfold world_numbers_L6 at h; cases h
  | succ k ih =>
    intro v22 o0 o h s hs
    unfold world_numbers_L6 at h
    refine Sys.loopQ hs ?_
    by_cases h1 : v22 < ((splitS p0 (⟨#[58]⟩ : ByteArray)).length : Int)
    · replace h := iteT h1 h
      obtain ⟨v25, h3, h⟩ := bindE h
      by_cases h5 : v25.size ≤ 281474976710656
      case neg => exact absurd (iteF h5 h) (by simp)
      replace h := iteT h5 h
      refine Sys.to [((6, 0), .b true), ((7, 1), .ix), ((7, 2), .cell (.sc (.string v25))), ((8, 1), .op { d := .tup [dInt ((atoiR v25).1), .er ((atoiR v25).2)] })] 9 (.at [1, 1, 0, 0, 1, 1, 0, 0]) ⟨fl [(7, .ms 0 1 0 p1.toNat 1 true), (8, dInt v22), (10, dInt ((atoiR v25).1)), (11, .er ((atoiR v25).2)), (20, .c (.sl false true (cells (splitS p0 (⟨#[58]⟩ : ByteArray))) ((splitS p0 (⟨#[58]⟩ : ByteArray)).length))), (21, dInt ((splitS p0 (⟨#[58]⟩ : ByteArray)).length : Int)), (22, dInt v22)], ⟨[⟨1, dcells o0⟩], []⟩⟩ (And.intro (h1) (And.intro (atI_b h3) (And.intro (cell_at 0 (c := .sc (.string v25)) rfl (atI_g h3)) (parseIntP_eq [⟨1, dcells o0⟩] (s := v25) h5)))) (by kernel_rfl) ?_
      by_cases h7 : (atoiR v25).2 = true
      · replace h := iteT h7 h
        have hr := Option.some.inj h
        subst hr
        exact Sys.endX [((9, 1), .op { d := dB true })] (er_neq (P := X.P) (t := 102) (d := .c (.sc .nilIface)) true (by kernel_rfl) h7) rfl (by kernel_rfl)
      · replace h := iteF h7 h
        by_cases h9 : 0 ≤ v22 ∧ v22 < (p1.toNat : Int)
        case neg => exact absurd (iteF h9 h) (by simp)
        replace h := iteT h9 h
        obtain ⟨w0, h10, h⟩ := bindE h
        by_cases h12 : InR (v22 + 1)
        case neg => exact absurd (iteF h12 h) (by simp)
        replace h := iteT h12 h
        refine Sys.to [((9, 1), .op { d := dB false }), ((11, 3), .ix), ((11, 4), .st (dcells (o0.set v22.toNat ((atoiR v25).1)))), ((12, 0), .n)] 999999 (.fin .normal) ⟨fl [(7, .ms 0 1 0 p1.toNat 1 true), (20, .c (.sl false true (cells (splitS p0 (⟨#[58]⟩ : ByteArray))) ((splitS p0 (⟨#[58]⟩ : ByteArray)).length))), (21, dInt ((splitS p0 (⟨#[58]⟩ : ByteArray)).length : Int)), (22, dInt (v22 + 1))], ⟨[⟨1, dcells (o0.set v22.toNat ((atoiR v25).1))⟩], []⟩⟩ (And.intro (er_neq (P := X.P) (t := 102) (d := .c (.sc .nilIface)) false (by kernel_rfl) (eq_false_of_ne_true h7)) (And.intro (h9) (And.intro (And.intro (rfl : (1 : Nat) = 1) (dst_part 0 [dInt ((atoiR v25).1)] ((atoiR v25).1) (atI_g h10) rfl (Nat.le_of_ble_eq_true rfl))) (h12)))) (by kernel_rfl) ?_
        exact Sys.fin (.inl ⟨rfl, ⟨fl [(7, .ms 0 1 0 p1.toNat 1 true), (20, .c (.sl false true (cells (splitS p0 (⟨#[58]⟩ : ByteArray))) ((splitS p0 (⟨#[58]⟩ : ByteArray)).length))), (21, dInt ((splitS p0 (⟨#[58]⟩ : ByteArray)).length : Int)), (22, dInt (v22 + 1))], ⟨[⟨1, dcells (o0.set v22.toNat ((atoiR v25).1))⟩], []⟩⟩, (by kernel_rfl), ih (v22 + 1) (o0.set v22.toNat ((atoiR v25).1)) _ h _ (by kernel_rfl)⟩)
    · replace h := iteF h1 h
      have hr := Option.some.inj h
      subst hr
      exact Sys.endX [((6, 0), .b false)] (h1) rfl (by kernel_rfl)

def world_numbers (n : Nat) (p0 : ByteArray) (p1 : Int) : Option (Sl Int × Bool) :=
  if p0.size < 4294967281 then if ((splitS p0 (⟨#[58]⟩ : ByteArray)).length : Int) ≠ p1 then
    some ((Sl.nil : Sl Int), false)
  else if 0 ≤ p1 then if Mk 8 p1.toNat then (world_numbers_L6 p0 p1 n n 0 (List.replicate p1.toNat (0 : Int))).bind fun o_2 => match o_2 with
  | .r o0_2 =>
    some ((Sl.nil : Sl Int), false)
  | .e0 v22_2 o0_3 =>
    if p1.toNat = o0_3.length then some ((⟨false, true, o0_3⟩ : Sl Int), true)
    else none
  else none
  else none
  else none
theorem world_numbers_ok {n : Nat} {p0 : ByteArray} {p1 : Int} {r : Sl Int × Bool} (h : world_numbers n p0 p1 = some r) : X.RunsC 105 [.c (.sc (.string p0)), dInt p1] (.tup [.c (eSl r.1), dB r.2]) := by
  unfold world_numbers at h
  refine Sys.callC' (fn := Tryz.f105) (b := b105) (by kernel_rfl) (by kernel_rfl) ?_
  by_cases h2 : p0.size < 4294967281
  case neg => exact absurd (iteF h2 h) (by simp)
  replace h := iteT h2 h
  refine Sys.to [((1, 1), .op { d := .c (.sl false true (cells (splitS p0 (⟨#[58]⟩ : ByteArray))) ((splitS p0 (⟨#[58]⟩ : ByteArray)).length)) })] 2 (.at [1, 1, 0, 0]) ⟨fl [(1, dInt p1), (6, .c (.sl false true (cells (splitS p0 (⟨#[58]⟩ : ByteArray))) ((splitS p0 (⟨#[58]⟩ : ByteArray)).length)))], ⟨[], []⟩⟩ (splitP_eq [] (s := p0) (sep := (⟨#[58]⟩ : ByteArray)) h2 (by decide)) (by kernel_rfl) ?_
  by_cases h4 : ((splitS p0 (⟨#[58]⟩ : ByteArray)).length : Int) ≠ p1
  · replace h := iteT h4 h
    have hr := Option.some.inj h
    subst hr
    exact Sys.endC [((2, 3), .b true)] (h4) (by kernel_rfl)
  · replace h := iteF h4 h
    by_cases h6 : 0 ≤ p1
    case neg => exact absurd (iteF h6 h) (by simp)
    replace h := iteT h6 h
    by_cases h7 : Mk 8 p1.toNat
    case neg => exact absurd (iteF h7 h) (by simp)
    replace h := iteT h7 h
    refine Sys.to [((2, 3), .b false), ((4, 1), .mk (dcells (List.replicate p1.toNat (0 : Int))) true)] 100006 (.at [1, 1, 1, 1, 0, 1, 0]) ⟨fl [(7, .ms 0 1 0 p1.toNat 1 true), (20, .c (.sl false true (cells (splitS p0 (⟨#[58]⟩ : ByteArray))) ((splitS p0 (⟨#[58]⟩ : ByteArray)).length))), (21, dInt ((splitS p0 (⟨#[58]⟩ : ByteArray)).length : Int)), (22, dInt 0)], ⟨[⟨1, dcells (List.replicate p1.toNat (0 : Int))⟩], []⟩⟩ (And.intro (h4) (mk_okI (0 : Int) h6 h7)) (by kernel_rfl) ?_
    obtain ⟨o_2, g10, h⟩ := bindE h
    have h10 := world_numbers_L6_ok p0 p1 n n 0 (List.replicate p1.toNat (0 : Int)) _ g10
    cases o_2 with
    | r o0_2 =>
      dsimp only at h
      have hr := Option.some.inj h
      subst hr
      exact Sys.endC [((6, 1000), .code .ret ⟨fl [(4, .c (.sl true true [] 0)), (5, dB false)], ⟨[⟨1, dcells o0_2⟩], []⟩⟩)] (Sys.Loop.goM (h10 ⟨fl [(7, .ms 0 1 0 p1.toNat 1 true), (20, .c (.sl false true (cells (splitS p0 (⟨#[58]⟩ : ByteArray))) ((splitS p0 (⟨#[58]⟩ : ByteArray)).length))), (21, dInt ((splitS p0 (⟨#[58]⟩ : ByteArray)).length : Int)), (22, dInt 0)], ⟨[⟨1, dcells (List.replicate p1.toNat (0 : Int))⟩], []⟩⟩ (by kernel_rfl)) (by kernel_rfl)) (by kernel_rfl)
    | e0 v22_2 o0_3 =>
      dsimp only at h
      by_cases h12 : p1.toNat = o0_3.length
      case neg => exact absurd (iteF h12 h) (by simp)
      replace h := iteT h12 h
      have hr := Option.some.inj h
      subst hr
      refine Sys.to [((6, 1000), .code (.exit 0) ⟨fl [(7, .ms 0 1 0 p1.toNat 1 true), (20, .c (.sl false true (cells (splitS p0 (⟨#[58]⟩ : ByteArray))) ((splitS p0 (⟨#[58]⟩ : ByteArray)).length))), (21, dInt ((splitS p0 (⟨#[58]⟩ : ByteArray)).length : Int)), (22, dInt v22_2), (23, dB false)], ⟨[⟨1, dcells o0_3⟩], []⟩⟩)] 999999 (.fin .ret) ⟨fl [(4, .ms 0 1 0 p1.toNat 1 true), (5, dB true)], ⟨[⟨1, dcells o0_3⟩], []⟩⟩ (Sys.Loop.goM (h10 ⟨fl [(7, .ms 0 1 0 p1.toNat 1 true), (20, .c (.sl false true (cells (splitS p0 (⟨#[58]⟩ : ByteArray))) ((splitS p0 (⟨#[58]⟩ : ByteArray)).length))), (21, dInt ((splitS p0 (⟨#[58]⟩ : ByteArray)).length : Int)), (22, dInt 0)], ⟨[⟨1, dcells (List.replicate p1.toNat (0 : Int))⟩], []⟩⟩ (by kernel_rfl)) (by kernel_rfl)) (by kernel_rfl) ?_
      exact Sys.fin ⟨rfl, (.tup [.ms 0 1 0 p1.toNat 1 true, dB true]), (by kernel_rfl), (closeTop_tup (closeList_cons (closeD_ms h12 _ (getO_of rfl rfl)) (closeList_cons (rfl) (closeList_nil _))))⟩
def world_Parse_1 (n : Nat) (p0 : Sl Int) : Option GThread :=
  (atI p0.l 0).bind fun v4 =>
  (atI p0.l 1).bind fun v7 =>
  (atI p0.l 2).bind fun v10 =>
  (atI p0.l 3).bind fun v13 =>
  (atI p0.l 4).bind fun v16 =>
  some ({ role := v4, loc := v7, state := v10, left := v13, depth := v16 } : GThread)
theorem world_Parse_1_ok {n : Nat} {p0 : Sl Int} {r : GThread} (h : world_Parse_1 n p0 = some r) : X.RunsC 55 [.c (eSl p0)] (.c (.agg (EncX.encX r))) := by
  unfold world_Parse_1 at h
  refine Sys.callC' (fn := Tryz.f55) (b := b55) (by kernel_rfl) (by kernel_rfl) ?_
  obtain ⟨v4, h2, h⟩ := bindE h
  obtain ⟨v7, h3, h⟩ := bindE h
  obtain ⟨v10, h4, h⟩ := bindE h
  obtain ⟨v13, h5, h⟩ := bindE h
  obtain ⟨v16, h6, h⟩ := bindE h
  have hr := Option.some.inj h
  subst hr
  exact Sys.endC [((1, 1), .ix), ((1, 2), .cell (cInt v4)), ((1, 4), .ix), ((1, 5), .cell (cInt v7)), ((1, 7), .ix), ((1, 8), .cell (cInt v10)), ((1, 10), .ix), ((1, 11), .cell (cInt v13)), ((1, 13), .ix), ((1, 14), .cell (cInt v16))] (And.intro (atI_b h2) (And.intro (cell_at 0 (c := cInt v4) rfl (atI_g h2)) (And.intro (atI_b h3) (And.intro (cell_at 0 (c := cInt v7) rfl (atI_g h3)) (And.intro (atI_b h4) (And.intro (cell_at 0 (c := cInt v10) rfl (atI_g h4)) (And.intro (atI_b h5) (And.intro (cell_at 0 (c := cInt v13) rfl (atI_g h5)) (And.intro (atI_b h6) (cell_at 0 (c := cInt v16) rfl (atI_g h6))))))))))) (by kernel_rfl)
inductive world_row_L2O where
  | r
  | e0 (v6 : List GThread) (v14 : Int)
def world_row_L2x : world_row_L2O → Ex
  | .r => .ret
  | .e0 _ _ => (.exit 0)
def world_row_L2s (p0 : Sl ByteArray) (p1 : Int) : world_row_L2O → S
  | .r => ⟨fl [(6, .c (.sl true true [] 0)), (7, dB false)], ⟨[], []⟩⟩
  | .e0 v6 v14 => ⟨fl [(1, dInt p1), (2, .fn 55 [] []), (6, apl v6), (12, .c (eSl p0)), (13, dInt (p0.l.length : Int)), (14, dInt v14), (15, dB false)], ⟨[], []⟩⟩
def world_row_L2 (p0 : Sl ByteArray) (p1 : Int) (n : Nat) : Nat → List GThread → Int → Option world_row_L2O
  | 0, _, _ => none
  | k + 1, v6, v14 =>
    if v14 < (p0.l.length : Int) then
      (atI p0.l v14).bind fun v16 =>
      (world_numbers n v16 p1).bind fun (x, x_2) =>
      bif x_2 then
        (world_Parse_1 n x).bind fun x_3 =>
        if Room 40 (v6 ++ ([x_3] : List GThread)).length then if InR (v14 + 1) then world_row_L2 p0 p1 n k (v6 ++ ([x_3] : List GThread)) (v14 + 1)
        else none
        else none
      else some (.r)
    else some (.e0 v6 v14)
theorem world_row_L2_ok (p0 : Sl ByteArray) (p1 : Int) (n : Nat) : ∀ (k : Nat) (v6 : List GThread) (v14 : Int) (o : world_row_L2O), world_row_L2 p0 p1 n k v6 v14 = some o → ∀ s : S, restrS (X.an.rs 54 2) s = ⟨fl [(1, dInt p1), (2, .fn 55 [] []), (6, apl v6), (12, .c (eSl p0)), (13, dInt (p0.l.length : Int)), (14, dInt v14)], ⟨[], []⟩⟩ → X.Loop 54 34 [] (sub b54 [1, 0, 1, 0, 0]) 0 s (world_row_L2x o) (world_row_L2s p0 p1 o) := by
  intro k
  induction k with
  | zero => intro v6 v14 o h s hs; unfold world_row_L2 at h; cases h
  | succ k ih =>
    intro v6 v14 o h s hs
    unfold world_row_L2 at h
    refine Sys.loopQ hs ?_
    by_cases h1 : v14 < (p0.l.length : Int)
    · replace h := iteT h1 h
      obtain ⟨v16, h3, h⟩ := bindE h
      obtain ⟨⟨x, x_2⟩, g5, h⟩ := bindE h
      dsimp only at h
      have h5 := world_numbers_ok g5
      refine Sys.to [((2, 0), .b true), ((3, 0), .ix), ((3, 1), .cell (.sc (.string v16))), ((4, 2), .call (.tup [.c (eSl x), dB x_2]) ⟨[], []⟩)] 5 (.at [1, 1, 0, 0, 1, 1, 0, 0]) ⟨fl [(1, dInt p1), (2, .fn 55 [] []), (6, apl v6), (10, .c (eSl x)), (11, dB x_2), (12, .c (eSl p0)), (13, dInt (p0.l.length : Int)), (14, dInt v14)], ⟨[], []⟩⟩ (And.intro (h1) (And.intro (atI_b h3) (And.intro (cell_at 0 (c := .sc (.string v16)) rfl (atI_g h3)) (h5)))) (by kernel_rfl) ?_
      cases x_2 with
      | true =>
        replace h := condT h
        obtain ⟨x_3, g9, h⟩ := bindE h
        have h9 := world_Parse_1_ok g9
        by_cases h10 : Room 40 (v6 ++ ([x_3] : List GThread)).length
        case neg => exact absurd (iteF h10 h) (by simp)
        replace h := iteT h10 h
        by_cases h12 : InR (v14 + 1)
        case neg => exact absurd (iteF h12 h) (by simp)
        replace h := iteT h12 h
        refine Sys.to [((7, 3), .call (.c (.agg (EncX.encX x_3))) ⟨[], []⟩), ((7, 5), .appF (v6 ++ ([x_3] : List GThread)).isEmpty (cells (v6 ++ ([x_3] : List GThread))) (v6 ++ ([x_3] : List GThread)).length), ((8, 0), .n)] 999999 (.fin .normal) ⟨fl [(1, dInt p1), (2, .fn 55 [] []), (6, apl (v6 ++ ([x_3] : List GThread))), (12, .c (eSl p0)), (13, dInt (p0.l.length : Int)), (14, dInt (v14 + 1))], ⟨[], []⟩⟩ (And.intro (h9) (And.intro (apl_lit v6 ([x_3] : List GThread) (b := 40) (by decide) h10) (h12))) (by kernel_rfl) ?_
        exact Sys.fin (.inl ⟨rfl, ⟨fl [(1, dInt p1), (2, .fn 55 [] []), (6, apl (v6 ++ ([x_3] : List GThread))), (12, .c (eSl p0)), (13, dInt (p0.l.length : Int)), (14, dInt (v14 + 1))], ⟨[], []⟩⟩, (by kernel_rfl), ih (v6 ++ ([x_3] : List GThread)) (v14 + 1) _ h _ (by kernel_rfl)⟩)
      | false =>
        replace h := condF h
        have hr := Option.some.inj h
        subst hr
        exact Sys.endX [] (True.intro) rfl (by kernel_rfl)
    · replace h := iteF h1 h
      have hr := Option.some.inj h
      subst hr
      exact Sys.endX [((2, 0), .b false)] (h1) rfl (by kernel_rfl)

def world_row (n : Nat) (p0 : Sl ByteArray) (p1 : Int) : Option (Sl GThread × Bool) :=
  (world_row_L2 p0 p1 n n ([] : List GThread) 0).bind fun o_2 => match o_2 with
  | .r =>
    some ((Sl.nil : Sl GThread), false)
  | .e0 v6_2 v14_2 =>
    some ((Sl.gr v6_2), true)
theorem world_row_ok {n : Nat} {p0 : Sl ByteArray} {p1 : Int} {r : Sl GThread × Bool} (h : world_row n p0 p1 = some r) : X.RunsC 54 [.c (eSl p0), dInt p1, .fn 55 [] []] (.tup [.c (eSl r.1), dB r.2]) := by
  unfold world_row at h
  refine Sys.callC' (fn := Tryz.f54) (b := b54) (by kernel_rfl) (by kernel_rfl) ?_
  obtain ⟨o_2, g3, h⟩ := bindE h
  have h3 := world_row_L2_ok p0 p1 n n ([] : List GThread) 0 _ g3
  cases o_2 with
  | r =>
    dsimp only at h
    have hr := Option.some.inj h
    subst hr
    exact Sys.endC [((2, 1000), .code .ret ⟨fl [(6, .c (.sl true true [] 0)), (7, dB false)], ⟨[], []⟩⟩)] (Sys.Loop.goM (h3 ⟨fl [(1, dInt p1), (2, .fn 55 [] []), (6, apl ([] : List GThread)), (12, .c (eSl p0)), (13, dInt (p0.l.length : Int)), (14, dInt 0)], ⟨[], []⟩⟩ (by kernel_rfl)) (by kernel_rfl)) (by kernel_rfl)
  | e0 v6_2 v14_2 =>
    dsimp only at h
    have hr := Option.some.inj h
    subst hr
    exact Sys.endC [((2, 1000), .code (.exit 0) ⟨fl [(1, dInt p1), (2, .fn 55 [] []), (6, apl v6_2), (12, .c (eSl p0)), (13, dInt (p0.l.length : Int)), (14, dInt v14_2), (15, dB false)], ⟨[], []⟩⟩)] (Sys.Loop.goM (h3 ⟨fl [(1, dInt p1), (2, .fn 55 [] []), (6, apl ([] : List GThread)), (12, .c (eSl p0)), (13, dInt (p0.l.length : Int)), (14, dInt 0)], ⟨[], []⟩⟩ (by kernel_rfl)) (by kernel_rfl)) (by kernel_rfl)
def world_Parse_2 (n : Nat) (p0 : Sl Int) : Option GLock :=
  (atI p0.l 0).bind fun v4 =>
  (atI p0.l 1).bind fun v7 =>
  some ({ owner := v4, depth := v7 } : GLock)
theorem world_Parse_2_ok {n : Nat} {p0 : Sl Int} {r : GLock} (h : world_Parse_2 n p0 = some r) : X.RunsC 57 [.c (eSl p0)] (.c (.agg (EncX.encX r))) := by
  unfold world_Parse_2 at h
  refine Sys.callC' (fn := Tryz.f57) (b := b57) (by kernel_rfl) (by kernel_rfl) ?_
  obtain ⟨v4, h2, h⟩ := bindE h
  obtain ⟨v7, h3, h⟩ := bindE h
  have hr := Option.some.inj h
  subst hr
  exact Sys.endC [((1, 1), .ix), ((1, 2), .cell (cInt v4)), ((1, 4), .ix), ((1, 5), .cell (cInt v7))] (And.intro (atI_b h2) (And.intro (cell_at 0 (c := cInt v4) rfl (atI_g h2)) (And.intro (atI_b h3) (cell_at 0 (c := cInt v7) rfl (atI_g h3))))) (by kernel_rfl)
inductive world_row_2_L2O where
  | r
  | e0 (v6 : List GLock) (v14 : Int)
def world_row_2_L2x : world_row_2_L2O → Ex
  | .r => .ret
  | .e0 _ _ => (.exit 0)
def world_row_2_L2s (p0 : Sl ByteArray) (p1 : Int) : world_row_2_L2O → S
  | .r => ⟨fl [(6, .c (.sl true true [] 0)), (7, dB false)], ⟨[], []⟩⟩
  | .e0 v6 v14 => ⟨fl [(1, dInt p1), (2, .fn 57 [] []), (6, apl v6), (12, .c (eSl p0)), (13, dInt (p0.l.length : Int)), (14, dInt v14), (15, dB false)], ⟨[], []⟩⟩
def world_row_2_L2 (p0 : Sl ByteArray) (p1 : Int) (n : Nat) : Nat → List GLock → Int → Option world_row_2_L2O
  | 0, _, _ => none
  | k + 1, v6, v14 =>
    if v14 < (p0.l.length : Int) then
      (atI p0.l v14).bind fun v16 =>
      (world_numbers n v16 p1).bind fun (x, x_2) =>
      bif x_2 then
        (world_Parse_2 n x).bind fun x_3 =>
        if Room 16 (v6 ++ ([x_3] : List GLock)).length then if InR (v14 + 1) then world_row_2_L2 p0 p1 n k (v6 ++ ([x_3] : List GLock)) (v14 + 1)
        else none
        else none
      else some (.r)
    else some (.e0 v6 v14)
theorem world_row_2_L2_ok (p0 : Sl ByteArray) (p1 : Int) (n : Nat) : ∀ (k : Nat) (v6 : List GLock) (v14 : Int) (o : world_row_2_L2O), world_row_2_L2 p0 p1 n k v6 v14 = some o → ∀ s : S, restrS (X.an.rs 56 2) s = ⟨fl [(1, dInt p1), (2, .fn 57 [] []), (6, apl v6), (12, .c (eSl p0)), (13, dInt (p0.l.length : Int)), (14, dInt v14)], ⟨[], []⟩⟩ → X.Loop 56 34 [] (sub b56 [1, 0, 1, 0, 0]) 0 s (world_row_2_L2x o) (world_row_2_L2s p0 p1 o) := by
  intro k
  induction k with
  | zero => intro v6 v14 o h s hs; unfold world_row_2_L2 at h; cases h
  | succ k ih =>
    intro v6 v14 o h s hs
    unfold world_row_2_L2 at h
    refine Sys.loopQ hs ?_
    by_cases h1 : v14 < (p0.l.length : Int)
    · replace h := iteT h1 h
      obtain ⟨v16, h3, h⟩ := bindE h
      obtain ⟨⟨x, x_2⟩, g5, h⟩ := bindE h
      dsimp only at h
      have h5 := world_numbers_ok g5
      refine Sys.to [((2, 0), .b true), ((3, 0), .ix), ((3, 1), .cell (.sc (.string v16))), ((4, 2), .call (.tup [.c (eSl x), dB x_2]) ⟨[], []⟩)] 5 (.at [1, 1, 0, 0, 1, 1, 0, 0]) ⟨fl [(1, dInt p1), (2, .fn 57 [] []), (6, apl v6), (10, .c (eSl x)), (11, dB x_2), (12, .c (eSl p0)), (13, dInt (p0.l.length : Int)), (14, dInt v14)], ⟨[], []⟩⟩ (And.intro (h1) (And.intro (atI_b h3) (And.intro (cell_at 0 (c := .sc (.string v16)) rfl (atI_g h3)) (h5)))) (by kernel_rfl) ?_
      cases x_2 with
      | true =>
        replace h := condT h
        obtain ⟨x_3, g9, h⟩ := bindE h
        have h9 := world_Parse_2_ok g9
        by_cases h10 : Room 16 (v6 ++ ([x_3] : List GLock)).length
        case neg => exact absurd (iteF h10 h) (by simp)
        replace h := iteT h10 h
        by_cases h12 : InR (v14 + 1)
        case neg => exact absurd (iteF h12 h) (by simp)
        replace h := iteT h12 h
        refine Sys.to [((7, 3), .call (.c (.agg (EncX.encX x_3))) ⟨[], []⟩), ((7, 5), .appF (v6 ++ ([x_3] : List GLock)).isEmpty (cells (v6 ++ ([x_3] : List GLock))) (v6 ++ ([x_3] : List GLock)).length), ((8, 0), .n)] 999999 (.fin .normal) ⟨fl [(1, dInt p1), (2, .fn 57 [] []), (6, apl (v6 ++ ([x_3] : List GLock))), (12, .c (eSl p0)), (13, dInt (p0.l.length : Int)), (14, dInt (v14 + 1))], ⟨[], []⟩⟩ (And.intro (h9) (And.intro (apl_lit v6 ([x_3] : List GLock) (b := 16) (by decide) h10) (h12))) (by kernel_rfl) ?_
        exact Sys.fin (.inl ⟨rfl, ⟨fl [(1, dInt p1), (2, .fn 57 [] []), (6, apl (v6 ++ ([x_3] : List GLock))), (12, .c (eSl p0)), (13, dInt (p0.l.length : Int)), (14, dInt (v14 + 1))], ⟨[], []⟩⟩, (by kernel_rfl), ih (v6 ++ ([x_3] : List GLock)) (v14 + 1) _ h _ (by kernel_rfl)⟩)
      | false =>
        replace h := condF h
        have hr := Option.some.inj h
        subst hr
        exact Sys.endX [] (True.intro) rfl (by kernel_rfl)
    · replace h := iteF h1 h
      have hr := Option.some.inj h
      subst hr
      exact Sys.endX [((2, 0), .b false)] (h1) rfl (by kernel_rfl)

def world_row_2 (n : Nat) (p0 : Sl ByteArray) (p1 : Int) : Option (Sl GLock × Bool) :=
  (world_row_2_L2 p0 p1 n n ([] : List GLock) 0).bind fun o_2 => match o_2 with
  | .r =>
    some ((Sl.nil : Sl GLock), false)
  | .e0 v6_2 v14_2 =>
    some ((Sl.gr v6_2), true)
theorem world_row_2_ok {n : Nat} {p0 : Sl ByteArray} {p1 : Int} {r : Sl GLock × Bool} (h : world_row_2 n p0 p1 = some r) : X.RunsC 56 [.c (eSl p0), dInt p1, .fn 57 [] []] (.tup [.c (eSl r.1), dB r.2]) := by
  unfold world_row_2 at h
  refine Sys.callC' (fn := Tryz.f56) (b := b56) (by kernel_rfl) (by kernel_rfl) ?_
  obtain ⟨o_2, g3, h⟩ := bindE h
  have h3 := world_row_2_L2_ok p0 p1 n n ([] : List GLock) 0 _ g3
  cases o_2 with
  | r =>
    dsimp only at h
    have hr := Option.some.inj h
    subst hr
    exact Sys.endC [((2, 1000), .code .ret ⟨fl [(6, .c (.sl true true [] 0)), (7, dB false)], ⟨[], []⟩⟩)] (Sys.Loop.goM (h3 ⟨fl [(1, dInt p1), (2, .fn 57 [] []), (6, apl ([] : List GLock)), (12, .c (eSl p0)), (13, dInt (p0.l.length : Int)), (14, dInt 0)], ⟨[], []⟩⟩ (by kernel_rfl)) (by kernel_rfl)) (by kernel_rfl)
  | e0 v6_2 v14_2 =>
    dsimp only at h
    have hr := Option.some.inj h
    subst hr
    exact Sys.endC [((2, 1000), .code (.exit 0) ⟨fl [(1, dInt p1), (2, .fn 57 [] []), (6, apl v6_2), (12, .c (eSl p0)), (13, dInt (p0.l.length : Int)), (14, dInt v14_2), (15, dB false)], ⟨[], []⟩⟩)] (Sys.Loop.goM (h3 ⟨fl [(1, dInt p1), (2, .fn 57 [] []), (6, apl ([] : List GLock)), (12, .c (eSl p0)), (13, dInt (p0.l.length : Int)), (14, dInt 0)], ⟨[], []⟩⟩ (by kernel_rfl)) (by kernel_rfl)) (by kernel_rfl)
def world_Parse_3 (n : Nat) (p0 : Sl Int) : Option Int :=
  (atI p0.l 0).bind fun v4 =>
  some v4
theorem world_Parse_3_ok {n : Nat} {p0 : Sl Int} {r : Int} (h : world_Parse_3 n p0 = some r) : X.RunsC 59 [.c (eSl p0)] (dInt r) := by
  unfold world_Parse_3 at h
  refine Sys.callC' (fn := Tryz.f59) (b := b59) (by kernel_rfl) (by kernel_rfl) ?_
  obtain ⟨v4, h2, h⟩ := bindE h
  have hr := Option.some.inj h
  subst hr
  exact Sys.endC [((1, 1), .ix), ((1, 2), .cell (cInt v4))] (And.intro (atI_b h2) (cell_at 0 (c := cInt v4) rfl (atI_g h2))) (by kernel_rfl)
inductive world_row_3_L2O where
  | r
  | e0 (v6 : List Int) (v14 : Int)
def world_row_3_L2x : world_row_3_L2O → Ex
  | .r => .ret
  | .e0 _ _ => (.exit 0)
def world_row_3_L2s (p0 : Sl ByteArray) (p1 : Int) : world_row_3_L2O → S
  | .r => ⟨fl [(6, .c (.sl true true [] 0)), (7, dB false)], ⟨[], []⟩⟩
  | .e0 v6 v14 => ⟨fl [(1, dInt p1), (2, .fn 59 [] []), (6, apl v6), (12, .c (eSl p0)), (13, dInt (p0.l.length : Int)), (14, dInt v14), (15, dB false)], ⟨[], []⟩⟩
def world_row_3_L2 (p0 : Sl ByteArray) (p1 : Int) (n : Nat) : Nat → List Int → Int → Option world_row_3_L2O
  | 0, _, _ => none
  | k + 1, v6, v14 =>
    if v14 < (p0.l.length : Int) then
      (atI p0.l v14).bind fun v16 =>
      (world_numbers n v16 p1).bind fun (x, x_2) =>
      bif x_2 then
        (world_Parse_3 n x).bind fun x_3 =>
        if Room 8 (v6 ++ ([x_3] : List Int)).length then if InR (v14 + 1) then world_row_3_L2 p0 p1 n k (v6 ++ ([x_3] : List Int)) (v14 + 1)
        else none
        else none
      else some (.r)
    else some (.e0 v6 v14)
theorem world_row_3_L2_ok (p0 : Sl ByteArray) (p1 : Int) (n : Nat) : ∀ (k : Nat) (v6 : List Int) (v14 : Int) (o : world_row_3_L2O), world_row_3_L2 p0 p1 n k v6 v14 = some o → ∀ s : S, restrS (X.an.rs 58 2) s = ⟨fl [(1, dInt p1), (2, .fn 59 [] []), (6, apl v6), (12, .c (eSl p0)), (13, dInt (p0.l.length : Int)), (14, dInt v14)], ⟨[], []⟩⟩ → X.Loop 58 34 [] (sub b58 [1, 0, 1, 0, 0]) 0 s (world_row_3_L2x o) (world_row_3_L2s p0 p1 o) := by
  intro k
  induction k with
  | zero => intro v6 v14 o h s hs; unfold world_row_3_L2 at h; cases h
  | succ k ih =>
    intro v6 v14 o h s hs
    unfold world_row_3_L2 at h
    refine Sys.loopQ hs ?_
    by_cases h1 : v14 < (p0.l.length : Int)
    · replace h := iteT h1 h
      obtain ⟨v16, h3, h⟩ := bindE h
      obtain ⟨⟨x, x_2⟩, g5, h⟩ := bindE h
      dsimp only at h
      have h5 := world_numbers_ok g5
      refine Sys.to [((2, 0), .b true), ((3, 0), .ix), ((3, 1), .cell (.sc (.string v16))), ((4, 2), .call (.tup [.c (eSl x), dB x_2]) ⟨[], []⟩)] 5 (.at [1, 1, 0, 0, 1, 1, 0, 0]) ⟨fl [(1, dInt p1), (2, .fn 59 [] []), (6, apl v6), (10, .c (eSl x)), (11, dB x_2), (12, .c (eSl p0)), (13, dInt (p0.l.length : Int)), (14, dInt v14)], ⟨[], []⟩⟩ (And.intro (h1) (And.intro (atI_b h3) (And.intro (cell_at 0 (c := .sc (.string v16)) rfl (atI_g h3)) (h5)))) (by kernel_rfl) ?_
      cases x_2 with
      | true =>
        replace h := condT h
        obtain ⟨x_3, g9, h⟩ := bindE h
        have h9 := world_Parse_3_ok g9
        by_cases h10 : Room 8 (v6 ++ ([x_3] : List Int)).length
        case neg => exact absurd (iteF h10 h) (by simp)
        replace h := iteT h10 h
        by_cases h12 : InR (v14 + 1)
        case neg => exact absurd (iteF h12 h) (by simp)
        replace h := iteT h12 h
        refine Sys.to [((7, 3), .call (dInt x_3) ⟨[], []⟩), ((7, 5), .appF (v6 ++ ([x_3] : List Int)).isEmpty (cells (v6 ++ ([x_3] : List Int))) (v6 ++ ([x_3] : List Int)).length), ((8, 0), .n)] 999999 (.fin .normal) ⟨fl [(1, dInt p1), (2, .fn 59 [] []), (6, apl (v6 ++ ([x_3] : List Int))), (12, .c (eSl p0)), (13, dInt (p0.l.length : Int)), (14, dInt (v14 + 1))], ⟨[], []⟩⟩ (And.intro (h9) (And.intro (apl_lit v6 ([x_3] : List Int) (b := 8) (by decide) h10) (h12))) (by kernel_rfl) ?_
        exact Sys.fin (.inl ⟨rfl, ⟨fl [(1, dInt p1), (2, .fn 59 [] []), (6, apl (v6 ++ ([x_3] : List Int))), (12, .c (eSl p0)), (13, dInt (p0.l.length : Int)), (14, dInt (v14 + 1))], ⟨[], []⟩⟩, (by kernel_rfl), ih (v6 ++ ([x_3] : List Int)) (v14 + 1) _ h _ (by kernel_rfl)⟩)
      | false =>
        replace h := condF h
        have hr := Option.some.inj h
        subst hr
        exact Sys.endX [] (True.intro) rfl (by kernel_rfl)
    · replace h := iteF h1 h
      have hr := Option.some.inj h
      subst hr
      exact Sys.endX [((2, 0), .b false)] (h1) rfl (by kernel_rfl)

def world_row_3 (n : Nat) (p0 : Sl ByteArray) (p1 : Int) : Option (Sl Int × Bool) :=
  (world_row_3_L2 p0 p1 n n ([] : List Int) 0).bind fun o_2 => match o_2 with
  | .r =>
    some ((Sl.nil : Sl Int), false)
  | .e0 v6_2 v14_2 =>
    some ((Sl.gr v6_2), true)
theorem world_row_3_ok {n : Nat} {p0 : Sl ByteArray} {p1 : Int} {r : Sl Int × Bool} (h : world_row_3 n p0 p1 = some r) : X.RunsC 58 [.c (eSl p0), dInt p1, .fn 59 [] []] (.tup [.c (eSl r.1), dB r.2]) := by
  unfold world_row_3 at h
  refine Sys.callC' (fn := Tryz.f58) (b := b58) (by kernel_rfl) (by kernel_rfl) ?_
  obtain ⟨o_2, g3, h⟩ := bindE h
  have h3 := world_row_3_L2_ok p0 p1 n n ([] : List Int) 0 _ g3
  cases o_2 with
  | r =>
    dsimp only at h
    have hr := Option.some.inj h
    subst hr
    exact Sys.endC [((2, 1000), .code .ret ⟨fl [(6, .c (.sl true true [] 0)), (7, dB false)], ⟨[], []⟩⟩)] (Sys.Loop.goM (h3 ⟨fl [(1, dInt p1), (2, .fn 59 [] []), (6, apl ([] : List Int)), (12, .c (eSl p0)), (13, dInt (p0.l.length : Int)), (14, dInt 0)], ⟨[], []⟩⟩ (by kernel_rfl)) (by kernel_rfl)) (by kernel_rfl)
  | e0 v6_2 v14_2 =>
    dsimp only at h
    have hr := Option.some.inj h
    subst hr
    exact Sys.endC [((2, 1000), .code (.exit 0) ⟨fl [(1, dInt p1), (2, .fn 59 [] []), (6, apl v6_2), (12, .c (eSl p0)), (13, dInt (p0.l.length : Int)), (14, dInt v14_2), (15, dB false)], ⟨[], []⟩⟩)] (Sys.Loop.goM (h3 ⟨fl [(1, dInt p1), (2, .fn 59 [] []), (6, apl ([] : List Int)), (12, .c (eSl p0)), (13, dInt (p0.l.length : Int)), (14, dInt 0)], ⟨[], []⟩⟩ (by kernel_rfl)) (by kernel_rfl)) (by kernel_rfl)
inductive world_joined_L3O where
  | e0 (v11 : Int) (o0 : List ByteArray)
def world_joined_L3x : world_joined_L3O → Ex
  | .e0 _ _ => (.exit 0)
def world_joined_L3s (p0 : Sl Int) : world_joined_L3O → S
  | .e0 v11 o0 => ⟨fl [(3, .ms 0 1 0 p0.l.length 1 true), (9, .c (eSl p0)), (10, dInt (p0.l.length : Int)), (11, dInt v11), (12, dB false)], ⟨[⟨1, dcells o0⟩], []⟩⟩
def world_joined_L3 (p0 : Sl Int) (n : Nat) : Nat → Int → List ByteArray → Option world_joined_L3O
  | 0, _, _ => none
  | k + 1, v11, o0 =>
    if v11 < (p0.l.length : Int) then
      (atI p0.l v11).bind fun v14 =>
      if InR v14 then if 0 ≤ v11 ∧ v11 < (p0.l.length : Int) then (atI o0 v11).bind fun w0 =>
      if InR (v11 + 1) then world_joined_L3 p0 n k (v11 + 1) (o0.set v11.toNat (itoaB v14))
      else none
      else none
      else none
    else some (.e0 v11 o0)
theorem world_joined_L3_ok (p0 : Sl Int) (n : Nat) : ∀ (k : Nat) (v11 : Int) (o0 : List ByteArray) (o : world_joined_L3O), world_joined_L3 p0 n k v11 o0 = some o → ∀ s : S, restrS (X.an.rs 66 3) s = ⟨fl [(3, .ms 0 1 0 p0.l.length 1 true), (9, .c (eSl p0)), (10, dInt (p0.l.length : Int)), (11, dInt v11)], ⟨[⟨1, dcells o0⟩], []⟩⟩ → X.Loop 66 24 [] (sub b66 [1, 1, 0, 1, 0, 0]) 1 s (world_joined_L3x o) (world_joined_L3s p0 o) := by
  intro k
  induction k with
  | zero => intro v11 o0 o h s hs; unfold world_joined_L3 at h; cases h
  | succ k ih =>
    intro v11 o0 o h s hs
    unfold world_joined_L3 at h
    refine Sys.loopQ hs ?_
    by_cases h1 : v11 < (p0.l.length : Int)
    · replace h := iteT h1 h
      obtain ⟨v14, h3, h⟩ := bindE h
      by_cases h5 : InR v14
      case neg => exact absurd (iteF h5 h) (by simp)
      replace h := iteT h5 h
      by_cases h6 : 0 ≤ v11 ∧ v11 < (p0.l.length : Int)
      case neg => exact absurd (iteF h6 h) (by simp)
      replace h := iteT h6 h
      obtain ⟨w0, h7, h⟩ := bindE h
      by_cases h9 : InR (v11 + 1)
      case neg => exact absurd (iteF h9 h) (by simp)
      replace h := iteT h9 h
      refine Sys.to [((3, 0), .b true), ((4, 1), .ix), ((4, 2), .cell (cInt v14)), ((5, 3), .op { d := .c (.sc (.string (itoaB v14))) }), ((5, 4), .ix), ((5, 5), .st (dcells (o0.set v11.toNat (itoaB v14)))), ((6, 0), .n)] 999999 (.fin .normal) ⟨fl [(3, .ms 0 1 0 p0.l.length 1 true), (9, .c (eSl p0)), (10, dInt (p0.l.length : Int)), (11, dInt (v11 + 1))], ⟨[⟨1, dcells (o0.set v11.toNat (itoaB v14))⟩], []⟩⟩ (And.intro (h1) (And.intro (atI_b h3) (And.intro (cell_at 0 (c := cInt v14) rfl (atI_g h3)) (And.intro (fmtIntP_eq [⟨1, dcells o0⟩] (n := v14) h5) (And.intro (h6) (And.intro (And.intro (rfl : (1 : Nat) = 1) (dst_part 0 [.c (.sc (.string (itoaB v14)))] (itoaB v14) (atI_g h7) rfl (Nat.le_of_ble_eq_true rfl))) (h9))))))) (by kernel_rfl) ?_
      exact Sys.fin (.inl ⟨rfl, ⟨fl [(3, .ms 0 1 0 p0.l.length 1 true), (9, .c (eSl p0)), (10, dInt (p0.l.length : Int)), (11, dInt (v11 + 1))], ⟨[⟨1, dcells (o0.set v11.toNat (itoaB v14))⟩], []⟩⟩, (by kernel_rfl), ih (v11 + 1) (o0.set v11.toNat (itoaB v14)) _ h _ (by kernel_rfl)⟩)
    · replace h := iteF h1 h
      have hr := Option.some.inj h
      subst hr
      exact Sys.endX [((3, 0), .b false)] (h1) rfl (by kernel_rfl)

def world_joined (n : Nat) (p0 : Sl Int) : Option ByteArray :=
  if Mk 16 p0.l.length then (world_joined_L3 p0 n n 0 (List.replicate p0.l.length ((⟨#[]⟩ : ByteArray) : ByteArray))).bind fun o_2 => match o_2 with
  | .e0 v11_2 o0_2 =>
    if p0.l.length = o0_2.length then if o0_2.length ≤ 140737488355328 then if (joinB o0_2 (⟨#[58]⟩ : ByteArray)).size ≤ 140737488355328 then some (joinB o0_2 (⟨#[58]⟩ : ByteArray))
    else none
    else none
    else none
  else none
theorem world_joined_ok {n : Nat} {p0 : Sl Int} {r : ByteArray} (h : world_joined n p0 = some r) : X.RunsC 66 [.c (eSl p0)] (.c (.sc (.string r))) := by
  unfold world_joined at h
  refine Sys.callC' (fn := Tryz.f66) (b := b66) (by kernel_rfl) (by kernel_rfl) ?_
  by_cases h2 : Mk 16 p0.l.length
  case neg => exact absurd (iteF h2 h) (by simp)
  replace h := iteT h2 h
  obtain ⟨o_2, g5, h⟩ := bindE h
  have h5 := world_joined_L3_ok p0 n n 0 (List.replicate p0.l.length ((⟨#[]⟩ : ByteArray) : ByteArray)) _ g5
  cases o_2 with
  | e0 v11_2 o0_2 =>
    dsimp only at h
    by_cases h7 : p0.l.length = o0_2.length
    case neg => exact absurd (iteF h7 h) (by simp)
    replace h := iteT h7 h
    by_cases h8 : o0_2.length ≤ 140737488355328
    case neg => exact absurd (iteF h8 h) (by simp)
    replace h := iteT h8 h
    by_cases h9 : (joinB o0_2 (⟨#[58]⟩ : ByteArray)).size ≤ 140737488355328
    case neg => exact absurd (iteF h9 h) (by simp)
    replace h := iteT h9 h
    have hr := Option.some.inj h
    subst hr
    exact Sys.endC [((1, 2), .mk (dcells (List.replicate p0.l.length ((⟨#[]⟩ : ByteArray) : ByteArray))) true), ((3, 1000), .code (.exit 0) ⟨fl [(3, .ms 0 1 0 p0.l.length 1 true), (9, .c (eSl p0)), (10, dInt (p0.l.length : Int)), (11, dInt v11_2), (12, dB false)], ⟨[⟨1, dcells o0_2⟩], []⟩⟩), ((7, 0), .op { d := .c (.sl false true (cells o0_2) o0_2.length), set := some (0, ⟨2, []⟩) }), ((7, 1), .op { d := .c (.sc (.string (joinB o0_2 (⟨#[58]⟩ : ByteArray)))) })] (And.intro (mk_ok ((⟨#[]⟩ : ByteArray) : ByteArray) h2) (And.intro (Sys.Loop.goM (h5 ⟨fl [(3, .ms 0 1 0 p0.l.length 1 true), (9, .c (eSl p0)), (10, dInt (p0.l.length : Int)), (11, dInt 0)], ⟨[⟨1, dcells (List.replicate p0.l.length ((⟨#[]⟩ : ByteArray) : ByteArray))⟩], []⟩⟩ (by kernel_rfl)) (by kernel_rfl)) (And.intro (freeze_ok (st := [⟨1, dcells o0_2⟩]) (id := 0) (ver := 1) (x := true) (l := o0_2) rfl h7) (joinP_eq [⟨2, []⟩] (nl := false) (x := true) (xs := o0_2) (sep := (⟨#[58]⟩ : ByteArray)) h8 h9)))) (by kernel_rfl)
inductive world_Text_L3O where
  | e0 (v3 : List ByteArray) (v13 : Int)
def world_Text_L3x : world_Text_L3O → Ex
  | .e0 _ _ => (.exit 0)
def world_Text_L3s (p0 : GWorld) : world_Text_L3O → S
  | .e0 v3 v13 => ⟨fl [(1, .pt 0 1 0), (3, apl v3), (11, .c (eSl p0.threads)), (12, dInt (p0.threads.l.length : Int)), (13, dInt v13), (14, dB false)], ⟨[⟨1, (EncX.encX p0).map DV.c⟩], []⟩⟩
def world_Text_L3 (p0 : GWorld) (n : Nat) : Nat → List ByteArray → Int → Option world_Text_L3O
  | 0, _, _ => none
  | k + 1, v3, v13 =>
    if v13 < (p0.threads.l.length : Int) then
      (atI p0.threads.l v13).bind fun v15 =>
      (world_joined n (⟨false, true, ([v15.role, v15.loc, v15.state, v15.left, v15.depth] : List Int)⟩ : Sl Int)).bind fun x =>
      if Room 16 (v3 ++ ([x] : List ByteArray)).length then if InR (v13 + 1) then world_Text_L3 p0 n k (v3 ++ ([x] : List ByteArray)) (v13 + 1)
      else none
      else none
    else some (.e0 v3 v13)
theorem world_Text_L3_ok (p0 : GWorld) (n : Nat) : ∀ (k : Nat) (v3 : List ByteArray) (v13 : Int) (o : world_Text_L3O), world_Text_L3 p0 n k v3 v13 = some o → ∀ s : S, restrS (X.an.rs 27 3) s = ⟨fl [(1, .pt 0 1 0), (3, apl v3), (11, .c (eSl p0.threads)), (12, dInt (p0.threads.l.length : Int)), (13, dInt v13)], ⟨[⟨1, (EncX.encX p0).map DV.c⟩], []⟩⟩ → X.Loop 27 72 [] (sub b27 [1, 1, 0, 1, 0, 0]) 1 s (world_Text_L3x o) (world_Text_L3s p0 o) := by
  intro k
  induction k with
  | zero => intro v3 v13 o h s hs; unfold world_Text_L3 at h; cases h
  | succ k ih =>
    intro v3 v13 o h s hs
    unfold world_Text_L3 at h
    refine Sys.loopQ hs ?_
    by_cases h1 : v13 < (p0.threads.l.length : Int)
    · replace h := iteT h1 h
      obtain ⟨v15, h3, h⟩ := bindE h
      obtain ⟨x, g5, h⟩ := bindE h
      have h5 := world_joined_ok g5
      by_cases h6 : Room 16 (v3 ++ ([x] : List ByteArray)).length
      case neg => exact absurd (iteF h6 h) (by simp)
      replace h := iteT h6 h
      by_cases h8 : InR (v13 + 1)
      case neg => exact absurd (iteF h8 h) (by simp)
      replace h := iteT h8 h
      refine Sys.to [((3, 0), .b true), ((4, 0), .ix), ((4, 1), .agg (EncX.encX v15)), ((5, 12), .call (.c (.sc (.string x))) ⟨[], []⟩), ((5, 14), .appF (v3 ++ ([x] : List ByteArray)).isEmpty (cells (v3 ++ ([x] : List ByteArray))) (v3 ++ ([x] : List ByteArray)).length), ((6, 0), .n)] 999999 (.fin .normal) ⟨fl [(1, .pt 0 1 0), (3, apl (v3 ++ ([x] : List ByteArray))), (11, .c (eSl p0.threads)), (12, dInt (p0.threads.l.length : Int)), (13, dInt (v13 + 1))], ⟨[⟨1, (EncX.encX p0).map DV.c⟩, ⟨1, (EncX.encX v15).map DV.c⟩], []⟩⟩ (And.intro (h1) (And.intro (atI_b h3) (And.intro (span_at 0 5 (by decide) (atI_g h3)) (And.intro (h5) (And.intro (apl_lit v3 ([x] : List ByteArray) (b := 16) (by decide) h6) (h8)))))) (by kernel_rfl) ?_
      exact Sys.fin (.inl ⟨rfl, ⟨fl [(1, .pt 0 1 0), (3, apl (v3 ++ ([x] : List ByteArray))), (11, .c (eSl p0.threads)), (12, dInt (p0.threads.l.length : Int)), (13, dInt (v13 + 1))], ⟨[⟨1, (EncX.encX p0).map DV.c⟩], []⟩⟩, (cut_ok (l := [1, 3, 11, 12, 13]) rfl (AllB.cons rfl (AllB.nil 1)) rfl), ih (v3 ++ ([x] : List ByteArray)) (v13 + 1) _ h _ (by kernel_rfl)⟩)
    · replace h := iteF h1 h
      have hr := Option.some.inj h
      subst hr
      exact Sys.endX [((3, 0), .b false)] (h1) rfl (by kernel_rfl)

inductive world_Text_L9O where
  | e2 (v3 : List ByteArray) (v39 : Int)
def world_Text_L9x : world_Text_L9O → Ex
  | .e2 _ _ => (.exit 2)
def world_Text_L9s (p0 : GWorld) : world_Text_L9O → S
  | .e2 v3 v39 => ⟨fl [(1, .pt 0 1 0), (3, apl v3), (37, .c (eSl p0.locks)), (38, dInt (p0.locks.l.length : Int)), (39, dInt v39), (40, dB false)], ⟨[⟨1, (EncX.encX p0).map DV.c⟩], []⟩⟩
def world_Text_L9 (p0 : GWorld) (n : Nat) : Nat → List ByteArray → Int → Option world_Text_L9O
  | 0, _, _ => none
  | k + 1, v3_9, v39 =>
    if v39 < (p0.locks.l.length : Int) then
      (atI p0.locks.l v39).bind fun v41 =>
      (world_joined n (⟨false, true, ([v41.owner, v41.depth] : List Int)⟩ : Sl Int)).bind fun x_2 =>
      if Room 16 (v3_9 ++ ([x_2] : List ByteArray)).length then if InR (v39 + 1) then world_Text_L9 p0 n k (v3_9 ++ ([x_2] : List ByteArray)) (v39 + 1)
      else none
      else none
    else some (.e2 v3_9 v39)
theorem world_Text_L9_ok (p0 : GWorld) (n : Nat) : ∀ (k : Nat) (v3_9 : List ByteArray) (v39 : Int) (o : world_Text_L9O), world_Text_L9 p0 n k v3_9 v39 = some o → ∀ s : S, restrS (X.an.rs 27 9) s = ⟨fl [(1, .pt 0 1 0), (3, apl v3_9), (37, .c (eSl p0.locks)), (38, dInt (p0.locks.l.length : Int)), (39, dInt v39)], ⟨[⟨1, (EncX.encX p0).map DV.c⟩], []⟩⟩ → X.Loop 27 72 [] (sub b27 [1, 1, 1, 1, 0, 1, 0, 0]) 1 s (world_Text_L9x o) (world_Text_L9s p0 o) := by
  intro k
  induction k with
  | zero => intro v3_9 v39 o h s hs; unfold world_Text_L9 at h; cases h
  | succ k ih =>
    intro v3_9 v39 o h s hs
    unfold world_Text_L9 at h
    refine Sys.loopQ hs ?_
    by_cases h1 : v39 < (p0.locks.l.length : Int)
    · replace h := iteT h1 h
      obtain ⟨v41, h3, h⟩ := bindE h
      obtain ⟨x_2, g5, h⟩ := bindE h
      have h5 := world_joined_ok g5
      by_cases h6 : Room 16 (v3_9 ++ ([x_2] : List ByteArray)).length
      case neg => exact absurd (iteF h6 h) (by simp)
      replace h := iteT h6 h
      by_cases h8 : InR (v39 + 1)
      case neg => exact absurd (iteF h8 h) (by simp)
      replace h := iteT h8 h
      refine Sys.to [((9, 0), .b true), ((10, 0), .ix), ((10, 1), .agg (EncX.encX v41)), ((11, 6), .call (.c (.sc (.string x_2))) ⟨[], []⟩), ((11, 8), .appF (v3_9 ++ ([x_2] : List ByteArray)).isEmpty (cells (v3_9 ++ ([x_2] : List ByteArray))) (v3_9 ++ ([x_2] : List ByteArray)).length), ((12, 0), .n)] 999999 (.fin .normal) ⟨fl [(1, .pt 0 1 0), (3, apl (v3_9 ++ ([x_2] : List ByteArray))), (37, .c (eSl p0.locks)), (38, dInt (p0.locks.l.length : Int)), (39, dInt (v39 + 1))], ⟨[⟨1, (EncX.encX p0).map DV.c⟩, ⟨1, (EncX.encX v41).map DV.c⟩], []⟩⟩ (And.intro (h1) (And.intro (atI_b h3) (And.intro (span_at 0 2 (by decide) (atI_g h3)) (And.intro (h5) (And.intro (apl_lit v3_9 ([x_2] : List ByteArray) (b := 16) (by decide) h6) (h8)))))) (by kernel_rfl) ?_
      exact Sys.fin (.inl ⟨rfl, ⟨fl [(1, .pt 0 1 0), (3, apl (v3_9 ++ ([x_2] : List ByteArray))), (37, .c (eSl p0.locks)), (38, dInt (p0.locks.l.length : Int)), (39, dInt (v39 + 1))], ⟨[⟨1, (EncX.encX p0).map DV.c⟩], []⟩⟩, (cut_ok (l := [1, 3, 37, 38, 39]) rfl (AllB.cons rfl (AllB.nil 1)) rfl), ih (v3_9 ++ ([x_2] : List ByteArray)) (v39 + 1) _ h _ (by kernel_rfl)⟩)
    · replace h := iteF h1 h
      have hr := Option.some.inj h
      subst hr
      exact Sys.endX [((9, 0), .b false)] (h1) rfl (by kernel_rfl)

inductive world_Text_L15O where
  | e4 (v3 : List ByteArray) (v59 : Int)
def world_Text_L15x : world_Text_L15O → Ex
  | .e4 _ _ => (.exit 4)
def world_Text_L15s (p0 : GWorld) : world_Text_L15O → S
  | .e4 v3 v59 => ⟨fl [(3, apl v3), (57, .c (eSl p0.vals)), (58, dInt (p0.vals.l.length : Int)), (59, dInt v59), (60, dB false)], ⟨[⟨1, (EncX.encX p0).map DV.c⟩], []⟩⟩
def world_Text_L15 (p0 : GWorld) (n : Nat) : Nat → List ByteArray → Int → Option world_Text_L15O
  | 0, _, _ => none
  | k + 1, v3_15, v59 =>
    if v59 < (p0.vals.l.length : Int) then
      (atI p0.vals.l v59).bind fun v61 =>
      (world_joined n (⟨false, true, ([v61] : List Int)⟩ : Sl Int)).bind fun x_3 =>
      if Room 16 (v3_15 ++ ([x_3] : List ByteArray)).length then if InR (v59 + 1) then world_Text_L15 p0 n k (v3_15 ++ ([x_3] : List ByteArray)) (v59 + 1)
      else none
      else none
    else some (.e4 v3_15 v59)
theorem world_Text_L15_ok (p0 : GWorld) (n : Nat) : ∀ (k : Nat) (v3_15 : List ByteArray) (v59 : Int) (o : world_Text_L15O), world_Text_L15 p0 n k v3_15 v59 = some o → ∀ s : S, restrS (X.an.rs 27 15) s = ⟨fl [(3, apl v3_15), (57, .c (eSl p0.vals)), (58, dInt (p0.vals.l.length : Int)), (59, dInt v59)], ⟨[⟨1, (EncX.encX p0).map DV.c⟩], []⟩⟩ → X.Loop 27 72 [] (sub b27 [1, 1, 1, 1, 1, 1, 0, 1, 0, 0]) 1 s (world_Text_L15x o) (world_Text_L15s p0 o) := by
  intro k
  induction k with
  | zero => intro v3_15 v59 o h s hs; unfold world_Text_L15 at h; cases h
  | succ k ih =>
    intro v3_15 v59 o h s hs
    unfold world_Text_L15 at h
    refine Sys.loopQ hs ?_
    by_cases h1 : v59 < (p0.vals.l.length : Int)
    · replace h := iteT h1 h
      obtain ⟨v61, h3, h⟩ := bindE h
      obtain ⟨x_3, g5, h⟩ := bindE h
      have h5 := world_joined_ok g5
      by_cases h6 : Room 16 (v3_15 ++ ([x_3] : List ByteArray)).length
      case neg => exact absurd (iteF h6 h) (by simp)
      replace h := iteT h6 h
      by_cases h8 : InR (v59 + 1)
      case neg => exact absurd (iteF h8 h) (by simp)
      replace h := iteT h8 h
      refine Sys.to [((15, 0), .b true), ((16, 0), .ix), ((16, 1), .cell (cInt v61)), ((17, 3), .call (.c (.sc (.string x_3))) ⟨[], []⟩), ((17, 5), .appF (v3_15 ++ ([x_3] : List ByteArray)).isEmpty (cells (v3_15 ++ ([x_3] : List ByteArray))) (v3_15 ++ ([x_3] : List ByteArray)).length), ((18, 0), .n)] 999999 (.fin .normal) ⟨fl [(3, apl (v3_15 ++ ([x_3] : List ByteArray))), (57, .c (eSl p0.vals)), (58, dInt (p0.vals.l.length : Int)), (59, dInt (v59 + 1))], ⟨[⟨1, (EncX.encX p0).map DV.c⟩], []⟩⟩ (And.intro (h1) (And.intro (atI_b h3) (And.intro (cell_at 0 (c := cInt v61) rfl (atI_g h3)) (And.intro (h5) (And.intro (apl_lit v3_15 ([x_3] : List ByteArray) (b := 16) (by decide) h6) (h8)))))) (by kernel_rfl) ?_
      exact Sys.fin (.inl ⟨rfl, ⟨fl [(3, apl (v3_15 ++ ([x_3] : List ByteArray))), (57, .c (eSl p0.vals)), (58, dInt (p0.vals.l.length : Int)), (59, dInt (v59 + 1))], ⟨[⟨1, (EncX.encX p0).map DV.c⟩], []⟩⟩, (by kernel_rfl), ih (v3_15 ++ ([x_3] : List ByteArray)) (v59 + 1) _ h _ (by kernel_rfl)⟩)
    · replace h := iteF h1 h
      have hr := Option.some.inj h
      subst hr
      exact Sys.endX [((15, 0), .b false)] (h1) rfl (by kernel_rfl)

def world_Text (n : Nat) (p0 : GWorld) : Option ByteArray :=
  (world_Text_L3 p0 n n ([] : List ByteArray) 0).bind fun o_2 => match o_2 with
  | .e0 v3_2 v13_2 =>
    if Room 16 (v3_2 ++ ([(⟨#[47]⟩ : ByteArray)] : List ByteArray)).length then (world_Text_L9 p0 n n (v3_2 ++ ([(⟨#[47]⟩ : ByteArray)] : List ByteArray)) 0).bind fun o_3 => match o_3 with
    | .e2 v3_3 v39_2 =>
      if Room 16 (v3_3 ++ ([(⟨#[47]⟩ : ByteArray)] : List ByteArray)).length then (world_Text_L15 p0 n n (v3_3 ++ ([(⟨#[47]⟩ : ByteArray)] : List ByteArray)) 0).bind fun o_4 => match o_4 with
      | .e4 v3_4 v59_2 =>
        if v3_4.length ≤ 140737488355328 then if (joinB v3_4 (⟨#[32]⟩ : ByteArray)).size ≤ 140737488355328 then some (joinB v3_4 (⟨#[32]⟩ : ByteArray))
        else none
        else none
      else none
    else none
theorem world_Text_ok {n : Nat} {p0 : GWorld} {r : ByteArray} (h : world_Text n p0 = some r) : X.RunsC 27 [.c (.agg (EncX.encX p0))] (.c (.sc (.string r))) := by
  unfold world_Text at h
  refine Sys.callC' (fn := Tryz.f27) (b := b27) (by kernel_rfl) (by kernel_rfl) ?_
  obtain ⟨o_2, g4, h⟩ := bindE h
  have h4 := world_Text_L3_ok p0 n n ([] : List ByteArray) 0 _ g4
  cases o_2 with
  | e0 v3_2 v13_2 =>
    dsimp only at h
    by_cases h6 : Room 16 (v3_2 ++ ([(⟨#[47]⟩ : ByteArray)] : List ByteArray)).length
    case neg => exact absurd (iteF h6 h) (by simp)
    replace h := iteT h6 h
    obtain ⟨o_3, g9, h⟩ := bindE h
    have h9 := world_Text_L9_ok p0 n n (v3_2 ++ ([(⟨#[47]⟩ : ByteArray)] : List ByteArray)) 0 _ g9
    cases o_3 with
    | e2 v3_3 v39_2 =>
      dsimp only at h
      by_cases h11 : Room 16 (v3_3 ++ ([(⟨#[47]⟩ : ByteArray)] : List ByteArray)).length
      case neg => exact absurd (iteF h11 h) (by simp)
      replace h := iteT h11 h
      obtain ⟨o_4, g14, h⟩ := bindE h
      have h14 := world_Text_L15_ok p0 n n (v3_3 ++ ([(⟨#[47]⟩ : ByteArray)] : List ByteArray)) 0 _ g14
      cases o_4 with
      | e4 v3_4 v59_2 =>
        dsimp only at h
        by_cases h16 : v3_4.length ≤ 140737488355328
        case neg => exact absurd (iteF h16 h) (by simp)
        replace h := iteT h16 h
        by_cases h17 : (joinB v3_4 (⟨#[32]⟩ : ByteArray)).size ≤ 140737488355328
        case neg => exact absurd (iteF h17 h) (by simp)
        replace h := iteT h17 h
        have hr := Option.some.inj h
        subst hr
        exact Sys.endC [((3, 1000), .code (.exit 0) ⟨fl [(1, .pt 0 1 0), (3, apl v3_2), (11, .c (eSl p0.threads)), (12, dInt (p0.threads.l.length : Int)), (13, dInt v13_2), (14, dB false)], ⟨[⟨1, (EncX.encX p0).map DV.c⟩], []⟩⟩), ((7, 2), .appF (v3_2 ++ ([(⟨#[47]⟩ : ByteArray)] : List ByteArray)).isEmpty (cells (v3_2 ++ ([(⟨#[47]⟩ : ByteArray)] : List ByteArray))) (v3_2 ++ ([(⟨#[47]⟩ : ByteArray)] : List ByteArray)).length), ((9, 1000), .code (.exit 2) ⟨fl [(1, .pt 0 1 0), (3, apl v3_3), (37, .c (eSl p0.locks)), (38, dInt (p0.locks.l.length : Int)), (39, dInt v39_2), (40, dB false)], ⟨[⟨1, (EncX.encX p0).map DV.c⟩], []⟩⟩), ((13, 2), .appF (v3_3 ++ ([(⟨#[47]⟩ : ByteArray)] : List ByteArray)).isEmpty (cells (v3_3 ++ ([(⟨#[47]⟩ : ByteArray)] : List ByteArray))) (v3_3 ++ ([(⟨#[47]⟩ : ByteArray)] : List ByteArray)).length), ((15, 1000), .code (.exit 4) ⟨fl [(3, apl v3_4), (57, .c (eSl p0.vals)), (58, dInt (p0.vals.l.length : Int)), (59, dInt v59_2), (60, dB false)], ⟨[⟨1, (EncX.encX p0).map DV.c⟩], []⟩⟩), ((19, 1), .op { d := .c (.sc (.string (joinB v3_4 (⟨#[32]⟩ : ByteArray)))) })] (And.intro (Sys.Loop.goM (h4 ⟨fl [(1, .pt 0 1 0), (3, apl ([] : List ByteArray)), (11, .c (eSl p0.threads)), (12, dInt (p0.threads.l.length : Int)), (13, dInt 0)], ⟨[⟨1, (EncX.encX p0).map DV.c⟩], []⟩⟩ (by kernel_rfl)) (by kernel_rfl)) (And.intro (apl_lit v3_2 ([(⟨#[47]⟩ : ByteArray)] : List ByteArray) (b := 16) (by decide) h6) (And.intro (Sys.Loop.goM (h9 ⟨fl [(1, .pt 0 1 0), (3, apl (v3_2 ++ ([(⟨#[47]⟩ : ByteArray)] : List ByteArray))), (37, .c (eSl p0.locks)), (38, dInt (p0.locks.l.length : Int)), (39, dInt 0)], ⟨[⟨1, (EncX.encX p0).map DV.c⟩], []⟩⟩ (by kernel_rfl)) (by kernel_rfl)) (And.intro (apl_lit v3_3 ([(⟨#[47]⟩ : ByteArray)] : List ByteArray) (b := 16) (by decide) h11) (And.intro (Sys.Loop.goM (h14 ⟨fl [(3, apl (v3_3 ++ ([(⟨#[47]⟩ : ByteArray)] : List ByteArray))), (57, .c (eSl p0.vals)), (58, dInt (p0.vals.l.length : Int)), (59, dInt 0)], ⟨[⟨1, (EncX.encX p0).map DV.c⟩], []⟩⟩ (by kernel_rfl)) (by kernel_rfl)) (joinP_eq [⟨1, (EncX.encX p0).map DV.c⟩] (nl := v3_4.isEmpty) (x := v3_4.isEmpty) (xs := v3_4) (sep := (⟨#[32]⟩ : ByteArray)) h16 h17)))))) (by kernel_rfl)
end Go.Proofs.YtilipgopjiokfaaGreatDoor

/-
  Functions of the program as Lean functions, and that the interpreter comes to the same: printed by the session's own tool.
-/
set_option linter.unusedVariables false
set_option linter.unusedSimpArgs false
set_option maxRecDepth 100000
set_option maxHeartbeats 1000000
namespace Go.Proofs.YtilipgopjiokfaaGreatDoor
open Go Go.Abs Go.Proofs
def world_Parse_c1 : List DV := [.c (.sl true true [] 0), .c (.sl true true [] 0), .c (.sl true true [] 0)]
def world_Parse (n : Nat) (p0 : ByteArray) : Option (GWorld × Bool) :=
  if p0.size < 4294967281 then (slices_Index n (⟨false, true, (splitS p0 (⟨#[32]⟩ : ByteArray))⟩ : Sl ByteArray) (⟨#[47]⟩ : ByteArray)).bind fun x =>
  if x < 0 then
    some (({ threads := (Sl.nil : Sl GThread), locks := (Sl.nil : Sl GLock), vals := (Sl.nil : Sl Int) } : GWorld), false)
  else if InR (x + 1) then if 0 ≤ (x + 1) ∧ (x + 1) ≤ ((splitS p0 (⟨#[32]⟩ : ByteArray)).length : Int) then (slices_Index n (⟨false, (true && (splitS p0 (⟨#[32]⟩ : ByteArray)).length == (splitS p0 (⟨#[32]⟩ : ByteArray)).length), (((splitS p0 (⟨#[32]⟩ : ByteArray)).drop ((x + 1).toNat)).take ((splitS p0 (⟨#[32]⟩ : ByteArray)).length - (x + 1).toNat))⟩ : Sl ByteArray) (⟨#[47]⟩ : ByteArray)).bind fun x_2 =>
  if x_2 < 0 then
    some (({ threads := (Sl.nil : Sl GThread), locks := (Sl.nil : Sl GLock), vals := (Sl.nil : Sl Int) } : GWorld), false)
  else if 0 ≤ x ∧ x ≤ ((splitS p0 (⟨#[32]⟩ : ByteArray)).length : Int) then (world_row n (⟨false, (true && x.toNat == (splitS p0 (⟨#[32]⟩ : ByteArray)).length), (((splitS p0 (⟨#[32]⟩ : ByteArray)).drop 0).take (x.toNat - 0))⟩ : Sl ByteArray) 5).bind fun (x_3, x_4) =>
  if InR ((x + 1) + x_2) then if 0 ≤ (x + 1) ∧ (x + 1) ≤ ((x + 1) + x_2) ∧ ((x + 1) + x_2) ≤ ((splitS p0 (⟨#[32]⟩ : ByteArray)).length : Int) then (world_row_2 n (⟨false, (true && ((x + 1) + x_2).toNat == (splitS p0 (⟨#[32]⟩ : ByteArray)).length), (((splitS p0 (⟨#[32]⟩ : ByteArray)).drop ((x + 1).toNat)).take (((x + 1) + x_2).toNat - (x + 1).toNat))⟩ : Sl ByteArray) 2).bind fun (x_5, x_6) =>
  if InR (x + 2) then if InR ((x + 2) + x_2) then if 0 ≤ ((x + 2) + x_2) ∧ ((x + 2) + x_2) ≤ ((splitS p0 (⟨#[32]⟩ : ByteArray)).length : Int) then (world_row_3 n (⟨false, (true && (splitS p0 (⟨#[32]⟩ : ByteArray)).length == (splitS p0 (⟨#[32]⟩ : ByteArray)).length), (((splitS p0 (⟨#[32]⟩ : ByteArray)).drop (((x + 2) + x_2).toNat)).take ((splitS p0 (⟨#[32]⟩ : ByteArray)).length - ((x + 2) + x_2).toNat))⟩ : Sl ByteArray) 1).bind fun (x_7, x_8) =>
  bif x_4 then
    bif x_6 then
      bif x_8 then
        (world_Text n ({ threads := x_3, locks := x_5, vals := x_7 } : GWorld)).bind fun x_9 =>
        if x_9 = p0 then
          some (({ threads := x_3, locks := x_5, vals := x_7 } : GWorld), true)
        else some (({ threads := (Sl.nil : Sl GThread), locks := (Sl.nil : Sl GLock), vals := (Sl.nil : Sl Int) } : GWorld), false)
      else some (({ threads := (Sl.nil : Sl GThread), locks := (Sl.nil : Sl GLock), vals := (Sl.nil : Sl Int) } : GWorld), false)
    else some (({ threads := (Sl.nil : Sl GThread), locks := (Sl.nil : Sl GLock), vals := (Sl.nil : Sl Int) } : GWorld), false)
  else some (({ threads := (Sl.nil : Sl GThread), locks := (Sl.nil : Sl GLock), vals := (Sl.nil : Sl Int) } : GWorld), false)
  else none
  else none
  else none
  else none
  else none
  else none
  else none
  else none
  else none
theorem world_Parse_ok {n : Nat} {p0 : ByteArray} {r : GWorld × Bool} (h : world_Parse n p0 = some r) : X.RunsC 23 [.c (.sc (.string p0))] (.tup [.c (.agg (EncX.encX r.1)), dB r.2]) := by
  unfold world_Parse at h
  refine Sys.callC' (fn := Tryz.f23) (b := b23) (by kernel_rfl) (by kernel_rfl) ?_
  by_cases h2 : p0.size < 4294967281
  case neg => exact absurd (iteF h2 h) (by simp)
  replace h := iteT h2 h
  obtain ⟨x, g4, h⟩ := bindE h
  have h4 := slices_Index_ok g4
  refine Sys.to [((1, 1), .op { d := .c (.sl false true (cells (splitS p0 (⟨#[32]⟩ : ByteArray))) ((splitS p0 (⟨#[32]⟩ : ByteArray)).length)) }), ((2, 1), .call (dInt x) ⟨[], []⟩)] 3 (.at [1, 1, 1, 0, 0]) ⟨fl [(0, .c (.sc (.string p0))), (2, .pt 0 1 0), (4, .c (.sl false true (cells (splitS p0 (⟨#[32]⟩ : ByteArray))) ((splitS p0 (⟨#[32]⟩ : ByteArray)).length))), (5, dInt x)], ⟨[⟨1, world_Parse_c1⟩], []⟩⟩ (And.intro (splitP_eq [⟨1, world_Parse_c1⟩] (s := p0) (sep := (⟨#[32]⟩ : ByteArray)) h2 (by decide)) (h4)) (by kernel_rfl) ?_
  by_cases h6 : x < 0
  · replace h := iteT h6 h
    have hr := Option.some.inj h
    subst hr
    exact Sys.endC [((3, 1), .b true)] (h6) (by kernel_rfl)
  · replace h := iteF h6 h
    by_cases h8 : InR (x + 1)
    case neg => exact absurd (iteF h8 h) (by simp)
    replace h := iteT h8 h
    by_cases h9 : 0 ≤ (x + 1) ∧ (x + 1) ≤ ((splitS p0 (⟨#[32]⟩ : ByteArray)).length : Int)
    case neg => exact absurd (iteF h9 h) (by simp)
    replace h := iteT h9 h
    obtain ⟨x_2, g10, h⟩ := bindE h
    have h10 := slices_Index_ok g10
    refine Sys.to [((3, 1), .b false), ((5, 2), .n), ((5, 3), .slC ((x + 1).toNat) ((splitS p0 (⟨#[32]⟩ : ByteArray)).length) (cells (((splitS p0 (⟨#[32]⟩ : ByteArray)).drop ((x + 1).toNat)).take ((splitS p0 (⟨#[32]⟩ : ByteArray)).length - (x + 1).toNat))) (((splitS p0 (⟨#[32]⟩ : ByteArray)).drop ((x + 1).toNat)).take ((splitS p0 (⟨#[32]⟩ : ByteArray)).length - (x + 1).toNat)).length), ((5, 4), .call (dInt x_2) ⟨[], []⟩)] 6 (.at [1, 1, 1, 1, 1, 0, 0]) ⟨fl [(0, .c (.sc (.string p0))), (2, .pt 0 1 0), (4, .c (.sl false true (cells (splitS p0 (⟨#[32]⟩ : ByteArray))) ((splitS p0 (⟨#[32]⟩ : ByteArray)).length))), (5, dInt x), (6, dInt x_2)], ⟨[⟨1, world_Parse_c1⟩], []⟩⟩ (And.intro (h6) (And.intro (h8) (And.intro (And.intro (slc_lo h9) (cells_span (slc_blo h9))) (h10)))) (by kernel_rfl) ?_
    by_cases h12 : x_2 < 0
    · replace h := iteT h12 h
      have hr := Option.some.inj h
      subst hr
      exact Sys.endC [((6, 1), .b true)] (h12) (by kernel_rfl)
    · replace h := iteF h12 h
      by_cases h14 : 0 ≤ x ∧ x ≤ ((splitS p0 (⟨#[32]⟩ : ByteArray)).length : Int)
      case neg => exact absurd (iteF h14 h) (by simp)
      replace h := iteT h14 h
      obtain ⟨⟨x_3, x_4⟩, g15, h⟩ := bindE h
      dsimp only at h
      have h15 := world_row_ok g15
      by_cases h17 : InR ((x + 1) + x_2)
      case neg => exact absurd (iteF h17 h) (by simp)
      replace h := iteT h17 h
      by_cases h18 : 0 ≤ (x + 1) ∧ (x + 1) ≤ ((x + 1) + x_2) ∧ ((x + 1) + x_2) ≤ ((splitS p0 (⟨#[32]⟩ : ByteArray)).length : Int)
      case neg => exact absurd (iteF h18 h) (by simp)
      replace h := iteT h18 h
      obtain ⟨⟨x_5, x_6⟩, g19, h⟩ := bindE h
      dsimp only at h
      have h19 := world_row_2_ok g19
      by_cases h21 : InR (x + 2)
      case neg => exact absurd (iteF h21 h) (by simp)
      replace h := iteT h21 h
      by_cases h22 : InR ((x + 2) + x_2)
      case neg => exact absurd (iteF h22 h) (by simp)
      replace h := iteT h22 h
      by_cases h23 : 0 ≤ ((x + 2) + x_2) ∧ ((x + 2) + x_2) ≤ ((splitS p0 (⟨#[32]⟩ : ByteArray)).length : Int)
      case neg => exact absurd (iteF h23 h) (by simp)
      replace h := iteT h23 h
      obtain ⟨⟨x_7, x_8⟩, g24, h⟩ := bindE h
      dsimp only at h
      have h24 := world_row_3_ok g24
      refine Sys.to [((6, 1), .b false), ((8, 2), .slC 0 x.toNat (cells (((splitS p0 (⟨#[32]⟩ : ByteArray)).drop 0).take (x.toNat - 0))) (((splitS p0 (⟨#[32]⟩ : ByteArray)).drop 0).take (x.toNat - 0)).length), ((8, 3), .call (.tup [.c (eSl x_3), dB x_4]) ⟨[], []⟩), ((9, 2), .n), ((9, 4), .n), ((9, 6), .n), ((9, 7), .slC ((x + 1).toNat) (((x + 1) + x_2).toNat) (cells (((splitS p0 (⟨#[32]⟩ : ByteArray)).drop ((x + 1).toNat)).take (((x + 1) + x_2).toNat - (x + 1).toNat))) (((splitS p0 (⟨#[32]⟩ : ByteArray)).drop ((x + 1).toNat)).take (((x + 1) + x_2).toNat - (x + 1).toNat)).length), ((9, 8), .call (.tup [.c (eSl x_5), dB x_6]) ⟨[], []⟩), ((10, 2), .n), ((10, 4), .n), ((10, 5), .slC (((x + 2) + x_2).toNat) ((splitS p0 (⟨#[32]⟩ : ByteArray)).length) (cells (((splitS p0 (⟨#[32]⟩ : ByteArray)).drop (((x + 2) + x_2).toNat)).take ((splitS p0 (⟨#[32]⟩ : ByteArray)).length - ((x + 2) + x_2).toNat))) (((splitS p0 (⟨#[32]⟩ : ByteArray)).drop (((x + 2) + x_2).toNat)).take ((splitS p0 (⟨#[32]⟩ : ByteArray)).length - ((x + 2) + x_2).toNat)).length), ((10, 6), .call (.tup [.c (eSl x_7), dB x_8]) ⟨[], []⟩)] 12 (.at [1, 1, 1, 1, 1, 1, 1, 1, 1, 1, 0, 0]) ⟨fl [(0, .c (.sc (.string p0))), (2, .pt 0 1 0), (8, dB x_4), (10, dB x_6), (12, dB x_8), (13, .pt 1 1 0)], ⟨[⟨1, world_Parse_c1⟩, ⟨1, [.c (eSl x_3), .c (eSl x_5), .c (eSl x_7)]⟩], []⟩⟩ (And.intro (h12) (And.intro (And.intro (slc_hi h14) (cells_span (slc_bhi h14))) (And.intro (h15) (And.intro (h8) (And.intro (h8) (And.intro (h17) (And.intro (And.intro (slc h18) (cells_span (slc_b h18))) (And.intro (h19) (And.intro (h21) (And.intro (h22) (And.intro (And.intro (slc_lo h23) (cells_span (slc_blo h23))) (h24)))))))))))) (by kernel_rfl) ?_
      cases x_4 with
      | true =>
        replace h := condT h
        cases x_6 with
        | true =>
          replace h := condT h
          cases x_8 with
          | true =>
            replace h := condT h
            obtain ⟨x_9, g30, h⟩ := bindE h
            have h30 := world_Text_ok g30
            by_cases h31 : x_9 = p0
            · replace h := iteT h31 h
              have hr := Option.some.inj h
              subst hr
              exact Sys.endC [((12, 12), .call (.c (.sc (.string x_9))) ⟨[], []⟩), ((12, 14), .op { d := dB false })] (And.intro (h30) (str_neq_false h31)) (by kernel_rfl)
            · replace h := iteF h31 h
              have hr := Option.some.inj h
              subst hr
              exact Sys.endC [((12, 12), .call (.c (.sc (.string x_9))) ⟨[], []⟩), ((12, 14), .op { d := dB true })] (And.intro (h30) (str_neq_true h31)) (by kernel_rfl)
          | false =>
            replace h := condF h
            have hr := Option.some.inj h
            subst hr
            exact Sys.endC [] (True.intro) (by kernel_rfl)
        | false =>
          replace h := condF h
          have hr := Option.some.inj h
          subst hr
          exact Sys.endC [] (True.intro) (by kernel_rfl)
      | false =>
        replace h := condF h
        have hr := Option.some.inj h
        subst hr
        exact Sys.endC [] (True.intro) (by kernel_rfl)
inductive vigilref14_split_L4O where
  | e0 (v5 : List ByteArray) (v6 : ByteArray) (v7 : Int)
def vigilref14_split_L4x : vigilref14_split_L4O → Ex
  | .e0 _ _ _ => (.exit 0)
def vigilref14_split_L4s (p0 : ByteArray) (p1 : Int) : vigilref14_split_L4O → S
  | .e0 v5 v6 v7 => ⟨fl [(0, .c (.sc (.string p0))), (1, .c (.sc (.int .u8 p1))), (5, apl v5), (6, .c (.sc (.string v6))), (7, dInt v7), (11, dB false)], ⟨[], []⟩⟩
def vigilref14_split_L4 (p0 : ByteArray) (p1 : Int) (n : Nat) : Nat → List ByteArray → ByteArray → Int → Option vigilref14_split_L4O
  | 0, _, _, _ => none
  | k + 1, v5, v6, v7 =>
    if v7 < (p0.size : Int) then
      (byteI p0 v7).bind fun v16 =>
      if v16 = p1 then
        if Room 16 (v5 ++ ([v6] : List ByteArray)).length then if InR (v7 + 1) then vigilref14_split_L4 p0 p1 n k (v5 ++ ([v6] : List ByteArray)) (⟨#[]⟩ : ByteArray) (v7 + 1)
        else none
        else none
      else if InR (v7 + 1) then if 0 ≤ v7 ∧ v7 ≤ (v7 + 1) ∧ (v7 + 1) ≤ (p0.size : Int) then if (v6 ++ (p0.extract v7.toNat (v7 + 1).toNat)).size ≤ 9223372036854775807 then vigilref14_split_L4 p0 p1 n k v5 (v6 ++ (p0.extract v7.toNat (v7 + 1).toNat)) (v7 + 1)
      else none
      else none
      else none
    else some (.e0 v5 v6 v7)
theorem vigilref14_split_L4_ok (p0 : ByteArray) (p1 : Int) (n : Nat) : ∀ (k : Nat) (v5 : List ByteArray) (v6 : ByteArray) (v7 : Int) (o : vigilref14_split_L4O), vigilref14_split_L4 p0 p1 n k v5 v6 v7 = some o → ∀ s : S, restrS (X.an.rs 60 4) s = ⟨fl [(0, .c (.sc (.string p0))), (1, .c (.sc (.int .u8 p1))), (5, apl v5), (6, .c (.sc (.string v6))), (7, dInt v7)], ⟨[], []⟩⟩ → X.Loop 60 34 [] (sub b60 [1, 1, 1, 0, 1, 0, 0]) 0 s (vigilref14_split_L4x o) (vigilref14_split_L4s p0 p1 o) := by
  intro k
  induction k with
  | zero => intro v5 v6 v7 o h s hs; unfold vigilref14_split_L4 at h; cases h
  | succ k ih =>
    intro v5 v6 v7 o h s hs
    unfold vigilref14_split_L4 at h
    refine Sys.loopQ hs ?_
    by_cases h1 : v7 < (p0.size : Int)
    · replace h := iteT h1 h
      obtain ⟨v16, h3, h⟩ := bindE h
      refine Sys.to [((4, 3), .b true)] 6 (.at [1, 0, 0, 0, 0]) ⟨fl [(0, .c (.sc (.string p0))), (1, .c (.sc (.int .u8 p1))), (5, apl v5), (6, .c (.sc (.string v6))), (7, dInt v7), (11, dB true)], ⟨[], []⟩⟩ (h1) (by kernel_rfl) ?_
      by_cases h4 : v16 = p1
      · replace h := iteT h4 h
        by_cases h6 : Room 16 (v5 ++ ([v6] : List ByteArray)).length
        case neg => exact absurd (iteF h6 h) (by simp)
        replace h := iteT h6 h
        by_cases h9 : InR (v7 + 1)
        case neg => exact absurd (iteF h9 h) (by simp)
        replace h := iteT h9 h
        refine Sys.to [((6, 2), .op { d := .c (.sc (.int .u8 v16)) }), ((6, 4), .b true), ((7, 3), .appF (v5 ++ ([v6] : List ByteArray)).isEmpty (cells (v5 ++ ([v6] : List ByteArray))) (v5 ++ ([v6] : List ByteArray)).length), ((5, 1), .n)] 999999 (.fin .normal) ⟨fl [(0, .c (.sc (.string p0))), (1, .c (.sc (.int .u8 p1))), (5, apl (v5 ++ ([v6] : List ByteArray))), (6, .c (.sc (.string (⟨#[]⟩ : ByteArray)))), (7, dInt (v7 + 1))], ⟨[], []⟩⟩ (And.intro (byte_ix h3) (And.intro (h4) (And.intro (apl_lit v5 ([v6] : List ByteArray) (b := 16) (by decide) h6) (h9)))) (by kernel_rfl) ?_
        exact Sys.fin (.inl ⟨rfl, ⟨fl [(0, .c (.sc (.string p0))), (1, .c (.sc (.int .u8 p1))), (5, apl (v5 ++ ([v6] : List ByteArray))), (6, .c (.sc (.string (⟨#[]⟩ : ByteArray)))), (7, dInt (v7 + 1))], ⟨[], []⟩⟩, (by kernel_rfl), ih (v5 ++ ([v6] : List ByteArray)) (⟨#[]⟩ : ByteArray) (v7 + 1) _ h _ (by kernel_rfl)⟩)
      · replace h := iteF h4 h
        by_cases h6 : InR (v7 + 1)
        case neg => exact absurd (iteF h6 h) (by simp)
        replace h := iteT h6 h
        by_cases h7 : 0 ≤ v7 ∧ v7 ≤ (v7 + 1) ∧ (v7 + 1) ≤ (p0.size : Int)
        case neg => exact absurd (iteF h7 h) (by simp)
        replace h := iteT h7 h
        by_cases h8 : (v6 ++ (p0.extract v7.toNat (v7 + 1).toNat)).size ≤ 9223372036854775807
        case neg => exact absurd (iteF h8 h) (by simp)
        replace h := iteT h8 h
        refine Sys.to [((6, 2), .op { d := .c (.sc (.int .u8 v16)) }), ((6, 4), .b false), ((9, 4), .n), ((9, 5), .op { d := .c (.sc (.string (p0.extract v7.toNat (v7 + 1).toNat))) }), ((9, 6), .op { d := .c (.sc (.string (v6 ++ (p0.extract v7.toNat (v7 + 1).toNat)))) }), ((5, 1), .n)] 999999 (.fin .normal) ⟨fl [(0, .c (.sc (.string p0))), (1, .c (.sc (.int .u8 p1))), (5, apl v5), (6, .c (.sc (.string (v6 ++ (p0.extract v7.toNat (v7 + 1).toNat))))), (7, dInt (v7 + 1))], ⟨[], []⟩⟩ (And.intro (byte_ix h3) (And.intro (h4) (And.intro (h6) (And.intro (str_slc (P0 := X.P) (t0 := 9) (st0 := []) (by kernel_rfl) h7) (And.intro (str_add (P0 := X.P) (t0 := 9) h8) (h6)))))) (by kernel_rfl) ?_
        exact Sys.fin (.inl ⟨rfl, ⟨fl [(0, .c (.sc (.string p0))), (1, .c (.sc (.int .u8 p1))), (5, apl v5), (6, .c (.sc (.string (v6 ++ (p0.extract v7.toNat (v7 + 1).toNat))))), (7, dInt (v7 + 1))], ⟨[], []⟩⟩, (by kernel_rfl), ih v5 (v6 ++ (p0.extract v7.toNat (v7 + 1).toNat)) (v7 + 1) _ h _ (by kernel_rfl)⟩)
    · replace h := iteF h1 h
      have hr := Option.some.inj h
      subst hr
      exact Sys.endX [((4, 3), .b false)] (h1) rfl (by kernel_rfl)

def vigilref14_split (n : Nat) (p0 : ByteArray) (p1 : Int) : Option (List ByteArray) :=
  (vigilref14_split_L4 p0 p1 n n ([] : List ByteArray) (⟨#[]⟩ : ByteArray) 0).bind fun o_2 => match o_2 with
  | .e0 v5_2 v6_2 v7_2 =>
    if Room 16 (v5_2 ++ ([v6_2] : List ByteArray)).length then some (v5_2 ++ ([v6_2] : List ByteArray))
    else none
theorem vigilref14_split_ok {n : Nat} {p0 : ByteArray} {p1 : Int} {r : List ByteArray} (h : vigilref14_split n p0 p1 = some r) : X.RunsC 60 [.c (.sc (.string p0)), .c (.sc (.int .u8 p1))] (apl r) := by
  unfold vigilref14_split at h
  refine Sys.callC' (fn := Tryz.f60) (b := b60) (by kernel_rfl) (by kernel_rfl) ?_
  obtain ⟨o_2, g5, h⟩ := bindE h
  have h5 := vigilref14_split_L4_ok p0 p1 n n ([] : List ByteArray) (⟨#[]⟩ : ByteArray) 0 _ g5
  cases o_2 with
  | e0 v5_2 v6_2 v7_2 =>
    dsimp only at h
    by_cases h7 : Room 16 (v5_2 ++ ([v6_2] : List ByteArray)).length
    case neg => exact absurd (iteF h7 h) (by simp)
    replace h := iteT h7 h
    have hr := Option.some.inj h
    subst hr
    exact Sys.endC [((4, 1000), .code (.exit 0) ⟨fl [(0, .c (.sc (.string p0))), (1, .c (.sc (.int .u8 p1))), (5, apl v5_2), (6, .c (.sc (.string v6_2))), (7, dInt v7_2), (11, dB false)], ⟨[], []⟩⟩), ((10, 3), .appF (v5_2 ++ ([v6_2] : List ByteArray)).isEmpty (cells (v5_2 ++ ([v6_2] : List ByteArray))) (v5_2 ++ ([v6_2] : List ByteArray)).length)] (And.intro (Sys.Loop.goM (h5 ⟨fl [(0, .c (.sc (.string p0))), (1, .c (.sc (.int .u8 p1))), (5, apl ([] : List ByteArray)), (6, .c (.sc (.string (⟨#[]⟩ : ByteArray)))), (7, dInt 0)], ⟨[], []⟩⟩ (by kernel_rfl)) (by kernel_rfl)) (apl_lit v5_2 ([v6_2] : List ByteArray) (b := 16) (by decide) h7)) (by kernel_rfl)
inductive vigilref03_Digits_L6O where
  | e0 (v3 : ByteArray) (v5 : Int)
def vigilref03_Digits_L6x : vigilref03_Digits_L6O → Ex
  | .e0 _ _ => (.exit 0)
def vigilref03_Digits_L6s (p0 : Int) : vigilref03_Digits_L6O → S
  | .e0 v3 v5 => ⟨fl [(0, dInt p0), (3, .c (.sc (.string v3))), (4, .c (.sc (.string (⟨#[48, 49, 50, 51, 52, 53, 54, 55, 56, 57]⟩ : ByteArray)))), (5, dInt v5), (11, dB false)], ⟨[], []⟩⟩
def vigilref03_Digits_L6 (p0 : Int) (n : Nat) : Nat → ByteArray → Int → Option vigilref03_Digits_L6O
  | 0, _, _ => none
  | k + 1, v3, v5 =>
    if v5 ≠ 0 then
      if (Int.tmod v5 10) < 0 then
        if InR (0 - (Int.tmod v5 10)) then if InR ((0 - (Int.tmod v5 10)) + 1) then if 0 ≤ (0 - (Int.tmod v5 10)) ∧ (0 - (Int.tmod v5 10)) ≤ ((0 - (Int.tmod v5 10)) + 1) ∧ ((0 - (Int.tmod v5 10)) + 1) ≤ ((⟨#[48, 49, 50, 51, 52, 53, 54, 55, 56, 57]⟩ : ByteArray).size : Int) then if (((⟨#[48, 49, 50, 51, 52, 53, 54, 55, 56, 57]⟩ : ByteArray).extract (0 - (Int.tmod v5 10)).toNat ((0 - (Int.tmod v5 10)) + 1).toNat) ++ v3).size ≤ 9223372036854775807 then vigilref03_Digits_L6 p0 n k (((⟨#[48, 49, 50, 51, 52, 53, 54, 55, 56, 57]⟩ : ByteArray).extract (0 - (Int.tmod v5 10)).toNat ((0 - (Int.tmod v5 10)) + 1).toNat) ++ v3) (Go.IntKind.i64.wrap (Int.tdiv v5 10))
        else none
        else none
        else none
        else none
      else if InR ((Int.tmod v5 10) + 1) then if 0 ≤ (Int.tmod v5 10) ∧ (Int.tmod v5 10) ≤ ((Int.tmod v5 10) + 1) ∧ ((Int.tmod v5 10) + 1) ≤ ((⟨#[48, 49, 50, 51, 52, 53, 54, 55, 56, 57]⟩ : ByteArray).size : Int) then if (((⟨#[48, 49, 50, 51, 52, 53, 54, 55, 56, 57]⟩ : ByteArray).extract (Int.tmod v5 10).toNat ((Int.tmod v5 10) + 1).toNat) ++ v3).size ≤ 9223372036854775807 then vigilref03_Digits_L6 p0 n k (((⟨#[48, 49, 50, 51, 52, 53, 54, 55, 56, 57]⟩ : ByteArray).extract (Int.tmod v5 10).toNat ((Int.tmod v5 10) + 1).toNat) ++ v3) (Go.IntKind.i64.wrap (Int.tdiv v5 10))
      else none
      else none
      else none
    else some (.e0 v3 v5)
theorem vigilref03_Digits_L6_ok (p0 : Int) (n : Nat) : ∀ (k : Nat) (v3 : ByteArray) (v5 : Int) (o : vigilref03_Digits_L6O), vigilref03_Digits_L6 p0 n k v3 v5 = some o → ∀ s : S, restrS (X.an.rs 43 6) s = ⟨fl [(0, dInt p0), (3, .c (.sc (.string v3))), (4, .c (.sc (.string (⟨#[48, 49, 50, 51, 52, 53, 54, 55, 56, 57]⟩ : ByteArray)))), (5, dInt v5)], ⟨[], []⟩⟩ → X.Loop 43 32 [] (sub b43 [1, 1, 1, 1, 1, 0, 0, 0]) 0 s (vigilref03_Digits_L6x o) (vigilref03_Digits_L6s p0 o) := by
  intro k
  induction k with
  | zero => intro v3 v5 o h s hs; unfold vigilref03_Digits_L6 at h; cases h
  | succ k ih =>
    intro v3 v5 o h s hs
    unfold vigilref03_Digits_L6 at h
    refine Sys.loopQ hs ?_
    by_cases h1 : v5 ≠ 0
    · replace h := iteT h1 h
      refine Sys.to [((6, 1), .b true)] 8 (.at [1, 0, 1, 0, 0]) ⟨fl [(0, dInt p0), (3, .c (.sc (.string v3))), (4, .c (.sc (.string (⟨#[48, 49, 50, 51, 52, 53, 54, 55, 56, 57]⟩ : ByteArray)))), (5, dInt v5), (6, dInt (Int.tmod v5 10))], ⟨[], []⟩⟩ (h1) (by kernel_rfl) ?_
      by_cases h4 : (Int.tmod v5 10) < 0
      · replace h := iteT h4 h
        by_cases h6 : InR (0 - (Int.tmod v5 10))
        case neg => exact absurd (iteF h6 h) (by simp)
        replace h := iteT h6 h
        by_cases h8 : InR ((0 - (Int.tmod v5 10)) + 1)
        case neg => exact absurd (iteF h8 h) (by simp)
        replace h := iteT h8 h
        by_cases h9 : 0 ≤ (0 - (Int.tmod v5 10)) ∧ (0 - (Int.tmod v5 10)) ≤ ((0 - (Int.tmod v5 10)) + 1) ∧ ((0 - (Int.tmod v5 10)) + 1) ≤ ((⟨#[48, 49, 50, 51, 52, 53, 54, 55, 56, 57]⟩ : ByteArray).size : Int)
        case neg => exact absurd (iteF h9 h) (by simp)
        replace h := iteT h9 h
        by_cases h10 : (((⟨#[48, 49, 50, 51, 52, 53, 54, 55, 56, 57]⟩ : ByteArray).extract (0 - (Int.tmod v5 10)).toNat ((0 - (Int.tmod v5 10)) + 1).toNat) ++ v3).size ≤ 9223372036854775807
        case neg => exact absurd (iteF h10 h) (by simp)
        replace h := iteT h10 h
        refine Sys.to [((8, 1), .b true), ((9, 1), .op { d := dInt (0 - (Int.tmod v5 10)) }), ((10, 3), .n), ((10, 4), .op { d := .c (.sc (.string ((⟨#[48, 49, 50, 51, 52, 53, 54, 55, 56, 57]⟩ : ByteArray).extract (0 - (Int.tmod v5 10)).toNat ((0 - (Int.tmod v5 10)) + 1).toNat))) }), ((10, 6), .op { d := .c (.sc (.string (((⟨#[48, 49, 50, 51, 52, 53, 54, 55, 56, 57]⟩ : ByteArray).extract (0 - (Int.tmod v5 10)).toNat ((0 - (Int.tmod v5 10)) + 1).toNat) ++ v3))) })] 999999 (.fin .normal) ⟨fl [(0, dInt p0), (3, .c (.sc (.string (((⟨#[48, 49, 50, 51, 52, 53, 54, 55, 56, 57]⟩ : ByteArray).extract (0 - (Int.tmod v5 10)).toNat ((0 - (Int.tmod v5 10)) + 1).toNat) ++ v3)))), (4, .c (.sc (.string (⟨#[48, 49, 50, 51, 52, 53, 54, 55, 56, 57]⟩ : ByteArray)))), (5, dInt (Go.IntKind.i64.wrap (Int.tdiv v5 10)))], ⟨[], []⟩⟩ (And.intro (h4) (And.intro (neg_i64 h6) (And.intro (h8) (And.intro (str_slc (P0 := X.P) (t0 := 9) (st0 := []) (by kernel_rfl) h9) (str_add (P0 := X.P) (t0 := 9) h10))))) (by kernel_rfl) ?_
        exact Sys.fin (.inl ⟨rfl, ⟨fl [(0, dInt p0), (3, .c (.sc (.string (((⟨#[48, 49, 50, 51, 52, 53, 54, 55, 56, 57]⟩ : ByteArray).extract (0 - (Int.tmod v5 10)).toNat ((0 - (Int.tmod v5 10)) + 1).toNat) ++ v3)))), (4, .c (.sc (.string (⟨#[48, 49, 50, 51, 52, 53, 54, 55, 56, 57]⟩ : ByteArray)))), (5, dInt (Go.IntKind.i64.wrap (Int.tdiv v5 10)))], ⟨[], []⟩⟩, (by kernel_rfl), ih (((⟨#[48, 49, 50, 51, 52, 53, 54, 55, 56, 57]⟩ : ByteArray).extract (0 - (Int.tmod v5 10)).toNat ((0 - (Int.tmod v5 10)) + 1).toNat) ++ v3) (Go.IntKind.i64.wrap (Int.tdiv v5 10)) _ h _ (by kernel_rfl)⟩)
      · replace h := iteF h4 h
        by_cases h6 : InR ((Int.tmod v5 10) + 1)
        case neg => exact absurd (iteF h6 h) (by simp)
        replace h := iteT h6 h
        by_cases h7 : 0 ≤ (Int.tmod v5 10) ∧ (Int.tmod v5 10) ≤ ((Int.tmod v5 10) + 1) ∧ ((Int.tmod v5 10) + 1) ≤ ((⟨#[48, 49, 50, 51, 52, 53, 54, 55, 56, 57]⟩ : ByteArray).size : Int)
        case neg => exact absurd (iteF h7 h) (by simp)
        replace h := iteT h7 h
        by_cases h8 : (((⟨#[48, 49, 50, 51, 52, 53, 54, 55, 56, 57]⟩ : ByteArray).extract (Int.tmod v5 10).toNat ((Int.tmod v5 10) + 1).toNat) ++ v3).size ≤ 9223372036854775807
        case neg => exact absurd (iteF h8 h) (by simp)
        replace h := iteT h8 h
        refine Sys.to [((8, 1), .b false), ((10, 3), .n), ((10, 4), .op { d := .c (.sc (.string ((⟨#[48, 49, 50, 51, 52, 53, 54, 55, 56, 57]⟩ : ByteArray).extract (Int.tmod v5 10).toNat ((Int.tmod v5 10) + 1).toNat))) }), ((10, 6), .op { d := .c (.sc (.string (((⟨#[48, 49, 50, 51, 52, 53, 54, 55, 56, 57]⟩ : ByteArray).extract (Int.tmod v5 10).toNat ((Int.tmod v5 10) + 1).toNat) ++ v3))) })] 999999 (.fin .normal) ⟨fl [(0, dInt p0), (3, .c (.sc (.string (((⟨#[48, 49, 50, 51, 52, 53, 54, 55, 56, 57]⟩ : ByteArray).extract (Int.tmod v5 10).toNat ((Int.tmod v5 10) + 1).toNat) ++ v3)))), (4, .c (.sc (.string (⟨#[48, 49, 50, 51, 52, 53, 54, 55, 56, 57]⟩ : ByteArray)))), (5, dInt (Go.IntKind.i64.wrap (Int.tdiv v5 10)))], ⟨[], []⟩⟩ (And.intro (h4) (And.intro (h6) (And.intro (str_slc (P0 := X.P) (t0 := 9) (st0 := []) (by kernel_rfl) h7) (str_add (P0 := X.P) (t0 := 9) h8)))) (by kernel_rfl) ?_
        exact Sys.fin (.inl ⟨rfl, ⟨fl [(0, dInt p0), (3, .c (.sc (.string (((⟨#[48, 49, 50, 51, 52, 53, 54, 55, 56, 57]⟩ : ByteArray).extract (Int.tmod v5 10).toNat ((Int.tmod v5 10) + 1).toNat) ++ v3)))), (4, .c (.sc (.string (⟨#[48, 49, 50, 51, 52, 53, 54, 55, 56, 57]⟩ : ByteArray)))), (5, dInt (Go.IntKind.i64.wrap (Int.tdiv v5 10)))], ⟨[], []⟩⟩, (by kernel_rfl), ih (((⟨#[48, 49, 50, 51, 52, 53, 54, 55, 56, 57]⟩ : ByteArray).extract (Int.tmod v5 10).toNat ((Int.tmod v5 10) + 1).toNat) ++ v3) (Go.IntKind.i64.wrap (Int.tdiv v5 10)) _ h _ (by kernel_rfl)⟩)
    · replace h := iteF h1 h
      have hr := Option.some.inj h
      subst hr
      exact Sys.endX [((6, 1), .b false)] (h1) rfl (by kernel_rfl)

def vigilref03_Digits (n : Nat) (p0 : Int) : Option ByteArray :=
  if p0 = 0 then
    some (⟨#[48]⟩ : ByteArray)
  else (vigilref03_Digits_L6 p0 n n (⟨#[]⟩ : ByteArray) p0).bind fun o_2 => match o_2 with
  | .e0 v3_2 v5_2 =>
    if p0 < 0 then
      if ((⟨#[45]⟩ : ByteArray) ++ v3_2).size ≤ 9223372036854775807 then some ((⟨#[45]⟩ : ByteArray) ++ v3_2)
      else none
    else some v3_2
theorem vigilref03_Digits_ok {n : Nat} {p0 : Int} {r : ByteArray} (h : vigilref03_Digits n p0 = some r) : X.RunsC 43 [dInt p0] (.c (.sc (.string r))) := by
  unfold vigilref03_Digits at h
  refine Sys.callC' (fn := Tryz.f43) (b := b43) (by kernel_rfl) (by kernel_rfl) ?_
  by_cases h2 : p0 = 0
  · replace h := iteT h2 h
    have hr := Option.some.inj h
    subst hr
    exact Sys.endC [((1, 1), .b true)] (h2) (by kernel_rfl)
  · replace h := iteF h2 h
    obtain ⟨o_2, g7, h⟩ := bindE h
    have h7 := vigilref03_Digits_L6_ok p0 n n (⟨#[]⟩ : ByteArray) p0 _ g7
    cases o_2 with
    | e0 v3_2 v5_2 =>
      dsimp only at h
      refine Sys.to [((1, 1), .b false), ((6, 1000), .code (.exit 0) ⟨fl [(0, dInt p0), (3, .c (.sc (.string v3_2))), (4, .c (.sc (.string (⟨#[48, 49, 50, 51, 52, 53, 54, 55, 56, 57]⟩ : ByteArray)))), (5, dInt v5_2), (11, dB false)], ⟨[], []⟩⟩)] 12 (.at [1, 1, 1, 1, 1, 1, 0, 0]) ⟨fl [(0, dInt p0), (3, .c (.sc (.string v3_2))), (4, .c (.sc (.string (⟨#[48, 49, 50, 51, 52, 53, 54, 55, 56, 57]⟩ : ByteArray)))), (5, dInt v5_2), (11, dB false)], ⟨[], []⟩⟩ (And.intro (h2) (Sys.Loop.goM (h7 ⟨fl [(0, dInt p0), (3, .c (.sc (.string (⟨#[]⟩ : ByteArray)))), (4, .c (.sc (.string (⟨#[48, 49, 50, 51, 52, 53, 54, 55, 56, 57]⟩ : ByteArray)))), (5, dInt p0)], ⟨[], []⟩⟩ (by kernel_rfl)) (by kernel_rfl))) (by kernel_rfl) ?_
      by_cases h9 : p0 < 0
      · replace h := iteT h9 h
        by_cases h11 : ((⟨#[45]⟩ : ByteArray) ++ v3_2).size ≤ 9223372036854775807
        case neg => exact absurd (iteF h11 h) (by simp)
        replace h := iteT h11 h
        have hr := Option.some.inj h
        subst hr
        exact Sys.endC [((12, 1), .b true), ((13, 1), .op { d := .c (.sc (.string ((⟨#[45]⟩ : ByteArray) ++ v3_2))) })] (And.intro (h9) (str_add (P0 := X.P) (t0 := 9) h11)) (by kernel_rfl)
      · replace h := iteF h9 h
        have hr := Option.some.inj h
        subst hr
        exact Sys.endC [((12, 1), .b false)] (h9) (by kernel_rfl)
inductive vigilref14_Number_L9O where
  | r
  | e0 (v6 : Int) (v7 : Int)
def vigilref14_Number_L9x : vigilref14_Number_L9O → Ex
  | .r => .ret
  | .e0 _ _ => (.exit 0)
def vigilref14_Number_L9s (p0 : ByteArray) : vigilref14_Number_L9O → S
  | .r => ⟨fl [(2, dInt 0), (3, dB false)], ⟨[], []⟩⟩
  | .e0 v6 v7 => ⟨fl [(0, .c (.sc (.string p0))), (4, dB true), (5, .c (.sc (.string (p0.extract (1 : Int).toNat p0.size)))), (6, .c (.sc (.int .u64 v6))), (7, dInt v7), (31, dB false)], ⟨[], []⟩⟩
def vigilref14_Number_L9 (p0 : ByteArray) (n : Nat) : Nat → Int → Int → Option vigilref14_Number_L9O
  | 0, _, _ => none
  | k + 1, v6, v7 =>
    if v7 < ((p0.extract (1 : Int).toNat p0.size).size : Int) then
      (byteI (p0.extract (1 : Int).toNat p0.size) v7).bind fun v36 =>
      if v36 < 48 then
        some (.r)
      else (byteI (p0.extract (1 : Int).toNat p0.size) v7).bind fun v41 =>
      if v41 > 57 then
        some (.r)
      else (byteI (p0.extract (1 : Int).toNat p0.size) v7).bind fun v48 =>
      if InR (v7 + 1) then vigilref14_Number_L9 p0 n k (Go.IntKind.u64.wrap ((Go.IntKind.u64.wrap (10 * v6)) + (Go.IntKind.u64.wrap (Go.IntKind.u8.wrap (v48 - 48))))) (v7 + 1)
      else none
    else some (.e0 v6 v7)
theorem vigilref14_Number_L9_ok (p0 : ByteArray) (n : Nat) : ∀ (k : Nat) (v6 : Int) (v7 : Int) (o : vigilref14_Number_L9O), vigilref14_Number_L9 p0 n k v6 v7 = some o → ∀ s : S, restrS (X.an.rs 47 9) s = ⟨fl [(0, .c (.sc (.string p0))), (4, dB true), (5, .c (.sc (.string (p0.extract (1 : Int).toNat p0.size)))), (6, .c (.sc (.int .u64 v6))), (7, dInt v7)], ⟨[], []⟩⟩ → X.Loop 47 62 [] (sub b47 [1, 1, 1, 1, 1, 1, 0, 1, 0, 0]) 0 s (vigilref14_Number_L9x o) (vigilref14_Number_L9s p0 o) := by
  intro k
  induction k with
  | zero => intro v6 v7 o h s hs; unfold vigilref14_Number_L9 at h; cases h
  | succ k ih =>
    intro v6 v7 o h s hs
    unfold vigilref14_Number_L9 at h
    refine Sys.loopQ hs ?_
    by_cases h1 : v7 < ((p0.extract (1 : Int).toNat p0.size).size : Int)
    · replace h := iteT h1 h
      obtain ⟨v36, h3, h⟩ := bindE h
      refine Sys.to [((9, 3), .b true)] 11 (.at [1, 0, 0, 0, 0]) ⟨fl [(0, .c (.sc (.string p0))), (4, dB true), (5, .c (.sc (.string (p0.extract (1 : Int).toNat p0.size)))), (6, .c (.sc (.int .u64 v6))), (7, dInt v7), (31, dB true)], ⟨[], []⟩⟩ (h1) (by kernel_rfl) ?_
      by_cases h4 : v36 < 48
      · replace h := iteT h4 h
        have hr := Option.some.inj h
        subst hr
        exact Sys.endX [((11, 2), .op { d := .c (.sc (.int .u8 v36)) }), ((11, 3), .b true)] (And.intro (byte_ix h3) (h4)) rfl (by kernel_rfl)
      · replace h := iteF h4 h
        obtain ⟨v41, h5, h⟩ := bindE h
        by_cases h6 : v41 > 57
        · replace h := iteT h6 h
          have hr := Option.some.inj h
          subst hr
          exact Sys.endX [((11, 2), .op { d := .c (.sc (.int .u8 v36)) }), ((11, 3), .b false), ((11, 7), .op { d := .c (.sc (.int .u8 v41)) }), ((11, 8), .b true)] (And.intro (byte_ix h3) (And.intro (h4) (And.intro (byte_ix h5) (h6)))) rfl (by kernel_rfl)
        · replace h := iteF h6 h
          obtain ⟨v48, h8, h⟩ := bindE h
          by_cases h10 : InR (v7 + 1)
          case neg => exact absurd (iteF h10 h) (by simp)
          replace h := iteT h10 h
          refine Sys.to [((11, 2), .op { d := .c (.sc (.int .u8 v36)) }), ((11, 3), .b false), ((11, 7), .op { d := .c (.sc (.int .u8 v41)) }), ((11, 8), .b false), ((13, 4), .op { d := .c (.sc (.int .u8 v48)) }), ((10, 1), .n)] 999999 (.fin .normal) ⟨fl [(0, .c (.sc (.string p0))), (4, dB true), (5, .c (.sc (.string (p0.extract (1 : Int).toNat p0.size)))), (6, .c (.sc (.int .u64 (Go.IntKind.u64.wrap ((Go.IntKind.u64.wrap (10 * v6)) + (Go.IntKind.u64.wrap (Go.IntKind.u8.wrap (v48 - 48)))))))), (7, dInt (v7 + 1))], ⟨[], []⟩⟩ (And.intro (byte_ix h3) (And.intro (h4) (And.intro (byte_ix h5) (And.intro (h6) (And.intro (byte_ix h8) (h10)))))) (by kernel_rfl) ?_
          exact Sys.fin (.inl ⟨rfl, ⟨fl [(0, .c (.sc (.string p0))), (4, dB true), (5, .c (.sc (.string (p0.extract (1 : Int).toNat p0.size)))), (6, .c (.sc (.int .u64 (Go.IntKind.u64.wrap ((Go.IntKind.u64.wrap (10 * v6)) + (Go.IntKind.u64.wrap (Go.IntKind.u8.wrap (v48 - 48)))))))), (7, dInt (v7 + 1))], ⟨[], []⟩⟩, (by kernel_rfl), ih (Go.IntKind.u64.wrap ((Go.IntKind.u64.wrap (10 * v6)) + (Go.IntKind.u64.wrap (Go.IntKind.u8.wrap (v48 - 48))))) (v7 + 1) _ h _ (by kernel_rfl)⟩)
    · replace h := iteF h1 h
      have hr := Option.some.inj h
      subst hr
      exact Sys.endX [((9, 3), .b false)] (h1) rfl (by kernel_rfl)

inductive vigilref14_Number_L9_2O where
  | r
  | e0 (v6 : Int) (v7 : Int)
def vigilref14_Number_L9_2x : vigilref14_Number_L9_2O → Ex
  | .r => .ret
  | .e0 _ _ => (.exit 0)
def vigilref14_Number_L9_2s (p0 : ByteArray) : vigilref14_Number_L9_2O → S
  | .r => ⟨fl [(2, dInt 0), (3, dB false)], ⟨[], []⟩⟩
  | .e0 v6 v7 => ⟨fl [(0, .c (.sc (.string p0))), (4, dB false), (5, .c (.sc (.string p0))), (6, .c (.sc (.int .u64 v6))), (7, dInt v7), (31, dB false)], ⟨[], []⟩⟩
def vigilref14_Number_L9_2 (p0 : ByteArray) (n : Nat) : Nat → Int → Int → Option vigilref14_Number_L9_2O
  | 0, _, _ => none
  | k + 1, v6_9, v7_9 =>
    if v7_9 < (p0.size : Int) then
      (byteI p0 v7_9).bind fun v36_2 =>
      if v36_2 < 48 then
        some (.r)
      else (byteI p0 v7_9).bind fun v41_2 =>
      if v41_2 > 57 then
        some (.r)
      else (byteI p0 v7_9).bind fun v48_2 =>
      if InR (v7_9 + 1) then vigilref14_Number_L9_2 p0 n k (Go.IntKind.u64.wrap ((Go.IntKind.u64.wrap (10 * v6_9)) + (Go.IntKind.u64.wrap (Go.IntKind.u8.wrap (v48_2 - 48))))) (v7_9 + 1)
      else none
    else some (.e0 v6_9 v7_9)
theorem vigilref14_Number_L9_2_ok (p0 : ByteArray) (n : Nat) : ∀ (k : Nat) (v6_9 : Int) (v7_9 : Int) (o : vigilref14_Number_L9_2O), vigilref14_Number_L9_2 p0 n k v6_9 v7_9 = some o → ∀ s : S, restrS (X.an.rs 47 9) s = ⟨fl [(0, .c (.sc (.string p0))), (4, dB false), (5, .c (.sc (.string p0))), (6, .c (.sc (.int .u64 v6_9))), (7, dInt v7_9)], ⟨[], []⟩⟩ → X.Loop 47 62 [] (sub b47 [1, 1, 1, 1, 1, 1, 0, 1, 0, 0]) 0 s (vigilref14_Number_L9_2x o) (vigilref14_Number_L9_2s p0 o) := by
  intro k
  induction k with
  | zero => intro v6_9 v7_9 o h s hs; unfold vigilref14_Number_L9_2 at h; cases h
  | succ k ih =>
    intro v6_9 v7_9 o h s hs
    unfold vigilref14_Number_L9_2 at h
    refine Sys.loopQ hs ?_
    by_cases h1 : v7_9 < (p0.size : Int)
    · replace h := iteT h1 h
      obtain ⟨v36_2, h3, h⟩ := bindE h
      refine Sys.to [((9, 3), .b true)] 11 (.at [1, 0, 0, 0, 0]) ⟨fl [(0, .c (.sc (.string p0))), (4, dB false), (5, .c (.sc (.string p0))), (6, .c (.sc (.int .u64 v6_9))), (7, dInt v7_9), (31, dB true)], ⟨[], []⟩⟩ (h1) (by kernel_rfl) ?_
      by_cases h4 : v36_2 < 48
      · replace h := iteT h4 h
        have hr := Option.some.inj h
        subst hr
        exact Sys.endX [((11, 2), .op { d := .c (.sc (.int .u8 v36_2)) }), ((11, 3), .b true)] (And.intro (byte_ix h3) (h4)) rfl (by kernel_rfl)
      · replace h := iteF h4 h
        obtain ⟨v41_2, h5, h⟩ := bindE h
        by_cases h6 : v41_2 > 57
        · replace h := iteT h6 h
          have hr := Option.some.inj h
          subst hr
          exact Sys.endX [((11, 2), .op { d := .c (.sc (.int .u8 v36_2)) }), ((11, 3), .b false), ((11, 7), .op { d := .c (.sc (.int .u8 v41_2)) }), ((11, 8), .b true)] (And.intro (byte_ix h3) (And.intro (h4) (And.intro (byte_ix h5) (h6)))) rfl (by kernel_rfl)
        · replace h := iteF h6 h
          obtain ⟨v48_2, h8, h⟩ := bindE h
          by_cases h10 : InR (v7_9 + 1)
          case neg => exact absurd (iteF h10 h) (by simp)
          replace h := iteT h10 h
          refine Sys.to [((11, 2), .op { d := .c (.sc (.int .u8 v36_2)) }), ((11, 3), .b false), ((11, 7), .op { d := .c (.sc (.int .u8 v41_2)) }), ((11, 8), .b false), ((13, 4), .op { d := .c (.sc (.int .u8 v48_2)) }), ((10, 1), .n)] 999999 (.fin .normal) ⟨fl [(0, .c (.sc (.string p0))), (4, dB false), (5, .c (.sc (.string p0))), (6, .c (.sc (.int .u64 (Go.IntKind.u64.wrap ((Go.IntKind.u64.wrap (10 * v6_9)) + (Go.IntKind.u64.wrap (Go.IntKind.u8.wrap (v48_2 - 48)))))))), (7, dInt (v7_9 + 1))], ⟨[], []⟩⟩ (And.intro (byte_ix h3) (And.intro (h4) (And.intro (byte_ix h5) (And.intro (h6) (And.intro (byte_ix h8) (h10)))))) (by kernel_rfl) ?_
          exact Sys.fin (.inl ⟨rfl, ⟨fl [(0, .c (.sc (.string p0))), (4, dB false), (5, .c (.sc (.string p0))), (6, .c (.sc (.int .u64 (Go.IntKind.u64.wrap ((Go.IntKind.u64.wrap (10 * v6_9)) + (Go.IntKind.u64.wrap (Go.IntKind.u8.wrap (v48_2 - 48)))))))), (7, dInt (v7_9 + 1))], ⟨[], []⟩⟩, (by kernel_rfl), ih (Go.IntKind.u64.wrap ((Go.IntKind.u64.wrap (10 * v6_9)) + (Go.IntKind.u64.wrap (Go.IntKind.u8.wrap (v48_2 - 48))))) (v7_9 + 1) _ h _ (by kernel_rfl)⟩)
    · replace h := iteF h1 h
      have hr := Option.some.inj h
      subst hr
      exact Sys.endX [((9, 3), .b false)] (h1) rfl (by kernel_rfl)

inductive vigilref14_Number_L9_3O where
  | r
  | e0 (v6 : Int) (v7 : Int)
def vigilref14_Number_L9_3x : vigilref14_Number_L9_3O → Ex
  | .r => .ret
  | .e0 _ _ => (.exit 0)
def vigilref14_Number_L9_3s (p0 : ByteArray) : vigilref14_Number_L9_3O → S
  | .r => ⟨fl [(2, dInt 0), (3, dB false)], ⟨[], []⟩⟩
  | .e0 v6 v7 => ⟨fl [(0, .c (.sc (.string p0))), (4, dB false), (5, .c (.sc (.string p0))), (6, .c (.sc (.int .u64 v6))), (7, dInt v7), (31, dB false)], ⟨[], []⟩⟩
def vigilref14_Number_L9_3 (p0 : ByteArray) (n : Nat) : Nat → Int → Int → Option vigilref14_Number_L9_3O
  | 0, _, _ => none
  | k + 1, v6_9_2, v7_9_2 =>
    if v7_9_2 < (p0.size : Int) then
      (byteI p0 v7_9_2).bind fun v36_3 =>
      if v36_3 < 48 then
        some (.r)
      else (byteI p0 v7_9_2).bind fun v41_3 =>
      if v41_3 > 57 then
        some (.r)
      else (byteI p0 v7_9_2).bind fun v48_3 =>
      if InR (v7_9_2 + 1) then vigilref14_Number_L9_3 p0 n k (Go.IntKind.u64.wrap ((Go.IntKind.u64.wrap (10 * v6_9_2)) + (Go.IntKind.u64.wrap (Go.IntKind.u8.wrap (v48_3 - 48))))) (v7_9_2 + 1)
      else none
    else some (.e0 v6_9_2 v7_9_2)
theorem vigilref14_Number_L9_3_ok (p0 : ByteArray) (n : Nat) : ∀ (k : Nat) (v6_9_2 : Int) (v7_9_2 : Int) (o : vigilref14_Number_L9_3O), vigilref14_Number_L9_3 p0 n k v6_9_2 v7_9_2 = some o → ∀ s : S, restrS (X.an.rs 47 9) s = ⟨fl [(0, .c (.sc (.string p0))), (4, dB false), (5, .c (.sc (.string p0))), (6, .c (.sc (.int .u64 v6_9_2))), (7, dInt v7_9_2)], ⟨[], []⟩⟩ → X.Loop 47 62 [] (sub b47 [1, 1, 1, 1, 1, 1, 0, 1, 0, 0]) 0 s (vigilref14_Number_L9_3x o) (vigilref14_Number_L9_3s p0 o) := by
  intro k
  induction k with
  | zero => intro v6_9_2 v7_9_2 o h s hs; unfold vigilref14_Number_L9_3 at h; cases h
  | succ k ih =>
    intro v6_9_2 v7_9_2 o h s hs
    unfold vigilref14_Number_L9_3 at h
    refine Sys.loopQ hs ?_
    by_cases h1 : v7_9_2 < (p0.size : Int)
    · replace h := iteT h1 h
      obtain ⟨v36_3, h3, h⟩ := bindE h
      refine Sys.to [((9, 3), .b true)] 11 (.at [1, 0, 0, 0, 0]) ⟨fl [(0, .c (.sc (.string p0))), (4, dB false), (5, .c (.sc (.string p0))), (6, .c (.sc (.int .u64 v6_9_2))), (7, dInt v7_9_2), (31, dB true)], ⟨[], []⟩⟩ (h1) (by kernel_rfl) ?_
      by_cases h4 : v36_3 < 48
      · replace h := iteT h4 h
        have hr := Option.some.inj h
        subst hr
        exact Sys.endX [((11, 2), .op { d := .c (.sc (.int .u8 v36_3)) }), ((11, 3), .b true)] (And.intro (byte_ix h3) (h4)) rfl (by kernel_rfl)
      · replace h := iteF h4 h
        obtain ⟨v41_3, h5, h⟩ := bindE h
        by_cases h6 : v41_3 > 57
        · replace h := iteT h6 h
          have hr := Option.some.inj h
          subst hr
          exact Sys.endX [((11, 2), .op { d := .c (.sc (.int .u8 v36_3)) }), ((11, 3), .b false), ((11, 7), .op { d := .c (.sc (.int .u8 v41_3)) }), ((11, 8), .b true)] (And.intro (byte_ix h3) (And.intro (h4) (And.intro (byte_ix h5) (h6)))) rfl (by kernel_rfl)
        · replace h := iteF h6 h
          obtain ⟨v48_3, h8, h⟩ := bindE h
          by_cases h10 : InR (v7_9_2 + 1)
          case neg => exact absurd (iteF h10 h) (by simp)
          replace h := iteT h10 h
          refine Sys.to [((11, 2), .op { d := .c (.sc (.int .u8 v36_3)) }), ((11, 3), .b false), ((11, 7), .op { d := .c (.sc (.int .u8 v41_3)) }), ((11, 8), .b false), ((13, 4), .op { d := .c (.sc (.int .u8 v48_3)) }), ((10, 1), .n)] 999999 (.fin .normal) ⟨fl [(0, .c (.sc (.string p0))), (4, dB false), (5, .c (.sc (.string p0))), (6, .c (.sc (.int .u64 (Go.IntKind.u64.wrap ((Go.IntKind.u64.wrap (10 * v6_9_2)) + (Go.IntKind.u64.wrap (Go.IntKind.u8.wrap (v48_3 - 48)))))))), (7, dInt (v7_9_2 + 1))], ⟨[], []⟩⟩ (And.intro (byte_ix h3) (And.intro (h4) (And.intro (byte_ix h5) (And.intro (h6) (And.intro (byte_ix h8) (h10)))))) (by kernel_rfl) ?_
          exact Sys.fin (.inl ⟨rfl, ⟨fl [(0, .c (.sc (.string p0))), (4, dB false), (5, .c (.sc (.string p0))), (6, .c (.sc (.int .u64 (Go.IntKind.u64.wrap ((Go.IntKind.u64.wrap (10 * v6_9_2)) + (Go.IntKind.u64.wrap (Go.IntKind.u8.wrap (v48_3 - 48)))))))), (7, dInt (v7_9_2 + 1))], ⟨[], []⟩⟩, (by kernel_rfl), ih (Go.IntKind.u64.wrap ((Go.IntKind.u64.wrap (10 * v6_9_2)) + (Go.IntKind.u64.wrap (Go.IntKind.u8.wrap (v48_3 - 48))))) (v7_9_2 + 1) _ h _ (by kernel_rfl)⟩)
    · replace h := iteF h1 h
      have hr := Option.some.inj h
      subst hr
      exact Sys.endX [((9, 3), .b false)] (h1) rfl (by kernel_rfl)

def vigilref14_Number (n : Nat) (p0 : ByteArray) : Option (Int × Bool) :=
  if (p0.size : Int) > 0 then
    (byteI p0 0).bind fun v14 =>
    if v14 = 45 then
      if 0 ≤ (1 : Int) ∧ (1 : Int) ≤ (p0.size : Int) then if (p0.extract (1 : Int).toNat p0.size) = (⟨#[]⟩ : ByteArray) then
        some (0, false)
      else if ((p0.extract (1 : Int).toNat p0.size).size : Int) > 19 then
        some (0, false)
      else (vigilref14_Number_L9 p0 n n 0 0).bind fun o_2 => match o_2 with
      | .r =>
        some (0, false)
      | .e0 v6_2 v7_2 =>
        (vigilref03_Digits n (Go.IntKind.i64.wrap (0 - (Go.IntKind.i64.wrap v6_2)))).bind fun x =>
        if x = p0 then
          some ((Go.IntKind.i64.wrap (0 - (Go.IntKind.i64.wrap v6_2))), true)
        else some ((Go.IntKind.i64.wrap (0 - (Go.IntKind.i64.wrap v6_2))), false)
      else none
    else if p0 = (⟨#[]⟩ : ByteArray) then
      some (0, false)
    else if (p0.size : Int) > 19 then
      some (0, false)
    else (vigilref14_Number_L9_2 p0 n n 0 0).bind fun o_3 => match o_3 with
    | .r =>
      some (0, false)
    | .e0 v6_3 v7_3 =>
      (vigilref03_Digits n (Go.IntKind.i64.wrap v6_3)).bind fun x_2 =>
      if x_2 = p0 then
        some ((Go.IntKind.i64.wrap v6_3), true)
      else some ((Go.IntKind.i64.wrap v6_3), false)
  else if p0 = (⟨#[]⟩ : ByteArray) then
    some (0, false)
  else if (p0.size : Int) > 19 then
    some (0, false)
  else (vigilref14_Number_L9_3 p0 n n 0 0).bind fun o_4 => match o_4 with
  | .r =>
    some (0, false)
  | .e0 v6_4 v7_4 =>
    (vigilref03_Digits n (Go.IntKind.i64.wrap v6_4)).bind fun x_3 =>
    if x_3 = p0 then
      some ((Go.IntKind.i64.wrap v6_4), true)
    else some ((Go.IntKind.i64.wrap v6_4), false)
theorem vigilref14_Number_ok {n : Nat} {p0 : ByteArray} {r : Int × Bool} (h : vigilref14_Number n p0 = some r) : X.RunsC 47 [.c (.sc (.string p0))] (.tup [dInt r.1, dB r.2]) := by
  unfold vigilref14_Number at h
  refine Sys.callC' (fn := Tryz.f47) (b := b47) (by kernel_rfl) (by kernel_rfl) ?_
  by_cases h2 : (p0.size : Int) > 0
  · replace h := iteT h2 h
    obtain ⟨v14, h3, h⟩ := bindE h
    by_cases h4 : v14 = 45
    · replace h := iteT h4 h
      by_cases h9 : 0 ≤ (1 : Int) ∧ (1 : Int) ≤ (p0.size : Int)
      case neg => exact absurd (iteF h9 h) (by simp)
      replace h := iteT h9 h
      refine Sys.to [((1, 2), .b true), ((1, 5), .op { d := .c (.sc (.int .u8 v14)) }), ((1, 6), .b true), ((4, 1), .op { d := .c (.sc (.string (p0.extract (1 : Int).toNat p0.size))) })] 5 (.at [1, 1, 1, 1, 0, 0]) ⟨fl [(0, .c (.sc (.string p0))), (4, dB true), (5, .c (.sc (.string (p0.extract (1 : Int).toNat p0.size))))], ⟨[], []⟩⟩ (And.intro (h2) (And.intro (byte_ix h3) (And.intro (h4) (str_slc_lo (P0 := X.P) (t0 := 9) (st0 := []) (by kernel_rfl) h9)))) (by kernel_rfl) ?_
      by_cases h11 : (p0.extract (1 : Int).toNat p0.size) = (⟨#[]⟩ : ByteArray)
      · replace h := iteT h11 h
        have hr := Option.some.inj h
        subst hr
        exact Sys.endC [((5, 1), .op { d := dB true })] (str_eql_true h11) (by kernel_rfl)
      · replace h := iteF h11 h
        by_cases h12 : ((p0.extract (1 : Int).toNat p0.size).size : Int) > 19
        · replace h := iteT h12 h
          have hr := Option.some.inj h
          subst hr
          exact Sys.endC [((5, 1), .op { d := dB false }), ((5, 5), .b true)] (And.intro (str_eql_false h11) (h12)) (by kernel_rfl)
        · replace h := iteF h12 h
          refine Sys.to [((5, 1), .op { d := dB false }), ((5, 5), .b false)] 100009 (.at [1, 1, 1, 1, 1, 1, 0, 1, 0]) ⟨fl [(0, .c (.sc (.string p0))), (4, dB true), (5, .c (.sc (.string (p0.extract (1 : Int).toNat p0.size)))), (6, .c (.sc (.int .u64 0))), (7, dInt 0)], ⟨[], []⟩⟩ (And.intro (str_eql_false h11) (h12)) (by kernel_rfl) ?_
          obtain ⟨o_2, g16, h⟩ := bindE h
          have h16 := vigilref14_Number_L9_ok p0 n n 0 0 _ g16
          cases o_2 with
          | r =>
            dsimp only at h
            have hr := Option.some.inj h
            subst hr
            exact Sys.endC [((9, 1000), .code .ret ⟨fl [(2, dInt 0), (3, dB false)], ⟨[], []⟩⟩)] (Sys.Loop.goM (h16 ⟨fl [(0, .c (.sc (.string p0))), (4, dB true), (5, .c (.sc (.string (p0.extract (1 : Int).toNat p0.size)))), (6, .c (.sc (.int .u64 0))), (7, dInt 0)], ⟨[], []⟩⟩ (by kernel_rfl)) (by kernel_rfl)) (by kernel_rfl)
          | e0 v6_2 v7_2 =>
            dsimp only at h
            obtain ⟨x, g21, h⟩ := bindE h
            have h21 := vigilref03_Digits_ok g21
            refine Sys.to [((9, 1000), .code (.exit 0) ⟨fl [(0, .c (.sc (.string p0))), (4, dB true), (5, .c (.sc (.string (p0.extract (1 : Int).toNat p0.size)))), (6, .c (.sc (.int .u64 v6_2))), (7, dInt v7_2), (31, dB false)], ⟨[], []⟩⟩)] 17 (.at [1, 1, 1, 1, 1, 1, 1, 1, 1, 0]) ⟨fl [(0, .c (.sc (.string p0))), (8, dInt (Go.IntKind.i64.wrap (0 - (Go.IntKind.i64.wrap v6_2))))], ⟨[], []⟩⟩ (Sys.Loop.goM (h16 ⟨fl [(0, .c (.sc (.string p0))), (4, dB true), (5, .c (.sc (.string (p0.extract (1 : Int).toNat p0.size)))), (6, .c (.sc (.int .u64 0))), (7, dInt 0)], ⟨[], []⟩⟩ (by kernel_rfl)) (by kernel_rfl)) (by kernel_rfl) ?_
            by_cases h22 : x = p0
            · replace h := iteT h22 h
              have hr := Option.some.inj h
              subst hr
              exact Sys.endC [((17, 2), .call (.c (.sc (.string x))) ⟨[], []⟩), ((17, 4), .op { d := dB true })] (And.intro (h21) (str_eql_true h22)) (by kernel_rfl)
            · replace h := iteF h22 h
              have hr := Option.some.inj h
              subst hr
              exact Sys.endC [((17, 2), .call (.c (.sc (.string x))) ⟨[], []⟩), ((17, 4), .op { d := dB false })] (And.intro (h21) (str_eql_false h22)) (by kernel_rfl)
    · replace h := iteF h4 h
      refine Sys.to [((1, 2), .b true), ((1, 5), .op { d := .c (.sc (.int .u8 v14)) }), ((1, 6), .b false)] 5 (.at [1, 1, 1, 1, 0, 0]) ⟨fl [(0, .c (.sc (.string p0))), (4, dB false), (5, .c (.sc (.string p0))), (18, dB false)], ⟨[], []⟩⟩ (And.intro (h2) (And.intro (byte_ix h3) (h4))) (by kernel_rfl) ?_
      by_cases h9 : p0 = (⟨#[]⟩ : ByteArray)
      · replace h := iteT h9 h
        have hr := Option.some.inj h
        subst hr
        exact Sys.endC [((5, 1), .op { d := dB true })] (str_eql_true h9) (by kernel_rfl)
      · replace h := iteF h9 h
        by_cases h10 : (p0.size : Int) > 19
        · replace h := iteT h10 h
          have hr := Option.some.inj h
          subst hr
          exact Sys.endC [((5, 1), .op { d := dB false }), ((5, 5), .b true)] (And.intro (str_eql_false h9) (h10)) (by kernel_rfl)
        · replace h := iteF h10 h
          refine Sys.to [((5, 1), .op { d := dB false }), ((5, 5), .b false)] 100009 (.at [1, 1, 1, 1, 1, 1, 0, 1, 0]) ⟨fl [(0, .c (.sc (.string p0))), (4, dB false), (5, .c (.sc (.string p0))), (6, .c (.sc (.int .u64 0))), (7, dInt 0)], ⟨[], []⟩⟩ (And.intro (str_eql_false h9) (h10)) (by kernel_rfl) ?_
          obtain ⟨o_3, g14, h⟩ := bindE h
          have h14 := vigilref14_Number_L9_2_ok p0 n n 0 0 _ g14
          cases o_3 with
          | r =>
            dsimp only at h
            have hr := Option.some.inj h
            subst hr
            exact Sys.endC [((9, 1000), .code .ret ⟨fl [(2, dInt 0), (3, dB false)], ⟨[], []⟩⟩)] (Sys.Loop.goM (h14 ⟨fl [(0, .c (.sc (.string p0))), (4, dB false), (5, .c (.sc (.string p0))), (6, .c (.sc (.int .u64 0))), (7, dInt 0)], ⟨[], []⟩⟩ (by kernel_rfl)) (by kernel_rfl)) (by kernel_rfl)
          | e0 v6_3 v7_3 =>
            dsimp only at h
            obtain ⟨x_2, g18, h⟩ := bindE h
            have h18 := vigilref03_Digits_ok g18
            refine Sys.to [((9, 1000), .code (.exit 0) ⟨fl [(0, .c (.sc (.string p0))), (4, dB false), (5, .c (.sc (.string p0))), (6, .c (.sc (.int .u64 v6_3))), (7, dInt v7_3), (31, dB false)], ⟨[], []⟩⟩)] 17 (.at [1, 1, 1, 1, 1, 1, 1, 1, 1, 0]) ⟨fl [(0, .c (.sc (.string p0))), (8, dInt (Go.IntKind.i64.wrap v6_3)), (54, dB false)], ⟨[], []⟩⟩ (Sys.Loop.goM (h14 ⟨fl [(0, .c (.sc (.string p0))), (4, dB false), (5, .c (.sc (.string p0))), (6, .c (.sc (.int .u64 0))), (7, dInt 0)], ⟨[], []⟩⟩ (by kernel_rfl)) (by kernel_rfl)) (by kernel_rfl) ?_
            by_cases h19 : x_2 = p0
            · replace h := iteT h19 h
              have hr := Option.some.inj h
              subst hr
              exact Sys.endC [((17, 2), .call (.c (.sc (.string x_2))) ⟨[], []⟩), ((17, 4), .op { d := dB true })] (And.intro (h18) (str_eql_true h19)) (by kernel_rfl)
            · replace h := iteF h19 h
              have hr := Option.some.inj h
              subst hr
              exact Sys.endC [((17, 2), .call (.c (.sc (.string x_2))) ⟨[], []⟩), ((17, 4), .op { d := dB false })] (And.intro (h18) (str_eql_false h19)) (by kernel_rfl)
  · replace h := iteF h2 h
    refine Sys.to [((1, 2), .b false)] 5 (.at [1, 1, 1, 1, 0, 0]) ⟨fl [(0, .c (.sc (.string p0))), (4, dB false), (5, .c (.sc (.string p0))), (18, dB false)], ⟨[], []⟩⟩ (h2) (by kernel_rfl) ?_
    by_cases h7 : p0 = (⟨#[]⟩ : ByteArray)
    · replace h := iteT h7 h
      have hr := Option.some.inj h
      subst hr
      exact Sys.endC [((5, 1), .op { d := dB true })] (str_eql_true h7) (by kernel_rfl)
    · replace h := iteF h7 h
      by_cases h8 : (p0.size : Int) > 19
      · replace h := iteT h8 h
        have hr := Option.some.inj h
        subst hr
        exact Sys.endC [((5, 1), .op { d := dB false }), ((5, 5), .b true)] (And.intro (str_eql_false h7) (h8)) (by kernel_rfl)
      · replace h := iteF h8 h
        refine Sys.to [((5, 1), .op { d := dB false }), ((5, 5), .b false)] 100009 (.at [1, 1, 1, 1, 1, 1, 0, 1, 0]) ⟨fl [(0, .c (.sc (.string p0))), (4, dB false), (5, .c (.sc (.string p0))), (6, .c (.sc (.int .u64 0))), (7, dInt 0)], ⟨[], []⟩⟩ (And.intro (str_eql_false h7) (h8)) (by kernel_rfl) ?_
        obtain ⟨o_4, g12, h⟩ := bindE h
        have h12 := vigilref14_Number_L9_3_ok p0 n n 0 0 _ g12
        cases o_4 with
        | r =>
          dsimp only at h
          have hr := Option.some.inj h
          subst hr
          exact Sys.endC [((9, 1000), .code .ret ⟨fl [(2, dInt 0), (3, dB false)], ⟨[], []⟩⟩)] (Sys.Loop.goM (h12 ⟨fl [(0, .c (.sc (.string p0))), (4, dB false), (5, .c (.sc (.string p0))), (6, .c (.sc (.int .u64 0))), (7, dInt 0)], ⟨[], []⟩⟩ (by kernel_rfl)) (by kernel_rfl)) (by kernel_rfl)
        | e0 v6_4 v7_4 =>
          dsimp only at h
          obtain ⟨x_3, g16, h⟩ := bindE h
          have h16 := vigilref03_Digits_ok g16
          refine Sys.to [((9, 1000), .code (.exit 0) ⟨fl [(0, .c (.sc (.string p0))), (4, dB false), (5, .c (.sc (.string p0))), (6, .c (.sc (.int .u64 v6_4))), (7, dInt v7_4), (31, dB false)], ⟨[], []⟩⟩)] 17 (.at [1, 1, 1, 1, 1, 1, 1, 1, 1, 0]) ⟨fl [(0, .c (.sc (.string p0))), (8, dInt (Go.IntKind.i64.wrap v6_4)), (54, dB false)], ⟨[], []⟩⟩ (Sys.Loop.goM (h12 ⟨fl [(0, .c (.sc (.string p0))), (4, dB false), (5, .c (.sc (.string p0))), (6, .c (.sc (.int .u64 0))), (7, dInt 0)], ⟨[], []⟩⟩ (by kernel_rfl)) (by kernel_rfl)) (by kernel_rfl) ?_
          by_cases h17 : x_3 = p0
          · replace h := iteT h17 h
            have hr := Option.some.inj h
            subst hr
            exact Sys.endC [((17, 2), .call (.c (.sc (.string x_3))) ⟨[], []⟩), ((17, 4), .op { d := dB true })] (And.intro (h16) (str_eql_true h17)) (by kernel_rfl)
          · replace h := iteF h17 h
            have hr := Option.some.inj h
            subst hr
            exact Sys.endC [((17, 2), .call (.c (.sc (.string x_3))) ⟨[], []⟩), ((17, 4), .op { d := dB false })] (And.intro (h16) (str_eql_false h17)) (by kernel_rfl)
inductive vigilref14_numbers_L3O where
  | r
  | e0 (v4 : List Int) (v5 : Int)
def vigilref14_numbers_L3x : vigilref14_numbers_L3O → Ex
  | .r => .ret
  | .e0 _ _ => (.exit 0)
def vigilref14_numbers_L3s (p0 : Sl ByteArray) : vigilref14_numbers_L3O → S
  | .r => ⟨fl [(2, .c (.sl true true [] 0)), (3, dB false)], ⟨[], []⟩⟩
  | .e0 v4 v5 => ⟨fl [(0, .c (eSl p0)), (4, apl v4), (5, dInt v5), (11, dB false)], ⟨[], []⟩⟩
def vigilref14_numbers_L3 (p0 : Sl ByteArray) (n : Nat) : Nat → List Int → Int → Option vigilref14_numbers_L3O
  | 0, _, _ => none
  | k + 1, v4, v5 =>
    if v5 < (p0.l.length : Int) then
      (atI p0.l v5).bind fun v17 =>
      (vigilref14_Number n v17).bind fun (x, x_2) =>
      bif x_2 then
        if Room 8 (v4 ++ ([x] : List Int)).length then if InR (v5 + 1) then vigilref14_numbers_L3 p0 n k (v4 ++ ([x] : List Int)) (v5 + 1)
        else none
        else none
      else some (.r)
    else some (.e0 v4 v5)
theorem vigilref14_numbers_L3_ok (p0 : Sl ByteArray) (n : Nat) : ∀ (k : Nat) (v4 : List Int) (v5 : Int) (o : vigilref14_numbers_L3O), vigilref14_numbers_L3 p0 n k v4 v5 = some o → ∀ s : S, restrS (X.an.rs 61 3) s = ⟨fl [(0, .c (eSl p0)), (4, apl v4), (5, dInt v5)], ⟨[], []⟩⟩ → X.Loop 61 29 [] (sub b61 [1, 1, 0, 1, 0, 0]) 0 s (vigilref14_numbers_L3x o) (vigilref14_numbers_L3s p0 o) := by
  intro k
  induction k with
  | zero => intro v4 v5 o h s hs; unfold vigilref14_numbers_L3 at h; cases h
  | succ k ih =>
    intro v4 v5 o h s hs
    unfold vigilref14_numbers_L3 at h
    refine Sys.loopQ hs ?_
    by_cases h1 : v5 < (p0.l.length : Int)
    · replace h := iteT h1 h
      obtain ⟨v17, h3, h⟩ := bindE h
      obtain ⟨⟨x, x_2⟩, g4, h⟩ := bindE h
      dsimp only at h
      have h4 := vigilref14_Number_ok g4
      refine Sys.to [((3, 3), .b true), ((5, 2), .ix), ((5, 3), .cell (.sc (.string v17))), ((5, 4), .call (.tup [dInt x, dB x_2]) ⟨[], []⟩)] 6 (.at [1, 0, 0, 1, 0, 0]) ⟨fl [(0, .c (eSl p0)), (4, apl v4), (5, dInt v5), (6, dInt x), (7, dB x_2)], ⟨[], []⟩⟩ (And.intro (h1) (And.intro (atI_b h3) (And.intro (cell_at 0 (c := .sc (.string v17)) rfl (atI_g h3)) (h4)))) (by kernel_rfl) ?_
      cases x_2 with
      | true =>
        replace h := condT h
        by_cases h8 : Room 8 (v4 ++ ([x] : List Int)).length
        case neg => exact absurd (iteF h8 h) (by simp)
        replace h := iteT h8 h
        by_cases h10 : InR (v5 + 1)
        case neg => exact absurd (iteF h10 h) (by simp)
        replace h := iteT h10 h
        refine Sys.to [((8, 3), .appF (v4 ++ ([x] : List Int)).isEmpty (cells (v4 ++ ([x] : List Int))) (v4 ++ ([x] : List Int)).length), ((4, 1), .n)] 999999 (.fin .normal) ⟨fl [(0, .c (eSl p0)), (4, apl (v4 ++ ([x] : List Int))), (5, dInt (v5 + 1))], ⟨[], []⟩⟩ (And.intro (apl_lit v4 ([x] : List Int) (b := 8) (by decide) h8) (h10)) (by kernel_rfl) ?_
        exact Sys.fin (.inl ⟨rfl, ⟨fl [(0, .c (eSl p0)), (4, apl (v4 ++ ([x] : List Int))), (5, dInt (v5 + 1))], ⟨[], []⟩⟩, (by kernel_rfl), ih (v4 ++ ([x] : List Int)) (v5 + 1) _ h _ (by kernel_rfl)⟩)
      | false =>
        replace h := condF h
        have hr := Option.some.inj h
        subst hr
        exact Sys.endX [] (True.intro) rfl (by kernel_rfl)
    · replace h := iteF h1 h
      have hr := Option.some.inj h
      subst hr
      exact Sys.endX [((3, 3), .b false)] (h1) rfl (by kernel_rfl)

def vigilref14_numbers (n : Nat) (p0 : Sl ByteArray) : Option (Sl Int × Bool) :=
  (vigilref14_numbers_L3 p0 n n ([] : List Int) 0).bind fun o_2 => match o_2 with
  | .r =>
    some ((Sl.nil : Sl Int), false)
  | .e0 v4_2 v5_2 =>
    some ((Sl.gr v4_2), true)
theorem vigilref14_numbers_ok {n : Nat} {p0 : Sl ByteArray} {r : Sl Int × Bool} (h : vigilref14_numbers n p0 = some r) : X.RunsC 61 [.c (eSl p0)] (.tup [.c (eSl r.1), dB r.2]) := by
  unfold vigilref14_numbers at h
  refine Sys.callC' (fn := Tryz.f61) (b := b61) (by kernel_rfl) (by kernel_rfl) ?_
  obtain ⟨o_2, g4, h⟩ := bindE h
  have h4 := vigilref14_numbers_L3_ok p0 n n ([] : List Int) 0 _ g4
  cases o_2 with
  | r =>
    dsimp only at h
    have hr := Option.some.inj h
    subst hr
    exact Sys.endC [((3, 1000), .code .ret ⟨fl [(2, .c (.sl true true [] 0)), (3, dB false)], ⟨[], []⟩⟩)] (Sys.Loop.goM (h4 ⟨fl [(0, .c (eSl p0)), (4, apl ([] : List Int)), (5, dInt 0)], ⟨[], []⟩⟩ (by kernel_rfl)) (by kernel_rfl)) (by kernel_rfl)
  | e0 v4_2 v5_2 =>
    dsimp only at h
    have hr := Option.some.inj h
    subst hr
    exact Sys.endC [((3, 1000), .code (.exit 0) ⟨fl [(0, .c (eSl p0)), (4, apl v4_2), (5, dInt v5_2), (11, dB false)], ⟨[], []⟩⟩)] (Sys.Loop.goM (h4 ⟨fl [(0, .c (eSl p0)), (4, apl ([] : List Int)), (5, dInt 0)], ⟨[], []⟩⟩ (by kernel_rfl)) (by kernel_rfl)) (by kernel_rfl)
def vigilref14_digits (n : Nat) (p0 : Int) : Option ByteArray :=
  (vigilref03_Digits n p0).bind fun x =>
  some x
theorem vigilref14_digits_ok {n : Nat} {p0 : Int} {r : ByteArray} (h : vigilref14_digits n p0 = some r) : X.RunsC 67 [dInt p0] (.c (.sc (.string r))) := by
  unfold vigilref14_digits at h
  refine Sys.callC' (fn := Tryz.f67) (b := b67) (by kernel_rfl) (by kernel_rfl) ?_
  obtain ⟨x, g2, h⟩ := bindE h
  have h2 := vigilref03_Digits_ok g2
  have hr := Option.some.inj h
  subst hr
  exact Sys.endC [((1, 1), .call (.c (.sc (.string x))) ⟨[], []⟩)] (h2) (by kernel_rfl)
end Go.Proofs.YtilipgopjiokfaaGreatDoor
