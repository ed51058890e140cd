/-
  Part of the proof: printed by the session's own program out of the program's form, or typed; it states no claim by itself.
-/
import Derived.Test.YtilipgopjiokfaaGreatDoorTy
import Derived.Test.YtilipgopjiokfaaGreatDoorAn
/-
  Functions of the program as Lean functions, and that the interpreter comes to the same: printed by the session's own tool.
-/
set_option linter.unusedVariables false
set_option linter.unusedSimpArgs false
set_option maxRecDepth 100000
set_option maxHeartbeats 1000000
namespace Go.Proofs.YtilipgopjiokfaaGreatDoor
open Go Go.Abs Go.Proofs
def script_text (n : Nat) (p0 : GPick) : Option (ByteArray × Bool) :=
  if InR p0.thread then if (if p0.draw < p0.thread then p0.draw else p0.thread) < 0 then
    some ((⟨#[]⟩ : ByteArray), false)
  else if (if p0.draw > p0.thread then p0.draw else p0.thread) > 999999 then
    some ((⟨#[]⟩ : ByteArray), false)
  else if p0.kind = 0 then
    if p0.draw > 0 then
      if ((itoaB p0.thread) ++ (⟨#[46]⟩ : ByteArray)).size ≤ 9223372036854775807 then if InR p0.draw then if (((itoaB p0.thread) ++ (⟨#[46]⟩ : ByteArray)) ++ (itoaB p0.draw)).size ≤ 9223372036854775807 then some ((((itoaB p0.thread) ++ (⟨#[46]⟩ : ByteArray)) ++ (itoaB p0.draw)), true)
      else none
      else none
      else none
    else some ((itoaB p0.thread), true)
  else if p0.kind = 1 then
    if ((⟨#[115]⟩ : ByteArray) ++ (itoaB p0.thread)).size ≤ 9223372036854775807 then if p0.draw = 0 then
      some (((⟨#[115]⟩ : ByteArray) ++ (itoaB p0.thread)), true)
    else some (((⟨#[115]⟩ : ByteArray) ++ (itoaB p0.thread)), false)
    else none
  else if p0 = ({ kind := 2, thread := 0, draw := 0 } : GPick) then
    some ((⟨#[116]⟩ : ByteArray), true)
  else some ((⟨#[116]⟩ : ByteArray), false)
  else none
theorem script_text_ok {n : Nat} {p0 : GPick} {r : ByteArray × Bool} (h : script_text n p0 = some r) : X.RunsC 33 [.c (.agg (EncX.encX p0))] (.tup [.c (.sc (.string r.1)), dB r.2]) := by
  unfold script_text at h
  refine Sys.callC' (fn := Tryz.f33) (b := b33) (by kernel_rfl) (by kernel_rfl) ?_
  by_cases h2 : InR p0.thread
  case neg => exact absurd (iteF h2 h) (by simp)
  replace h := iteT h2 h
  refine Sys.to [((1, 2), .op { d := .c (.sc (.string (itoaB p0.thread))) })] 2 (.at [1, 1, 0, 0, 0]) ⟨fl [(1, .pt 0 1 0), (4, .c (.sc (.string (itoaB p0.thread))))], ⟨[⟨1, (EncX.encX p0).map DV.c⟩], []⟩⟩ (itoaP_eq [⟨1, (EncX.encX p0).map DV.c⟩] (n := p0.thread) h2) (by kernel_rfl) ?_
  by_cases h4 : (if p0.draw < p0.thread then p0.draw else p0.thread) < 0
  · replace h := iteT h4 h
    have hr := Option.some.inj h
    subst hr
    exact Sys.endC [((2, 5), .b true)] (h4) (by kernel_rfl)
  · replace h := iteF h4 h
    by_cases h5 : (if p0.draw > p0.thread then p0.draw else p0.thread) > 999999
    · replace h := iteT h5 h
      have hr := Option.some.inj h
      subst hr
      exact Sys.endC [((2, 5), .b false), ((2, 12), .b true)] (And.intro (h4) (h5)) (by kernel_rfl)
    · replace h := iteF h5 h
      refine Sys.to [((2, 5), .b false), ((2, 12), .b false)] 4 (.at [1, 1, 0, 0, 1, 1, 0]) ⟨fl [(1, .pt 0 1 0), (4, .c (.sc (.string (itoaB p0.thread)))), (8, dB false)], ⟨[⟨1, (EncX.encX p0).map DV.c⟩], []⟩⟩ (And.intro (h4) (h5)) (by kernel_rfl) ?_
      by_cases h7 : p0.kind = 0
      · replace h := iteT h7 h
        by_cases h8 : p0.draw > 0
        · replace h := iteT h8 h
          by_cases h10 : ((itoaB p0.thread) ++ (⟨#[46]⟩ : ByteArray)).size ≤ 9223372036854775807
          case neg => exact absurd (iteF h10 h) (by simp)
          replace h := iteT h10 h
          by_cases h11 : InR p0.draw
          case neg => exact absurd (iteF h11 h) (by simp)
          replace h := iteT h11 h
          by_cases h12 : (((itoaB p0.thread) ++ (⟨#[46]⟩ : ByteArray)) ++ (itoaB p0.draw)).size ≤ 9223372036854775807
          case neg => exact absurd (iteF h12 h) (by simp)
          replace h := iteT h12 h
          have hr := Option.some.inj h
          subst hr
          exact Sys.endC [((4, 2), .b true), ((4, 6), .b true), ((5, 1), .op { d := .c (.sc (.string ((itoaB p0.thread) ++ (⟨#[46]⟩ : ByteArray)))) }), ((5, 4), .op { d := .c (.sc (.string (itoaB p0.draw))) }), ((5, 5), .op { d := .c (.sc (.string (((itoaB p0.thread) ++ (⟨#[46]⟩ : ByteArray)) ++ (itoaB p0.draw)))) })] (And.intro (h7) (And.intro (h8) (And.intro (str_add (P0 := X.P) (t0 := 9) h10) (And.intro (itoaP_eq [⟨1, (EncX.encX p0).map DV.c⟩] (n := p0.draw) h11) (str_add (P0 := X.P) (t0 := 9) h12))))) (by kernel_rfl)
        · replace h := iteF h8 h
          have hr := Option.some.inj h
          subst hr
          exact Sys.endC [((4, 2), .b true), ((4, 6), .b false), ((6, 2), .b true)] (And.intro (h7) (And.intro (h8) (h7))) (by kernel_rfl)
      · replace h := iteF h7 h
        refine Sys.to [((4, 2), .b false), ((6, 2), .b false)] 8 (.at [1, 1, 0, 0, 1, 1, 1, 1, 1, 1, 0]) ⟨fl [(1, .pt 0 1 0), (4, .c (.sc (.string (itoaB p0.thread)))), (38, dB false)], ⟨[⟨1, (EncX.encX p0).map DV.c⟩], []⟩⟩ (And.intro (h7) (h7)) (by kernel_rfl) ?_
        by_cases h10 : p0.kind = 1
        · replace h := iteT h10 h
          by_cases h12 : ((⟨#[115]⟩ : ByteArray) ++ (itoaB p0.thread)).size ≤ 9223372036854775807
          case neg => exact absurd (iteF h12 h) (by simp)
          replace h := iteT h12 h
          refine Sys.to [((8, 2), .b true)] 9 (.at [1, 1, 0, 0, 1, 1, 1, 1, 1, 1, 1, 0, 0]) ⟨fl [(1, .pt 0 1 0), (4, .c (.sc (.string (itoaB p0.thread)))), (43, dB true)], ⟨[⟨1, (EncX.encX p0).map DV.c⟩], []⟩⟩ (h10) (by kernel_rfl) ?_
          by_cases h13 : p0.draw = 0
          · replace h := iteT h13 h
            have hr := Option.some.inj h
            subst hr
            exact Sys.endC [((9, 1), .op { d := .c (.sc (.string ((⟨#[115]⟩ : ByteArray) ++ (itoaB p0.thread)))) }), ((9, 4), .b true)] (And.intro (str_add (P0 := X.P) (t0 := 9) h12) (h13)) (by kernel_rfl)
          · replace h := iteF h13 h
            have hr := Option.some.inj h
            subst hr
            exact Sys.endC [((9, 1), .op { d := .c (.sc (.string ((⟨#[115]⟩ : ByteArray) ++ (itoaB p0.thread)))) }), ((9, 4), .b false)] (And.intro (str_add (P0 := X.P) (t0 := 9) h12) (h13)) (by kernel_rfl)
        · replace h := iteF h10 h
          refine Sys.to [((8, 2), .b false)] 10 (.at [1, 1, 1, 0]) ⟨fl [(1, .pt 0 1 0), (4, .c (.sc (.string (itoaB p0.thread)))), (43, dB false)], ⟨[⟨1, (EncX.encX p0).map DV.c⟩], []⟩⟩ (h10) (by kernel_rfl) ?_
          by_cases h12 : p0 = ({ kind := 2, thread := 0, draw := 0 } : GPick)
          · replace h := iteT h12 h
            have hr := Option.some.inj h
            subst hr
            exact Sys.endC [((10, 2), .op { d := dB true })] (rec_eql_true (GPick_eq p0 ({ kind := 2, thread := 0, draw := 0 } : GPick)) h12) (by kernel_rfl)
          · replace h := iteF h12 h
            have hr := Option.some.inj h
            subst hr
            exact Sys.endC [((10, 2), .op { d := dB false })] (rec_eql_false (GPick_eq p0 ({ kind := 2, thread := 0, draw := 0 } : GPick)) h12) (by kernel_rfl)
inductive script_Put_L5O where
  | r (o0 : List ByteArray) (o1_0 : Int) (o1_1 : Int) (o1_2 : Int)
  | e0 (v17 : Int) (o0 : List ByteArray)
def script_Put_L5x : script_Put_L5O → Ex
  | .r _ _ _ _ => .ret
  | .e0 _ _ => (.exit 0)
def script_Put_L5s (p0 : Sl GPick) : script_Put_L5O → S
  | .r o0 o1_0 o1_1 o1_2 => ⟨fl [(2, .c (.sc (.string (⟨#[]⟩ : ByteArray)))), (3, dInt 2)], ⟨[⟨1, dcells o0⟩, ⟨1, [dInt o1_0, dInt o1_1, dInt o1_2]⟩], []⟩⟩
  | .e0 v17 o0 => ⟨fl [(4, .ms 0 1 0 p0.l.length 1 true), (15, .c (eSl p0)), (16, dInt (p0.l.length : Int)), (17, dInt v17), (18, dB false)], ⟨[⟨1, dcells o0⟩], []⟩⟩
def script_Put_L5 (p0 : Sl GPick) (n : Nat) : Nat → Int → List ByteArray → Option script_Put_L5O
  | 0, _, _ => none
  | k + 1, v17, o0 =>
    if v17 < (p0.l.length : Int) then
      (atI p0.l v17).bind fun v20 =>
      (script_text n v20).bind fun (x, x_2) =>
      bif x_2 then
        if 0 ≤ v17 ∧ v17 < (p0.l.length : Int) then (atI o0 v17).bind fun w0 =>
        if InR (v17 + 1) then script_Put_L5 p0 n k (v17 + 1) (o0.set v17.toNat x)
        else none
        else none
      else some (.r o0 v20.kind v20.thread v20.draw)
    else some (.e0 v17 o0)
theorem script_Put_L5_ok (p0 : Sl GPick) (n : Nat) : ∀ (k : Nat) (v17 : Int) (o0 : List ByteArray) (o : script_Put_L5O), script_Put_L5 p0 n k v17 o0 = some o → ∀ s : S, restrS (X.an.rs 9 5) s = ⟨fl [(4, .ms 0 1 0 p0.l.length 1 true), (15, .c (eSl p0)), (16, dInt (p0.l.length : Int)), (17, dInt v17)], ⟨[⟨1, dcells o0⟩], []⟩⟩ → X.Loop 9 36 [] (sub b9 [1, 1, 1, 0, 1, 0, 0]) 1 s (script_Put_L5x o) (script_Put_L5s p0 o) := by
  intro k
  induction k with
  | zero => intro v17 o0 o h s hs; unfold script_Put_L5 at h; cases h
  | succ k ih =>
    intro v17 o0 o h s hs
    unfold script_Put_L5 at h
    refine Sys.loopQ hs ?_
    by_cases h1 : v17 < (p0.l.length : Int)
    · replace h := iteT h1 h
      obtain ⟨v20, h3, h⟩ := bindE h
      obtain ⟨⟨x, x_2⟩, g5, h⟩ := bindE h
      dsimp only at h
      have h5 := script_text_ok g5
      refine Sys.to [((5, 0), .b true), ((6, 1), .ix), ((6, 2), .agg (EncX.encX v20)), ((7, 1), .call (.tup [.c (.sc (.string x)), dB x_2]) ⟨[], []⟩)] 8 (.at [1, 1, 0, 0, 1, 1, 0, 0]) ⟨fl [(4, .ms 0 1 0 p0.l.length 1 true), (5, dInt v17), (7, .c (.sc (.string x))), (8, dB x_2), (15, .c (eSl p0)), (16, dInt (p0.l.length : Int)), (17, dInt v17)], ⟨[⟨1, dcells o0⟩, ⟨1, (EncX.encX v20).map DV.c⟩], []⟩⟩ (And.intro (h1) (And.intro (atI_b h3) (And.intro (span_at 0 3 (by decide) (atI_g h3)) (h5)))) (by kernel_rfl) ?_
      cases x_2 with
      | true =>
        replace h := condT h
        by_cases h9 : 0 ≤ v17 ∧ v17 < (p0.l.length : Int)
        case neg => exact absurd (iteF h9 h) (by simp)
        replace h := iteT h9 h
        obtain ⟨w0, h10, h⟩ := bindE h
        by_cases h12 : InR (v17 + 1)
        case neg => exact absurd (iteF h12 h) (by simp)
        replace h := iteT h12 h
        refine Sys.to [((10, 3), .ix), ((10, 4), .st (dcells (o0.set v17.toNat x))), ((11, 0), .n)] 999999 (.fin .normal) ⟨fl [(4, .ms 0 1 0 p0.l.length 1 true), (15, .c (eSl p0)), (16, dInt (p0.l.length : Int)), (17, dInt (v17 + 1))], ⟨[⟨1, dcells (o0.set v17.toNat x)⟩, ⟨1, (EncX.encX v20).map DV.c⟩], []⟩⟩ (And.intro (h9) (And.intro (And.intro (rfl : (1 : Nat) = 1) (dst_part 0 [.c (.sc (.string x))] x (atI_g h10) rfl (Nat.le_of_ble_eq_true rfl))) (h12))) (by kernel_rfl) ?_
        exact Sys.fin (.inl ⟨rfl, ⟨fl [(4, .ms 0 1 0 p0.l.length 1 true), (15, .c (eSl p0)), (16, dInt (p0.l.length : Int)), (17, dInt (v17 + 1))], ⟨[⟨1, dcells (o0.set v17.toNat x)⟩], []⟩⟩, (cut_ok (l := [4, 15, 16, 17]) rfl (AllB.cons (below_dcells 1 (o0.set v17.toNat x)) (AllB.nil 1)) rfl), ih (v17 + 1) (o0.set v17.toNat x) _ h _ (by kernel_rfl)⟩)
      | false =>
        replace h := condF h
        have hr := Option.some.inj h
        subst hr
        exact Sys.endX [] (True.intro) rfl (by kernel_rfl)
    · replace h := iteF h1 h
      have hr := Option.some.inj h
      subst hr
      exact Sys.endX [((5, 0), .b false)] (h1) rfl (by kernel_rfl)

def script_Put (n : Nat) (p0 : Sl GPick) : Option (ByteArray × Int) :=
  if (p0.l.length : Int) > 20000 then
    some ((⟨#[]⟩ : ByteArray), 6)
  else if Mk 16 p0.l.length then (script_Put_L5 p0 n n 0 (List.replicate p0.l.length ((⟨#[]⟩ : ByteArray) : ByteArray))).bind fun o_2 => match o_2 with
  | .r o0_2 o1_0 o1_1 o1_2 =>
    some ((⟨#[]⟩ : ByteArray), 2)
  | .e0 v17_2 o0_3 =>
    if p0.l.length = o0_3.length then if o0_3.length ≤ 140737488355328 then if (joinB o0_3 (⟨#[32]⟩ : ByteArray)).size ≤ 140737488355328 then some ((joinB o0_3 (⟨#[32]⟩ : ByteArray)), 0)
    else none
    else none
    else none
  else none
theorem script_Put_ok {n : Nat} {p0 : Sl GPick} {r : ByteArray × Int} (h : script_Put n p0 = some r) : X.RunsC 9 [.c (eSl p0)] (.tup [.c (.sc (.string r.1)), dInt r.2]) := by
  unfold script_Put at h
  refine Sys.callC' (fn := Tryz.f9) (b := b9) (by kernel_rfl) (by kernel_rfl) ?_
  by_cases h2 : (p0.l.length : Int) > 20000
  · replace h := iteT h2 h
    have hr := Option.some.inj h
    subst hr
    exact Sys.endC [((1, 2), .b true)] (h2) (by kernel_rfl)
  · replace h := iteF h2 h
    by_cases h4 : Mk 16 p0.l.length
    case neg => exact absurd (iteF h4 h) (by simp)
    replace h := iteT h4 h
    refine Sys.to [((1, 2), .b false), ((3, 2), .mk (dcells (List.replicate p0.l.length ((⟨#[]⟩ : ByteArray) : ByteArray))) true)] 100005 (.at [1, 1, 1, 0, 1, 0]) ⟨fl [(4, .ms 0 1 0 p0.l.length 1 true), (15, .c (eSl p0)), (16, dInt (p0.l.length : Int)), (17, dInt 0)], ⟨[⟨1, dcells (List.replicate p0.l.length ((⟨#[]⟩ : ByteArray) : ByteArray))⟩], []⟩⟩ (And.intro (h2) (mk_ok ((⟨#[]⟩ : ByteArray) : ByteArray) h4)) (by kernel_rfl) ?_
    obtain ⟨o_2, g7, h⟩ := bindE h
    have h7 := script_Put_L5_ok p0 n n 0 (List.replicate p0.l.length ((⟨#[]⟩ : ByteArray) : ByteArray)) _ g7
    cases o_2 with
    | r o0_2 o1_0 o1_1 o1_2 =>
      dsimp only at h
      have hr := Option.some.inj h
      subst hr
      exact Sys.endC [((5, 1000), .code .ret ⟨fl [(2, .c (.sc (.string (⟨#[]⟩ : ByteArray)))), (3, dInt 2)], ⟨[⟨1, dcells o0_2⟩, ⟨1, [dInt o1_0, dInt o1_1, dInt o1_2]⟩], []⟩⟩)] (Sys.Loop.goM (h7 ⟨fl [(4, .ms 0 1 0 p0.l.length 1 true), (15, .c (eSl p0)), (16, dInt (p0.l.length : Int)), (17, dInt 0)], ⟨[⟨1, dcells (List.replicate p0.l.length ((⟨#[]⟩ : ByteArray) : ByteArray))⟩], []⟩⟩ (by kernel_rfl)) (by kernel_rfl)) (by kernel_rfl)
    | e0 v17_2 o0_3 =>
      dsimp only at h
      by_cases h9 : p0.l.length = o0_3.length
      case neg => exact absurd (iteF h9 h) (by simp)
      replace h := iteT h9 h
      by_cases h10 : o0_3.length ≤ 140737488355328
      case neg => exact absurd (iteF h10 h) (by simp)
      replace h := iteT h10 h
      by_cases h11 : (joinB o0_3 (⟨#[32]⟩ : ByteArray)).size ≤ 140737488355328
      case neg => exact absurd (iteF h11 h) (by simp)
      replace h := iteT h11 h
      have hr := Option.some.inj h
      subst hr
      exact Sys.endC [((5, 1000), .code (.exit 0) ⟨fl [(4, .ms 0 1 0 p0.l.length 1 true), (15, .c (eSl p0)), (16, dInt (p0.l.length : Int)), (17, dInt v17_2), (18, dB false)], ⟨[⟨1, dcells o0_3⟩], []⟩⟩), ((12, 0), .op { d := .c (.sl false true (cells o0_3) o0_3.length), set := some (0, ⟨2, []⟩) }), ((12, 1), .op { d := .c (.sc (.string (joinB o0_3 (⟨#[32]⟩ : ByteArray)))) })] (And.intro (Sys.Loop.goM (h7 ⟨fl [(4, .ms 0 1 0 p0.l.length 1 true), (15, .c (eSl p0)), (16, dInt (p0.l.length : Int)), (17, dInt 0)], ⟨[⟨1, dcells (List.replicate p0.l.length ((⟨#[]⟩ : ByteArray) : ByteArray))⟩], []⟩⟩ (by kernel_rfl)) (by kernel_rfl)) (And.intro (freeze_ok (st := [⟨1, dcells o0_3⟩]) (id := 0) (ver := 1) (x := true) (l := o0_3) rfl h9) (joinP_eq [⟨2, []⟩] (nl := false) (x := true) (xs := o0_3) (sep := (⟨#[32]⟩ : ByteArray)) h10 h11))) (by kernel_rfl)
def lasso_Put (n : Nat) (p0 : GLasso) : Option (ByteArray × Int) :=
  (script_Put n p0.stem).bind fun (x, x_2) =>
  if x_2 ≠ 0 then
    some ((⟨#[]⟩ : ByteArray), x_2)
  else (script_Put n p0.loop).bind fun (x_3, x_4) =>
  if x_4 ≠ 0 then
    some ((⟨#[]⟩ : ByteArray), x_4)
  else if p0.thread < 0 then
    some ((⟨#[]⟩ : ByteArray), 2)
  else if p0.thread > 999999 then
    some ((⟨#[]⟩ : ByteArray), 2)
  else if InR p0.thread then if ([x, x_3, (itoaB p0.thread)] : List ByteArray).length ≤ 140737488355328 then if (joinB ([x, x_3, (itoaB p0.thread)] : List ByteArray) (⟨#[32, 124, 32]⟩ : ByteArray)).size ≤ 140737488355328 then some ((joinB ([x, x_3, (itoaB p0.thread)] : List ByteArray) (⟨#[32, 124, 32]⟩ : ByteArray)), 0)
  else none
  else none
  else none
theorem lasso_Put_ok {n : Nat} {p0 : GLasso} {r : ByteArray × Int} (h : lasso_Put n p0 = some r) : X.RunsC 16 [.c (.agg (EncX.encX p0))] (.tup [.c (.sc (.string r.1)), dInt r.2]) := by
  unfold lasso_Put at h
  refine Sys.callC' (fn := Tryz.f16) (b := b16) (by kernel_rfl) (by kernel_rfl) ?_
  obtain ⟨⟨x, x_2⟩, g2, h⟩ := bindE h
  dsimp only at h
  have h2 := script_Put_ok g2
  refine Sys.to [((1, 2), .call (.tup [.c (.sc (.string x)), dInt x_2]) ⟨[], []⟩)] 2 (.at [1, 1, 0, 0]) ⟨fl [(1, .pt 0 1 0), (4, .c (.sc (.string x))), (5, dInt x_2)], ⟨[⟨1, (EncX.encX p0).map DV.c⟩], []⟩⟩ (h2) (by kernel_rfl) ?_
  by_cases h4 : x_2 ≠ 0
  · replace h := iteT h4 h
    have hr := Option.some.inj h
    subst hr
    exact Sys.endC [((2, 1), .b true)] (h4) (by kernel_rfl)
  · replace h := iteF h4 h
    obtain ⟨⟨x_3, x_4⟩, g6, h⟩ := bindE h
    dsimp only at h
    have h6 := script_Put_ok g6
    refine Sys.to [((2, 1), .b false), ((4, 2), .call (.tup [.c (.sc (.string x_3)), dInt x_4]) ⟨[], []⟩)] 5 (.at [1, 1, 1, 1, 0, 0]) ⟨fl [(1, .pt 0 1 0), (4, .c (.sc (.string x))), (5, dInt x_4), (6, .c (.sc (.string x_3)))], ⟨[⟨1, (EncX.encX p0).map DV.c⟩], []⟩⟩ (And.intro (h4) (h6)) (by kernel_rfl) ?_
    by_cases h8 : x_4 ≠ 0
    · replace h := iteT h8 h
      have hr := Option.some.inj h
      subst hr
      exact Sys.endC [((5, 1), .b true)] (h8) (by kernel_rfl)
    · replace h := iteF h8 h
      refine Sys.to [((5, 1), .b false)] 7 (.at [1, 1, 1, 1, 1, 0, 0]) ⟨fl [(1, .pt 0 1 0), (4, .c (.sc (.string x))), (5, dInt x_4), (6, .c (.sc (.string x_3))), (23, dB false)], ⟨[⟨1, (EncX.encX p0).map DV.c⟩], []⟩⟩ (h8) (by kernel_rfl) ?_
      by_cases h10 : p0.thread < 0
      · replace h := iteT h10 h
        have hr := Option.some.inj h
        subst hr
        exact Sys.endC [((7, 2), .b true)] (h10) (by kernel_rfl)
      · replace h := iteF h10 h
        by_cases h11 : p0.thread > 999999
        · replace h := iteT h11 h
          have hr := Option.some.inj h
          subst hr
          exact Sys.endC [((7, 2), .b false), ((7, 6), .b true)] (And.intro (h10) (h11)) (by kernel_rfl)
        · replace h := iteF h11 h
          by_cases h13 : InR p0.thread
          case neg => exact absurd (iteF h13 h) (by simp)
          replace h := iteT h13 h
          by_cases h14 : ([x, x_3, (itoaB p0.thread)] : List ByteArray).length ≤ 140737488355328
          case neg => exact absurd (iteF h14 h) (by simp)
          replace h := iteT h14 h
          by_cases h15 : (joinB ([x, x_3, (itoaB p0.thread)] : List ByteArray) (⟨#[32, 124, 32]⟩ : ByteArray)).size ≤ 140737488355328
          case neg => exact absurd (iteF h15 h) (by simp)
          replace h := iteT h15 h
          have hr := Option.some.inj h
          subst hr
          exact Sys.endC [((7, 2), .b false), ((7, 6), .b false), ((9, 4), .op { d := .c (.sc (.string (itoaB p0.thread))) }), ((9, 6), .op { d := .c (.sc (.string (joinB ([x, x_3, (itoaB p0.thread)] : List ByteArray) (⟨#[32, 124, 32]⟩ : ByteArray)))) })] (And.intro (h10) (And.intro (h11) (And.intro (itoaP_eq [⟨1, (EncX.encX p0).map DV.c⟩] (n := p0.thread) h13) (joinP_eq [⟨1, (EncX.encX p0).map DV.c⟩] (nl := false) (x := true) (xs := ([x, x_3, (itoaB p0.thread)] : List ByteArray)) (sep := (⟨#[32, 124, 32]⟩ : ByteArray)) h14 h15)))) (by kernel_rfl)
inductive vigilref03_Digits_L6O where
  | e0 (v3 : ByteArray) (v5 : Int)
def vigilref03_Digits_L6x : vigilref03_Digits_L6O → Ex
  | .e0 _ _ => (.exit 0)
def vigilref03_Digits_L6s (p0 : Int) : vigilref03_Digits_L6O → S
  | .e0 v3 v5 => ⟨fl [(0, dInt p0), (3, .c (.sc (.string v3))), (4, .c (.sc (.string (⟨#[48, 49, 50, 51, 52, 53, 54, 55, 56, 57]⟩ : ByteArray)))), (5, dInt v5), (11, dB false)], ⟨[], []⟩⟩
def vigilref03_Digits_L6 (p0 : Int) (n : Nat) : Nat → ByteArray → Int → Option vigilref03_Digits_L6O
  | 0, _, _ => none
  | k + 1, v3, v5 =>
    if v5 ≠ 0 then
      if (Int.tmod v5 10) < 0 then
        if InR (0 - (Int.tmod v5 10)) then if InR ((0 - (Int.tmod v5 10)) + 1) then if 0 ≤ (0 - (Int.tmod v5 10)) ∧ (0 - (Int.tmod v5 10)) ≤ ((0 - (Int.tmod v5 10)) + 1) ∧ ((0 - (Int.tmod v5 10)) + 1) ≤ ((⟨#[48, 49, 50, 51, 52, 53, 54, 55, 56, 57]⟩ : ByteArray).size : Int) then if (((⟨#[48, 49, 50, 51, 52, 53, 54, 55, 56, 57]⟩ : ByteArray).extract (0 - (Int.tmod v5 10)).toNat ((0 - (Int.tmod v5 10)) + 1).toNat) ++ v3).size ≤ 9223372036854775807 then vigilref03_Digits_L6 p0 n k (((⟨#[48, 49, 50, 51, 52, 53, 54, 55, 56, 57]⟩ : ByteArray).extract (0 - (Int.tmod v5 10)).toNat ((0 - (Int.tmod v5 10)) + 1).toNat) ++ v3) (Go.IntKind.i64.wrap (Int.tdiv v5 10))
        else none
        else none
        else none
        else none
      else if InR ((Int.tmod v5 10) + 1) then if 0 ≤ (Int.tmod v5 10) ∧ (Int.tmod v5 10) ≤ ((Int.tmod v5 10) + 1) ∧ ((Int.tmod v5 10) + 1) ≤ ((⟨#[48, 49, 50, 51, 52, 53, 54, 55, 56, 57]⟩ : ByteArray).size : Int) then if (((⟨#[48, 49, 50, 51, 52, 53, 54, 55, 56, 57]⟩ : ByteArray).extract (Int.tmod v5 10).toNat ((Int.tmod v5 10) + 1).toNat) ++ v3).size ≤ 9223372036854775807 then vigilref03_Digits_L6 p0 n k (((⟨#[48, 49, 50, 51, 52, 53, 54, 55, 56, 57]⟩ : ByteArray).extract (Int.tmod v5 10).toNat ((Int.tmod v5 10) + 1).toNat) ++ v3) (Go.IntKind.i64.wrap (Int.tdiv v5 10))
      else none
      else none
      else none
    else some (.e0 v3 v5)
theorem vigilref03_Digits_L6_ok (p0 : Int) (n : Nat) : ∀ (k : Nat) (v3 : ByteArray) (v5 : Int) (o : vigilref03_Digits_L6O), vigilref03_Digits_L6 p0 n k v3 v5 = some o → ∀ s : S, restrS (X.an.rs 43 6) s = ⟨fl [(0, dInt p0), (3, .c (.sc (.string v3))), (4, .c (.sc (.string (⟨#[48, 49, 50, 51, 52, 53, 54, 55, 56, 57]⟩ : ByteArray)))), (5, dInt v5)], ⟨[], []⟩⟩ → X.Loop 43 32 [] (sub b43 [1, 1, 1, 1, 1, 0, 0, 0]) 0 s (vigilref03_Digits_L6x o) (vigilref03_Digits_L6s p0 o) := by
  intro k
  induction k with
  | zero => intro v3 v5 o h s hs; unfold vigilref03_Digits_L6 at h; cases h
  | succ k ih =>
    intro v3 v5 o h s hs
    unfold vigilref03_Digits_L6 at h
    refine Sys.loopQ hs ?_
    by_cases h1 : v5 ≠ 0
    · replace h := iteT h1 h
      refine Sys.to [((6, 1), .b true)] 8 (.at [1, 0, 1, 0, 0]) ⟨fl [(0, dInt p0), (3, .c (.sc (.string v3))), (4, .c (.sc (.string (⟨#[48, 49, 50, 51, 52, 53, 54, 55, 56, 57]⟩ : ByteArray)))), (5, dInt v5), (6, dInt (Int.tmod v5 10))], ⟨[], []⟩⟩ (h1) (by kernel_rfl) ?_
      by_cases h4 : (Int.tmod v5 10) < 0
      · replace h := iteT h4 h
        by_cases h6 : InR (0 - (Int.tmod v5 10))
        case neg => exact absurd (iteF h6 h) (by simp)
        replace h := iteT h6 h
        by_cases h8 : InR ((0 - (Int.tmod v5 10)) + 1)
        case neg => exact absurd (iteF h8 h) (by simp)
        replace h := iteT h8 h
        by_cases h9 : 0 ≤ (0 - (Int.tmod v5 10)) ∧ (0 - (Int.tmod v5 10)) ≤ ((0 - (Int.tmod v5 10)) + 1) ∧ ((0 - (Int.tmod v5 10)) + 1) ≤ ((⟨#[48, 49, 50, 51, 52, 53, 54, 55, 56, 57]⟩ : ByteArray).size : Int)
        case neg => exact absurd (iteF h9 h) (by simp)
        replace h := iteT h9 h
        by_cases h10 : (((⟨#[48, 49, 50, 51, 52, 53, 54, 55, 56, 57]⟩ : ByteArray).extract (0 - (Int.tmod v5 10)).toNat ((0 - (Int.tmod v5 10)) + 1).toNat) ++ v3).size ≤ 9223372036854775807
        case neg => exact absurd (iteF h10 h) (by simp)
        replace h := iteT h10 h
        refine Sys.to [((8, 1), .b true), ((9, 1), .op { d := dInt (0 - (Int.tmod v5 10)) }), ((10, 3), .n), ((10, 4), .op { d := .c (.sc (.string ((⟨#[48, 49, 50, 51, 52, 53, 54, 55, 56, 57]⟩ : ByteArray).extract (0 - (Int.tmod v5 10)).toNat ((0 - (Int.tmod v5 10)) + 1).toNat))) }), ((10, 6), .op { d := .c (.sc (.string (((⟨#[48, 49, 50, 51, 52, 53, 54, 55, 56, 57]⟩ : ByteArray).extract (0 - (Int.tmod v5 10)).toNat ((0 - (Int.tmod v5 10)) + 1).toNat) ++ v3))) })] 999999 (.fin .normal) ⟨fl [(0, dInt p0), (3, .c (.sc (.string (((⟨#[48, 49, 50, 51, 52, 53, 54, 55, 56, 57]⟩ : ByteArray).extract (0 - (Int.tmod v5 10)).toNat ((0 - (Int.tmod v5 10)) + 1).toNat) ++ v3)))), (4, .c (.sc (.string (⟨#[48, 49, 50, 51, 52, 53, 54, 55, 56, 57]⟩ : ByteArray)))), (5, dInt (Go.IntKind.i64.wrap (Int.tdiv v5 10)))], ⟨[], []⟩⟩ (And.intro (h4) (And.intro (neg_i64 h6) (And.intro (h8) (And.intro (str_slc (P0 := X.P) (t0 := 9) (st0 := []) (by kernel_rfl) h9) (str_add (P0 := X.P) (t0 := 9) h10))))) (by kernel_rfl) ?_
        exact Sys.fin (.inl ⟨rfl, ⟨fl [(0, dInt p0), (3, .c (.sc (.string (((⟨#[48, 49, 50, 51, 52, 53, 54, 55, 56, 57]⟩ : ByteArray).extract (0 - (Int.tmod v5 10)).toNat ((0 - (Int.tmod v5 10)) + 1).toNat) ++ v3)))), (4, .c (.sc (.string (⟨#[48, 49, 50, 51, 52, 53, 54, 55, 56, 57]⟩ : ByteArray)))), (5, dInt (Go.IntKind.i64.wrap (Int.tdiv v5 10)))], ⟨[], []⟩⟩, (by kernel_rfl), ih (((⟨#[48, 49, 50, 51, 52, 53, 54, 55, 56, 57]⟩ : ByteArray).extract (0 - (Int.tmod v5 10)).toNat ((0 - (Int.tmod v5 10)) + 1).toNat) ++ v3) (Go.IntKind.i64.wrap (Int.tdiv v5 10)) _ h _ (by kernel_rfl)⟩)
      · replace h := iteF h4 h
        by_cases h6 : InR ((Int.tmod v5 10) + 1)
        case neg => exact absurd (iteF h6 h) (by simp)
        replace h := iteT h6 h
        by_cases h7 : 0 ≤ (Int.tmod v5 10) ∧ (Int.tmod v5 10) ≤ ((Int.tmod v5 10) + 1) ∧ ((Int.tmod v5 10) + 1) ≤ ((⟨#[48, 49, 50, 51, 52, 53, 54, 55, 56, 57]⟩ : ByteArray).size : Int)
        case neg => exact absurd (iteF h7 h) (by simp)
        replace h := iteT h7 h
        by_cases h8 : (((⟨#[48, 49, 50, 51, 52, 53, 54, 55, 56, 57]⟩ : ByteArray).extract (Int.tmod v5 10).toNat ((Int.tmod v5 10) + 1).toNat) ++ v3).size ≤ 9223372036854775807
        case neg => exact absurd (iteF h8 h) (by simp)
        replace h := iteT h8 h
        refine Sys.to [((8, 1), .b false), ((10, 3), .n), ((10, 4), .op { d := .c (.sc (.string ((⟨#[48, 49, 50, 51, 52, 53, 54, 55, 56, 57]⟩ : ByteArray).extract (Int.tmod v5 10).toNat ((Int.tmod v5 10) + 1).toNat))) }), ((10, 6), .op { d := .c (.sc (.string (((⟨#[48, 49, 50, 51, 52, 53, 54, 55, 56, 57]⟩ : ByteArray).extract (Int.tmod v5 10).toNat ((Int.tmod v5 10) + 1).toNat) ++ v3))) })] 999999 (.fin .normal) ⟨fl [(0, dInt p0), (3, .c (.sc (.string (((⟨#[48, 49, 50, 51, 52, 53, 54, 55, 56, 57]⟩ : ByteArray).extract (Int.tmod v5 10).toNat ((Int.tmod v5 10) + 1).toNat) ++ v3)))), (4, .c (.sc (.string (⟨#[48, 49, 50, 51, 52, 53, 54, 55, 56, 57]⟩ : ByteArray)))), (5, dInt (Go.IntKind.i64.wrap (Int.tdiv v5 10)))], ⟨[], []⟩⟩ (And.intro (h4) (And.intro (h6) (And.intro (str_slc (P0 := X.P) (t0 := 9) (st0 := []) (by kernel_rfl) h7) (str_add (P0 := X.P) (t0 := 9) h8)))) (by kernel_rfl) ?_
        exact Sys.fin (.inl ⟨rfl, ⟨fl [(0, dInt p0), (3, .c (.sc (.string (((⟨#[48, 49, 50, 51, 52, 53, 54, 55, 56, 57]⟩ : ByteArray).extract (Int.tmod v5 10).toNat ((Int.tmod v5 10) + 1).toNat) ++ v3)))), (4, .c (.sc (.string (⟨#[48, 49, 50, 51, 52, 53, 54, 55, 56, 57]⟩ : ByteArray)))), (5, dInt (Go.IntKind.i64.wrap (Int.tdiv v5 10)))], ⟨[], []⟩⟩, (by kernel_rfl), ih (((⟨#[48, 49, 50, 51, 52, 53, 54, 55, 56, 57]⟩ : ByteArray).extract (Int.tmod v5 10).toNat ((Int.tmod v5 10) + 1).toNat) ++ v3) (Go.IntKind.i64.wrap (Int.tdiv v5 10)) _ h _ (by kernel_rfl)⟩)
    · replace h := iteF h1 h
      have hr := Option.some.inj h
      subst hr
      exact Sys.endX [((6, 1), .b false)] (h1) rfl (by kernel_rfl)

def vigilref03_Digits (n : Nat) (p0 : Int) : Option ByteArray :=
  if p0 = 0 then
    some (⟨#[48]⟩ : ByteArray)
  else (vigilref03_Digits_L6 p0 n n (⟨#[]⟩ : ByteArray) p0).bind fun o_2 => match o_2 with
  | .e0 v3_2 v5_2 =>
    if p0 < 0 then
      if ((⟨#[45]⟩ : ByteArray) ++ v3_2).size ≤ 9223372036854775807 then some ((⟨#[45]⟩ : ByteArray) ++ v3_2)
      else none
    else some v3_2
theorem vigilref03_Digits_ok {n : Nat} {p0 : Int} {r : ByteArray} (h : vigilref03_Digits n p0 = some r) : X.RunsC 43 [dInt p0] (.c (.sc (.string r))) := by
  unfold vigilref03_Digits at h
  refine Sys.callC' (fn := Tryz.f43) (b := b43) (by kernel_rfl) (by kernel_rfl) ?_
  by_cases h2 : p0 = 0
  · replace h := iteT h2 h
    have hr := Option.some.inj h
    subst hr
    exact Sys.endC [((1, 1), .b true)] (h2) (by kernel_rfl)
  · replace h := iteF h2 h
    obtain ⟨o_2, g7, h⟩ := bindE h
    have h7 := vigilref03_Digits_L6_ok p0 n n (⟨#[]⟩ : ByteArray) p0 _ g7
    cases o_2 with
    | e0 v3_2 v5_2 =>
      dsimp only at h
      refine Sys.to [((1, 1), .b false), ((6, 1000), .code (.exit 0) ⟨fl [(0, dInt p0), (3, .c (.sc (.string v3_2))), (4, .c (.sc (.string (⟨#[48, 49, 50, 51, 52, 53, 54, 55, 56, 57]⟩ : ByteArray)))), (5, dInt v5_2), (11, dB false)], ⟨[], []⟩⟩)] 12 (.at [1, 1, 1, 1, 1, 1, 0, 0]) ⟨fl [(0, dInt p0), (3, .c (.sc (.string v3_2))), (4, .c (.sc (.string (⟨#[48, 49, 50, 51, 52, 53, 54, 55, 56, 57]⟩ : ByteArray)))), (5, dInt v5_2), (11, dB false)], ⟨[], []⟩⟩ (And.intro (h2) (Sys.Loop.goM (h7 ⟨fl [(0, dInt p0), (3, .c (.sc (.string (⟨#[]⟩ : ByteArray)))), (4, .c (.sc (.string (⟨#[48, 49, 50, 51, 52, 53, 54, 55, 56, 57]⟩ : ByteArray)))), (5, dInt p0)], ⟨[], []⟩⟩ (by kernel_rfl)) (by kernel_rfl))) (by kernel_rfl) ?_
      by_cases h9 : p0 < 0
      · replace h := iteT h9 h
        by_cases h11 : ((⟨#[45]⟩ : ByteArray) ++ v3_2).size ≤ 9223372036854775807
        case neg => exact absurd (iteF h11 h) (by simp)
        replace h := iteT h11 h
        have hr := Option.some.inj h
        subst hr
        exact Sys.endC [((12, 1), .b true), ((13, 1), .op { d := .c (.sc (.string ((⟨#[45]⟩ : ByteArray) ++ v3_2))) })] (And.intro (h9) (str_add (P0 := X.P) (t0 := 9) h11)) (by kernel_rfl)
      · replace h := iteF h9 h
        have hr := Option.some.inj h
        subst hr
        exact Sys.endC [((12, 1), .b false)] (h9) (by kernel_rfl)
inductive vigilref16_one_J1O where
  | r
  | m
def vigilref16_one_J1x : vigilref16_one_J1O → Ex
  | .r => .ret
  | .m => .normal
def vigilref16_one_J1s (p0 : GPick) : vigilref16_one_J1O → S
  | .r => ⟨fl [(2, .c (.sc (.string (⟨#[]⟩ : ByteArray)))), (3, dB false)], ⟨[⟨1, (EncX.encX p0).map DV.c⟩], []⟩⟩
  | .m => ⟨fl [(1, .pt 0 1 0), (22, dB false)], ⟨[⟨1, (EncX.encX p0).map DV.c⟩], []⟩⟩
def vigilref16_one_J1 (p0 : GPick) (n : Nat) : Option vigilref16_one_J1O :=
  if p0.thread < 0 then
    some (.r)
  else if p0.draw < 0 then
    some (.r)
  else if p0.thread > 999999 then
    some (.r)
  else if p0.draw > 999999 then
    some (.r)
  else some (.m)
theorem vigilref16_one_J1_ok (p0 : GPick) (n : Nat) (o : vigilref16_one_J1O) (h : vigilref16_one_J1 p0 n = some o) : X.Go 35 60 [] (sub b35 [1, 0]) ⟨fl [(1, .pt 0 1 0)], ⟨[⟨1, (EncX.encX p0).map DV.c⟩], []⟩⟩ (vigilref16_one_J1x o) (vigilref16_one_J1s p0 o) := by
  unfold vigilref16_one_J1 at h
  refine Sys.goE ?_
  by_cases h1 : p0.thread < 0
  · replace h := iteT h1 h
    have hr := Option.some.inj h
    subst hr
    exact Sys.endJ [((1, 2), .b true)] (h1) (by kernel_rfl)
  · replace h := iteF h1 h
    by_cases h2 : p0.draw < 0
    · replace h := iteT h2 h
      have hr := Option.some.inj h
      subst hr
      exact Sys.endJ [((1, 2), .b false), ((1, 6), .b true)] (And.intro (h1) (h2)) (by kernel_rfl)
    · replace h := iteF h2 h
      by_cases h3 : p0.thread > 999999
      · replace h := iteT h3 h
        have hr := Option.some.inj h
        subst hr
        exact Sys.endJ [((1, 2), .b false), ((1, 6), .b false), ((1, 11), .b true)] (And.intro (h1) (And.intro (h2) (h3))) (by kernel_rfl)
      · replace h := iteF h3 h
        by_cases h4 : p0.draw > 999999
        · replace h := iteT h4 h
          have hr := Option.some.inj h
          subst hr
          exact Sys.endJ [((1, 2), .b false), ((1, 6), .b false), ((1, 11), .b false), ((1, 16), .b true)] (And.intro (h1) (And.intro (h2) (And.intro (h3) (h4)))) (by kernel_rfl)
        · replace h := iteF h4 h
          have hr := Option.some.inj h
          subst hr
          exact Sys.endJ [((1, 2), .b false), ((1, 6), .b false), ((1, 11), .b false), ((1, 16), .b false)] (And.intro (h1) (And.intro (h2) (And.intro (h3) (h4)))) (by kernel_rfl)

def vigilref16_one (n : Nat) (p0 : GPick) : Option (ByteArray × Bool) :=
  (vigilref16_one_J1 p0 n).bind fun o_2 => match o_2 with
  | .r =>
    some ((⟨#[]⟩ : ByteArray), false)
  | .m =>
    (vigilref03_Digits n p0.thread).bind fun x =>
    if p0.kind = 0 then
      if p0.draw > 0 then
        if (x ++ (⟨#[46]⟩ : ByteArray)).size ≤ 9223372036854775807 then (vigilref03_Digits n p0.draw).bind fun x_2 =>
        if ((x ++ (⟨#[46]⟩ : ByteArray)) ++ x_2).size ≤ 9223372036854775807 then some (((x ++ (⟨#[46]⟩ : ByteArray)) ++ x_2), true)
        else none
        else none
      else some (x, true)
    else if p0.kind = 1 then
      if ((⟨#[115]⟩ : ByteArray) ++ x).size ≤ 9223372036854775807 then if p0.draw = 0 then
        some (((⟨#[115]⟩ : ByteArray) ++ x), true)
      else some (((⟨#[115]⟩ : ByteArray) ++ x), false)
      else none
    else if p0.kind = 2 then
      if p0.thread = 0 then
        if p0.draw = 0 then
          some ((⟨#[116]⟩ : ByteArray), true)
        else some ((⟨#[116]⟩ : ByteArray), false)
      else some ((⟨#[116]⟩ : ByteArray), false)
    else some ((⟨#[116]⟩ : ByteArray), false)
theorem vigilref16_one_ok {n : Nat} {p0 : GPick} {r : ByteArray × Bool} (h : vigilref16_one n p0 = some r) : X.RunsC 35 [.c (.agg (EncX.encX p0))] (.tup [.c (.sc (.string r.1)), dB r.2]) := by
  unfold vigilref16_one at h
  refine Sys.callC' (fn := Tryz.f35) (b := b35) (by kernel_rfl) (by kernel_rfl) ?_
  refine Sys.to [] 201001 (.at [1, 0]) ⟨fl [(1, .pt 0 1 0)], ⟨[⟨1, (EncX.encX p0).map DV.c⟩], []⟩⟩ (True.intro) (by kernel_rfl) ?_
  obtain ⟨o_2, g2, h⟩ := bindE h
  have h2 := vigilref16_one_J1_ok p0 n _ g2
  cases o_2 with
  | r =>
    dsimp only at h
    refine Sys.over h2 ?_
    have hr := Option.some.inj h
    subst hr
    exact Sys.endC [] (True.intro) (by kernel_rfl)
  | m =>
    dsimp only at h
    refine Sys.over h2 ?_
    obtain ⟨x, g4, h⟩ := bindE h
    have h4 := vigilref03_Digits_ok g4
    refine Sys.to [((3, 2), .call (.c (.sc (.string x))) ⟨[], []⟩)] 5 (.at [1, 1, 1, 0, 1, 0, 0]) ⟨fl [(1, .pt 0 1 0), (4, .c (.sc (.string x))), (27, dInt p0.kind)], ⟨[⟨1, (EncX.encX p0).map DV.c⟩], []⟩⟩ (h4) (by kernel_rfl) ?_
    by_cases h7 : p0.kind = 0
    · replace h := iteT h7 h
      refine Sys.to [((5, 0), .b true)] 6 (.at [1, 1, 1, 0, 1, 0, 1, 0, 0, 0]) ⟨fl [(1, .pt 0 1 0), (4, .c (.sc (.string x))), (27, dInt p0.kind), (28, dB true)], ⟨[⟨1, (EncX.encX p0).map DV.c⟩], []⟩⟩ (h7) (by kernel_rfl) ?_
      by_cases h9 : p0.draw > 0
      · replace h := iteT h9 h
        by_cases h11 : (x ++ (⟨#[46]⟩ : ByteArray)).size ≤ 9223372036854775807
        case neg => exact absurd (iteF h11 h) (by simp)
        replace h := iteT h11 h
        obtain ⟨x_2, g12, h⟩ := bindE h
        have h12 := vigilref03_Digits_ok g12
        by_cases h13 : ((x ++ (⟨#[46]⟩ : ByteArray)) ++ x_2).size ≤ 9223372036854775807
        case neg => exact absurd (iteF h13 h) (by simp)
        replace h := iteT h13 h
        have hr := Option.some.inj h
        subst hr
        exact Sys.endC [((6, 2), .b true), ((7, 1), .op { d := .c (.sc (.string (x ++ (⟨#[46]⟩ : ByteArray)))) }), ((7, 4), .call (.c (.sc (.string x_2))) ⟨[], []⟩), ((7, 5), .op { d := .c (.sc (.string ((x ++ (⟨#[46]⟩ : ByteArray)) ++ x_2))) })] (And.intro (h9) (And.intro (str_add (P0 := X.P) (t0 := 9) h11) (And.intro (h12) (str_add (P0 := X.P) (t0 := 9) h13)))) (by kernel_rfl)
      · replace h := iteF h9 h
        have hr := Option.some.inj h
        subst hr
        exact Sys.endC [((6, 2), .b false)] (h9) (by kernel_rfl)
    · replace h := iteF h7 h
      refine Sys.to [((5, 0), .b false)] 9 (.at [1, 1, 1, 0, 1, 0, 1, 1, 0]) ⟨fl [(1, .pt 0 1 0), (4, .c (.sc (.string x))), (27, dInt p0.kind), (28, dB false)], ⟨[⟨1, (EncX.encX p0).map DV.c⟩], []⟩⟩ (h7) (by kernel_rfl) ?_
      by_cases h9 : p0.kind = 1
      · replace h := iteT h9 h
        by_cases h11 : ((⟨#[115]⟩ : ByteArray) ++ x).size ≤ 9223372036854775807
        case neg => exact absurd (iteF h11 h) (by simp)
        replace h := iteT h11 h
        refine Sys.to [((9, 0), .b true)] 10 (.at [1, 1, 1, 0, 1, 0, 1, 1, 1, 0, 0]) ⟨fl [(1, .pt 0 1 0), (4, .c (.sc (.string x))), (40, dB true)], ⟨[⟨1, (EncX.encX p0).map DV.c⟩], []⟩⟩ (h9) (by kernel_rfl) ?_
        by_cases h12 : p0.draw = 0
        · replace h := iteT h12 h
          have hr := Option.some.inj h
          subst hr
          exact Sys.endC [((10, 1), .op { d := .c (.sc (.string ((⟨#[115]⟩ : ByteArray) ++ x))) }), ((10, 4), .b true)] (And.intro (str_add (P0 := X.P) (t0 := 9) h11) (h12)) (by kernel_rfl)
        · replace h := iteF h12 h
          have hr := Option.some.inj h
          subst hr
          exact Sys.endC [((10, 1), .op { d := .c (.sc (.string ((⟨#[115]⟩ : ByteArray) ++ x))) }), ((10, 4), .b false)] (And.intro (str_add (P0 := X.P) (t0 := 9) h11) (h12)) (by kernel_rfl)
      · replace h := iteF h9 h
        refine Sys.to [((9, 0), .b false)] 11 (.at [1, 1, 1, 1, 0]) ⟨fl [(1, .pt 0 1 0), (4, .c (.sc (.string x))), (40, dB false)], ⟨[⟨1, (EncX.encX p0).map DV.c⟩], []⟩⟩ (h9) (by kernel_rfl) ?_
        by_cases h11 : p0.kind = 2
        · replace h := iteT h11 h
          by_cases h12 : p0.thread = 0
          · replace h := iteT h12 h
            by_cases h13 : p0.draw = 0
            · replace h := iteT h13 h
              have hr := Option.some.inj h
              subst hr
              exact Sys.endC [((11, 2), .b true), ((11, 6), .b true), ((11, 11), .b true)] (And.intro (h11) (And.intro (h12) (h13))) (by kernel_rfl)
            · replace h := iteF h13 h
              have hr := Option.some.inj h
              subst hr
              exact Sys.endC [((11, 2), .b true), ((11, 6), .b true), ((11, 11), .b false)] (And.intro (h11) (And.intro (h12) (h13))) (by kernel_rfl)
          · replace h := iteF h12 h
            have hr := Option.some.inj h
            subst hr
            exact Sys.endC [((11, 2), .b true), ((11, 6), .b false)] (And.intro (h11) (h12)) (by kernel_rfl)
        · replace h := iteF h11 h
          have hr := Option.some.inj h
          subst hr
          exact Sys.endC [((11, 2), .b false)] (h11) (by kernel_rfl)
inductive vigilref16_Put_L5O where
  | r
  | e0 (v4 : ByteArray) (v5 : Int)
def vigilref16_Put_L5x : vigilref16_Put_L5O → Ex
  | .r => .ret
  | .e0 _ _ => (.exit 0)
def vigilref16_Put_L5s (p0 : Sl GPick) : vigilref16_Put_L5O → S
  | .r => ⟨fl [(2, .c (.sc (.string (⟨#[]⟩ : ByteArray)))), (3, dInt 2)], ⟨[], []⟩⟩
  | .e0 v4 v5 => ⟨fl [(0, .c (eSl p0)), (4, .c (.sc (.string v4))), (5, dInt v5), (14, dB false)], ⟨[], []⟩⟩
def vigilref16_Put_L5 (p0 : Sl GPick) (n : Nat) : Nat → ByteArray → Int → Option vigilref16_Put_L5O
  | 0, _, _ => none
  | k + 1, v4, v5 =>
    if v5 < (p0.l.length : Int) then
      (atI p0.l v5).bind fun v20 =>
      (vigilref16_one n v20).bind fun (x, x_2) =>
      bif x_2 then
        if v5 > 0 then
          if (v4 ++ (⟨#[32]⟩ : ByteArray)).size ≤ 9223372036854775807 then if ((v4 ++ (⟨#[32]⟩ : ByteArray)) ++ x).size ≤ 9223372036854775807 then if InR (v5 + 1) then vigilref16_Put_L5 p0 n k ((v4 ++ (⟨#[32]⟩ : ByteArray)) ++ x) (v5 + 1)
          else none
          else none
          else none
        else if (v4 ++ x).size ≤ 9223372036854775807 then if InR (v5 + 1) then vigilref16_Put_L5 p0 n k (v4 ++ x) (v5 + 1)
        else none
        else none
      else some (.r)
    else some (.e0 v4 v5)
theorem vigilref16_Put_L5_ok (p0 : Sl GPick) (n : Nat) : ∀ (k : Nat) (v4 : ByteArray) (v5 : Int) (o : vigilref16_Put_L5O), vigilref16_Put_L5 p0 n k v4 v5 = some o → ∀ s : S, restrS (X.an.rs 10 5) s = ⟨fl [(0, .c (eSl p0)), (4, .c (.sc (.string v4))), (5, dInt v5)], ⟨[], []⟩⟩ → X.Loop 10 35 [] (sub b10 [1, 1, 1, 0, 1, 0, 0]) 0 s (vigilref16_Put_L5x o) (vigilref16_Put_L5s p0 o) := by
  intro k
  induction k with
  | zero => intro v4 v5 o h s hs; unfold vigilref16_Put_L5 at h; cases h
  | succ k ih =>
    intro v4 v5 o h s hs
    unfold vigilref16_Put_L5 at h
    refine Sys.loopQ hs ?_
    by_cases h1 : v5 < (p0.l.length : Int)
    · replace h := iteT h1 h
      obtain ⟨v20, h3, h⟩ := bindE h
      obtain ⟨⟨x, x_2⟩, g4, h⟩ := bindE h
      dsimp only at h
      have h4 := vigilref16_one_ok g4
      refine Sys.to [((5, 3), .b true), ((7, 2), .ix), ((7, 3), .agg (EncX.encX v20)), ((7, 4), .call (.tup [.c (.sc (.string x)), dB x_2]) ⟨[], []⟩)] 8 (.at [1, 0, 0, 1, 0, 0]) ⟨fl [(0, .c (eSl p0)), (4, .c (.sc (.string v4))), (5, dInt v5), (6, .c (.sc (.string x))), (7, dB x_2)], ⟨[], []⟩⟩ (And.intro (h1) (And.intro (atI_b h3) (And.intro (span_at 0 3 (by decide) (atI_g h3)) (h4)))) (by kernel_rfl) ?_
      cases x_2 with
      | true =>
        replace h := condT h
        by_cases h8 : v5 > 0
        · replace h := iteT h8 h
          by_cases h10 : (v4 ++ (⟨#[32]⟩ : ByteArray)).size ≤ 9223372036854775807
          case neg => exact absurd (iteF h10 h) (by simp)
          replace h := iteT h10 h
          by_cases h12 : ((v4 ++ (⟨#[32]⟩ : ByteArray)) ++ x).size ≤ 9223372036854775807
          case neg => exact absurd (iteF h12 h) (by simp)
          replace h := iteT h12 h
          by_cases h14 : InR (v5 + 1)
          case neg => exact absurd (iteF h14 h) (by simp)
          replace h := iteT h14 h
          refine Sys.to [((10, 1), .b true), ((11, 1), .op { d := .c (.sc (.string (v4 ++ (⟨#[32]⟩ : ByteArray)))) }), ((12, 2), .op { d := .c (.sc (.string ((v4 ++ (⟨#[32]⟩ : ByteArray)) ++ x))) }), ((6, 1), .n)] 999999 (.fin .normal) ⟨fl [(0, .c (eSl p0)), (4, .c (.sc (.string ((v4 ++ (⟨#[32]⟩ : ByteArray)) ++ x)))), (5, dInt (v5 + 1))], ⟨[], []⟩⟩ (And.intro (h8) (And.intro (str_add (P0 := X.P) (t0 := 9) h10) (And.intro (str_add (P0 := X.P) (t0 := 9) h12) (h14)))) (by kernel_rfl) ?_
          exact Sys.fin (.inl ⟨rfl, ⟨fl [(0, .c (eSl p0)), (4, .c (.sc (.string ((v4 ++ (⟨#[32]⟩ : ByteArray)) ++ x)))), (5, dInt (v5 + 1))], ⟨[], []⟩⟩, (by kernel_rfl), ih ((v4 ++ (⟨#[32]⟩ : ByteArray)) ++ x) (v5 + 1) _ h _ (by kernel_rfl)⟩)
        · replace h := iteF h8 h
          by_cases h10 : (v4 ++ x).size ≤ 9223372036854775807
          case neg => exact absurd (iteF h10 h) (by simp)
          replace h := iteT h10 h
          by_cases h12 : InR (v5 + 1)
          case neg => exact absurd (iteF h12 h) (by simp)
          replace h := iteT h12 h
          refine Sys.to [((10, 1), .b false), ((12, 2), .op { d := .c (.sc (.string (v4 ++ x))) }), ((6, 1), .n)] 999999 (.fin .normal) ⟨fl [(0, .c (eSl p0)), (4, .c (.sc (.string (v4 ++ x)))), (5, dInt (v5 + 1))], ⟨[], []⟩⟩ (And.intro (h8) (And.intro (str_add (P0 := X.P) (t0 := 9) h10) (h12))) (by kernel_rfl) ?_
          exact Sys.fin (.inl ⟨rfl, ⟨fl [(0, .c (eSl p0)), (4, .c (.sc (.string (v4 ++ x)))), (5, dInt (v5 + 1))], ⟨[], []⟩⟩, (by kernel_rfl), ih (v4 ++ x) (v5 + 1) _ h _ (by kernel_rfl)⟩)
      | false =>
        replace h := condF h
        have hr := Option.some.inj h
        subst hr
        exact Sys.endX [] (True.intro) rfl (by kernel_rfl)
    · replace h := iteF h1 h
      have hr := Option.some.inj h
      subst hr
      exact Sys.endX [((5, 3), .b false)] (h1) rfl (by kernel_rfl)

def vigilref16_Put (n : Nat) (p0 : Sl GPick) : Option (ByteArray × Int) :=
  if (p0.l.length : Int) > 20000 then
    some ((⟨#[]⟩ : ByteArray), 6)
  else (vigilref16_Put_L5 p0 n n (⟨#[]⟩ : ByteArray) 0).bind fun o_2 => match o_2 with
  | .r =>
    some ((⟨#[]⟩ : ByteArray), 2)
  | .e0 v4_2 v5_2 =>
    some (v4_2, 0)
theorem vigilref16_Put_ok {n : Nat} {p0 : Sl GPick} {r : ByteArray × Int} (h : vigilref16_Put n p0 = some r) : X.RunsC 10 [.c (eSl p0)] (.tup [.c (.sc (.string r.1)), dInt r.2]) := by
  unfold vigilref16_Put at h
  refine Sys.callC' (fn := Tryz.f10) (b := b10) (by kernel_rfl) (by kernel_rfl) ?_
  by_cases h2 : (p0.l.length : Int) > 20000
  · replace h := iteT h2 h
    have hr := Option.some.inj h
    subst hr
    exact Sys.endC [((1, 2), .b true)] (h2) (by kernel_rfl)
  · replace h := iteF h2 h
    refine Sys.to [((1, 2), .b false)] 100005 (.at [1, 1, 1, 0, 1, 0]) ⟨fl [(0, .c (eSl p0)), (4, .c (.sc (.string (⟨#[]⟩ : ByteArray)))), (5, dInt 0)], ⟨[], []⟩⟩ (h2) (by kernel_rfl) ?_
    obtain ⟨o_2, g6, h⟩ := bindE h
    have h6 := vigilref16_Put_L5_ok p0 n n (⟨#[]⟩ : ByteArray) 0 _ g6
    cases o_2 with
    | r =>
      dsimp only at h
      have hr := Option.some.inj h
      subst hr
      exact Sys.endC [((5, 1000), .code .ret ⟨fl [(2, .c (.sc (.string (⟨#[]⟩ : ByteArray)))), (3, dInt 2)], ⟨[], []⟩⟩)] (Sys.Loop.goM (h6 ⟨fl [(0, .c (eSl p0)), (4, .c (.sc (.string (⟨#[]⟩ : ByteArray)))), (5, dInt 0)], ⟨[], []⟩⟩ (by kernel_rfl)) (by kernel_rfl)) (by kernel_rfl)
    | e0 v4_2 v5_2 =>
      dsimp only at h
      have hr := Option.some.inj h
      subst hr
      exact Sys.endC [((5, 1000), .code (.exit 0) ⟨fl [(0, .c (eSl p0)), (4, .c (.sc (.string v4_2))), (5, dInt v5_2), (14, dB false)], ⟨[], []⟩⟩)] (Sys.Loop.goM (h6 ⟨fl [(0, .c (eSl p0)), (4, .c (.sc (.string (⟨#[]⟩ : ByteArray)))), (5, dInt 0)], ⟨[], []⟩⟩ (by kernel_rfl)) (by kernel_rfl)) (by kernel_rfl)
def vigilref18_Put (n : Nat) (p0 : GLasso) : Option (ByteArray × Int) :=
  (vigilref16_Put n p0.stem).bind fun (x, x_2) =>
  if x_2 ≠ 0 then
    some ((⟨#[]⟩ : ByteArray), x_2)
  else (vigilref16_Put n p0.loop).bind fun (x_3, x_4) =>
  if x_4 ≠ 0 then
    some ((⟨#[]⟩ : ByteArray), x_4)
  else if p0.thread < 0 then
    some ((⟨#[]⟩ : ByteArray), 2)
  else if p0.thread > 999999 then
    some ((⟨#[]⟩ : ByteArray), 2)
  else if (x ++ (⟨#[32, 124, 32]⟩ : ByteArray)).size ≤ 9223372036854775807 then if ((x ++ (⟨#[32, 124, 32]⟩ : ByteArray)) ++ x_3).size ≤ 9223372036854775807 then if (((x ++ (⟨#[32, 124, 32]⟩ : ByteArray)) ++ x_3) ++ (⟨#[32, 124, 32]⟩ : ByteArray)).size ≤ 9223372036854775807 then (vigilref03_Digits n p0.thread).bind fun x_5 =>
  if ((((x ++ (⟨#[32, 124, 32]⟩ : ByteArray)) ++ x_3) ++ (⟨#[32, 124, 32]⟩ : ByteArray)) ++ x_5).size ≤ 9223372036854775807 then some (((((x ++ (⟨#[32, 124, 32]⟩ : ByteArray)) ++ x_3) ++ (⟨#[32, 124, 32]⟩ : ByteArray)) ++ x_5), 0)
  else none
  else none
  else none
  else none
theorem vigilref18_Put_ok {n : Nat} {p0 : GLasso} {r : ByteArray × Int} (h : vigilref18_Put n p0 = some r) : X.RunsC 17 [.c (.agg (EncX.encX p0))] (.tup [.c (.sc (.string r.1)), dInt r.2]) := by
  unfold vigilref18_Put at h
  refine Sys.callC' (fn := Tryz.f17) (b := b17) (by kernel_rfl) (by kernel_rfl) ?_
  obtain ⟨⟨x, x_2⟩, g2, h⟩ := bindE h
  dsimp only at h
  have h2 := vigilref16_Put_ok g2
  refine Sys.to [((1, 2), .call (.tup [.c (.sc (.string x)), dInt x_2]) ⟨[], []⟩)] 2 (.at [1, 1, 0, 0]) ⟨fl [(1, .pt 0 1 0), (4, .c (.sc (.string x))), (5, dInt x_2)], ⟨[⟨1, (EncX.encX p0).map DV.c⟩], []⟩⟩ (h2) (by kernel_rfl) ?_
  by_cases h4 : x_2 ≠ 0
  · replace h := iteT h4 h
    have hr := Option.some.inj h
    subst hr
    exact Sys.endC [((2, 1), .b true)] (h4) (by kernel_rfl)
  · replace h := iteF h4 h
    obtain ⟨⟨x_3, x_4⟩, g6, h⟩ := bindE h
    dsimp only at h
    have h6 := vigilref16_Put_ok g6
    refine Sys.to [((2, 1), .b false), ((4, 2), .call (.tup [.c (.sc (.string x_3)), dInt x_4]) ⟨[], []⟩)] 5 (.at [1, 1, 1, 1, 0, 0]) ⟨fl [(1, .pt 0 1 0), (4, .c (.sc (.string x))), (6, .c (.sc (.string x_3))), (7, dInt x_4)], ⟨[⟨1, (EncX.encX p0).map DV.c⟩], []⟩⟩ (And.intro (h4) (h6)) (by kernel_rfl) ?_
    by_cases h8 : x_4 ≠ 0
    · replace h := iteT h8 h
      have hr := Option.some.inj h
      subst hr
      exact Sys.endC [((5, 1), .b true)] (h8) (by kernel_rfl)
    · replace h := iteF h8 h
      refine Sys.to [((5, 1), .b false)] 7 (.at [1, 1, 1, 1, 1, 0, 0]) ⟨fl [(1, .pt 0 1 0), (4, .c (.sc (.string x))), (6, .c (.sc (.string x_3))), (7, dInt x_4), (24, dB false)], ⟨[⟨1, (EncX.encX p0).map DV.c⟩], []⟩⟩ (h8) (by kernel_rfl) ?_
      by_cases h10 : p0.thread < 0
      · replace h := iteT h10 h
        have hr := Option.some.inj h
        subst hr
        exact Sys.endC [((7, 2), .b true)] (h10) (by kernel_rfl)
      · replace h := iteF h10 h
        by_cases h11 : p0.thread > 999999
        · replace h := iteT h11 h
          have hr := Option.some.inj h
          subst hr
          exact Sys.endC [((7, 2), .b false), ((7, 6), .b true)] (And.intro (h10) (h11)) (by kernel_rfl)
        · replace h := iteF h11 h
          by_cases h13 : (x ++ (⟨#[32, 124, 32]⟩ : ByteArray)).size ≤ 9223372036854775807
          case neg => exact absurd (iteF h13 h) (by simp)
          replace h := iteT h13 h
          by_cases h14 : ((x ++ (⟨#[32, 124, 32]⟩ : ByteArray)) ++ x_3).size ≤ 9223372036854775807
          case neg => exact absurd (iteF h14 h) (by simp)
          replace h := iteT h14 h
          by_cases h15 : (((x ++ (⟨#[32, 124, 32]⟩ : ByteArray)) ++ x_3) ++ (⟨#[32, 124, 32]⟩ : ByteArray)).size ≤ 9223372036854775807
          case neg => exact absurd (iteF h15 h) (by simp)
          replace h := iteT h15 h
          obtain ⟨x_5, g16, h⟩ := bindE h
          have h16 := vigilref03_Digits_ok g16
          by_cases h17 : ((((x ++ (⟨#[32, 124, 32]⟩ : ByteArray)) ++ x_3) ++ (⟨#[32, 124, 32]⟩ : ByteArray)) ++ x_5).size ≤ 9223372036854775807
          case neg => exact absurd (iteF h17 h) (by simp)
          replace h := iteT h17 h
          have hr := Option.some.inj h
          subst hr
          exact Sys.endC [((7, 2), .b false), ((7, 6), .b false), ((9, 1), .op { d := .c (.sc (.string (x ++ (⟨#[32, 124, 32]⟩ : ByteArray)))) }), ((9, 3), .op { d := .c (.sc (.string ((x ++ (⟨#[32, 124, 32]⟩ : ByteArray)) ++ x_3))) }), ((9, 4), .op { d := .c (.sc (.string (((x ++ (⟨#[32, 124, 32]⟩ : ByteArray)) ++ x_3) ++ (⟨#[32, 124, 32]⟩ : ByteArray)))) }), ((9, 7), .call (.c (.sc (.string x_5))) ⟨[], []⟩), ((9, 8), .op { d := .c (.sc (.string ((((x ++ (⟨#[32, 124, 32]⟩ : ByteArray)) ++ x_3) ++ (⟨#[32, 124, 32]⟩ : ByteArray)) ++ x_5))) })] (And.intro (h10) (And.intro (h11) (And.intro (str_add (P0 := X.P) (t0 := 9) h13) (And.intro (str_add (P0 := X.P) (t0 := 9) h14) (And.intro (str_add (P0 := X.P) (t0 := 9) h15) (And.intro (h16) (str_add (P0 := X.P) (t0 := 9) h17))))))) (by kernel_rfl)
def strings_splitSeq (n : Nat) (p0 : ByteArray) (p2 : Int) : Option Unit :=
  some ()
theorem strings_splitSeq_ok {n : Nat} {p0 : ByteArray} {p2 : Int} {r : Unit} (h : strings_splitSeq n p0 p2 = some r) : X.Runs [] 76 [.c (.sc (.string p0)), .c (.sc (.string (⟨#[32]⟩ : ByteArray))), dInt p2] ⟨[], []⟩ (.fn 118 [] [.pt 1 1 0, .pt 0 1 0, .pt 2 1 0]) ⟨[⟨1, [.c (.sc (.string p0))]⟩, ⟨1, [.c (.sc (.string (⟨#[32]⟩ : ByteArray)))]⟩, ⟨1, [dInt p2]⟩], []⟩ := by
  unfold strings_splitSeq at h
  refine Sys.callK' (fn := Tryz.f76) (b := b76) (by kernel_rfl) (by kernel_rfl) ?_
  have hr := Option.some.inj h
  subst hr
  exact Sys.endK [] (True.intro) (by kernel_rfl)
def strings_SplitSeq (n : Nat) (p0 : ByteArray) : Option Unit :=
  (strings_splitSeq n p0 0).bind fun u_ =>
  some ()
theorem strings_SplitSeq_ok {n : Nat} {p0 : ByteArray} {r : Unit} (h : strings_SplitSeq n p0 = some r) : X.Runs [] 36 [.c (.sc (.string p0)), .c (.sc (.string (⟨#[32]⟩ : ByteArray)))] ⟨[], []⟩ (.fn 118 [] [.pt 1 1 0, .pt 0 1 0, .pt 2 1 0]) ⟨[⟨1, [.c (.sc (.string p0))]⟩, ⟨1, [.c (.sc (.string (⟨#[32]⟩ : ByteArray)))]⟩, ⟨1, [dInt 0]⟩], []⟩ := by
  unfold strings_SplitSeq at h
  refine Sys.callK' (fn := Tryz.f36) (b := b36) (by kernel_rfl) (by kernel_rfl) ?_
  obtain ⟨u_, g2, h⟩ := bindE h
  have h2 := strings_splitSeq_ok g2
  have hr := Option.some.inj h
  subst hr
  exact Sys.endK [((1, 2), .callK (.fn 118 [] [.pt 1 1 0, .pt 0 1 0, .pt 2 1 0]) ⟨[⟨1, [.c (.sc (.string p0))]⟩, ⟨1, [.c (.sc (.string (⟨#[32]⟩ : ByteArray)))]⟩, ⟨1, [dInt 0]⟩], []⟩ (.fn 118 [] [.pt 1 1 0, .pt 0 1 0, .pt 2 1 0]) [⟨1, [.c (.sc (.string p0))]⟩, ⟨1, [.c (.sc (.string (⟨#[32]⟩ : ByteArray)))]⟩, ⟨1, [dInt 0]⟩])] (And.intro h2 (And.intro (by kernel_rfl : shift 0 0 (.fn 118 [] [.pt 1 1 0, .pt 0 1 0, .pt 2 1 0]) = .fn 118 [] [.pt 1 1 0, .pt 0 1 0, .pt 2 1 0]) (shifts_cons (n := 0) (p := 0) (ver := 1) (cs := [.c (.sc (.string p0))]) (cs' := [.c (.sc (.string p0))]) ((by kernel_rfl : shiftL 0 0 [.c (.sc (.string p0))] = [.c (.sc (.string p0))])) (shifts_cons (n := 0) (p := 0) (ver := 1) (cs := [.c (.sc (.string (⟨#[32]⟩ : ByteArray)))]) (cs' := [.c (.sc (.string (⟨#[32]⟩ : ByteArray)))]) ((by kernel_rfl : shiftL 0 0 [.c (.sc (.string (⟨#[32]⟩ : ByteArray)))] = [.c (.sc (.string (⟨#[32]⟩ : ByteArray)))])) (shifts_cons (n := 0) (p := 0) (ver := 1) (cs := [dInt 0]) (cs' := [dInt 0]) ((by kernel_rfl : shiftL 0 0 [dInt 0] = [dInt 0])) (shifts_nil _ _)))))) (by kernel_rfl)
end Go.Proofs.YtilipgopjiokfaaGreatDoor

/-
  Functions of the program as Lean functions, and that the interpreter comes to the same: printed by the session's own tool.
-/
set_option linter.unusedVariables false
set_option linter.unusedSimpArgs false
set_option maxRecDepth 100000
set_option maxHeartbeats 1000000
namespace Go.Proofs.YtilipgopjiokfaaGreatDoor
open Go Go.Abs Go.Proofs
/-- A text's parts at each of a byte, handed to B one by one. -/
def splitL {α O : Type} (c : UInt8) (B : ByteArray → α → Option O) (next : O → Option α) : Nat → ByteArray → α → Option (O × ByteArray)
  | 0, _, _ => none
  | k + 1, s, a =>
    if s.size ≤ 281474976710656 then
      if Lib.indexByte s.data.toList c < 0 then (B s a).map fun o => (o, s)
      else (B (s.extract 0 (Lib.indexByte s.data.toList c + 0).toNat) a).bind fun o => match next o with
        | some a' => splitL c B next k (s.extract (Lib.indexByte s.data.toList c + 1).toNat s.size) a'
        | none => some (o, s)
    else none
theorem indexByte_lt (c : UInt8) : ∀ l : List UInt8, Lib.indexByte l c < (l.length : Int) ∨ Lib.indexByte l c = -1
  | [] => .inr rfl
  | b :: l => by
    have h0 := Lib.indexByte_ge l c
    rcases indexByte_lt c l with h | h
    · unfold Lib.indexByte
      split
      · left; simp only [List.length_cons]; omega
      · split
        · right; rfl
        · left; simp only [List.length_cons]; omega
    · unfold Lib.indexByte
      rw [h]
      split
      · left; simp only [List.length_cons]; omega
      · right; simp
abbrev st6 (c : UInt8) (o0 o1 o2 : Ob) (s : ByteArray) : List Ob := [o0, o1, o2, ⟨1, [.c (.sc (.string s))]⟩, ⟨1, [.c (.sc (.string (⟨#[c]⟩ : ByteArray)))]⟩, ⟨1, [dInt 0]⟩]
section
variable (Γ : List (Nat × Ctx)) (c : UInt8) (o0 o1 o2 : Ob) (s : ByteArray)
theorem split_end (h : Lib.indexByte s.data.toList c < 0) : X.Go 118 52 Γ (sub b118 [1, 0, 0, 0]) ⟨fl [(0, .yl 0), (1, .pt 4 1 0), (2, .pt 3 1 0), (3, .pt 5 1 0)], ⟨st6 c o0 o1 o2 s, [.normal]⟩⟩ (.exit 2) ⟨fl [(0, .yl 0), (1, .pt 4 1 0), (2, .pt 3 1 0), (3, .pt 5 1 0), (7, dInt (Lib.indexByte s.data.toList c)), (33, dB true)], ⟨st6 c o0 o1 o2 s, [.normal]⟩⟩ :=
  Sys.go (X := X) [((5, 2), .op { d := dInt (Lib.indexByte s.data.toList c) }), ((6, 1), .b true)] (And.intro (indexOneP_eq (st6 c o0 o1 o2 s) s c) h) (by kernel_rfl)
theorem split_go (h : ¬ Lib.indexByte s.data.toList c < 0) (hs : s.size ≤ 281474976710656) (m' : M) (b : Bool) (hr : X.Round Γ 0 [.c (.sc (.string (s.extract 0 (Lib.indexByte s.data.toList c + 0).toNat)))] ⟨st6 c o0 o1 o2 s, [.normal]⟩ (dB b) m') (fr' : Nat → DV) (ex : Ex) (s' : S)
    (hg : b = false → ex = .ret ∧ s' = ⟨fl [(0, .yl 0), (1, .pt 4 1 0), (2, .pt 3 1 0), (3, .pt 5 1 0), (7, dInt (Lib.indexByte s.data.toList c)), (42, dB true)], m'⟩)
    (hg' : b = true → ex = .normal ∧ ∃ p0 p1 p2 mo, m' = ⟨p0 :: p1 :: p2 :: ⟨1, [.c (.sc (.string s))]⟩ :: ⟨1, [.c (.sc (.string (⟨#[c]⟩ : ByteArray)))]⟩ :: ⟨1, [dInt 0]⟩ :: mo, [.normal]⟩ ∧
      s' = ⟨fl [(0, .yl 0), (1, .pt 4 1 0), (2, .pt 3 1 0), (3, .pt 5 1 0)], ⟨p0 :: p1 :: p2 :: ⟨1, [.c (.sc (.string (s.extract (Lib.indexByte s.data.toList c + 1).toNat s.size)))]⟩ :: ⟨1, [.c (.sc (.string (⟨#[c]⟩ : ByteArray)))]⟩ :: ⟨1, [dInt 0]⟩ :: mo, [.normal]⟩⟩) :
    X.Go 118 52 Γ (sub b118 [1, 0, 0, 0]) ⟨fl [(0, .yl 0), (1, .pt 4 1 0), (2, .pt 3 1 0), (3, .pt 5 1 0)], ⟨st6 c o0 o1 o2 s, [.normal]⟩⟩ ex s' := by
  have h0 : Lib.indexByte s.data.toList c < (s.size : Int) := by
    rcases indexByte_lt c s.data.toList with h1 | h1
    · rw [Array.length_toList] at h1; exact h1
    · omega
  have e1 : InR (Lib.indexByte s.data.toList c + 0) := by unfold InR; omega
  have e2 : InR (Lib.indexByte s.data.toList c + 1) := by unfold InR; omega
  have e3 : 0 ≤ Lib.indexByte s.data.toList c + 0 ∧ Lib.indexByte s.data.toList c + 0 ≤ (s.size : Int) := by omega
  have e4 : 0 ≤ Lib.indexByte s.data.toList c + 1 ∧ Lib.indexByte s.data.toList c + 1 ≤ (s.size : Int) := by omega
  cases b with
  | false =>
    obtain ⟨rfl, rfl⟩ := hg rfl
    exact Sys.go (X := X) [((5, 2), .op { d := dInt (Lib.indexByte s.data.toList c) }), ((6, 1), .b false), ((7, 3), .n), ((7, 4), .op { d := .c (.sc (.string (s.extract 0 (Lib.indexByte s.data.toList c + 0).toNat))) }), ((8, 2), .call (dB false) m')]
      (And.intro (indexOneP_eq (st6 c o0 o1 o2 s) s c) (And.intro h (And.intro e1 (And.intro (str_slc_hi (P0 := X.P) (t0 := 9) (st0 := st6 c o0 o1 o2 s) (by kernel_rfl) e3) hr)))) (by kernel_rfl)
  | true =>
    obtain ⟨rfl, p0, p1, p2, mo, rfl, rfl⟩ := hg' rfl
    exact Sys.go (X := X) [((5, 2), .op { d := dInt (Lib.indexByte s.data.toList c) }), ((6, 1), .b false), ((7, 3), .n), ((7, 4), .op { d := .c (.sc (.string (s.extract 0 (Lib.indexByte s.data.toList c + 0).toNat))) }), ((8, 2), .call (dB true) ⟨p0 :: p1 :: p2 :: ⟨1, [.c (.sc (.string s))]⟩ :: ⟨1, [.c (.sc (.string (⟨#[c]⟩ : ByteArray)))]⟩ :: ⟨1, [dInt 0]⟩ :: mo, [.normal]⟩), ((9, 4), .n), ((9, 5), .op { d := .c (.sc (.string (s.extract (Lib.indexByte s.data.toList c + 1).toNat s.size))) })]
      (And.intro (indexOneP_eq (st6 c o0 o1 o2 s) s c) (And.intro h (And.intro e1 (And.intro (str_slc_hi (P0 := X.P) (t0 := 9) (st0 := st6 c o0 o1 o2 s) (by kernel_rfl) e3) (And.intro hr (And.intro e2 (str_slc_lo (P0 := X.P) (t0 := 9) (st0 := p0 :: p1 :: p2 :: ⟨1, [.c (.sc (.string s))]⟩ :: ⟨1, [.c (.sc (.string (⟨#[c]⟩ : ByteArray)))]⟩ :: ⟨1, [dInt 0]⟩ :: mo) (by kernel_rfl) e4))))))) (by kernel_rfl)
end

theorem range_split {α O : Type} {c : UInt8} {f nt : Nat} {fr : Nat → DV} {co asg body : Code} {g : Operand} {p : Tmp} {C0 C1 C2 : α → Ob} {B : ByteArray → α → Option O} {next : O → Option α} {Lx : O → Ex} {Ls : ByteArray → O → S}
    (ha : (match asg with | .region _ _ _ => true | .skip => true | _ => false) = true) (hco : co = .rangeFunc g #[p] asg body) (hg : Abs.ev fr g = .fn 118 [] [.pt 4 1 0, .pt 3 1 0, .pt 5 1 0]) (hp : (#[p].toList.all fun t => decide (t < nt)) = true)
    (hcut : X.an.cut f (firstR body) = some [])
    (hB : ∀ w a o, B w a = some o → ∀ s, X.Go f nt [] (.seq asg body) ⟨setPs (fun t => unflag (fr t)) [(p, .c (.sc (.string w)))], ⟨st6 c (C0 a) (C1 a) (C2 a) s, [.normal]⟩⟩ (Lx o) (Ls s o))
    (hL : ∀ s o, (Ls s o).m.pd = [.normal])
    (hn : ∀ s o a, next o = some a → Lx o = .normal ∧ (Ls s o).m.st.take 6 = st6 c (C0 a) (C1 a) (C2 a) s) (hx : ∀ o, next o = none → exN (Lx o) = false)
    (hb : ∀ s o, AllB 6 ((Ls s o).m.st.take 6)) : ∀ (k : Nat) (s : ByteArray) (a : α) {o : O} {s' : ByteArray}, splitL c B next k s a = some (o, s') →
    X.Go f nt [] co ⟨fr, ⟨st6 c (C0 a) (C1 a) (C2 a) s, []⟩⟩ (Lx o) ⟨fr, ⟨(Ls s' o).m.st.take 6, [Lx o]⟩⟩ := by
  intro k s a o s' h
  subst hco
  have round : ∀ w a o s, B w a = some o → X.Round [(0, rctx f nt fr #[p] asg body)] 0 [.c (.sc (.string w))] ⟨st6 c (C0 a) (C1 a) (C2 a) s, [.normal]⟩ (dB (exN (Lx o))) ⟨(Ls s o).m.st, [Lx o]⟩ := fun w a o s h => by
    have hg := hB w a o h s
    have e : Ls s o = ⟨(Ls s o).fr, ⟨(Ls s o).m.st, [.normal]⟩⟩ := by rw [← hL s o]
    rw [e] at hg
    exact Sys.round1 (X := X) (Γ := []) (j := 0) (args := [.c (.sc (.string w))]) (st := st6 c (C0 a) (C1 a) (C2 a) s) (st' := (Ls s o).m.st) (pd := [.normal]) (pd' := [.normal]) (by simp) rfl rfl hp ha hg rfl
  have loop : ∀ (k : Nat) (s : ByteArray) (a : α), splitL c B next k s a = some (o, s') → ∃ ex s1, (∀ s00, restrS (X.an.rs 118 (firstR (sub b118 [1, 0, 0, 0]))) s00 = ⟨fl [(0, .yl 0), (1, .pt 4 1 0), (2, .pt 3 1 0), (3, .pt 5 1 0)], ⟨st6 c (C0 a) (C1 a) (C2 a) s, [.normal]⟩⟩ → X.Loop 118 52 [(0, rctx f nt fr #[p] asg body)] (sub b118 [1, 0, 0, 0]) 6 s00 ex s1) ∧
      ((ex = .ret ∧ s1.m = ⟨(Ls s' o).m.st, [Lx o]⟩) ∨ (∃ a' fr', ex = .exit 2 ∧ s1 = ⟨fl [(0, .yl 0), (1, .pt 4 1 0), (2, .pt 3 1 0), (3, .pt 5 1 0), (7, fr'), (33, dB true)], ⟨st6 c (C0 a') (C1 a') (C2 a') s', [.normal]⟩⟩ ∧ B s' a' = some o)) := by
    intro k
    induction k with
    | zero => intro s a h; cases h
    | succ k ih =>
      intro s a h
      unfold splitL at h
      by_cases hs : s.size ≤ 281474976710656
      case neg => rw [if_neg hs] at h; cases h
      rw [if_pos hs] at h
      by_cases hi : Lib.indexByte s.data.toList c < 0
      · rw [if_pos hi, Option.map_eq_some_iff] at h
        obtain ⟨o1, h1, h2⟩ := h
        cases h2
        exact ⟨_, _, fun s00 h00 => Sys.Loop.exit h00 (split_end _ c _ _ _ _ hi) (by simp), .inr ⟨a, _, rfl, rfl, h1⟩⟩
      · rw [if_neg hi, Option.bind_eq_some_iff] at h
        obtain ⟨o1, h1, h2⟩ := h
        have hr := round _ _ _ s h1
        cases hno : next o1 with
        | none =>
          rw [hno] at h2
          cases h2
          rw [hx _ hno] at hr
          refine ⟨_, _, fun s00 h00 => Sys.Loop.exit h00 (split_go _ c _ _ _ _ hi hs _ false hr (fun _ => .un) .ret _ (fun _ => ⟨rfl, rfl⟩) (fun h => by cases h)) (by simp), .inl ⟨rfl, rfl⟩⟩
        | some a' =>
          rw [hno] at h2
          obtain ⟨hln, htk⟩ := hn s o1 a' hno
          rw [hln] at hr
          have hsp : (Ls s o1).m.st = st6 c (C0 a') (C1 a') (C2 a') s ++ (Ls s o1).m.st.drop 6 := by rw [← htk, List.take_append_drop]
          rw [hsp] at hr
          obtain ⟨ex, s1, hl, hq⟩ := ih _ _ h2
          refine ⟨ex, s1, fun s00 h00 => Sys.Loop.step (s2 := ⟨fl [(0, .yl 0), (1, .pt 4 1 0), (2, .pt 3 1 0), (3, .pt 5 1 0)], ⟨st6 c (C0 a') (C1 a') (C2 a') (s.extract (Lib.indexByte s.data.toList c + 1).toNat s.size), [.normal]⟩⟩) h00 (split_go _ c _ _ _ _ hi hs _ true hr (fun _ => .un) .normal _ (fun h => by cases h) (fun _ => ⟨rfl, _, _, _, _, rfl, rfl⟩)) ?_ (hl _ (by kernel_rfl)), hq⟩
          have hbb := hb (s.extract (Lib.indexByte s.data.toList c + 1).toNat s.size) o1
          rw [(hn _ o1 a' hno).2] at hbb
          exact cut_ok (l := [0, 1, 2, 3]) rfl hbb rfl
  obtain ⟨ex, s1, hl, hq⟩ := loop k s a h
  have hl' := Sys.Loop.goM (hl ⟨fl [(0, .yl 0), (1, .pt 4 1 0), (2, .pt 3 1 0), (3, .pt 5 1 0), (11, dB false)], ⟨st6 c (C0 a) (C1 a) (C2 a) s, [.normal]⟩⟩ (by kernel_rfl)) rfl
  have fin : ∀ m', X.Runs [(0, rctx f nt fr #[p] asg body)] 118 [.yl 0, .pt 4 1 0, .pt 3 1 0, .pt 5 1 0] ⟨st6 c (C0 a) (C1 a) (C2 a) s, [.normal]⟩ (.tup []) m' → m' = ⟨(Ls s' o).m.st, [Lx o]⟩ →
      X.Go f nt [] (.rangeFunc g #[p] asg body) ⟨fr, ⟨st6 c (C0 a) (C1 a) (C2 a) s, []⟩⟩ (Lx o) ⟨fr, ⟨(Ls s' o).m.st.take 6, [Lx o]⟩⟩ := by
    rintro m' hr rfl
    refine Sys.rangeT hg (by kernel_rfl) hr rfl hcut (trim_ok rfl (hb s' o) rfl)
  rcases hq with ⟨rfl, h1⟩ | ⟨a', fr', rfl, rfl, h1⟩
  · obtain ⟨fr1, m1⟩ := s1
    simp only at h1
    refine fin m1 (Sys.call (fn := (X.P.funcs[118]?).getD default) (c := b118) (ex := .ret) (s := ⟨fr1, m1⟩) ?_ (by kernel_rfl) (by kernel_rfl) rfl (by kernel_rfl) rfl) h1
    exact Sys.go (X := X) [((5, 1000), .code .ret ⟨fr1, m1⟩)] hl' (by kernel_rfl)
  · refine fin _ (Sys.call (fn := (X.P.funcs[118]?).getD default) (c := b118) (ex := .normal) (s := ⟨fl [], ⟨(Ls s' o).m.st, [Lx o]⟩⟩) ?_ (by kernel_rfl) (by kernel_rfl) rfl (by kernel_rfl) rfl) rfl
    exact Sys.go (X := X) [((5, 1000), .code (.exit 2) ⟨fl [(0, .yl 0), (1, .pt 4 1 0), (2, .pt 3 1 0), (3, .pt 5 1 0), (7, fr'), (33, dB true)], ⟨st6 c (C0 a') (C1 a') (C2 a') s', [.normal]⟩⟩), ((10, 2), .call (dB (exN (Lx o))) ⟨(Ls s' o).m.st, [Lx o]⟩)] (And.intro hl' (round _ _ _ s' h1)) (by kernel_rfl)
def stringslite_HasPrefix (n : Nat) (p0 : ByteArray) : Option Bool :=
  if (p0.size : Int) ≥ 1 then
    if 0 ≤ (1 : Int) ∧ (1 : Int) ≤ (p0.size : Int) then if (p0.extract 0 (1 : Int).toNat) = (⟨#[115]⟩ : ByteArray) then
      some true
    else some false
    else none
  else some false
theorem stringslite_HasPrefix_ok {n : Nat} {p0 : ByteArray} {r : Bool} (h : stringslite_HasPrefix n p0 = some r) : X.RunsC 167 [.c (.sc (.string p0)), .c (.sc (.string (⟨#[115]⟩ : ByteArray)))] (dB r) := by
  unfold stringslite_HasPrefix at h
  refine Sys.callC' (fn := Tryz.f167) (b := b167) (by kernel_rfl) (by kernel_rfl) ?_
  by_cases h2 : (p0.size : Int) ≥ 1
  · replace h := iteT h2 h
    by_cases h3 : 0 ≤ (1 : Int) ∧ (1 : Int) ≤ (p0.size : Int)
    case neg => exact absurd (iteF h3 h) (by simp)
    replace h := iteT h3 h
    by_cases h4 : (p0.extract 0 (1 : Int).toNat) = (⟨#[115]⟩ : ByteArray)
    · replace h := iteT h4 h
      have hr := Option.some.inj h
      subst hr
      exact Sys.endC [((1, 4), .b true), ((1, 9), .op { d := .c (.sc (.string (p0.extract 0 (1 : Int).toNat))) }), ((1, 11), .op { d := dB true })] (And.intro (h2) (And.intro (str_slc_hi (P0 := X.P) (t0 := 9) (st0 := []) (by kernel_rfl) h3) (str_eql_true h4))) (by kernel_rfl)
    · replace h := iteF h4 h
      have hr := Option.some.inj h
      subst hr
      exact Sys.endC [((1, 4), .b true), ((1, 9), .op { d := .c (.sc (.string (p0.extract 0 (1 : Int).toNat))) }), ((1, 11), .op { d := dB false })] (And.intro (h2) (And.intro (str_slc_hi (P0 := X.P) (t0 := 9) (st0 := []) (by kernel_rfl) h3) (str_eql_false h4))) (by kernel_rfl)
  · replace h := iteF h2 h
    have hr := Option.some.inj h
    subst hr
    exact Sys.endC [((1, 4), .b false)] (h2) (by kernel_rfl)
def stringslite_CutPrefix (n : Nat) (p0 : ByteArray) : Option (ByteArray × Bool) :=
  (stringslite_HasPrefix n p0).bind fun x =>
  bif x then
    if 0 ≤ (1 : Int) ∧ (1 : Int) ≤ (p0.size : Int) then some ((p0.extract (1 : Int).toNat p0.size), true)
    else none
  else some (p0, false)
theorem stringslite_CutPrefix_ok {n : Nat} {p0 : ByteArray} {r : ByteArray × Bool} (h : stringslite_CutPrefix n p0 = some r) : X.RunsC 121 [.c (.sc (.string p0)), .c (.sc (.string (⟨#[115]⟩ : ByteArray)))] (.tup [.c (.sc (.string r.1)), dB r.2]) := by
  unfold stringslite_CutPrefix at h
  refine Sys.callC' (fn := Tryz.f121) (b := b121) (by kernel_rfl) (by kernel_rfl) ?_
  obtain ⟨x, g2, h⟩ := bindE h
  have h2 := stringslite_HasPrefix_ok g2
  cases x with
  | true =>
    replace h := condT h
    by_cases h5 : 0 ≤ (1 : Int) ∧ (1 : Int) ≤ (p0.size : Int)
    case neg => exact absurd (iteF h5 h) (by simp)
    replace h := iteT h5 h
    have hr := Option.some.inj h
    subst hr
    exact Sys.endC [((1, 2), .call (dB true) ⟨[], []⟩), ((3, 3), .op { d := .c (.sc (.string (p0.extract (1 : Int).toNat p0.size))) })] (And.intro (h2) (str_slc_lo (P0 := X.P) (t0 := 9) (st0 := []) (by kernel_rfl) h5)) (by kernel_rfl)
  | false =>
    replace h := condF h
    have hr := Option.some.inj h
    subst hr
    exact Sys.endC [((1, 2), .call (dB false) ⟨[], []⟩)] (h2) (by kernel_rfl)
def strings_CutPrefix (n : Nat) (p0 : ByteArray) : Option (ByteArray × Bool) :=
  (stringslite_CutPrefix n p0).bind fun (x, x_2) =>
  some (x, x_2)
theorem strings_CutPrefix_ok {n : Nat} {p0 : ByteArray} {r : ByteArray × Bool} (h : strings_CutPrefix n p0 = some r) : X.RunsC 77 [.c (.sc (.string p0)), .c (.sc (.string (⟨#[115]⟩ : ByteArray)))] (.tup [.c (.sc (.string r.1)), dB r.2]) := by
  unfold strings_CutPrefix at h
  refine Sys.callC' (fn := Tryz.f77) (b := b77) (by kernel_rfl) (by kernel_rfl) ?_
  obtain ⟨⟨x, x_2⟩, g2, h⟩ := bindE h
  dsimp only at h
  have h2 := stringslite_CutPrefix_ok g2
  have hr := Option.some.inj h
  subst hr
  exact Sys.endC [((1, 2), .call (.tup [.c (.sc (.string x)), dB x_2]) ⟨[], []⟩)] (h2) (by kernel_rfl)
def script_number (n : Nat) (p0 : ByteArray) : Option Int :=
  if p0.size ≤ 281474976710656 then if (atoiR p0).2 = true then
    some (-1)
  else if ((atoiR p0).1) > 999999 then
    some (-1)
  else if InR ((atoiR p0).1) then if (itoaB ((atoiR p0).1)) = p0 then
    some ((atoiR p0).1)
  else some (-1)
  else none
  else none
theorem script_number_ok {n : Nat} {p0 : ByteArray} {r : Int} (h : script_number n p0 = some r) : X.RunsC 78 [.c (.sc (.string p0))] (dInt r) := by
  unfold script_number at h
  refine Sys.callC' (fn := Tryz.f78) (b := b78) (by kernel_rfl) (by kernel_rfl) ?_
  by_cases h2 : p0.size ≤ 281474976710656
  case neg => exact absurd (iteF h2 h) (by simp)
  replace h := iteT h2 h
  refine Sys.to [((1, 1), .op { d := .tup [dInt ((atoiR p0).1), .er ((atoiR p0).2)] })] 2 (.at [1, 1, 0, 0]) ⟨fl [(0, .c (.sc (.string p0))), (3, dInt ((atoiR p0).1)), (4, .er ((atoiR p0).2))], ⟨[], []⟩⟩ (atoiP_eq [] (s := p0) h2) (by kernel_rfl) ?_
  by_cases h4 : (atoiR p0).2 = true
  · replace h := iteT h4 h
    have hr := Option.some.inj h
    subst hr
    exact Sys.endC [((2, 1), .op { d := dB true })] (er_neq (P := X.P) (t := 102) (d := .c (.sc .nilIface)) true (by kernel_rfl) h4) (by kernel_rfl)
  · replace h := iteF h4 h
    by_cases h5 : ((atoiR p0).1) > 999999
    · replace h := iteT h5 h
      have hr := Option.some.inj h
      subst hr
      exact Sys.endC [((2, 1), .op { d := dB false }), ((2, 4), .b true)] (And.intro (er_neq (P := X.P) (t := 102) (d := .c (.sc .nilIface)) false (by kernel_rfl) (eq_false_of_ne_true h4)) (h5)) (by kernel_rfl)
    · replace h := iteF h5 h
      by_cases h6 : InR ((atoiR p0).1)
      case neg => exact absurd (iteF h6 h) (by simp)
      replace h := iteT h6 h
      by_cases h7 : (itoaB ((atoiR p0).1)) = p0
      · replace h := iteT h7 h
        have hr := Option.some.inj h
        subst hr
        exact Sys.endC [((2, 1), .op { d := dB false }), ((2, 4), .b false), ((2, 8), .op { d := .c (.sc (.string (itoaB ((atoiR p0).1)))) }), ((2, 10), .op { d := dB false })] (And.intro (er_neq (P := X.P) (t := 102) (d := .c (.sc .nilIface)) false (by kernel_rfl) (eq_false_of_ne_true h4)) (And.intro (h5) (And.intro (itoaP_eq [] (n := (atoiR p0).1) h6) (str_neq_false h7)))) (by kernel_rfl)
      · replace h := iteF h7 h
        have hr := Option.some.inj h
        subst hr
        exact Sys.endC [((2, 1), .op { d := dB false }), ((2, 4), .b false), ((2, 8), .op { d := .c (.sc (.string (itoaB ((atoiR p0).1)))) }), ((2, 10), .op { d := dB true })] (And.intro (er_neq (P := X.P) (t := 102) (d := .c (.sc .nilIface)) false (by kernel_rfl) (eq_false_of_ne_true h4)) (And.intro (h5) (And.intro (itoaP_eq [] (n := (atoiR p0).1) h6) (str_neq_true h7)))) (by kernel_rfl)
def stringslite_Cut (n : Nat) (p0 : ByteArray) : Option (ByteArray × ByteArray × Bool) :=
  if (Lib.indexByte p0.data.toList 46) ≥ 0 then
    if 0 ≤ (Lib.indexByte p0.data.toList 46) ∧ (Lib.indexByte p0.data.toList 46) ≤ (p0.size : Int) then if InR ((Lib.indexByte p0.data.toList 46) + 1) then if 0 ≤ ((Lib.indexByte p0.data.toList 46) + 1) ∧ ((Lib.indexByte p0.data.toList 46) + 1) ≤ (p0.size : Int) then some ((p0.extract 0 (Lib.indexByte p0.data.toList 46).toNat), (p0.extract ((Lib.indexByte p0.data.toList 46) + 1).toNat p0.size), true)
    else none
    else none
    else none
  else some (p0, (⟨#[]⟩ : ByteArray), false)
theorem stringslite_Cut_ok {n : Nat} {p0 : ByteArray} {r : ByteArray × ByteArray × Bool} (h : stringslite_Cut n p0 = some r) : X.RunsC 122 [.c (.sc (.string p0)), .c (.sc (.string (⟨#[46]⟩ : ByteArray)))] (.tup [.c (.sc (.string r.1)), .c (.sc (.string r.2.1)), dB r.2.2]) := by
  unfold stringslite_Cut at h
  refine Sys.callC' (fn := Tryz.f122) (b := b122) (by kernel_rfl) (by kernel_rfl) ?_
  refine Sys.to [((1, 2), .op { d := dInt (Lib.indexByte p0.data.toList 46) })] 2 (.at [1, 0, 1, 0]) ⟨fl [(0, .c (.sc (.string p0))), (1, .c (.sc (.string (⟨#[46]⟩ : ByteArray)))), (7, dInt (Lib.indexByte p0.data.toList 46))], ⟨[], []⟩⟩ (indexOneP_eq [] p0 46) (by kernel_rfl) ?_
  by_cases h3 : (Lib.indexByte p0.data.toList 46) ≥ 0
  · replace h := iteT h3 h
    by_cases h5 : 0 ≤ (Lib.indexByte p0.data.toList 46) ∧ (Lib.indexByte p0.data.toList 46) ≤ (p0.size : Int)
    case neg => exact absurd (iteF h5 h) (by simp)
    replace h := iteT h5 h
    by_cases h6 : InR ((Lib.indexByte p0.data.toList 46) + 1)
    case neg => exact absurd (iteF h6 h) (by simp)
    replace h := iteT h6 h
    by_cases h7 : 0 ≤ ((Lib.indexByte p0.data.toList 46) + 1) ∧ ((Lib.indexByte p0.data.toList 46) + 1) ≤ (p0.size : Int)
    case neg => exact absurd (iteF h7 h) (by simp)
    replace h := iteT h7 h
    have hr := Option.some.inj h
    subst hr
    exact Sys.endC [((2, 1), .b true), ((3, 2), .op { d := .c (.sc (.string (p0.extract 0 (Lib.indexByte p0.data.toList 46).toNat))) }), ((3, 7), .n), ((3, 8), .op { d := .c (.sc (.string (p0.extract ((Lib.indexByte p0.data.toList 46) + 1).toNat p0.size))) })] (And.intro (h3) (And.intro (str_slc_hi (P0 := X.P) (t0 := 9) (st0 := []) (by kernel_rfl) h5) (And.intro (h6) (str_slc_lo (P0 := X.P) (t0 := 9) (st0 := []) (by kernel_rfl) h7)))) (by kernel_rfl)
  · replace h := iteF h3 h
    have hr := Option.some.inj h
    subst hr
    exact Sys.endC [((2, 1), .b false)] (h3) (by kernel_rfl)
def strings_Cut (n : Nat) (p0 : ByteArray) : Option (ByteArray × ByteArray × Bool) :=
  (stringslite_Cut n p0).bind fun (x, x_2, x_3) =>
  some (x, x_2, x_3)
theorem strings_Cut_ok {n : Nat} {p0 : ByteArray} {r : ByteArray × ByteArray × Bool} (h : strings_Cut n p0 = some r) : X.RunsC 79 [.c (.sc (.string p0)), .c (.sc (.string (⟨#[46]⟩ : ByteArray)))] (.tup [.c (.sc (.string r.1)), .c (.sc (.string r.2.1)), dB r.2.2]) := by
  unfold strings_Cut at h
  refine Sys.callC' (fn := Tryz.f79) (b := b79) (by kernel_rfl) (by kernel_rfl) ?_
  obtain ⟨⟨x, x_2, x_3⟩, g2, h⟩ := bindE h
  dsimp only at h
  have h2 := stringslite_Cut_ok g2
  have hr := Option.some.inj h
  subst hr
  exact Sys.endC [((1, 2), .call (.tup [.c (.sc (.string x)), .c (.sc (.string x_2)), dB x_3]) ⟨[], []⟩)] (h2) (by kernel_rfl)
def script_pick (n : Nat) (p0 : ByteArray) : Option GPick :=
  if p0 = (⟨#[116]⟩ : ByteArray) then
    some ({ kind := 2, thread := 0, draw := 0 } : GPick)
  else (strings_CutPrefix n p0).bind fun (x, x_2) =>
  bif x_2 then
    (script_number n x).bind fun x_3 =>
    some ({ kind := 1, thread := x_3, draw := 0 } : GPick)
  else (strings_Cut n p0).bind fun (x_4, x_5, x_6) =>
  (script_number n x_4).bind fun x_7 =>
  bif x_6 then
    (script_number n x_5).bind fun x_8 =>
    some ({ kind := 0, thread := x_7, draw := x_8 } : GPick)
  else some ({ kind := 0, thread := x_7, draw := 0 } : GPick)
theorem script_pick_ok {n : Nat} {p0 : ByteArray} {r : GPick} (h : script_pick n p0 = some r) : X.RunsC 37 [.c (.sc (.string p0))] (.c (.agg (EncX.encX r))) := by
  unfold script_pick at h
  refine Sys.callC' (fn := Tryz.f37) (b := b37) (by kernel_rfl) (by kernel_rfl) ?_
  by_cases h2 : p0 = (⟨#[116]⟩ : ByteArray)
  · replace h := iteT h2 h
    have hr := Option.some.inj h
    subst hr
    exact Sys.endC [((1, 1), .op { d := dB true })] (str_eql_true h2) (by kernel_rfl)
  · replace h := iteF h2 h
    obtain ⟨⟨x, x_2⟩, g4, h⟩ := bindE h
    dsimp only at h
    have h4 := strings_CutPrefix_ok g4
    refine Sys.to [((1, 1), .op { d := dB false }), ((3, 1), .call (.tup [.c (.sc (.string x)), dB x_2]) ⟨[], []⟩)] 4 (.at [1, 1, 0, 1, 0]) ⟨fl [(0, .c (.sc (.string p0))), (2, .pt 0 1 0), (3, .c (.sc (.string x))), (4, dB x_2)], ⟨[⟨1, [dInt 0, dInt 0, dInt 0]⟩], []⟩⟩ (And.intro (str_eql_false h2) (h4)) (by kernel_rfl) ?_
    cases x_2 with
    | true =>
      replace h := condT h
      obtain ⟨x_3, g8, h⟩ := bindE h
      have h8 := script_number_ok g8
      have hr := Option.some.inj h
      subst hr
      exact Sys.endC [((5, 1), .call (dInt x_3) ⟨[], []⟩)] (h8) (by kernel_rfl)
    | false =>
      replace h := condF h
      obtain ⟨⟨x_4, x_5, x_6⟩, g8, h⟩ := bindE h
      dsimp only at h
      have h8 := strings_Cut_ok g8
      obtain ⟨x_7, g10, h⟩ := bindE h
      have h10 := script_number_ok g10
      refine Sys.to [((6, 1), .call (.tup [.c (.sc (.string x_4)), .c (.sc (.string x_5)), dB x_6]) ⟨[], []⟩), ((7, 1), .call (dInt x_7) ⟨[], []⟩)] 8 (.at [1, 1, 1, 1, 1, 0, 0]) ⟨fl [(2, .pt 0 1 0), (6, .c (.sc (.string x_5))), (7, dB x_6), (8, .pt 1 1 0)], ⟨[⟨1, [dInt 0, dInt 0, dInt 0]⟩, ⟨1, [dInt 0, dInt x_7, dInt 0]⟩], []⟩⟩ (And.intro (h8) (h10)) (by kernel_rfl) ?_
      cases x_6 with
      | true =>
        replace h := condT h
        obtain ⟨x_8, g14, h⟩ := bindE h
        have h14 := script_number_ok g14
        have hr := Option.some.inj h
        subst hr
        exact Sys.endC [((9, 1), .call (dInt x_8) ⟨[], []⟩)] (h14) (by kernel_rfl)
      | false =>
        replace h := condF h
        have hr := Option.some.inj h
        subst hr
        exact Sys.endC [] (True.intro) (by kernel_rfl)
inductive script_Parse_R6O where
  | r (o2_0 : List GPick) (o6_0 : Int) (o6_1 : Int) (o6_2 : Int)
  | m (o2_0 : List GPick) (o6_0 : Int) (o6_1 : Int) (o6_2 : Int)
def script_Parse_R6x : script_Parse_R6O → Ex
  | .r _ _ _ _ => .ret
  | .m _ _ _ _ => .normal
def script_Parse_R6s (t : ByteArray) : script_Parse_R6O → S
  | .r o2_0 o6_0 o6_1 o6_2 => ⟨fl [], ⟨[⟨1, [.c (.sl true true [] 0)]⟩, ⟨1, [dInt 2]⟩, ⟨1, [apl o2_0]⟩, ⟨1, [.c (.sc (.string t))]⟩, ⟨1, [.c (.sc (.string (⟨#[32]⟩ : ByteArray)))]⟩, ⟨1, [dInt 0]⟩, ⟨1, [dInt o6_0, dInt o6_1, dInt o6_2]⟩], [.normal]⟩⟩
  | .m o2_0 o6_0 o6_1 o6_2 => ⟨fl [], ⟨[⟨1, [.c (.sl true true [] 0)]⟩, ⟨1, [dInt 0]⟩, ⟨1, [apl o2_0]⟩, ⟨1, [.c (.sc (.string t))]⟩, ⟨1, [.c (.sc (.string (⟨#[32]⟩ : ByteArray)))]⟩, ⟨1, [dInt 0]⟩, ⟨1, [dInt o6_0, dInt o6_1, dInt o6_2]⟩], [.normal]⟩⟩
def script_Parse_R6 (n : Nat) (w : ByteArray) (o2_0 : List GPick) : Option script_Parse_R6O :=
  (script_pick n w).bind fun x =>
  (script_text n x).bind fun (x_2, x_3) =>
  bif x_3 then
    if x_2 = w then
      if (o2_0.length : Int) ≥ 20000 then
        some (.r o2_0 x.kind x.thread x.draw)
      else if Room 24 (o2_0 ++ ([x] : List GPick)).length then some (.m (o2_0 ++ ([x] : List GPick)) x.kind x.thread x.draw)
      else none
    else some (.r o2_0 x.kind x.thread x.draw)
  else some (.r o2_0 x.kind x.thread x.draw)
theorem script_Parse_R6_ok (n : Nat) (w : ByteArray) (o2_0 : List GPick) (o : script_Parse_R6O) (h : script_Parse_R6 n w o2_0 = some o) (t : ByteArray) : X.Go 11 38 [] (sub b11 [1, 1, 1, 0, 1, 0, 2]) ⟨setPs (fun t => unflag ((fl [(2, .pt 0 1 0), (3, .pt 1 1 0), (4, .pt 2 1 0), (12, .fn 118 [] [.pt 4 1 0, .pt 3 1 0, .pt 5 1 0])] : Nat → DV) t)) [(13, .c (.sc (.string w)))], ⟨[⟨1, [.c (.sl true true [] 0)]⟩, ⟨1, [dInt 0]⟩, ⟨1, [apl o2_0]⟩, ⟨1, [.c (.sc (.string t))]⟩, ⟨1, [.c (.sc (.string (⟨#[32]⟩ : ByteArray)))]⟩, ⟨1, [dInt 0]⟩], [.normal]⟩⟩ (script_Parse_R6x o) (script_Parse_R6s t o) := by
  unfold script_Parse_R6 at h
  refine Sys.goE ?_
  obtain ⟨x, g2, h⟩ := bindE h
  have h2 := script_pick_ok g2
  obtain ⟨⟨x_2, x_3⟩, g4, h⟩ := bindE h
  dsimp only at h
  have h4 := script_text_ok g4
  refine Sys.to [((6, 1), .call (.c (.agg (EncX.encX x))) ⟨[], []⟩), ((7, 1), .call (.tup [.c (.sc (.string x_2)), dB x_3]) ⟨[], []⟩)] 8 (.at [1, 0, 1, 0, 1, 0]) ⟨fl [(2, .pt 0 1 0), (3, .pt 1 1 0), (4, .pt 2 1 0), (5, .c (.sc (.string w))), (6, .pt 6 1 0), (7, .c (.sc (.string x_2))), (8, dB x_3)], ⟨[⟨1, [.c (.sl true true [] 0)]⟩, ⟨1, [dInt 0]⟩, ⟨1, [apl o2_0]⟩, ⟨1, [.c (.sc (.string t))]⟩, ⟨1, [.c (.sc (.string (⟨#[32]⟩ : ByteArray)))]⟩, ⟨1, [dInt 0]⟩, ⟨1, (EncX.encX x).map DV.c⟩], [.normal]⟩⟩ (And.intro (h2) (h4)) (by kernel_rfl) ?_
  cases x_3 with
  | true =>
    replace h := condT h
    by_cases h7 : x_2 = w
    · replace h := iteT h7 h
      by_cases h8 : (o2_0.length : Int) ≥ 20000
      · replace h := iteT h8 h
        have hr := Option.some.inj h
        subst hr
        exact Sys.endJ [((8, 5), .op { d := dB false }), ((8, 10), .b true)] (And.intro (str_neq_false h7) (h8)) (by kernel_rfl)
      · replace h := iteF h8 h
        by_cases h10 : Room 24 (o2_0 ++ ([x] : List GPick)).length
        case neg => exact absurd (iteF h10 h) (by simp)
        replace h := iteT h10 h
        have hr := Option.some.inj h
        subst hr
        exact Sys.endJ [((8, 5), .op { d := dB false }), ((8, 10), .b false), ((10, 3), .appF (o2_0 ++ ([x] : List GPick)).isEmpty (cells (o2_0 ++ ([x] : List GPick))) (o2_0 ++ ([x] : List GPick)).length)] (And.intro (str_neq_false h7) (And.intro (h8) (apl_lit o2_0 ([x] : List GPick) (b := 24) (by decide) h10))) (by kernel_rfl)
    · replace h := iteF h7 h
      have hr := Option.some.inj h
      subst hr
      exact Sys.endJ [((8, 5), .op { d := dB true })] (str_neq_true h7) (by kernel_rfl)
  | false =>
    replace h := condF h
    have hr := Option.some.inj h
    subst hr
    exact Sys.endJ [] (True.intro) (by kernel_rfl)
def script_Parse_R6n : script_Parse_R6O → Option ((List GPick))
  | .m o2_0 o6_0 o6_1 o6_2 => some o2_0
  | _ => none
def script_Parse_R6l (n : Nat) : Nat → ByteArray → (List GPick) → Option (script_Parse_R6O × ByteArray) := splitL 32 (fun w a => script_Parse_R6 n w a) script_Parse_R6n
theorem script_Parse_R6l_ok (n k : Nat) (s : ByteArray) (o2_0 : List GPick) (o : script_Parse_R6O) (s2 : ByteArray) (h : script_Parse_R6l n k s o2_0 = some (o, s2)) : X.Go 11 38 [] (sub b11 [1, 1, 1, 0, 1, 0]) ⟨fl [(2, .pt 0 1 0), (3, .pt 1 1 0), (4, .pt 2 1 0), (12, .fn 118 [] [.pt 4 1 0, .pt 3 1 0, .pt 5 1 0])], ⟨[⟨1, [.c (.sl true true [] 0)]⟩, ⟨1, [dInt 0]⟩, ⟨1, [apl o2_0]⟩, ⟨1, [.c (.sc (.string s))]⟩, ⟨1, [.c (.sc (.string (⟨#[32]⟩ : ByteArray)))]⟩, ⟨1, [dInt 0]⟩], []⟩⟩ (script_Parse_R6x o) ⟨fl [(2, .pt 0 1 0), (3, .pt 1 1 0), (4, .pt 2 1 0), (12, .fn 118 [] [.pt 4 1 0, .pt 3 1 0, .pt 5 1 0])], ⟨(script_Parse_R6s s2 o).m.st.take 6, [script_Parse_R6x o]⟩⟩ :=
  range_split (c := 32) (g := .tmp 12) (f := 11) (nt := 38) (fr := fl [(2, .pt 0 1 0), (3, .pt 1 1 0), (4, .pt 2 1 0), (12, .fn 118 [] [.pt 4 1 0, .pt 3 1 0, .pt 5 1 0])]) (C0 := fun a => ⟨1, [.c (.sl true true [] 0)]⟩) (C1 := fun a => ⟨1, [dInt 0]⟩) (C2 := fun a => ⟨1, [apl a]⟩) (B := fun w a => script_Parse_R6 n w a) (next := script_Parse_R6n) (Lx := script_Parse_R6x) (Ls := script_Parse_R6s) (asg := sub b11 [1, 1, 1, 0, 1, 0, 0]) (body := sub b11 [1, 1, 1, 0, 1, 0, 1])
    (by kernel_rfl) (by kernel_rfl) (by kernel_rfl) rfl (by kernel_rfl) (fun w a o h s => script_Parse_R6_ok n w a o h s) (fun s o => by cases o <;> rfl)
    (fun s o a h => by cases o <;> simp [script_Parse_R6n] at h <;> (try subst h) <;> exact ⟨rfl, rfl⟩) (fun o h => by cases o <;> simp [script_Parse_R6n] at h <;> rfl) (fun s o => by cases o <;> rfl) k s o2_0 h

def script_Parse (n : Nat) (p0 : ByteArray) : Option (Sl GPick × Int) :=
  if p0 = (⟨#[]⟩ : ByteArray) then
    some ((Sl.nil : Sl GPick), 0)
  else (strings_SplitSeq n p0).bind fun u_ =>
  (script_Parse_R6l n n p0 ([] : List GPick)).bind fun o_2 => match o_2 with
  | (.r o2_0_2 o6_0 o6_1 o6_2, t_2) =>
    some ((Sl.nil : Sl GPick), 2)
  | (.m o2_0_3 o6_0_2 o6_1_2 o6_2_2, t_2) =>
    some ((Sl.gr o2_0_3), 0)
theorem script_Parse_ok {n : Nat} {p0 : ByteArray} {r : Sl GPick × Int} (h : script_Parse n p0 = some r) : X.RunsC 11 [.c (.sc (.string p0))] (.tup [.c (eSl r.1), dInt r.2]) := by
  unfold script_Parse at h
  refine Sys.callC' (fn := Tryz.f11) (b := b11) (by kernel_rfl) (by kernel_rfl) ?_
  by_cases h3 : p0 = (⟨#[]⟩ : ByteArray)
  · replace h := iteT h3 h
    have hr := Option.some.inj h
    subst hr
    exact Sys.endC [((2, 1), .op { d := dB true })] (str_eql_true h3) (by kernel_rfl)
  · replace h := iteF h3 h
    obtain ⟨u_, g5, h⟩ := bindE h
    have h5 := strings_SplitSeq_ok g5
    refine Sys.to [((2, 1), .op { d := dB false }), ((4, 1), .callK (.fn 118 [] [.pt 1 1 0, .pt 0 1 0, .pt 2 1 0]) ⟨[⟨1, [.c (.sc (.string p0))]⟩, ⟨1, [.c (.sc (.string (⟨#[32]⟩ : ByteArray)))]⟩, ⟨1, [dInt 0]⟩], []⟩ (.fn 118 [] [.pt 4 1 0, .pt 3 1 0, .pt 5 1 0]) [⟨1, [.c (.sc (.string p0))]⟩, ⟨1, [.c (.sc (.string (⟨#[32]⟩ : ByteArray)))]⟩, ⟨1, [dInt 0]⟩])] 100006 (.at [1, 1, 1, 0, 1, 0]) ⟨fl [(2, .pt 0 1 0), (3, .pt 1 1 0), (4, .pt 2 1 0), (12, .fn 118 [] [.pt 4 1 0, .pt 3 1 0, .pt 5 1 0])], ⟨[⟨1, [.c (.sl true true [] 0)]⟩, ⟨1, [dInt 0]⟩, ⟨1, [apl ([] : List GPick)]⟩, ⟨1, [.c (.sc (.string p0))]⟩, ⟨1, [.c (.sc (.string (⟨#[32]⟩ : ByteArray)))]⟩, ⟨1, [dInt 0]⟩], []⟩⟩ (And.intro (str_eql_false h3) (And.intro h5 (And.intro (by kernel_rfl : shift 3 0 (.fn 118 [] [.pt 1 1 0, .pt 0 1 0, .pt 2 1 0]) = .fn 118 [] [.pt 4 1 0, .pt 3 1 0, .pt 5 1 0]) (shifts_cons (n := 3) (p := 0) (ver := 1) (cs := [.c (.sc (.string p0))]) (cs' := [.c (.sc (.string p0))]) ((by kernel_rfl : shiftL 3 0 [.c (.sc (.string p0))] = [.c (.sc (.string p0))])) (shifts_cons (n := 3) (p := 0) (ver := 1) (cs := [.c (.sc (.string (⟨#[32]⟩ : ByteArray)))]) (cs' := [.c (.sc (.string (⟨#[32]⟩ : ByteArray)))]) ((by kernel_rfl : shiftL 3 0 [.c (.sc (.string (⟨#[32]⟩ : ByteArray)))] = [.c (.sc (.string (⟨#[32]⟩ : ByteArray)))])) (shifts_cons (n := 3) (p := 0) (ver := 1) (cs := [dInt 0]) (cs' := [dInt 0]) ((by kernel_rfl : shiftL 3 0 [dInt 0] = [dInt 0])) (shifts_nil _ _))))))) (by kernel_rfl) ?_
    obtain ⟨⟨o_2, t_2⟩, g7, h⟩ := bindE h
    have h7 := script_Parse_R6l_ok n n p0 ([] : List GPick) _ _ g7
    cases o_2 with
    | r o2_0_2 o6_0 o6_1 o6_2 =>
      dsimp only at h
      have hr := Option.some.inj h
      subst hr
      exact Sys.endC [((6, 1000), .code .ret ⟨fl [(2, .pt 0 1 0), (3, .pt 1 1 0), (4, .pt 2 1 0), (12, .fn 118 [] [.pt 4 1 0, .pt 3 1 0, .pt 5 1 0])], ⟨[⟨1, [.c (.sl true true [] 0)]⟩, ⟨1, [dInt 2]⟩, ⟨1, [apl o2_0_2]⟩, ⟨1, [.c (.sc (.string t_2))]⟩, ⟨1, [.c (.sc (.string (⟨#[32]⟩ : ByteArray)))]⟩, ⟨1, [dInt 0]⟩], [.ret]⟩⟩)] (h7) (by kernel_rfl)
    | m o2_0_3 o6_0_2 o6_1_2 o6_2_2 =>
      dsimp only at h
      have hr := Option.some.inj h
      subst hr
      exact Sys.endC [((6, 1000), .code .normal ⟨fl [(2, .pt 0 1 0), (3, .pt 1 1 0), (4, .pt 2 1 0), (12, .fn 118 [] [.pt 4 1 0, .pt 3 1 0, .pt 5 1 0])], ⟨[⟨1, [.c (.sl true true [] 0)]⟩, ⟨1, [dInt 0]⟩, ⟨1, [apl o2_0_3]⟩, ⟨1, [.c (.sc (.string t_2))]⟩, ⟨1, [.c (.sc (.string (⟨#[32]⟩ : ByteArray)))]⟩, ⟨1, [dInt 0]⟩], [.normal]⟩⟩)] (h7) (by kernel_rfl)
inductive lasso_Parse_J7O where
  | r
  | m
def lasso_Parse_J7x : lasso_Parse_J7O → Ex
  | .r => .ret
  | .m => .normal
def lasso_Parse_J7s (p0 : ByteArray) (x : Sl GPick) (x_2 : Int) (x_3 : Sl GPick) (x_4 : Int) (v36 : ByteArray) : lasso_Parse_J7O → S
  | .r => ⟨fl [(2, .pt 0 1 0), (3, dInt 2)], ⟨[⟨1, [.c (.sl true true [] 0), .c (.sl true true [] 0), dInt 0]⟩], []⟩⟩
  | .m => ⟨fl [(0, .c (.sc (.string p0))), (2, .pt 0 1 0), (5, .c (eSl x)), (7, .c (eSl x_3)), (9, dInt ((atoiR v36).1)), (50, dB false)], ⟨[⟨1, [.c (.sl true true [] 0), .c (.sl true true [] 0), dInt 0]⟩], []⟩⟩
def lasso_Parse_J7 (p0 : ByteArray) (x : Sl GPick) (x_2 : Int) (x_3 : Sl GPick) (x_4 : Int) (v36 : ByteArray) (n : Nat) : Option lasso_Parse_J7O :=
  if x_2 ≠ 0 then
    some (.r)
  else if x_4 ≠ 0 then
    some (.r)
  else if (atoiR v36).2 = true then
    some (.r)
  else some (.m)
theorem lasso_Parse_J7_ok (p0 : ByteArray) (x : Sl GPick) (x_2 : Int) (x_3 : Sl GPick) (x_4 : Int) (v36 : ByteArray) (n : Nat) (o : lasso_Parse_J7O) (h : lasso_Parse_J7 p0 x x_2 x_3 x_4 v36 n = some o) : X.Go 18 70 [] (sub b18 [1, 1, 1, 1, 1, 1, 0]) ⟨fl [(0, .c (.sc (.string p0))), (2, .pt 0 1 0), (5, .c (eSl x)), (6, dInt x_2), (7, .c (eSl x_3)), (8, dInt x_4), (9, dInt ((atoiR v36).1)), (10, .er ((atoiR v36).2))], ⟨[⟨1, [.c (.sl true true [] 0), .c (.sl true true [] 0), dInt 0]⟩], []⟩⟩ (lasso_Parse_J7x o) (lasso_Parse_J7s p0 x x_2 x_3 x_4 v36 o) := by
  unfold lasso_Parse_J7 at h
  refine Sys.goE ?_
  by_cases h1 : x_2 ≠ 0
  · replace h := iteT h1 h
    have hr := Option.some.inj h
    subst hr
    exact Sys.endJ [((7, 1), .b true)] (h1) (by kernel_rfl)
  · replace h := iteF h1 h
    by_cases h2 : x_4 ≠ 0
    · replace h := iteT h2 h
      have hr := Option.some.inj h
      subst hr
      exact Sys.endJ [((7, 1), .b false), ((7, 4), .b true)] (And.intro (h1) (h2)) (by kernel_rfl)
    · replace h := iteF h2 h
      by_cases h3 : (atoiR v36).2 = true
      · replace h := iteT h3 h
        have hr := Option.some.inj h
        subst hr
        exact Sys.endJ [((7, 1), .b false), ((7, 4), .b false), ((7, 8), .op { d := dB true })] (And.intro (h1) (And.intro (h2) (er_neq (P := X.P) (t := 102) (d := .c (.sc .nilIface)) true (by kernel_rfl) h3))) (by kernel_rfl)
      · replace h := iteF h3 h
        have hr := Option.some.inj h
        subst hr
        exact Sys.endJ [((7, 1), .b false), ((7, 4), .b false), ((7, 8), .op { d := dB false })] (And.intro (h1) (And.intro (h2) (er_neq (P := X.P) (t := 102) (d := .c (.sc .nilIface)) false (by kernel_rfl) (eq_false_of_ne_true h3)))) (by kernel_rfl)

def lasso_Parse (n : Nat) (p0 : ByteArray) : Option (GLasso × Int) :=
  if p0.size < 4294967281 then if ((splitS p0 (⟨#[32, 124, 32]⟩ : ByteArray)).length : Int) ≠ 3 then
    some (({ stem := (Sl.nil : Sl GPick), loop := (Sl.nil : Sl GPick), thread := 0 } : GLasso), 2)
  else (atI (splitS p0 (⟨#[32, 124, 32]⟩ : ByteArray)) 0).bind fun v22 =>
  (script_Parse n v22).bind fun (x, x_2) =>
  (atI (splitS p0 (⟨#[32, 124, 32]⟩ : ByteArray)) 1).bind fun v29 =>
  (script_Parse n v29).bind fun (x_3, x_4) =>
  (atI (splitS p0 (⟨#[32, 124, 32]⟩ : ByteArray)) 2).bind fun v36 =>
  if v36.size ≤ 281474976710656 then (lasso_Parse_J7 p0 x x_2 x_3 x_4 v36 n).bind fun o_2 => match o_2 with
  | .r =>
    some (({ stem := (Sl.nil : Sl GPick), loop := (Sl.nil : Sl GPick), thread := 0 } : GLasso), 2)
  | .m =>
    (lasso_Put n ({ stem := x, loop := x_3, thread := (atoiR v36).1 } : GLasso)).bind fun (x_5, x_6) =>
    if x_6 ≠ 0 then
      some (({ stem := (Sl.nil : Sl GPick), loop := (Sl.nil : Sl GPick), thread := 0 } : GLasso), 2)
    else if x_5 = p0 then
      some (({ stem := x, loop := x_3, thread := (atoiR v36).1 } : GLasso), 0)
    else some (({ stem := (Sl.nil : Sl GPick), loop := (Sl.nil : Sl GPick), thread := 0 } : GLasso), 2)
  else none
  else none
theorem lasso_Parse_ok {n : Nat} {p0 : ByteArray} {r : GLasso × Int} (h : lasso_Parse n p0 = some r) : X.RunsC 18 [.c (.sc (.string p0))] (.tup [.c (.agg (EncX.encX r.1)), dInt r.2]) := by
  unfold lasso_Parse at h
  refine Sys.callC' (fn := Tryz.f18) (b := b18) (by kernel_rfl) (by kernel_rfl) ?_
  by_cases h2 : p0.size < 4294967281
  case neg => exact absurd (iteF h2 h) (by simp)
  replace h := iteT h2 h
  refine Sys.to [((1, 1), .op { d := .c (.sl false true (cells (splitS p0 (⟨#[32, 124, 32]⟩ : ByteArray))) ((splitS p0 (⟨#[32, 124, 32]⟩ : ByteArray)).length)) })] 2 (.at [1, 1, 0, 0]) ⟨fl [(0, .c (.sc (.string p0))), (2, .pt 0 1 0), (4, .c (.sl false true (cells (splitS p0 (⟨#[32, 124, 32]⟩ : ByteArray))) ((splitS p0 (⟨#[32, 124, 32]⟩ : ByteArray)).length)))], ⟨[⟨1, [.c (.sl true true [] 0), .c (.sl true true [] 0), dInt 0]⟩], []⟩⟩ (splitP_eq [⟨1, [.c (.sl true true [] 0), .c (.sl true true [] 0), dInt 0]⟩] (s := p0) (sep := (⟨#[32, 124, 32]⟩ : ByteArray)) h2 (by decide)) (by kernel_rfl) ?_
  by_cases h4 : ((splitS p0 (⟨#[32, 124, 32]⟩ : ByteArray)).length : Int) ≠ 3
  · replace h := iteT h4 h
    have hr := Option.some.inj h
    subst hr
    exact Sys.endC [((2, 2), .b true)] (h4) (by kernel_rfl)
  · replace h := iteF h4 h
    obtain ⟨v22, h6, h⟩ := bindE h
    obtain ⟨⟨x, x_2⟩, g7, h⟩ := bindE h
    dsimp only at h
    have h7 := script_Parse_ok g7
    obtain ⟨v29, h9, h⟩ := bindE h
    obtain ⟨⟨x_3, x_4⟩, g10, h⟩ := bindE h
    dsimp only at h
    have h10 := script_Parse_ok g10
    obtain ⟨v36, h12, h⟩ := bindE h
    by_cases h13 : v36.size ≤ 281474976710656
    case neg => exact absurd (iteF h13 h) (by simp)
    replace h := iteT h13 h
    refine Sys.to [((2, 2), .b false), ((4, 1), .ix), ((4, 2), .cell (.sc (.string v22))), ((4, 3), .call (.tup [.c (eSl x), dInt x_2]) ⟨[], []⟩), ((5, 1), .ix), ((5, 2), .cell (.sc (.string v29))), ((5, 3), .call (.tup [.c (eSl x_3), dInt x_4]) ⟨[], []⟩), ((6, 1), .ix), ((6, 2), .cell (.sc (.string v36))), ((6, 3), .op { d := .tup [dInt ((atoiR v36).1), .er ((atoiR v36).2)] })] 207001 (.at [1, 1, 1, 1, 1, 1, 0]) ⟨fl [(0, .c (.sc (.string p0))), (2, .pt 0 1 0), (5, .c (eSl x)), (6, dInt x_2), (7, .c (eSl x_3)), (8, dInt x_4), (9, dInt ((atoiR v36).1)), (10, .er ((atoiR v36).2))], ⟨[⟨1, [.c (.sl true true [] 0), .c (.sl true true [] 0), dInt 0]⟩], []⟩⟩ (And.intro (h4) (And.intro (atI_b h6) (And.intro (cell_at 0 (c := .sc (.string v22)) rfl (atI_g h6)) (And.intro (h7) (And.intro (atI_b h9) (And.intro (cell_at 0 (c := .sc (.string v29)) rfl (atI_g h9)) (And.intro (h10) (And.intro (atI_b h12) (And.intro (cell_at 0 (c := .sc (.string v36)) rfl (atI_g h12)) (atoiP_eq [⟨1, [.c (.sl true true [] 0), .c (.sl true true [] 0), dInt 0]⟩] (s := v36) h13)))))))))) (by kernel_rfl) ?_
    obtain ⟨o_2, g15, h⟩ := bindE h
    have h15 := lasso_Parse_J7_ok p0 x x_2 x_3 x_4 v36 n _ g15
    cases o_2 with
    | r =>
      dsimp only at h
      refine Sys.over h15 ?_
      have hr := Option.some.inj h
      subst hr
      exact Sys.endC [] (True.intro) (by kernel_rfl)
    | m =>
      dsimp only at h
      refine Sys.over h15 ?_
      obtain ⟨⟨x_5, x_6⟩, g18, h⟩ := bindE h
      dsimp only at h
      have h18 := lasso_Put_ok g18
      refine Sys.to [((10, 1), .call (.tup [.c (.sc (.string x_5)), dInt x_6]) ⟨[], []⟩)] 11 (.at [1, 1, 1, 1, 1, 1, 1, 1, 0, 1, 0]) ⟨fl [(0, .c (.sc (.string p0))), (2, .pt 0 1 0), (11, .pt 1 1 0), (12, .c (.sc (.string x_5))), (13, dInt x_6)], ⟨[⟨1, [.c (.sl true true [] 0), .c (.sl true true [] 0), dInt 0]⟩, ⟨1, [.c (eSl x), .c (eSl x_3), dInt ((atoiR v36).1)]⟩], []⟩⟩ (h18) (by kernel_rfl) ?_
      by_cases h20 : x_6 ≠ 0
      · replace h := iteT h20 h
        have hr := Option.some.inj h
        subst hr
        exact Sys.endC [((11, 1), .b true)] (h20) (by kernel_rfl)
      · replace h := iteF h20 h
        by_cases h21 : x_5 = p0
        · replace h := iteT h21 h
          have hr := Option.some.inj h
          subst hr
          exact Sys.endC [((11, 1), .b false), ((11, 5), .op { d := dB false })] (And.intro (h20) (str_neq_false h21)) (by kernel_rfl)
        · replace h := iteF h21 h
          have hr := Option.some.inj h
          subst hr
          exact Sys.endC [((11, 1), .b false), ((11, 5), .op { d := dB true })] (And.intro (h20) (str_neq_true h21)) (by kernel_rfl)
inductive vigilref18_bars_L3O where
  | e0 (v3 : List Int) (v4 : Int)
def vigilref18_bars_L3x : vigilref18_bars_L3O → Ex
  | .e0 _ _ => (.exit 0)
def vigilref18_bars_L3s (p0 : ByteArray) : vigilref18_bars_L3O → S
  | .e0 v3 v4 => ⟨fl [(0, .c (.sc (.string p0))), (3, apl v3), (4, dInt v4), (9, dB false)], ⟨[], []⟩⟩
def vigilref18_bars_L3 (p0 : ByteArray) (n : Nat) : Nat → List Int → Int → Option vigilref18_bars_L3O
  | 0, _, _ => none
  | k + 1, v3, v4 =>
    if InR (v4 + 3) then if (v4 + 3) ≤ (p0.size : Int) then
      if 0 ≤ v4 ∧ v4 ≤ (v4 + 3) ∧ (v4 + 3) ≤ (p0.size : Int) then if (p0.extract v4.toNat (v4 + 3).toNat) = (⟨#[32, 124, 32]⟩ : ByteArray) then
        if Room 8 (v3 ++ ([v4] : List Int)).length then if InR (v4 + 1) then vigilref18_bars_L3 p0 n k (v3 ++ ([v4] : List Int)) (v4 + 1)
        else none
        else none
      else if InR (v4 + 1) then vigilref18_bars_L3 p0 n k v3 (v4 + 1)
      else none
      else none
    else some (.e0 v3 v4)
    else none
theorem vigilref18_bars_L3_ok (p0 : ByteArray) (n : Nat) : ∀ (k : Nat) (v3 : List Int) (v4 : Int) (o : vigilref18_bars_L3O), vigilref18_bars_L3 p0 n k v3 v4 = some o → ∀ s : S, restrS (X.an.rs 46 3) s = ⟨fl [(0, .c (.sc (.string p0))), (3, apl v3), (4, dInt v4)], ⟨[], []⟩⟩ → X.Loop 46 23 [] (sub b46 [1, 1, 0, 1, 0, 0]) 0 s (vigilref18_bars_L3x o) (vigilref18_bars_L3s p0 o) := by
  intro k
  induction k with
  | zero => intro v3 v4 o h s hs; unfold vigilref18_bars_L3 at h; cases h
  | succ k ih =>
    intro v3 v4 o h s hs
    unfold vigilref18_bars_L3 at h
    refine Sys.loopQ hs ?_
    by_cases h1 : InR (v4 + 3)
    case neg => exact absurd (iteF h1 h) (by simp)
    replace h := iteT h1 h
    by_cases h2 : (v4 + 3) ≤ (p0.size : Int)
    · replace h := iteT h2 h
      by_cases h4 : 0 ≤ v4 ∧ v4 ≤ (v4 + 3) ∧ (v4 + 3) ≤ (p0.size : Int)
      case neg => exact absurd (iteF h4 h) (by simp)
      replace h := iteT h4 h
      refine Sys.to [((3, 1), .n), ((3, 4), .b true)] 5 (.at [1, 0, 0, 0]) ⟨fl [(0, .c (.sc (.string p0))), (3, apl v3), (4, dInt v4), (9, dB true)], ⟨[], []⟩⟩ (And.intro (h1) (h2)) (by kernel_rfl) ?_
      by_cases h5 : (p0.extract v4.toNat (v4 + 3).toNat) = (⟨#[32, 124, 32]⟩ : ByteArray)
      · replace h := iteT h5 h
        by_cases h7 : Room 8 (v3 ++ ([v4] : List Int)).length
        case neg => exact absurd (iteF h7 h) (by simp)
        replace h := iteT h7 h
        by_cases h9 : InR (v4 + 1)
        case neg => exact absurd (iteF h9 h) (by simp)
        replace h := iteT h9 h
        refine Sys.to [((5, 3), .n), ((5, 4), .op { d := .c (.sc (.string (p0.extract v4.toNat (v4 + 3).toNat))) }), ((5, 5), .op { d := dB true }), ((6, 3), .appF (v3 ++ ([v4] : List Int)).isEmpty (cells (v3 ++ ([v4] : List Int))) (v3 ++ ([v4] : List Int)).length), ((4, 1), .n)] 999999 (.fin .normal) ⟨fl [(0, .c (.sc (.string p0))), (3, apl (v3 ++ ([v4] : List Int))), (4, dInt (v4 + 1))], ⟨[], []⟩⟩ (And.intro (h1) (And.intro (str_slc (P0 := X.P) (t0 := 9) (st0 := []) (by kernel_rfl) h4) (And.intro (str_eql_true h5) (And.intro (apl_lit v3 ([v4] : List Int) (b := 8) (by decide) h7) (h9))))) (by kernel_rfl) ?_
        exact Sys.fin (.inl ⟨rfl, ⟨fl [(0, .c (.sc (.string p0))), (3, apl (v3 ++ ([v4] : List Int))), (4, dInt (v4 + 1))], ⟨[], []⟩⟩, (by kernel_rfl), ih (v3 ++ ([v4] : List Int)) (v4 + 1) _ h _ (by kernel_rfl)⟩)
      · replace h := iteF h5 h
        by_cases h7 : InR (v4 + 1)
        case neg => exact absurd (iteF h7 h) (by simp)
        replace h := iteT h7 h
        refine Sys.to [((5, 3), .n), ((5, 4), .op { d := .c (.sc (.string (p0.extract v4.toNat (v4 + 3).toNat))) }), ((5, 5), .op { d := dB false }), ((4, 1), .n)] 999999 (.fin .normal) ⟨fl [(0, .c (.sc (.string p0))), (3, apl v3), (4, dInt (v4 + 1))], ⟨[], []⟩⟩ (And.intro (h1) (And.intro (str_slc (P0 := X.P) (t0 := 9) (st0 := []) (by kernel_rfl) h4) (And.intro (str_eql_false h5) (h7)))) (by kernel_rfl) ?_
        exact Sys.fin (.inl ⟨rfl, ⟨fl [(0, .c (.sc (.string p0))), (3, apl v3), (4, dInt (v4 + 1))], ⟨[], []⟩⟩, (by kernel_rfl), ih v3 (v4 + 1) _ h _ (by kernel_rfl)⟩)
    · replace h := iteF h2 h
      have hr := Option.some.inj h
      subst hr
      exact Sys.endX [((3, 1), .n), ((3, 4), .b false)] (And.intro (h1) (h2)) rfl (by kernel_rfl)

def vigilref18_bars (n : Nat) (p0 : ByteArray) : Option (List Int) :=
  (vigilref18_bars_L3 p0 n n ([] : List Int) 0).bind fun o_2 => match o_2 with
  | .e0 v3_2 v4_2 =>
    some v3_2
theorem vigilref18_bars_ok {n : Nat} {p0 : ByteArray} {r : List Int} (h : vigilref18_bars n p0 = some r) : X.RunsC 46 [.c (.sc (.string p0))] (apl r) := by
  unfold vigilref18_bars at h
  refine Sys.callC' (fn := Tryz.f46) (b := b46) (by kernel_rfl) (by kernel_rfl) ?_
  obtain ⟨o_2, g4, h⟩ := bindE h
  have h4 := vigilref18_bars_L3_ok p0 n n ([] : List Int) 0 _ g4
  cases o_2 with
  | e0 v3_2 v4_2 =>
    dsimp only at h
    have hr := Option.some.inj h
    subst hr
    exact Sys.endC [((3, 1000), .code (.exit 0) ⟨fl [(0, .c (.sc (.string p0))), (3, apl v3_2), (4, dInt v4_2), (9, dB false)], ⟨[], []⟩⟩)] (Sys.Loop.goM (h4 ⟨fl [(0, .c (.sc (.string p0))), (3, apl ([] : List Int)), (4, dInt 0)], ⟨[], []⟩⟩ (by kernel_rfl)) (by kernel_rfl)) (by kernel_rfl)
inductive vigilref16_number_L5O where
  | r
  | e0 (v4 : Int) (v5 : Int)
def vigilref16_number_L5x : vigilref16_number_L5O → Ex
  | .r => .ret
  | .e0 _ _ => (.exit 0)
def vigilref16_number_L5s (p0 : ByteArray) : vigilref16_number_L5O → S
  | .r => ⟨fl [(2, dInt 0), (3, dB false)], ⟨[], []⟩⟩
  | .e0 v4 v5 => ⟨fl [(0, .c (.sc (.string p0))), (4, dInt v4), (5, dInt v5), (16, dB false)], ⟨[], []⟩⟩
def vigilref16_number_L5 (p0 : ByteArray) (n : Nat) : Nat → Int → Int → Option vigilref16_number_L5O
  | 0, _, _ => none
  | k + 1, v4, v5 =>
    if v5 < (p0.size : Int) then
      (byteI p0 v5).bind fun v21 =>
      if v21 < 48 then
        some (.r)
      else (byteI p0 v5).bind fun v26 =>
      if v26 > 57 then
        some (.r)
      else if InR (10 * v4) then (byteI p0 v5).bind fun v33 =>
      if InR ((10 * v4) + (Go.IntKind.i64.wrap (Go.IntKind.u8.wrap (v33 - 48)))) then if InR (v5 + 1) then vigilref16_number_L5 p0 n k ((10 * v4) + (Go.IntKind.i64.wrap (Go.IntKind.u8.wrap (v33 - 48)))) (v5 + 1)
      else none
      else none
      else none
    else some (.e0 v4 v5)
theorem vigilref16_number_L5_ok (p0 : ByteArray) (n : Nat) : ∀ (k : Nat) (v4 : Int) (v5 : Int) (o : vigilref16_number_L5O), vigilref16_number_L5 p0 n k v4 v5 = some o → ∀ s : S, restrS (X.an.rs 80 5) s = ⟨fl [(0, .c (.sc (.string p0))), (4, dInt v4), (5, dInt v5)], ⟨[], []⟩⟩ → X.Loop 80 42 [] (sub b80 [1, 1, 1, 0, 1, 0, 0]) 0 s (vigilref16_number_L5x o) (vigilref16_number_L5s p0 o) := by
  intro k
  induction k with
  | zero => intro v4 v5 o h s hs; unfold vigilref16_number_L5 at h; cases h
  | succ k ih =>
    intro v4 v5 o h s hs
    unfold vigilref16_number_L5 at h
    refine Sys.loopQ hs ?_
    by_cases h1 : v5 < (p0.size : Int)
    · replace h := iteT h1 h
      obtain ⟨v21, h3, h⟩ := bindE h
      refine Sys.to [((5, 3), .b true)] 7 (.at [1, 0, 0, 0, 0]) ⟨fl [(0, .c (.sc (.string p0))), (4, dInt v4), (5, dInt v5), (16, dB true)], ⟨[], []⟩⟩ (h1) (by kernel_rfl) ?_
      by_cases h4 : v21 < 48
      · replace h := iteT h4 h
        have hr := Option.some.inj h
        subst hr
        exact Sys.endX [((7, 2), .op { d := .c (.sc (.int .u8 v21)) }), ((7, 3), .b true)] (And.intro (byte_ix h3) (h4)) rfl (by kernel_rfl)
      · replace h := iteF h4 h
        obtain ⟨v26, h5, h⟩ := bindE h
        by_cases h6 : v26 > 57
        · replace h := iteT h6 h
          have hr := Option.some.inj h
          subst hr
          exact Sys.endX [((7, 2), .op { d := .c (.sc (.int .u8 v21)) }), ((7, 3), .b false), ((7, 7), .op { d := .c (.sc (.int .u8 v26)) }), ((7, 8), .b true)] (And.intro (byte_ix h3) (And.intro (h4) (And.intro (byte_ix h5) (h6)))) rfl (by kernel_rfl)
        · replace h := iteF h6 h
          by_cases h8 : InR (10 * v4)
          case neg => exact absurd (iteF h8 h) (by simp)
          replace h := iteT h8 h
          obtain ⟨v33, h9, h⟩ := bindE h
          by_cases h10 : InR ((10 * v4) + (Go.IntKind.i64.wrap (Go.IntKind.u8.wrap (v33 - 48))))
          case neg => exact absurd (iteF h10 h) (by simp)
          replace h := iteT h10 h
          by_cases h12 : InR (v5 + 1)
          case neg => exact absurd (iteF h12 h) (by simp)
          replace h := iteT h12 h
          refine Sys.to [((7, 2), .op { d := .c (.sc (.int .u8 v21)) }), ((7, 3), .b false), ((7, 7), .op { d := .c (.sc (.int .u8 v26)) }), ((7, 8), .b false), ((9, 1), .n), ((9, 4), .op { d := .c (.sc (.int .u8 v33)) }), ((9, 7), .n), ((6, 1), .n)] 999999 (.fin .normal) ⟨fl [(0, .c (.sc (.string p0))), (4, dInt ((10 * v4) + (Go.IntKind.i64.wrap (Go.IntKind.u8.wrap (v33 - 48))))), (5, dInt (v5 + 1))], ⟨[], []⟩⟩ (And.intro (byte_ix h3) (And.intro (h4) (And.intro (byte_ix h5) (And.intro (h6) (And.intro (h8) (And.intro (byte_ix h9) (And.intro (h10) (h12)))))))) (by kernel_rfl) ?_
          exact Sys.fin (.inl ⟨rfl, ⟨fl [(0, .c (.sc (.string p0))), (4, dInt ((10 * v4) + (Go.IntKind.i64.wrap (Go.IntKind.u8.wrap (v33 - 48))))), (5, dInt (v5 + 1))], ⟨[], []⟩⟩, (by kernel_rfl), ih ((10 * v4) + (Go.IntKind.i64.wrap (Go.IntKind.u8.wrap (v33 - 48)))) (v5 + 1) _ h _ (by kernel_rfl)⟩)
    · replace h := iteF h1 h
      have hr := Option.some.inj h
      subst hr
      exact Sys.endX [((5, 3), .b false)] (h1) rfl (by kernel_rfl)

def vigilref16_number (n : Nat) (p0 : ByteArray) : Option (Int × Bool) :=
  if p0 = (⟨#[]⟩ : ByteArray) then
    some (0, false)
  else if (p0.size : Int) > 6 then
    some (0, false)
  else (vigilref16_number_L5 p0 n n 0 0).bind fun o_2 => match o_2 with
  | .r =>
    some (0, false)
  | .e0 v4_2 v5_2 =>
    (vigilref03_Digits n v4_2).bind fun x =>
    if x = p0 then
      some (v4_2, true)
    else some (v4_2, false)
theorem vigilref16_number_ok {n : Nat} {p0 : ByteArray} {r : Int × Bool} (h : vigilref16_number n p0 = some r) : X.RunsC 80 [.c (.sc (.string p0))] (.tup [dInt r.1, dB r.2]) := by
  unfold vigilref16_number at h
  refine Sys.callC' (fn := Tryz.f80) (b := b80) (by kernel_rfl) (by kernel_rfl) ?_
  by_cases h2 : p0 = (⟨#[]⟩ : ByteArray)
  · replace h := iteT h2 h
    have hr := Option.some.inj h
    subst hr
    exact Sys.endC [((1, 1), .op { d := dB true })] (str_eql_true h2) (by kernel_rfl)
  · replace h := iteF h2 h
    by_cases h3 : (p0.size : Int) > 6
    · replace h := iteT h3 h
      have hr := Option.some.inj h
      subst hr
      exact Sys.endC [((1, 1), .op { d := dB false }), ((1, 5), .b true)] (And.intro (str_eql_false h2) (h3)) (by kernel_rfl)
    · replace h := iteF h3 h
      refine Sys.to [((1, 1), .op { d := dB false }), ((1, 5), .b false)] 100005 (.at [1, 1, 1, 0, 1, 0]) ⟨fl [(0, .c (.sc (.string p0))), (4, dInt 0), (5, dInt 0)], ⟨[], []⟩⟩ (And.intro (str_eql_false h2) (h3)) (by kernel_rfl) ?_
      obtain ⟨o_2, g7, h⟩ := bindE h
      have h7 := vigilref16_number_L5_ok p0 n n 0 0 _ g7
      cases o_2 with
      | r =>
        dsimp only at h
        have hr := Option.some.inj h
        subst hr
        exact Sys.endC [((5, 1000), .code .ret ⟨fl [(2, dInt 0), (3, dB false)], ⟨[], []⟩⟩)] (Sys.Loop.goM (h7 ⟨fl [(0, .c (.sc (.string p0))), (4, dInt 0), (5, dInt 0)], ⟨[], []⟩⟩ (by kernel_rfl)) (by kernel_rfl)) (by kernel_rfl)
      | e0 v4_2 v5_2 =>
        dsimp only at h
        obtain ⟨x, g9, h⟩ := bindE h
        have h9 := vigilref03_Digits_ok g9
        refine Sys.to [((5, 1000), .code (.exit 0) ⟨fl [(0, .c (.sc (.string p0))), (4, dInt v4_2), (5, dInt v5_2), (16, dB false)], ⟨[], []⟩⟩)] 10 (.at [1, 1, 1, 1, 0]) ⟨fl [(0, .c (.sc (.string p0))), (4, dInt v4_2), (5, dInt v5_2), (16, dB false)], ⟨[], []⟩⟩ (Sys.Loop.goM (h7 ⟨fl [(0, .c (.sc (.string p0))), (4, dInt 0), (5, dInt 0)], ⟨[], []⟩⟩ (by kernel_rfl)) (by kernel_rfl)) (by kernel_rfl) ?_
        by_cases h10 : x = p0
        · replace h := iteT h10 h
          have hr := Option.some.inj h
          subst hr
          exact Sys.endC [((10, 2), .call (.c (.sc (.string x))) ⟨[], []⟩), ((10, 4), .op { d := dB true })] (And.intro (h9) (str_eql_true h10)) (by kernel_rfl)
        · replace h := iteF h10 h
          have hr := Option.some.inj h
          subst hr
          exact Sys.endC [((10, 2), .call (.c (.sc (.string x))) ⟨[], []⟩), ((10, 4), .op { d := dB false })] (And.intro (h9) (str_eql_false h10)) (by kernel_rfl)
end Go.Proofs.YtilipgopjiokfaaGreatDoor
