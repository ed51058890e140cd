/-
  Part of the proof: printed by the session's own program out of the program's form, or typed; it states no claim by itself.
-/
import Derived.Test.YtilipgopjiokfaaGreatDoorFd
/-
  Functions of the program as Lean functions, and that the interpreter comes to the same: printed by the session's own tool.
-/
set_option linter.unusedVariables false
set_option linter.unusedSimpArgs false
set_option maxRecDepth 100000
set_option maxHeartbeats 1000000
namespace Go.Proofs.YtilipgopjiokfaaGreatDoor
open Go Go.Abs Go.Proofs
def stringslite_Cut (n : Nat) (p0 : ByteArray) : Option (ByteArray × ByteArray × Bool) :=
  if (Lib.indexByte p0.data.toList 46) ≥ 0 then
    if 0 ≤ (Lib.indexByte p0.data.toList 46) ∧ (Lib.indexByte p0.data.toList 46) ≤ (p0.size : Int) then if InR ((Lib.indexByte p0.data.toList 46) + 1) then if 0 ≤ ((Lib.indexByte p0.data.toList 46) + 1) ∧ ((Lib.indexByte p0.data.toList 46) + 1) ≤ (p0.size : Int) then some ((p0.extract 0 (Lib.indexByte p0.data.toList 46).toNat), (p0.extract ((Lib.indexByte p0.data.toList 46) + 1).toNat p0.size), true)
    else none
    else none
    else none
  else some (p0, (⟨#[]⟩ : ByteArray), false)
theorem stringslite_Cut_ok {n : Nat} {p0 : ByteArray} {r : ByteArray × ByteArray × Bool} (h : stringslite_Cut n p0 = some r) : X.RunsC 122 [.c (.sc (.string p0)), .c (.sc (.string (⟨#[46]⟩ : ByteArray)))] (.tup [.c (.sc (.string r.1)), .c (.sc (.string r.2.1)), dB r.2.2]) := by
  unfold stringslite_Cut at h
  refine Sys.callC' (fn := Tryz.f122) (b := b122) (by kernel_rfl) (by kernel_rfl) ?_
  refine Sys.to [((1, 2), .op { d := dInt (Lib.indexByte p0.data.toList 46) })] 2 (.at [1, 0, 1, 0]) ⟨fl [(0, .c (.sc (.string p0))), (1, .c (.sc (.string (⟨#[46]⟩ : ByteArray)))), (7, dInt (Lib.indexByte p0.data.toList 46))], ⟨[], []⟩⟩ (indexOneP_eq [] p0 46) (by kernel_rfl) ?_
  by_cases h3 : (Lib.indexByte p0.data.toList 46) ≥ 0
  · replace h := iteT h3 h
    by_cases h5 : 0 ≤ (Lib.indexByte p0.data.toList 46) ∧ (Lib.indexByte p0.data.toList 46) ≤ (p0.size : Int)
    case neg => exact absurd (iteF h5 h) (by simp)
    replace h := iteT h5 h
    by_cases h6 : InR ((Lib.indexByte p0.data.toList 46) + 1)
    case neg => exact absurd (iteF h6 h) (by simp)
    replace h := iteT h6 h
    by_cases h7 : 0 ≤ ((Lib.indexByte p0.data.toList 46) + 1) ∧ ((Lib.indexByte p0.data.toList 46) + 1) ≤ (p0.size : Int)
    case neg => exact absurd (iteF h7 h) (by simp)
    replace h := iteT h7 h
    have hr := Option.some.inj h
    subst hr
    exact Sys.endC [((2, 1), .b true), ((3, 2), .op { d := .c (.sc (.string (p0.extract 0 (Lib.indexByte p0.data.toList 46).toNat))) }), ((3, 7), .n), ((3, 8), .op { d := .c (.sc (.string (p0.extract ((Lib.indexByte p0.data.toList 46) + 1).toNat p0.size))) })] (And.intro (h3) (And.intro (str_slc_hi (P0 := X.P) (t0 := 9) (st0 := []) (by kernel_rfl) h5) (And.intro (h6) (str_slc_lo (P0 := X.P) (t0 := 9) (st0 := []) (by kernel_rfl) h7)))) (by kernel_rfl)
  · replace h := iteF h3 h
    have hr := Option.some.inj h
    subst hr
    exact Sys.endC [((2, 1), .b false)] (h3) (by kernel_rfl)
def strings_Cut (n : Nat) (p0 : ByteArray) : Option (ByteArray × ByteArray × Bool) :=
  (stringslite_Cut n p0).bind fun (x, x_2, x_3) =>
  some (x, x_2, x_3)
theorem strings_Cut_ok {n : Nat} {p0 : ByteArray} {r : ByteArray × ByteArray × Bool} (h : strings_Cut n p0 = some r) : X.RunsC 79 [.c (.sc (.string p0)), .c (.sc (.string (⟨#[46]⟩ : ByteArray)))] (.tup [.c (.sc (.string r.1)), .c (.sc (.string r.2.1)), dB r.2.2]) := by
  unfold strings_Cut at h
  refine Sys.callC' (fn := Tryz.f79) (b := b79) (by kernel_rfl) (by kernel_rfl) ?_
  obtain ⟨⟨x, x_2, x_3⟩, g2, h⟩ := bindE h
  dsimp only at h
  have h2 := stringslite_Cut_ok g2
  have hr := Option.some.inj h
  subst hr
  exact Sys.endC [((1, 2), .call (.tup [.c (.sc (.string x)), .c (.sc (.string x_2)), dB x_3]) ⟨[], []⟩)] (h2) (by kernel_rfl)
def script_pick (n : Nat) (p0 : ByteArray) : Option GPick :=
  if p0 = (⟨#[116]⟩ : ByteArray) then
    some ({ kind := 2, thread := 0, draw := 0 } : GPick)
  else (strings_CutPrefix n p0).bind fun (x, x_2) =>
  bif x_2 then
    (script_number n x).bind fun x_3 =>
    some ({ kind := 1, thread := x_3, draw := 0 } : GPick)
  else (strings_Cut n p0).bind fun (x_4, x_5, x_6) =>
  (script_number n x_4).bind fun x_7 =>
  bif x_6 then
    (script_number n x_5).bind fun x_8 =>
    some ({ kind := 0, thread := x_7, draw := x_8 } : GPick)
  else some ({ kind := 0, thread := x_7, draw := 0 } : GPick)
theorem script_pick_ok {n : Nat} {p0 : ByteArray} {r : GPick} (h : script_pick n p0 = some r) : X.RunsC 37 [.c (.sc (.string p0))] (.c (.agg (EncX.encX r))) := by
  unfold script_pick at h
  refine Sys.callC' (fn := Tryz.f37) (b := b37) (by kernel_rfl) (by kernel_rfl) ?_
  by_cases h2 : p0 = (⟨#[116]⟩ : ByteArray)
  · replace h := iteT h2 h
    have hr := Option.some.inj h
    subst hr
    exact Sys.endC [((1, 1), .op { d := dB true })] (str_eql_true h2) (by kernel_rfl)
  · replace h := iteF h2 h
    obtain ⟨⟨x, x_2⟩, g4, h⟩ := bindE h
    dsimp only at h
    have h4 := strings_CutPrefix_ok g4
    refine Sys.to [((1, 1), .op { d := dB false }), ((3, 1), .call (.tup [.c (.sc (.string x)), dB x_2]) ⟨[], []⟩)] 4 (.at [1, 1, 0, 1, 0]) ⟨fl [(0, .c (.sc (.string p0))), (2, .pt 0 1 0), (3, .c (.sc (.string x))), (4, dB x_2)], ⟨[⟨1, [dInt 0, dInt 0, dInt 0]⟩], []⟩⟩ (And.intro (str_eql_false h2) (h4)) (by kernel_rfl) ?_
    cases x_2 with
    | true =>
      replace h := condT h
      obtain ⟨x_3, g8, h⟩ := bindE h
      have h8 := script_number_ok g8
      have hr := Option.some.inj h
      subst hr
      exact Sys.endC [((5, 1), .call (dInt x_3) ⟨[], []⟩)] (h8) (by kernel_rfl)
    | false =>
      replace h := condF h
      obtain ⟨⟨x_4, x_5, x_6⟩, g8, h⟩ := bindE h
      dsimp only at h
      have h8 := strings_Cut_ok g8
      obtain ⟨x_7, g10, h⟩ := bindE h
      have h10 := script_number_ok g10
      refine Sys.to [((6, 1), .call (.tup [.c (.sc (.string x_4)), .c (.sc (.string x_5)), dB x_6]) ⟨[], []⟩), ((7, 1), .call (dInt x_7) ⟨[], []⟩)] 8 (.at [1, 1, 1, 1, 1, 0, 0]) ⟨fl [(2, .pt 0 1 0), (6, .c (.sc (.string x_5))), (7, dB x_6), (8, .pt 1 1 0)], ⟨[⟨1, [dInt 0, dInt 0, dInt 0]⟩, ⟨1, [dInt 0, dInt x_7, dInt 0]⟩], []⟩⟩ (And.intro (h8) (h10)) (by kernel_rfl) ?_
      cases x_6 with
      | true =>
        replace h := condT h
        obtain ⟨x_8, g14, h⟩ := bindE h
        have h14 := script_number_ok g14
        have hr := Option.some.inj h
        subst hr
        exact Sys.endC [((9, 1), .call (dInt x_8) ⟨[], []⟩)] (h14) (by kernel_rfl)
      | false =>
        replace h := condF h
        have hr := Option.some.inj h
        subst hr
        exact Sys.endC [] (True.intro) (by kernel_rfl)
inductive script_Parse_R6O where
  | r (o2_0 : List GPick) (o6_0 : Int) (o6_1 : Int) (o6_2 : Int)
  | m (o2_0 : List GPick) (o6_0 : Int) (o6_1 : Int) (o6_2 : Int)
def script_Parse_R6x : script_Parse_R6O → Ex
  | .r _ _ _ _ => .ret
  | .m _ _ _ _ => .normal
def script_Parse_R6s (t : ByteArray) : script_Parse_R6O → S
  | .r o2_0 o6_0 o6_1 o6_2 => ⟨fl [], ⟨[⟨1, [.c (.sl true true [] 0)]⟩, ⟨1, [dInt 2]⟩, ⟨1, [apl o2_0]⟩, ⟨1, [.c (.sc (.string t))]⟩, ⟨1, [.c (.sc (.string (⟨#[32]⟩ : ByteArray)))]⟩, ⟨1, [dInt 0]⟩, ⟨1, [dInt o6_0, dInt o6_1, dInt o6_2]⟩], [.normal]⟩⟩
  | .m o2_0 o6_0 o6_1 o6_2 => ⟨fl [], ⟨[⟨1, [.c (.sl true true [] 0)]⟩, ⟨1, [dInt 0]⟩, ⟨1, [apl o2_0]⟩, ⟨1, [.c (.sc (.string t))]⟩, ⟨1, [.c (.sc (.string (⟨#[32]⟩ : ByteArray)))]⟩, ⟨1, [dInt 0]⟩, ⟨1, [dInt o6_0, dInt o6_1, dInt o6_2]⟩], [.normal]⟩⟩
def script_Parse_R6 (n : Nat) (w : ByteArray) (o2_0 : List GPick) : Option script_Parse_R6O :=
  (script_pick n w).bind fun x =>
  (script_text n x).bind fun (x_2, x_3) =>
  bif x_3 then
    if x_2 = w then
      if (o2_0.length : Int) ≥ 20000 then
        some (.r o2_0 x.kind x.thread x.draw)
      else if Room 24 (o2_0 ++ ([x] : List GPick)).length then some (.m (o2_0 ++ ([x] : List GPick)) x.kind x.thread x.draw)
      else none
    else some (.r o2_0 x.kind x.thread x.draw)
  else some (.r o2_0 x.kind x.thread x.draw)
theorem script_Parse_R6_ok (n : Nat) (w : ByteArray) (o2_0 : List GPick) (o : script_Parse_R6O) (h : script_Parse_R6 n w o2_0 = some o) (t : ByteArray) : X.Go 11 38 [] (sub b11 [1, 1, 1, 0, 1, 0, 2]) ⟨setPs (fun t => unflag ((fl [(2, .pt 0 1 0), (3, .pt 1 1 0), (4, .pt 2 1 0), (12, .fn 118 [] [.pt 4 1 0, .pt 3 1 0, .pt 5 1 0])] : Nat → DV) t)) [(13, .c (.sc (.string w)))], ⟨[⟨1, [.c (.sl true true [] 0)]⟩, ⟨1, [dInt 0]⟩, ⟨1, [apl o2_0]⟩, ⟨1, [.c (.sc (.string t))]⟩, ⟨1, [.c (.sc (.string (⟨#[32]⟩ : ByteArray)))]⟩, ⟨1, [dInt 0]⟩], [.normal]⟩⟩ (script_Parse_R6x o) (script_Parse_R6s t o) := by
  unfold script_Parse_R6 at h
  refine Sys.goE ?_
  obtain ⟨x, g2, h⟩ := bindE h
  have h2 := script_pick_ok g2
  obtain ⟨⟨x_2, x_3⟩, g4, h⟩ := bindE h
  dsimp only at h
  have h4 := script_text_ok g4
  refine Sys.to [((6, 1), .call (.c (.agg (EncX.encX x))) ⟨[], []⟩), ((7, 1), .call (.tup [.c (.sc (.string x_2)), dB x_3]) ⟨[], []⟩)] 8 (.at [1, 0, 1, 0, 1, 0]) ⟨fl [(2, .pt 0 1 0), (3, .pt 1 1 0), (4, .pt 2 1 0), (5, .c (.sc (.string w))), (6, .pt 6 1 0), (7, .c (.sc (.string x_2))), (8, dB x_3)], ⟨[⟨1, [.c (.sl true true [] 0)]⟩, ⟨1, [dInt 0]⟩, ⟨1, [apl o2_0]⟩, ⟨1, [.c (.sc (.string t))]⟩, ⟨1, [.c (.sc (.string (⟨#[32]⟩ : ByteArray)))]⟩, ⟨1, [dInt 0]⟩, ⟨1, (EncX.encX x).map DV.c⟩], [.normal]⟩⟩ (And.intro (h2) (h4)) (by kernel_rfl) ?_
  cases x_3 with
  | true =>
    replace h := condT h
    by_cases h7 : x_2 = w
    · replace h := iteT h7 h
      by_cases h8 : (o2_0.length : Int) ≥ 20000
      · replace h := iteT h8 h
        have hr := Option.some.inj h
        subst hr
        exact Sys.endJ [((8, 5), .op { d := dB false }), ((8, 10), .b true)] (And.intro (str_neq_false h7) (h8)) (by kernel_rfl)
      · replace h := iteF h8 h
        by_cases h10 : Room 24 (o2_0 ++ ([x] : List GPick)).length
        case neg => exact absurd (iteF h10 h) (by simp)
        replace h := iteT h10 h
        have hr := Option.some.inj h
        subst hr
        exact Sys.endJ [((8, 5), .op { d := dB false }), ((8, 10), .b false), ((10, 3), .appF (o2_0 ++ ([x] : List GPick)).isEmpty (cells (o2_0 ++ ([x] : List GPick))) (o2_0 ++ ([x] : List GPick)).length)] (And.intro (str_neq_false h7) (And.intro (h8) (apl_lit o2_0 ([x] : List GPick) (b := 24) (by decide) h10))) (by kernel_rfl)
    · replace h := iteF h7 h
      have hr := Option.some.inj h
      subst hr
      exact Sys.endJ [((8, 5), .op { d := dB true })] (str_neq_true h7) (by kernel_rfl)
  | false =>
    replace h := condF h
    have hr := Option.some.inj h
    subst hr
    exact Sys.endJ [] (True.intro) (by kernel_rfl)
def script_Parse_R6n : script_Parse_R6O → Option ((List GPick))
  | .m o2_0 o6_0 o6_1 o6_2 => some o2_0
  | _ => none
def script_Parse_R6l (n : Nat) : Nat → ByteArray → (List GPick) → Option (script_Parse_R6O × ByteArray) := splitL 32 (fun w a => script_Parse_R6 n w a) script_Parse_R6n
theorem script_Parse_R6l_ok (n k : Nat) (s : ByteArray) (o2_0 : List GPick) (o : script_Parse_R6O) (s2 : ByteArray) (h : script_Parse_R6l n k s o2_0 = some (o, s2)) : X.Go 11 38 [] (sub b11 [1, 1, 1, 0, 1, 0]) ⟨fl [(2, .pt 0 1 0), (3, .pt 1 1 0), (4, .pt 2 1 0), (12, .fn 118 [] [.pt 4 1 0, .pt 3 1 0, .pt 5 1 0])], ⟨[⟨1, [.c (.sl true true [] 0)]⟩, ⟨1, [dInt 0]⟩, ⟨1, [apl o2_0]⟩, ⟨1, [.c (.sc (.string s))]⟩, ⟨1, [.c (.sc (.string (⟨#[32]⟩ : ByteArray)))]⟩, ⟨1, [dInt 0]⟩], []⟩⟩ (script_Parse_R6x o) ⟨fl [(2, .pt 0 1 0), (3, .pt 1 1 0), (4, .pt 2 1 0), (12, .fn 118 [] [.pt 4 1 0, .pt 3 1 0, .pt 5 1 0])], ⟨(script_Parse_R6s s2 o).m.st.take 6, [script_Parse_R6x o]⟩⟩ :=
  range_split (c := 32) (g := .tmp 12) (f := 11) (nt := 38) (fr := fl [(2, .pt 0 1 0), (3, .pt 1 1 0), (4, .pt 2 1 0), (12, .fn 118 [] [.pt 4 1 0, .pt 3 1 0, .pt 5 1 0])]) (C0 := fun a => ⟨1, [.c (.sl true true [] 0)]⟩) (C1 := fun a => ⟨1, [dInt 0]⟩) (C2 := fun a => ⟨1, [apl a]⟩) (B := fun w a => script_Parse_R6 n w a) (next := script_Parse_R6n) (Lx := script_Parse_R6x) (Ls := script_Parse_R6s) (asg := sub b11 [1, 1, 1, 0, 1, 0, 0]) (body := sub b11 [1, 1, 1, 0, 1, 0, 1])
    (by kernel_rfl) (by kernel_rfl) (by kernel_rfl) rfl (by kernel_rfl) (fun w a o h s => script_Parse_R6_ok n w a o h s) (fun s o => by cases o <;> rfl)
    (fun s o a h => by cases o <;> simp [script_Parse_R6n] at h <;> (try subst h) <;> exact ⟨rfl, rfl⟩) (fun o h => by cases o <;> simp [script_Parse_R6n] at h <;> rfl) (fun s o => by cases o <;> rfl) k s o2_0 h

def script_Parse (n : Nat) (p0 : ByteArray) : Option (Sl GPick × Int) :=
  if p0 = (⟨#[]⟩ : ByteArray) then
    some ((Sl.nil : Sl GPick), 0)
  else (strings_SplitSeq n p0).bind fun u_ =>
  (script_Parse_R6l n n p0 ([] : List GPick)).bind fun o_2 => match o_2 with
  | (.r o2_0_2 o6_0 o6_1 o6_2, t_2) =>
    some ((Sl.nil : Sl GPick), 2)
  | (.m o2_0_3 o6_0_2 o6_1_2 o6_2_2, t_2) =>
    some ((Sl.gr o2_0_3), 0)
theorem script_Parse_ok {n : Nat} {p0 : ByteArray} {r : Sl GPick × Int} (h : script_Parse n p0 = some r) : X.RunsC 11 [.c (.sc (.string p0))] (.tup [.c (eSl r.1), dInt r.2]) := by
  unfold script_Parse at h
  refine Sys.callC' (fn := Tryz.f11) (b := b11) (by kernel_rfl) (by kernel_rfl) ?_
  by_cases h3 : p0 = (⟨#[]⟩ : ByteArray)
  · replace h := iteT h3 h
    have hr := Option.some.inj h
    subst hr
    exact Sys.endC [((2, 1), .op { d := dB true })] (str_eql_true h3) (by kernel_rfl)
  · replace h := iteF h3 h
    obtain ⟨u_, g5, h⟩ := bindE h
    have h5 := strings_SplitSeq_ok g5
    refine Sys.to [((2, 1), .op { d := dB false }), ((4, 1), .callK (.fn 118 [] [.pt 1 1 0, .pt 0 1 0, .pt 2 1 0]) ⟨[⟨1, [.c (.sc (.string p0))]⟩, ⟨1, [.c (.sc (.string (⟨#[32]⟩ : ByteArray)))]⟩, ⟨1, [dInt 0]⟩], []⟩ (.fn 118 [] [.pt 4 1 0, .pt 3 1 0, .pt 5 1 0]) [⟨1, [.c (.sc (.string p0))]⟩, ⟨1, [.c (.sc (.string (⟨#[32]⟩ : ByteArray)))]⟩, ⟨1, [dInt 0]⟩])] 100006 (.at [1, 1, 1, 0, 1, 0]) ⟨fl [(2, .pt 0 1 0), (3, .pt 1 1 0), (4, .pt 2 1 0), (12, .fn 118 [] [.pt 4 1 0, .pt 3 1 0, .pt 5 1 0])], ⟨[⟨1, [.c (.sl true true [] 0)]⟩, ⟨1, [dInt 0]⟩, ⟨1, [apl ([] : List GPick)]⟩, ⟨1, [.c (.sc (.string p0))]⟩, ⟨1, [.c (.sc (.string (⟨#[32]⟩ : ByteArray)))]⟩, ⟨1, [dInt 0]⟩], []⟩⟩ (And.intro (str_eql_false h3) (And.intro h5 (And.intro (by kernel_rfl : shift 3 0 (.fn 118 [] [.pt 1 1 0, .pt 0 1 0, .pt 2 1 0]) = .fn 118 [] [.pt 4 1 0, .pt 3 1 0, .pt 5 1 0]) (shifts_cons (n := 3) (p := 0) (ver := 1) (cs := [.c (.sc (.string p0))]) (cs' := [.c (.sc (.string p0))]) ((by kernel_rfl : shiftL 3 0 [.c (.sc (.string p0))] = [.c (.sc (.string p0))])) (shifts_cons (n := 3) (p := 0) (ver := 1) (cs := [.c (.sc (.string (⟨#[32]⟩ : ByteArray)))]) (cs' := [.c (.sc (.string (⟨#[32]⟩ : ByteArray)))]) ((by kernel_rfl : shiftL 3 0 [.c (.sc (.string (⟨#[32]⟩ : ByteArray)))] = [.c (.sc (.string (⟨#[32]⟩ : ByteArray)))])) (shifts_cons (n := 3) (p := 0) (ver := 1) (cs := [dInt 0]) (cs' := [dInt 0]) ((by kernel_rfl : shiftL 3 0 [dInt 0] = [dInt 0])) (shifts_nil _ _))))))) (by kernel_rfl) ?_
    obtain ⟨⟨o_2, t_2⟩, g7, h⟩ := bindE h
    have h7 := script_Parse_R6l_ok n n p0 ([] : List GPick) _ _ g7
    cases o_2 with
    | r o2_0_2 o6_0 o6_1 o6_2 =>
      dsimp only at h
      have hr := Option.some.inj h
      subst hr
      exact Sys.endC [((6, 1000), .code .ret ⟨fl [(2, .pt 0 1 0), (3, .pt 1 1 0), (4, .pt 2 1 0), (12, .fn 118 [] [.pt 4 1 0, .pt 3 1 0, .pt 5 1 0])], ⟨[⟨1, [.c (.sl true true [] 0)]⟩, ⟨1, [dInt 2]⟩, ⟨1, [apl o2_0_2]⟩, ⟨1, [.c (.sc (.string t_2))]⟩, ⟨1, [.c (.sc (.string (⟨#[32]⟩ : ByteArray)))]⟩, ⟨1, [dInt 0]⟩], [.ret]⟩⟩)] (h7) (by kernel_rfl)
    | m o2_0_3 o6_0_2 o6_1_2 o6_2_2 =>
      dsimp only at h
      have hr := Option.some.inj h
      subst hr
      exact Sys.endC [((6, 1000), .code .normal ⟨fl [(2, .pt 0 1 0), (3, .pt 1 1 0), (4, .pt 2 1 0), (12, .fn 118 [] [.pt 4 1 0, .pt 3 1 0, .pt 5 1 0])], ⟨[⟨1, [.c (.sl true true [] 0)]⟩, ⟨1, [dInt 0]⟩, ⟨1, [apl o2_0_3]⟩, ⟨1, [.c (.sc (.string t_2))]⟩, ⟨1, [.c (.sc (.string (⟨#[32]⟩ : ByteArray)))]⟩, ⟨1, [dInt 0]⟩], [.normal]⟩⟩)] (h7) (by kernel_rfl)
inductive vigilref16_number_L5O where
  | r
  | e0 (v4 : Int) (v5 : Int)
def vigilref16_number_L5x : vigilref16_number_L5O → Ex
  | .r => .ret
  | .e0 _ _ => (.exit 0)
def vigilref16_number_L5s (p0 : ByteArray) : vigilref16_number_L5O → S
  | .r => ⟨fl [(2, dInt 0), (3, dB false)], ⟨[], []⟩⟩
  | .e0 v4 v5 => ⟨fl [(0, .c (.sc (.string p0))), (4, dInt v4), (5, dInt v5), (16, dB false)], ⟨[], []⟩⟩
def vigilref16_number_L5 (p0 : ByteArray) (n : Nat) : Nat → Int → Int → Option vigilref16_number_L5O
  | 0, _, _ => none
  | k + 1, v4, v5 =>
    if v5 < (p0.size : Int) then
      (byteI p0 v5).bind fun v21 =>
      if v21 < 48 then
        some (.r)
      else (byteI p0 v5).bind fun v26 =>
      if v26 > 57 then
        some (.r)
      else if InR (10 * v4) then (byteI p0 v5).bind fun v33 =>
      if InR ((10 * v4) + (Go.IntKind.i64.wrap (Go.IntKind.u8.wrap (v33 - 48)))) then if InR (v5 + 1) then vigilref16_number_L5 p0 n k ((10 * v4) + (Go.IntKind.i64.wrap (Go.IntKind.u8.wrap (v33 - 48)))) (v5 + 1)
      else none
      else none
      else none
    else some (.e0 v4 v5)
theorem vigilref16_number_L5_ok (p0 : ByteArray) (n : Nat) : ∀ (k : Nat) (v4 : Int) (v5 : Int) (o : vigilref16_number_L5O), vigilref16_number_L5 p0 n k v4 v5 = some o → ∀ s : S, restrS (X.an.rs 80 5) s = ⟨fl [(0, .c (.sc (.string p0))), (4, dInt v4), (5, dInt v5)], ⟨[], []⟩⟩ → X.Loop 80 42 [] (sub b80 [1, 1, 1, 0, 1, 0, 0]) 0 s (vigilref16_number_L5x o) (vigilref16_number_L5s p0 o) := by
  intro k
  induction k with
  | zero => intro v4 v5 o h s hs; unfold vigilref16_number_L5 at h; cases h
  | succ k ih =>
    intro v4 v5 o h s hs
    unfold vigilref16_number_L5 at h
    refine Sys.loopQ hs ?_
    by_cases h1 : v5 < (p0.size : Int)
    · replace h := iteT h1 h
      obtain ⟨v21, h3, h⟩ := bindE h
      refine Sys.to [((5, 3), .b true)] 7 (.at [1, 0, 0, 0, 0]) ⟨fl [(0, .c (.sc (.string p0))), (4, dInt v4), (5, dInt v5), (16, dB true)], ⟨[], []⟩⟩ (h1) (by kernel_rfl) ?_
      by_cases h4 : v21 < 48
      · replace h := iteT h4 h
        have hr := Option.some.inj h
        subst hr
        exact Sys.endX [((7, 2), .op { d := .c (.sc (.int .u8 v21)) }), ((7, 3), .b true)] (And.intro (byte_ix h3) (h4)) rfl (by kernel_rfl)
      · replace h := iteF h4 h
        obtain ⟨v26, h5, h⟩ := bindE h
        by_cases h6 : v26 > 57
        · replace h := iteT h6 h
          have hr := Option.some.inj h
          subst hr
          exact Sys.endX [((7, 2), .op { d := .c (.sc (.int .u8 v21)) }), ((7, 3), .b false), ((7, 7), .op { d := .c (.sc (.int .u8 v26)) }), ((7, 8), .b true)] (And.intro (byte_ix h3) (And.intro (h4) (And.intro (byte_ix h5) (h6)))) rfl (by kernel_rfl)
        · replace h := iteF h6 h
          by_cases h8 : InR (10 * v4)
          case neg => exact absurd (iteF h8 h) (by simp)
          replace h := iteT h8 h
          obtain ⟨v33, h9, h⟩ := bindE h
          by_cases h10 : InR ((10 * v4) + (Go.IntKind.i64.wrap (Go.IntKind.u8.wrap (v33 - 48))))
          case neg => exact absurd (iteF h10 h) (by simp)
          replace h := iteT h10 h
          by_cases h12 : InR (v5 + 1)
          case neg => exact absurd (iteF h12 h) (by simp)
          replace h := iteT h12 h
          refine Sys.to [((7, 2), .op { d := .c (.sc (.int .u8 v21)) }), ((7, 3), .b false), ((7, 7), .op { d := .c (.sc (.int .u8 v26)) }), ((7, 8), .b false), ((9, 1), .n), ((9, 4), .op { d := .c (.sc (.int .u8 v33)) }), ((9, 7), .n), ((6, 1), .n)] 999999 (.fin .normal) ⟨fl [(0, .c (.sc (.string p0))), (4, dInt ((10 * v4) + (Go.IntKind.i64.wrap (Go.IntKind.u8.wrap (v33 - 48))))), (5, dInt (v5 + 1))], ⟨[], []⟩⟩ (And.intro (byte_ix h3) (And.intro (h4) (And.intro (byte_ix h5) (And.intro (h6) (And.intro (h8) (And.intro (byte_ix h9) (And.intro (h10) (h12)))))))) (by kernel_rfl) ?_
          exact Sys.fin (.inl ⟨rfl, ⟨fl [(0, .c (.sc (.string p0))), (4, dInt ((10 * v4) + (Go.IntKind.i64.wrap (Go.IntKind.u8.wrap (v33 - 48))))), (5, dInt (v5 + 1))], ⟨[], []⟩⟩, (by kernel_rfl), ih ((10 * v4) + (Go.IntKind.i64.wrap (Go.IntKind.u8.wrap (v33 - 48)))) (v5 + 1) _ h _ (by kernel_rfl)⟩)
    · replace h := iteF h1 h
      have hr := Option.some.inj h
      subst hr
      exact Sys.endX [((5, 3), .b false)] (h1) rfl (by kernel_rfl)

def vigilref16_number (n : Nat) (p0 : ByteArray) : Option (Int × Bool) :=
  if p0 = (⟨#[]⟩ : ByteArray) then
    some (0, false)
  else if (p0.size : Int) > 6 then
    some (0, false)
  else (vigilref16_number_L5 p0 n n 0 0).bind fun o_2 => match o_2 with
  | .r =>
    some (0, false)
  | .e0 v4_2 v5_2 =>
    (vigilref03_Digits n v4_2).bind fun x =>
    if x = p0 then
      some (v4_2, true)
    else some (v4_2, false)
theorem vigilref16_number_ok {n : Nat} {p0 : ByteArray} {r : Int × Bool} (h : vigilref16_number n p0 = some r) : X.RunsC 80 [.c (.sc (.string p0))] (.tup [dInt r.1, dB r.2]) := by
  unfold vigilref16_number at h
  refine Sys.callC' (fn := Tryz.f80) (b := b80) (by kernel_rfl) (by kernel_rfl) ?_
  by_cases h2 : p0 = (⟨#[]⟩ : ByteArray)
  · replace h := iteT h2 h
    have hr := Option.some.inj h
    subst hr
    exact Sys.endC [((1, 1), .op { d := dB true })] (str_eql_true h2) (by kernel_rfl)
  · replace h := iteF h2 h
    by_cases h3 : (p0.size : Int) > 6
    · replace h := iteT h3 h
      have hr := Option.some.inj h
      subst hr
      exact Sys.endC [((1, 1), .op { d := dB false }), ((1, 5), .b true)] (And.intro (str_eql_false h2) (h3)) (by kernel_rfl)
    · replace h := iteF h3 h
      refine Sys.to [((1, 1), .op { d := dB false }), ((1, 5), .b false)] 100005 (.at [1, 1, 1, 0, 1, 0]) ⟨fl [(0, .c (.sc (.string p0))), (4, dInt 0), (5, dInt 0)], ⟨[], []⟩⟩ (And.intro (str_eql_false h2) (h3)) (by kernel_rfl) ?_
      obtain ⟨o_2, g7, h⟩ := bindE h
      have h7 := vigilref16_number_L5_ok p0 n n 0 0 _ g7
      cases o_2 with
      | r =>
        dsimp only at h
        have hr := Option.some.inj h
        subst hr
        exact Sys.endC [((5, 1000), .code .ret ⟨fl [(2, dInt 0), (3, dB false)], ⟨[], []⟩⟩)] (Sys.Loop.goM (h7 ⟨fl [(0, .c (.sc (.string p0))), (4, dInt 0), (5, dInt 0)], ⟨[], []⟩⟩ (by kernel_rfl)) (by kernel_rfl)) (by kernel_rfl)
      | e0 v4_2 v5_2 =>
        dsimp only at h
        obtain ⟨x, g9, h⟩ := bindE h
        have h9 := vigilref03_Digits_ok g9
        refine Sys.to [((5, 1000), .code (.exit 0) ⟨fl [(0, .c (.sc (.string p0))), (4, dInt v4_2), (5, dInt v5_2), (16, dB false)], ⟨[], []⟩⟩)] 10 (.at [1, 1, 1, 1, 0]) ⟨fl [(0, .c (.sc (.string p0))), (4, dInt v4_2), (5, dInt v5_2), (16, dB false)], ⟨[], []⟩⟩ (Sys.Loop.goM (h7 ⟨fl [(0, .c (.sc (.string p0))), (4, dInt 0), (5, dInt 0)], ⟨[], []⟩⟩ (by kernel_rfl)) (by kernel_rfl)) (by kernel_rfl) ?_
        by_cases h10 : x = p0
        · replace h := iteT h10 h
          have hr := Option.some.inj h
          subst hr
          exact Sys.endC [((10, 2), .call (.c (.sc (.string x))) ⟨[], []⟩), ((10, 4), .op { d := dB true })] (And.intro (h9) (str_eql_true h10)) (by kernel_rfl)
        · replace h := iteF h10 h
          have hr := Option.some.inj h
          subst hr
          exact Sys.endC [((10, 2), .call (.c (.sc (.string x))) ⟨[], []⟩), ((10, 4), .op { d := dB false })] (And.intro (h9) (str_eql_false h10)) (by kernel_rfl)
inductive vigilref16_pick_L7O where
  | r (v3 : Bool) (o0_1 : Int) (o0_2 : Int)
  | e0 (v6 : Int)
def vigilref16_pick_L7x : vigilref16_pick_L7O → Ex
  | .r _ _ _ => .ret
  | .e0 _ => (.exit 0)
def vigilref16_pick_L7s (p0 : ByteArray) : vigilref16_pick_L7O → S
  | .r v3 o0_1 o0_2 => ⟨fl [(2, .pt 0 1 0), (3, dB v3)], ⟨[⟨1, [dInt 0, dInt o0_1, dInt o0_2]⟩], []⟩⟩
  | .e0 v6 => ⟨fl [(0, .c (.sc (.string p0))), (2, .pt 0 1 0), (6, dInt v6), (36, dB false)], ⟨[⟨1, [dInt 0, dInt 0, dInt 0]⟩], []⟩⟩
def vigilref16_pick_L7 (p0 : ByteArray) (n : Nat) : Nat → Int → Option vigilref16_pick_L7O
  | 0, _ => none
  | k + 1, v6 =>
    if v6 < (p0.size : Int) then
      (byteI p0 v6).bind fun v41 =>
      if v41 = 46 then
        if 0 ≤ v6 ∧ v6 ≤ (p0.size : Int) then (vigilref16_number n (p0.extract 0 v6.toNat)).bind fun (x_3, x_4) =>
        if InR (v6 + 1) then if 0 ≤ (v6 + 1) ∧ (v6 + 1) ≤ (p0.size : Int) then (vigilref16_number n (p0.extract (v6 + 1).toNat p0.size)).bind fun (x_5, x_6) =>
        bif x_4 then
          bif x_6 then
            if x_5 > 0 then
              some (.r true x_3 x_5)
            else some (.r false x_3 x_5)
          else some (.r false x_3 x_5)
        else some (.r false x_3 x_5)
        else none
        else none
        else none
      else if InR (v6 + 1) then vigilref16_pick_L7 p0 n k (v6 + 1)
      else none
    else some (.e0 v6)
theorem vigilref16_pick_L7_ok (p0 : ByteArray) (n : Nat) : ∀ (k : Nat) (v6 : Int) (o : vigilref16_pick_L7O), vigilref16_pick_L7 p0 n k v6 = some o → ∀ s : S, restrS (X.an.rs 38 7) s = ⟨fl [(0, .c (.sc (.string p0))), (2, .pt 0 1 0), (6, dInt v6)], ⟨[⟨1, [dInt 0, dInt 0, dInt 0]⟩], []⟩⟩ → X.Loop 38 77 [] (sub b38 [1, 1, 1, 0, 1, 0, 0]) 1 s (vigilref16_pick_L7x o) (vigilref16_pick_L7s p0 o) := by
  intro k
  induction k with
  | zero => intro v6 o h s hs; unfold vigilref16_pick_L7 at h; cases h
  | succ k ih =>
    intro v6 o h s hs
    unfold vigilref16_pick_L7 at h
    refine Sys.loopQ hs ?_
    by_cases h1 : v6 < (p0.size : Int)
    · replace h := iteT h1 h
      obtain ⟨v41, h3, h⟩ := bindE h
      refine Sys.to [((7, 3), .b true)] 9 (.at [1, 0, 0, 0]) ⟨fl [(0, .c (.sc (.string p0))), (2, .pt 0 1 0), (6, dInt v6), (36, dB true)], ⟨[⟨1, [dInt 0, dInt 0, dInt 0]⟩], []⟩⟩ (h1) (by kernel_rfl) ?_
      by_cases h4 : v41 = 46
      · replace h := iteT h4 h
        by_cases h6 : 0 ≤ v6 ∧ v6 ≤ (p0.size : Int)
        case neg => exact absurd (iteF h6 h) (by simp)
        replace h := iteT h6 h
        obtain ⟨⟨x_3, x_4⟩, g7, h⟩ := bindE h
        dsimp only at h
        have h7 := vigilref16_number_ok g7
        by_cases h9 : InR (v6 + 1)
        case neg => exact absurd (iteF h9 h) (by simp)
        replace h := iteT h9 h
        by_cases h10 : 0 ≤ (v6 + 1) ∧ (v6 + 1) ≤ (p0.size : Int)
        case neg => exact absurd (iteF h10 h) (by simp)
        replace h := iteT h10 h
        obtain ⟨⟨x_5, x_6⟩, g11, h⟩ := bindE h
        dsimp only at h
        have h11 := vigilref16_number_ok g11
        refine Sys.to [((9, 2), .op { d := .c (.sc (.int .u8 v41)) }), ((9, 3), .b true), ((10, 2), .op { d := .c (.sc (.string (p0.extract 0 v6.toNat))) }), ((10, 3), .call (.tup [dInt x_3, dB x_4]) ⟨[], []⟩), ((11, 2), .n), ((11, 3), .op { d := .c (.sc (.string (p0.extract (v6 + 1).toNat p0.size))) }), ((11, 4), .call (.tup [dInt x_5, dB x_6]) ⟨[], []⟩)] 12 (.at [1, 0, 0, 1, 0, 1, 1, 0]) ⟨fl [(2, .pt 0 1 0), (7, dInt x_3), (8, dB x_4), (9, dInt x_5), (10, dB x_6)], ⟨[⟨1, [dInt 0, dInt 0, dInt 0]⟩], []⟩⟩ (And.intro (byte_ix h3) (And.intro (h4) (And.intro (str_slc_hi (P0 := X.P) (t0 := 9) (st0 := [⟨1, [dInt 0, dInt 0, dInt 0]⟩]) (by kernel_rfl) h6) (And.intro (h7) (And.intro (h9) (And.intro (str_slc_lo (P0 := X.P) (t0 := 9) (st0 := [⟨1, [dInt 0, dInt 0, dInt 0]⟩]) (by kernel_rfl) h10) (h11))))))) (by kernel_rfl) ?_
        cases x_4 with
        | true =>
          replace h := condT h
          cases x_6 with
          | true =>
            replace h := condT h
            by_cases h15 : x_5 > 0
            · replace h := iteT h15 h
              have hr := Option.some.inj h
              subst hr
              exact Sys.endX [((12, 9), .b true)] (h15) rfl (by kernel_rfl)
            · replace h := iteF h15 h
              have hr := Option.some.inj h
              subst hr
              exact Sys.endX [((12, 9), .b false)] (h15) rfl (by kernel_rfl)
          | false =>
            replace h := condF h
            have hr := Option.some.inj h
            subst hr
            exact Sys.endX [] (True.intro) rfl (by kernel_rfl)
        | false =>
          replace h := condF h
          have hr := Option.some.inj h
          subst hr
          exact Sys.endX [] (True.intro) rfl (by kernel_rfl)
      · replace h := iteF h4 h
        by_cases h6 : InR (v6 + 1)
        case neg => exact absurd (iteF h6 h) (by simp)
        replace h := iteT h6 h
        refine Sys.to [((9, 2), .op { d := .c (.sc (.int .u8 v41)) }), ((9, 3), .b false), ((8, 1), .n)] 999999 (.fin .normal) ⟨fl [(0, .c (.sc (.string p0))), (2, .pt 0 1 0), (6, dInt (v6 + 1))], ⟨[⟨1, [dInt 0, dInt 0, dInt 0]⟩], []⟩⟩ (And.intro (byte_ix h3) (And.intro (h4) (h6))) (by kernel_rfl) ?_
        exact Sys.fin (.inl ⟨rfl, ⟨fl [(0, .c (.sc (.string p0))), (2, .pt 0 1 0), (6, dInt (v6 + 1))], ⟨[⟨1, [dInt 0, dInt 0, dInt 0]⟩], []⟩⟩, (by kernel_rfl), ih (v6 + 1) _ h _ (by kernel_rfl)⟩)
    · replace h := iteF h1 h
      have hr := Option.some.inj h
      subst hr
      exact Sys.endX [((7, 3), .b false)] (h1) rfl (by kernel_rfl)

inductive vigilref16_pick_L7_2O where
  | r (v3 : Bool) (o0_1 : Int) (o0_2 : Int)
  | e0 (v6 : Int)
def vigilref16_pick_L7_2x : vigilref16_pick_L7_2O → Ex
  | .r _ _ _ => .ret
  | .e0 _ => (.exit 0)
def vigilref16_pick_L7_2s (p0 : ByteArray) : vigilref16_pick_L7_2O → S
  | .r v3 o0_1 o0_2 => ⟨fl [(2, .pt 0 1 0), (3, dB v3)], ⟨[⟨1, [dInt 0, dInt o0_1, dInt o0_2]⟩], []⟩⟩
  | .e0 v6 => ⟨fl [(0, .c (.sc (.string p0))), (2, .pt 0 1 0), (6, dInt v6), (36, dB false)], ⟨[⟨1, [dInt 0, dInt 0, dInt 0]⟩], []⟩⟩
def vigilref16_pick_L7_2 (p0 : ByteArray) (n : Nat) : Nat → Int → Option vigilref16_pick_L7_2O
  | 0, _ => none
  | k + 1, v6_7 =>
    if v6_7 < (p0.size : Int) then
      (byteI p0 v6_7).bind fun v41_2 =>
      if v41_2 = 46 then
        if 0 ≤ v6_7 ∧ v6_7 ≤ (p0.size : Int) then (vigilref16_number n (p0.extract 0 v6_7.toNat)).bind fun (x_9, x_10) =>
        if InR (v6_7 + 1) then if 0 ≤ (v6_7 + 1) ∧ (v6_7 + 1) ≤ (p0.size : Int) then (vigilref16_number n (p0.extract (v6_7 + 1).toNat p0.size)).bind fun (x_11, x_12) =>
        bif x_10 then
          bif x_12 then
            if x_11 > 0 then
              some (.r true x_9 x_11)
            else some (.r false x_9 x_11)
          else some (.r false x_9 x_11)
        else some (.r false x_9 x_11)
        else none
        else none
        else none
      else if InR (v6_7 + 1) then vigilref16_pick_L7_2 p0 n k (v6_7 + 1)
      else none
    else some (.e0 v6_7)
theorem vigilref16_pick_L7_2_ok (p0 : ByteArray) (n : Nat) : ∀ (k : Nat) (v6_7 : Int) (o : vigilref16_pick_L7_2O), vigilref16_pick_L7_2 p0 n k v6_7 = some o → ∀ s : S, restrS (X.an.rs 38 7) s = ⟨fl [(0, .c (.sc (.string p0))), (2, .pt 0 1 0), (6, dInt v6_7)], ⟨[⟨1, [dInt 0, dInt 0, dInt 0]⟩], []⟩⟩ → X.Loop 38 77 [] (sub b38 [1, 1, 1, 0, 1, 0, 0]) 1 s (vigilref16_pick_L7_2x o) (vigilref16_pick_L7_2s p0 o) := by
  intro k
  induction k with
  | zero => intro v6_7 o h s hs; unfold vigilref16_pick_L7_2 at h; cases h
  | succ k ih =>
    intro v6_7 o h s hs
    unfold vigilref16_pick_L7_2 at h
    refine Sys.loopQ hs ?_
    by_cases h1 : v6_7 < (p0.size : Int)
    · replace h := iteT h1 h
      obtain ⟨v41_2, h3, h⟩ := bindE h
      refine Sys.to [((7, 3), .b true)] 9 (.at [1, 0, 0, 0]) ⟨fl [(0, .c (.sc (.string p0))), (2, .pt 0 1 0), (6, dInt v6_7), (36, dB true)], ⟨[⟨1, [dInt 0, dInt 0, dInt 0]⟩], []⟩⟩ (h1) (by kernel_rfl) ?_
      by_cases h4 : v41_2 = 46
      · replace h := iteT h4 h
        by_cases h6 : 0 ≤ v6_7 ∧ v6_7 ≤ (p0.size : Int)
        case neg => exact absurd (iteF h6 h) (by simp)
        replace h := iteT h6 h
        obtain ⟨⟨x_9, x_10⟩, g7, h⟩ := bindE h
        dsimp only at h
        have h7 := vigilref16_number_ok g7
        by_cases h9 : InR (v6_7 + 1)
        case neg => exact absurd (iteF h9 h) (by simp)
        replace h := iteT h9 h
        by_cases h10 : 0 ≤ (v6_7 + 1) ∧ (v6_7 + 1) ≤ (p0.size : Int)
        case neg => exact absurd (iteF h10 h) (by simp)
        replace h := iteT h10 h
        obtain ⟨⟨x_11, x_12⟩, g11, h⟩ := bindE h
        dsimp only at h
        have h11 := vigilref16_number_ok g11
        refine Sys.to [((9, 2), .op { d := .c (.sc (.int .u8 v41_2)) }), ((9, 3), .b true), ((10, 2), .op { d := .c (.sc (.string (p0.extract 0 v6_7.toNat))) }), ((10, 3), .call (.tup [dInt x_9, dB x_10]) ⟨[], []⟩), ((11, 2), .n), ((11, 3), .op { d := .c (.sc (.string (p0.extract (v6_7 + 1).toNat p0.size))) }), ((11, 4), .call (.tup [dInt x_11, dB x_12]) ⟨[], []⟩)] 12 (.at [1, 0, 0, 1, 0, 1, 1, 0]) ⟨fl [(2, .pt 0 1 0), (7, dInt x_9), (8, dB x_10), (9, dInt x_11), (10, dB x_12)], ⟨[⟨1, [dInt 0, dInt 0, dInt 0]⟩], []⟩⟩ (And.intro (byte_ix h3) (And.intro (h4) (And.intro (str_slc_hi (P0 := X.P) (t0 := 9) (st0 := [⟨1, [dInt 0, dInt 0, dInt 0]⟩]) (by kernel_rfl) h6) (And.intro (h7) (And.intro (h9) (And.intro (str_slc_lo (P0 := X.P) (t0 := 9) (st0 := [⟨1, [dInt 0, dInt 0, dInt 0]⟩]) (by kernel_rfl) h10) (h11))))))) (by kernel_rfl) ?_
        cases x_10 with
        | true =>
          replace h := condT h
          cases x_12 with
          | true =>
            replace h := condT h
            by_cases h15 : x_11 > 0
            · replace h := iteT h15 h
              have hr := Option.some.inj h
              subst hr
              exact Sys.endX [((12, 9), .b true)] (h15) rfl (by kernel_rfl)
            · replace h := iteF h15 h
              have hr := Option.some.inj h
              subst hr
              exact Sys.endX [((12, 9), .b false)] (h15) rfl (by kernel_rfl)
          | false =>
            replace h := condF h
            have hr := Option.some.inj h
            subst hr
            exact Sys.endX [] (True.intro) rfl (by kernel_rfl)
        | false =>
          replace h := condF h
          have hr := Option.some.inj h
          subst hr
          exact Sys.endX [] (True.intro) rfl (by kernel_rfl)
      · replace h := iteF h4 h
        by_cases h6 : InR (v6_7 + 1)
        case neg => exact absurd (iteF h6 h) (by simp)
        replace h := iteT h6 h
        refine Sys.to [((9, 2), .op { d := .c (.sc (.int .u8 v41_2)) }), ((9, 3), .b false), ((8, 1), .n)] 999999 (.fin .normal) ⟨fl [(0, .c (.sc (.string p0))), (2, .pt 0 1 0), (6, dInt (v6_7 + 1))], ⟨[⟨1, [dInt 0, dInt 0, dInt 0]⟩], []⟩⟩ (And.intro (byte_ix h3) (And.intro (h4) (h6))) (by kernel_rfl) ?_
        exact Sys.fin (.inl ⟨rfl, ⟨fl [(0, .c (.sc (.string p0))), (2, .pt 0 1 0), (6, dInt (v6_7 + 1))], ⟨[⟨1, [dInt 0, dInt 0, dInt 0]⟩], []⟩⟩, (by kernel_rfl), ih (v6_7 + 1) _ h _ (by kernel_rfl)⟩)
    · replace h := iteF h1 h
      have hr := Option.some.inj h
      subst hr
      exact Sys.endX [((7, 3), .b false)] (h1) rfl (by kernel_rfl)

def vigilref16_pick (n : Nat) (p0 : ByteArray) : Option (GPick × Bool) :=
  if p0 = (⟨#[116]⟩ : ByteArray) then
    some (({ kind := 2, thread := 0, draw := 0 } : GPick), true)
  else if (p0.size : Int) > 0 then
    (byteI p0 0).bind fun v21 =>
    if v21 = 115 then
      if 0 ≤ (1 : Int) ∧ (1 : Int) ≤ (p0.size : Int) then (vigilref16_number n (p0.extract (1 : Int).toNat p0.size)).bind fun (x, x_2) =>
      some (({ kind := 1, thread := x, draw := 0 } : GPick), x_2)
      else none
    else (vigilref16_pick_L7 p0 n n 0).bind fun o_2 => match o_2 with
    | .r v3 o0_1 o0_2 =>
      some (({ kind := 0, thread := o0_1, draw := o0_2 } : GPick), v3)
    | .e0 v6_2 =>
      (vigilref16_number n p0).bind fun (x_7, x_8) =>
      some (({ kind := 0, thread := x_7, draw := 0 } : GPick), x_8)
  else (vigilref16_pick_L7_2 p0 n n 0).bind fun o_3 => match o_3 with
  | .r v3_2 o0_1_2 o0_2_2 =>
    some (({ kind := 0, thread := o0_1_2, draw := o0_2_2 } : GPick), v3_2)
  | .e0 v6_3 =>
    (vigilref16_number n p0).bind fun (x_13, x_14) =>
    some (({ kind := 0, thread := x_13, draw := 0 } : GPick), x_14)
theorem vigilref16_pick_ok {n : Nat} {p0 : ByteArray} {r : GPick × Bool} (h : vigilref16_pick n p0 = some r) : X.RunsC 38 [.c (.sc (.string p0))] (.tup [.c (.agg (EncX.encX r.1)), dB r.2]) := by
  unfold vigilref16_pick at h
  refine Sys.callC' (fn := Tryz.f38) (b := b38) (by kernel_rfl) (by kernel_rfl) ?_
  by_cases h2 : p0 = (⟨#[116]⟩ : ByteArray)
  · replace h := iteT h2 h
    have hr := Option.some.inj h
    subst hr
    exact Sys.endC [((1, 1), .op { d := dB true })] (str_eql_true h2) (by kernel_rfl)
  · replace h := iteF h2 h
    refine Sys.to [((1, 1), .op { d := dB false })] 3 (.at [1, 1, 0, 0]) ⟨fl [(0, .c (.sc (.string p0))), (2, .pt 0 1 0), (14, dB false)], ⟨[⟨1, [dInt 0, dInt 0, dInt 0]⟩], []⟩⟩ (str_eql_false h2) (by kernel_rfl) ?_
    by_cases h4 : (p0.size : Int) > 0
    · replace h := iteT h4 h
      obtain ⟨v21, h5, h⟩ := bindE h
      by_cases h6 : v21 = 115
      · replace h := iteT h6 h
        by_cases h8 : 0 ≤ (1 : Int) ∧ (1 : Int) ≤ (p0.size : Int)
        case neg => exact absurd (iteF h8 h) (by simp)
        replace h := iteT h8 h
        obtain ⟨⟨x, x_2⟩, g9, h⟩ := bindE h
        dsimp only at h
        have h9 := vigilref16_number_ok g9
        have hr := Option.some.inj h
        subst hr
        exact Sys.endC [((3, 2), .b true), ((3, 5), .op { d := .c (.sc (.int .u8 v21)) }), ((3, 6), .b true), ((4, 1), .op { d := .c (.sc (.string (p0.extract (1 : Int).toNat p0.size))) }), ((4, 2), .call (.tup [dInt x, dB x_2]) ⟨[], []⟩)] (And.intro (h4) (And.intro (byte_ix h5) (And.intro (h6) (And.intro (str_slc_lo (P0 := X.P) (t0 := 9) (st0 := [⟨1, [dInt 0, dInt 0, dInt 0]⟩]) (by kernel_rfl) h8) (h9))))) (by kernel_rfl)
      · replace h := iteF h6 h
        refine Sys.to [((3, 2), .b true), ((3, 5), .op { d := .c (.sc (.int .u8 v21)) }), ((3, 6), .b false)] 100007 (.at [1, 1, 1, 0, 1, 0]) ⟨fl [(0, .c (.sc (.string p0))), (2, .pt 0 1 0), (6, dInt 0)], ⟨[⟨1, [dInt 0, dInt 0, dInt 0]⟩], []⟩⟩ (And.intro (h4) (And.intro (byte_ix h5) (h6))) (by kernel_rfl) ?_
        obtain ⟨o_2, g9, h⟩ := bindE h
        have h9 := vigilref16_pick_L7_ok p0 n n 0 _ g9
        cases o_2 with
        | r v3 o0_1 o0_2 =>
          dsimp only at h
          have hr := Option.some.inj h
          subst hr
          exact Sys.endC [((7, 1000), .code .ret ⟨fl [(2, .pt 0 1 0), (3, dB v3)], ⟨[⟨1, [dInt 0, dInt o0_1, dInt o0_2]⟩], []⟩⟩)] (Sys.Loop.goM (h9 ⟨fl [(0, .c (.sc (.string p0))), (2, .pt 0 1 0), (6, dInt 0)], ⟨[⟨1, [dInt 0, dInt 0, dInt 0]⟩], []⟩⟩ (by kernel_rfl)) (by kernel_rfl)) (by kernel_rfl)
        | e0 v6_2 =>
          dsimp only at h
          obtain ⟨⟨x_7, x_8⟩, g11, h⟩ := bindE h
          dsimp only at h
          have h11 := vigilref16_number_ok g11
          have hr := Option.some.inj h
          subst hr
          exact Sys.endC [((7, 1000), .code (.exit 0) ⟨fl [(0, .c (.sc (.string p0))), (2, .pt 0 1 0), (6, dInt v6_2), (36, dB false)], ⟨[⟨1, [dInt 0, dInt 0, dInt 0]⟩], []⟩⟩), ((13, 1), .call (.tup [dInt x_7, dB x_8]) ⟨[], []⟩)] (And.intro (Sys.Loop.goM (h9 ⟨fl [(0, .c (.sc (.string p0))), (2, .pt 0 1 0), (6, dInt 0)], ⟨[⟨1, [dInt 0, dInt 0, dInt 0]⟩], []⟩⟩ (by kernel_rfl)) (by kernel_rfl)) (h11)) (by kernel_rfl)
    · replace h := iteF h4 h
      refine Sys.to [((3, 2), .b false)] 100007 (.at [1, 1, 1, 0, 1, 0]) ⟨fl [(0, .c (.sc (.string p0))), (2, .pt 0 1 0), (6, dInt 0)], ⟨[⟨1, [dInt 0, dInt 0, dInt 0]⟩], []⟩⟩ (h4) (by kernel_rfl) ?_
      obtain ⟨o_3, g7, h⟩ := bindE h
      have h7 := vigilref16_pick_L7_2_ok p0 n n 0 _ g7
      cases o_3 with
      | r v3_2 o0_1_2 o0_2_2 =>
        dsimp only at h
        have hr := Option.some.inj h
        subst hr
        exact Sys.endC [((7, 1000), .code .ret ⟨fl [(2, .pt 0 1 0), (3, dB v3_2)], ⟨[⟨1, [dInt 0, dInt o0_1_2, dInt o0_2_2]⟩], []⟩⟩)] (Sys.Loop.goM (h7 ⟨fl [(0, .c (.sc (.string p0))), (2, .pt 0 1 0), (6, dInt 0)], ⟨[⟨1, [dInt 0, dInt 0, dInt 0]⟩], []⟩⟩ (by kernel_rfl)) (by kernel_rfl)) (by kernel_rfl)
      | e0 v6_3 =>
        dsimp only at h
        obtain ⟨⟨x_13, x_14⟩, g9, h⟩ := bindE h
        dsimp only at h
        have h9 := vigilref16_number_ok g9
        have hr := Option.some.inj h
        subst hr
        exact Sys.endC [((7, 1000), .code (.exit 0) ⟨fl [(0, .c (.sc (.string p0))), (2, .pt 0 1 0), (6, dInt v6_3), (36, dB false)], ⟨[⟨1, [dInt 0, dInt 0, dInt 0]⟩], []⟩⟩), ((13, 1), .call (.tup [dInt x_13, dB x_14]) ⟨[], []⟩)] (And.intro (Sys.Loop.goM (h7 ⟨fl [(0, .c (.sc (.string p0))), (2, .pt 0 1 0), (6, dInt 0)], ⟨[⟨1, [dInt 0, dInt 0, dInt 0]⟩], []⟩⟩ (by kernel_rfl)) (by kernel_rfl)) (h9)) (by kernel_rfl)
inductive vigilref16_Parse_L4O where
  | e0 (v4 : List GPick) (v5 : Int) (v6 : Int)
  | r (o0_0 : Int) (o0_1 : Int) (o0_2 : Int)
def vigilref16_Parse_L4x : vigilref16_Parse_L4O → Ex
  | .e0 _ _ _ => (.exit 0)
  | .r _ _ _ => .ret
def vigilref16_Parse_L4s (p0 : ByteArray) : vigilref16_Parse_L4O → S
  | .e0 v4 v5 v6 => ⟨fl [(0, .c (.sc (.string p0))), (4, apl v4), (5, dInt v5), (6, dInt v6), (16, dB false)], ⟨[], []⟩⟩
  | .r o0_0 o0_1 o0_2 => ⟨fl [(2, .c (.sl true true [] 0)), (3, dInt 2)], ⟨[⟨1, [dInt o0_0, dInt o0_1, dInt o0_2]⟩], []⟩⟩
def vigilref16_Parse_L4 (p0 : ByteArray) (n : Nat) : Nat → List GPick → Int → Int → Option vigilref16_Parse_L4O
  | 0, _, _, _ => none
  | k + 1, v4, v5, v6 =>
    if v6 ≤ (p0.size : Int) then
      if p0 = (⟨#[]⟩ : ByteArray) then
        some (.e0 v4 v5 v6)
      else if v6 < (p0.size : Int) then
        (byteI p0 v6).bind fun v26 =>
        if v26 ≠ 32 then
          if InR (v6 + 1) then vigilref16_Parse_L4 p0 n k v4 v5 (v6 + 1)
          else none
        else if 0 ≤ v5 ∧ v5 ≤ v6 ∧ v6 ≤ (p0.size : Int) then (vigilref16_pick n (p0.extract v5.toNat v6.toNat)).bind fun (x, x_2) =>
        bif x_2 then
          if (v4.length : Int) ≥ 20000 then
            some (.r x.kind x.thread x.draw)
          else if Room 24 (v4 ++ ([x] : List GPick)).length then if InR (v6 + 1) then vigilref16_Parse_L4 p0 n k (v4 ++ ([x] : List GPick)) (v6 + 1) (v6 + 1)
          else none
          else none
        else some (.r x.kind x.thread x.draw)
        else none
      else if 0 ≤ v5 ∧ v5 ≤ v6 ∧ v6 ≤ (p0.size : Int) then (vigilref16_pick n (p0.extract v5.toNat v6.toNat)).bind fun (x_3, x_4) =>
      bif x_4 then
        if (v4.length : Int) ≥ 20000 then
          some (.r x_3.kind x_3.thread x_3.draw)
        else if Room 24 (v4 ++ ([x_3] : List GPick)).length then if InR (v6 + 1) then vigilref16_Parse_L4 p0 n k (v4 ++ ([x_3] : List GPick)) (v6 + 1) (v6 + 1)
        else none
        else none
      else some (.r x_3.kind x_3.thread x_3.draw)
      else none
    else some (.e0 v4 v5 v6)
theorem vigilref16_Parse_L4_ok (p0 : ByteArray) (n : Nat) : ∀ (k : Nat) (v4 : List GPick) (v5 : Int) (v6 : Int) (o : vigilref16_Parse_L4O), vigilref16_Parse_L4 p0 n k v4 v5 v6 = some o → ∀ s : S, restrS (X.an.rs 12 4) s = ⟨fl [(0, .c (.sc (.string p0))), (4, apl v4), (5, dInt v5), (6, dInt v6)], ⟨[], []⟩⟩ → X.Loop 12 51 [] (sub b12 [1, 1, 1, 0, 1, 0, 0]) 0 s (vigilref16_Parse_L4x o) (vigilref16_Parse_L4s p0 o) := by
  intro k
  induction k with
  | zero => intro v4 v5 v6 o h s hs; unfold vigilref16_Parse_L4 at h; cases h
  | succ k ih =>
    intro v4 v5 v6 o h s hs
    unfold vigilref16_Parse_L4 at h
    refine Sys.loopQ hs ?_
    by_cases h1 : v6 ≤ (p0.size : Int)
    · replace h := iteT h1 h
      by_cases h2 : p0 = (⟨#[]⟩ : ByteArray)
      · replace h := iteT h2 h
        have hr := Option.some.inj h
        subst hr
        exact Sys.endX [((4, 3), .b true), ((4, 6), .op { d := dB false })] (And.intro (h1) (str_neq_false h2)) rfl (by kernel_rfl)
      · replace h := iteF h2 h
        refine Sys.to [((4, 3), .b true), ((4, 6), .op { d := dB true })] 6 (.at [1, 0, 0, 0, 0]) ⟨fl [(0, .c (.sc (.string p0))), (4, apl v4), (5, dInt v5), (6, dInt v6), (16, dB true)], ⟨[], []⟩⟩ (And.intro (h1) (str_neq_true h2)) (by kernel_rfl) ?_
        by_cases h4 : v6 < (p0.size : Int)
        · replace h := iteT h4 h
          obtain ⟨v26, h5, h⟩ := bindE h
          by_cases h6 : v26 ≠ 32
          · replace h := iteT h6 h
            by_cases h8 : InR (v6 + 1)
            case neg => exact absurd (iteF h8 h) (by simp)
            replace h := iteT h8 h
            refine Sys.to [((6, 3), .b true), ((6, 7), .op { d := .c (.sc (.int .u8 v26)) }), ((6, 8), .b true), ((5, 1), .n)] 999999 (.fin .normal) ⟨fl [(0, .c (.sc (.string p0))), (4, apl v4), (5, dInt v5), (6, dInt (v6 + 1))], ⟨[], []⟩⟩ (And.intro (h4) (And.intro (byte_ix h5) (And.intro (h6) (h8)))) (by kernel_rfl) ?_
            exact Sys.fin (.inl ⟨rfl, ⟨fl [(0, .c (.sc (.string p0))), (4, apl v4), (5, dInt v5), (6, dInt (v6 + 1))], ⟨[], []⟩⟩, (cut_ok (l := [0, 4, 5, 6]) rfl (AllB.nil 0) rfl), ih v4 v5 (v6 + 1) _ h _ (by kernel_rfl)⟩)
          · replace h := iteF h6 h
            by_cases h8 : 0 ≤ v5 ∧ v5 ≤ v6 ∧ v6 ≤ (p0.size : Int)
            case neg => exact absurd (iteF h8 h) (by simp)
            replace h := iteT h8 h
            obtain ⟨⟨x, x_2⟩, g9, h⟩ := bindE h
            dsimp only at h
            have h9 := vigilref16_pick_ok g9
            refine Sys.to [((6, 3), .b true), ((6, 7), .op { d := .c (.sc (.int .u8 v26)) }), ((6, 8), .b false), ((7, 3), .op { d := .c (.sc (.string (p0.extract v5.toNat v6.toNat))) }), ((7, 4), .call (.tup [.c (.agg (EncX.encX x)), dB x_2]) ⟨[], []⟩)] 8 (.at [1, 0, 0, 1, 1, 0, 0]) ⟨fl [(0, .c (.sc (.string p0))), (4, apl v4), (6, dInt v6), (7, .pt 0 1 0), (8, dB x_2)], ⟨[⟨1, (EncX.encX x).map DV.c⟩], []⟩⟩ (And.intro (h4) (And.intro (byte_ix h5) (And.intro (h6) (And.intro (str_slc (P0 := X.P) (t0 := 9) (st0 := [⟨0, []⟩]) (by kernel_rfl) h8) (h9))))) (by kernel_rfl) ?_
            cases x_2 with
            | true =>
              replace h := condT h
              by_cases h12 : (v4.length : Int) ≥ 20000
              · replace h := iteT h12 h
                have hr := Option.some.inj h
                subst hr
                exact Sys.endX [((8, 5), .b true)] (h12) rfl (by kernel_rfl)
              · replace h := iteF h12 h
                by_cases h14 : Room 24 (v4 ++ ([x] : List GPick)).length
                case neg => exact absurd (iteF h14 h) (by simp)
                replace h := iteT h14 h
                by_cases h16 : InR (v6 + 1)
                case neg => exact absurd (iteF h16 h) (by simp)
                replace h := iteT h16 h
                refine Sys.to [((8, 5), .b false), ((10, 3), .appF (v4 ++ ([x] : List GPick)).isEmpty (cells (v4 ++ ([x] : List GPick))) (v4 ++ ([x] : List GPick)).length), ((11, 1), .n), ((5, 1), .n)] 999999 (.fin .normal) ⟨fl [(0, .c (.sc (.string p0))), (4, apl (v4 ++ ([x] : List GPick))), (5, dInt (v6 + 1)), (6, dInt (v6 + 1))], ⟨[⟨1, (EncX.encX x).map DV.c⟩], []⟩⟩ (And.intro (h12) (And.intro (apl_lit v4 ([x] : List GPick) (b := 24) (by decide) h14) (And.intro (h16) (h16)))) (by kernel_rfl) ?_
                exact Sys.fin (.inl ⟨rfl, ⟨fl [(0, .c (.sc (.string p0))), (4, apl (v4 ++ ([x] : List GPick))), (5, dInt (v6 + 1)), (6, dInt (v6 + 1))], ⟨[], []⟩⟩, (cut_ok (l := [0, 4, 5, 6]) rfl (AllB.nil 0) rfl), ih (v4 ++ ([x] : List GPick)) (v6 + 1) (v6 + 1) _ h _ (by kernel_rfl)⟩)
            | false =>
              replace h := condF h
              have hr := Option.some.inj h
              subst hr
              exact Sys.endX [] (True.intro) rfl (by kernel_rfl)
        · replace h := iteF h4 h
          by_cases h6 : 0 ≤ v5 ∧ v5 ≤ v6 ∧ v6 ≤ (p0.size : Int)
          case neg => exact absurd (iteF h6 h) (by simp)
          replace h := iteT h6 h
          obtain ⟨⟨x_3, x_4⟩, g7, h⟩ := bindE h
          dsimp only at h
          have h7 := vigilref16_pick_ok g7
          refine Sys.to [((6, 3), .b false), ((7, 3), .op { d := .c (.sc (.string (p0.extract v5.toNat v6.toNat))) }), ((7, 4), .call (.tup [.c (.agg (EncX.encX x_3)), dB x_4]) ⟨[], []⟩)] 8 (.at [1, 0, 0, 1, 1, 0, 0]) ⟨fl [(0, .c (.sc (.string p0))), (4, apl v4), (6, dInt v6), (7, .pt 0 1 0), (8, dB x_4)], ⟨[⟨1, (EncX.encX x_3).map DV.c⟩], []⟩⟩ (And.intro (h4) (And.intro (str_slc (P0 := X.P) (t0 := 9) (st0 := [⟨0, []⟩]) (by kernel_rfl) h6) (h7))) (by kernel_rfl) ?_
          cases x_4 with
          | true =>
            replace h := condT h
            by_cases h10 : (v4.length : Int) ≥ 20000
            · replace h := iteT h10 h
              have hr := Option.some.inj h
              subst hr
              exact Sys.endX [((8, 5), .b true)] (h10) rfl (by kernel_rfl)
            · replace h := iteF h10 h
              by_cases h12 : Room 24 (v4 ++ ([x_3] : List GPick)).length
              case neg => exact absurd (iteF h12 h) (by simp)
              replace h := iteT h12 h
              by_cases h14 : InR (v6 + 1)
              case neg => exact absurd (iteF h14 h) (by simp)
              replace h := iteT h14 h
              refine Sys.to [((8, 5), .b false), ((10, 3), .appF (v4 ++ ([x_3] : List GPick)).isEmpty (cells (v4 ++ ([x_3] : List GPick))) (v4 ++ ([x_3] : List GPick)).length), ((11, 1), .n), ((5, 1), .n)] 999999 (.fin .normal) ⟨fl [(0, .c (.sc (.string p0))), (4, apl (v4 ++ ([x_3] : List GPick))), (5, dInt (v6 + 1)), (6, dInt (v6 + 1))], ⟨[⟨1, (EncX.encX x_3).map DV.c⟩], []⟩⟩ (And.intro (h10) (And.intro (apl_lit v4 ([x_3] : List GPick) (b := 24) (by decide) h12) (And.intro (h14) (h14)))) (by kernel_rfl) ?_
              exact Sys.fin (.inl ⟨rfl, ⟨fl [(0, .c (.sc (.string p0))), (4, apl (v4 ++ ([x_3] : List GPick))), (5, dInt (v6 + 1)), (6, dInt (v6 + 1))], ⟨[], []⟩⟩, (cut_ok (l := [0, 4, 5, 6]) rfl (AllB.nil 0) rfl), ih (v4 ++ ([x_3] : List GPick)) (v6 + 1) (v6 + 1) _ h _ (by kernel_rfl)⟩)
          | false =>
            replace h := condF h
            have hr := Option.some.inj h
            subst hr
            exact Sys.endX [] (True.intro) rfl (by kernel_rfl)
    · replace h := iteF h1 h
      have hr := Option.some.inj h
      subst hr
      exact Sys.endX [((4, 3), .b false)] (h1) rfl (by kernel_rfl)

def vigilref16_Parse (n : Nat) (p0 : ByteArray) : Option (Sl GPick × Int) :=
  (vigilref16_Parse_L4 p0 n n ([] : List GPick) 0 0).bind fun o_2 => match o_2 with
  | .e0 v4_2 v5_2 v6_2 =>
    some ((Sl.gr v4_2), 0)
  | .r o0_0 o0_1 o0_2 =>
    some ((Sl.nil : Sl GPick), 2)
theorem vigilref16_Parse_ok {n : Nat} {p0 : ByteArray} {r : Sl GPick × Int} (h : vigilref16_Parse n p0 = some r) : X.RunsC 12 [.c (.sc (.string p0))] (.tup [.c (eSl r.1), dInt r.2]) := by
  unfold vigilref16_Parse at h
  refine Sys.callC' (fn := Tryz.f12) (b := b12) (by kernel_rfl) (by kernel_rfl) ?_
  obtain ⟨o_2, g5, h⟩ := bindE h
  have h5 := vigilref16_Parse_L4_ok p0 n n ([] : List GPick) 0 0 _ g5
  cases o_2 with
  | e0 v4_2 v5_2 v6_2 =>
    dsimp only at h
    have hr := Option.some.inj h
    subst hr
    exact Sys.endC [((4, 1000), .code (.exit 0) ⟨fl [(0, .c (.sc (.string p0))), (4, apl v4_2), (5, dInt v5_2), (6, dInt v6_2), (16, dB false)], ⟨[], []⟩⟩)] (Sys.Loop.goM (h5 ⟨fl [(0, .c (.sc (.string p0))), (4, apl ([] : List GPick)), (5, dInt 0), (6, dInt 0)], ⟨[], []⟩⟩ (by kernel_rfl)) (by kernel_rfl)) (by kernel_rfl)
  | r o0_0 o0_1 o0_2 =>
    dsimp only at h
    have hr := Option.some.inj h
    subst hr
    exact Sys.endC [((4, 1000), .code .ret ⟨fl [(2, .c (.sl true true [] 0)), (3, dInt 2)], ⟨[⟨1, [dInt o0_0, dInt o0_1, dInt o0_2]⟩], []⟩⟩)] (Sys.Loop.goM (h5 ⟨fl [(0, .c (.sc (.string p0))), (4, apl ([] : List GPick)), (5, dInt 0), (6, dInt 0)], ⟨[], []⟩⟩ (by kernel_rfl)) (by kernel_rfl)) (by kernel_rfl)
def vigillaw16_num (n : Nat) (p0 : Int) : Option Int :=
  some p0
theorem vigillaw16_num_ok {n : Nat} {p0 : Int} {r : Int} (h : vigillaw16_num n p0 = some r) : X.RunsC 13 [dInt p0] (dInt r) := by
  unfold vigillaw16_num at h
  refine Sys.callC' (fn := Tryz.f13) (b := b13) (by kernel_rfl) (by kernel_rfl) ?_
  have hr := Option.some.inj h
  subst hr
  exact Sys.endC [] (True.intro) (by kernel_rfl)
inductive vigilref15_SamePicks_L4O where
  | r
  | e0 (v5 : Int)
def vigilref15_SamePicks_L4x : vigilref15_SamePicks_L4O → Ex
  | .r => .ret
  | .e0 _ => (.exit 0)
def vigilref15_SamePicks_L4s (p0 : Sl GPick) (p1 : Sl GPick) : vigilref15_SamePicks_L4O → S
  | .r => ⟨fl [(4, dB false)], ⟨[], []⟩⟩
  | .e0 v5 => ⟨fl [(0, .c (eSl p0)), (1, .c (eSl p1)), (5, dInt v5), (14, dB false)], ⟨[], []⟩⟩
def vigilref15_SamePicks_L4 (p0 : Sl GPick) (p1 : Sl GPick) (n : Nat) : Nat → Int → Option vigilref15_SamePicks_L4O
  | 0, _ => none
  | k + 1, v5 =>
    if v5 < (p0.l.length : Int) then
      (atI p0.l v5).bind fun v19 =>
      (atI p1.l v5).bind fun v23 =>
      if v19 = v23 then
        if InR (v5 + 1) then vigilref15_SamePicks_L4 p0 p1 n k (v5 + 1)
        else none
      else some (.r)
    else some (.e0 v5)
theorem vigilref15_SamePicks_L4_ok (p0 : Sl GPick) (p1 : Sl GPick) (n : Nat) : ∀ (k : Nat) (v5 : Int) (o : vigilref15_SamePicks_L4O), vigilref15_SamePicks_L4 p0 p1 n k v5 = some o → ∀ s : S, restrS (X.an.rs 14 4) s = ⟨fl [(0, .c (eSl p0)), (1, .c (eSl p1)), (5, dInt v5)], ⟨[], []⟩⟩ → X.Loop 14 26 [] (sub b14 [1, 1, 0, 1, 0, 0]) 0 s (vigilref15_SamePicks_L4x o) (vigilref15_SamePicks_L4s p0 p1 o) := by
  intro k
  induction k with
  | zero => intro v5 o h s hs; unfold vigilref15_SamePicks_L4 at h; cases h
  | succ k ih =>
    intro v5 o h s hs
    unfold vigilref15_SamePicks_L4 at h
    refine Sys.loopQ hs ?_
    by_cases h1 : v5 < (p0.l.length : Int)
    · replace h := iteT h1 h
      obtain ⟨v19, h3, h⟩ := bindE h
      obtain ⟨v23, h4, h⟩ := bindE h
      refine Sys.to [((4, 3), .b true)] 6 (.at [1, 0, 0, 0]) ⟨fl [(0, .c (eSl p0)), (1, .c (eSl p1)), (5, dInt v5), (14, dB true)], ⟨[], []⟩⟩ (h1) (by kernel_rfl) ?_
      by_cases h5 : v19 = v23
      · replace h := iteT h5 h
        by_cases h7 : InR (v5 + 1)
        case neg => exact absurd (iteF h7 h) (by simp)
        replace h := iteT h7 h
        refine Sys.to [((6, 2), .ix), ((6, 3), .agg (EncX.encX v19)), ((6, 6), .ix), ((6, 7), .agg (EncX.encX v23)), ((6, 8), .op { d := dB false }), ((5, 1), .n)] 999999 (.fin .normal) ⟨fl [(0, .c (eSl p0)), (1, .c (eSl p1)), (5, dInt (v5 + 1))], ⟨[], []⟩⟩ (And.intro (atI_b h3) (And.intro (span_at 0 3 (by decide) (atI_g h3)) (And.intro (atI_b h4) (And.intro (span_at 0 3 (by decide) (atI_g h4)) (And.intro (rec_neq_false (GPick_eq v19 v23) h5) (h7)))))) (by kernel_rfl) ?_
        exact Sys.fin (.inl ⟨rfl, ⟨fl [(0, .c (eSl p0)), (1, .c (eSl p1)), (5, dInt (v5 + 1))], ⟨[], []⟩⟩, (by kernel_rfl), ih (v5 + 1) _ h _ (by kernel_rfl)⟩)
      · replace h := iteF h5 h
        have hr := Option.some.inj h
        subst hr
        exact Sys.endX [((6, 2), .ix), ((6, 3), .agg (EncX.encX v19)), ((6, 6), .ix), ((6, 7), .agg (EncX.encX v23)), ((6, 8), .op { d := dB true })] (And.intro (atI_b h3) (And.intro (span_at 0 3 (by decide) (atI_g h3)) (And.intro (atI_b h4) (And.intro (span_at 0 3 (by decide) (atI_g h4)) (rec_neq_true (GPick_eq v19 v23) h5))))) rfl (by kernel_rfl)
    · replace h := iteF h1 h
      have hr := Option.some.inj h
      subst hr
      exact Sys.endX [((4, 3), .b false)] (h1) rfl (by kernel_rfl)

def vigilref15_SamePicks (n : Nat) (p0 : Sl GPick) (p1 : Sl GPick) : Option Bool :=
  if (p0.l.length : Int) ≠ (p1.l.length : Int) then
    some false
  else (vigilref15_SamePicks_L4 p0 p1 n n 0).bind fun o_2 => match o_2 with
  | .r =>
    some false
  | .e0 v5_2 =>
    some true
theorem vigilref15_SamePicks_ok {n : Nat} {p0 : Sl GPick} {p1 : Sl GPick} {r : Bool} (h : vigilref15_SamePicks n p0 p1 = some r) : X.RunsC 14 [.c (eSl p0), .c (eSl p1)] (dB r) := by
  unfold vigilref15_SamePicks at h
  refine Sys.callC' (fn := Tryz.f14) (b := b14) (by kernel_rfl) (by kernel_rfl) ?_
  by_cases h2 : (p0.l.length : Int) ≠ (p1.l.length : Int)
  · replace h := iteT h2 h
    have hr := Option.some.inj h
    subst hr
    exact Sys.endC [((1, 4), .b true)] (h2) (by kernel_rfl)
  · replace h := iteF h2 h
    refine Sys.to [((1, 4), .b false)] 100004 (.at [1, 1, 0, 1, 0]) ⟨fl [(0, .c (eSl p0)), (1, .c (eSl p1)), (5, dInt 0)], ⟨[], []⟩⟩ (h2) (by kernel_rfl) ?_
    obtain ⟨o_2, g5, h⟩ := bindE h
    have h5 := vigilref15_SamePicks_L4_ok p0 p1 n n 0 _ g5
    cases o_2 with
    | r =>
      dsimp only at h
      have hr := Option.some.inj h
      subst hr
      exact Sys.endC [((4, 1000), .code .ret ⟨fl [(4, dB false)], ⟨[], []⟩⟩)] (Sys.Loop.goM (h5 ⟨fl [(0, .c (eSl p0)), (1, .c (eSl p1)), (5, dInt 0)], ⟨[], []⟩⟩ (by kernel_rfl)) (by kernel_rfl)) (by kernel_rfl)
    | e0 v5_2 =>
      dsimp only at h
      have hr := Option.some.inj h
      subst hr
      exact Sys.endC [((4, 1000), .code (.exit 0) ⟨fl [(0, .c (eSl p0)), (1, .c (eSl p1)), (5, dInt v5_2), (14, dB false)], ⟨[], []⟩⟩)] (Sys.Loop.goM (h5 ⟨fl [(0, .c (eSl p0)), (1, .c (eSl p1)), (5, dInt 0)], ⟨[], []⟩⟩ (by kernel_rfl)) (by kernel_rfl)) (by kernel_rfl)
end Go.Proofs.YtilipgopjiokfaaGreatDoor

/-
  Functions of the program as Lean functions, and that the interpreter comes to the same: printed by the session's own tool.
-/
set_option linter.unusedVariables false
set_option linter.unusedSimpArgs false
set_option maxRecDepth 100000
set_option maxHeartbeats 1000000
namespace Go.Proofs.YtilipgopjiokfaaGreatDoor
open Go Go.Abs Go.Proofs
def vigillaw16_ScriptTexts (n : Nat) (p0 : Sl GPick) (p1 : ByteArray) : Option Bool :=
  if (p0.l.length : Int) > 200 then
    some true
  else if (p1.size : Int) > 2000 then
    some true
  else if Room 24 (([] : List GPick) ++ p0.l).length then (script_Put n (⟨false, false, (([] : List GPick) ++ p0.l)⟩ : Sl GPick)).bind fun (x, x_2) =>
  (vigilref16_Put n p0).bind fun (x_3, x_4) =>
  (script_Parse n p1).bind fun (x_5, x_6) =>
  (vigilref16_Parse n p1).bind fun (x_7, x_8) =>
  if x = x_3 then
    (vigillaw16_num n x_2).bind fun x_9 =>
    if x_9 = x_4 then
      (vigilref15_SamePicks n x_5 x_7).bind fun x_10 =>
      bif x_10 then
        (vigillaw16_num n x_6).bind fun x_11 =>
        if x_11 = x_8 then
          some true
        else some false
      else some false
    else some false
  else some false
  else none
theorem vigillaw16_ScriptTexts_ok {n : Nat} {p0 : Sl GPick} {p1 : ByteArray} {r : Bool} (h : vigillaw16_ScriptTexts n p0 p1 = some r) : X.RunsC 3 [.c (eSl p0), .c (.sc (.string p1))] (dB r) := by
  unfold vigillaw16_ScriptTexts at h
  refine Sys.callC' (fn := Tryz.f3) (b := b3) (by kernel_rfl) (by kernel_rfl) ?_
  by_cases h2 : (p0.l.length : Int) > 200
  · replace h := iteT h2 h
    have hr := Option.some.inj h
    subst hr
    exact Sys.endC [((1, 2), .b true), ((2, 0), .call (dB true) ⟨[], []⟩)] (And.intro (h2) (vigillaw16_live_ok)) (by kernel_rfl)
  · replace h := iteF h2 h
    by_cases h3 : (p1.size : Int) > 2000
    · replace h := iteT h3 h
      have hr := Option.some.inj h
      subst hr
      exact Sys.endC [((1, 2), .b false), ((1, 6), .b true), ((2, 0), .call (dB true) ⟨[], []⟩)] (And.intro (h2) (And.intro (h3) (vigillaw16_live_ok))) (by kernel_rfl)
    · replace h := iteF h3 h
      by_cases h5 : Room 24 (([] : List GPick) ++ p0.l).length
      case neg => exact absurd (iteF h5 h) (by simp)
      replace h := iteT h5 h
      obtain ⟨⟨x, x_2⟩, g6, h⟩ := bindE h
      dsimp only at h
      have h6 := script_Put_ok g6
      obtain ⟨⟨x_3, x_4⟩, g8, h⟩ := bindE h
      dsimp only at h
      have h8 := vigilref16_Put_ok g8
      obtain ⟨⟨x_5, x_6⟩, g10, h⟩ := bindE h
      dsimp only at h
      have h10 := script_Parse_ok g10
      obtain ⟨⟨x_7, x_8⟩, g12, h⟩ := bindE h
      dsimp only at h
      have h12 := vigilref16_Parse_ok g12
      refine Sys.to [((1, 2), .b false), ((1, 6), .b false), ((3, 2), .appF false (cells (([] : List GPick) ++ p0.l)) (([] : List GPick) ++ p0.l).length), ((3, 3), .call (.tup [.c (.sc (.string x)), dInt x_2]) ⟨[], []⟩), ((4, 1), .call (.tup [.c (.sc (.string x_3)), dInt x_4]) ⟨[], []⟩), ((5, 1), .call (.tup [.c (eSl x_5), dInt x_6]) ⟨[], []⟩), ((6, 1), .call (.tup [.c (eSl x_7), dInt x_8]) ⟨[], []⟩)] 7 (.at [1, 1, 1, 1, 1, 1, 0]) ⟨fl [(5, .c (.sc (.string x))), (6, dInt x_2), (7, .c (.sc (.string x_3))), (8, dInt x_4), (9, .c (eSl x_5)), (10, dInt x_6), (11, .c (eSl x_7)), (12, dInt x_8)], ⟨[], []⟩⟩ (And.intro (h2) (And.intro (h3) (And.intro (apf_sl ([] : List GPick) p0.l (b := 24) (by decide) h5) (And.intro (h6) (And.intro (h8) (And.intro (h10) (h12))))))) (by kernel_rfl) ?_
      by_cases h14 : x = x_3
      · replace h := iteT h14 h
        obtain ⟨x_9, g15, h⟩ := bindE h
        have h15 := vigillaw16_num_ok g15
        by_cases h16 : x_9 = x_4
        · replace h := iteT h16 h
          obtain ⟨x_10, g17, h⟩ := bindE h
          have h17 := vigilref15_SamePicks_ok g17
          cases x_10 with
          | true =>
            replace h := condT h
            obtain ⟨x_11, g19, h⟩ := bindE h
            have h19 := vigillaw16_num_ok g19
            by_cases h20 : x_11 = x_8
            · replace h := iteT h20 h
              have hr := Option.some.inj h
              subst hr
              exact Sys.endC [((7, 2), .op { d := dB true }), ((7, 5), .call (dInt x_9) ⟨[], []⟩), ((7, 7), .b true), ((7, 12), .call (dB true) ⟨[], []⟩), ((7, 16), .call (dInt x_11) ⟨[], []⟩), ((7, 18), .b true), ((7, 21), .call (dB true) ⟨[], []⟩)] (And.intro (str_eql_true h14) (And.intro (h15) (And.intro (h16) (And.intro (h17) (And.intro (h19) (And.intro (h20) (vigillaw16_live_ok))))))) (by kernel_rfl)
            · replace h := iteF h20 h
              have hr := Option.some.inj h
              subst hr
              exact Sys.endC [((7, 2), .op { d := dB true }), ((7, 5), .call (dInt x_9) ⟨[], []⟩), ((7, 7), .b true), ((7, 12), .call (dB true) ⟨[], []⟩), ((7, 16), .call (dInt x_11) ⟨[], []⟩), ((7, 18), .b false)] (And.intro (str_eql_true h14) (And.intro (h15) (And.intro (h16) (And.intro (h17) (And.intro (h19) (h20)))))) (by kernel_rfl)
          | false =>
            replace h := condF h
            have hr := Option.some.inj h
            subst hr
            exact Sys.endC [((7, 2), .op { d := dB true }), ((7, 5), .call (dInt x_9) ⟨[], []⟩), ((7, 7), .b true), ((7, 12), .call (dB false) ⟨[], []⟩)] (And.intro (str_eql_true h14) (And.intro (h15) (And.intro (h16) (h17)))) (by kernel_rfl)
        · replace h := iteF h16 h
          have hr := Option.some.inj h
          subst hr
          exact Sys.endC [((7, 2), .op { d := dB true }), ((7, 5), .call (dInt x_9) ⟨[], []⟩), ((7, 7), .b false)] (And.intro (str_eql_true h14) (And.intro (h15) (h16))) (by kernel_rfl)
      · replace h := iteF h14 h
        have hr := Option.some.inj h
        subst hr
        exact Sys.endC [((7, 2), .op { d := dB false })] (str_eql_false h14) (by kernel_rfl)
inductive vigillaw16_ScriptBack_J4O where
  | r
  | m
  | m_2
def vigillaw16_ScriptBack_J4x : vigillaw16_ScriptBack_J4O → Ex
  | .r => .ret
  | .m => .normal
  | .m_2 => .normal
def vigillaw16_ScriptBack_J4s (p0 : Sl GPick) (p1 : ByteArray) (x : ByteArray) (x_2 : Int) : vigillaw16_ScriptBack_J4O → S
  | .r => ⟨fl [(4, dB false)], ⟨[], []⟩⟩
  | .m => ⟨fl [(1, .c (.sc (.string p1))), (43, dB false)], ⟨[], []⟩⟩
  | .m_2 => ⟨fl [(0, .c (eSl p0)), (1, .c (.sc (.string p1))), (5, .c (.sc (.string x))), (29, dB false)], ⟨[], []⟩⟩
def vigillaw16_ScriptBack_J4 (p0 : Sl GPick) (p1 : ByteArray) (x : ByteArray) (x_2 : Int) (n : Nat) : Option vigillaw16_ScriptBack_J4O :=
  (vigillaw16_num n x_2).bind fun x_3 =>
  if x_3 = 0 then
    (script_Parse n x).bind fun (x_4, x_5) =>
    (vigillaw16_num n x_5).bind fun x_6 =>
    if x_6 ≠ 0 then
      some (.r)
    else (vigilref15_SamePicks n p0 x_4).bind fun x_7 =>
    bif x_7 then
      some (.m)
    else some (.r)
  else some (.m_2)
theorem vigillaw16_ScriptBack_J4_ok (p0 : Sl GPick) (p1 : ByteArray) (x : ByteArray) (x_2 : Int) (n : Nat) (o : vigillaw16_ScriptBack_J4O) (h : vigillaw16_ScriptBack_J4 p0 p1 x x_2 n = some o) : X.Go 4 74 [] (sub b4 [1, 1, 1, 0]) ⟨fl [(0, .c (eSl p0)), (1, .c (.sc (.string p1))), (5, .c (.sc (.string x))), (6, dInt x_2)], ⟨[], []⟩⟩ (vigillaw16_ScriptBack_J4x o) (vigillaw16_ScriptBack_J4s p0 p1 x x_2 o) := by
  unfold vigillaw16_ScriptBack_J4 at h
  refine Sys.goE ?_
  obtain ⟨x_3, g1, h⟩ := bindE h
  have h1 := vigillaw16_num_ok g1
  by_cases h2 : x_3 = 0
  · replace h := iteT h2 h
    obtain ⟨⟨x_4, x_5⟩, g4, h⟩ := bindE h
    dsimp only at h
    have h4 := script_Parse_ok g4
    obtain ⟨x_6, g6, h⟩ := bindE h
    have h6 := vigillaw16_num_ok g6
    refine Sys.to [((4, 1), .call (dInt x_3) ⟨[], []⟩), ((4, 2), .b true), ((5, 1), .call (.tup [.c (eSl x_4), dInt x_5]) ⟨[], []⟩)] 6 (.at [1, 0, 1, 0]) ⟨fl [(0, .c (eSl p0)), (1, .c (.sc (.string p1))), (7, .c (eSl x_4)), (8, dInt x_5)], ⟨[], []⟩⟩ (And.intro (h1) (And.intro (h2) (h4))) (by kernel_rfl) ?_
    by_cases h7 : x_6 ≠ 0
    · replace h := iteT h7 h
      have hr := Option.some.inj h
      subst hr
      exact Sys.endJ [((6, 1), .call (dInt x_6) ⟨[], []⟩), ((6, 2), .b true)] (And.intro (h6) (h7)) (by kernel_rfl)
    · replace h := iteF h7 h
      obtain ⟨x_7, g8, h⟩ := bindE h
      have h8 := vigilref15_SamePicks_ok g8
      cases x_7 with
      | true =>
        replace h := condT h
        have hr := Option.some.inj h
        subst hr
        exact Sys.endJ [((6, 1), .call (dInt x_6) ⟨[], []⟩), ((6, 2), .b false), ((6, 6), .call (dB true) ⟨[], []⟩)] (And.intro (h6) (And.intro (h7) (h8))) (by kernel_rfl)
      | false =>
        replace h := condF h
        have hr := Option.some.inj h
        subst hr
        exact Sys.endJ [((6, 1), .call (dInt x_6) ⟨[], []⟩), ((6, 2), .b false), ((6, 6), .call (dB false) ⟨[], []⟩)] (And.intro (h6) (And.intro (h7) (h8))) (by kernel_rfl)
  · replace h := iteF h2 h
    have hr := Option.some.inj h
    subst hr
    exact Sys.endJ [((4, 1), .call (dInt x_3) ⟨[], []⟩), ((4, 2), .b false)] (And.intro (h1) (h2)) (by kernel_rfl)

def vigillaw16_ScriptBack (n : Nat) (p0 : Sl GPick) (p1 : ByteArray) : Option Bool :=
  if (p0.l.length : Int) > 200 then
    some true
  else if (p1.size : Int) > 2000 then
    some true
  else (script_Put n p0).bind fun (x, x_2) =>
  (vigillaw16_ScriptBack_J4 p0 p1 x x_2 n).bind fun o_2 => match o_2 with
  | .r =>
    some false
  | .m =>
    (script_Parse n p1).bind fun (x_8, x_9) =>
    (vigillaw16_num n x_9).bind fun x_10 =>
    if x_10 ≠ 0 then
      if (x_8.l.length : Int) = 0 then
        some true
      else some false
    else (script_Put n x_8).bind fun (x_11, x_12) =>
    (vigillaw16_num n x_12).bind fun x_13 =>
    if x_13 = 0 then
      if x_11 = p1 then
        some true
      else some false
    else some false
  | .m_2 =>
    (script_Parse n p1).bind fun (x_14, x_15) =>
    (vigillaw16_num n x_15).bind fun x_16 =>
    if x_16 ≠ 0 then
      if (x_14.l.length : Int) = 0 then
        some true
      else some false
    else (script_Put n x_14).bind fun (x_17, x_18) =>
    (vigillaw16_num n x_18).bind fun x_19 =>
    if x_19 = 0 then
      if x_17 = p1 then
        some true
      else some false
    else some false
theorem vigillaw16_ScriptBack_ok {n : Nat} {p0 : Sl GPick} {p1 : ByteArray} {r : Bool} (h : vigillaw16_ScriptBack n p0 p1 = some r) : X.RunsC 4 [.c (eSl p0), .c (.sc (.string p1))] (dB r) := by
  unfold vigillaw16_ScriptBack at h
  refine Sys.callC' (fn := Tryz.f4) (b := b4) (by kernel_rfl) (by kernel_rfl) ?_
  by_cases h2 : (p0.l.length : Int) > 200
  · replace h := iteT h2 h
    have hr := Option.some.inj h
    subst hr
    exact Sys.endC [((1, 2), .b true), ((2, 0), .call (dB true) ⟨[], []⟩)] (And.intro (h2) (vigillaw16_live_ok)) (by kernel_rfl)
  · replace h := iteF h2 h
    by_cases h3 : (p1.size : Int) > 2000
    · replace h := iteT h3 h
      have hr := Option.some.inj h
      subst hr
      exact Sys.endC [((1, 2), .b false), ((1, 6), .b true), ((2, 0), .call (dB true) ⟨[], []⟩)] (And.intro (h2) (And.intro (h3) (vigillaw16_live_ok))) (by kernel_rfl)
    · replace h := iteF h3 h
      obtain ⟨⟨x, x_2⟩, g5, h⟩ := bindE h
      dsimp only at h
      have h5 := script_Put_ok g5
      refine Sys.to [((1, 2), .b false), ((1, 6), .b false), ((3, 1), .call (.tup [.c (.sc (.string x)), dInt x_2]) ⟨[], []⟩)] 204001 (.at [1, 1, 1, 0]) ⟨fl [(0, .c (eSl p0)), (1, .c (.sc (.string p1))), (5, .c (.sc (.string x))), (6, dInt x_2)], ⟨[], []⟩⟩ (And.intro (h2) (And.intro (h3) (h5))) (by kernel_rfl) ?_
      obtain ⟨o_2, g7, h⟩ := bindE h
      have h7 := vigillaw16_ScriptBack_J4_ok p0 p1 x x_2 n _ g7
      cases o_2 with
      | r =>
        dsimp only at h
        refine Sys.over h7 ?_
        have hr := Option.some.inj h
        subst hr
        exact Sys.endC [] (True.intro) (by kernel_rfl)
      | m =>
        dsimp only at h
        refine Sys.over h7 ?_
        obtain ⟨⟨x_8, x_9⟩, g9, h⟩ := bindE h
        dsimp only at h
        have h9 := script_Parse_ok g9
        obtain ⟨x_10, g11, h⟩ := bindE h
        have h11 := vigillaw16_num_ok g11
        refine Sys.to [((8, 1), .call (.tup [.c (eSl x_8), dInt x_9]) ⟨[], []⟩)] 9 (.at [1, 1, 1, 1, 1, 0, 0]) ⟨fl [(1, .c (.sc (.string p1))), (9, .c (eSl x_8)), (10, dInt x_9)], ⟨[], []⟩⟩ (h9) (by kernel_rfl) ?_
        by_cases h12 : x_10 ≠ 0
        · replace h := iteT h12 h
          refine Sys.to [((9, 1), .call (dInt x_10) ⟨[], []⟩), ((9, 2), .b true)] 10 (.at [1, 1, 1, 1, 1, 0, 1, 0, 0]) ⟨fl [(1, .c (.sc (.string p1))), (9, .c (eSl x_8)), (51, dB true)], ⟨[], []⟩⟩ (And.intro (h11) (h12)) (by kernel_rfl) ?_
          by_cases h14 : (x_8.l.length : Int) = 0
          · replace h := iteT h14 h
            have hr := Option.some.inj h
            subst hr
            exact Sys.endC [((10, 2), .b true), ((10, 4), .call (dB true) ⟨[], []⟩)] (And.intro (h14) (vigillaw16_live_ok)) (by kernel_rfl)
          · replace h := iteF h14 h
            have hr := Option.some.inj h
            subst hr
            exact Sys.endC [((10, 2), .b false)] (h14) (by kernel_rfl)
        · replace h := iteF h12 h
          obtain ⟨⟨x_11, x_12⟩, g14, h⟩ := bindE h
          dsimp only at h
          have h14 := script_Put_ok g14
          obtain ⟨x_13, g16, h⟩ := bindE h
          have h16 := vigillaw16_num_ok g16
          refine Sys.to [((9, 1), .call (dInt x_10) ⟨[], []⟩), ((9, 2), .b false), ((11, 1), .call (.tup [.c (.sc (.string x_11)), dInt x_12]) ⟨[], []⟩)] 12 (.at [1, 1, 1, 1, 1, 1, 1, 0]) ⟨fl [(1, .c (.sc (.string p1))), (11, .c (.sc (.string x_11))), (12, dInt x_12)], ⟨[], []⟩⟩ (And.intro (h11) (And.intro (h12) (h14))) (by kernel_rfl) ?_
          by_cases h17 : x_13 = 0
          · replace h := iteT h17 h
            by_cases h18 : x_11 = p1
            · replace h := iteT h18 h
              have hr := Option.some.inj h
              subst hr
              exact Sys.endC [((12, 1), .call (dInt x_13) ⟨[], []⟩), ((12, 2), .b true), ((12, 6), .op { d := dB true }), ((12, 9), .call (dB true) ⟨[], []⟩)] (And.intro (h16) (And.intro (h17) (And.intro (str_eql_true h18) (vigillaw16_live_ok)))) (by kernel_rfl)
            · replace h := iteF h18 h
              have hr := Option.some.inj h
              subst hr
              exact Sys.endC [((12, 1), .call (dInt x_13) ⟨[], []⟩), ((12, 2), .b true), ((12, 6), .op { d := dB false })] (And.intro (h16) (And.intro (h17) (str_eql_false h18))) (by kernel_rfl)
          · replace h := iteF h17 h
            have hr := Option.some.inj h
            subst hr
            exact Sys.endC [((12, 1), .call (dInt x_13) ⟨[], []⟩), ((12, 2), .b false)] (And.intro (h16) (h17)) (by kernel_rfl)
      | m_2 =>
        dsimp only at h
        refine Sys.over h7 ?_
        obtain ⟨⟨x_14, x_15⟩, g9, h⟩ := bindE h
        dsimp only at h
        have h9 := script_Parse_ok g9
        obtain ⟨x_16, g11, h⟩ := bindE h
        have h11 := vigillaw16_num_ok g11
        refine Sys.to [((8, 1), .call (.tup [.c (eSl x_14), dInt x_15]) ⟨[], []⟩)] 9 (.at [1, 1, 1, 1, 1, 0, 0]) ⟨fl [(1, .c (.sc (.string p1))), (9, .c (eSl x_14)), (10, dInt x_15)], ⟨[], []⟩⟩ (h9) (by kernel_rfl) ?_
        by_cases h12 : x_16 ≠ 0
        · replace h := iteT h12 h
          refine Sys.to [((9, 1), .call (dInt x_16) ⟨[], []⟩), ((9, 2), .b true)] 10 (.at [1, 1, 1, 1, 1, 0, 1, 0, 0]) ⟨fl [(1, .c (.sc (.string p1))), (9, .c (eSl x_14)), (51, dB true)], ⟨[], []⟩⟩ (And.intro (h11) (h12)) (by kernel_rfl) ?_
          by_cases h14 : (x_14.l.length : Int) = 0
          · replace h := iteT h14 h
            have hr := Option.some.inj h
            subst hr
            exact Sys.endC [((10, 2), .b true), ((10, 4), .call (dB true) ⟨[], []⟩)] (And.intro (h14) (vigillaw16_live_ok)) (by kernel_rfl)
          · replace h := iteF h14 h
            have hr := Option.some.inj h
            subst hr
            exact Sys.endC [((10, 2), .b false)] (h14) (by kernel_rfl)
        · replace h := iteF h12 h
          obtain ⟨⟨x_17, x_18⟩, g14, h⟩ := bindE h
          dsimp only at h
          have h14 := script_Put_ok g14
          obtain ⟨x_19, g16, h⟩ := bindE h
          have h16 := vigillaw16_num_ok g16
          refine Sys.to [((9, 1), .call (dInt x_16) ⟨[], []⟩), ((9, 2), .b false), ((11, 1), .call (.tup [.c (.sc (.string x_17)), dInt x_18]) ⟨[], []⟩)] 12 (.at [1, 1, 1, 1, 1, 1, 1, 0]) ⟨fl [(1, .c (.sc (.string p1))), (11, .c (.sc (.string x_17))), (12, dInt x_18)], ⟨[], []⟩⟩ (And.intro (h11) (And.intro (h12) (h14))) (by kernel_rfl) ?_
          by_cases h17 : x_19 = 0
          · replace h := iteT h17 h
            by_cases h18 : x_17 = p1
            · replace h := iteT h18 h
              have hr := Option.some.inj h
              subst hr
              exact Sys.endC [((12, 1), .call (dInt x_19) ⟨[], []⟩), ((12, 2), .b true), ((12, 6), .op { d := dB true }), ((12, 9), .call (dB true) ⟨[], []⟩)] (And.intro (h16) (And.intro (h17) (And.intro (str_eql_true h18) (vigillaw16_live_ok)))) (by kernel_rfl)
            · replace h := iteF h18 h
              have hr := Option.some.inj h
              subst hr
              exact Sys.endC [((12, 1), .call (dInt x_19) ⟨[], []⟩), ((12, 2), .b true), ((12, 6), .op { d := dB false })] (And.intro (h16) (And.intro (h17) (str_eql_false h18))) (by kernel_rfl)
          · replace h := iteF h17 h
            have hr := Option.some.inj h
            subst hr
            exact Sys.endC [((12, 1), .call (dInt x_19) ⟨[], []⟩), ((12, 2), .b false)] (And.intro (h16) (h17)) (by kernel_rfl)
end Go.Proofs.YtilipgopjiokfaaGreatDoor
