/-
  What the program's functions on texts of picks compute: whole texts; the two laws.
-/
import Derived.Test.YtilipgopjiokfaaGreatDoorPb
set_option linter.unusedVariables false
set_option linter.unusedSimpArgs false
set_option maxRecDepth 10000
namespace Go.Proofs.YtilipgopjiokfaaGreatDoor
open Go Go.Abs Go.Proofs

/-! ### the document's words -/
def pkDot (a b : List UInt8) : Option GPick := (num a).bind fun x => (num b).bind fun d => if d > 0 then some ⟨0, x, d⟩ else none
theorem pick_loop (n : Nat) (hn : 30 ≤ n) : ∀ (rest done : List UInt8) (k : Nat), done.length + rest.length ≤ 1000000 → (∀ c ∈ done, c ≠ 46) → rest.length < k →
    match cut46 (done ++ rest) with
    | some (a, b) => ∃ v x d, vigilref16_pick_L7 (bl (done ++ rest)) n k (done.length : Int) = some (.r v x d) ∧ (v = true → pkDot a b = some ⟨0, x, d⟩) ∧ (v = false → pkDot a b = none)
    | none => ∃ i, vigilref16_pick_L7 (bl (done ++ rest)) n k (done.length : Int) = some (.e0 i) := by
  intro rest
  induction rest with
  | nil =>
    intro done k hl hd hk
    obtain ⟨k, rfl⟩ : ∃ j, k = j + 1 := ⟨k - 1, by omega⟩
    rw [List.append_nil, cut46_none hd]
    refine ⟨(done.length : Int), ?_⟩
    unfold vigilref16_pick_L7
    rw [if_neg (by rw [bl_size]; omega)]
  | cons c rest IH =>
    intro done k hl hd hk
    simp only [List.length_cons] at hl hk
    obtain ⟨k, rfl⟩ : ∃ j, k = j + 1 := ⟨k - 1, by omega⟩
    have hg : (done ++ c :: rest)[done.length]? = some c := by simp
    by_cases hc : c = 46
    · subst hc
      rw [cut46_at hd]
      dsimp only
      obtain ⟨x, ok, h1, h2, h3⟩ := number_spec n hn done
      obtain ⟨y, ok2, g1, g2, g3⟩ := number_spec n hn rest
      have hL : vigilref16_pick_L7 (bl (done ++ 46 :: rest)) n (k + 1) (done.length : Int) = (bif ok then bif ok2 then if y > 0 then some (.r true x y) else some (.r false x y) else some (.r false x y) else some (.r false x y)) := by
       rw [vigilref16_pick_L7, if_pos (by rw [bl_size]; simp only [List.length_append, List.length_cons]; omega), bl_byte, hg]
       simp only [Option.map_some, Option.bind_some]
       rw [if_pos (by decide), if_pos (by rw [bl_size]; simp only [List.length_append, List.length_cons]; omega), bl_ext, Int.toNat_natCast]
       have ea : ((done ++ 46 :: rest).take done.length).drop 0 = done := by simp
       have e1 : ((done.length : Int) + 1).toNat = done.length + 1 := by omega
       have eb : ((done ++ 46 :: rest).take (done ++ 46 :: rest).length).drop (done.length + 1) = rest := by rw [List.take_length]; simp
       rw [ea, h1, Option.bind_some]
       refine (if_pos (by unfold InR; omega)).trans ?_
       refine (if_pos (by rw [bl_size]; simp only [List.length_append, List.length_cons]; omega)).trans ?_
       rw [e1, bl_size, bl_ext, eb, g1, Option.bind_some]
      rw [hL]
      cases ok with
      | true =>
        simp only [cond_true]
        cases ok2 with
        | true =>
          simp only [cond_true]
          by_cases hy : y > 0
          · rw [if_pos hy]
            exact ⟨_, _, _, rfl, fun _ => by unfold pkDot; rw [h2 rfl, g2 rfl]; simp [hy], by simp⟩
          · rw [if_neg hy]
            exact ⟨_, _, _, rfl, by simp, fun _ => by unfold pkDot; rw [h2 rfl, g2 rfl]; simp [hy]⟩
        | false => exact ⟨_, _, _, rfl, by simp, fun _ => by unfold pkDot; rw [h2 rfl, g3 rfl]; simp⟩
      | false => exact ⟨_, _, _, rfl, by simp, fun _ => by unfold pkDot; rw [h3 rfl]; simp⟩
    · have hcn : ¬ (c.toNat : Int) = 46 := by
        intro hh
        apply hc
        apply UInt8.toNat_inj.1
        show c.toNat = 46
        omega
      have hd' : ∀ x ∈ done ++ [c], x ≠ 46 := by
        intro x hx
        rcases List.mem_append.1 hx with hx | hx
        · exact hd x hx
        · simp only [List.mem_singleton] at hx; subst hx; exact hc
      have ih := IH (done ++ [c]) k (by simp; omega) hd' (by omega)
      have e3 : (done ++ [c]) ++ rest = done ++ c :: rest := by simp
      have e2 : (((done ++ [c]).length : Nat) : Int) = (done.length : Int) + 1 := by simp
      rw [e3, e2] at ih
      have hun : vigilref16_pick_L7 (bl (done ++ c :: rest)) n (k + 1) (done.length : Int) = vigilref16_pick_L7 (bl (done ++ c :: rest)) n k ((done.length : Int) + 1) := by
        rw [vigilref16_pick_L7, if_pos (by rw [bl_size]; simp only [List.length_append, List.length_cons]; omega), bl_byte, hg]
        simp only [Option.map_some, Option.bind_some]
        rw [if_neg hcn, if_pos (by unfold InR; omega)]
      rw [hun]
      exact ih
theorem pick_spec (n : Nat) (hn : 30 ≤ n) (w : List UInt8) (hw : w.length < n) (hw2 : w.length ≤ 1000000) : ∃ x ok, vigilref16_pick n (bl w) = some (x, ok) ∧ (ok = true → pk w = some x) ∧ (ok = false → pk w = none) := by
  unfold vigilref16_pick
  have e116 : (⟨#[116]⟩ : ByteArray) = bl [116] := rfl
  rw [e116]
  by_cases h0 : w = [116]
  · subst h0
    rw [if_pos rfl]
    exact ⟨_, true, rfl, fun _ => rfl, by simp⟩
  · rw [if_neg (by rw [bl_inj]; exact h0)]
    cases w with
    | nil =>
      rw [if_neg (by rw [bl_size]; simp)]
      cases n with
      | zero => omega
      | succ n =>
        have : vigilref16_pick_L7_2 (bl []) (n + 1) (n + 1) 0 = some (.e0 0) := by
          unfold vigilref16_pick_L7_2
          rw [if_neg (by rw [bl_size]; simp)]
        rw [this]
        simp only [Option.bind_some]
        obtain ⟨x, ok, h1, h2, h3⟩ := number_spec (n + 1) hn []
        rw [h1]
        have hnum : num [] = none := rfl
        refine ⟨_, ok, rfl, fun h => ?_, fun _ => rfl⟩
        have := h2 h
        rw [hnum] at this; cases this
    | cons c t =>
      rw [if_pos (by rw [bl_size]; simp only [List.length_cons]; omega)]
      have hb : byteI (bl (c :: t)) 0 = some (c.toNat : Int) := by
        have := bl_byte (c :: t) 0
        simpa using this
      rw [hb]
      simp only [Option.bind_some]
      by_cases hc : c = 115
      · subst hc
        rw [if_pos (by decide), if_pos (by rw [bl_size]; simp only [List.length_cons]; omega), bl_size, bl_ext, List.take_length]
        have e1 : (115 :: t : List UInt8).drop (1 : Int).toNat = t := rfl
        rw [e1]
        obtain ⟨x, ok, h1, h2, h3⟩ := number_spec n hn t
        rw [h1]
        have hpk : pk (115 :: t) = (num t).map fun x => ⟨1, x, 0⟩ := by
          unfold pk; rw [if_neg h0, if_pos (show (115 :: t : List UInt8).head? = some 115 from rfl)]; rfl
        refine ⟨_, ok, rfl, fun h => ?_, fun h => ?_⟩
        · rw [hpk, h2 h]; rfl
        · rw [hpk, h3 h]; rfl
      · have hcn : ¬ (c.toNat : Int) = 115 := by
          intro hh
          apply hc
          apply UInt8.toNat_inj.1
          show c.toNat = 115
          omega
        rw [if_neg hcn]
        have hpk : pk (c :: t) = match cut46 (c :: t) with
          | some (a, b) => pkDot a b
          | none => (num (c :: t)).map fun x => ⟨0, x, 0⟩ := by
          unfold pk; rw [if_neg h0, if_neg (by simpa using hc)]; rfl
        have hloop := pick_loop n hn (c :: t) [] n (by simpa using hw2) (by simp) hw
        rw [List.nil_append] at hloop
        have ez : (([] : List UInt8).length : Int) = 0 := rfl
        rw [ez] at hloop
        cases hcut : cut46 (c :: t) with
        | some ab =>
          obtain ⟨a, b⟩ := ab
          rw [hcut] at hloop hpk
          obtain ⟨v, x, d, h1, h2, h3⟩ := hloop
          rw [h1]
          refine ⟨_, v, rfl, fun h => ?_, fun h => ?_⟩
          · rw [hpk]; exact h2 h
          · rw [hpk]; exact h3 h
        | none =>
          rw [hcut] at hloop hpk
          obtain ⟨i, h1⟩ := hloop
          rw [h1]
          simp only [Option.bind_some]
          obtain ⟨x, ok, g1, g2, g3⟩ := number_spec n hn (c :: t)
          rw [g1]
          refine ⟨_, ok, rfl, fun h => ?_, fun h => ?_⟩
          · rw [hpk]; dsimp only; rw [g2 h]; rfl
          · rw [hpk]; dsimp only; rw [g3 h]; rfl

/-! ### a text's picks -/
theorem part_spec (n : Nat) (w : List UInt8) (acc : List GPick) (hw : w.length ≤ 1000000) (ha : acc.length < 20000) :
    match pk w with
    | some p => script_Parse_R6 n (bl w) acc = some (.m (acc ++ [p]) p.kind p.thread p.draw)
    | none => ∃ a b c, script_Parse_R6 n (bl w) acc = some (.r acc a b c) := by
  obtain ⟨x, h1, i1, i2, h2⟩ := script_pick_spec n w hw
  obtain ⟨b, ok, g1, g2, g3⟩ := script_text_spec n x i1 i2
  unfold script_Parse_R6
  rw [h1]
  simp only [Option.bind_some]
  rw [g1]
  simp only [Option.bind_some]
  cases hp : pk w with
  | some p =>
    have := h2 p hp
    subst this
    have ht := txt_pk hp
    cases ok with
    | false => rw [g3 rfl] at ht; cases ht
    | true =>
      obtain ⟨w', rfl, hw'⟩ := g2 rfl
      rw [ht] at hw'
      cases hw'
      simp only [cond_true]
      rw [if_pos trivial, if_neg (by omega), if_pos (by unfold Room; simp; omega)]
  | none =>
    cases ok with
    | false => exact ⟨_, _, _, rfl⟩
    | true =>
      obtain ⟨w', rfl, hw'⟩ := g2 rfl
      simp only [cond_true]
      rw [if_neg]
      · exact ⟨_, _, _, rfl⟩
      · rw [bl_inj]
        rintro rfl
        rw [pk_txt hw'] at hp; cases hp
theorem parts_index (s : List UInt8) : parts s = if Lib.indexByte s 32 < 0 then [s] else s.take (Lib.indexByte s 32).toNat :: parts (s.drop (Lib.indexByte s 32 + 1).toNat) := by
  by_cases h : Lib.indexByte s 32 < 0
  · rw [if_pos h]; exact parts_none (index_neg h)
  · rw [if_neg h]
    obtain ⟨p, q, rfl, hp, hl⟩ := index_split (l := s) (c := 32) (by omega)
    have e1 : ((p.length : Int) + 1).toNat = p.length + 1 := by omega
    rw [hl, e1, Int.toNat_natCast, parts_at hp]
    simp
theorem splitL_end {α O : Type} {c : UInt8} {B : ByteArray → α → Option O} {next : O → Option α} {k : Nat} {s : List UInt8} {a : α} (hs : s.length ≤ 281474976710656) (h : Lib.indexByte s c < 0) : splitL c B next (k + 1) (bl s) a = (B (bl s) a).map fun o => (o, bl s) := by
  rw [splitL, if_pos (by rw [bl_size]; omega), bl_data, if_pos h]
theorem splitL_on {α O : Type} {c : UInt8} {B : ByteArray → α → Option O} {next : O → Option α} {k : Nat} {p q : List UInt8} {a a' : α} {o : O} (hp : ∀ b ∈ p, b ≠ c) (hs : (p ++ c :: q).length ≤ 281474976710656) (hB : B (bl p) a = some o) (hn : next o = some a') : splitL c B next (k + 1) (bl (p ++ c :: q)) a = splitL c B next k (bl q) a' := by
  have e0 : ((p.length : Int) + 0).toNat = p.length := by omega
  have e1 : ((p.length : Int) + 1).toNat = p.length + 1 := by omega
  have ea : ((p ++ c :: q).take p.length).drop 0 = p := by simp
  have eb : ((p ++ c :: q).take (p ++ c :: q).length).drop (p.length + 1) = q := by rw [List.take_length]; simp
  rw [splitL, if_pos (by rw [bl_size]; omega), bl_data, index_at hp, if_neg (by omega), e0, e1, bl_size, bl_ext, bl_ext, ea, eb, hB]
  simp only [Option.bind_some, hn]
theorem splitL_stop {α O : Type} {c : UInt8} {B : ByteArray → α → Option O} {next : O → Option α} {k : Nat} {p q : List UInt8} {a : α} {o : O} (hp : ∀ b ∈ p, b ≠ c) (hs : (p ++ c :: q).length ≤ 281474976710656) (hB : B (bl p) a = some o) (hn : next o = none) : splitL c B next (k + 1) (bl (p ++ c :: q)) a = some (o, bl (p ++ c :: q)) := by
  have e0 : ((p.length : Int) + 0).toNat = p.length := by omega
  have ea : ((p ++ c :: q).take p.length).drop 0 = p := by simp
  rw [splitL, if_pos (by rw [bl_size]; omega), bl_data, index_at hp, if_neg (by omega), e0, bl_ext, ea, hB]
  simp only [Option.bind_some, hn]
theorem split_spec (n : Nat) : ∀ (k : Nat) (s : List UInt8) (acc : List GPick), s.length ≤ 10000 → (parts s).length ≤ k → acc.length + (parts s).length ≤ 19000 →
    match (parts s).mapM pk with
    | some ps => ∃ a b c t, splitL 32 (fun w a => script_Parse_R6 n w a) script_Parse_R6n k (bl s) acc = some (.m (acc ++ ps) a b c, t)
    | none => ∃ l a b c t, splitL 32 (fun w a => script_Parse_R6 n w a) script_Parse_R6n k (bl s) acc = some (.r l a b c, t)
  | 0, s, acc, _, hk, _ => absurd (List.length_eq_zero_iff.1 (Nat.le_zero.1 hk)) (parts_ne s)
  | k + 1, s, acc, hs, hk, ha => by
    have hpos : 0 < (parts s).length := by
      cases hp : parts s with
      | nil => exact absurd hp (parts_ne s)
      | cons _ _ => simp
    by_cases h : Lib.indexByte s 32 < 0
    · rw [splitL_end (by omega) h]
      have hp : parts s = [s] := by rw [parts_index, if_pos h]
      have hpart := part_spec n s acc (by omega) (by omega)
      rw [hp]
      cases hk : pk s with
      | some p =>
        rw [hk] at hpart
        have : ([s] : List (List UInt8)).mapM pk = some [p] := by simp [hk]
        rw [this, hpart]
        exact ⟨_, _, _, _, rfl⟩
      | none =>
        rw [hk] at hpart
        obtain ⟨a, b, c, hpart⟩ := hpart
        have : ([s] : List (List UInt8)).mapM pk = none := by simp [hk]
        rw [this, hpart]
        exact ⟨_, _, _, _, _, rfl⟩
    · obtain ⟨p, q, rfl, hpp, hl⟩ := index_split (l := s) (c := 32) (by omega)
      have hp : parts (p ++ 32 :: q) = p :: parts q := parts_at hpp
      rw [hp] at hk ha ⊢
      simp only [List.length_append, List.length_cons] at hs hk ha
      have hpart := part_spec n p acc (by omega) (by omega)
      cases hpk : pk p with
      | some x =>
        rw [hpk] at hpart
        rw [splitL_on hpp (by simp only [List.length_append, List.length_cons]; omega) hpart rfl]
        have ih := split_spec n k q (acc ++ [x]) (by omega) (by omega) (by simp; omega)
        have hm : (p :: parts q).mapM pk = ((parts q).mapM pk).map (x :: ·) := by
          rw [List.mapM_cons, hpk]
          cases (parts q).mapM pk <;> rfl
        rw [hm]
        cases hq : (parts q).mapM pk with
        | some ps =>
          rw [hq] at ih
          obtain ⟨a, b, c, t, ih⟩ := ih
          refine ⟨a, b, c, t, ?_⟩
          rw [ih]; simp
        | none => rw [hq] at ih; exact ih
      | none =>
        rw [hpk] at hpart
        obtain ⟨a, b, c, hpart⟩ := hpart
        rw [splitL_stop hpp (by simp only [List.length_append, List.length_cons]; omega) hpart rfl]
        have hm : (p :: parts q).mapM pk = none := by rw [List.mapM_cons, hpk]; rfl
        rw [hm]
        exact ⟨_, _, _, _, _, rfl⟩
/-- The picks of a text. -/
def picksOf (s : List UInt8) : Option (List GPick) := if s = [] then some [] else (parts s).mapM pk
theorem parse_spec (n : Nat) (hn : 30000 ≤ n) (s : List UInt8) (hs : s.length ≤ 10000) : ∃ c e, script_Parse n (bl s) = some (c, e) ∧ (∀ ps, picksOf s = some ps → e = 0 ∧ c.l = ps) ∧ (picksOf s = none → e = 2 ∧ c.l = []) := by
  unfold script_Parse
  have e0 : (⟨#[]⟩ : ByteArray) = bl [] := rfl
  rw [e0]
  by_cases h : s = []
  · subst h
    rw [if_pos rfl]
    exact ⟨_, _, rfl, fun ps hp => by cases hp; exact ⟨rfl, rfl⟩, fun hp => by cases hp⟩
  · rw [if_neg (by rw [bl_inj]; exact h)]
    have hss : strings_SplitSeq n (bl s) = some () := rfl
    rw [hss]
    simp only [Option.bind_some]
    have hl := parts_len s
    have hsp := split_spec n n s [] hs (by omega) (by simp; omega)
    have hpo : picksOf s = (parts s).mapM pk := by unfold picksOf; rw [if_neg h]
    unfold script_Parse_R6l
    rw [hpo]
    cases hm : (parts s).mapM pk with
    | some ps =>
      rw [hm] at hsp
      obtain ⟨a, b, c, t, hsp⟩ := hsp
      rw [hsp]
      refine ⟨_, _, rfl, fun ps' hp => ?_, fun hp => by cases hp⟩
      cases hp
      exact ⟨rfl, by simp [Sl.gr]⟩
    | none =>
      rw [hm] at hsp
      obtain ⟨l, a, b, c, t, hsp⟩ := hsp
      rw [hsp]
      exact ⟨_, _, rfl, fun ps' hp => (by cases hp), fun _ => ⟨rfl, rfl⟩⟩
theorem rparse_loop (n : Nat) (hn : 30000 ≤ n) (s : List UInt8) (hs : s.length ≤ 10000) (h0 : s ≠ []) : ∀ (m k : Nat) (acc : List GPick) (fr i : Nat), m = s.length - i → m + 1 < k → fr ≤ i → i ≤ s.length → (∀ c ∈ (s.drop fr).take (i - fr), c ≠ 32) → acc.length + m ≤ 15000 →
    match (parts (s.drop fr)).mapM pk with
    | some ps => ∃ a b, vigilref16_Parse_L4 (bl s) n k acc (fr : Int) (i : Int) = some (.e0 (acc ++ ps) a b)
    | none => ∃ a b c, vigilref16_Parse_L4 (bl s) n k acc (fr : Int) (i : Int) = some (.r a b c)
  | m, 0, acc, fr, i, _, hk, _, _, _, _ => by omega
  | m, k + 1, acc, fr, i, hm, hk, hfi, hi, hd, ha => by
    have e0 : (⟨#[]⟩ : ByteArray) = bl [] := rfl
    have hne : ¬ bl s = (⟨#[]⟩ : ByteArray) := by rw [e0, bl_inj]; exact h0
    rw [vigilref16_Parse_L4, if_pos (by rw [bl_size]; omega), if_neg hne]
    have hext : (bl s).extract ((fr : Nat) : Int).toNat ((i : Nat) : Int).toNat = bl ((s.drop fr).take (i - fr)) := by
      rw [Int.toNat_natCast, Int.toNat_natCast, bl_ext, List.drop_take]
    by_cases hlt : i < s.length
    · rw [if_pos (by rw [bl_size]; omega), bl_byte, List.getElem?_eq_getElem hlt]
      simp only [Option.map_some, Option.bind_some]
      have hsplit : s.drop fr = (s.drop fr).take (i - fr) ++ s[i] :: s.drop (i + 1) := by
        have h1 : (s.drop fr).drop (i - fr) = s.drop i := by rw [List.drop_drop]; congr 1; omega
        have h2 : s.drop i = s[i] :: s.drop (i + 1) := List.drop_eq_getElem_cons hlt
        rw [← h2, ← h1, List.take_append_drop]
      by_cases hc : s[i] = 32
      · rw [if_neg (by rw [hc]; decide), if_pos (by rw [bl_size]; omega), hext]
        rw [hc] at hsplit
        have hp : parts (s.drop fr) = (s.drop fr).take (i - fr) :: parts (s.drop (i + 1)) := by
          conv => lhs; rw [hsplit]
          exact parts_at hd
        rw [hp]
        have hwl : ((s.drop fr).take (i - fr)).length ≤ 10000 := by simp; omega
        obtain ⟨x, ok, h1, h2, h3⟩ := pick_spec n (by omega) ((s.drop fr).take (i - fr)) (by omega) (by omega)
        rw [h1]
        simp only [Option.bind_some]
        cases ok with
        | false =>
          have hmm : ((s.drop fr).take (i - fr) :: parts (s.drop (i + 1))).mapM pk = none := by rw [List.mapM_cons, h3 rfl]; rfl
          rw [hmm]
          exact ⟨_, _, _, rfl⟩
        | true =>
          simp only [cond_true]
          rw [if_neg (by omega), if_pos (by unfold Room; simp; omega), if_pos (by unfold InR; omega)]
          have ih := rparse_loop n hn s hs h0 (m - 1) k (acc ++ [x]) (i + 1) (i + 1) (by omega) (by omega) (by omega) (by omega) (by simp) (by simp; omega)
          have hmm : ((s.drop fr).take (i - fr) :: parts (s.drop (i + 1))).mapM pk = ((parts (s.drop (i + 1))).mapM pk).map (x :: ·) := by
            rw [List.mapM_cons, h2 rfl]
            cases (parts (s.drop (i + 1))).mapM pk <;> rfl
          have ei : ((i : Nat) : Int) + 1 = ((i + 1 : Nat) : Int) := by omega
          rw [hmm, ei]
          cases hq : (parts (s.drop (i + 1))).mapM pk with
          | some ps =>
            rw [hq] at ih
            obtain ⟨a, b, ih⟩ := ih
            exact ⟨a, b, by rw [ih]; simp⟩
          | none => rw [hq] at ih; exact ih
      · have hcn : (s[i].toNat : Int) ≠ 32 := by
          intro hh
          apply hc
          apply UInt8.toNat_inj.1
          show s[i].toNat = 32
          omega
        rw [if_pos hcn, if_pos (by unfold InR; omega)]
        have ei : ((i : Nat) : Int) + 1 = ((i + 1 : Nat) : Int) := by omega
        rw [ei]
        refine rparse_loop n hn s hs h0 (m - 1) k acc fr (i + 1) (by omega) (by omega) (by omega) (by omega) ?_ (by omega)
        have : (s.drop fr).take (i + 1 - fr) = (s.drop fr).take (i - fr) ++ [s[i]] := by
          have e : i + 1 - fr = (i - fr) + 1 := by omega
          rw [e, List.take_add_one]
          congr 1
          rw [List.getElem?_drop]
          have : fr + (i - fr) = i := by omega
          rw [this, List.getElem?_eq_getElem hlt]; rfl
        rw [this]
        intro x hx
        rcases List.mem_append.1 hx with hx | hx
        · exact hd x hx
        · simp only [List.mem_singleton] at hx; subst hx; exact hc
    · have hie : i = s.length := by omega
      rw [if_neg (by rw [bl_size]; omega), if_pos (by rw [bl_size]; omega), hext]
      have htk : (s.drop fr).take (i - fr) = s.drop fr := by rw [hie]; apply List.take_of_length_le; simp
      rw [htk] at hd ⊢
      have hp : parts (s.drop fr) = [s.drop fr] := parts_none hd
      rw [hp]
      obtain ⟨x, ok, h1, h2, h3⟩ := pick_spec n (by omega) (s.drop fr) (by simp; omega) (by simp; omega)
      rw [h1]
      simp only [Option.bind_some]
      cases ok with
      | false =>
        have hmm : ([s.drop fr] : List (List UInt8)).mapM pk = none := by simp [h3 rfl]
        rw [hmm]
        exact ⟨_, _, _, rfl⟩
      | true =>
        have hmm : ([s.drop fr] : List (List UInt8)).mapM pk = some [x] := by simp [h2 rfl]
        rw [hmm]
        simp only [cond_true]
        rw [if_neg (by omega), if_pos (by unfold Room; simp; omega), if_pos (by unfold InR; omega)]
        cases k with
        | zero => omega
        | succ k =>
          rw [vigilref16_Parse_L4, if_neg (by rw [bl_size]; omega)]
          exact ⟨_, _, rfl⟩
theorem rparse_spec (n : Nat) (hn : 30000 ≤ n) (s : List UInt8) (hs : s.length ≤ 10000) : ∃ c e, vigilref16_Parse n (bl s) = some (c, e) ∧ (∀ ps, picksOf s = some ps → e = 0 ∧ c.l = ps) ∧ (picksOf s = none → e = 2 ∧ c.l = []) := by
  unfold vigilref16_Parse
  by_cases h : s = []
  · subst h
    have hl : vigilref16_Parse_L4 (bl []) n n [] 0 0 = some (.e0 [] 0 0) := by
      cases n with
      | zero => omega
      | succ n =>
        rw [vigilref16_Parse_L4, if_pos (by rw [bl_size]; simp), if_pos (show bl [] = (⟨#[]⟩ : ByteArray) from rfl)]
    rw [hl]
    exact ⟨_, _, rfl, fun ps hp => by cases hp; exact ⟨rfl, rfl⟩, fun hp => by cases hp⟩
  · have hpo : picksOf s = (parts s).mapM pk := by unfold picksOf; rw [if_neg h]
    have hloop := rparse_loop n hn s hs h s.length n [] 0 0 (by omega) (by omega) (by omega) (by omega) (by simp) (by simp; omega)
    rw [List.drop_zero] at hloop
    have ez : ((0 : Nat) : Int) = 0 := rfl
    rw [ez] at hloop
    rw [hpo]
    cases hm : (parts s).mapM pk with
    | some ps =>
      rw [hm] at hloop
      obtain ⟨a, b, hloop⟩ := hloop
      rw [hloop]
      refine ⟨_, _, rfl, fun ps' hp => ?_, fun hp => by cases hp⟩
      cases hp
      exact ⟨rfl, by simp [Sl.gr]⟩
    | none =>
      rw [hm] at hloop
      obtain ⟨a, b, c, hloop⟩ := hloop
      rw [hloop]
      exact ⟨_, _, rfl, fun ps' hp => (by cases hp), fun _ => ⟨rfl, rfl⟩⟩
end Go.Proofs.YtilipgopjiokfaaGreatDoor
