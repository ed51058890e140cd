/-
  Part of the proof: printed by the session's own program out of the program's form, or typed; it states no claim by itself.
-/
import Derived.Test.YtilipgopjiokfaaGreatDoorFe
import Derived.Test.YtilipgopjiokfaaGreatDoorPa
import Derived.Lib.AtoiAllCases
/-
  What the program's functions on texts of picks compute: the words and numbers.
-/
set_option linter.unusedVariables false
set_option linter.unusedSimpArgs false
namespace Go.Proofs.YtilipgopjiokfaaGreatDoor
open Go Go.Abs Go.Proofs

theorem minmax_neg {a b : Int} : ((if b < a then b else a) < 0) ↔ (a < 0 ∨ b < 0) := by
  split <;> constructor <;> intro h <;> omega
theorem minmax_big {a b : Int} : ((if b > a then b else a) > 999999) ↔ (a > 999999 ∨ b > 999999) := by
  split <;> constructor <;> intro h <;> omega
theorem dec6 {x : Int} (h : 0 ≤ x) (h2 : x ≤ 999999) : (dec x.toNat).length ≤ 6 := dec_len 6 _ (by omega) (by omega)

theorem script_text_spec (n : Nat) (p : GPick) (h1 : InR p.thread) (h2 : InR p.draw) :
    ∃ b ok, script_text n p = some (b, ok) ∧ (ok = true → ∃ w, b = bl w ∧ txt p = some w) ∧ (ok = false → txt p = none) := by
  unfold script_text
  rw [if_pos h1]
  by_cases hn : p.thread < 0 ∨ p.draw < 0
  · rw [if_pos (minmax_neg.2 hn)]
    refine ⟨_, false, rfl, by simp, fun _ => ?_⟩
    unfold txt; rw [if_pos (by omega)]
  · rw [if_neg (fun h => hn (minmax_neg.1 h))]
    by_cases hb : p.thread > 999999 ∨ p.draw > 999999
    · rw [if_pos (minmax_big.2 hb)]
      refine ⟨_, false, rfl, by simp, fun _ => ?_⟩
      unfold txt; rw [if_pos (by omega)]
    · rw [if_neg (fun h => hb (minmax_big.1 h))]
      have et : itoaB p.thread = bl (dec p.thread.toNat) := itoaB_nn (by omega) (by omega)
      have ed : itoaB p.draw = bl (dec p.draw.toNat) := itoaB_nn (by omega) (by omega)
      have lt := dec6 (x := p.thread) (by omega) (by omega)
      have ld := dec6 (x := p.draw) (by omega) (by omega)
      have e46 : (⟨#[46]⟩ : ByteArray) = bl [46] := rfl
      have e115 : (⟨#[115]⟩ : ByteArray) = bl [115] := rfl
      have e116 : (⟨#[116]⟩ : ByteArray) = bl [116] := rfl
      rw [et, ed, e46, e115, e116]
      simp only [bl_app]
      have ht : txt p = (if p.kind = 0 then some (if p.draw > 0 then dec p.thread.toNat ++ 46 :: dec p.draw.toNat else dec p.thread.toNat)
        else if p.kind = 1 then (if p.draw = 0 then some (115 :: dec p.thread.toNat) else none)
        else if p.kind = 2 ∧ p.thread = 0 ∧ p.draw = 0 then some [116] else none) := by
        unfold txt; rw [if_neg (by omega)]
      rw [ht]
      by_cases hk : p.kind = 0
      · rw [if_pos hk, if_pos hk]
        by_cases hd : p.draw > 0
        · rw [if_pos hd, if_pos hd, if_pos (by rw [bl_size]; simp only [List.length_append, List.length_singleton]; omega), if_pos h2, if_pos (by rw [bl_size]; simp only [List.length_append, List.length_singleton]; omega)]
          exact ⟨_, true, rfl, fun _ => ⟨_, rfl, by simp⟩, by simp⟩
        · rw [if_neg hd, if_neg hd]
          exact ⟨_, true, rfl, fun _ => ⟨_, rfl, rfl⟩, by simp⟩
      · rw [if_neg hk, if_neg hk]
        by_cases hk1 : p.kind = 1
        · rw [if_pos hk1, if_pos hk1, if_pos (by rw [bl_size]; simp only [List.length_append, List.length_singleton]; omega)]
          by_cases hd : p.draw = 0
          · rw [if_pos hd, if_pos hd]; exact ⟨_, true, rfl, fun _ => ⟨_, rfl, rfl⟩, by simp⟩
          · rw [if_neg hd, if_neg hd]; exact ⟨_, false, rfl, by simp, fun _ => rfl⟩
        · rw [if_neg hk1, if_neg hk1]
          by_cases hp : p = ({ kind := 2, thread := 0, draw := 0 } : GPick)
          · rw [if_pos hp]
            refine ⟨_, true, rfl, fun _ => ⟨_, rfl, ?_⟩, by simp⟩
            subst hp; rfl
          · rw [if_neg hp]
            refine ⟨_, false, rfl, by simp, fun _ => ?_⟩
            rw [if_neg]
            rintro ⟨a, b, c⟩
            apply hp
            obtain ⟨x, y, z⟩ := p
            simp only at a b c
            subst a; subst b; subst c; rfl

/-! ### the document's digits -/
theorem digits10 : ∀ d, d < 10 → (bl [48, 49, 50, 51, 52, 53, 54, 55, 56, 57]).extract d (d + 1) = bl [UInt8.ofNat (48 + d)] := by
  intro d hd
  rw [bl_ext, bl_inj]
  have : ∀ d : Fin 10, ((([48, 49, 50, 51, 52, 53, 54, 55, 56, 57] : List UInt8).take (d.val + 1)).drop d.val) = [UInt8.ofNat (48 + d.val)] := by decide
  exact this ⟨d, hd⟩
theorem digits_loop (p0 : Int) (n : Nat) : ∀ (j k : Nat) (v : List UInt8) (u : Nat), u < 10 ^ j → j < k → u ≤ 999999 → v.length + j ≤ 1000 → vigilref03_Digits_L6 p0 n k (bl v) (u : Int) = some (.e0 (bl ((if u = 0 then [] else dec u) ++ v)) 0)
  | j, 0, v, u, h, hk, _, _ => by omega
  | j, k + 1, v, u, h, hk, hu, hv => by
    unfold vigilref03_Digits_L6
    by_cases h0 : u = 0
    · subst h0; rw [if_neg (by simp)]; simp
    · rw [if_pos (by omega)]
      have em : Int.tmod (u : Int) 10 = ((u % 10 : Nat) : Int) := by rw [Int.tmod_eq_emod_of_nonneg (by omega)]; omega
      have ed : Int.tdiv (u : Int) 10 = ((u / 10 : Nat) : Int) := by rw [Int.tdiv_eq_ediv_of_nonneg (by omega)]; omega
      have ew : Go.IntKind.i64.wrap ((u / 10 : Nat) : Int) = ((u / 10 : Nat) : Int) := wrap_in (by unfold InR; omega)
      have edg : (⟨#[48, 49, 50, 51, 52, 53, 54, 55, 56, 57]⟩ : ByteArray) = bl [48, 49, 50, 51, 52, 53, 54, 55, 56, 57] := rfl
      rw [em, ed, ew, edg, if_neg (by omega), if_pos (by unfold InR; omega)]
      have e1 : (((u % 10 : Nat) : Int)).toNat = u % 10 := by omega
      have e2 : (((u % 10 : Nat) : Int) + 1).toNat = u % 10 + 1 := by omega
      rw [e1, e2, digits10 _ (by omega), bl_app, if_pos (by rw [bl_size]; simp only [List.length_cons, List.length_nil]; omega), if_pos (by rw [bl_size]; simp only [List.length_append, List.length_cons, List.length_nil]; omega)]
      cases j with
      | zero => simp at h; omega
      | succ j =>
        rw [Nat.pow_succ] at h
        rw [digits_loop p0 n j k _ (u / 10) (by omega) (by omega) (by omega) (by simp only [List.length_append, List.length_cons, List.length_nil]; omega), if_neg h0]
        by_cases hs : u < 10
        · rw [if_pos (by omega), dec_small hs, Nat.mod_eq_of_lt hs]; simp
        · rw [if_neg (by omega), dec_big hs]; simp
theorem digits_spec (n : Nat) (hn : 30 ≤ n) {x : Int} (h : 0 ≤ x) (h2 : x ≤ 999999) : vigilref03_Digits n x = some (bl (dec x.toNat)) := by
  unfold vigilref03_Digits
  by_cases h0 : x = 0
  · subst h0
    rw [if_pos rfl]
    show some (bl [48]) = some (bl (dec 0))
    rw [dec_small (by omega)]; rfl
  · rw [if_neg h0]
    obtain ⟨u, rfl⟩ : ∃ u : Nat, x = (u : Int) := ⟨x.toNat, by omega⟩
    have := digits_loop (u : Int) n 6 n [] u (by omega) (by omega) (by omega) (by simp)
    have e : (⟨#[]⟩ : ByteArray) = bl [] := rfl
    rw [e, this]
    simp only [Option.bind_some]
    rw [if_neg (by omega), if_neg (by omega)]
    simp
theorem one_spec (n : Nat) (hn : 30 ≤ n) (p : GPick) :
    ∃ b ok, vigilref16_one n p = some (b, ok) ∧ (ok = true → ∃ w, b = bl w ∧ txt p = some w) ∧ (ok = false → txt p = none) := by
  unfold vigilref16_one
  by_cases hb : p.thread < 0 ∨ p.draw < 0 ∨ p.thread > 999999 ∨ p.draw > 999999
  · have : vigilref16_one_J1 p n = some .r := by
      unfold vigilref16_one_J1
      split
      · rfl
      · split
        · rfl
        · split
          · rfl
          · split
            · rfl
            · omega
    rw [this]
    refine ⟨_, false, rfl, by simp, fun _ => ?_⟩
    unfold txt; rw [if_pos hb]
  · have hj : vigilref16_one_J1 p n = some .m := by
      unfold vigilref16_one_J1
      rw [if_neg (by omega), if_neg (by omega), if_neg (by omega), if_neg (by omega)]
    rw [hj]
    simp only [Option.bind_some]
    rw [digits_spec n hn (by omega) (by omega)]
    simp only [Option.bind_some]
    have lt := dec6 (x := p.thread) (by omega) (by omega)
    have ld := dec6 (x := p.draw) (by omega) (by omega)
    have e46 : (⟨#[46]⟩ : ByteArray) = bl [46] := rfl
    have e115 : (⟨#[115]⟩ : ByteArray) = bl [115] := rfl
    have e116 : (⟨#[116]⟩ : ByteArray) = bl [116] := rfl
    rw [e46, e115, e116]
    simp only [bl_app]
    have ht : txt p = (if p.kind = 0 then some (if p.draw > 0 then dec p.thread.toNat ++ 46 :: dec p.draw.toNat else dec p.thread.toNat)
      else if p.kind = 1 then (if p.draw = 0 then some (115 :: dec p.thread.toNat) else none)
      else if p.kind = 2 ∧ p.thread = 0 ∧ p.draw = 0 then some [116] else none) := by
      unfold txt; rw [if_neg hb]
    rw [ht]
    by_cases hk : p.kind = 0
    · rw [if_pos hk, if_pos hk]
      by_cases hd : p.draw > 0
      · rw [if_pos hd, if_pos hd, if_pos (by rw [bl_size]; simp only [List.length_append, List.length_singleton]; omega), digits_spec n hn (by omega) (by omega)]
        simp only [Option.bind_some, bl_app]
        rw [if_pos (by rw [bl_size]; simp only [List.length_append, List.length_singleton]; omega)]
        exact ⟨_, true, rfl, fun _ => ⟨_, rfl, by simp⟩, by simp⟩
      · rw [if_neg hd, if_neg hd]
        exact ⟨_, true, rfl, fun _ => ⟨_, rfl, rfl⟩, by simp⟩
    · rw [if_neg hk, if_neg hk]
      by_cases hk1 : p.kind = 1
      · rw [if_pos hk1, if_pos hk1, if_pos (by rw [bl_size]; simp only [List.length_append, List.length_singleton]; omega)]
        by_cases hd : p.draw = 0
        · rw [if_pos hd, if_pos hd]; exact ⟨_, true, rfl, fun _ => ⟨_, rfl, rfl⟩, by simp⟩
        · rw [if_neg hd, if_neg hd]; exact ⟨_, false, rfl, by simp, fun _ => rfl⟩
      · rw [if_neg hk1, if_neg hk1]
        by_cases h2 : p.kind = 2
        · rw [if_pos h2]
          by_cases h3 : p.thread = 0
          · rw [if_pos h3]
            by_cases h4 : p.draw = 0
            · rw [if_pos h4, if_pos ⟨h2, h3, h4⟩]; exact ⟨_, true, rfl, fun _ => ⟨_, rfl, rfl⟩, by simp⟩
            · rw [if_neg h4, if_neg (fun h => h4 h.2.2)]; exact ⟨_, false, rfl, by simp, fun _ => rfl⟩
          · rw [if_neg h3, if_neg (fun h => h3 h.2.1)]; exact ⟨_, false, rfl, by simp, fun _ => rfl⟩
        · rw [if_neg h2, if_neg (fun h => h2 h.1)]; exact ⟨_, false, rfl, by simp, fun _ => rfl⟩

/-! ### numbers -/
theorem script_number_spec (n : Nat) (w : List UInt8) (hw : w.length ≤ 1000000) : ∃ r, script_number n (bl w) = some r ∧ InR r ∧ ∀ x, num w = some x → r = x := by
  unfold script_number
  rw [if_pos (by rw [bl_size]; omega)]
  cases ha : Lib.atoiAll w with
  | ok v =>
    obtain ⟨b1, b2⟩ := Lib.atoiAll_bounds ha
    have e : atoiR (bl w) = (v, false) := by unfold atoiR; rw [bl_data, ha]
    have hnum : num w = if 0 ≤ v ∧ v ≤ 999999 ∧ dec v.toNat = w then some v else none := by unfold num; rw [ha]
    rw [e]
    simp only [Bool.false_eq_true, if_false]
    by_cases hb : v > 999999
    · rw [if_pos hb]
      refine ⟨_, rfl, by unfold InR; omega, fun x hx => ?_⟩
      rw [hnum, if_neg (by omega)] at hx; cases hx
    · rw [if_neg hb, if_pos (by unfold InR; omega)]
      by_cases hi : itoaB v = bl w
      · rw [if_pos hi]
        refine ⟨_, rfl, by unfold InR; omega, fun x hx => ?_⟩
        rw [hnum] at hx
        split at hx
        · cases hx; rfl
        · cases hx
      · rw [if_neg hi]
        refine ⟨_, rfl, by unfold InR; omega, fun x hx => ?_⟩
        rw [hnum] at hx
        split at hx
        · rename_i hh
          exfalso; apply hi
          rw [itoaB_nn hh.1 (by omega), hh.2.2]
        · cases hx
  | _ =>
    have e : (atoiR (bl w)).2 = true := by unfold atoiR; rw [bl_data, ha]
    rw [if_pos e]
    refine ⟨_, rfl, by unfold InR; omega, fun x hx => ?_⟩
    unfold num at hx; rw [ha] at hx; cases hx
def isDig (c : UInt8) : Prop := 48 ≤ c.toNat ∧ c.toNat ≤ 57
instance (c : UInt8) : Decidable (isDig c) := inferInstanceAs (Decidable (_ ∧ _))
theorem valL_lt : ∀ (l : List UInt8), (∀ c ∈ l, isDig c) → valL l < 10 ^ l.length := by
  intro l
  induction h : l.length generalizing l with
  | zero => intro _; have := List.length_eq_zero_iff.1 h; subst this; simp [valL]
  | succ m ih =>
    intro hd
    obtain ⟨l', c, rfl⟩ : ∃ l' c, l = l' ++ [c] := ⟨l.dropLast, l.getLast (by intro hh; subst hh; simp at h), (List.dropLast_concat_getLast _).symm⟩
    rw [valL_snoc]
    have h1 := ih l' (by simpa using h) (fun c hc => hd c (by simp [hc]))
    have h2 := hd c (by simp)
    unfold isDig at h2
    rw [Nat.pow_succ]
    omega
theorem number_loop (n : Nat) : ∀ (rest done : List UInt8) (k : Nat), done.length + rest.length ≤ 6 → (∀ c ∈ done, isDig c) → rest.length < k →
    vigilref16_number_L5 (bl (done ++ rest)) n k (valL done : Int) (done.length : Int) = (if ∀ c ∈ rest, isDig c then some (.e0 (valL (done ++ rest) : Int) ((done ++ rest).length : Int)) else some .r)
  | rest, done, 0, _, _, h => by omega
  | [], done, k + 1, hl, hd, _ => by
    unfold vigilref16_number_L5
    rw [if_neg (by rw [bl_size]; simp), if_pos (by simp)]
    simp
  | c :: rest, done, k + 1, hl, hd, hk => by
    unfold vigilref16_number_L5
    simp only [List.length_cons] at hl hk
    rw [if_pos (by rw [bl_size]; simp only [List.length_append, List.length_cons]; omega), bl_byte]
    have hg : (done ++ c :: rest)[done.length]? = some c := by simp
    rw [hg]
    simp only [Option.map_some, Option.bind_some]
    by_cases h1 : (c.toNat : Int) < 48
    · rw [if_pos h1, if_neg]
      intro hh; have := hh c (by simp); unfold isDig at this; omega
    · rw [if_neg h1]
      by_cases h2 : (c.toNat : Int) > 57
      · rw [if_pos h2, if_neg]
        intro hh; have := hh c (by simp); unfold isDig at this; omega
      · rw [if_neg h2]
        have hv := valL_lt done hd
        have hp : 10 ^ done.length ≤ 10 ^ 6 := Nat.pow_le_pow_right (by omega) (by omega)
        have e8 : Go.IntKind.u8.wrap ((c.toNat : Int) - 48) = (c.toNat : Int) - 48 := by
          rw [IntKind.wrap_u8]; omega
        rw [if_pos (by unfold InR; omega), e8, wrap_in (by unfold InR; omega), if_pos (by unfold InR; omega), if_pos (by unfold InR; omega)]
        have hdc : isDig c := by unfold isDig; omega
        have e1 : 10 * (valL done : Int) + ((c.toNat : Int) - 48) = ((valL (done ++ [c]) : Nat) : Int) := by rw [valL_snoc]; omega
        have e2 : (done.length : Int) + 1 = ((done ++ [c]).length : Int) := by simp
        have e3 : done ++ c :: rest = (done ++ [c]) ++ rest := by simp
        rw [e1, e2, e3, number_loop n rest (done ++ [c]) k (by simp; omega) (by
          intro x hx
          rcases List.mem_append.1 hx with hx | hx
          · exact hd x hx
          · simp only [List.mem_singleton] at hx; subst hx; exact hdc) (by omega)]
        by_cases hr : ∀ c ∈ rest, isDig c
        · rw [if_pos hr, if_pos]
          intro x hx
          rcases List.mem_cons.1 hx with rfl | hx
          · exact hdc
          · exact hr x hx
        · rw [if_neg hr, if_neg fun hh => hr fun x hx => hh x (by simp [hx])]
theorem number_spec (n : Nat) (hn : 30 ≤ n) (w : List UInt8) : ∃ x ok, vigilref16_number n (bl w) = some (x, ok) ∧ (ok = true → num w = some x) ∧ (ok = false → num w = none) := by
  unfold vigilref16_number
  have e0 : (⟨#[]⟩ : ByteArray) = bl [] := rfl
  by_cases h0 : w = []
  · subst h0
    rw [if_pos e0.symm]
    exact ⟨_, false, rfl, by simp, fun _ => rfl⟩
  · rw [if_neg (by rw [e0, bl_inj]; exact h0)]
    by_cases hl : ((bl w).size : Int) > 6
    · rw [if_pos hl]
      refine ⟨_, false, rfl, by simp, fun _ => ?_⟩
      cases hx : num w with
      | none => rfl
      | some x =>
        obtain ⟨a, b, c⟩ := num_some hx
        have := dec6 a b
        rw [← c] at this
        rw [bl_size] at hl; omega
    · rw [if_neg hl]
      rw [bl_size] at hl
      have hloop := number_loop n w [] n (by simp; omega) (by simp) (by omega)
      simp only [List.nil_append, List.length_nil] at hloop
      have ez : ((valL [] : Nat) : Int) = 0 := rfl
      rw [ez] at hloop
      have ez2 : ((0 : Nat) : Int) = 0 := rfl
      rw [ez2] at hloop
      rw [hloop]
      by_cases hd : ∀ c ∈ w, isDig c
      · rw [if_pos hd]
        simp only [Option.bind_some]
        have hv := valL_lt w hd
        have hp : 10 ^ w.length ≤ 10 ^ 6 := Nat.pow_le_pow_right (by omega) (by omega)
        rw [digits_spec n hn (by omega) (by omega)]
        simp only [Option.bind_some, Int.toNat_natCast]
        by_cases he : dec (valL w) = w
        · rw [if_pos (by rw [bl_inj]; exact he)]
          refine ⟨_, true, rfl, fun _ => ?_, by simp⟩
          have := num_dec (x := (valL w : Int)) (by omega) (by omega)
          rw [Int.toNat_natCast, he] at this
          exact this
        · rw [if_neg (by rw [bl_inj]; exact he)]
          refine ⟨_, false, rfl, by simp, fun _ => ?_⟩
          cases hx : num w with
          | none => rfl
          | some x =>
            obtain ⟨a, b, c⟩ := num_some hx
            exfalso; apply he
            rw [c, valL_dec]
      · rw [if_neg hd]
        refine ⟨_, false, rfl, by simp, fun _ => ?_⟩
        cases hx : num w with
        | none => rfl
        | some x =>
          obtain ⟨a, b, c⟩ := num_some hx
          exfalso; apply hd
          rw [c]
          exact dec_dig _

/-! ### words -/
theorem hasPrefix_spec (n : Nat) (w : List UInt8) : stringslite_HasPrefix n (bl w) = some (decide (w.head? = some 115)) := by
  unfold stringslite_HasPrefix
  have e115 : (⟨#[115]⟩ : ByteArray) = bl [115] := rfl
  rw [e115]
  cases w with
  | nil => rw [if_neg (by rw [bl_size]; simp)]; rfl
  | cons c t =>
    rw [if_pos (by rw [bl_size]; simp only [List.length_cons]; omega), if_pos (by rw [bl_size]; simp only [List.length_cons]; omega), bl_ext]
    have e1 : ((c :: t).take (1 : Int).toNat).drop 0 = [c] := rfl
    rw [e1]
    by_cases hc : c = 115
    · subst hc; rw [if_pos rfl]; rfl
    · rw [if_neg (by rw [bl_inj]; simpa using hc)]; simp [hc]
theorem cutPrefix_spec (n : Nat) (w : List UInt8) : strings_CutPrefix n (bl w) = some (if w.head? = some 115 then (bl w.tail, true) else (bl w, false)) := by
  unfold strings_CutPrefix stringslite_CutPrefix
  rw [hasPrefix_spec]
  simp only [Option.bind_some]
  by_cases hc : w.head? = some 115
  · rw [decide_eq_true hc, if_pos hc]
    cases w with
    | nil => simp at hc
    | cons c t =>
      simp only [cond_true]
      rw [if_pos (by rw [bl_size]; simp only [List.length_cons]; omega), bl_ext, bl_size, List.take_length]
      rfl
  · rw [decide_eq_false hc, if_neg hc]
    rfl
theorem script_pick_spec (n : Nat) (w : List UInt8) (hw : w.length ≤ 1000000) : ∃ x, script_pick n (bl w) = some x ∧ InR x.thread ∧ InR x.draw ∧ ∀ p, pk w = some p → x = p := by
  have i0 : InR 0 := by unfold InR; omega
  unfold script_pick
  have e116 : (⟨#[116]⟩ : ByteArray) = bl [116] := rfl
  have e115 : (⟨#[115]⟩ : ByteArray) = bl [115] := rfl
  rw [e116]
  by_cases h0 : w = [116]
  · subst h0
    rw [if_pos rfl]
    exact ⟨_, rfl, i0, i0, fun p hp => by cases hp; rfl⟩
  · rw [if_neg (by rw [bl_inj]; exact h0)]
    have hcp := cutPrefix_spec n w
    rw [hcp]
    simp only [Option.bind_some]
    by_cases hs : w.head? = some 115
    · rw [if_pos hs]
      simp only [cond_true]
      obtain ⟨r, hr, hi, hx⟩ := script_number_spec n w.tail (by simp; omega)
      rw [hr]
      refine ⟨_, rfl, hi, i0, fun p hp => ?_⟩
      unfold pk at hp
      rw [if_neg h0, if_pos hs, Option.map_eq_some_iff] at hp
      obtain ⟨x, h1, rfl⟩ := hp
      rw [hx x h1]
    · rw [if_neg hs]
      simp only [cond_false]
      have hpk : pk w = match cut46 w with
        | some (a, b) => (num a).bind fun x => (num b).bind fun d => if d > 0 then some ⟨0, x, d⟩ else none
        | none => (num w).map fun x => ⟨0, x, 0⟩ := by
        unfold pk; rw [if_neg h0, if_neg hs]; rfl
      unfold strings_Cut stringslite_Cut
      rw [bl_data]
      by_cases hi : Lib.indexByte w 46 ≥ 0
      · obtain ⟨a, b, rfl, ha, hl⟩ := index_split (l := w) (c := 46) hi
        simp only [List.length_append, List.length_cons] at hw
        rw [hl, if_pos (by omega), if_pos (by rw [bl_size]; simp only [List.length_append, List.length_cons]; omega), if_pos (by unfold InR; omega), if_pos (by rw [bl_size]; simp only [List.length_append, List.length_cons]; omega)]
        have e1 : ((a.length : Int) + 1).toNat = a.length + 1 := by omega
        rw [e1, Int.toNat_natCast, bl_ext, bl_ext, bl_size]
        have ea : ((a ++ 46 :: b).take a.length).drop 0 = a := by simp
        have eb : ((a ++ 46 :: b).take (a ++ 46 :: b).length).drop (a.length + 1) = b := by rw [List.take_length]; simp
        rw [ea, eb]
        simp only [Option.bind_some, cond_true]
        obtain ⟨r, hr, hri, hrx⟩ := script_number_spec n a (by omega)
        obtain ⟨d, hd, hdi, hdx⟩ := script_number_spec n b (by omega)
        rw [hr, hd]
        refine ⟨_, rfl, hri, hdi, fun p hp => ?_⟩
        rw [hpk, cut46_at ha] at hp
        simp only [Option.bind_eq_some_iff] at hp
        obtain ⟨x, h1, y, h2, h3⟩ := hp
        split at h3
        · cases h3; rw [hrx x h1, hdx y h2]
        · cases h3
      · rw [if_neg hi]
        simp only [Option.bind_some, cond_false]
        obtain ⟨r, hr, hri, hrx⟩ := script_number_spec n w hw
        rw [hr]
        refine ⟨_, rfl, hri, i0, fun p hp => ?_⟩
        rw [hpk, cut46_none (index_neg (by omega)), Option.map_eq_some_iff] at hp
        obtain ⟨x, h1, rfl⟩ := hp
        rw [hrx x h1]
end Go.Proofs.YtilipgopjiokfaaGreatDoor

/-
  What the program's functions on texts of picks compute: whole texts; the two laws.
-/
set_option linter.unusedVariables false
set_option linter.unusedSimpArgs false
set_option maxRecDepth 10000
namespace Go.Proofs.YtilipgopjiokfaaGreatDoor
open Go Go.Abs Go.Proofs

/-! ### the document's words -/
def pkDot (a b : List UInt8) : Option GPick := (num a).bind fun x => (num b).bind fun d => if d > 0 then some ⟨0, x, d⟩ else none
theorem pick_loop (n : Nat) (hn : 30 ≤ n) : ∀ (rest done : List UInt8) (k : Nat), done.length + rest.length ≤ 1000000 → (∀ c ∈ done, c ≠ 46) → rest.length < k →
    match cut46 (done ++ rest) with
    | some (a, b) => ∃ v x d, vigilref16_pick_L7 (bl (done ++ rest)) n k (done.length : Int) = some (.r v x d) ∧ (v = true → pkDot a b = some ⟨0, x, d⟩) ∧ (v = false → pkDot a b = none)
    | none => ∃ i, vigilref16_pick_L7 (bl (done ++ rest)) n k (done.length : Int) = some (.e0 i) := by
  intro rest
  induction rest with
  | nil =>
    intro done k hl hd hk
    obtain ⟨k, rfl⟩ : ∃ j, k = j + 1 := ⟨k - 1, by omega⟩
    rw [List.append_nil, cut46_none hd]
    refine ⟨(done.length : Int), ?_⟩
    unfold vigilref16_pick_L7
    rw [if_neg (by rw [bl_size]; omega)]
  | cons c rest IH =>
    intro done k hl hd hk
    simp only [List.length_cons] at hl hk
    obtain ⟨k, rfl⟩ : ∃ j, k = j + 1 := ⟨k - 1, by omega⟩
    have hg : (done ++ c :: rest)[done.length]? = some c := by simp
    by_cases hc : c = 46
    · subst hc
      rw [cut46_at hd]
      dsimp only
      obtain ⟨x, ok, h1, h2, h3⟩ := number_spec n hn done
      obtain ⟨y, ok2, g1, g2, g3⟩ := number_spec n hn rest
      have hL : vigilref16_pick_L7 (bl (done ++ 46 :: rest)) n (k + 1) (done.length : Int) = (bif ok then bif ok2 then if y > 0 then some (.r true x y) else some (.r false x y) else some (.r false x y) else some (.r false x y)) := by
       rw [vigilref16_pick_L7, if_pos (by rw [bl_size]; simp only [List.length_append, List.length_cons]; omega), bl_byte, hg]
       simp only [Option.map_some, Option.bind_some]
       rw [if_pos (by decide), if_pos (by rw [bl_size]; simp only [List.length_append, List.length_cons]; omega), bl_ext, Int.toNat_natCast]
       have ea : ((done ++ 46 :: rest).take done.length).drop 0 = done := by simp
       have e1 : ((done.length : Int) + 1).toNat = done.length + 1 := by omega
       have eb : ((done ++ 46 :: rest).take (done ++ 46 :: rest).length).drop (done.length + 1) = rest := by rw [List.take_length]; simp
       rw [ea, h1, Option.bind_some]
       refine (if_pos (by unfold InR; omega)).trans ?_
       refine (if_pos (by rw [bl_size]; simp only [List.length_append, List.length_cons]; omega)).trans ?_
       rw [e1, bl_size, bl_ext, eb, g1, Option.bind_some]
      rw [hL]
      cases ok with
      | true =>
        simp only [cond_true]
        cases ok2 with
        | true =>
          simp only [cond_true]
          by_cases hy : y > 0
          · rw [if_pos hy]
            exact ⟨_, _, _, rfl, fun _ => by unfold pkDot; rw [h2 rfl, g2 rfl]; simp [hy], by simp⟩
          · rw [if_neg hy]
            exact ⟨_, _, _, rfl, by simp, fun _ => by unfold pkDot; rw [h2 rfl, g2 rfl]; simp [hy]⟩
        | false => exact ⟨_, _, _, rfl, by simp, fun _ => by unfold pkDot; rw [h2 rfl, g3 rfl]; simp⟩
      | false => exact ⟨_, _, _, rfl, by simp, fun _ => by unfold pkDot; rw [h3 rfl]; simp⟩
    · have hcn : ¬ (c.toNat : Int) = 46 := by
        intro hh
        apply hc
        apply UInt8.toNat_inj.1
        show c.toNat = 46
        omega
      have hd' : ∀ x ∈ done ++ [c], x ≠ 46 := by
        intro x hx
        rcases List.mem_append.1 hx with hx | hx
        · exact hd x hx
        · simp only [List.mem_singleton] at hx; subst hx; exact hc
      have ih := IH (done ++ [c]) k (by simp; omega) hd' (by omega)
      have e3 : (done ++ [c]) ++ rest = done ++ c :: rest := by simp
      have e2 : (((done ++ [c]).length : Nat) : Int) = (done.length : Int) + 1 := by simp
      rw [e3, e2] at ih
      have hun : vigilref16_pick_L7 (bl (done ++ c :: rest)) n (k + 1) (done.length : Int) = vigilref16_pick_L7 (bl (done ++ c :: rest)) n k ((done.length : Int) + 1) := by
        rw [vigilref16_pick_L7, if_pos (by rw [bl_size]; simp only [List.length_append, List.length_cons]; omega), bl_byte, hg]
        simp only [Option.map_some, Option.bind_some]
        rw [if_neg hcn, if_pos (by unfold InR; omega)]
      rw [hun]
      exact ih
theorem pick_spec (n : Nat) (hn : 30 ≤ n) (w : List UInt8) (hw : w.length < n) (hw2 : w.length ≤ 1000000) : ∃ x ok, vigilref16_pick n (bl w) = some (x, ok) ∧ (ok = true → pk w = some x) ∧ (ok = false → pk w = none) := by
  unfold vigilref16_pick
  have e116 : (⟨#[116]⟩ : ByteArray) = bl [116] := rfl
  rw [e116]
  by_cases h0 : w = [116]
  · subst h0
    rw [if_pos rfl]
    exact ⟨_, true, rfl, fun _ => rfl, by simp⟩
  · rw [if_neg (by rw [bl_inj]; exact h0)]
    cases w with
    | nil =>
      rw [if_neg (by rw [bl_size]; simp)]
      cases n with
      | zero => omega
      | succ n =>
        have : vigilref16_pick_L7_2 (bl []) (n + 1) (n + 1) 0 = some (.e0 0) := by
          unfold vigilref16_pick_L7_2
          rw [if_neg (by rw [bl_size]; simp)]
        rw [this]
        simp only [Option.bind_some]
        obtain ⟨x, ok, h1, h2, h3⟩ := number_spec (n + 1) hn []
        rw [h1]
        have hnum : num [] = none := rfl
        refine ⟨_, ok, rfl, fun h => ?_, fun _ => rfl⟩
        have := h2 h
        rw [hnum] at this; cases this
    | cons c t =>
      rw [if_pos (by rw [bl_size]; simp only [List.length_cons]; omega)]
      have hb : byteI (bl (c :: t)) 0 = some (c.toNat : Int) := by
        have := bl_byte (c :: t) 0
        simpa using this
      rw [hb]
      simp only [Option.bind_some]
      by_cases hc : c = 115
      · subst hc
        rw [if_pos (by decide), if_pos (by rw [bl_size]; simp only [List.length_cons]; omega), bl_size, bl_ext, List.take_length]
        have e1 : (115 :: t : List UInt8).drop (1 : Int).toNat = t := rfl
        rw [e1]
        obtain ⟨x, ok, h1, h2, h3⟩ := number_spec n hn t
        rw [h1]
        have hpk : pk (115 :: t) = (num t).map fun x => ⟨1, x, 0⟩ := by
          unfold pk; rw [if_neg h0, if_pos (show (115 :: t : List UInt8).head? = some 115 from rfl)]; rfl
        refine ⟨_, ok, rfl, fun h => ?_, fun h => ?_⟩
        · rw [hpk, h2 h]; rfl
        · rw [hpk, h3 h]; rfl
      · have hcn : ¬ (c.toNat : Int) = 115 := by
          intro hh
          apply hc
          apply UInt8.toNat_inj.1
          show c.toNat = 115
          omega
        rw [if_neg hcn]
        have hpk : pk (c :: t) = match cut46 (c :: t) with
          | some (a, b) => pkDot a b
          | none => (num (c :: t)).map fun x => ⟨0, x, 0⟩ := by
          unfold pk; rw [if_neg h0, if_neg (by simpa using hc)]; rfl
        have hloop := pick_loop n hn (c :: t) [] n (by simpa using hw2) (by simp) hw
        rw [List.nil_append] at hloop
        have ez : (([] : List UInt8).length : Int) = 0 := rfl
        rw [ez] at hloop
        cases hcut : cut46 (c :: t) with
        | some ab =>
          obtain ⟨a, b⟩ := ab
          rw [hcut] at hloop hpk
          obtain ⟨v, x, d, h1, h2, h3⟩ := hloop
          rw [h1]
          refine ⟨_, v, rfl, fun h => ?_, fun h => ?_⟩
          · rw [hpk]; exact h2 h
          · rw [hpk]; exact h3 h
        | none =>
          rw [hcut] at hloop hpk
          obtain ⟨i, h1⟩ := hloop
          rw [h1]
          simp only [Option.bind_some]
          obtain ⟨x, ok, g1, g2, g3⟩ := number_spec n hn (c :: t)
          rw [g1]
          refine ⟨_, ok, rfl, fun h => ?_, fun h => ?_⟩
          · rw [hpk]; dsimp only; rw [g2 h]; rfl
          · rw [hpk]; dsimp only; rw [g3 h]; rfl

/-! ### a text's picks -/
theorem part_spec (n : Nat) (w : List UInt8) (acc : List GPick) (hw : w.length ≤ 1000000) (ha : acc.length < 20000) :
    match pk w with
    | some p => script_Parse_R6 n (bl w) acc = some (.m (acc ++ [p]) p.kind p.thread p.draw)
    | none => ∃ a b c, script_Parse_R6 n (bl w) acc = some (.r acc a b c) := by
  obtain ⟨x, h1, i1, i2, h2⟩ := script_pick_spec n w hw
  obtain ⟨b, ok, g1, g2, g3⟩ := script_text_spec n x i1 i2
  unfold script_Parse_R6
  rw [h1]
  simp only [Option.bind_some]
  rw [g1]
  simp only [Option.bind_some]
  cases hp : pk w with
  | some p =>
    have := h2 p hp
    subst this
    have ht := txt_pk hp
    cases ok with
    | false => rw [g3 rfl] at ht; cases ht
    | true =>
      obtain ⟨w', rfl, hw'⟩ := g2 rfl
      rw [ht] at hw'
      cases hw'
      simp only [cond_true]
      rw [if_pos trivial, if_neg (by omega), if_pos (by unfold Room; simp; omega)]
  | none =>
    cases ok with
    | false => exact ⟨_, _, _, rfl⟩
    | true =>
      obtain ⟨w', rfl, hw'⟩ := g2 rfl
      simp only [cond_true]
      rw [if_neg]
      · exact ⟨_, _, _, rfl⟩
      · rw [bl_inj]
        rintro rfl
        rw [pk_txt hw'] at hp; cases hp
theorem parts_index (s : List UInt8) : parts s = if Lib.indexByte s 32 < 0 then [s] else s.take (Lib.indexByte s 32).toNat :: parts (s.drop (Lib.indexByte s 32 + 1).toNat) := by
  by_cases h : Lib.indexByte s 32 < 0
  · rw [if_pos h]; exact parts_none (index_neg h)
  · rw [if_neg h]
    obtain ⟨p, q, rfl, hp, hl⟩ := index_split (l := s) (c := 32) (by omega)
    have e1 : ((p.length : Int) + 1).toNat = p.length + 1 := by omega
    rw [hl, e1, Int.toNat_natCast, parts_at hp]
    simp
theorem splitL_end {α O : Type} {c : UInt8} {B : ByteArray → α → Option O} {next : O → Option α} {k : Nat} {s : List UInt8} {a : α} (hs : s.length ≤ 281474976710656) (h : Lib.indexByte s c < 0) : splitL c B next (k + 1) (bl s) a = (B (bl s) a).map fun o => (o, bl s) := by
  rw [splitL, if_pos (by rw [bl_size]; omega), bl_data, if_pos h]
theorem splitL_on {α O : Type} {c : UInt8} {B : ByteArray → α → Option O} {next : O → Option α} {k : Nat} {p q : List UInt8} {a a' : α} {o : O} (hp : ∀ b ∈ p, b ≠ c) (hs : (p ++ c :: q).length ≤ 281474976710656) (hB : B (bl p) a = some o) (hn : next o = some a') : splitL c B next (k + 1) (bl (p ++ c :: q)) a = splitL c B next k (bl q) a' := by
  have e0 : ((p.length : Int) + 0).toNat = p.length := by omega
  have e1 : ((p.length : Int) + 1).toNat = p.length + 1 := by omega
  have ea : ((p ++ c :: q).take p.length).drop 0 = p := by simp
  have eb : ((p ++ c :: q).take (p ++ c :: q).length).drop (p.length + 1) = q := by rw [List.take_length]; simp
  rw [splitL, if_pos (by rw [bl_size]; omega), bl_data, index_at hp, if_neg (by omega), e0, e1, bl_size, bl_ext, bl_ext, ea, eb, hB]
  simp only [Option.bind_some, hn]
theorem splitL_stop {α O : Type} {c : UInt8} {B : ByteArray → α → Option O} {next : O → Option α} {k : Nat} {p q : List UInt8} {a : α} {o : O} (hp : ∀ b ∈ p, b ≠ c) (hs : (p ++ c :: q).length ≤ 281474976710656) (hB : B (bl p) a = some o) (hn : next o = none) : splitL c B next (k + 1) (bl (p ++ c :: q)) a = some (o, bl (p ++ c :: q)) := by
  have e0 : ((p.length : Int) + 0).toNat = p.length := by omega
  have ea : ((p ++ c :: q).take p.length).drop 0 = p := by simp
  rw [splitL, if_pos (by rw [bl_size]; omega), bl_data, index_at hp, if_neg (by omega), e0, bl_ext, ea, hB]
  simp only [Option.bind_some, hn]
theorem split_spec (n : Nat) : ∀ (k : Nat) (s : List UInt8) (acc : List GPick), s.length ≤ 10000 → (parts s).length ≤ k → acc.length + (parts s).length ≤ 19000 →
    match (parts s).mapM pk with
    | some ps => ∃ a b c t, splitL 32 (fun w a => script_Parse_R6 n w a) script_Parse_R6n k (bl s) acc = some (.m (acc ++ ps) a b c, t)
    | none => ∃ l a b c t, splitL 32 (fun w a => script_Parse_R6 n w a) script_Parse_R6n k (bl s) acc = some (.r l a b c, t)
  | 0, s, acc, _, hk, _ => absurd (List.length_eq_zero_iff.1 (Nat.le_zero.1 hk)) (parts_ne s)
  | k + 1, s, acc, hs, hk, ha => by
    have hpos : 0 < (parts s).length := by
      cases hp : parts s with
      | nil => exact absurd hp (parts_ne s)
      | cons _ _ => simp
    by_cases h : Lib.indexByte s 32 < 0
    · rw [splitL_end (by omega) h]
      have hp : parts s = [s] := by rw [parts_index, if_pos h]
      have hpart := part_spec n s acc (by omega) (by omega)
      rw [hp]
      cases hk : pk s with
      | some p =>
        rw [hk] at hpart
        have : ([s] : List (List UInt8)).mapM pk = some [p] := by simp [hk]
        rw [this, hpart]
        exact ⟨_, _, _, _, rfl⟩
      | none =>
        rw [hk] at hpart
        obtain ⟨a, b, c, hpart⟩ := hpart
        have : ([s] : List (List UInt8)).mapM pk = none := by simp [hk]
        rw [this, hpart]
        exact ⟨_, _, _, _, _, rfl⟩
    · obtain ⟨p, q, rfl, hpp, hl⟩ := index_split (l := s) (c := 32) (by omega)
      have hp : parts (p ++ 32 :: q) = p :: parts q := parts_at hpp
      rw [hp] at hk ha ⊢
      simp only [List.length_append, List.length_cons] at hs hk ha
      have hpart := part_spec n p acc (by omega) (by omega)
      cases hpk : pk p with
      | some x =>
        rw [hpk] at hpart
        rw [splitL_on hpp (by simp only [List.length_append, List.length_cons]; omega) hpart rfl]
        have ih := split_spec n k q (acc ++ [x]) (by omega) (by omega) (by simp; omega)
        have hm : (p :: parts q).mapM pk = ((parts q).mapM pk).map (x :: ·) := by
          rw [List.mapM_cons, hpk]
          cases (parts q).mapM pk <;> rfl
        rw [hm]
        cases hq : (parts q).mapM pk with
        | some ps =>
          rw [hq] at ih
          obtain ⟨a, b, c, t, ih⟩ := ih
          refine ⟨a, b, c, t, ?_⟩
          rw [ih]; simp
        | none => rw [hq] at ih; exact ih
      | none =>
        rw [hpk] at hpart
        obtain ⟨a, b, c, hpart⟩ := hpart
        rw [splitL_stop hpp (by simp only [List.length_append, List.length_cons]; omega) hpart rfl]
        have hm : (p :: parts q).mapM pk = none := by rw [List.mapM_cons, hpk]; rfl
        rw [hm]
        exact ⟨_, _, _, _, _, rfl⟩
/-- The picks of a text. -/
def picksOf (s : List UInt8) : Option (List GPick) := if s = [] then some [] else (parts s).mapM pk
theorem parse_spec (n : Nat) (hn : 30000 ≤ n) (s : List UInt8) (hs : s.length ≤ 10000) : ∃ c e, script_Parse n (bl s) = some (c, e) ∧ (∀ ps, picksOf s = some ps → e = 0 ∧ c.l = ps) ∧ (picksOf s = none → e = 2 ∧ c.l = []) := by
  unfold script_Parse
  have e0 : (⟨#[]⟩ : ByteArray) = bl [] := rfl
  rw [e0]
  by_cases h : s = []
  · subst h
    rw [if_pos rfl]
    exact ⟨_, _, rfl, fun ps hp => by cases hp; exact ⟨rfl, rfl⟩, fun hp => by cases hp⟩
  · rw [if_neg (by rw [bl_inj]; exact h)]
    have hss : strings_SplitSeq n (bl s) = some () := rfl
    rw [hss]
    simp only [Option.bind_some]
    have hl := parts_len s
    have hsp := split_spec n n s [] hs (by omega) (by simp; omega)
    have hpo : picksOf s = (parts s).mapM pk := by unfold picksOf; rw [if_neg h]
    unfold script_Parse_R6l
    rw [hpo]
    cases hm : (parts s).mapM pk with
    | some ps =>
      rw [hm] at hsp
      obtain ⟨a, b, c, t, hsp⟩ := hsp
      rw [hsp]
      refine ⟨_, _, rfl, fun ps' hp => ?_, fun hp => by cases hp⟩
      cases hp
      exact ⟨rfl, by simp [Sl.gr]⟩
    | none =>
      rw [hm] at hsp
      obtain ⟨l, a, b, c, t, hsp⟩ := hsp
      rw [hsp]
      exact ⟨_, _, rfl, fun ps' hp => (by cases hp), fun _ => ⟨rfl, rfl⟩⟩
theorem rparse_loop (n : Nat) (hn : 30000 ≤ n) (s : List UInt8) (hs : s.length ≤ 10000) (h0 : s ≠ []) : ∀ (m k : Nat) (acc : List GPick) (fr i : Nat), m = s.length - i → m + 1 < k → fr ≤ i → i ≤ s.length → (∀ c ∈ (s.drop fr).take (i - fr), c ≠ 32) → acc.length + m ≤ 15000 →
    match (parts (s.drop fr)).mapM pk with
    | some ps => ∃ a b, vigilref16_Parse_L4 (bl s) n k acc (fr : Int) (i : Int) = some (.e0 (acc ++ ps) a b)
    | none => ∃ a b c, vigilref16_Parse_L4 (bl s) n k acc (fr : Int) (i : Int) = some (.r a b c)
  | m, 0, acc, fr, i, _, hk, _, _, _, _ => by omega
  | m, k + 1, acc, fr, i, hm, hk, hfi, hi, hd, ha => by
    have e0 : (⟨#[]⟩ : ByteArray) = bl [] := rfl
    have hne : ¬ bl s = (⟨#[]⟩ : ByteArray) := by rw [e0, bl_inj]; exact h0
    rw [vigilref16_Parse_L4, if_pos (by rw [bl_size]; omega), if_neg hne]
    have hext : (bl s).extract ((fr : Nat) : Int).toNat ((i : Nat) : Int).toNat = bl ((s.drop fr).take (i - fr)) := by
      rw [Int.toNat_natCast, Int.toNat_natCast, bl_ext, List.drop_take]
    by_cases hlt : i < s.length
    · rw [if_pos (by rw [bl_size]; omega), bl_byte, List.getElem?_eq_getElem hlt]
      simp only [Option.map_some, Option.bind_some]
      have hsplit : s.drop fr = (s.drop fr).take (i - fr) ++ s[i] :: s.drop (i + 1) := by
        have h1 : (s.drop fr).drop (i - fr) = s.drop i := by rw [List.drop_drop]; congr 1; omega
        have h2 : s.drop i = s[i] :: s.drop (i + 1) := List.drop_eq_getElem_cons hlt
        rw [← h2, ← h1, List.take_append_drop]
      by_cases hc : s[i] = 32
      · rw [if_neg (by rw [hc]; decide), if_pos (by rw [bl_size]; omega), hext]
        rw [hc] at hsplit
        have hp : parts (s.drop fr) = (s.drop fr).take (i - fr) :: parts (s.drop (i + 1)) := by
          conv => lhs; rw [hsplit]
          exact parts_at hd
        rw [hp]
        have hwl : ((s.drop fr).take (i - fr)).length ≤ 10000 := by simp; omega
        obtain ⟨x, ok, h1, h2, h3⟩ := pick_spec n (by omega) ((s.drop fr).take (i - fr)) (by omega) (by omega)
        rw [h1]
        simp only [Option.bind_some]
        cases ok with
        | false =>
          have hmm : ((s.drop fr).take (i - fr) :: parts (s.drop (i + 1))).mapM pk = none := by rw [List.mapM_cons, h3 rfl]; rfl
          rw [hmm]
          exact ⟨_, _, _, rfl⟩
        | true =>
          simp only [cond_true]
          rw [if_neg (by omega), if_pos (by unfold Room; simp; omega), if_pos (by unfold InR; omega)]
          have ih := rparse_loop n hn s hs h0 (m - 1) k (acc ++ [x]) (i + 1) (i + 1) (by omega) (by omega) (by omega) (by omega) (by simp) (by simp; omega)
          have hmm : ((s.drop fr).take (i - fr) :: parts (s.drop (i + 1))).mapM pk = ((parts (s.drop (i + 1))).mapM pk).map (x :: ·) := by
            rw [List.mapM_cons, h2 rfl]
            cases (parts (s.drop (i + 1))).mapM pk <;> rfl
          have ei : ((i : Nat) : Int) + 1 = ((i + 1 : Nat) : Int) := by omega
          rw [hmm, ei]
          cases hq : (parts (s.drop (i + 1))).mapM pk with
          | some ps =>
            rw [hq] at ih
            obtain ⟨a, b, ih⟩ := ih
            exact ⟨a, b, by rw [ih]; simp⟩
          | none => rw [hq] at ih; exact ih
      · have hcn : (s[i].toNat : Int) ≠ 32 := by
          intro hh
          apply hc
          apply UInt8.toNat_inj.1
          show s[i].toNat = 32
          omega
        rw [if_pos hcn, if_pos (by unfold InR; omega)]
        have ei : ((i : Nat) : Int) + 1 = ((i + 1 : Nat) : Int) := by omega
        rw [ei]
        refine rparse_loop n hn s hs h0 (m - 1) k acc fr (i + 1) (by omega) (by omega) (by omega) (by omega) ?_ (by omega)
        have : (s.drop fr).take (i + 1 - fr) = (s.drop fr).take (i - fr) ++ [s[i]] := by
          have e : i + 1 - fr = (i - fr) + 1 := by omega
          rw [e, List.take_add_one]
          congr 1
          rw [List.getElem?_drop]
          have : fr + (i - fr) = i := by omega
          rw [this, List.getElem?_eq_getElem hlt]; rfl
        rw [this]
        intro x hx
        rcases List.mem_append.1 hx with hx | hx
        · exact hd x hx
        · simp only [List.mem_singleton] at hx; subst hx; exact hc
    · have hie : i = s.length := by omega
      rw [if_neg (by rw [bl_size]; omega), if_pos (by rw [bl_size]; omega), hext]
      have htk : (s.drop fr).take (i - fr) = s.drop fr := by rw [hie]; apply List.take_of_length_le; simp
      rw [htk] at hd ⊢
      have hp : parts (s.drop fr) = [s.drop fr] := parts_none hd
      rw [hp]
      obtain ⟨x, ok, h1, h2, h3⟩ := pick_spec n (by omega) (s.drop fr) (by simp; omega) (by simp; omega)
      rw [h1]
      simp only [Option.bind_some]
      cases ok with
      | false =>
        have hmm : ([s.drop fr] : List (List UInt8)).mapM pk = none := by simp [h3 rfl]
        rw [hmm]
        exact ⟨_, _, _, rfl⟩
      | true =>
        have hmm : ([s.drop fr] : List (List UInt8)).mapM pk = some [x] := by simp [h2 rfl]
        rw [hmm]
        simp only [cond_true]
        rw [if_neg (by omega), if_pos (by unfold Room; simp; omega), if_pos (by unfold InR; omega)]
        cases k with
        | zero => omega
        | succ k =>
          rw [vigilref16_Parse_L4, if_neg (by rw [bl_size]; omega)]
          exact ⟨_, _, rfl⟩
theorem rparse_spec (n : Nat) (hn : 30000 ≤ n) (s : List UInt8) (hs : s.length ≤ 10000) : ∃ c e, vigilref16_Parse n (bl s) = some (c, e) ∧ (∀ ps, picksOf s = some ps → e = 0 ∧ c.l = ps) ∧ (picksOf s = none → e = 2 ∧ c.l = []) := by
  unfold vigilref16_Parse
  by_cases h : s = []
  · subst h
    have hl : vigilref16_Parse_L4 (bl []) n n [] 0 0 = some (.e0 [] 0 0) := by
      cases n with
      | zero => omega
      | succ n =>
        rw [vigilref16_Parse_L4, if_pos (by rw [bl_size]; simp), if_pos (show bl [] = (⟨#[]⟩ : ByteArray) from rfl)]
    rw [hl]
    exact ⟨_, _, rfl, fun ps hp => by cases hp; exact ⟨rfl, rfl⟩, fun hp => by cases hp⟩
  · have hpo : picksOf s = (parts s).mapM pk := by unfold picksOf; rw [if_neg h]
    have hloop := rparse_loop n hn s hs h s.length n [] 0 0 (by omega) (by omega) (by omega) (by omega) (by simp) (by simp; omega)
    rw [List.drop_zero] at hloop
    have ez : ((0 : Nat) : Int) = 0 := rfl
    rw [ez] at hloop
    rw [hpo]
    cases hm : (parts s).mapM pk with
    | some ps =>
      rw [hm] at hloop
      obtain ⟨a, b, hloop⟩ := hloop
      rw [hloop]
      refine ⟨_, _, rfl, fun ps' hp => ?_, fun hp => by cases hp⟩
      cases hp
      exact ⟨rfl, by simp [Sl.gr]⟩
    | none =>
      rw [hm] at hloop
      obtain ⟨a, b, c, hloop⟩ := hloop
      rw [hloop]
      exact ⟨_, _, rfl, fun ps' hp => (by cases hp), fun _ => ⟨rfl, rfl⟩⟩
end Go.Proofs.YtilipgopjiokfaaGreatDoor

/-
  Picks as a text; the two laws.
-/
set_option linter.unusedVariables false
set_option linter.unusedSimpArgs false
set_option maxRecDepth 10000
namespace Go.Proofs.YtilipgopjiokfaaGreatDoor
open Go Go.Abs Go.Proofs

def Fits (p : GPick) : Prop := InR p.thread ∧ InR p.draw
theorem atI_nat {α : Type} (l : List α) (i : Nat) : atI l (i : Int) = l[i]? := by
  unfold atI; rw [if_pos (by omega), Int.toNat_natCast]
def TextOf (p : GPick) (b : ByteArray) (ok : Bool) : Prop := (ok = true → ∃ w, b = bl w ∧ txt p = some w) ∧ (ok = false → txt p = none)
theorem mapM_cons_txt (p : GPick) (l : List GPick) : (p :: l).mapM txt = (txt p).bind fun w => (l.mapM txt).map (w :: ·) := by
  rw [List.mapM_cons]
  cases txt p with
  | none => rfl
  | some w => cases l.mapM txt <;> rfl
theorem put_loop (n : Nat) (p0 : Sl GPick) (hf : ∀ p ∈ p0.l, Fits p) (hl : p0.l.length ≤ 20000) : ∀ (rest pre : List GPick) (done : List ByteArray) (k : Nat), p0.l = pre ++ rest → done.length = pre.length → rest.length < k →
    match rest.mapM txt with
    | some ts => ∃ i, script_Put_L5 p0 n k (pre.length : Int) (done ++ List.replicate rest.length (⟨#[]⟩ : ByteArray)) = some (.e0 i (done ++ ts.map bl))
    | none => ∃ o a b c, script_Put_L5 p0 n k (pre.length : Int) (done ++ List.replicate rest.length (⟨#[]⟩ : ByteArray)) = some (.r o a b c) := by
  intro rest
  induction rest with
  | nil =>
    intro pre done k he hd hk
    obtain ⟨k, rfl⟩ : ∃ j, k = j + 1 := ⟨k - 1, by omega⟩
    refine ⟨(pre.length : Int), ?_⟩
    rw [script_Put_L5, if_neg (by rw [he]; simp)]
    simp
  | cons p rest IH =>
    intro pre done k he hd hk
    simp only [List.length_cons] at hk
    obtain ⟨k, rfl⟩ : ∃ j, k = j + 1 := ⟨k - 1, by omega⟩
    have hlen : p0.l.length = pre.length + (rest.length + 1) := by rw [he]; simp
    have hg : p0.l[pre.length]? = some p := by rw [he]; simp
    have hp := hf p (by rw [he]; simp)
    obtain ⟨b, ok, h1, h2, h3⟩ := script_text_spec n p hp.1 hp.2
    rw [mapM_cons_txt]
    cases ok with
    | false =>
      have hL : script_Put_L5 p0 n (k + 1) (pre.length : Int) (done ++ List.replicate (p :: rest).length (⟨#[]⟩ : ByteArray)) = some (.r (done ++ List.replicate (p :: rest).length (⟨#[]⟩ : ByteArray)) p.kind p.thread p.draw) := by
        rw [script_Put_L5, if_pos (by omega), atI_nat, hg, Option.bind_some, h1, Option.bind_some]
        rfl
      rw [h3 rfl]
      exact ⟨_, _, _, _, hL⟩
    | true =>
      obtain ⟨w, rfl, hw⟩ := h2 rfl
      have hL : script_Put_L5 p0 n (k + 1) (pre.length : Int) (done ++ List.replicate (p :: rest).length (⟨#[]⟩ : ByteArray)) = script_Put_L5 p0 n k ((pre ++ [p]).length : Int) ((done ++ [bl w]) ++ List.replicate rest.length (⟨#[]⟩ : ByteArray)) := by
        have ho : (done ++ List.replicate (p :: rest).length (⟨#[]⟩ : ByteArray))[pre.length]? = some (⟨#[]⟩ : ByteArray) := by
          rw [← hd]; simp [List.replicate_succ]
        have hs : (done ++ List.replicate (p :: rest).length (⟨#[]⟩ : ByteArray)).set pre.length (bl w) = (done ++ [bl w]) ++ List.replicate rest.length (⟨#[]⟩ : ByteArray) := by
          rw [← hd]; simp [List.replicate_succ]
        have e1 : (pre.length : Int) + 1 = ((pre ++ [p]).length : Int) := by simp
        rw [script_Put_L5, if_pos (by omega), atI_nat, hg, Option.bind_some, h1, Option.bind_some]
        refine (if_pos (by omega)).trans ?_
        rw [atI_nat, ho, Option.bind_some]
        refine (if_pos (by unfold InR; omega)).trans ?_
        rw [Int.toNat_natCast, hs, e1]
      rw [hw, Option.bind_some, hL]
      have ih := IH (pre ++ [p]) (done ++ [bl w]) k (by rw [he]; simp) (by simp [hd]) (by omega)
      cases hm : rest.mapM txt with
      | none => rw [hm] at ih; exact ih
      | some ts =>
        rw [hm] at ih
        obtain ⟨i, ih⟩ := ih
        exact ⟨i, by rw [ih]; simp⟩
theorem join_snoc (w : List UInt8) : ∀ ts : List (List UInt8), Lib.join (ts ++ [w]) [32] = if ts = [] then w else Lib.join ts [32] ++ 32 :: w
  | [] => by rw [if_pos rfl, List.nil_append, Lib.join_one]
  | t :: ts => by
    rw [if_neg (by simp), List.cons_append, Lib.join_cons, Lib.join_cons]
    simp [Lib.joinTail]
theorem join_len : ∀ ts : List (List UInt8), (∀ t ∈ ts, t.length ≤ 13) → (Lib.join ts [32]).length ≤ 14 * ts.length := by
  intro ts
  induction h : ts.length generalizing ts with
  | zero => intro _; have := List.length_eq_zero_iff.1 h; subst this; simp [Lib.join_nil]
  | succ m ih =>
    intro hd
    obtain ⟨l', c, rfl⟩ : ∃ l' c, ts = l' ++ [c] := ⟨ts.dropLast, ts.getLast (by intro hh; subst hh; simp at h), (List.dropLast_concat_getLast _).symm⟩
    have h1 := ih l' (by simpa using h) (fun c hc => hd c (by simp [hc]))
    have h2 := hd c (by simp)
    rw [join_snoc]
    split
    · omega
    · simp only [List.length_append, List.length_cons]; omega
theorem joinB_bl (ts : List (List UInt8)) : joinB (ts.map bl) (⟨#[32]⟩ : ByteArray) = bl (Lib.join ts [32]) := by
  unfold joinB
  have e : (ts.map bl).map (fun b => b.data.toList) = ts := by
    rw [List.map_map]
    conv => rhs; rw [← List.map_id ts]
    exact List.map_congr_left fun a _ => bl_data a
  rw [e]; rfl
theorem mapM_len : ∀ {l : List GPick} {ts : List (List UInt8)}, l.mapM txt = some ts → ts.length = l.length ∧ ∀ t ∈ ts, t.length ≤ 13 ∧ t ≠ [] ∧ ∀ b ∈ t, b ≠ 32
  | [], ts, h => by simp at h; subst h; simp
  | p :: l, ts, h => by
    rw [mapM_cons_txt, Option.bind_eq_some_iff] at h
    obtain ⟨w, hw, h⟩ := h
    rw [Option.map_eq_some_iff] at h
    obtain ⟨us, hu, rfl⟩ := h
    obtain ⟨h1, h2⟩ := mapM_len hu
    refine ⟨by simp [h1], fun t ht => ?_⟩
    rcases List.mem_cons.1 ht with rfl | ht
    · obtain ⟨a, b, c⟩ := txt_bytes hw; exact ⟨c, b, a⟩
    · exact h2 t ht
/-- A list's text, or the error. -/
abbrev PutRes (l : List GPick) (a : ByteArray) (e : Int) : Prop := (∀ ts, l.mapM txt = some ts → e = 0 ∧ a = bl (Lib.join ts [32])) ∧ (l.mapM txt = none → e = 2 ∧ a = bl [])
theorem PutRes.eq {l : List GPick} {a b : ByteArray} {e f : Int} (h : PutRes l a e) (k : PutRes l b f) : a = b ∧ e = f := by
  cases hm : l.mapM txt with
  | none => obtain ⟨h1, h2⟩ := h.2 hm; obtain ⟨k1, k2⟩ := k.2 hm; exact ⟨h2.trans k2.symm, h1.trans k1.symm⟩
  | some ts => obtain ⟨h1, h2⟩ := h.1 ts hm; obtain ⟨k1, k2⟩ := k.1 ts hm; exact ⟨h2.trans k2.symm, h1.trans k1.symm⟩
theorem put_spec (n : Nat) (hn : 30000 ≤ n) (p0 : Sl GPick) (hf : ∀ p ∈ p0.l, Fits p) (hl : p0.l.length ≤ 20000) : ∃ a e, script_Put n p0 = some (a, e) ∧ PutRes p0.l a e := by
  have hloop := put_loop n p0 hf hl p0.l [] [] n rfl rfl (by omega)
  simp only [List.nil_append, List.length_nil] at hloop
  have ez : ((0 : Nat) : Int) = 0 := rfl
  rw [ez] at hloop
  cases hm : p0.l.mapM txt with
  | none =>
    rw [hm] at hloop
    obtain ⟨o, a, b, c, hloop⟩ := hloop
    refine ⟨bl [], 2, ?_, fun ts h => (by rw [hm] at h; cases h), fun _ => ⟨rfl, rfl⟩⟩
    rw [script_Put, if_neg (by omega), if_pos (by unfold Mk; omega), hloop]
    rfl
  | some ts =>
    rw [hm] at hloop
    obtain ⟨i, hloop⟩ := hloop
    obtain ⟨h1, h2⟩ := mapM_len hm
    have hj := join_len ts fun t ht => (h2 t ht).1
    refine ⟨bl (Lib.join ts [32]), 0, ?_, fun ts' h => by rw [hm] at h; cases h; exact ⟨rfl, rfl⟩, fun h => by rw [hm] at h; cases h⟩
    rw [script_Put, if_neg (by omega), if_pos (by unfold Mk; omega), hloop, Option.bind_some]
    refine (if_pos (by simp [h1])).trans ?_
    refine (if_pos (by simp; omega)).trans ?_
    rw [joinB_bl]
    exact if_pos (by rw [bl_size]; omega)
theorem rput_loop (n : Nat) (hn : 30 ≤ n) (p0 : Sl GPick) (hl : p0.l.length ≤ 20000) : ∀ (rest pre : List GPick) (done : List (List UInt8)) (k : Nat), p0.l = pre ++ rest → done.length = pre.length → (∀ t ∈ done, t.length ≤ 13) → rest.length < k →
    match rest.mapM txt with
    | some ts => ∃ i, vigilref16_Put_L5 p0 n k (bl (Lib.join done [32])) (pre.length : Int) = some (.e0 (bl (Lib.join (done ++ ts) [32])) i)
    | none => vigilref16_Put_L5 p0 n k (bl (Lib.join done [32])) (pre.length : Int) = some .r := by
  intro rest
  induction rest with
  | nil =>
    intro pre done k he hd hb hk
    obtain ⟨k, rfl⟩ : ∃ j, k = j + 1 := ⟨k - 1, by omega⟩
    refine ⟨(pre.length : Int), ?_⟩
    rw [vigilref16_Put_L5, if_neg (by rw [he]; simp)]
    simp
  | cons p rest IH =>
    intro pre done k he hd hb hk
    simp only [List.length_cons] at hk
    obtain ⟨k, rfl⟩ : ∃ j, k = j + 1 := ⟨k - 1, by omega⟩
    have hlen : p0.l.length = pre.length + (rest.length + 1) := by rw [he]; simp
    have hg : p0.l[pre.length]? = some p := by rw [he]; simp
    obtain ⟨b, ok, h1, h2, h3⟩ := one_spec n hn p
    rw [mapM_cons_txt]
    cases ok with
    | false =>
      have hL : vigilref16_Put_L5 p0 n (k + 1) (bl (Lib.join done [32])) (pre.length : Int) = some .r := by
        rw [vigilref16_Put_L5, if_pos (by omega), atI_nat, hg, Option.bind_some, h1, Option.bind_some]
        rfl
      rw [h3 rfl]
      exact hL
    | true =>
      obtain ⟨w, rfl, hw⟩ := h2 rfl
      have hwl := (txt_bytes hw).2.2
      have hj := join_len done hb
      have hL : vigilref16_Put_L5 p0 n (k + 1) (bl (Lib.join done [32])) (pre.length : Int) = vigilref16_Put_L5 p0 n k (bl (Lib.join (done ++ [w]) [32])) ((pre ++ [p]).length : Int) := by
        have e1 : (pre.length : Int) + 1 = ((pre ++ [p]).length : Int) := by simp
        have e32 : (⟨#[32]⟩ : ByteArray) = bl [32] := rfl
        rw [vigilref16_Put_L5, if_pos (by omega), atI_nat, hg, Option.bind_some, h1, Option.bind_some, e32]
        by_cases h0 : (pre.length : Int) > 0
        · refine (if_pos h0).trans ?_
          rw [bl_app, bl_app]
          refine (if_pos (by rw [bl_size]; simp only [List.length_append, List.length_singleton]; omega)).trans ?_
          refine (if_pos (by rw [bl_size]; simp only [List.length_append, List.length_singleton]; omega)).trans ?_
          refine (if_pos (by unfold InR; omega)).trans ?_
          rw [join_snoc, if_neg (by intro hh; subst hh; simp at hd; omega), e1]
          simp
        · refine (if_neg h0).trans ?_
          rw [bl_app]
          refine (if_pos (by rw [bl_size]; simp only [List.length_append]; omega)).trans ?_
          refine (if_pos (by unfold InR; omega)).trans ?_
          have hdn : done = [] := List.length_eq_zero_iff.1 (by omega)
          subst hdn
          rw [e1]
          simp [Lib.join_nil, Lib.join_one]
      rw [hw, Option.bind_some, hL]
      have ih := IH (pre ++ [p]) (done ++ [w]) k (by rw [he]; simp) (by simp [hd]) (by
        intro t ht
        rcases List.mem_append.1 ht with ht | ht
        · exact hb t ht
        · simp only [List.mem_singleton] at ht; subst ht; exact hwl) (by omega)
      cases hm : rest.mapM txt with
      | none => rw [hm] at ih; exact ih
      | some ts =>
        rw [hm] at ih
        obtain ⟨i, ih⟩ := ih
        exact ⟨i, by rw [ih]; simp⟩
theorem rput_spec (n : Nat) (hn : 30000 ≤ n) (p0 : Sl GPick) (hl : p0.l.length ≤ 20000) : ∃ a e, vigilref16_Put n p0 = some (a, e) ∧ PutRes p0.l a e := by
  have hloop := rput_loop n (by omega) p0 hl p0.l [] [] n rfl rfl (by simp) (by omega)
  simp only [List.nil_append, List.length_nil] at hloop
  have ez : ((0 : Nat) : Int) = 0 := rfl
  have ej : bl (Lib.join [] [32]) = (⟨#[]⟩ : ByteArray) := rfl
  rw [ez, ej] at hloop
  cases hm : p0.l.mapM txt with
  | none =>
    rw [hm] at hloop
    refine ⟨bl [], 2, ?_, fun ts h => (by rw [hm] at h; cases h), fun _ => ⟨rfl, rfl⟩⟩
    rw [vigilref16_Put, if_neg (by omega), hloop]
    rfl
  | some ts =>
    rw [hm] at hloop
    obtain ⟨i, hloop⟩ := hloop
    refine ⟨bl (Lib.join ts [32]), 0, ?_, fun ts' h => by rw [hm] at h; cases h; exact ⟨rfl, rfl⟩, fun h => by rw [hm] at h; cases h⟩
    rw [vigilref16_Put, if_neg (by omega), hloop]
    rfl
theorem same_loop (n : Nat) (a b : Sl GPick) (h : a.l = b.l) (hl : a.l.length ≤ 1000000) : ∀ (m i k : Nat), m = a.l.length - i → i ≤ a.l.length → m < k → vigilref15_SamePicks_L4 a b n k (i : Int) = some (.e0 (a.l.length : Int))
  | m, i, 0, _, _, hk => by omega
  | m, i, k + 1, hm, hi, hk => by
    by_cases hlt : i < a.l.length
    · have h1 : a.l[i]? = some a.l[i] := List.getElem?_eq_getElem hlt
      have h2 : b.l[i]? = some a.l[i] := by rw [← h]; exact h1
      have e1 : (i : Int) + 1 = ((i + 1 : Nat) : Int) := by omega
      rw [vigilref15_SamePicks_L4, if_pos (by omega), atI_nat, h1, Option.bind_some, atI_nat, h2, Option.bind_some]
      refine (if_pos rfl).trans ?_
      refine (if_pos (by unfold InR; omega)).trans ?_
      rw [e1]
      exact same_loop n a b h hl (m - 1) (i + 1) k (by omega) (by omega) (by omega)
    · rw [vigilref15_SamePicks_L4, if_neg (by omega)]
      have : i = a.l.length := by omega
      rw [this]
theorem same_spec (n : Nat) (hn : 30000 ≤ n) (a b : Sl GPick) (h : a.l = b.l) (hl : a.l.length ≤ 20000) : vigilref15_SamePicks n a b = some true := by
  have hloop := same_loop n a b h (by omega) a.l.length 0 n (by omega) (by omega) (by omega)
  have ez : ((0 : Nat) : Int) = 0 := rfl
  rw [ez] at hloop
  rw [vigilref15_SamePicks, if_neg (by rw [h]; simp), hloop]
  rfl
/-! ### the laws -/
theorem mapM_pk_len : ∀ {l : List (List UInt8)} {ps : List GPick}, l.mapM pk = some ps → ps.length = l.length ∧ ps.mapM txt = some l
  | [], ps, h => by simp at h; subst h; simp
  | w :: l, ps, h => by
    have hc : (w :: l).mapM pk = (pk w).bind fun p => (l.mapM pk).map (p :: ·) := by
      rw [List.mapM_cons]
      cases pk w with
      | none => rfl
      | some w => cases l.mapM pk <;> rfl
    rw [hc, Option.bind_eq_some_iff] at h
    obtain ⟨p, hp, h⟩ := h
    rw [Option.map_eq_some_iff] at h
    obtain ⟨us, hu, rfl⟩ := h
    obtain ⟨h1, h2⟩ := mapM_pk_len hu
    refine ⟨by simp [h1], ?_⟩
    rw [mapM_cons_txt, txt_pk hp, Option.bind_some, h2]; rfl
theorem mapM_txt_pk : ∀ {l : List GPick} {ts : List (List UInt8)}, l.mapM txt = some ts → ts.mapM pk = some l
  | [], ts, h => by simp at h; subst h; simp
  | p :: l, ts, h => by
    rw [mapM_cons_txt, Option.bind_eq_some_iff] at h
    obtain ⟨w, hw, h⟩ := h
    rw [Option.map_eq_some_iff] at h
    obtain ⟨us, hu, rfl⟩ := h
    rw [List.mapM_cons, pk_txt hw, mapM_txt_pk hu]; rfl
theorem picksOf_fits {s : List UInt8} {ps : List GPick} (h : picksOf s = some ps) : (∀ p ∈ ps, Fits p) ∧ ps.length ≤ s.length + 1 ∧ ∃ ts, ps.mapM txt = some ts ∧ Lib.join ts [32] = s := by
  have ht : ∀ {ps : List GPick} {ts : List (List UInt8)}, ps.mapM txt = some ts → ∀ p ∈ ps, Fits p := by
    intro ps
    induction ps with
    | nil => intro ts _ p hp; cases hp
    | cons q ps ih =>
      intro ts h p hp
      rw [mapM_cons_txt, Option.bind_eq_some_iff] at h
      obtain ⟨w, hw, h⟩ := h
      rw [Option.map_eq_some_iff] at h
      obtain ⟨us, hu, rfl⟩ := h
      rcases List.mem_cons.1 hp with rfl | hp
      · unfold txt at hw
        split at hw
        · cases hw
        · rename_i hb
          unfold Fits InR
          omega
      · exact ih hu p hp
  unfold picksOf at h
  split at h
  · rename_i hs
    cases h; subst hs
    exact ⟨fun p hp => (by cases hp), by simp, [], rfl, rfl⟩
  · obtain ⟨h1, h2⟩ := mapM_pk_len h
    have := parts_len s
    exact ⟨ht h2, by omega, _, h2, join_parts s⟩
theorem picksOf_join {l : List GPick} {ts : List (List UInt8)} (h : l.mapM txt = some ts) : picksOf (Lib.join ts [32]) = some l := by
  obtain ⟨h1, h2⟩ := mapM_len h
  have h3 := mapM_txt_pk h
  cases ts with
  | nil => simp at h3; subst h3; rfl
  | cons t ts =>
    have ht := h2 t (by simp)
    have hne : Lib.join (t :: ts) [32] ≠ [] := by
      rw [Lib.join_cons]
      intro hh
      exact ht.2.1 (List.append_eq_nil_iff.1 hh).1
    unfold picksOf
    rw [if_neg hne, parts_join fun q hq => (h2 q hq).2.2]
    exact h3
theorem texts_true (p0 : Sl GPick) (p1 : ByteArray) (hf : ∀ p ∈ p0.l, Fits p) : vigillaw16_ScriptTexts 30000 p0 p1 = some true := by
  rw [vigillaw16_ScriptTexts]
  by_cases h1 : (p0.l.length : Int) > 200
  · rw [if_pos h1]
  rw [if_neg h1]
  by_cases h2 : (p1.size : Int) > 2000
  · rw [if_pos h2]
  rw [if_neg h2]
  refine (if_pos (by unfold Room; simp only [List.nil_append]; omega)).trans ?_
  have hp1 : p1 = bl p1.data.toList := (bl_of p1).symm
  generalize hs : p1.data.toList = s at hp1
  subst hp1
  rw [bl_size] at h2
  have hnil : (([] : List GPick) ++ p0.l) = p0.l := List.nil_append _
  obtain ⟨a, e, ha, hra⟩ := put_spec 30000 (by omega) (⟨false, false, ([] : List GPick) ++ p0.l⟩ : Sl GPick) (by simpa using hf) (by simp; omega)
  obtain ⟨b, f, hb, hrb⟩ := rput_spec 30000 (by omega) p0 (by omega)
  obtain ⟨c, g, hc, hc1, hc2⟩ := parse_spec 30000 (by omega) s (by omega)
  obtain ⟨d, i, hd, hd1, hd2⟩ := rparse_spec 30000 (by omega) s (by omega)
  rw [ha, Option.bind_some]
  dsimp only
  rw [hb, Option.bind_some]
  dsimp only
  rw [hc, Option.bind_some]
  dsimp only
  rw [hd, Option.bind_some]
  dsimp only
  have hra' : PutRes p0.l a e := by rw [← hnil]; exact hra
  obtain ⟨hab, hef⟩ := hra'.eq hrb
  refine (if_pos hab).trans ?_
  rw [vigillaw16_num, Option.bind_some]
  refine (if_pos hef).trans ?_
  have hcd : c.l = d.l ∧ g = i ∧ c.l.length ≤ 20000 := by
    cases hp : picksOf s with
    | none => obtain ⟨x1, x2⟩ := hc2 hp; obtain ⟨y1, y2⟩ := hd2 hp; exact ⟨x2.trans y2.symm, x1.trans y1.symm, by rw [x2]; simp⟩
    | some ps =>
      obtain ⟨x1, x2⟩ := hc1 ps hp; obtain ⟨y1, y2⟩ := hd1 ps hp
      have := (picksOf_fits hp).2.1
      exact ⟨x2.trans y2.symm, x1.trans y1.symm, by rw [x2]; omega⟩
  rw [same_spec 30000 (by omega) c d hcd.1 hcd.2.2, Option.bind_some]
  rw [cond_true, vigillaw16_num, Option.bind_some]
  exact if_pos hcd.2.1
theorem back_end (s : List UInt8) (hs : s.length ≤ 2000) : ((script_Parse 30000 (bl s)).bind fun (x_8, x_9) =>
    (vigillaw16_num 30000 x_9).bind fun x_10 =>
    if x_10 ≠ 0 then
      if (x_8.l.length : Int) = 0 then
        some true
      else some false
    else (script_Put 30000 x_8).bind fun (x_11, x_12) =>
    (vigillaw16_num 30000 x_12).bind fun x_13 =>
    if x_13 = 0 then
      if x_11 = bl s then
        some true
      else some false
    else some false) = some true := by
  obtain ⟨c, g, hc, hc1, hc2⟩ := parse_spec 30000 (by omega) s (by omega)
  rw [hc, Option.bind_some]
  dsimp only
  rw [vigillaw16_num, Option.bind_some]
  cases hp : picksOf s with
  | none =>
    obtain ⟨x1, x2⟩ := hc2 hp
    rw [if_pos (by omega), if_pos (by rw [x2]; rfl)]
  | some ps =>
    obtain ⟨x1, x2⟩ := hc1 ps hp
    obtain ⟨f1, f2, ts, f3, f4⟩ := picksOf_fits hp
    rw [if_neg (by omega)]
    obtain ⟨a, e, ha, hra⟩ := put_spec 30000 (by omega) c (by rw [x2]; exact f1) (by rw [x2]; omega)
    rw [ha, Option.bind_some]
    dsimp only
    rw [x2] at hra
    obtain ⟨y1, y2⟩ := hra.1 ts f3
    rw [vigillaw16_num, Option.bind_some, if_pos y1, if_pos (by rw [y2, f4])]
theorem back_true (p0 : Sl GPick) (p1 : ByteArray) (hf : ∀ p ∈ p0.l, Fits p) : vigillaw16_ScriptBack 30000 p0 p1 = some true := by
  rw [vigillaw16_ScriptBack]
  by_cases h1 : (p0.l.length : Int) > 200
  · rw [if_pos h1]
  rw [if_neg h1]
  by_cases h2 : (p1.size : Int) > 2000
  · rw [if_pos h2]
  rw [if_neg h2]
  have hp1 : p1 = bl p1.data.toList := (bl_of p1).symm
  generalize hs : p1.data.toList = s at hp1
  subst hp1
  rw [bl_size] at h2
  obtain ⟨a, e, ha, hra⟩ := put_spec 30000 (by omega) p0 hf (by omega)
  rw [ha, Option.bind_some]
  dsimp only
  have hj : vigillaw16_ScriptBack_J4 p0 (bl s) a e 30000 = some .m ∨ vigillaw16_ScriptBack_J4 p0 (bl s) a e 30000 = some .m_2 := by
    unfold vigillaw16_ScriptBack_J4
    rw [vigillaw16_num, Option.bind_some]
    cases hm : p0.l.mapM txt with
    | none =>
      obtain ⟨x1, x2⟩ := hra.2 hm
      right
      rw [if_neg (by omega)]
    | some ts =>
      obtain ⟨x1, x2⟩ := hra.1 ts hm
      obtain ⟨l1, l2⟩ := mapM_len hm
      have hjl := join_len ts fun t ht => (l2 t ht).1
      left
      rw [if_pos x1, x2]
      obtain ⟨c, g, hc, hc1, hc2⟩ := parse_spec 30000 (by omega) (Lib.join ts [32]) (by omega)
      obtain ⟨y1, y2⟩ := hc1 _ (picksOf_join hm)
      rw [hc, Option.bind_some]
      dsimp only
      rw [vigillaw16_num, Option.bind_some, if_neg (by omega), same_spec 30000 (by omega) p0 c y2.symm (by omega)]
      rfl
  rcases hj with hj | hj
  · rw [hj, Option.bind_some]
    exact back_end s (by omega)
  · rw [hj, Option.bind_some]
    exact back_end s (by omega)
end Go.Proofs.YtilipgopjiokfaaGreatDoor
