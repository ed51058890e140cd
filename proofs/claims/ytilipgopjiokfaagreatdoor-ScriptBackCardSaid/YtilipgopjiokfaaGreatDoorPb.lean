/-
  What the program's functions on texts of picks compute: the words and numbers.
-/
import Derived.Test.YtilipgopjiokfaaGreatDoorFd
import Derived.Test.YtilipgopjiokfaaGreatDoorPa
import Derived.Lib.AtoiAllCases
set_option linter.unusedVariables false
set_option linter.unusedSimpArgs false
namespace Go.Proofs.YtilipgopjiokfaaGreatDoor
open Go Go.Abs Go.Proofs

theorem minmax_neg {a b : Int} : ((if b < a then b else a) < 0) ↔ (a < 0 ∨ b < 0) := by
  split <;> constructor <;> intro h <;> omega
theorem minmax_big {a b : Int} : ((if b > a then b else a) > 999999) ↔ (a > 999999 ∨ b > 999999) := by
  split <;> constructor <;> intro h <;> omega
theorem dec6 {x : Int} (h : 0 ≤ x) (h2 : x ≤ 999999) : (dec x.toNat).length ≤ 6 := dec_len 6 _ (by omega) (by omega)

theorem script_text_spec (n : Nat) (p : GPick) (h1 : InR p.thread) (h2 : InR p.draw) :
    ∃ b ok, script_text n p = some (b, ok) ∧ (ok = true → ∃ w, b = bl w ∧ txt p = some w) ∧ (ok = false → txt p = none) := by
  unfold script_text
  rw [if_pos h1]
  by_cases hn : p.thread < 0 ∨ p.draw < 0
  · rw [if_pos (minmax_neg.2 hn)]
    refine ⟨_, false, rfl, by simp, fun _ => ?_⟩
    unfold txt; rw [if_pos (by omega)]
  · rw [if_neg (fun h => hn (minmax_neg.1 h))]
    by_cases hb : p.thread > 999999 ∨ p.draw > 999999
    · rw [if_pos (minmax_big.2 hb)]
      refine ⟨_, false, rfl, by simp, fun _ => ?_⟩
      unfold txt; rw [if_pos (by omega)]
    · rw [if_neg (fun h => hb (minmax_big.1 h))]
      have et : itoaB p.thread = bl (dec p.thread.toNat) := itoaB_nn (by omega) (by omega)
      have ed : itoaB p.draw = bl (dec p.draw.toNat) := itoaB_nn (by omega) (by omega)
      have lt := dec6 (x := p.thread) (by omega) (by omega)
      have ld := dec6 (x := p.draw) (by omega) (by omega)
      have e46 : (⟨#[46]⟩ : ByteArray) = bl [46] := rfl
      have e115 : (⟨#[115]⟩ : ByteArray) = bl [115] := rfl
      have e116 : (⟨#[116]⟩ : ByteArray) = bl [116] := rfl
      rw [et, ed, e46, e115, e116]
      simp only [bl_app]
      have ht : txt p = (if p.kind = 0 then some (if p.draw > 0 then dec p.thread.toNat ++ 46 :: dec p.draw.toNat else dec p.thread.toNat)
        else if p.kind = 1 then (if p.draw = 0 then some (115 :: dec p.thread.toNat) else none)
        else if p.kind = 2 ∧ p.thread = 0 ∧ p.draw = 0 then some [116] else none) := by
        unfold txt; rw [if_neg (by omega)]
      rw [ht]
      by_cases hk : p.kind = 0
      · rw [if_pos hk, if_pos hk]
        by_cases hd : p.draw > 0
        · rw [if_pos hd, if_pos hd, if_pos (by rw [bl_size]; simp only [List.length_append, List.length_singleton]; omega), if_pos h2, if_pos (by rw [bl_size]; simp only [List.length_append, List.length_singleton]; omega)]
          exact ⟨_, true, rfl, fun _ => ⟨_, rfl, by simp⟩, by simp⟩
        · rw [if_neg hd, if_neg hd]
          exact ⟨_, true, rfl, fun _ => ⟨_, rfl, rfl⟩, by simp⟩
      · rw [if_neg hk, if_neg hk]
        by_cases hk1 : p.kind = 1
        · rw [if_pos hk1, if_pos hk1, if_pos (by rw [bl_size]; simp only [List.length_append, List.length_singleton]; omega)]
          by_cases hd : p.draw = 0
          · rw [if_pos hd, if_pos hd]; exact ⟨_, true, rfl, fun _ => ⟨_, rfl, rfl⟩, by simp⟩
          · rw [if_neg hd, if_neg hd]; exact ⟨_, false, rfl, by simp, fun _ => rfl⟩
        · rw [if_neg hk1, if_neg hk1]
          by_cases hp : p = ({ kind := 2, thread := 0, draw := 0 } : GPick)
          · rw [if_pos hp]
            refine ⟨_, true, rfl, fun _ => ⟨_, rfl, ?_⟩, by simp⟩
            subst hp; rfl
          · rw [if_neg hp]
            refine ⟨_, false, rfl, by simp, fun _ => ?_⟩
            rw [if_neg]
            rintro ⟨a, b, c⟩
            apply hp
            obtain ⟨x, y, z⟩ := p
            simp only at a b c
            subst a; subst b; subst c; rfl

/-! ### the document's digits -/
theorem digits10 : ∀ d, d < 10 → (bl [48, 49, 50, 51, 52, 53, 54, 55, 56, 57]).extract d (d + 1) = bl [UInt8.ofNat (48 + d)] := by
  intro d hd
  rw [bl_ext, bl_inj]
  have : ∀ d : Fin 10, ((([48, 49, 50, 51, 52, 53, 54, 55, 56, 57] : List UInt8).take (d.val + 1)).drop d.val) = [UInt8.ofNat (48 + d.val)] := by decide
  exact this ⟨d, hd⟩
theorem digits_loop (p0 : Int) (n : Nat) : ∀ (j k : Nat) (v : List UInt8) (u : Nat), u < 10 ^ j → j < k → u ≤ 999999 → v.length + j ≤ 1000 → vigilref03_Digits_L6 p0 n k (bl v) (u : Int) = some (.e0 (bl ((if u = 0 then [] else dec u) ++ v)) 0)
  | j, 0, v, u, h, hk, _, _ => by omega
  | j, k + 1, v, u, h, hk, hu, hv => by
    unfold vigilref03_Digits_L6
    by_cases h0 : u = 0
    · subst h0; rw [if_neg (by simp)]; simp
    · rw [if_pos (by omega)]
      have em : Int.tmod (u : Int) 10 = ((u % 10 : Nat) : Int) := by rw [Int.tmod_eq_emod_of_nonneg (by omega)]; omega
      have ed : Int.tdiv (u : Int) 10 = ((u / 10 : Nat) : Int) := by rw [Int.tdiv_eq_ediv_of_nonneg (by omega)]; omega
      have ew : Go.IntKind.i64.wrap ((u / 10 : Nat) : Int) = ((u / 10 : Nat) : Int) := wrap_in (by unfold InR; omega)
      have edg : (⟨#[48, 49, 50, 51, 52, 53, 54, 55, 56, 57]⟩ : ByteArray) = bl [48, 49, 50, 51, 52, 53, 54, 55, 56, 57] := rfl
      rw [em, ed, ew, edg, if_neg (by omega), if_pos (by unfold InR; omega)]
      have e1 : (((u % 10 : Nat) : Int)).toNat = u % 10 := by omega
      have e2 : (((u % 10 : Nat) : Int) + 1).toNat = u % 10 + 1 := by omega
      rw [e1, e2, digits10 _ (by omega), bl_app, if_pos (by rw [bl_size]; simp only [List.length_cons, List.length_nil]; omega), if_pos (by rw [bl_size]; simp only [List.length_append, List.length_cons, List.length_nil]; omega)]
      cases j with
      | zero => simp at h; omega
      | succ j =>
        rw [Nat.pow_succ] at h
        rw [digits_loop p0 n j k _ (u / 10) (by omega) (by omega) (by omega) (by simp only [List.length_append, List.length_cons, List.length_nil]; omega), if_neg h0]
        by_cases hs : u < 10
        · rw [if_pos (by omega), dec_small hs, Nat.mod_eq_of_lt hs]; simp
        · rw [if_neg (by omega), dec_big hs]; simp
theorem digits_spec (n : Nat) (hn : 30 ≤ n) {x : Int} (h : 0 ≤ x) (h2 : x ≤ 999999) : vigilref03_Digits n x = some (bl (dec x.toNat)) := by
  unfold vigilref03_Digits
  by_cases h0 : x = 0
  · subst h0
    rw [if_pos rfl]
    show some (bl [48]) = some (bl (dec 0))
    rw [dec_small (by omega)]; rfl
  · rw [if_neg h0]
    obtain ⟨u, rfl⟩ : ∃ u : Nat, x = (u : Int) := ⟨x.toNat, by omega⟩
    have := digits_loop (u : Int) n 6 n [] u (by omega) (by omega) (by omega) (by simp)
    have e : (⟨#[]⟩ : ByteArray) = bl [] := rfl
    rw [e, this]
    simp only [Option.bind_some]
    rw [if_neg (by omega), if_neg (by omega)]
    simp
theorem one_spec (n : Nat) (hn : 30 ≤ n) (p : GPick) :
    ∃ b ok, vigilref16_one n p = some (b, ok) ∧ (ok = true → ∃ w, b = bl w ∧ txt p = some w) ∧ (ok = false → txt p = none) := by
  unfold vigilref16_one
  by_cases hb : p.thread < 0 ∨ p.draw < 0 ∨ p.thread > 999999 ∨ p.draw > 999999
  · have : vigilref16_one_J1 p n = some .r := by
      unfold vigilref16_one_J1
      split
      · rfl
      · split
        · rfl
        · split
          · rfl
          · split
            · rfl
            · omega
    rw [this]
    refine ⟨_, false, rfl, by simp, fun _ => ?_⟩
    unfold txt; rw [if_pos hb]
  · have hj : vigilref16_one_J1 p n = some .m := by
      unfold vigilref16_one_J1
      rw [if_neg (by omega), if_neg (by omega), if_neg (by omega), if_neg (by omega)]
    rw [hj]
    simp only [Option.bind_some]
    rw [digits_spec n hn (by omega) (by omega)]
    simp only [Option.bind_some]
    have lt := dec6 (x := p.thread) (by omega) (by omega)
    have ld := dec6 (x := p.draw) (by omega) (by omega)
    have e46 : (⟨#[46]⟩ : ByteArray) = bl [46] := rfl
    have e115 : (⟨#[115]⟩ : ByteArray) = bl [115] := rfl
    have e116 : (⟨#[116]⟩ : ByteArray) = bl [116] := rfl
    rw [e46, e115, e116]
    simp only [bl_app]
    have ht : txt p = (if p.kind = 0 then some (if p.draw > 0 then dec p.thread.toNat ++ 46 :: dec p.draw.toNat else dec p.thread.toNat)
      else if p.kind = 1 then (if p.draw = 0 then some (115 :: dec p.thread.toNat) else none)
      else if p.kind = 2 ∧ p.thread = 0 ∧ p.draw = 0 then some [116] else none) := by
      unfold txt; rw [if_neg hb]
    rw [ht]
    by_cases hk : p.kind = 0
    · rw [if_pos hk, if_pos hk]
      by_cases hd : p.draw > 0
      · rw [if_pos hd, if_pos hd, if_pos (by rw [bl_size]; simp only [List.length_append, List.length_singleton]; omega), digits_spec n hn (by omega) (by omega)]
        simp only [Option.bind_some, bl_app]
        rw [if_pos (by rw [bl_size]; simp only [List.length_append, List.length_singleton]; omega)]
        exact ⟨_, true, rfl, fun _ => ⟨_, rfl, by simp⟩, by simp⟩
      · rw [if_neg hd, if_neg hd]
        exact ⟨_, true, rfl, fun _ => ⟨_, rfl, rfl⟩, by simp⟩
    · rw [if_neg hk, if_neg hk]
      by_cases hk1 : p.kind = 1
      · rw [if_pos hk1, if_pos hk1, if_pos (by rw [bl_size]; simp only [List.length_append, List.length_singleton]; omega)]
        by_cases hd : p.draw = 0
        · rw [if_pos hd, if_pos hd]; exact ⟨_, true, rfl, fun _ => ⟨_, rfl, rfl⟩, by simp⟩
        · rw [if_neg hd, if_neg hd]; exact ⟨_, false, rfl, by simp, fun _ => rfl⟩
      · rw [if_neg hk1, if_neg hk1]
        by_cases h2 : p.kind = 2
        · rw [if_pos h2]
          by_cases h3 : p.thread = 0
          · rw [if_pos h3]
            by_cases h4 : p.draw = 0
            · rw [if_pos h4, if_pos ⟨h2, h3, h4⟩]; exact ⟨_, true, rfl, fun _ => ⟨_, rfl, rfl⟩, by simp⟩
            · rw [if_neg h4, if_neg (fun h => h4 h.2.2)]; exact ⟨_, false, rfl, by simp, fun _ => rfl⟩
          · rw [if_neg h3, if_neg (fun h => h3 h.2.1)]; exact ⟨_, false, rfl, by simp, fun _ => rfl⟩
        · rw [if_neg h2, if_neg (fun h => h2 h.1)]; exact ⟨_, false, rfl, by simp, fun _ => rfl⟩

/-! ### numbers -/
theorem script_number_spec (n : Nat) (w : List UInt8) (hw : w.length ≤ 1000000) : ∃ r, script_number n (bl w) = some r ∧ InR r ∧ ∀ x, num w = some x → r = x := by
  unfold script_number
  rw [if_pos (by rw [bl_size]; omega)]
  cases ha : Lib.atoiAll w with
  | ok v =>
    obtain ⟨b1, b2⟩ := Lib.atoiAll_bounds ha
    have e : atoiR (bl w) = (v, false) := by unfold atoiR; rw [bl_data, ha]
    have hnum : num w = if 0 ≤ v ∧ v ≤ 999999 ∧ dec v.toNat = w then some v else none := by unfold num; rw [ha]
    rw [e]
    simp only [Bool.false_eq_true, if_false]
    by_cases hb : v > 999999
    · rw [if_pos hb]
      refine ⟨_, rfl, by unfold InR; omega, fun x hx => ?_⟩
      rw [hnum, if_neg (by omega)] at hx; cases hx
    · rw [if_neg hb, if_pos (by unfold InR; omega)]
      by_cases hi : itoaB v = bl w
      · rw [if_pos hi]
        refine ⟨_, rfl, by unfold InR; omega, fun x hx => ?_⟩
        rw [hnum] at hx
        split at hx
        · cases hx; rfl
        · cases hx
      · rw [if_neg hi]
        refine ⟨_, rfl, by unfold InR; omega, fun x hx => ?_⟩
        rw [hnum] at hx
        split at hx
        · rename_i hh
          exfalso; apply hi
          rw [itoaB_nn hh.1 (by omega), hh.2.2]
        · cases hx
  | _ =>
    have e : (atoiR (bl w)).2 = true := by unfold atoiR; rw [bl_data, ha]
    rw [if_pos e]
    refine ⟨_, rfl, by unfold InR; omega, fun x hx => ?_⟩
    unfold num at hx; rw [ha] at hx; cases hx
def isDig (c : UInt8) : Prop := 48 ≤ c.toNat ∧ c.toNat ≤ 57
instance (c : UInt8) : Decidable (isDig c) := inferInstanceAs (Decidable (_ ∧ _))
theorem valL_lt : ∀ (l : List UInt8), (∀ c ∈ l, isDig c) → valL l < 10 ^ l.length := by
  intro l
  induction h : l.length generalizing l with
  | zero => intro _; have := List.length_eq_zero_iff.1 h; subst this; simp [valL]
  | succ m ih =>
    intro hd
    obtain ⟨l', c, rfl⟩ : ∃ l' c, l = l' ++ [c] := ⟨l.dropLast, l.getLast (by intro hh; subst hh; simp at h), (List.dropLast_concat_getLast _).symm⟩
    rw [valL_snoc]
    have h1 := ih l' (by simpa using h) (fun c hc => hd c (by simp [hc]))
    have h2 := hd c (by simp)
    unfold isDig at h2
    rw [Nat.pow_succ]
    omega
theorem number_loop (n : Nat) : ∀ (rest done : List UInt8) (k : Nat), done.length + rest.length ≤ 6 → (∀ c ∈ done, isDig c) → rest.length < k →
    vigilref16_number_L5 (bl (done ++ rest)) n k (valL done : Int) (done.length : Int) = (if ∀ c ∈ rest, isDig c then some (.e0 (valL (done ++ rest) : Int) ((done ++ rest).length : Int)) else some .r)
  | rest, done, 0, _, _, h => by omega
  | [], done, k + 1, hl, hd, _ => by
    unfold vigilref16_number_L5
    rw [if_neg (by rw [bl_size]; simp), if_pos (by simp)]
    simp
  | c :: rest, done, k + 1, hl, hd, hk => by
    unfold vigilref16_number_L5
    simp only [List.length_cons] at hl hk
    rw [if_pos (by rw [bl_size]; simp only [List.length_append, List.length_cons]; omega), bl_byte]
    have hg : (done ++ c :: rest)[done.length]? = some c := by simp
    rw [hg]
    simp only [Option.map_some, Option.bind_some]
    by_cases h1 : (c.toNat : Int) < 48
    · rw [if_pos h1, if_neg]
      intro hh; have := hh c (by simp); unfold isDig at this; omega
    · rw [if_neg h1]
      by_cases h2 : (c.toNat : Int) > 57
      · rw [if_pos h2, if_neg]
        intro hh; have := hh c (by simp); unfold isDig at this; omega
      · rw [if_neg h2]
        have hv := valL_lt done hd
        have hp : 10 ^ done.length ≤ 10 ^ 6 := Nat.pow_le_pow_right (by omega) (by omega)
        have e8 : Go.IntKind.u8.wrap ((c.toNat : Int) - 48) = (c.toNat : Int) - 48 := by
          rw [IntKind.wrap_u8]; omega
        rw [if_pos (by unfold InR; omega), e8, wrap_in (by unfold InR; omega), if_pos (by unfold InR; omega), if_pos (by unfold InR; omega)]
        have hdc : isDig c := by unfold isDig; omega
        have e1 : 10 * (valL done : Int) + ((c.toNat : Int) - 48) = ((valL (done ++ [c]) : Nat) : Int) := by rw [valL_snoc]; omega
        have e2 : (done.length : Int) + 1 = ((done ++ [c]).length : Int) := by simp
        have e3 : done ++ c :: rest = (done ++ [c]) ++ rest := by simp
        rw [e1, e2, e3, number_loop n rest (done ++ [c]) k (by simp; omega) (by
          intro x hx
          rcases List.mem_append.1 hx with hx | hx
          · exact hd x hx
          · simp only [List.mem_singleton] at hx; subst hx; exact hdc) (by omega)]
        by_cases hr : ∀ c ∈ rest, isDig c
        · rw [if_pos hr, if_pos]
          intro x hx
          rcases List.mem_cons.1 hx with rfl | hx
          · exact hdc
          · exact hr x hx
        · rw [if_neg hr, if_neg fun hh => hr fun x hx => hh x (by simp [hx])]
theorem number_spec (n : Nat) (hn : 30 ≤ n) (w : List UInt8) : ∃ x ok, vigilref16_number n (bl w) = some (x, ok) ∧ (ok = true → num w = some x) ∧ (ok = false → num w = none) := by
  unfold vigilref16_number
  have e0 : (⟨#[]⟩ : ByteArray) = bl [] := rfl
  by_cases h0 : w = []
  · subst h0
    rw [if_pos e0.symm]
    exact ⟨_, false, rfl, by simp, fun _ => rfl⟩
  · rw [if_neg (by rw [e0, bl_inj]; exact h0)]
    by_cases hl : ((bl w).size : Int) > 6
    · rw [if_pos hl]
      refine ⟨_, false, rfl, by simp, fun _ => ?_⟩
      cases hx : num w with
      | none => rfl
      | some x =>
        obtain ⟨a, b, c⟩ := num_some hx
        have := dec6 a b
        rw [← c] at this
        rw [bl_size] at hl; omega
    · rw [if_neg hl]
      rw [bl_size] at hl
      have hloop := number_loop n w [] n (by simp; omega) (by simp) (by omega)
      simp only [List.nil_append, List.length_nil] at hloop
      have ez : ((valL [] : Nat) : Int) = 0 := rfl
      rw [ez] at hloop
      have ez2 : ((0 : Nat) : Int) = 0 := rfl
      rw [ez2] at hloop
      rw [hloop]
      by_cases hd : ∀ c ∈ w, isDig c
      · rw [if_pos hd]
        simp only [Option.bind_some]
        have hv := valL_lt w hd
        have hp : 10 ^ w.length ≤ 10 ^ 6 := Nat.pow_le_pow_right (by omega) (by omega)
        rw [digits_spec n hn (by omega) (by omega)]
        simp only [Option.bind_some, Int.toNat_natCast]
        by_cases he : dec (valL w) = w
        · rw [if_pos (by rw [bl_inj]; exact he)]
          refine ⟨_, true, rfl, fun _ => ?_, by simp⟩
          have := num_dec (x := (valL w : Int)) (by omega) (by omega)
          rw [Int.toNat_natCast, he] at this
          exact this
        · rw [if_neg (by rw [bl_inj]; exact he)]
          refine ⟨_, false, rfl, by simp, fun _ => ?_⟩
          cases hx : num w with
          | none => rfl
          | some x =>
            obtain ⟨a, b, c⟩ := num_some hx
            exfalso; apply he
            rw [c, valL_dec]
      · rw [if_neg hd]
        refine ⟨_, false, rfl, by simp, fun _ => ?_⟩
        cases hx : num w with
        | none => rfl
        | some x =>
          obtain ⟨a, b, c⟩ := num_some hx
          exfalso; apply hd
          rw [c]
          exact dec_dig _

/-! ### words -/
theorem hasPrefix_spec (n : Nat) (w : List UInt8) : stringslite_HasPrefix n (bl w) = some (decide (w.head? = some 115)) := by
  unfold stringslite_HasPrefix
  have e115 : (⟨#[115]⟩ : ByteArray) = bl [115] := rfl
  rw [e115]
  cases w with
  | nil => rw [if_neg (by rw [bl_size]; simp)]; rfl
  | cons c t =>
    rw [if_pos (by rw [bl_size]; simp only [List.length_cons]; omega), if_pos (by rw [bl_size]; simp only [List.length_cons]; omega), bl_ext]
    have e1 : ((c :: t).take (1 : Int).toNat).drop 0 = [c] := rfl
    rw [e1]
    by_cases hc : c = 115
    · subst hc; rw [if_pos rfl]; rfl
    · rw [if_neg (by rw [bl_inj]; simpa using hc)]; simp [hc]
theorem cutPrefix_spec (n : Nat) (w : List UInt8) : strings_CutPrefix n (bl w) = some (if w.head? = some 115 then (bl w.tail, true) else (bl w, false)) := by
  unfold strings_CutPrefix stringslite_CutPrefix
  rw [hasPrefix_spec]
  simp only [Option.bind_some]
  by_cases hc : w.head? = some 115
  · rw [decide_eq_true hc, if_pos hc]
    cases w with
    | nil => simp at hc
    | cons c t =>
      simp only [cond_true]
      rw [if_pos (by rw [bl_size]; simp only [List.length_cons]; omega), bl_ext, bl_size, List.take_length]
      rfl
  · rw [decide_eq_false hc, if_neg hc]
    rfl
theorem script_pick_spec (n : Nat) (w : List UInt8) (hw : w.length ≤ 1000000) : ∃ x, script_pick n (bl w) = some x ∧ InR x.thread ∧ InR x.draw ∧ ∀ p, pk w = some p → x = p := by
  have i0 : InR 0 := by unfold InR; omega
  unfold script_pick
  have e116 : (⟨#[116]⟩ : ByteArray) = bl [116] := rfl
  have e115 : (⟨#[115]⟩ : ByteArray) = bl [115] := rfl
  rw [e116]
  by_cases h0 : w = [116]
  · subst h0
    rw [if_pos rfl]
    exact ⟨_, rfl, i0, i0, fun p hp => by cases hp; rfl⟩
  · rw [if_neg (by rw [bl_inj]; exact h0)]
    have hcp := cutPrefix_spec n w
    rw [hcp]
    simp only [Option.bind_some]
    by_cases hs : w.head? = some 115
    · rw [if_pos hs]
      simp only [cond_true]
      obtain ⟨r, hr, hi, hx⟩ := script_number_spec n w.tail (by simp; omega)
      rw [hr]
      refine ⟨_, rfl, hi, i0, fun p hp => ?_⟩
      unfold pk at hp
      rw [if_neg h0, if_pos hs, Option.map_eq_some_iff] at hp
      obtain ⟨x, h1, rfl⟩ := hp
      rw [hx x h1]
    · rw [if_neg hs]
      simp only [cond_false]
      have hpk : pk w = match cut46 w with
        | some (a, b) => (num a).bind fun x => (num b).bind fun d => if d > 0 then some ⟨0, x, d⟩ else none
        | none => (num w).map fun x => ⟨0, x, 0⟩ := by
        unfold pk; rw [if_neg h0, if_neg hs]; rfl
      unfold strings_Cut stringslite_Cut
      rw [bl_data]
      by_cases hi : Lib.indexByte w 46 ≥ 0
      · obtain ⟨a, b, rfl, ha, hl⟩ := index_split (l := w) (c := 46) hi
        simp only [List.length_append, List.length_cons] at hw
        rw [hl, if_pos (by omega), if_pos (by rw [bl_size]; simp only [List.length_append, List.length_cons]; omega), if_pos (by unfold InR; omega), if_pos (by rw [bl_size]; simp only [List.length_append, List.length_cons]; omega)]
        have e1 : ((a.length : Int) + 1).toNat = a.length + 1 := by omega
        rw [e1, Int.toNat_natCast, bl_ext, bl_ext, bl_size]
        have ea : ((a ++ 46 :: b).take a.length).drop 0 = a := by simp
        have eb : ((a ++ 46 :: b).take (a ++ 46 :: b).length).drop (a.length + 1) = b := by rw [List.take_length]; simp
        rw [ea, eb]
        simp only [Option.bind_some, cond_true]
        obtain ⟨r, hr, hri, hrx⟩ := script_number_spec n a (by omega)
        obtain ⟨d, hd, hdi, hdx⟩ := script_number_spec n b (by omega)
        rw [hr, hd]
        refine ⟨_, rfl, hri, hdi, fun p hp => ?_⟩
        rw [hpk, cut46_at ha] at hp
        simp only [Option.bind_eq_some_iff] at hp
        obtain ⟨x, h1, y, h2, h3⟩ := hp
        split at h3
        · cases h3; rw [hrx x h1, hdx y h2]
        · cases h3
      · rw [if_neg hi]
        simp only [Option.bind_some, cond_false]
        obtain ⟨r, hr, hri, hrx⟩ := script_number_spec n w hw
        rw [hr]
        refine ⟨_, rfl, hri, i0, fun p hp => ?_⟩
        rw [hpk, cut46_none (index_neg (by omega)), Option.map_eq_some_iff] at hp
        obtain ⟨x, h1, rfl⟩ := hp
        rw [hrx x h1]
end Go.Proofs.YtilipgopjiokfaaGreatDoor
