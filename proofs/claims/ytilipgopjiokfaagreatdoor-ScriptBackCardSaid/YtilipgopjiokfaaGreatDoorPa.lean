/-
  Texts of picks, without the program: bytes, numbers, parts at each space, what is a pick's word.
-/
import Derived.Test.YtilipgopjiokfaaGreatDoorAbs34
import Derived.Test.YtilipgopjiokfaaGreatDoorTy
import Derived.Lib.IndexLaws
set_option linter.unusedVariables false
set_option linter.unusedSimpArgs false
namespace Go.Abs
open Go

def bl (l : List UInt8) : ByteArray := ⟨l.toArray⟩
theorem bl_of (s : ByteArray) : bl s.data.toList = s := by simp [bl]
theorem bl_data (l : List UInt8) : (bl l).data.toList = l := by simp [bl]
theorem bl_size (l : List UInt8) : (bl l).size = l.length := by simp [bl, ByteArray.size]
theorem bl_inj {a b : List UInt8} : bl a = bl b ↔ a = b := ⟨fun h => by have := congrArg (fun s : ByteArray => s.data.toList) h; simpa [bl] using this, fun h => by rw [h]⟩
theorem ba_ext {a b : ByteArray} (h : a.data.toList = b.data.toList) : a = b := by rw [← bl_of a, ← bl_of b, h]
theorem bl_app (a b : List UInt8) : bl a ++ bl b = bl (a ++ b) := ba_ext (by simp [bl])
theorem bl_ext (l : List UInt8) (i j : Nat) : (bl l).extract i j = bl ((l.take j).drop i) := ba_ext (by simp [bl, List.extract_eq_take_drop, List.drop_take])
theorem bl_byte (l : List UInt8) (i : Nat) : byteI (bl l) i = (l[i]?).map fun b => (b.toNat : Int) := by
  unfold byteI
  rw [if_pos (by omega)]
  simp only [Int.toNat_natCast]
  congr 1
  by_cases h : i < l.length
  · rw [getElem?_pos (bl l) i (by rw [bl_size]; exact h), List.getElem?_eq_getElem h]
    simp [bl, ByteArray.getElem_eq_getElem_data]
  · rw [getElem?_neg (bl l) i (by rw [bl_size]; exact h), List.getElem?_eq_none (by omega)]

/-! ### numbers -/
abbrev dec := Lib.decDigits
theorem dec_small {u : Nat} (h : u < 10) : dec u = [UInt8.ofNat (48 + u)] := Lib.decDigits_one h
theorem dec_big {u : Nat} (h : ¬ u < 10) : dec u = dec (u / 10) ++ [UInt8.ofNat (48 + u % 10)] := by
  show Lib.decDigits u = _
  rw [Lib.decDigits, dif_neg h]
theorem ofNat_dig {d : Nat} (h : d < 10) : (UInt8.ofNat (48 + d)).toNat = 48 + d := by
  simp [UInt8.toNat_ofNat']; omega
theorem dec_dig (u : Nat) : ∀ c ∈ dec u, 48 ≤ c.toNat ∧ c.toNat ≤ 57 := by
  induction u using Nat.strongRecOn with
  | ind u ih =>
    intro c hc
    by_cases h : u < 10
    · rw [dec_small h] at hc; simp only [List.mem_singleton] at hc; subst hc; rw [ofNat_dig h]; omega
    · rw [dec_big h] at hc
      rcases List.mem_append.1 hc with hc | hc
      · exact ih (u / 10) (by omega) c hc
      · simp only [List.mem_singleton] at hc; subst hc; rw [ofNat_dig (by omega)]; omega
theorem dec_ne (u : Nat) : dec u ≠ [] := by
  by_cases h : u < 10
  · rw [dec_small h]; simp
  · rw [dec_big h]; simp
theorem dec_len : ∀ (k u : Nat), u < 10 ^ k → 0 < k → (dec u).length ≤ k
  | 0, _, _, h => absurd h (by omega)
  | k + 1, u, h, _ => by
    by_cases hu : u < 10
    · rw [dec_small hu]; simp
    · rw [dec_big hu]
      rw [Nat.pow_succ] at h
      have : 0 < k := by
        rcases Nat.eq_zero_or_pos k with rfl | hk
        · simp at h; omega
        · exact hk
      have := dec_len k (u / 10) (by omega) this
      simp only [List.length_append, List.length_singleton]; omega
def valL (l : List UInt8) : Nat := l.foldl (fun a c => a * 10 + (c.toNat - 48)) 0
theorem valL_snoc (l : List UInt8) (c : UInt8) : valL (l ++ [c]) = valL l * 10 + (c.toNat - 48) := by simp [valL]
theorem valL_dec (u : Nat) : valL (dec u) = u := by
  induction u using Nat.strongRecOn with
  | ind u ih =>
    by_cases h : u < 10
    · rw [dec_small h]; simp only [valL, List.foldl_cons, List.foldl_nil, ofNat_dig h]; omega
    · rw [dec_big h, valL_snoc, ih (u / 10) (by omega), ofNat_dig (by omega)]; omega
theorem parse_snoc : ∀ (l : List UInt8) (acc u : Nat) (c : UInt8), Lib.parseUint10 acc l = .ok u → 48 ≤ c.toNat → c.toNat ≤ 57 → u < 1844674407370955161 → Lib.parseUint10 acc (l ++ [c]) = .ok (u * 10 + (c.toNat - 48))
  | [], acc, u, c, h, h1, h2, h3 => by
    simp only [Lib.parseUint10] at h
    injection h with h
    subst h
    simp only [List.nil_append, Lib.parseUint10]
    rw [if_pos ⟨h1, h2⟩, if_neg (by omega), if_neg (by omega)]
  | d :: l, acc, u, c, h, h1, h2, h3 => by
    simp only [List.cons_append, Lib.parseUint10] at h ⊢
    split at h
    · rename_i hd
      rw [if_pos hd]
      split at h
      · cases h
      · rename_i ha
        rw [if_neg ha]
        split at h
        · cases h
        · rename_i hb
          rw [if_neg hb]
          exact parse_snoc l _ u c h h1 h2 h3
    · cases h
theorem parse_dec (u : Nat) (hu : u < 10000000000) : Lib.parseUint10 0 (dec u) = .ok u := by
  induction u using Nat.strongRecOn with
  | ind u ih =>
    by_cases h : u < 10
    · rw [dec_small h]
      simp only [Lib.parseUint10, ofNat_dig h]
      rw [if_pos ⟨by omega, by omega⟩, if_neg (by omega), if_neg (by omega)]
      congr 1; omega
    · rw [dec_big h, parse_snoc _ 0 (u / 10) _ (ih (u / 10) (by omega) (by omega)) (by rw [ofNat_dig (by omega)]; omega) (by rw [ofNat_dig (by omega)]; omega) (by omega), ofNat_dig (by omega)]
      congr 1; omega
theorem atoi_dec (u : Nat) (hu : u < 10000000000) : Lib.atoiAll (dec u) = .ok (u : Int) := by
  have h0 := parse_dec u hu
  have h1 := dec_dig u
  have h2 := dec_ne u
  generalize dec u = l at h0 h1 h2
  cases l with
  | nil => exact absurd rfl h2
  | cons c r =>
    have hc := h1 c (by simp)
    unfold Lib.atoiAll
    dsimp only
    rw [if_neg (by omega)]
    have : Lib.parseMag (c :: r) = .ok u := by unfold Lib.parseMag; rw [if_neg (by simp)]; exact h0
    rw [this]
    dsimp only
    rw [if_neg (by omega), if_neg (by omega), if_neg (by omega)]
theorem itoaL_nn {n : Int} (h : 0 ≤ n) (h2 : n ≤ 9223372036854775807) : itoaL n = dec n.toNat := by
  unfold itoaL
  rw [if_neg (by omega), decF_eq _ _ (by omega) (by omega)]
theorem itoaB_nn {n : Int} (h : 0 ≤ n) (h2 : n ≤ 9223372036854775807) : itoaB n = bl (dec n.toNat) := by
  unfold itoaB bl
  rw [itoaL_nn h h2]
/-- A number as it must be written. -/
def num (w : List UInt8) : Option Int := match Lib.atoiAll w with
  | .ok v => if 0 ≤ v ∧ v ≤ 999999 ∧ dec v.toNat = w then some v else none
  | _ => none
theorem num_dec {x : Int} (h : 0 ≤ x) (h2 : x ≤ 999999) : num (dec x.toNat) = some x := by
  unfold num
  rw [atoi_dec _ (by omega)]
  dsimp only
  rw [if_pos ⟨by omega, by omega, by rw [Int.toNat_natCast]⟩]
  congr 1; omega
theorem num_some {w : List UInt8} {x : Int} (h : num w = some x) : 0 ≤ x ∧ x ≤ 999999 ∧ w = dec x.toNat := by
  unfold num at h
  split at h
  · split at h
    · rename_i hh; cases h; exact ⟨hh.1, hh.2.1, hh.2.2.symm⟩
    · cases h
  · cases h

/-! ### a pick's text -/
def txt (p : GPick) : Option (List UInt8) :=
  if p.thread < 0 ∨ p.draw < 0 ∨ p.thread > 999999 ∨ p.draw > 999999 then none
  else if p.kind = 0 then some (if p.draw > 0 then dec p.thread.toNat ++ 46 :: dec p.draw.toNat else dec p.thread.toNat)
  else if p.kind = 1 then (if p.draw = 0 then some (115 :: dec p.thread.toNat) else none)
  else if p.kind = 2 ∧ p.thread = 0 ∧ p.draw = 0 then some [116] else none
def cut46 (w : List UInt8) : Option (List UInt8 × List UInt8) :=
  if Lib.indexByte w 46 < 0 then none else some (w.take (Lib.indexByte w 46).toNat, w.drop (Lib.indexByte w 46 + 1).toNat)
/-- The pick of a word. -/
def pk (w : List UInt8) : Option GPick :=
  if w = [116] then some ⟨2, 0, 0⟩
  else if w.head? = some 115 then (num w.tail).map fun x => ⟨1, x, 0⟩
  else match cut46 w with
    | some (a, b) => (num a).bind fun x => (num b).bind fun d => if d > 0 then some ⟨0, x, d⟩ else none
    | none => (num w).map fun x => ⟨0, x, 0⟩
theorem index_none : ∀ {l : List UInt8} {c : UInt8}, (∀ b ∈ l, b ≠ c) → Lib.indexByte l c = -1
  | [], _, _ => rfl
  | b :: l, c, h => by
    unfold Lib.indexByte
    rw [index_none fun b hb => h b (by simp [hb])]
    have := h b (by simp)
    simp [this]
theorem index_at : ∀ {l r : List UInt8} {c : UInt8}, (∀ b ∈ l, b ≠ c) → Lib.indexByte (l ++ c :: r) c = (l.length : Int)
  | [], r, c, _ => by simp [Lib.indexByte]
  | b :: l, r, c, h => by
    have hb := h b (by simp)
    simp only [List.cons_append]
    unfold Lib.indexByte
    rw [index_at fun b hb => h b (by simp [hb])]
    simp only [List.length_cons]
    rw [if_neg (by simpa using hb), if_neg (by simp only [beq_iff_eq]; omega)]
    omega
theorem index_neg {l : List UInt8} {c : UInt8} (h : Lib.indexByte l c < 0) : ∀ b ∈ l, b ≠ c := by
  intro b hb hbc
  subst hbc
  obtain ⟨p, q, rfl, hp⟩ := List.append_of_mem hb |> fun ⟨p, q, h⟩ => (⟨p, q, h, trivial⟩ : ∃ p q, l = p ++ b :: q ∧ True)
  have := Lib.indexByte_ge (p ++ b :: q) b
  have h1 : Lib.indexByte (p ++ b :: q) b = -1 := by omega
  have := Lib.indexByte_none h1 p.length
  simp at this
theorem index_split : ∀ {l : List UInt8} {c : UInt8}, 0 ≤ Lib.indexByte l c → ∃ p q, l = p ++ c :: q ∧ (∀ b ∈ p, b ≠ c) ∧ Lib.indexByte l c = (p.length : Int)
  | [], _, h => by simp [Lib.indexByte] at h
  | b :: l, c, h => by
    by_cases hb : b = c
    · subst hb; exact ⟨[], l, rfl, by simp, by simp [Lib.indexByte]⟩
    · have h0 : 0 ≤ Lib.indexByte l c := by
        unfold Lib.indexByte at h
        rw [if_neg (by simpa using hb)] at h
        have := Lib.indexByte_ge l c
        split at h
        · omega
        · rename_i hh; simp only [beq_iff_eq] at hh; omega
      obtain ⟨p, q, rfl, hp, _⟩ := index_split h0
      have hp' : ∀ x ∈ b :: p, x ≠ c := by
        intro x hx
        rcases List.mem_cons.1 hx with rfl | hx
        · exact hb
        · exact hp x hx
      exact ⟨b :: p, q, rfl, hp', by have := index_at (r := q) hp'; simpa using this⟩
theorem cut46_at {a b : List UInt8} (h : ∀ c ∈ a, c ≠ 46) : cut46 (a ++ 46 :: b) = some (a, b) := by
  unfold cut46
  rw [index_at h, if_neg (by omega)]
  have : ((a.length : Int) + 1).toNat = a.length + 1 := by omega
  rw [this, Int.toNat_natCast]
  simp
theorem cut46_none {w : List UInt8} (h : ∀ c ∈ w, c ≠ 46) : cut46 w = none := by
  unfold cut46
  rw [index_none h, if_pos (by omega)]
theorem dig_ne {u : Nat} {c : UInt8} (hc : c ∈ dec u) (k : UInt8) (hk : k.toNat < 48 ∨ 57 < k.toNat) : c ≠ k := by
  rintro rfl
  have := dec_dig u c hc
  omega
theorem dec_head (u : Nat) (r : List UInt8) : ∃ c t, dec u ++ r = c :: t ∧ 48 ≤ c.toNat ∧ c.toNat ≤ 57 := by
  have h1 := dec_dig u
  have h2 := dec_ne u
  generalize dec u = l at h1 h2
  cases l with
  | nil => exact absurd rfl h2
  | cons c t => exact ⟨c, t ++ r, rfl, h1 c (by simp)⟩
theorem pk_dec {x : Int} (h : 0 ≤ x) (h2 : x ≤ 999999) : pk (dec x.toNat) = some ⟨0, x, 0⟩ := by
  unfold pk
  obtain ⟨c, t, e, hc⟩ := dec_head x.toNat []
  rw [List.append_nil] at e
  have n1 : dec x.toNat ≠ [116] := by
    intro hh; rw [hh] at e; cases e
    revert hc; decide
  have n2 : (dec x.toNat).head? ≠ some 115 := by
    intro hh; rw [e] at hh; simp at hh; subst hh; revert hc; decide
  rw [if_neg n1, if_neg n2, cut46_none fun c hc => dig_ne hc 46 (by decide)]
  dsimp only
  rw [num_dec h h2]; rfl
theorem pk_dot {x d : Int} (h : 0 ≤ x) (h2 : x ≤ 999999) (hd : 0 < d) (hd2 : d ≤ 999999) : pk (dec x.toNat ++ 46 :: dec d.toNat) = some ⟨0, x, d⟩ := by
  unfold pk
  obtain ⟨c, t, e, hc⟩ := dec_head x.toNat (46 :: dec d.toNat)
  have n1 : dec x.toNat ++ 46 :: dec d.toNat ≠ [116] := by
    intro hh; rw [hh] at e; cases e
    revert hc; decide
  have n2 : (dec x.toNat ++ 46 :: dec d.toNat).head? ≠ some 115 := by
    intro hh; rw [e] at hh; simp at hh; subst hh; revert hc; decide
  rw [if_neg n1, if_neg n2, cut46_at fun c hc => dig_ne hc 46 (by decide)]
  dsimp only
  rw [num_dec h h2, num_dec (by omega) hd2]
  simp [hd]
theorem pk_txt {p : GPick} {w : List UInt8} (h : txt p = some w) : pk w = some p := by
  obtain ⟨kd, th, dr⟩ := p
  unfold txt at h
  simp only at h
  split at h
  · cases h
  · rename_i hb
    simp only [not_or, Int.not_lt] at hb
    split at h
    · rename_i hk; subst hk
      cases h
      split
      · exact pk_dot (by omega) (by omega) (by omega) (by omega)
      · rw [pk_dec (by omega) (by omega)]
        have : dr = 0 := by omega
        rw [this]
    · split at h
      · rename_i hk; subst hk
        split at h
        · rename_i hd; subst hd
          cases h
          unfold pk
          rw [if_neg (by intro hh; cases hh), if_pos (by rfl)]
          simp [num_dec (show 0 ≤ th by omega) (by omega)]
        · cases h
      · split at h
        · rename_i hh
          obtain ⟨rfl, rfl, rfl⟩ := hh
          cases h; rfl
        · cases h
theorem txt_pk {p : GPick} {w : List UInt8} (h : pk w = some p) : txt p = some w := by
  unfold pk at h
  split at h
  · rename_i hw; cases h; subst hw; rfl
  · split at h
    · rename_i h1 h2
      rw [Option.map_eq_some_iff] at h
      obtain ⟨x, hx, rfl⟩ := h
      obtain ⟨a1, a2, a3⟩ := num_some hx
      cases w with
      | nil => simp at h2
      | cons c t =>
        simp only [List.head?_cons, Option.some.injEq] at h2
        subst h2
        simp only [List.tail_cons] at a3
        unfold txt
        simp only
        rw [if_neg (by omega), if_neg (by decide), if_pos trivial, if_pos trivial, a3]
    · split at h
      · rename_i a b hc
        rw [Option.bind_eq_some_iff] at h
        obtain ⟨x, hx, h⟩ := h
        rw [Option.bind_eq_some_iff] at h
        obtain ⟨d, hd, h⟩ := h
        split at h
        · rename_i hpos
          cases h
          obtain ⟨a1, a2, a3⟩ := num_some hx
          obtain ⟨b1, b2, b3⟩ := num_some hd
          unfold cut46 at hc
          split at hc
          · cases hc
          · rename_i hi
            obtain ⟨p, q, rfl, hp, hl⟩ := index_split (l := w) (c := 46) (by omega)
            rw [hl] at hc
            have : ((p.length : Int) + 1).toNat = p.length + 1 := by omega
            rw [this, Int.toNat_natCast] at hc
            simp at hc
            obtain ⟨rfl, rfl⟩ := hc
            unfold txt
            simp only
            rw [if_neg (by omega), if_pos trivial, if_pos hpos, ← a3, ← b3]
        · cases h
      · rw [Option.map_eq_some_iff] at h
        obtain ⟨x, hx, rfl⟩ := h
        obtain ⟨a1, a2, a3⟩ := num_some hx
        unfold txt
        simp only
        rw [if_neg (by omega), if_pos trivial, if_neg (by omega), a3]

/-! ### parts at each space -/
def parts : List UInt8 → List (List UInt8)
  | [] => [[]]
  | c :: l => if c = 32 then [] :: parts l else match parts l with
    | p :: ps => (c :: p) :: ps
    | [] => [[c]]
theorem parts_none : ∀ {p : List UInt8}, (∀ b ∈ p, b ≠ 32) → parts p = [p]
  | [], _ => rfl
  | c :: p, h => by
    rw [parts, if_neg (h c (by simp)), parts_none fun b hb => h b (by simp [hb])]
theorem parts_at : ∀ {p r : List UInt8}, (∀ b ∈ p, b ≠ 32) → parts (p ++ 32 :: r) = p :: parts r
  | [], r, _ => by simp [parts]
  | c :: p, r, h => by
    rw [List.cons_append, parts, if_neg (h c (by simp)), parts_at fun b hb => h b (by simp [hb])]
theorem parts_ne : ∀ l : List UInt8, parts l ≠ []
  | [] => by simp [parts]
  | c :: l => by
    rw [parts]
    split
    · simp
    · split <;> simp
theorem parts_len : ∀ l : List UInt8, (parts l).length ≤ l.length + 1
  | [] => by simp [parts]
  | c :: l => by
    have := parts_len l
    rw [parts]
    split
    · simp only [List.length_cons]; omega
    · split
      · rename_i h; rw [h] at this; simp only [List.length_cons] at this ⊢; omega
      · simp
theorem join_parts : ∀ l : List UInt8, Lib.join (parts l) [32] = l
  | [] => by simp [parts, Lib.join_one]
  | c :: l => by
    have ih := join_parts l
    have hne := parts_ne l
    rw [parts]
    cases hp : parts l with
    | nil => exact absurd hp hne
    | cons p ps =>
      rw [hp] at ih
      split
      · rename_i hc; subst hc
        rw [Lib.join_cons]
        rw [Lib.join_cons] at ih
        simp only [Lib.joinTail, List.map_cons, List.flatten_cons, List.nil_append, List.singleton_append, List.cons_append] at ih ⊢
        rw [ih]
      · rw [Lib.join_cons] at ih ⊢
        rw [List.cons_append, ih]
theorem parts_join : ∀ {p : List UInt8} {ps : List (List UInt8)}, (∀ q ∈ p :: ps, ∀ b ∈ q, b ≠ 32) → parts (Lib.join (p :: ps) [32]) = p :: ps
  | p, [], h => by rw [Lib.join_one]; exact parts_none (h p (by simp))
  | p, q :: ps, h => by
    have e : Lib.join (p :: q :: ps) [32] = p ++ 32 :: Lib.join (q :: ps) [32] := by
      rw [Lib.join_cons, Lib.join_cons]
      simp [Lib.joinTail]
    rw [e, parts_at (h p (by simp)), parts_join fun r hr => h r (by simp [hr])]
theorem txt_bytes {p : GPick} {w : List UInt8} (h : txt p = some w) : (∀ b ∈ w, b ≠ 32) ∧ w ≠ [] ∧ w.length ≤ 13 := by
  have hl : ∀ x : Int, 0 ≤ x → x ≤ 999999 → (dec x.toNat).length ≤ 6 := fun x h1 h2 => dec_len 6 _ (by omega) (by omega)
  have hn : ∀ u : Nat, ∀ b ∈ dec u, b ≠ 32 := fun u b hb => dig_ne hb 32 (by decide)
  unfold txt at h
  split at h
  · cases h
  · rename_i hb
    simp only [not_or, Int.not_lt] at hb
    have l1 := hl p.thread (by omega) (by omega)
    have l2 := hl p.draw (by omega) (by omega)
    split at h
    · cases h
      split
      · refine ⟨fun b hb => ?_, by simp, by simp only [List.length_append, List.length_cons]; omega⟩
        rcases List.mem_append.1 hb with hb | hb
        · exact hn _ b hb
        · rcases List.mem_cons.1 hb with rfl | hb
          · decide
          · exact hn _ b hb
      · exact ⟨hn _, dec_ne _, by omega⟩
    · split at h
      · split at h
        · cases h
          refine ⟨fun b hb => ?_, by simp, by simp only [List.length_cons]; omega⟩
          rcases List.mem_cons.1 hb with rfl | hb
          · decide
          · exact hn _ b hb
        · cases h
      · split at h
        · cases h; exact ⟨by decide, by simp, by simp⟩
        · cases h
end Go.Abs
