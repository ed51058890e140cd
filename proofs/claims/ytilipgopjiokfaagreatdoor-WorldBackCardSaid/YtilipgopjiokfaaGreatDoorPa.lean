/-
  Part of the proof: printed by the session's own program out of the program's form, or typed; it states no claim by itself.
-/
import Derived.Test.YtilipgopjiokfaaGreatDoorAbs35
import Derived.Lib.IndexLaws
import Derived.Lib.AtoiAllCases
import Derived.Lib.CountLaws
import Derived.Test.YtilipgopjiokfaaGreatDoorFb
/-
  Bytes and numbers as texts, without the program.
-/
set_option linter.unusedVariables false
set_option linter.unusedSimpArgs false
namespace Go.Abs
open Go

def bl (l : List UInt8) : ByteArray := ⟨l.toArray⟩
theorem bl_of (s : ByteArray) : bl s.data.toList = s := by simp [bl]
theorem bl_data (l : List UInt8) : (bl l).data.toList = l := by simp [bl]
theorem bl_size (l : List UInt8) : (bl l).size = l.length := by simp [bl, ByteArray.size]
theorem bl_inj {a b : List UInt8} : bl a = bl b ↔ a = b := ⟨fun h => by have := congrArg (fun s : ByteArray => s.data.toList) h; simpa [bl] using this, fun h => by rw [h]⟩
theorem ba_ext {a b : ByteArray} (h : a.data.toList = b.data.toList) : a = b := by rw [← bl_of a, ← bl_of b, h]
theorem bl_app (a b : List UInt8) : bl a ++ bl b = bl (a ++ b) := ba_ext (by simp [bl])
theorem bl_ext (l : List UInt8) (i j : Nat) : (bl l).extract i j = bl ((l.take j).drop i) := ba_ext (by simp [bl, List.extract_eq_take_drop, List.drop_take])
theorem bl_byte (l : List UInt8) (i : Nat) : byteI (bl l) i = (l[i]?).map fun b => (b.toNat : Int) := by
  unfold byteI
  rw [if_pos (by omega)]
  simp only [Int.toNat_natCast]
  congr 1
  by_cases h : i < l.length
  · rw [getElem?_pos (bl l) i (by rw [bl_size]; exact h), List.getElem?_eq_getElem h]
    simp [bl, ByteArray.getElem_eq_getElem_data]
  · rw [getElem?_neg (bl l) i (by rw [bl_size]; exact h), List.getElem?_eq_none (by omega)]

/-! ### numbers -/
abbrev dec := Lib.decDigits
theorem dec_small {u : Nat} (h : u < 10) : dec u = [UInt8.ofNat (48 + u)] := Lib.decDigits_one h
theorem dec_big {u : Nat} (h : ¬ u < 10) : dec u = dec (u / 10) ++ [UInt8.ofNat (48 + u % 10)] := by
  show Lib.decDigits u = _
  rw [Lib.decDigits, dif_neg h]
theorem ofNat_dig {d : Nat} (h : d < 10) : (UInt8.ofNat (48 + d)).toNat = 48 + d := by
  simp [UInt8.toNat_ofNat']; omega
theorem dec_dig (u : Nat) : ∀ c ∈ dec u, 48 ≤ c.toNat ∧ c.toNat ≤ 57 := by
  induction u using Nat.strongRecOn with
  | ind u ih =>
    intro c hc
    by_cases h : u < 10
    · rw [dec_small h] at hc; simp only [List.mem_singleton] at hc; subst hc; rw [ofNat_dig h]; omega
    · rw [dec_big h] at hc
      rcases List.mem_append.1 hc with hc | hc
      · exact ih (u / 10) (by omega) c hc
      · simp only [List.mem_singleton] at hc; subst hc; rw [ofNat_dig (by omega)]; omega
theorem dec_ne (u : Nat) : dec u ≠ [] := by
  by_cases h : u < 10
  · rw [dec_small h]; simp
  · rw [dec_big h]; simp
theorem dec_len : ∀ (k u : Nat), u < 10 ^ k → 0 < k → (dec u).length ≤ k
  | 0, _, _, h => absurd h (by omega)
  | k + 1, u, h, _ => by
    by_cases hu : u < 10
    · rw [dec_small hu]; simp
    · rw [dec_big hu]
      rw [Nat.pow_succ] at h
      have : 0 < k := by
        rcases Nat.eq_zero_or_pos k with rfl | hk
        · simp at h; omega
        · exact hk
      have := dec_len k (u / 10) (by omega) this
      simp only [List.length_append, List.length_singleton]; omega
def valL (l : List UInt8) : Nat := l.foldl (fun a c => a * 10 + (c.toNat - 48)) 0
theorem valL_snoc (l : List UInt8) (c : UInt8) : valL (l ++ [c]) = valL l * 10 + (c.toNat - 48) := by simp [valL]
theorem valL_dec (u : Nat) : valL (dec u) = u := by
  induction u using Nat.strongRecOn with
  | ind u ih =>
    by_cases h : u < 10
    · rw [dec_small h]; simp only [valL, List.foldl_cons, List.foldl_nil, ofNat_dig h]; omega
    · rw [dec_big h, valL_snoc, ih (u / 10) (by omega), ofNat_dig (by omega)]; omega
theorem parse_snoc : ∀ (l : List UInt8) (acc u : Nat) (c : UInt8), Lib.parseUint10 acc l = .ok u → 48 ≤ c.toNat → c.toNat ≤ 57 → u < 1844674407370955161 → Lib.parseUint10 acc (l ++ [c]) = .ok (u * 10 + (c.toNat - 48))
  | [], acc, u, c, h, h1, h2, h3 => by
    simp only [Lib.parseUint10] at h
    injection h with h
    subst h
    simp only [List.nil_append, Lib.parseUint10]
    rw [if_pos ⟨h1, h2⟩, if_neg (by omega), if_neg (by omega)]
  | d :: l, acc, u, c, h, h1, h2, h3 => by
    simp only [List.cons_append, Lib.parseUint10] at h ⊢
    split at h
    · rename_i hd
      rw [if_pos hd]
      split at h
      · cases h
      · rename_i ha
        rw [if_neg ha]
        split at h
        · cases h
        · rename_i hb
          rw [if_neg hb]
          exact parse_snoc l _ u c h h1 h2 h3
    · cases h
theorem parse_dec (u : Nat) (hu : u < 10000000000) : Lib.parseUint10 0 (dec u) = .ok u := by
  induction u using Nat.strongRecOn with
  | ind u ih =>
    by_cases h : u < 10
    · rw [dec_small h]
      simp only [Lib.parseUint10, ofNat_dig h]
      rw [if_pos ⟨by omega, by omega⟩, if_neg (by omega), if_neg (by omega)]
      congr 1; omega
    · rw [dec_big h, parse_snoc _ 0 (u / 10) _ (ih (u / 10) (by omega) (by omega)) (by rw [ofNat_dig (by omega)]; omega) (by rw [ofNat_dig (by omega)]; omega) (by omega), ofNat_dig (by omega)]
      congr 1; omega
theorem atoi_dec (u : Nat) (hu : u < 10000000000) : Lib.atoiAll (dec u) = .ok (u : Int) := by
  have h0 := parse_dec u hu
  have h1 := dec_dig u
  have h2 := dec_ne u
  generalize dec u = l at h0 h1 h2
  cases l with
  | nil => exact absurd rfl h2
  | cons c r =>
    have hc := h1 c (by simp)
    unfold Lib.atoiAll
    dsimp only
    rw [if_neg (by omega)]
    have : Lib.parseMag (c :: r) = .ok u := by unfold Lib.parseMag; rw [if_neg (by simp)]; exact h0
    rw [this]
    dsimp only
    rw [if_neg (by omega), if_neg (by omega), if_neg (by omega)]
theorem itoaL_nn {n : Int} (h : 0 ≤ n) (h2 : n ≤ 9223372036854775807) : itoaL n = dec n.toNat := by
  unfold itoaL
  rw [if_neg (by omega), decF_eq _ _ (by omega) (by omega)]
theorem itoaB_nn {n : Int} (h : 0 ≤ n) (h2 : n ≤ 9223372036854775807) : itoaB n = bl (dec n.toNat) := by
  unfold itoaB bl
  rw [itoaL_nn h h2]
/-- A number as it must be written. -/
def num (w : List UInt8) : Option Int := match Lib.atoiAll w with
  | .ok v => if 0 ≤ v ∧ v ≤ 999999 ∧ dec v.toNat = w then some v else none
  | _ => none
theorem num_dec {x : Int} (h : 0 ≤ x) (h2 : x ≤ 999999) : num (dec x.toNat) = some x := by
  unfold num
  rw [atoi_dec _ (by omega)]
  dsimp only
  rw [if_pos ⟨by omega, by omega, by rw [Int.toNat_natCast]⟩]
  congr 1; omega
theorem num_some {w : List UInt8} {x : Int} (h : num w = some x) : 0 ≤ x ∧ x ≤ 999999 ∧ w = dec x.toNat := by
  unfold num at h
  split at h
  · split at h
    · rename_i hh; cases h; exact ⟨hh.1, hh.2.1, hh.2.2.symm⟩
    · cases h
  · cases h


/-! ### all numbers -/
theorem parse_dec' (u : Nat) (hu : u ≤ 9223372036854775808) : Lib.parseUint10 0 (dec u) = .ok u := by
  induction u using Nat.strongRecOn with
  | ind u ih =>
    by_cases h : u < 10
    · rw [dec_small h]
      simp only [Lib.parseUint10, ofNat_dig h]
      rw [if_pos ⟨by omega, by omega⟩, if_neg (by omega), if_neg (by omega)]
      congr 1; omega
    · rw [dec_big h, parse_snoc _ 0 (u / 10) _ (ih (u / 10) (by omega) (by omega)) (by rw [ofNat_dig (by omega)]; omega) (by rw [ofNat_dig (by omega)]; omega) (by omega), ofNat_dig (by omega)]
      congr 1; omega
theorem mag_dec (u : Nat) (hu : u ≤ 9223372036854775808) : Lib.parseMag (dec u) = .ok u := by
  unfold Lib.parseMag; rw [if_neg (dec_ne u)]; exact parse_dec' u hu
/-- A number's text. -/
def iL (n : Int) : List UInt8 := if n < 0 then 45 :: dec n.natAbs else dec n.toNat
theorem itoaL_iL {n : Int} (h : InR n) : itoaL n = iL n := by
  have : -9223372036854775808 ≤ n ∧ n ≤ 9223372036854775807 := h
  unfold itoaL iL
  rw [decF_eq _ _ (by omega) (by omega), decF_eq _ _ (by omega) (by omega)]
theorem itoaB_iL {n : Int} (h : InR n) : itoaB n = bl (iL n) := by
  unfold itoaB bl
  rw [itoaL_iL h]
theorem atoi_iL {n : Int} (h : InR n) : Lib.atoiAll (iL n) = .ok n := by
  have hn : -9223372036854775808 ≤ n ∧ n ≤ 9223372036854775807 := h
  unfold iL
  by_cases h0 : n < 0
  · rw [if_pos h0, Lib.atoiAll_minus, mag_dec _ (by omega)]
    simp only [Lib.signed]
    rw [if_neg (by omega)]
    congr 1; omega
  · rw [if_neg h0]
    have h1 := dec_dig n.toNat
    have h2 := dec_ne n.toNat
    have h3 := mag_dec n.toNat (by omega)
    generalize dec n.toNat = l at h1 h2 h3
    cases l with
    | nil => exact absurd rfl h2
    | cons c r =>
      have hc := h1 c (by simp)
      rw [Lib.atoiAll_plain _ _ (by omega) (by omega), h3]
      simp only [Lib.signless]
      rw [if_neg (by omega)]
      congr 1; omega
theorem iL_inj {n m : Int} (h : InR n) (k : InR m) (e : iL n = iL m) : n = m := by
  have := atoi_iL h
  rw [e, atoi_iL k] at this
  injection this with this
  exact this.symm
theorem iL_nn {n : Int} (h : 0 ≤ n) : iL n = dec n.toNat := by unfold iL; rw [if_neg (by omega)]
theorem iL_len {n : Int} (h : InR n) : (iL n).length ≤ 20 := by
  have hn : -9223372036854775808 ≤ n ∧ n ≤ 9223372036854775807 := h
  unfold iL
  split
  · have := dec_len 19 n.natAbs (by omega) (by omega)
    simp only [List.length_cons]; omega
  · have := dec_len 19 n.toNat (by omega) (by omega)
    omega
theorem iL_ne (n : Int) : iL n ≠ [] := by
  unfold iL
  split
  · simp
  · exact dec_ne _
/-- Which bytes a number has. -/
theorem iL_bytes (n : Int) : ∀ c ∈ iL n, c = 45 ∨ (48 ≤ c.toNat ∧ c.toNat ≤ 57) := by
  unfold iL
  split
  · intro c hc
    rcases List.mem_cons.1 hc with rfl | hc
    · exact .inl rfl
    · exact .inr (dec_dig _ c hc)
  · intro c hc
    exact .inr (dec_dig _ c hc)
theorem iL_no {n : Int} {c k : UInt8} (hc : c ∈ iL n) (hk : k.toNat ≠ 45 := by decide) (hk2 : k.toNat < 48 ∨ 57 < k.toNat := by decide) : c ≠ k := by
  rintro rfl
  rcases iL_bytes n c hc with rfl | h
  · exact hk rfl
  · omega
theorem atoi_InR {l : List UInt8} {v : Int} (h : Lib.atoiAll l = .ok v) : InR v := Lib.atoiAll_bounds h

/-! ### parts at each of a byte -/
def cuts (k : UInt8) : List UInt8 → List (List UInt8)
  | [] => [[]]
  | c :: l => if c = k then [] :: cuts k l else match cuts k l with
    | p :: ps => (c :: p) :: ps
    | [] => [[c]]
theorem cuts_none {k : UInt8} : ∀ {p : List UInt8}, (∀ b ∈ p, b ≠ k) → cuts k p = [p]
  | [], _ => rfl
  | c :: p, h => by
    rw [cuts, if_neg (h c (by simp)), cuts_none fun b hb => h b (by simp [hb])]
theorem cuts_at {k : UInt8} : ∀ {p r : List UInt8}, (∀ b ∈ p, b ≠ k) → cuts k (p ++ k :: r) = p :: cuts k r
  | [], r, _ => by simp [cuts]
  | c :: p, r, h => by
    rw [List.cons_append, cuts, if_neg (h c (by simp)), cuts_at fun b hb => h b (by simp [hb])]
theorem cuts_ne (k : UInt8) : ∀ l : List UInt8, cuts k l ≠ []
  | [] => by simp [cuts]
  | c :: l => by
    rw [cuts]
    split
    · simp
    · split <;> simp
theorem cuts_len (k : UInt8) : ∀ l : List UInt8, (cuts k l).length ≤ l.length + 1
  | [] => by simp [cuts]
  | c :: l => by
    have := cuts_len k l
    rw [cuts]
    split
    · simp only [List.length_cons]; omega
    · split
      · rename_i h; rw [h] at this; simp only [List.length_cons] at this ⊢; omega
      · simp
theorem join_cuts (k : UInt8) : ∀ l : List UInt8, Lib.join (cuts k l) [k] = l
  | [] => by simp [cuts, Lib.join_one]
  | c :: l => by
    have ih := join_cuts k l
    have hne := cuts_ne k l
    rw [cuts]
    cases hp : cuts k l with
    | nil => exact absurd hp hne
    | cons p ps =>
      rw [hp] at ih
      split
      · rename_i hc; subst hc
        rw [Lib.join_cons]
        rw [Lib.join_cons] at ih
        simp only [Lib.joinTail, List.map_cons, List.flatten_cons, List.nil_append, List.singleton_append, List.cons_append] at ih ⊢
        rw [ih]
      · rw [Lib.join_cons] at ih ⊢
        rw [List.cons_append, ih]
theorem cuts_join {k : UInt8} : ∀ {p : List UInt8} {ps : List (List UInt8)}, (∀ q ∈ p :: ps, ∀ b ∈ q, b ≠ k) → cuts k (Lib.join (p :: ps) [k]) = p :: ps
  | p, [], h => by rw [Lib.join_one]; exact cuts_none (h p (by simp))
  | p, q :: ps, h => by
    have e : Lib.join (p :: q :: ps) [k] = p ++ k :: Lib.join (q :: ps) [k] := by
      rw [Lib.join_cons, Lib.join_cons]
      simp [Lib.joinTail]
    rw [e, cuts_at (h p (by simp)), cuts_join fun r hr => h r (by simp [hr])]
theorem cuts_size (k : UInt8) : ∀ (l : List UInt8), ∀ p ∈ cuts k l, p.length ≤ l.length
  | [], p, h => by simp [cuts] at h; subst h; simp
  | c :: l, p, h => by
    have ih := cuts_size k l
    rw [cuts] at h
    split at h
    · rcases List.mem_cons.1 h with rfl | h
      · simp
      · have := ih p h; simp only [List.length_cons]; omega
    · split at h
      · rename_i q qs hq
        rcases List.mem_cons.1 h with rfl | h
        · have := ih q (by rw [hq]; simp); simp only [List.length_cons]; omega
        · have := ih p (by rw [hq]; simp [h]); simp only [List.length_cons]; omega
      · simp only [List.mem_singleton] at h; subst h; simp
theorem cuts_no (k : UInt8) : ∀ (l : List UInt8), ∀ p ∈ cuts k l, ∀ b ∈ p, b ≠ k
  | [], p, h => by simp [cuts] at h; subst h; simp
  | c :: l, p, h => by
    have ih := cuts_no k l
    rw [cuts] at h
    split at h
    · rcases List.mem_cons.1 h with rfl | h
      · simp
      · exact ih p h
    · rename_i hc
      split at h
      · rename_i q qs hq
        rcases List.mem_cons.1 h with rfl | h
        · intro b hb
          rcases List.mem_cons.1 hb with rfl | hb
          · exact hc
          · exact ih q (by rw [hq]; simp) b hb
        · exact ih p (by rw [hq]; simp [h])
      · simp only [List.mem_singleton] at h; subst h
        intro b hb
        simp only [List.mem_singleton] at hb
        subst hb; exact hc
theorem index_none : ∀ {l : List UInt8} {c : UInt8}, (∀ b ∈ l, b ≠ c) → Lib.indexByte l c = -1
  | [], _, _ => rfl
  | b :: l, c, h => by
    unfold Lib.indexByte
    rw [index_none fun b hb => h b (by simp [hb])]
    have := h b (by simp)
    simp [this]
theorem index_at : ∀ {l r : List UInt8} {c : UInt8}, (∀ b ∈ l, b ≠ c) → Lib.indexByte (l ++ c :: r) c = (l.length : Int)
  | [], r, c, _ => by simp [Lib.indexByte]
  | b :: l, r, c, h => by
    have hb := h b (by simp)
    simp only [List.cons_append]
    unfold Lib.indexByte
    rw [index_at fun b hb => h b (by simp [hb])]
    simp only [List.length_cons]
    rw [if_neg (by simpa using hb), if_neg (by simp only [beq_iff_eq]; omega)]
    omega
theorem index_neg {l : List UInt8} {c : UInt8} (h : Lib.indexByte l c < 0) : ∀ b ∈ l, b ≠ c := by
  intro b hb hbc
  subst hbc
  obtain ⟨p, q, rfl, hp⟩ := List.append_of_mem hb |> fun ⟨p, q, h⟩ => (⟨p, q, h, trivial⟩ : ∃ p q, l = p ++ b :: q ∧ True)
  have := Lib.indexByte_ge (p ++ b :: q) b
  have h1 : Lib.indexByte (p ++ b :: q) b = -1 := by omega
  have := Lib.indexByte_none h1 p.length
  simp at this
theorem index_split : ∀ {l : List UInt8} {c : UInt8}, 0 ≤ Lib.indexByte l c → ∃ p q, l = p ++ c :: q ∧ (∀ b ∈ p, b ≠ c) ∧ Lib.indexByte l c = (p.length : Int)
  | [], _, h => by simp [Lib.indexByte] at h
  | b :: l, c, h => by
    by_cases hb : b = c
    · subst hb; exact ⟨[], l, rfl, by simp, by simp [Lib.indexByte]⟩
    · have h0 : 0 ≤ Lib.indexByte l c := by
        unfold Lib.indexByte at h
        rw [if_neg (by simpa using hb)] at h
        have := Lib.indexByte_ge l c
        split at h
        · omega
        · rename_i hh; simp only [beq_iff_eq] at hh; omega
      obtain ⟨p, q, rfl, hp, _⟩ := index_split h0
      have hp' : ∀ x ∈ b :: p, x ≠ c := by
        intro x hx
        rcases List.mem_cons.1 hx with rfl | hx
        · exact hb
        · exact hp x hx
      exact ⟨b :: p, q, rfl, hp', by have := index_at (r := q) hp'; simpa using this⟩
/-- The library's split. -/
theorem index_one (c : UInt8) : ∀ l : List UInt8, Lib.index l [c] = Lib.indexByte l c
  | [] => by simp [Lib.index, Lib.indexByte]
  | b :: l => by
    rw [Lib.index, Lib.indexByte, index_one c l]
    by_cases h : b = c
    · subst h; simp [List.isPrefixOf]
    · have h1 : (b == c) = false := by simpa using h
      have h2 : (List.isPrefixOf [c] (b :: l)) = false := by simp [List.isPrefixOf]; exact fun e => h e.symm
      rw [h1, h2]
theorem split_miss {s sep : List UInt8} (h : Lib.index s sep = -1) : Lib.split s sep = [s] := by
  unfold Lib.split
  rw [Lib.count_miss h]; rfl
theorem split_hit {s sep : List UInt8} {i : Nat} (hs : sep ≠ []) (h : Lib.index s sep = i) : Lib.split s sep = s.take i :: Lib.split (s.drop (i + sep.length)) sep := by
  unfold Lib.split
  rw [Lib.count_hit hs h, Nat.add_comm 1, Lib.splitK, h, if_neg (by simp)]
  simp
theorem split_one (c : UInt8) : ∀ (k : Nat) (s : List UInt8), s.length ≤ k → Lib.split s [c] = cuts c s
  | k, s, hk => by
    by_cases h : Lib.indexByte s c < 0
    · have h1 := index_neg h
      rw [cuts_none h1, split_miss (by rw [index_one, index_none h1])]
    · obtain ⟨p, q, rfl, hp, hi⟩ := index_split (Int.not_lt.1 h)
      rw [cuts_at hp, split_hit (i := p.length) (by simp) (by rw [index_one, hi])]
      cases k with
      | zero => simp at hk
      | succ k =>
        have e1 : (p ++ c :: q).take p.length = p := by simp
        have e2 : (p ++ c :: q).drop (p.length + [c].length) = q := by
          rw [show p ++ c :: q = (p ++ [c]) ++ q by simp]
          exact List.drop_left' (by simp)
        rw [e1, e2, split_one c k q (by simp only [List.length_append, List.length_cons] at hk; omega)]
theorem splitS_one (c : UInt8) (l : List UInt8) : splitS (bl l) ⟨#[c]⟩ = (cuts c l).map bl := by
  unfold splitS
  rw [bl_data]
  show (Lib.split l [c]).map _ = _
  rw [split_one c _ l (Nat.le_refl _)]; rfl
/-! ### digits -/
theorem digits10 : ∀ d, d < 10 → (bl [48, 49, 50, 51, 52, 53, 54, 55, 56, 57]).extract d (d + 1) = bl [UInt8.ofNat (48 + d)] := by
  intro d hd
  rw [bl_ext, bl_inj]
  have : ∀ d : Fin 10, ((([48, 49, 50, 51, 52, 53, 54, 55, 56, 57] : List UInt8).take (d.val + 1)).drop d.val) = [UInt8.ofNat (48 + d.val)] := by decide
  exact this ⟨d, hd⟩
def isDig (c : UInt8) : Prop := 48 ≤ c.toNat ∧ c.toNat ≤ 57
instance (c : UInt8) : Decidable (isDig c) := inferInstanceAs (Decidable (_ ∧ _))
theorem valL_lt : ∀ (l : List UInt8), (∀ c ∈ l, isDig c) → valL l < 10 ^ l.length := by
  intro l
  induction h : l.length generalizing l with
  | zero => intro _; have := List.length_eq_zero_iff.1 h; subst this; simp [valL]
  | succ m ih =>
    intro hd
    obtain ⟨l', c, rfl⟩ : ∃ l' c, l = l' ++ [c] := ⟨l.dropLast, l.getLast (by intro hh; subst hh; simp at h), (List.dropLast_concat_getLast _).symm⟩
    rw [valL_snoc]
    have h1 := ih l' (by simpa using h) (fun c hc => hd c (by simp [hc]))
    have h2 := hd c (by simp)
    unfold isDig at h2
    rw [Nat.pow_succ]
    omega
end Go.Abs

/-
  All numbers as texts: what the document's functions come to.
-/
set_option linter.unusedVariables false
set_option linter.unusedSimpArgs false
namespace Go.Proofs.YtilipgopjiokfaaGreatDoor
open Go Go.Abs Go.Proofs

theorem digits_pos (p0 : Int) (n : Nat) : ∀ (j k : Nat) (v : List UInt8) (u : Nat), u < 10 ^ j → j < k → u ≤ 9223372036854775807 → v.length + j ≤ 1000 → vigilref03_Digits_L6 p0 n k (bl v) (u : Int) = some (.e0 (bl ((if u = 0 then [] else dec u) ++ v)) 0)
  | j, 0, v, u, h, hk, _, _ => by omega
  | j, k + 1, v, u, h, hk, hu, hv => by
    unfold vigilref03_Digits_L6
    by_cases h0 : u = 0
    · subst h0; rw [if_neg (by simp)]; simp
    · rw [if_pos (by omega)]
      have em : Int.tmod (u : Int) 10 = ((u % 10 : Nat) : Int) := by rw [Int.tmod_eq_emod_of_nonneg (by omega)]; omega
      have ed : Int.tdiv (u : Int) 10 = ((u / 10 : Nat) : Int) := by rw [Int.tdiv_eq_ediv_of_nonneg (by omega)]; omega
      have ew : Go.IntKind.i64.wrap ((u / 10 : Nat) : Int) = ((u / 10 : Nat) : Int) := wrap_in (by unfold InR; omega)
      have edg : (⟨#[48, 49, 50, 51, 52, 53, 54, 55, 56, 57]⟩ : ByteArray) = bl [48, 49, 50, 51, 52, 53, 54, 55, 56, 57] := rfl
      rw [em, ed, ew, edg, if_neg (by omega), if_pos (by unfold InR; omega)]
      have e1 : (((u % 10 : Nat) : Int)).toNat = u % 10 := by omega
      have e2 : (((u % 10 : Nat) : Int) + 1).toNat = u % 10 + 1 := by omega
      rw [e1, e2, digits10 _ (by omega), bl_app, if_pos (by rw [bl_size]; simp only [List.length_cons, List.length_nil]; omega), if_pos (by rw [bl_size]; simp only [List.length_append, List.length_cons, List.length_nil]; omega)]
      cases j with
      | zero => simp at h; omega
      | succ j =>
        rw [Nat.pow_succ] at h
        rw [digits_pos p0 n j k _ (u / 10) (by omega) (by omega) (by omega) (by simp only [List.length_append, List.length_cons, List.length_nil]; omega), if_neg h0]
        by_cases hs : u < 10
        · rw [if_pos (by omega), dec_small hs, Nat.mod_eq_of_lt hs]; simp
        · rw [if_neg (by omega), dec_big hs]; simp
theorem digits_neg (p0 : Int) (n : Nat) : ∀ (j k : Nat) (v : List UInt8) (u : Nat), u < 10 ^ j → j < k → u ≤ 9223372036854775808 → v.length + j ≤ 1000 → vigilref03_Digits_L6 p0 n k (bl v) (-(u : Int)) = some (.e0 (bl ((if u = 0 then [] else dec u) ++ v)) 0)
  | j, 0, v, u, h, hk, _, _ => by omega
  | j, k + 1, v, u, h, hk, hu, hv => by
    unfold vigilref03_Digits_L6
    by_cases h0 : u = 0
    · subst h0; rw [if_neg (by simp)]; simp
    · rw [if_pos (by omega)]
      have em : Int.tmod (-(u : Int)) 10 = -((u % 10 : Nat) : Int) := by rw [Int.neg_tmod, Int.tmod_eq_emod_of_nonneg (by omega)]; omega
      have ed : Int.tdiv (-(u : Int)) 10 = -((u / 10 : Nat) : Int) := by rw [Int.neg_tdiv, Int.tdiv_eq_ediv_of_nonneg (by omega)]; omega
      have ew : Go.IntKind.i64.wrap (-((u / 10 : Nat) : Int)) = -((u / 10 : Nat) : Int) := wrap_in (by unfold InR; omega)
      have edg : (⟨#[48, 49, 50, 51, 52, 53, 54, 55, 56, 57]⟩ : ByteArray) = bl [48, 49, 50, 51, 52, 53, 54, 55, 56, 57] := rfl
      have hnext : ∀ j', j = j' + 1 → vigilref03_Digits_L6 p0 n k (bl ([UInt8.ofNat (48 + u % 10)] ++ v)) (-((u / 10 : Nat) : Int)) = some (.e0 (bl ((if u = 0 then [] else dec u) ++ v)) 0) := by
        rintro j' rfl
        rw [Nat.pow_succ] at h
        rw [digits_neg p0 n j' k _ (u / 10) (by omega) (by omega) (by omega) (by simp only [List.length_append, List.length_cons, List.length_nil]; omega), if_neg h0]
        by_cases hs : u < 10
        · rw [if_pos (by omega), dec_small hs, Nat.mod_eq_of_lt hs]; simp
        · rw [if_neg (by omega), dec_big hs]; simp
      have hj : ∃ j', j = j' + 1 := by
        cases j with
        | zero => simp at h; omega
        | succ j' => exact ⟨j', rfl⟩
      obtain ⟨j', hj⟩ := hj
      rw [em, ed, ew, edg]
      by_cases hm : u % 10 = 0
      · rw [if_neg (by omega)]
        have e0 : -((u % 10 : Nat) : Int) = 0 := by omega
        rw [e0, if_pos (by unfold InR; omega)]
        have e1 : ((0 : Int)).toNat = 0 := rfl
        have e2 : ((0 : Int) + 1).toNat = 0 + 1 := rfl
        rw [e1, e2, digits10 _ (by omega), bl_app, if_pos (by rw [bl_size]; simp only [List.length_cons, List.length_nil]; omega), if_pos (by rw [bl_size]; simp only [List.length_append, List.length_cons, List.length_nil]; omega)]
        have := hnext j' hj
        rw [hm] at this
        exact this
      · rw [if_pos (by omega)]
        have e0 : (0 - -((u % 10 : Nat) : Int)) = ((u % 10 : Nat) : Int) := by omega
        rw [e0, if_pos (by unfold InR; omega), if_pos (by unfold InR; omega)]
        have e1 : (((u % 10 : Nat) : Int)).toNat = u % 10 := by omega
        have e2 : (((u % 10 : Nat) : Int) + 1).toNat = u % 10 + 1 := by omega
        rw [e1, e2, digits10 _ (by omega), bl_app, if_pos (by rw [bl_size]; simp only [List.length_cons, List.length_nil]; omega), if_pos (by rw [bl_size]; simp only [List.length_append, List.length_cons, List.length_nil]; omega)]
        exact hnext j' hj
theorem digits_all (n : Nat) (hn : 30 ≤ n) {x : Int} (h : InR x) : vigilref03_Digits n x = some (bl (iL x)) := by
  have hx : -9223372036854775808 ≤ x ∧ x ≤ 9223372036854775807 := h
  unfold vigilref03_Digits
  have e : (⟨#[]⟩ : ByteArray) = bl [] := rfl
  by_cases h0 : x = 0
  · subst h0
    rw [if_pos rfl]
    show some (bl [48]) = some (bl (dec 0))
    rw [dec_small (by omega)]; rfl
  · rw [if_neg h0, e]
    by_cases hs : x < 0
    · have := digits_neg x n 19 n [] x.natAbs (by omega) (by omega) (by omega) (by simp)
      have ex : -((x.natAbs : Nat) : Int) = x := by omega
      rw [ex] at this
      rw [this]
      simp only [Option.bind_some]
      have hl : (iL x).length ≤ 20 := iL_len h
      have e45 : (⟨#[45]⟩ : ByteArray) = bl [45] := rfl
      rw [if_pos hs, if_neg (show ¬ x.natAbs = 0 by omega), e45, bl_app]
      have ei : [45] ++ (dec x.natAbs ++ []) = iL x := by unfold iL; rw [if_pos hs]; simp
      rw [ei, if_pos (by rw [bl_size]; omega)]
    · have := digits_pos x n 19 n [] x.toNat (by omega) (by omega) (by omega) (by simp)
      have ex : ((x.toNat : Nat) : Int) = x := by omega
      rw [ex] at this
      rw [this]
      simp only [Option.bind_some]
      have ei : dec x.toNat ++ [] = iL x := by unfold iL; rw [if_neg hs]; simp
      rw [if_neg hs, if_neg (show ¬ x.toNat = 0 by omega), ei]

/-! ### a number of a word -/
theorem wrap64 {x : Int} (h : 0 ≤ x) (h2 : x ≤ 18446744073709551615) : Go.IntKind.u64.wrap x = x := by
  rw [IntKind.wrap_u64]; omega
theorem acc_step {v c : Nat} (hv : v < 1000000000000000000) (h1 : 48 ≤ c) (h2 : c ≤ 57) : Go.IntKind.u64.wrap ((Go.IntKind.u64.wrap (10 * (v : Int))) + (Go.IntKind.u64.wrap (Go.IntKind.u8.wrap ((c : Int) - 48)))) = ((v * 10 + (c - 48) : Nat) : Int) := by
  rw [IntKind.wrap_u64, IntKind.wrap_u64, IntKind.wrap_u64, IntKind.wrap_u8]; omega
theorem pow18 {k : Nat} (h : k ≤ 18) : 10 ^ k ≤ 1000000000000000000 := Nat.le_trans (Nat.pow_le_pow_right (by omega) h) (by decide)
theorem num14_loop2 (n : Nat) : ∀ (rest done : List UInt8) (k : Nat), done.length + rest.length ≤ 19 → (∀ c ∈ done, isDig c) → rest.length < k →
    vigilref14_Number_L9_2 (bl (done ++ rest)) n k (valL done : Int) (done.length : Int) = (if ∀ c ∈ rest, isDig c then some (.e0 (valL (done ++ rest) : Int) ((done ++ rest).length : Int)) else some .r)
  | rest, done, 0, _, _, h => by omega
  | [], done, k + 1, hl, hd, _ => by
    unfold vigilref14_Number_L9_2
    rw [if_neg (by rw [bl_size]; simp), if_pos (by simp)]
    simp
  | c :: rest, done, k + 1, hl, hd, hk => by
    unfold vigilref14_Number_L9_2
    simp only [List.length_cons] at hl hk
    rw [if_pos (by rw [bl_size]; simp only [List.length_append, List.length_cons]; omega), bl_byte]
    have hg : (done ++ c :: rest)[done.length]? = some c := by simp
    rw [hg, Option.map_some, Option.bind_some]
    by_cases h1 : (c.toNat : Int) < 48
    · rw [if_pos h1, if_neg]
      intro hh; have := hh c (by simp); unfold isDig at this; omega
    · rw [if_neg h1, Option.bind_some]
      by_cases h2 : (c.toNat : Int) > 57
      · rw [if_pos h2, if_neg]
        intro hh; have := hh c (by simp); unfold isDig at this; omega
      · rw [if_neg h2, Option.bind_some]
        have hv := valL_lt done hd
        have hp := pow18 (k := done.length) (by omega)
        have hv : valL done < 1000000000000000000 := Nat.lt_of_lt_of_le hv hp
        clear hp
        rw [acc_step hv (by omega) (by omega), if_pos (by unfold InR; omega), ← valL_snoc]
        have hdc : isDig c := by unfold isDig; omega
        have e2 : (done.length : Int) + 1 = ((done ++ [c]).length : Int) := by simp
        have e3 : done ++ c :: rest = (done ++ [c]) ++ rest := by simp
        rw [e2, e3, num14_loop2 n rest (done ++ [c]) k (by simp; omega) (by
          intro x hx
          rcases List.mem_append.1 hx with hx | hx
          · exact hd x hx
          · simp only [List.mem_singleton] at hx; subst hx; exact hdc) (by omega)]
        by_cases hr : ∀ c ∈ rest, isDig c
        · rw [if_pos hr, if_pos]
          intro x hx
          rcases List.mem_cons.1 hx with rfl | hx
          · exact hdc
          · exact hr x hx
        · rw [if_neg hr, if_neg fun hh => hr fun x hx => hh x (by simp [hx])]
theorem num14_loop1 (n : Nat) (p0 : ByteArray) (w : List UInt8) (hw : p0.extract (1 : Int).toNat p0.size = bl w) : ∀ (rest done : List UInt8) (k : Nat), w = done ++ rest → done.length + rest.length ≤ 19 → (∀ c ∈ done, isDig c) → rest.length < k →
    vigilref14_Number_L9 p0 n k (valL done : Int) (done.length : Int) = (if ∀ c ∈ rest, isDig c then some (.e0 (valL (done ++ rest) : Int) ((done ++ rest).length : Int)) else some .r)
  | rest, done, 0, _, _, _, h => by omega
  | [], done, k + 1, hww, hl, hd, _ => by
    unfold vigilref14_Number_L9
    rw [hw, hww]
    rw [if_neg (by rw [bl_size]; simp), if_pos (by simp)]
    simp
  | c :: rest, done, k + 1, hww, hl, hd, hk => by
    unfold vigilref14_Number_L9
    simp only [List.length_cons] at hl hk
    rw [hw, hww]
    rw [if_pos (by rw [bl_size]; simp only [List.length_append, List.length_cons]; omega), bl_byte]
    have hg : (done ++ c :: rest)[done.length]? = some c := by simp
    rw [hg, Option.map_some, Option.bind_some]
    by_cases h1 : (c.toNat : Int) < 48
    · rw [if_pos h1, if_neg]
      intro hh; have := hh c (by simp); unfold isDig at this; omega
    · rw [if_neg h1, Option.bind_some]
      by_cases h2 : (c.toNat : Int) > 57
      · rw [if_pos h2, if_neg]
        intro hh; have := hh c (by simp); unfold isDig at this; omega
      · rw [if_neg h2, Option.bind_some]
        have hv := valL_lt done hd
        have hp := pow18 (k := done.length) (by omega)
        have hv : valL done < 1000000000000000000 := Nat.lt_of_lt_of_le hv hp
        clear hp
        rw [acc_step hv (by omega) (by omega), if_pos (by unfold InR; omega), ← valL_snoc]
        have hdc : isDig c := by unfold isDig; omega
        have e2 : (done.length : Int) + 1 = ((done ++ [c]).length : Int) := by simp
        have e3 : done ++ c :: rest = (done ++ [c]) ++ rest := by simp
        rw [e2, num14_loop1 n p0 w hw rest (done ++ [c]) k (by rw [hww, e3]) (by simp; omega) (by
          intro x hx
          rcases List.mem_append.1 hx with hx | hx
          · exact hd x hx
          · simp only [List.mem_singleton] at hx; subst hx; exact hdc) (by omega)]
        rw [e3]
        by_cases hr : ∀ c ∈ rest, isDig c
        · rw [if_pos hr, if_pos]
          intro x hx
          rcases List.mem_cons.1 hx with rfl | hx
          · exact hdc
          · exact hr x hx
        · rw [if_neg hr, if_neg fun hh => hr fun x hx => hh x (by simp [hx])]
theorem i64_InR (u : Int) : InR (Go.IntKind.i64.wrap u) := by
  rw [IntKind.wrap_i64]; unfold InR; omega
/-- A number of a word: it is one just if the word is its text. -/
theorem num14_spec (n : Nat) (hn : 30 ≤ n) (w : List UInt8) (hw : w.length ≤ 1000000) : ∃ x ok, vigilref14_Number n (bl w) = some (x, ok) ∧ (ok = true → InR x ∧ w = iL x) ∧ (ok = false → ∀ m, InR m → w ≠ iL m) := by
  unfold vigilref14_Number
  have e0 : (⟨#[]⟩ : ByteArray) = bl [] := rfl
  cases w with
  | nil =>
    rw [if_neg (by rw [bl_size]; simp), e0, if_pos rfl]
    exact ⟨_, false, rfl, by simp, fun _ m _ hm => iL_ne m hm.symm⟩
  | cons c t =>
    rw [if_pos (by rw [bl_size]; simp only [List.length_cons]; omega)]
    have eb : byteI (bl (c :: t)) 0 = some (c.toNat : Int) := by
      have := bl_byte (c :: t) 0
      simpa using this
    rw [eb, Option.bind_some]
    by_cases hc : (c.toNat : Int) = 45
    · rw [if_pos hc]
      have hc' : c = 45 := UInt8.toNat_inj.1 (by have : c.toNat = 45 := by omega
                                                 rw [this]; rfl)
      subst hc'
      have ex : (bl ((45 : UInt8) :: t)).extract (1 : Int).toNat (bl ((45 : UInt8) :: t)).size = bl t := by
        rw [bl_ext, bl_size, bl_inj]; simp
      rw [if_pos (by rw [bl_size]; simp only [List.length_cons]; omega), ex, e0]
      have neg : ∀ m, (45 : UInt8) :: t = iL m → InR m → m < 0 ∧ t = dec m.natAbs := fun m hm hR => by
        unfold iL at hm
        split at hm
        · rename_i h; injection hm with _ hm; exact ⟨h, hm⟩
        · exfalso
          have := dec_dig m.toNat 45 (by rw [← hm]; simp)
          have e : (45 : UInt8).toNat = 45 := rfl
          omega
      by_cases ht : t = []
      · subst ht
        rw [if_pos rfl]
        refine ⟨_, false, rfl, by simp, fun _ m hR hm => ?_⟩
        exact dec_ne _ (neg m hm hR).2.symm
      · rw [if_neg (by rw [bl_inj]; exact ht)]
        by_cases hl : ((bl t).size : Int) > 19
        · rw [if_pos hl]
          refine ⟨_, false, rfl, by simp, fun _ m hR hm => ?_⟩
          have h1 := (neg m hm hR).2
          have hx : -9223372036854775808 ≤ m ∧ m ≤ 9223372036854775807 := hR
          have := dec_len 19 m.natAbs (by omega) (by omega)
          rw [← h1] at this
          rw [bl_size] at hl; omega
        · rw [if_neg hl]
          rw [bl_size] at hl
          have hloop := num14_loop1 n (bl ((45 : UInt8) :: t)) t ex t [] n rfl (by simp; omega) (by simp) (by omega)
          simp only [List.nil_append, List.length_nil] at hloop
          have ez : ((valL [] : Nat) : Int) = 0 := rfl
          have ez2 : ((0 : Nat) : Int) = 0 := rfl
          rw [ez, ez2] at hloop
          rw [hloop]
          by_cases hd : ∀ c ∈ t, isDig c
          · rw [if_pos hd]
            simp only [Option.bind_some]
            have hR := i64_InR (0 - Go.IntKind.i64.wrap (valL t : Int))
            rw [digits_all n hn hR]
            simp only [Option.bind_some]
            by_cases he : iL (Go.IntKind.i64.wrap (0 - Go.IntKind.i64.wrap (valL t : Int))) = 45 :: t
            · rw [if_pos (by rw [bl_inj]; exact he)]
              exact ⟨_, true, rfl, fun _ => ⟨hR, he.symm⟩, by simp⟩
            · rw [if_neg (by rw [bl_inj]; exact he)]
              refine ⟨_, false, rfl, by simp, fun _ m hRm hm => he ?_⟩
              obtain ⟨h1, h2⟩ := neg m hm hRm
              have hx : -9223372036854775808 ≤ m ∧ m ≤ 9223372036854775807 := hRm
              have hval : valL t = m.natAbs := by rw [h2, valL_dec]
              have : Go.IntKind.i64.wrap (0 - Go.IntKind.i64.wrap (valL t : Int)) = m := by
                rw [hval, IntKind.wrap_i64, IntKind.wrap_i64]; omega
              rw [this, hm]
          · rw [if_neg hd]
            refine ⟨_, false, rfl, by simp, fun _ m hRm hm => hd ?_⟩
            obtain ⟨h1, h2⟩ := neg m hm hRm
            rw [h2]; exact dec_dig _
    · rw [if_neg hc, e0, if_neg (by rw [bl_inj]; simp)]
      have pos : ∀ m, c :: t = iL m → InR m → 0 ≤ m ∧ c :: t = dec m.toNat := fun m hm hR => by
        unfold iL at hm
        split at hm
        · injection hm with hm _; subst hm; exact absurd rfl hc
        · rename_i h; exact ⟨by omega, hm⟩
      by_cases hl : ((bl (c :: t)).size : Int) > 19
      · rw [if_pos hl]
        refine ⟨_, false, rfl, by simp, fun _ m hR hm => ?_⟩
        have h1 := (pos m hm hR).2
        have hx : -9223372036854775808 ≤ m ∧ m ≤ 9223372036854775807 := hR
        have := dec_len 19 m.toNat (by omega) (by omega)
        rw [← h1] at this
        rw [bl_size] at hl; omega
      · rw [if_neg hl]
        rw [bl_size] at hl
        have hloop := num14_loop2 n (c :: t) [] n (by simp only [List.length_nil]; omega) (by simp) (by omega)
        simp only [List.nil_append, List.length_nil] at hloop
        have ez : ((valL [] : Nat) : Int) = 0 := rfl
        have ez2 : ((0 : Nat) : Int) = 0 := rfl
        rw [ez, ez2] at hloop
        rw [hloop]
        by_cases hd : ∀ x ∈ c :: t, isDig x
        · rw [if_pos hd]
          simp only [Option.bind_some]
          have hR := i64_InR (valL (c :: t) : Int)
          rw [digits_all n hn hR]
          simp only [Option.bind_some]
          by_cases he : iL (Go.IntKind.i64.wrap (valL (c :: t) : Int)) = c :: t
          · rw [if_pos (by rw [bl_inj]; exact he)]
            exact ⟨_, true, rfl, fun _ => ⟨hR, he.symm⟩, by simp⟩
          · rw [if_neg (by rw [bl_inj]; exact he)]
            refine ⟨_, false, rfl, by simp, fun _ m hRm hm => he ?_⟩
            obtain ⟨h1, h2⟩ := pos m hm hRm
            have hx : -9223372036854775808 ≤ m ∧ m ≤ 9223372036854775807 := hRm
            have hval : valL (c :: t) = m.toNat := by rw [h2, valL_dec]
            have : Go.IntKind.i64.wrap (valL (c :: t) : Int) = m := by
              rw [hval, IntKind.wrap_i64]; omega
            rw [this, hm]
        · rw [if_neg hd]
          refine ⟨_, false, rfl, by simp, fun _ m hRm hm => hd ?_⟩
          obtain ⟨h1, h2⟩ := pos m hm hRm
          rw [h2]; exact dec_dig _
end Go.Proofs.YtilipgopjiokfaaGreatDoor

/-
  Texts of worlds: what is one's text; that unlike worlds have unlike texts.
-/
set_option linter.unusedVariables false
set_option linter.unusedSimpArgs false
namespace Go.Proofs.YtilipgopjiokfaaGreatDoor
open Go Go.Abs Go.Proofs

/-- Numbers with colons between. -/
def wN (ns : List Int) : List UInt8 := Lib.join (ns.map iL) [58]
def tN (t : GThread) : List Int := [t.role, t.loc, t.state, t.left, t.depth]
def kN (l : GLock) : List Int := [l.owner, l.depth]
def vN (v : Int) : List Int := [v]
def words (T : List GThread) (K : List GLock) (V : List Int) : List (List UInt8) := T.map (fun t => wN (tN t)) ++ [47] :: (K.map (fun l => wN (kN l)) ++ [47] :: V.map fun v => wN (vN v))
/-- A world's text. -/
def textW (T : List GThread) (K : List GLock) (V : List Int) : List UInt8 := Lib.join (words T K V) [32]
def FitT (t : GThread) : Prop := ∀ x ∈ tN t, InR x
def FitK (l : GLock) : Prop := ∀ x ∈ kN l, InR x
def FitV (v : Int) : Prop := InR v

theorem mem_join {k b : UInt8} : ∀ {ts : List (List UInt8)}, b ∈ Lib.join ts [k] → b = k ∨ ∃ t ∈ ts, b ∈ t
  | [], h => by cases h
  | [t], h => by rw [Lib.join_one] at h; exact .inr ⟨t, by simp, h⟩
  | t :: u :: ts, h => by
    have e : Lib.join (t :: u :: ts) [k] = t ++ k :: Lib.join (u :: ts) [k] := by
      rw [Lib.join_cons, Lib.join_cons]; simp [Lib.joinTail]
    rw [e] at h
    rcases List.mem_append.1 h with h | h
    · exact .inr ⟨t, by simp, h⟩
    · rcases List.mem_cons.1 h with rfl | h
      · exact .inl rfl
      · rcases mem_join (ts := u :: ts) h with h | ⟨x, hx, hb⟩
        · exact .inl h
        · exact .inr ⟨x, by simp [hx], hb⟩
theorem wN_no {ns : List Int} {k : UInt8} (h58 : k ≠ 58) (hk : k.toNat ≠ 45 := by decide) (hk2 : k.toNat < 48 ∨ 57 < k.toNat := by decide) : ∀ b ∈ wN ns, b ≠ k := by
  intro b hb
  rcases mem_join hb with rfl | ⟨t, ht, hb⟩
  · exact Ne.symm h58
  · obtain ⟨n, _, rfl⟩ := List.mem_map.1 ht
    exact iL_no hb hk hk2
theorem cuts_wN : ∀ {ns : List Int}, ns ≠ [] → cuts 58 (wN ns) = ns.map iL
  | [], h => absurd rfl h
  | n :: ns, _ => by
    unfold wN
    rw [List.map_cons, cuts_join]
    intro q hq b hb
    have : ∃ m, q = iL m := by
      rcases List.mem_cons.1 hq with rfl | hq
      · exact ⟨_, rfl⟩
      · obtain ⟨m, _, rfl⟩ := List.mem_map.1 hq; exact ⟨_, rfl⟩
    obtain ⟨m, rfl⟩ := this
    exact iL_no hb
theorem map_iL_inj : ∀ {a b : List Int}, (∀ x ∈ a, InR x) → (∀ x ∈ b, InR x) → a.map iL = b.map iL → a = b
  | [], [], _, _, _ => rfl
  | [], _ :: _, _, _, h => by cases h
  | _ :: _, [], _, _, h => by cases h
  | x :: a, y :: b, h1, h2, h => by
    simp only [List.map_cons, List.cons.injEq] at h
    rw [iL_inj (h1 x (by simp)) (h2 y (by simp)) h.1, map_iL_inj (fun z hz => h1 z (by simp [hz])) (fun z hz => h2 z (by simp [hz])) h.2]
theorem wN_inj {a b : List Int} (ha : a ≠ []) (hb : b ≠ []) (h1 : ∀ x ∈ a, InR x) (h2 : ∀ x ∈ b, InR x) (h : wN a = wN b) : a = b := by
  refine map_iL_inj h1 h2 ?_
  rw [← cuts_wN ha, ← cuts_wN hb, h]
theorem tN_inj {a b : GThread} (h : tN a = tN b) : a = b := by
  cases a; cases b; simp [tN] at h; simp [h]
theorem kN_inj {a b : GLock} (h : kN a = kN b) : a = b := by
  cases a; cases b; simp [kN] at h; simp [h]
theorem wN_ne47 (ns : List Int) : wN ns ≠ [47] := fun h => wN_no (ns := ns) (k := 47) (by decide) (by decide) (by decide) 47 (by rw [h]; simp) rfl
theorem words_no {T : List GThread} {K : List GLock} {V : List Int} : ∀ q ∈ words T K V, ∀ b ∈ q, b ≠ 32 := by
  have h47 : ∀ b ∈ ([47] : List UInt8), b ≠ 32 := by decide
  intro q hq
  unfold words at hq
  rcases List.mem_append.1 hq with hq | hq
  · obtain ⟨t, _, rfl⟩ := List.mem_map.1 hq; exact wN_no (by decide)
  · rcases List.mem_cons.1 hq with rfl | hq
    · exact h47
    · rcases List.mem_append.1 hq with hq | hq
      · obtain ⟨t, _, rfl⟩ := List.mem_map.1 hq; exact wN_no (by decide)
      · rcases List.mem_cons.1 hq with rfl | hq
        · exact h47
        · obtain ⟨t, _, rfl⟩ := List.mem_map.1 hq; exact wN_no (by decide)
theorem words_ne {T : List GThread} {K : List GLock} {V : List Int} : ∃ p ps, words T K V = p :: ps := by
  unfold words
  cases T <;> exact ⟨_, _, rfl⟩
theorem cuts_text (T : List GThread) (K : List GLock) (V : List Int) : cuts 32 (textW T K V) = words T K V := by
  obtain ⟨p, ps, h⟩ := words_ne (T := T) (K := K) (V := V)
  unfold textW
  rw [h, cuts_join]
  rw [← h]
  exact words_no
/-- Where something comes first. -/
theorem first_uniq {α : Type} {x : α} : ∀ {A B R S : List α}, x ∉ A → x ∉ B → A ++ x :: R = B ++ x :: S → A = B ∧ R = S
  | [], [], _, _, _, _, h => by simp at h; exact ⟨rfl, h⟩
  | [], b :: B, _, _, _, hb, h => by simp at h; exact absurd h.1 (by intro e; exact hb (by simp [e]))
  | a :: A, [], _, _, ha, _, h => by simp at h; exact absurd h.1 (by intro e; exact ha (by simp [e]))
  | a :: A, b :: B, R, S, ha, hb, h => by
    simp only [List.cons_append, List.cons.injEq] at h
    obtain ⟨h1, h2⟩ := first_uniq (fun h => ha (by simp [h])) (fun h => hb (by simp [h])) h.2
    exact ⟨by rw [h.1, h1], h2⟩
theorem no47 {α : Type} (f : α → List Int) (l : List α) : ([47] : List UInt8) ∉ l.map fun a => wN (f a) := fun h => by
  obtain ⟨a, _, ha⟩ := List.mem_map.1 h
  exact wN_ne47 _ ha
theorem map_wN_inj {α : Type} {f : α → List Int} (hf : ∀ a b, f a = f b → a = b) (hne : ∀ a, f a ≠ []) : ∀ {l m : List α}, (∀ a ∈ l, ∀ x ∈ f a, InR x) → (∀ a ∈ m, ∀ x ∈ f a, InR x) → (l.map fun a => wN (f a)) = (m.map fun a => wN (f a)) → l = m
  | [], [], _, _, _ => rfl
  | [], _ :: _, _, _, h => by cases h
  | _ :: _, [], _, _, h => by cases h
  | a :: l, b :: m, h1, h2, h => by
    simp only [List.map_cons, List.cons.injEq] at h
    rw [hf a b (wN_inj (hne a) (hne b) (h1 a (by simp)) (h2 b (by simp)) h.1), map_wN_inj hf hne (fun z hz => h1 z (by simp [hz])) (fun z hz => h2 z (by simp [hz])) h.2]
theorem words_inj {T T' : List GThread} {K K' : List GLock} {V V' : List Int} (h1 : ∀ t ∈ T, FitT t) (h2 : ∀ l ∈ K, FitK l) (h3 : ∀ v ∈ V, FitV v) (h1' : ∀ t ∈ T', FitT t) (h2' : ∀ l ∈ K', FitK l) (h3' : ∀ v ∈ V', FitV v)
    (h : words T K V = words T' K' V') : T = T' ∧ K = K' ∧ V = V' := by
  unfold words at h
  obtain ⟨e1, h⟩ := first_uniq (no47 _ _) (no47 _ _) h
  obtain ⟨e2, e3⟩ := first_uniq (no47 _ _) (no47 _ _) h
  refine ⟨map_wN_inj (f := tN) (fun _ _ => tN_inj) (by simp [tN]) h1 h1' e1, map_wN_inj (f := kN) (fun _ _ => kN_inj) (by simp [kN]) h2 h2' e2, map_wN_inj (f := vN) (by simp [vN]) (by simp [vN]) (fun a ha x hx => ?_) (fun a ha x hx => ?_) e3⟩
  · simp [vN] at hx; subst hx; exact h3 _ ha
  · simp [vN] at hx; subst hx; exact h3' _ ha

/-! ### lengths -/
theorem join_len_le (k : UInt8) (m : Nat) : ∀ ts : List (List UInt8), (∀ t ∈ ts, t.length ≤ m) → (Lib.join ts [k]).length ≤ (m + 1) * ts.length
  | [], _ => by simp [Lib.join_nil]
  | [t], h => by rw [Lib.join_one]; have := h t (by simp); simp; omega
  | t :: u :: ts, h => by
    have e : Lib.join (t :: u :: ts) [k] = t ++ k :: Lib.join (u :: ts) [k] := by
      rw [Lib.join_cons, Lib.join_cons]; simp [Lib.joinTail]
    have ih := join_len_le k m (u :: ts) fun x hx => h x (by simp [hx])
    have := h t (by simp)
    rw [e]
    simp only [List.length_append, List.length_cons] at ih ⊢
    rw [show (m + 1) * (ts.length + 1 + 1) = (m + 1) * (ts.length + 1) + (m + 1) by rw [Nat.mul_add]; omega]
    omega
theorem wN_len {ns : List Int} (h : ∀ x ∈ ns, InR x) : (wN ns).length ≤ 21 * ns.length := by
  have := join_len_le 58 20 (ns.map iL) fun t ht => by
    obtain ⟨n, hn, rfl⟩ := List.mem_map.1 ht
    exact iL_len (h n hn)
  simpa [wN] using this
theorem words_len {T : List GThread} {K : List GLock} {V : List Int} : (words T K V).length = T.length + K.length + V.length + 2 := by
  simp [words]; omega
theorem text_len {T : List GThread} {K : List GLock} {V : List Int} (h1 : ∀ t ∈ T, FitT t) (h2 : ∀ l ∈ K, FitK l) (h3 : ∀ v ∈ V, FitV v) : (textW T K V).length ≤ 106 * (T.length + K.length + V.length + 2) := by
  have := join_len_le 32 105 (words T K V) fun q hq => by
    have a47 : ([47] : List UInt8).length ≤ 105 := by decide
    unfold words at hq
    rcases List.mem_append.1 hq with hq | hq
    · obtain ⟨t, ht, rfl⟩ := List.mem_map.1 hq
      have := wN_len (h1 t ht)
      have l : (tN t).length = 5 := rfl
      omega
    · rcases List.mem_cons.1 hq with rfl | hq
      · exact a47
      · rcases List.mem_append.1 hq with hq | hq
        · obtain ⟨t, ht, rfl⟩ := List.mem_map.1 hq
          have := wN_len (h2 t ht)
          have l : (kN t).length = 2 := rfl
          omega
        · rcases List.mem_cons.1 hq with rfl | hq
          · exact a47
          · obtain ⟨t, ht, rfl⟩ := List.mem_map.1 hq
            have := wN_len (ns := vN t) (by simp [vN]; exact h3 t ht)
            have l : (vN t).length = 1 := rfl
            omega
  rwa [words_len] at this
end Go.Proofs.YtilipgopjiokfaaGreatDoor
