/-
  Part of the proof: printed by the session's own program out of the program's form, or typed; it states no claim by itself.
-/
import Derived.Test.YtilipgopjiokfaaGreatDoorAbs35
import Derived.Lib.IndexLaws
import Derived.Lib.AtoiAllCases
import Derived.Lib.CountLaws
import Derived.Test.YtilipgopjiokfaaGreatDoorTy
import Derived.Test.YtilipgopjiokfaaGreatDoorFb
/-
  Bytes and numbers as texts, without the program.
-/
set_option linter.unusedVariables false
set_option linter.unusedSimpArgs false
namespace Go.Abs
open Go

def bl (l : List UInt8) : ByteArray := ⟨l.toArray⟩
theorem bl_of (s : ByteArray) : bl s.data.toList = s := by simp [bl]
theorem bl_data (l : List UInt8) : (bl l).data.toList = l := by simp [bl]
theorem bl_size (l : List UInt8) : (bl l).size = l.length := by simp [bl, ByteArray.size]
theorem bl_inj {a b : List UInt8} : bl a = bl b ↔ a = b := ⟨fun h => by have := congrArg (fun s : ByteArray => s.data.toList) h; simpa [bl] using this, fun h => by rw [h]⟩
theorem ba_ext {a b : ByteArray} (h : a.data.toList = b.data.toList) : a = b := by rw [← bl_of a, ← bl_of b, h]
theorem bl_app (a b : List UInt8) : bl a ++ bl b = bl (a ++ b) := ba_ext (by simp [bl])
theorem bl_ext (l : List UInt8) (i j : Nat) : (bl l).extract i j = bl ((l.take j).drop i) := ba_ext (by simp [bl, List.extract_eq_take_drop, List.drop_take])
theorem bl_byte (l : List UInt8) (i : Nat) : byteI (bl l) i = (l[i]?).map fun b => (b.toNat : Int) := by
  unfold byteI
  rw [if_pos (by omega)]
  simp only [Int.toNat_natCast]
  congr 1
  by_cases h : i < l.length
  · rw [getElem?_pos (bl l) i (by rw [bl_size]; exact h), List.getElem?_eq_getElem h]
    simp [bl, ByteArray.getElem_eq_getElem_data]
  · rw [getElem?_neg (bl l) i (by rw [bl_size]; exact h), List.getElem?_eq_none (by omega)]

/-! ### numbers -/
abbrev dec := Lib.decDigits
theorem dec_small {u : Nat} (h : u < 10) : dec u = [UInt8.ofNat (48 + u)] := Lib.decDigits_one h
theorem dec_big {u : Nat} (h : ¬ u < 10) : dec u = dec (u / 10) ++ [UInt8.ofNat (48 + u % 10)] := by
  show Lib.decDigits u = _
  rw [Lib.decDigits, dif_neg h]
theorem ofNat_dig {d : Nat} (h : d < 10) : (UInt8.ofNat (48 + d)).toNat = 48 + d := by
  simp [UInt8.toNat_ofNat']; omega
theorem dec_dig (u : Nat) : ∀ c ∈ dec u, 48 ≤ c.toNat ∧ c.toNat ≤ 57 := by
  induction u using Nat.strongRecOn with
  | ind u ih =>
    intro c hc
    by_cases h : u < 10
    · rw [dec_small h] at hc; simp only [List.mem_singleton] at hc; subst hc; rw [ofNat_dig h]; omega
    · rw [dec_big h] at hc
      rcases List.mem_append.1 hc with hc | hc
      · exact ih (u / 10) (by omega) c hc
      · simp only [List.mem_singleton] at hc; subst hc; rw [ofNat_dig (by omega)]; omega
theorem dec_ne (u : Nat) : dec u ≠ [] := by
  by_cases h : u < 10
  · rw [dec_small h]; simp
  · rw [dec_big h]; simp
theorem dec_len : ∀ (k u : Nat), u < 10 ^ k → 0 < k → (dec u).length ≤ k
  | 0, _, _, h => absurd h (by omega)
  | k + 1, u, h, _ => by
    by_cases hu : u < 10
    · rw [dec_small hu]; simp
    · rw [dec_big hu]
      rw [Nat.pow_succ] at h
      have : 0 < k := by
        rcases Nat.eq_zero_or_pos k with rfl | hk
        · simp at h; omega
        · exact hk
      have := dec_len k (u / 10) (by omega) this
      simp only [List.length_append, List.length_singleton]; omega
def valL (l : List UInt8) : Nat := l.foldl (fun a c => a * 10 + (c.toNat - 48)) 0
theorem valL_snoc (l : List UInt8) (c : UInt8) : valL (l ++ [c]) = valL l * 10 + (c.toNat - 48) := by simp [valL]
theorem valL_dec (u : Nat) : valL (dec u) = u := by
  induction u using Nat.strongRecOn with
  | ind u ih =>
    by_cases h : u < 10
    · rw [dec_small h]; simp only [valL, List.foldl_cons, List.foldl_nil, ofNat_dig h]; omega
    · rw [dec_big h, valL_snoc, ih (u / 10) (by omega), ofNat_dig (by omega)]; omega
theorem parse_snoc : ∀ (l : List UInt8) (acc u : Nat) (c : UInt8), Lib.parseUint10 acc l = .ok u → 48 ≤ c.toNat → c.toNat ≤ 57 → u < 1844674407370955161 → Lib.parseUint10 acc (l ++ [c]) = .ok (u * 10 + (c.toNat - 48))
  | [], acc, u, c, h, h1, h2, h3 => by
    simp only [Lib.parseUint10] at h
    injection h with h
    subst h
    simp only [List.nil_append, Lib.parseUint10]
    rw [if_pos ⟨h1, h2⟩, if_neg (by omega), if_neg (by omega)]
  | d :: l, acc, u, c, h, h1, h2, h3 => by
    simp only [List.cons_append, Lib.parseUint10] at h ⊢
    split at h
    · rename_i hd
      rw [if_pos hd]
      split at h
      · cases h
      · rename_i ha
        rw [if_neg ha]
        split at h
        · cases h
        · rename_i hb
          rw [if_neg hb]
          exact parse_snoc l _ u c h h1 h2 h3
    · cases h
theorem parse_dec (u : Nat) (hu : u < 10000000000) : Lib.parseUint10 0 (dec u) = .ok u := by
  induction u using Nat.strongRecOn with
  | ind u ih =>
    by_cases h : u < 10
    · rw [dec_small h]
      simp only [Lib.parseUint10, ofNat_dig h]
      rw [if_pos ⟨by omega, by omega⟩, if_neg (by omega), if_neg (by omega)]
      congr 1; omega
    · rw [dec_big h, parse_snoc _ 0 (u / 10) _ (ih (u / 10) (by omega) (by omega)) (by rw [ofNat_dig (by omega)]; omega) (by rw [ofNat_dig (by omega)]; omega) (by omega), ofNat_dig (by omega)]
      congr 1; omega
theorem atoi_dec (u : Nat) (hu : u < 10000000000) : Lib.atoiAll (dec u) = .ok (u : Int) := by
  have h0 := parse_dec u hu
  have h1 := dec_dig u
  have h2 := dec_ne u
  generalize dec u = l at h0 h1 h2
  cases l with
  | nil => exact absurd rfl h2
  | cons c r =>
    have hc := h1 c (by simp)
    unfold Lib.atoiAll
    dsimp only
    rw [if_neg (by omega)]
    have : Lib.parseMag (c :: r) = .ok u := by unfold Lib.parseMag; rw [if_neg (by simp)]; exact h0
    rw [this]
    dsimp only
    rw [if_neg (by omega), if_neg (by omega), if_neg (by omega)]
theorem itoaL_nn {n : Int} (h : 0 ≤ n) (h2 : n ≤ 9223372036854775807) : itoaL n = dec n.toNat := by
  unfold itoaL
  rw [if_neg (by omega), decF_eq _ _ (by omega) (by omega)]
theorem itoaB_nn {n : Int} (h : 0 ≤ n) (h2 : n ≤ 9223372036854775807) : itoaB n = bl (dec n.toNat) := by
  unfold itoaB bl
  rw [itoaL_nn h h2]
/-- A number as it must be written. -/
def num (w : List UInt8) : Option Int := match Lib.atoiAll w with
  | .ok v => if 0 ≤ v ∧ v ≤ 999999 ∧ dec v.toNat = w then some v else none
  | _ => none
theorem num_dec {x : Int} (h : 0 ≤ x) (h2 : x ≤ 999999) : num (dec x.toNat) = some x := by
  unfold num
  rw [atoi_dec _ (by omega)]
  dsimp only
  rw [if_pos ⟨by omega, by omega, by rw [Int.toNat_natCast]⟩]
  congr 1; omega
theorem num_some {w : List UInt8} {x : Int} (h : num w = some x) : 0 ≤ x ∧ x ≤ 999999 ∧ w = dec x.toNat := by
  unfold num at h
  split at h
  · split at h
    · rename_i hh; cases h; exact ⟨hh.1, hh.2.1, hh.2.2.symm⟩
    · cases h
  · cases h


/-! ### all numbers -/
theorem parse_dec' (u : Nat) (hu : u ≤ 9223372036854775808) : Lib.parseUint10 0 (dec u) = .ok u := by
  induction u using Nat.strongRecOn with
  | ind u ih =>
    by_cases h : u < 10
    · rw [dec_small h]
      simp only [Lib.parseUint10, ofNat_dig h]
      rw [if_pos ⟨by omega, by omega⟩, if_neg (by omega), if_neg (by omega)]
      congr 1; omega
    · rw [dec_big h, parse_snoc _ 0 (u / 10) _ (ih (u / 10) (by omega) (by omega)) (by rw [ofNat_dig (by omega)]; omega) (by rw [ofNat_dig (by omega)]; omega) (by omega), ofNat_dig (by omega)]
      congr 1; omega
theorem mag_dec (u : Nat) (hu : u ≤ 9223372036854775808) : Lib.parseMag (dec u) = .ok u := by
  unfold Lib.parseMag; rw [if_neg (dec_ne u)]; exact parse_dec' u hu
/-- A number's text. -/
def iL (n : Int) : List UInt8 := if n < 0 then 45 :: dec n.natAbs else dec n.toNat
theorem itoaL_iL {n : Int} (h : InR n) : itoaL n = iL n := by
  have : -9223372036854775808 ≤ n ∧ n ≤ 9223372036854775807 := h
  unfold itoaL iL
  rw [decF_eq _ _ (by omega) (by omega), decF_eq _ _ (by omega) (by omega)]
theorem itoaB_iL {n : Int} (h : InR n) : itoaB n = bl (iL n) := by
  unfold itoaB bl
  rw [itoaL_iL h]
theorem atoi_iL {n : Int} (h : InR n) : Lib.atoiAll (iL n) = .ok n := by
  have hn : -9223372036854775808 ≤ n ∧ n ≤ 9223372036854775807 := h
  unfold iL
  by_cases h0 : n < 0
  · rw [if_pos h0, Lib.atoiAll_minus, mag_dec _ (by omega)]
    simp only [Lib.signed]
    rw [if_neg (by omega)]
    congr 1; omega
  · rw [if_neg h0]
    have h1 := dec_dig n.toNat
    have h2 := dec_ne n.toNat
    have h3 := mag_dec n.toNat (by omega)
    generalize dec n.toNat = l at h1 h2 h3
    cases l with
    | nil => exact absurd rfl h2
    | cons c r =>
      have hc := h1 c (by simp)
      rw [Lib.atoiAll_plain _ _ (by omega) (by omega), h3]
      simp only [Lib.signless]
      rw [if_neg (by omega)]
      congr 1; omega
theorem iL_inj {n m : Int} (h : InR n) (k : InR m) (e : iL n = iL m) : n = m := by
  have := atoi_iL h
  rw [e, atoi_iL k] at this
  injection this with this
  exact this.symm
theorem iL_nn {n : Int} (h : 0 ≤ n) : iL n = dec n.toNat := by unfold iL; rw [if_neg (by omega)]
theorem iL_len {n : Int} (h : InR n) : (iL n).length ≤ 20 := by
  have hn : -9223372036854775808 ≤ n ∧ n ≤ 9223372036854775807 := h
  unfold iL
  split
  · have := dec_len 19 n.natAbs (by omega) (by omega)
    simp only [List.length_cons]; omega
  · have := dec_len 19 n.toNat (by omega) (by omega)
    omega
theorem iL_ne (n : Int) : iL n ≠ [] := by
  unfold iL
  split
  · simp
  · exact dec_ne _
/-- Which bytes a number has. -/
theorem iL_bytes (n : Int) : ∀ c ∈ iL n, c = 45 ∨ (48 ≤ c.toNat ∧ c.toNat ≤ 57) := by
  unfold iL
  split
  · intro c hc
    rcases List.mem_cons.1 hc with rfl | hc
    · exact .inl rfl
    · exact .inr (dec_dig _ c hc)
  · intro c hc
    exact .inr (dec_dig _ c hc)
theorem iL_no {n : Int} {c k : UInt8} (hc : c ∈ iL n) (hk : k.toNat ≠ 45 := by decide) (hk2 : k.toNat < 48 ∨ 57 < k.toNat := by decide) : c ≠ k := by
  rintro rfl
  rcases iL_bytes n c hc with rfl | h
  · exact hk rfl
  · omega
theorem atoi_InR {l : List UInt8} {v : Int} (h : Lib.atoiAll l = .ok v) : InR v := Lib.atoiAll_bounds h

/-! ### parts at each of a byte -/
def cuts (k : UInt8) : List UInt8 → List (List UInt8)
  | [] => [[]]
  | c :: l => if c = k then [] :: cuts k l else match cuts k l with
    | p :: ps => (c :: p) :: ps
    | [] => [[c]]
theorem cuts_none {k : UInt8} : ∀ {p : List UInt8}, (∀ b ∈ p, b ≠ k) → cuts k p = [p]
  | [], _ => rfl
  | c :: p, h => by
    rw [cuts, if_neg (h c (by simp)), cuts_none fun b hb => h b (by simp [hb])]
theorem cuts_at {k : UInt8} : ∀ {p r : List UInt8}, (∀ b ∈ p, b ≠ k) → cuts k (p ++ k :: r) = p :: cuts k r
  | [], r, _ => by simp [cuts]
  | c :: p, r, h => by
    rw [List.cons_append, cuts, if_neg (h c (by simp)), cuts_at fun b hb => h b (by simp [hb])]
theorem cuts_ne (k : UInt8) : ∀ l : List UInt8, cuts k l ≠ []
  | [] => by simp [cuts]
  | c :: l => by
    rw [cuts]
    split
    · simp
    · split <;> simp
theorem cuts_len (k : UInt8) : ∀ l : List UInt8, (cuts k l).length ≤ l.length + 1
  | [] => by simp [cuts]
  | c :: l => by
    have := cuts_len k l
    rw [cuts]
    split
    · simp only [List.length_cons]; omega
    · split
      · rename_i h; rw [h] at this; simp only [List.length_cons] at this ⊢; omega
      · simp
theorem join_cuts (k : UInt8) : ∀ l : List UInt8, Lib.join (cuts k l) [k] = l
  | [] => by simp [cuts, Lib.join_one]
  | c :: l => by
    have ih := join_cuts k l
    have hne := cuts_ne k l
    rw [cuts]
    cases hp : cuts k l with
    | nil => exact absurd hp hne
    | cons p ps =>
      rw [hp] at ih
      split
      · rename_i hc; subst hc
        rw [Lib.join_cons]
        rw [Lib.join_cons] at ih
        simp only [Lib.joinTail, List.map_cons, List.flatten_cons, List.nil_append, List.singleton_append, List.cons_append] at ih ⊢
        rw [ih]
      · rw [Lib.join_cons] at ih ⊢
        rw [List.cons_append, ih]
theorem cuts_join {k : UInt8} : ∀ {p : List UInt8} {ps : List (List UInt8)}, (∀ q ∈ p :: ps, ∀ b ∈ q, b ≠ k) → cuts k (Lib.join (p :: ps) [k]) = p :: ps
  | p, [], h => by rw [Lib.join_one]; exact cuts_none (h p (by simp))
  | p, q :: ps, h => by
    have e : Lib.join (p :: q :: ps) [k] = p ++ k :: Lib.join (q :: ps) [k] := by
      rw [Lib.join_cons, Lib.join_cons]
      simp [Lib.joinTail]
    rw [e, cuts_at (h p (by simp)), cuts_join fun r hr => h r (by simp [hr])]
theorem cuts_size (k : UInt8) : ∀ (l : List UInt8), ∀ p ∈ cuts k l, p.length ≤ l.length
  | [], p, h => by simp [cuts] at h; subst h; simp
  | c :: l, p, h => by
    have ih := cuts_size k l
    rw [cuts] at h
    split at h
    · rcases List.mem_cons.1 h with rfl | h
      · simp
      · have := ih p h; simp only [List.length_cons]; omega
    · split at h
      · rename_i q qs hq
        rcases List.mem_cons.1 h with rfl | h
        · have := ih q (by rw [hq]; simp); simp only [List.length_cons]; omega
        · have := ih p (by rw [hq]; simp [h]); simp only [List.length_cons]; omega
      · simp only [List.mem_singleton] at h; subst h; simp
theorem cuts_no (k : UInt8) : ∀ (l : List UInt8), ∀ p ∈ cuts k l, ∀ b ∈ p, b ≠ k
  | [], p, h => by simp [cuts] at h; subst h; simp
  | c :: l, p, h => by
    have ih := cuts_no k l
    rw [cuts] at h
    split at h
    · rcases List.mem_cons.1 h with rfl | h
      · simp
      · exact ih p h
    · rename_i hc
      split at h
      · rename_i q qs hq
        rcases List.mem_cons.1 h with rfl | h
        · intro b hb
          rcases List.mem_cons.1 hb with rfl | hb
          · exact hc
          · exact ih q (by rw [hq]; simp) b hb
        · exact ih p (by rw [hq]; simp [h])
      · simp only [List.mem_singleton] at h; subst h
        intro b hb
        simp only [List.mem_singleton] at hb
        subst hb; exact hc
theorem index_none : ∀ {l : List UInt8} {c : UInt8}, (∀ b ∈ l, b ≠ c) → Lib.indexByte l c = -1
  | [], _, _ => rfl
  | b :: l, c, h => by
    unfold Lib.indexByte
    rw [index_none fun b hb => h b (by simp [hb])]
    have := h b (by simp)
    simp [this]
theorem index_at : ∀ {l r : List UInt8} {c : UInt8}, (∀ b ∈ l, b ≠ c) → Lib.indexByte (l ++ c :: r) c = (l.length : Int)
  | [], r, c, _ => by simp [Lib.indexByte]
  | b :: l, r, c, h => by
    have hb := h b (by simp)
    simp only [List.cons_append]
    unfold Lib.indexByte
    rw [index_at fun b hb => h b (by simp [hb])]
    simp only [List.length_cons]
    rw [if_neg (by simpa using hb), if_neg (by simp only [beq_iff_eq]; omega)]
    omega
theorem index_neg {l : List UInt8} {c : UInt8} (h : Lib.indexByte l c < 0) : ∀ b ∈ l, b ≠ c := by
  intro b hb hbc
  subst hbc
  obtain ⟨p, q, rfl, hp⟩ := List.append_of_mem hb |> fun ⟨p, q, h⟩ => (⟨p, q, h, trivial⟩ : ∃ p q, l = p ++ b :: q ∧ True)
  have := Lib.indexByte_ge (p ++ b :: q) b
  have h1 : Lib.indexByte (p ++ b :: q) b = -1 := by omega
  have := Lib.indexByte_none h1 p.length
  simp at this
theorem index_split : ∀ {l : List UInt8} {c : UInt8}, 0 ≤ Lib.indexByte l c → ∃ p q, l = p ++ c :: q ∧ (∀ b ∈ p, b ≠ c) ∧ Lib.indexByte l c = (p.length : Int)
  | [], _, h => by simp [Lib.indexByte] at h
  | b :: l, c, h => by
    by_cases hb : b = c
    · subst hb; exact ⟨[], l, rfl, by simp, by simp [Lib.indexByte]⟩
    · have h0 : 0 ≤ Lib.indexByte l c := by
        unfold Lib.indexByte at h
        rw [if_neg (by simpa using hb)] at h
        have := Lib.indexByte_ge l c
        split at h
        · omega
        · rename_i hh; simp only [beq_iff_eq] at hh; omega
      obtain ⟨p, q, rfl, hp, _⟩ := index_split h0
      have hp' : ∀ x ∈ b :: p, x ≠ c := by
        intro x hx
        rcases List.mem_cons.1 hx with rfl | hx
        · exact hb
        · exact hp x hx
      exact ⟨b :: p, q, rfl, hp', by have := index_at (r := q) hp'; simpa using this⟩
/-- The library's split. -/
theorem index_one (c : UInt8) : ∀ l : List UInt8, Lib.index l [c] = Lib.indexByte l c
  | [] => by simp [Lib.index, Lib.indexByte]
  | b :: l => by
    rw [Lib.index, Lib.indexByte, index_one c l]
    by_cases h : b = c
    · subst h; simp [List.isPrefixOf]
    · have h1 : (b == c) = false := by simpa using h
      have h2 : (List.isPrefixOf [c] (b :: l)) = false := by simp [List.isPrefixOf]; exact fun e => h e.symm
      rw [h1, h2]
theorem split_miss {s sep : List UInt8} (h : Lib.index s sep = -1) : Lib.split s sep = [s] := by
  unfold Lib.split
  rw [Lib.count_miss h]; rfl
theorem split_hit {s sep : List UInt8} {i : Nat} (hs : sep ≠ []) (h : Lib.index s sep = i) : Lib.split s sep = s.take i :: Lib.split (s.drop (i + sep.length)) sep := by
  unfold Lib.split
  rw [Lib.count_hit hs h, Nat.add_comm 1, Lib.splitK, h, if_neg (by simp)]
  simp
theorem split_one (c : UInt8) : ∀ (k : Nat) (s : List UInt8), s.length ≤ k → Lib.split s [c] = cuts c s
  | k, s, hk => by
    by_cases h : Lib.indexByte s c < 0
    · have h1 := index_neg h
      rw [cuts_none h1, split_miss (by rw [index_one, index_none h1])]
    · obtain ⟨p, q, rfl, hp, hi⟩ := index_split (Int.not_lt.1 h)
      rw [cuts_at hp, split_hit (i := p.length) (by simp) (by rw [index_one, hi])]
      cases k with
      | zero => simp at hk
      | succ k =>
        have e1 : (p ++ c :: q).take p.length = p := by simp
        have e2 : (p ++ c :: q).drop (p.length + [c].length) = q := by
          rw [show p ++ c :: q = (p ++ [c]) ++ q by simp]
          exact List.drop_left' (by simp)
        rw [e1, e2, split_one c k q (by simp only [List.length_append, List.length_cons] at hk; omega)]
theorem splitS_one (c : UInt8) (l : List UInt8) : splitS (bl l) ⟨#[c]⟩ = (cuts c l).map bl := by
  unfold splitS
  rw [bl_data]
  show (Lib.split l [c]).map _ = _
  rw [split_one c _ l (Nat.le_refl _)]; rfl
/-! ### digits -/
theorem digits10 : ∀ d, d < 10 → (bl [48, 49, 50, 51, 52, 53, 54, 55, 56, 57]).extract d (d + 1) = bl [UInt8.ofNat (48 + d)] := by
  intro d hd
  rw [bl_ext, bl_inj]
  have : ∀ d : Fin 10, ((([48, 49, 50, 51, 52, 53, 54, 55, 56, 57] : List UInt8).take (d.val + 1)).drop d.val) = [UInt8.ofNat (48 + d.val)] := by decide
  exact this ⟨d, hd⟩
def isDig (c : UInt8) : Prop := 48 ≤ c.toNat ∧ c.toNat ≤ 57
instance (c : UInt8) : Decidable (isDig c) := inferInstanceAs (Decidable (_ ∧ _))
theorem valL_lt : ∀ (l : List UInt8), (∀ c ∈ l, isDig c) → valL l < 10 ^ l.length := by
  intro l
  induction h : l.length generalizing l with
  | zero => intro _; have := List.length_eq_zero_iff.1 h; subst this; simp [valL]
  | succ m ih =>
    intro hd
    obtain ⟨l', c, rfl⟩ : ∃ l' c, l = l' ++ [c] := ⟨l.dropLast, l.getLast (by intro hh; subst hh; simp at h), (List.dropLast_concat_getLast _).symm⟩
    rw [valL_snoc]
    have h1 := ih l' (by simpa using h) (fun c hc => hd c (by simp [hc]))
    have h2 := hd c (by simp)
    unfold isDig at h2
    rw [Nat.pow_succ]
    omega
end Go.Abs

/-
  Texts of picks, without the program: bytes, numbers, parts at each space, what is a pick's word.
-/
set_option linter.unusedVariables false
set_option linter.unusedSimpArgs false
namespace Go.Abs
open Go

/-! ### a pick's text -/
def txt (p : GPick) : Option (List UInt8) :=
  if p.thread < 0 ∨ p.draw < 0 ∨ p.thread > 999999 ∨ p.draw > 999999 then none
  else if p.kind = 0 then some (if p.draw > 0 then dec p.thread.toNat ++ 46 :: dec p.draw.toNat else dec p.thread.toNat)
  else if p.kind = 1 then (if p.draw = 0 then some (115 :: dec p.thread.toNat) else none)
  else if p.kind = 2 ∧ p.thread = 0 ∧ p.draw = 0 then some [116] else none
def cut46 (w : List UInt8) : Option (List UInt8 × List UInt8) :=
  if Lib.indexByte w 46 < 0 then none else some (w.take (Lib.indexByte w 46).toNat, w.drop (Lib.indexByte w 46 + 1).toNat)
/-- The pick of a word. -/
def pk (w : List UInt8) : Option GPick :=
  if w = [116] then some ⟨2, 0, 0⟩
  else if w.head? = some 115 then (num w.tail).map fun x => ⟨1, x, 0⟩
  else match cut46 w with
    | some (a, b) => (num a).bind fun x => (num b).bind fun d => if d > 0 then some ⟨0, x, d⟩ else none
    | none => (num w).map fun x => ⟨0, x, 0⟩
theorem cut46_at {a b : List UInt8} (h : ∀ c ∈ a, c ≠ 46) : cut46 (a ++ 46 :: b) = some (a, b) := by
  unfold cut46
  rw [index_at h, if_neg (by omega)]
  have : ((a.length : Int) + 1).toNat = a.length + 1 := by omega
  rw [this, Int.toNat_natCast]
  simp
theorem cut46_none {w : List UInt8} (h : ∀ c ∈ w, c ≠ 46) : cut46 w = none := by
  unfold cut46
  rw [index_none h, if_pos (by omega)]
theorem dig_ne {u : Nat} {c : UInt8} (hc : c ∈ dec u) (k : UInt8) (hk : k.toNat < 48 ∨ 57 < k.toNat) : c ≠ k := by
  rintro rfl
  have := dec_dig u c hc
  omega
theorem dec_head (u : Nat) (r : List UInt8) : ∃ c t, dec u ++ r = c :: t ∧ 48 ≤ c.toNat ∧ c.toNat ≤ 57 := by
  have h1 := dec_dig u
  have h2 := dec_ne u
  generalize dec u = l at h1 h2
  cases l with
  | nil => exact absurd rfl h2
  | cons c t => exact ⟨c, t ++ r, rfl, h1 c (by simp)⟩
theorem pk_dec {x : Int} (h : 0 ≤ x) (h2 : x ≤ 999999) : pk (dec x.toNat) = some ⟨0, x, 0⟩ := by
  unfold pk
  obtain ⟨c, t, e, hc⟩ := dec_head x.toNat []
  rw [List.append_nil] at e
  have n1 : dec x.toNat ≠ [116] := by
    intro hh; rw [hh] at e; cases e
    revert hc; decide
  have n2 : (dec x.toNat).head? ≠ some 115 := by
    intro hh; rw [e] at hh; simp at hh; subst hh; revert hc; decide
  rw [if_neg n1, if_neg n2, cut46_none fun c hc => dig_ne hc 46 (by decide)]
  dsimp only
  rw [num_dec h h2]; rfl
theorem pk_dot {x d : Int} (h : 0 ≤ x) (h2 : x ≤ 999999) (hd : 0 < d) (hd2 : d ≤ 999999) : pk (dec x.toNat ++ 46 :: dec d.toNat) = some ⟨0, x, d⟩ := by
  unfold pk
  obtain ⟨c, t, e, hc⟩ := dec_head x.toNat (46 :: dec d.toNat)
  have n1 : dec x.toNat ++ 46 :: dec d.toNat ≠ [116] := by
    intro hh; rw [hh] at e; cases e
    revert hc; decide
  have n2 : (dec x.toNat ++ 46 :: dec d.toNat).head? ≠ some 115 := by
    intro hh; rw [e] at hh; simp at hh; subst hh; revert hc; decide
  rw [if_neg n1, if_neg n2, cut46_at fun c hc => dig_ne hc 46 (by decide)]
  dsimp only
  rw [num_dec h h2, num_dec (by omega) hd2]
  simp [hd]
theorem pk_txt {p : GPick} {w : List UInt8} (h : txt p = some w) : pk w = some p := by
  obtain ⟨kd, th, dr⟩ := p
  unfold txt at h
  simp only at h
  split at h
  · cases h
  · rename_i hb
    simp only [not_or, Int.not_lt] at hb
    split at h
    · rename_i hk; subst hk
      cases h
      split
      · exact pk_dot (by omega) (by omega) (by omega) (by omega)
      · rw [pk_dec (by omega) (by omega)]
        have : dr = 0 := by omega
        rw [this]
    · split at h
      · rename_i hk; subst hk
        split at h
        · rename_i hd; subst hd
          cases h
          unfold pk
          rw [if_neg (by intro hh; cases hh), if_pos (by rfl)]
          simp [num_dec (show 0 ≤ th by omega) (by omega)]
        · cases h
      · split at h
        · rename_i hh
          obtain ⟨rfl, rfl, rfl⟩ := hh
          cases h; rfl
        · cases h
theorem txt_pk {p : GPick} {w : List UInt8} (h : pk w = some p) : txt p = some w := by
  unfold pk at h
  split at h
  · rename_i hw; cases h; subst hw; rfl
  · split at h
    · rename_i h1 h2
      rw [Option.map_eq_some_iff] at h
      obtain ⟨x, hx, rfl⟩ := h
      obtain ⟨a1, a2, a3⟩ := num_some hx
      cases w with
      | nil => simp at h2
      | cons c t =>
        simp only [List.head?_cons, Option.some.injEq] at h2
        subst h2
        simp only [List.tail_cons] at a3
        unfold txt
        simp only
        rw [if_neg (by omega), if_neg (by decide), if_pos trivial, if_pos trivial, a3]
    · split at h
      · rename_i a b hc
        rw [Option.bind_eq_some_iff] at h
        obtain ⟨x, hx, h⟩ := h
        rw [Option.bind_eq_some_iff] at h
        obtain ⟨d, hd, h⟩ := h
        split at h
        · rename_i hpos
          cases h
          obtain ⟨a1, a2, a3⟩ := num_some hx
          obtain ⟨b1, b2, b3⟩ := num_some hd
          unfold cut46 at hc
          split at hc
          · cases hc
          · rename_i hi
            obtain ⟨p, q, rfl, hp, hl⟩ := index_split (l := w) (c := 46) (by omega)
            rw [hl] at hc
            have : ((p.length : Int) + 1).toNat = p.length + 1 := by omega
            rw [this, Int.toNat_natCast] at hc
            simp at hc
            obtain ⟨rfl, rfl⟩ := hc
            unfold txt
            simp only
            rw [if_neg (by omega), if_pos trivial, if_pos hpos, ← a3, ← b3]
        · cases h
      · rw [Option.map_eq_some_iff] at h
        obtain ⟨x, hx, rfl⟩ := h
        obtain ⟨a1, a2, a3⟩ := num_some hx
        unfold txt
        simp only
        rw [if_neg (by omega), if_pos trivial, if_neg (by omega), a3]

/-! ### parts at each space -/
def parts : List UInt8 → List (List UInt8)
  | [] => [[]]
  | c :: l => if c = 32 then [] :: parts l else match parts l with
    | p :: ps => (c :: p) :: ps
    | [] => [[c]]
theorem parts_none : ∀ {p : List UInt8}, (∀ b ∈ p, b ≠ 32) → parts p = [p]
  | [], _ => rfl
  | c :: p, h => by
    rw [parts, if_neg (h c (by simp)), parts_none fun b hb => h b (by simp [hb])]
theorem parts_at : ∀ {p r : List UInt8}, (∀ b ∈ p, b ≠ 32) → parts (p ++ 32 :: r) = p :: parts r
  | [], r, _ => by simp [parts]
  | c :: p, r, h => by
    rw [List.cons_append, parts, if_neg (h c (by simp)), parts_at fun b hb => h b (by simp [hb])]
theorem parts_ne : ∀ l : List UInt8, parts l ≠ []
  | [] => by simp [parts]
  | c :: l => by
    rw [parts]
    split
    · simp
    · split <;> simp
theorem parts_len : ∀ l : List UInt8, (parts l).length ≤ l.length + 1
  | [] => by simp [parts]
  | c :: l => by
    have := parts_len l
    rw [parts]
    split
    · simp only [List.length_cons]; omega
    · split
      · rename_i h; rw [h] at this; simp only [List.length_cons] at this ⊢; omega
      · simp
theorem join_parts : ∀ l : List UInt8, Lib.join (parts l) [32] = l
  | [] => by simp [parts, Lib.join_one]
  | c :: l => by
    have ih := join_parts l
    have hne := parts_ne l
    rw [parts]
    cases hp : parts l with
    | nil => exact absurd hp hne
    | cons p ps =>
      rw [hp] at ih
      split
      · rename_i hc; subst hc
        rw [Lib.join_cons]
        rw [Lib.join_cons] at ih
        simp only [Lib.joinTail, List.map_cons, List.flatten_cons, List.nil_append, List.singleton_append, List.cons_append] at ih ⊢
        rw [ih]
      · rw [Lib.join_cons] at ih ⊢
        rw [List.cons_append, ih]
theorem parts_join : ∀ {p : List UInt8} {ps : List (List UInt8)}, (∀ q ∈ p :: ps, ∀ b ∈ q, b ≠ 32) → parts (Lib.join (p :: ps) [32]) = p :: ps
  | p, [], h => by rw [Lib.join_one]; exact parts_none (h p (by simp))
  | p, q :: ps, h => by
    have e : Lib.join (p :: q :: ps) [32] = p ++ 32 :: Lib.join (q :: ps) [32] := by
      rw [Lib.join_cons, Lib.join_cons]
      simp [Lib.joinTail]
    rw [e, parts_at (h p (by simp)), parts_join fun r hr => h r (by simp [hr])]
theorem txt_bytes {p : GPick} {w : List UInt8} (h : txt p = some w) : (∀ b ∈ w, b ≠ 32) ∧ w ≠ [] ∧ w.length ≤ 13 := by
  have hl : ∀ x : Int, 0 ≤ x → x ≤ 999999 → (dec x.toNat).length ≤ 6 := fun x h1 h2 => dec_len 6 _ (by omega) (by omega)
  have hn : ∀ u : Nat, ∀ b ∈ dec u, b ≠ 32 := fun u b hb => dig_ne hb 32 (by decide)
  unfold txt at h
  split at h
  · cases h
  · rename_i hb
    simp only [not_or, Int.not_lt] at hb
    have l1 := hl p.thread (by omega) (by omega)
    have l2 := hl p.draw (by omega) (by omega)
    split at h
    · cases h
      split
      · refine ⟨fun b hb => ?_, by simp, by simp only [List.length_append, List.length_cons]; omega⟩
        rcases List.mem_append.1 hb with hb | hb
        · exact hn _ b hb
        · rcases List.mem_cons.1 hb with rfl | hb
          · decide
          · exact hn _ b hb
      · exact ⟨hn _, dec_ne _, by omega⟩
    · split at h
      · split at h
        · cases h
          refine ⟨fun b hb => ?_, by simp, by simp only [List.length_cons]; omega⟩
          rcases List.mem_cons.1 hb with rfl | hb
          · decide
          · exact hn _ b hb
        · cases h
      · split at h
        · cases h; exact ⟨by decide, by simp, by simp⟩
        · cases h
end Go.Abs

/-
  What the program's functions on texts of picks compute: the words and numbers.
-/
set_option linter.unusedVariables false
set_option linter.unusedSimpArgs false
namespace Go.Proofs.YtilipgopjiokfaaGreatDoor
open Go Go.Abs Go.Proofs

theorem minmax_neg {a b : Int} : ((if b < a then b else a) < 0) ↔ (a < 0 ∨ b < 0) := by
  split <;> constructor <;> intro h <;> omega
theorem minmax_big {a b : Int} : ((if b > a then b else a) > 999999) ↔ (a > 999999 ∨ b > 999999) := by
  split <;> constructor <;> intro h <;> omega
theorem dec6 {x : Int} (h : 0 ≤ x) (h2 : x ≤ 999999) : (dec x.toNat).length ≤ 6 := dec_len 6 _ (by omega) (by omega)

theorem script_text_spec (n : Nat) (p : GPick) (h1 : InR p.thread) (h2 : InR p.draw) :
    ∃ b ok, script_text n p = some (b, ok) ∧ (ok = true → ∃ w, b = bl w ∧ txt p = some w) ∧ (ok = false → txt p = none) := by
  unfold script_text
  rw [if_pos h1]
  by_cases hn : p.thread < 0 ∨ p.draw < 0
  · rw [if_pos (minmax_neg.2 hn)]
    refine ⟨_, false, rfl, by simp, fun _ => ?_⟩
    unfold txt; rw [if_pos (by omega)]
  · rw [if_neg (fun h => hn (minmax_neg.1 h))]
    by_cases hb : p.thread > 999999 ∨ p.draw > 999999
    · rw [if_pos (minmax_big.2 hb)]
      refine ⟨_, false, rfl, by simp, fun _ => ?_⟩
      unfold txt; rw [if_pos (by omega)]
    · rw [if_neg (fun h => hb (minmax_big.1 h))]
      have et : itoaB p.thread = bl (dec p.thread.toNat) := itoaB_nn (by omega) (by omega)
      have ed : itoaB p.draw = bl (dec p.draw.toNat) := itoaB_nn (by omega) (by omega)
      have lt := dec6 (x := p.thread) (by omega) (by omega)
      have ld := dec6 (x := p.draw) (by omega) (by omega)
      have e46 : (⟨#[46]⟩ : ByteArray) = bl [46] := rfl
      have e115 : (⟨#[115]⟩ : ByteArray) = bl [115] := rfl
      have e116 : (⟨#[116]⟩ : ByteArray) = bl [116] := rfl
      rw [et, ed, e46, e115, e116]
      simp only [bl_app]
      have ht : txt p = (if p.kind = 0 then some (if p.draw > 0 then dec p.thread.toNat ++ 46 :: dec p.draw.toNat else dec p.thread.toNat)
        else if p.kind = 1 then (if p.draw = 0 then some (115 :: dec p.thread.toNat) else none)
        else if p.kind = 2 ∧ p.thread = 0 ∧ p.draw = 0 then some [116] else none) := by
        unfold txt; rw [if_neg (by omega)]
      rw [ht]
      by_cases hk : p.kind = 0
      · rw [if_pos hk, if_pos hk]
        by_cases hd : p.draw > 0
        · rw [if_pos hd, if_pos hd, if_pos (by rw [bl_size]; simp only [List.length_append, List.length_singleton]; omega), if_pos h2, if_pos (by rw [bl_size]; simp only [List.length_append, List.length_singleton]; omega)]
          exact ⟨_, true, rfl, fun _ => ⟨_, rfl, by simp⟩, by simp⟩
        · rw [if_neg hd, if_neg hd]
          exact ⟨_, true, rfl, fun _ => ⟨_, rfl, rfl⟩, by simp⟩
      · rw [if_neg hk, if_neg hk]
        by_cases hk1 : p.kind = 1
        · rw [if_pos hk1, if_pos hk1, if_pos (by rw [bl_size]; simp only [List.length_append, List.length_singleton]; omega)]
          by_cases hd : p.draw = 0
          · rw [if_pos hd, if_pos hd]; exact ⟨_, true, rfl, fun _ => ⟨_, rfl, rfl⟩, by simp⟩
          · rw [if_neg hd, if_neg hd]; exact ⟨_, false, rfl, by simp, fun _ => rfl⟩
        · rw [if_neg hk1, if_neg hk1]
          by_cases hp : p = ({ kind := 2, thread := 0, draw := 0 } : GPick)
          · rw [if_pos hp]
            refine ⟨_, true, rfl, fun _ => ⟨_, rfl, ?_⟩, by simp⟩
            subst hp; rfl
          · rw [if_neg hp]
            refine ⟨_, false, rfl, by simp, fun _ => ?_⟩
            rw [if_neg]
            rintro ⟨a, b, c⟩
            apply hp
            obtain ⟨x, y, z⟩ := p
            simp only at a b c
            subst a; subst b; subst c; rfl

/-! ### the document's digits -/
theorem digits_loop (p0 : Int) (n : Nat) : ∀ (j k : Nat) (v : List UInt8) (u : Nat), u < 10 ^ j → j < k → u ≤ 999999 → v.length + j ≤ 1000 → vigilref03_Digits_L6 p0 n k (bl v) (u : Int) = some (.e0 (bl ((if u = 0 then [] else dec u) ++ v)) 0)
  | j, 0, v, u, h, hk, _, _ => by omega
  | j, k + 1, v, u, h, hk, hu, hv => by
    unfold vigilref03_Digits_L6
    by_cases h0 : u = 0
    · subst h0; rw [if_neg (by simp)]; simp
    · rw [if_pos (by omega)]
      have em : Int.tmod (u : Int) 10 = ((u % 10 : Nat) : Int) := by rw [Int.tmod_eq_emod_of_nonneg (by omega)]; omega
      have ed : Int.tdiv (u : Int) 10 = ((u / 10 : Nat) : Int) := by rw [Int.tdiv_eq_ediv_of_nonneg (by omega)]; omega
      have ew : Go.IntKind.i64.wrap ((u / 10 : Nat) : Int) = ((u / 10 : Nat) : Int) := wrap_in (by unfold InR; omega)
      have edg : (⟨#[48, 49, 50, 51, 52, 53, 54, 55, 56, 57]⟩ : ByteArray) = bl [48, 49, 50, 51, 52, 53, 54, 55, 56, 57] := rfl
      rw [em, ed, ew, edg, if_neg (by omega), if_pos (by unfold InR; omega)]
      have e1 : (((u % 10 : Nat) : Int)).toNat = u % 10 := by omega
      have e2 : (((u % 10 : Nat) : Int) + 1).toNat = u % 10 + 1 := by omega
      rw [e1, e2, digits10 _ (by omega), bl_app, if_pos (by rw [bl_size]; simp only [List.length_cons, List.length_nil]; omega), if_pos (by rw [bl_size]; simp only [List.length_append, List.length_cons, List.length_nil]; omega)]
      cases j with
      | zero => simp at h; omega
      | succ j =>
        rw [Nat.pow_succ] at h
        rw [digits_loop p0 n j k _ (u / 10) (by omega) (by omega) (by omega) (by simp only [List.length_append, List.length_cons, List.length_nil]; omega), if_neg h0]
        by_cases hs : u < 10
        · rw [if_pos (by omega), dec_small hs, Nat.mod_eq_of_lt hs]; simp
        · rw [if_neg (by omega), dec_big hs]; simp
theorem digits_spec (n : Nat) (hn : 30 ≤ n) {x : Int} (h : 0 ≤ x) (h2 : x ≤ 999999) : vigilref03_Digits n x = some (bl (dec x.toNat)) := by
  unfold vigilref03_Digits
  by_cases h0 : x = 0
  · subst h0
    rw [if_pos rfl]
    show some (bl [48]) = some (bl (dec 0))
    rw [dec_small (by omega)]; rfl
  · rw [if_neg h0]
    obtain ⟨u, rfl⟩ : ∃ u : Nat, x = (u : Int) := ⟨x.toNat, by omega⟩
    have := digits_loop (u : Int) n 6 n [] u (by omega) (by omega) (by omega) (by simp)
    have e : (⟨#[]⟩ : ByteArray) = bl [] := rfl
    rw [e, this]
    simp only [Option.bind_some]
    rw [if_neg (by omega), if_neg (by omega)]
    simp
theorem one_spec (n : Nat) (hn : 30 ≤ n) (p : GPick) :
    ∃ b ok, vigilref16_one n p = some (b, ok) ∧ (ok = true → ∃ w, b = bl w ∧ txt p = some w) ∧ (ok = false → txt p = none) := by
  unfold vigilref16_one
  by_cases hb : p.thread < 0 ∨ p.draw < 0 ∨ p.thread > 999999 ∨ p.draw > 999999
  · have : vigilref16_one_J1 p n = some .r := by
      unfold vigilref16_one_J1
      split
      · rfl
      · split
        · rfl
        · split
          · rfl
          · split
            · rfl
            · omega
    rw [this]
    refine ⟨_, false, rfl, by simp, fun _ => ?_⟩
    unfold txt; rw [if_pos hb]
  · have hj : vigilref16_one_J1 p n = some .m := by
      unfold vigilref16_one_J1
      rw [if_neg (by omega), if_neg (by omega), if_neg (by omega), if_neg (by omega)]
    rw [hj]
    simp only [Option.bind_some]
    rw [digits_spec n hn (by omega) (by omega)]
    simp only [Option.bind_some]
    have lt := dec6 (x := p.thread) (by omega) (by omega)
    have ld := dec6 (x := p.draw) (by omega) (by omega)
    have e46 : (⟨#[46]⟩ : ByteArray) = bl [46] := rfl
    have e115 : (⟨#[115]⟩ : ByteArray) = bl [115] := rfl
    have e116 : (⟨#[116]⟩ : ByteArray) = bl [116] := rfl
    rw [e46, e115, e116]
    simp only [bl_app]
    have ht : txt p = (if p.kind = 0 then some (if p.draw > 0 then dec p.thread.toNat ++ 46 :: dec p.draw.toNat else dec p.thread.toNat)
      else if p.kind = 1 then (if p.draw = 0 then some (115 :: dec p.thread.toNat) else none)
      else if p.kind = 2 ∧ p.thread = 0 ∧ p.draw = 0 then some [116] else none) := by
      unfold txt; rw [if_neg hb]
    rw [ht]
    by_cases hk : p.kind = 0
    · rw [if_pos hk, if_pos hk]
      by_cases hd : p.draw > 0
      · rw [if_pos hd, if_pos hd, if_pos (by rw [bl_size]; simp only [List.length_append, List.length_singleton]; omega), digits_spec n hn (by omega) (by omega)]
        simp only [Option.bind_some, bl_app]
        rw [if_pos (by rw [bl_size]; simp only [List.length_append, List.length_singleton]; omega)]
        exact ⟨_, true, rfl, fun _ => ⟨_, rfl, by simp⟩, by simp⟩
      · rw [if_neg hd, if_neg hd]
        exact ⟨_, true, rfl, fun _ => ⟨_, rfl, rfl⟩, by simp⟩
    · rw [if_neg hk, if_neg hk]
      by_cases hk1 : p.kind = 1
      · rw [if_pos hk1, if_pos hk1, if_pos (by rw [bl_size]; simp only [List.length_append, List.length_singleton]; omega)]
        by_cases hd : p.draw = 0
        · rw [if_pos hd, if_pos hd]; exact ⟨_, true, rfl, fun _ => ⟨_, rfl, rfl⟩, by simp⟩
        · rw [if_neg hd, if_neg hd]; exact ⟨_, false, rfl, by simp, fun _ => rfl⟩
      · rw [if_neg hk1, if_neg hk1]
        by_cases h2 : p.kind = 2
        · rw [if_pos h2]
          by_cases h3 : p.thread = 0
          · rw [if_pos h3]
            by_cases h4 : p.draw = 0
            · rw [if_pos h4, if_pos ⟨h2, h3, h4⟩]; exact ⟨_, true, rfl, fun _ => ⟨_, rfl, rfl⟩, by simp⟩
            · rw [if_neg h4, if_neg (fun h => h4 h.2.2)]; exact ⟨_, false, rfl, by simp, fun _ => rfl⟩
          · rw [if_neg h3, if_neg (fun h => h3 h.2.1)]; exact ⟨_, false, rfl, by simp, fun _ => rfl⟩
        · rw [if_neg h2, if_neg (fun h => h2 h.1)]; exact ⟨_, false, rfl, by simp, fun _ => rfl⟩

/-! ### numbers -/
theorem script_number_spec (n : Nat) (w : List UInt8) (hw : w.length ≤ 1000000) : ∃ r, script_number n (bl w) = some r ∧ InR r ∧ ∀ x, num w = some x → r = x := by
  unfold script_number
  rw [if_pos (by rw [bl_size]; omega)]
  cases ha : Lib.atoiAll w with
  | ok v =>
    obtain ⟨b1, b2⟩ := Lib.atoiAll_bounds ha
    have e : atoiR (bl w) = (v, false) := by unfold atoiR; rw [bl_data, ha]
    have hnum : num w = if 0 ≤ v ∧ v ≤ 999999 ∧ dec v.toNat = w then some v else none := by unfold num; rw [ha]
    rw [e]
    simp only [Bool.false_eq_true, if_false]
    by_cases hb : v > 999999
    · rw [if_pos hb]
      refine ⟨_, rfl, by unfold InR; omega, fun x hx => ?_⟩
      rw [hnum, if_neg (by omega)] at hx; cases hx
    · rw [if_neg hb, if_pos (by unfold InR; omega)]
      by_cases hi : itoaB v = bl w
      · rw [if_pos hi]
        refine ⟨_, rfl, by unfold InR; omega, fun x hx => ?_⟩
        rw [hnum] at hx
        split at hx
        · cases hx; rfl
        · cases hx
      · rw [if_neg hi]
        refine ⟨_, rfl, by unfold InR; omega, fun x hx => ?_⟩
        rw [hnum] at hx
        split at hx
        · rename_i hh
          exfalso; apply hi
          rw [itoaB_nn hh.1 (by omega), hh.2.2]
        · cases hx
  | _ =>
    have e : (atoiR (bl w)).2 = true := by unfold atoiR; rw [bl_data, ha]
    rw [if_pos e]
    refine ⟨_, rfl, by unfold InR; omega, fun x hx => ?_⟩
    unfold num at hx; rw [ha] at hx; cases hx
theorem number_loop (n : Nat) : ∀ (rest done : List UInt8) (k : Nat), done.length + rest.length ≤ 6 → (∀ c ∈ done, isDig c) → rest.length < k →
    vigilref16_number_L5 (bl (done ++ rest)) n k (valL done : Int) (done.length : Int) = (if ∀ c ∈ rest, isDig c then some (.e0 (valL (done ++ rest) : Int) ((done ++ rest).length : Int)) else some .r)
  | rest, done, 0, _, _, h => by omega
  | [], done, k + 1, hl, hd, _ => by
    unfold vigilref16_number_L5
    rw [if_neg (by rw [bl_size]; simp), if_pos (by simp)]
    simp
  | c :: rest, done, k + 1, hl, hd, hk => by
    unfold vigilref16_number_L5
    simp only [List.length_cons] at hl hk
    rw [if_pos (by rw [bl_size]; simp only [List.length_append, List.length_cons]; omega), bl_byte]
    have hg : (done ++ c :: rest)[done.length]? = some c := by simp
    rw [hg]
    simp only [Option.map_some, Option.bind_some]
    by_cases h1 : (c.toNat : Int) < 48
    · rw [if_pos h1, if_neg]
      intro hh; have := hh c (by simp); unfold isDig at this; omega
    · rw [if_neg h1]
      by_cases h2 : (c.toNat : Int) > 57
      · rw [if_pos h2, if_neg]
        intro hh; have := hh c (by simp); unfold isDig at this; omega
      · rw [if_neg h2]
        have hv := valL_lt done hd
        have hp : 10 ^ done.length ≤ 10 ^ 6 := Nat.pow_le_pow_right (by omega) (by omega)
        have e8 : Go.IntKind.u8.wrap ((c.toNat : Int) - 48) = (c.toNat : Int) - 48 := by
          rw [IntKind.wrap_u8]; omega
        rw [if_pos (by unfold InR; omega), e8, wrap_in (by unfold InR; omega), if_pos (by unfold InR; omega), if_pos (by unfold InR; omega)]
        have hdc : isDig c := by unfold isDig; omega
        have e1 : 10 * (valL done : Int) + ((c.toNat : Int) - 48) = ((valL (done ++ [c]) : Nat) : Int) := by rw [valL_snoc]; omega
        have e2 : (done.length : Int) + 1 = ((done ++ [c]).length : Int) := by simp
        have e3 : done ++ c :: rest = (done ++ [c]) ++ rest := by simp
        rw [e1, e2, e3, number_loop n rest (done ++ [c]) k (by simp; omega) (by
          intro x hx
          rcases List.mem_append.1 hx with hx | hx
          · exact hd x hx
          · simp only [List.mem_singleton] at hx; subst hx; exact hdc) (by omega)]
        by_cases hr : ∀ c ∈ rest, isDig c
        · rw [if_pos hr, if_pos]
          intro x hx
          rcases List.mem_cons.1 hx with rfl | hx
          · exact hdc
          · exact hr x hx
        · rw [if_neg hr, if_neg fun hh => hr fun x hx => hh x (by simp [hx])]
theorem number_spec (n : Nat) (hn : 30 ≤ n) (w : List UInt8) : ∃ x ok, vigilref16_number n (bl w) = some (x, ok) ∧ (ok = true → num w = some x) ∧ (ok = false → num w = none) := by
  unfold vigilref16_number
  have e0 : (⟨#[]⟩ : ByteArray) = bl [] := rfl
  by_cases h0 : w = []
  · subst h0
    rw [if_pos e0.symm]
    exact ⟨_, false, rfl, by simp, fun _ => rfl⟩
  · rw [if_neg (by rw [e0, bl_inj]; exact h0)]
    by_cases hl : ((bl w).size : Int) > 6
    · rw [if_pos hl]
      refine ⟨_, false, rfl, by simp, fun _ => ?_⟩
      cases hx : num w with
      | none => rfl
      | some x =>
        obtain ⟨a, b, c⟩ := num_some hx
        have := dec6 a b
        rw [← c] at this
        rw [bl_size] at hl; omega
    · rw [if_neg hl]
      rw [bl_size] at hl
      have hloop := number_loop n w [] n (by simp; omega) (by simp) (by omega)
      simp only [List.nil_append, List.length_nil] at hloop
      have ez : ((valL [] : Nat) : Int) = 0 := rfl
      rw [ez] at hloop
      have ez2 : ((0 : Nat) : Int) = 0 := rfl
      rw [ez2] at hloop
      rw [hloop]
      by_cases hd : ∀ c ∈ w, isDig c
      · rw [if_pos hd]
        simp only [Option.bind_some]
        have hv := valL_lt w hd
        have hp : 10 ^ w.length ≤ 10 ^ 6 := Nat.pow_le_pow_right (by omega) (by omega)
        rw [digits_spec n hn (by omega) (by omega)]
        simp only [Option.bind_some, Int.toNat_natCast]
        by_cases he : dec (valL w) = w
        · rw [if_pos (by rw [bl_inj]; exact he)]
          refine ⟨_, true, rfl, fun _ => ?_, by simp⟩
          have := num_dec (x := (valL w : Int)) (by omega) (by omega)
          rw [Int.toNat_natCast, he] at this
          exact this
        · rw [if_neg (by rw [bl_inj]; exact he)]
          refine ⟨_, false, rfl, by simp, fun _ => ?_⟩
          cases hx : num w with
          | none => rfl
          | some x =>
            obtain ⟨a, b, c⟩ := num_some hx
            exfalso; apply he
            rw [c, valL_dec]
      · rw [if_neg hd]
        refine ⟨_, false, rfl, by simp, fun _ => ?_⟩
        cases hx : num w with
        | none => rfl
        | some x =>
          obtain ⟨a, b, c⟩ := num_some hx
          exfalso; apply hd
          rw [c]
          exact dec_dig _

/-! ### words -/
theorem hasPrefix_spec (n : Nat) (w : List UInt8) : stringslite_HasPrefix n (bl w) = some (decide (w.head? = some 115)) := by
  unfold stringslite_HasPrefix
  have e115 : (⟨#[115]⟩ : ByteArray) = bl [115] := rfl
  rw [e115]
  cases w with
  | nil => rw [if_neg (by rw [bl_size]; simp)]; rfl
  | cons c t =>
    rw [if_pos (by rw [bl_size]; simp only [List.length_cons]; omega), if_pos (by rw [bl_size]; simp only [List.length_cons]; omega), bl_ext]
    have e1 : ((c :: t).take (1 : Int).toNat).drop 0 = [c] := rfl
    rw [e1]
    by_cases hc : c = 115
    · subst hc; rw [if_pos rfl]; rfl
    · rw [if_neg (by rw [bl_inj]; simpa using hc)]; simp [hc]
theorem cutPrefix_spec (n : Nat) (w : List UInt8) : strings_CutPrefix n (bl w) = some (if w.head? = some 115 then (bl w.tail, true) else (bl w, false)) := by
  unfold strings_CutPrefix stringslite_CutPrefix
  rw [hasPrefix_spec]
  simp only [Option.bind_some]
  by_cases hc : w.head? = some 115
  · rw [decide_eq_true hc, if_pos hc]
    cases w with
    | nil => simp at hc
    | cons c t =>
      simp only [cond_true]
      rw [if_pos (by rw [bl_size]; simp only [List.length_cons]; omega), bl_ext, bl_size, List.take_length]
      rfl
  · rw [decide_eq_false hc, if_neg hc]
    rfl
theorem script_pick_spec (n : Nat) (w : List UInt8) (hw : w.length ≤ 1000000) : ∃ x, script_pick n (bl w) = some x ∧ InR x.thread ∧ InR x.draw ∧ ∀ p, pk w = some p → x = p := by
  have i0 : InR 0 := by unfold InR; omega
  unfold script_pick
  have e116 : (⟨#[116]⟩ : ByteArray) = bl [116] := rfl
  have e115 : (⟨#[115]⟩ : ByteArray) = bl [115] := rfl
  rw [e116]
  by_cases h0 : w = [116]
  · subst h0
    rw [if_pos rfl]
    exact ⟨_, rfl, i0, i0, fun p hp => by cases hp; rfl⟩
  · rw [if_neg (by rw [bl_inj]; exact h0)]
    have hcp := cutPrefix_spec n w
    rw [hcp]
    simp only [Option.bind_some]
    by_cases hs : w.head? = some 115
    · rw [if_pos hs]
      simp only [cond_true]
      obtain ⟨r, hr, hi, hx⟩ := script_number_spec n w.tail (by simp; omega)
      rw [hr]
      refine ⟨_, rfl, hi, i0, fun p hp => ?_⟩
      unfold pk at hp
      rw [if_neg h0, if_pos hs, Option.map_eq_some_iff] at hp
      obtain ⟨x, h1, rfl⟩ := hp
      rw [hx x h1]
    · rw [if_neg hs]
      simp only [cond_false]
      have hpk : pk w = match cut46 w with
        | some (a, b) => (num a).bind fun x => (num b).bind fun d => if d > 0 then some ⟨0, x, d⟩ else none
        | none => (num w).map fun x => ⟨0, x, 0⟩ := by
        unfold pk; rw [if_neg h0, if_neg hs]; try rfl
      unfold strings_Cut stringslite_Cut
      rw [bl_data]
      by_cases hi : Lib.indexByte w 46 ≥ 0
      · obtain ⟨a, b, rfl, ha, hl⟩ := index_split (l := w) (c := 46) hi
        simp only [List.length_append, List.length_cons] at hw
        rw [hl, if_pos (by omega), if_pos (by rw [bl_size]; simp only [List.length_append, List.length_cons]; omega), if_pos (by unfold InR; omega), if_pos (by rw [bl_size]; simp only [List.length_append, List.length_cons]; omega)]
        have e1 : ((a.length : Int) + 1).toNat = a.length + 1 := by omega
        rw [e1, Int.toNat_natCast, bl_ext, bl_ext, bl_size]
        have ea : ((a ++ 46 :: b).take a.length).drop 0 = a := by simp
        have eb : ((a ++ 46 :: b).take (a ++ 46 :: b).length).drop (a.length + 1) = b := by rw [List.take_length]; simp
        rw [ea, eb]
        simp only [Option.bind_some, cond_true]
        obtain ⟨r, hr, hri, hrx⟩ := script_number_spec n a (by omega)
        obtain ⟨d, hd, hdi, hdx⟩ := script_number_spec n b (by omega)
        rw [hr, hd]
        refine ⟨_, rfl, hri, hdi, fun p hp => ?_⟩
        rw [hpk, cut46_at ha] at hp
        simp only [Option.bind_eq_some_iff] at hp
        obtain ⟨x, h1, y, h2, h3⟩ := hp
        split at h3
        · cases h3; rw [hrx x h1, hdx y h2]
        · cases h3
      · rw [if_neg hi]
        simp only [Option.bind_some, cond_false]
        obtain ⟨r, hr, hri, hrx⟩ := script_number_spec n w hw
        rw [hr]
        refine ⟨_, rfl, hri, i0, fun p hp => ?_⟩
        rw [hpk, cut46_none (index_neg (by omega)), Option.map_eq_some_iff] at hp
        obtain ⟨x, h1, rfl⟩ := hp
        rw [hrx x h1]
end Go.Proofs.YtilipgopjiokfaaGreatDoor

/-
  What the program's functions on texts of picks compute: whole texts; the two laws.
-/
set_option linter.unusedVariables false
set_option linter.unusedSimpArgs false
set_option maxRecDepth 10000
namespace Go.Proofs.YtilipgopjiokfaaGreatDoor
open Go Go.Abs Go.Proofs

/-! ### the document's words -/
def pkDot (a b : List UInt8) : Option GPick := (num a).bind fun x => (num b).bind fun d => if d > 0 then some ⟨0, x, d⟩ else none
theorem pick_loop (n : Nat) (hn : 30 ≤ n) : ∀ (rest done : List UInt8) (k : Nat), done.length + rest.length ≤ 1000000 → (∀ c ∈ done, c ≠ 46) → rest.length < k →
    match cut46 (done ++ rest) with
    | some (a, b) => ∃ v x d, vigilref16_pick_L7 (bl (done ++ rest)) n k (done.length : Int) = some (.r v x d) ∧ (v = true → pkDot a b = some ⟨0, x, d⟩) ∧ (v = false → pkDot a b = none)
    | none => ∃ i, vigilref16_pick_L7 (bl (done ++ rest)) n k (done.length : Int) = some (.e0 i) := by
  intro rest
  induction rest with
  | nil =>
    intro done k hl hd hk
    obtain ⟨k, rfl⟩ : ∃ j, k = j + 1 := ⟨k - 1, by omega⟩
    rw [List.append_nil, cut46_none hd]
    refine ⟨(done.length : Int), ?_⟩
    unfold vigilref16_pick_L7
    rw [if_neg (by rw [bl_size]; omega)]
  | cons c rest IH =>
    intro done k hl hd hk
    simp only [List.length_cons] at hl hk
    obtain ⟨k, rfl⟩ : ∃ j, k = j + 1 := ⟨k - 1, by omega⟩
    have hg : (done ++ c :: rest)[done.length]? = some c := by simp
    by_cases hc : c = 46
    · subst hc
      rw [cut46_at hd]
      dsimp only
      obtain ⟨x, ok, h1, h2, h3⟩ := number_spec n hn done
      obtain ⟨y, ok2, g1, g2, g3⟩ := number_spec n hn rest
      have hL : vigilref16_pick_L7 (bl (done ++ 46 :: rest)) n (k + 1) (done.length : Int) = (bif ok then bif ok2 then if y > 0 then some (.r true x y) else some (.r false x y) else some (.r false x y) else some (.r false x y)) := by
       rw [vigilref16_pick_L7, if_pos (by rw [bl_size]; simp only [List.length_append, List.length_cons]; omega), bl_byte, hg]
       simp only [Option.map_some, Option.bind_some]
       rw [if_pos (by decide), if_pos (by rw [bl_size]; simp only [List.length_append, List.length_cons]; omega), bl_ext, Int.toNat_natCast]
       have ea : ((done ++ 46 :: rest).take done.length).drop 0 = done := by simp
       have e1 : ((done.length : Int) + 1).toNat = done.length + 1 := by omega
       have eb : ((done ++ 46 :: rest).take (done ++ 46 :: rest).length).drop (done.length + 1) = rest := by rw [List.take_length]; simp
       rw [ea, h1, Option.bind_some]
       refine (if_pos (by unfold InR; omega)).trans ?_
       refine (if_pos (by rw [bl_size]; simp only [List.length_append, List.length_cons]; omega)).trans ?_
       rw [e1, bl_size, bl_ext, eb, g1, Option.bind_some]
      rw [hL]
      cases ok with
      | true =>
        simp only [cond_true]
        cases ok2 with
        | true =>
          simp only [cond_true]
          by_cases hy : y > 0
          · rw [if_pos hy]
            exact ⟨_, _, _, rfl, fun _ => by unfold pkDot; rw [h2 rfl, g2 rfl]; simp [hy], by simp⟩
          · rw [if_neg hy]
            exact ⟨_, _, _, rfl, by simp, fun _ => by unfold pkDot; rw [h2 rfl, g2 rfl]; simp [hy]⟩
        | false => exact ⟨_, _, _, rfl, by simp, fun _ => by unfold pkDot; rw [h2 rfl, g3 rfl]; simp⟩
      | false => exact ⟨_, _, _, rfl, by simp, fun _ => by unfold pkDot; rw [h3 rfl]; simp⟩
    · have hcn : ¬ (c.toNat : Int) = 46 := by
        intro hh
        apply hc
        apply UInt8.toNat_inj.1
        show c.toNat = 46
        omega
      have hd' : ∀ x ∈ done ++ [c], x ≠ 46 := by
        intro x hx
        rcases List.mem_append.1 hx with hx | hx
        · exact hd x hx
        · simp only [List.mem_singleton] at hx; subst hx; exact hc
      have ih := IH (done ++ [c]) k (by simp; omega) hd' (by omega)
      have e3 : (done ++ [c]) ++ rest = done ++ c :: rest := by simp
      have e2 : (((done ++ [c]).length : Nat) : Int) = (done.length : Int) + 1 := by simp
      rw [e3, e2] at ih
      have hun : vigilref16_pick_L7 (bl (done ++ c :: rest)) n (k + 1) (done.length : Int) = vigilref16_pick_L7 (bl (done ++ c :: rest)) n k ((done.length : Int) + 1) := by
        rw [vigilref16_pick_L7, if_pos (by rw [bl_size]; simp only [List.length_append, List.length_cons]; omega), bl_byte, hg]
        simp only [Option.map_some, Option.bind_some]
        rw [if_neg hcn, if_pos (by unfold InR; omega)]
      rw [hun]
      exact ih
theorem pick_spec (n : Nat) (hn : 30 ≤ n) (w : List UInt8) (hw : w.length < n) (hw2 : w.length ≤ 1000000) : ∃ x ok, vigilref16_pick n (bl w) = some (x, ok) ∧ (ok = true → pk w = some x) ∧ (ok = false → pk w = none) := by
  unfold vigilref16_pick
  have e116 : (⟨#[116]⟩ : ByteArray) = bl [116] := rfl
  rw [e116]
  by_cases h0 : w = [116]
  · subst h0
    rw [if_pos rfl]
    exact ⟨_, true, rfl, fun _ => rfl, by simp⟩
  · rw [if_neg (by rw [bl_inj]; exact h0)]
    cases w with
    | nil =>
      rw [if_neg (by rw [bl_size]; simp)]
      cases n with
      | zero => omega
      | succ n =>
        have : vigilref16_pick_L7_2 (bl []) (n + 1) (n + 1) 0 = some (.e0 0) := by
          unfold vigilref16_pick_L7_2
          rw [if_neg (by rw [bl_size]; simp)]
        rw [this]
        simp only [Option.bind_some]
        obtain ⟨x, ok, h1, h2, h3⟩ := number_spec (n + 1) hn []
        rw [h1]
        have hnum : num [] = none := rfl
        refine ⟨_, ok, rfl, fun h => ?_, fun _ => rfl⟩
        have := h2 h
        rw [hnum] at this; cases this
    | cons c t =>
      rw [if_pos (by rw [bl_size]; simp only [List.length_cons]; omega)]
      have hb : byteI (bl (c :: t)) 0 = some (c.toNat : Int) := by
        have := bl_byte (c :: t) 0
        simpa using this
      rw [hb]
      simp only [Option.bind_some]
      by_cases hc : c = 115
      · subst hc
        rw [if_pos (by decide), if_pos (by rw [bl_size]; simp only [List.length_cons]; omega), bl_size, bl_ext, List.take_length]
        have e1 : (115 :: t : List UInt8).drop (1 : Int).toNat = t := rfl
        rw [e1]
        obtain ⟨x, ok, h1, h2, h3⟩ := number_spec n hn t
        rw [h1]
        have hpk : pk (115 :: t) = (num t).map fun x => ⟨1, x, 0⟩ := by
          unfold pk; rw [if_neg h0, if_pos (show (115 :: t : List UInt8).head? = some 115 from rfl)]; rfl
        refine ⟨_, ok, rfl, fun h => ?_, fun h => ?_⟩
        · rw [hpk, h2 h]; rfl
        · rw [hpk, h3 h]; rfl
      · have hcn : ¬ (c.toNat : Int) = 115 := by
          intro hh
          apply hc
          apply UInt8.toNat_inj.1
          show c.toNat = 115
          omega
        rw [if_neg hcn]
        have hpk : pk (c :: t) = match cut46 (c :: t) with
          | some (a, b) => pkDot a b
          | none => (num (c :: t)).map fun x => ⟨0, x, 0⟩ := by
          unfold pk; rw [if_neg h0, if_neg (by simpa using hc)]; rfl
        have hloop := pick_loop n hn (c :: t) [] n (by simpa using hw2) (by simp) hw
        rw [List.nil_append] at hloop
        have ez : (([] : List UInt8).length : Int) = 0 := rfl
        rw [ez] at hloop
        cases hcut : cut46 (c :: t) with
        | some ab =>
          obtain ⟨a, b⟩ := ab
          rw [hcut] at hloop hpk
          obtain ⟨v, x, d, h1, h2, h3⟩ := hloop
          rw [h1]
          refine ⟨_, v, rfl, fun h => ?_, fun h => ?_⟩
          · rw [hpk]; exact h2 h
          · rw [hpk]; exact h3 h
        | none =>
          rw [hcut] at hloop hpk
          obtain ⟨i, h1⟩ := hloop
          rw [h1]
          simp only [Option.bind_some]
          obtain ⟨x, ok, g1, g2, g3⟩ := number_spec n hn (c :: t)
          rw [g1]
          refine ⟨_, ok, rfl, fun h => ?_, fun h => ?_⟩
          · rw [hpk]; dsimp only; rw [g2 h]; rfl
          · rw [hpk]; dsimp only; rw [g3 h]; rfl

/-! ### a text's picks -/
theorem part_spec (n : Nat) (w : List UInt8) (acc : List GPick) (hw : w.length ≤ 1000000) (ha : acc.length < 20000) :
    match pk w with
    | some p => script_Parse_R6 n (bl w) acc = some (.m (acc ++ [p]) p.kind p.thread p.draw)
    | none => ∃ a b c, script_Parse_R6 n (bl w) acc = some (.r acc a b c) := by
  obtain ⟨x, h1, i1, i2, h2⟩ := script_pick_spec n w hw
  obtain ⟨b, ok, g1, g2, g3⟩ := script_text_spec n x i1 i2
  unfold script_Parse_R6
  rw [h1]
  simp only [Option.bind_some]
  rw [g1]
  simp only [Option.bind_some]
  cases hp : pk w with
  | some p =>
    have := h2 p hp
    subst this
    have ht := txt_pk hp
    cases ok with
    | false => rw [g3 rfl] at ht; cases ht
    | true =>
      obtain ⟨w', rfl, hw'⟩ := g2 rfl
      rw [ht] at hw'
      cases hw'
      simp only [cond_true]
      rw [if_pos trivial, if_neg (by omega), if_pos (by unfold Room; simp; omega)]
  | none =>
    cases ok with
    | false => exact ⟨_, _, _, rfl⟩
    | true =>
      obtain ⟨w', rfl, hw'⟩ := g2 rfl
      simp only [cond_true]
      rw [if_neg]
      · exact ⟨_, _, _, rfl⟩
      · rw [bl_inj]
        rintro rfl
        rw [pk_txt hw'] at hp; cases hp
theorem parts_index (s : List UInt8) : parts s = if Lib.indexByte s 32 < 0 then [s] else s.take (Lib.indexByte s 32).toNat :: parts (s.drop (Lib.indexByte s 32 + 1).toNat) := by
  by_cases h : Lib.indexByte s 32 < 0
  · rw [if_pos h]; exact parts_none (index_neg h)
  · rw [if_neg h]
    obtain ⟨p, q, rfl, hp, hl⟩ := index_split (l := s) (c := 32) (by omega)
    have e1 : ((p.length : Int) + 1).toNat = p.length + 1 := by omega
    rw [hl, e1, Int.toNat_natCast, parts_at hp]
    simp
theorem splitL_end {α O : Type} {c : UInt8} {B : ByteArray → α → Option O} {next : O → Option α} {k : Nat} {s : List UInt8} {a : α} (hs : s.length ≤ 281474976710656) (h : Lib.indexByte s c < 0) : splitL c B next (k + 1) (bl s) a = (B (bl s) a).map fun o => (o, bl s) := by
  rw [splitL, if_pos (by rw [bl_size]; omega), bl_data, if_pos h]
theorem splitL_on {α O : Type} {c : UInt8} {B : ByteArray → α → Option O} {next : O → Option α} {k : Nat} {p q : List UInt8} {a a' : α} {o : O} (hp : ∀ b ∈ p, b ≠ c) (hs : (p ++ c :: q).length ≤ 281474976710656) (hB : B (bl p) a = some o) (hn : next o = some a') : splitL c B next (k + 1) (bl (p ++ c :: q)) a = splitL c B next k (bl q) a' := by
  have e0 : ((p.length : Int) + 0).toNat = p.length := by omega
  have e1 : ((p.length : Int) + 1).toNat = p.length + 1 := by omega
  have ea : ((p ++ c :: q).take p.length).drop 0 = p := by simp
  have eb : ((p ++ c :: q).take (p ++ c :: q).length).drop (p.length + 1) = q := by rw [List.take_length]; simp
  rw [splitL, if_pos (by rw [bl_size]; omega), bl_data, index_at hp, if_neg (by omega), e0, e1, bl_size, bl_ext, bl_ext, ea, eb, hB]
  simp only [Option.bind_some, hn]
theorem splitL_stop {α O : Type} {c : UInt8} {B : ByteArray → α → Option O} {next : O → Option α} {k : Nat} {p q : List UInt8} {a : α} {o : O} (hp : ∀ b ∈ p, b ≠ c) (hs : (p ++ c :: q).length ≤ 281474976710656) (hB : B (bl p) a = some o) (hn : next o = none) : splitL c B next (k + 1) (bl (p ++ c :: q)) a = some (o, bl (p ++ c :: q)) := by
  have e0 : ((p.length : Int) + 0).toNat = p.length := by omega
  have ea : ((p ++ c :: q).take p.length).drop 0 = p := by simp
  rw [splitL, if_pos (by rw [bl_size]; omega), bl_data, index_at hp, if_neg (by omega), e0, bl_ext, ea, hB]
  simp only [Option.bind_some, hn]
theorem split_spec (n : Nat) : ∀ (k : Nat) (s : List UInt8) (acc : List GPick), s.length ≤ 10000 → (parts s).length ≤ k → acc.length + (parts s).length ≤ 19000 →
    match (parts s).mapM pk with
    | some ps => ∃ a b c t, splitL 32 (fun w a => script_Parse_R6 n w a) script_Parse_R6n k (bl s) acc = some (.m (acc ++ ps) a b c, t)
    | none => ∃ l a b c t, splitL 32 (fun w a => script_Parse_R6 n w a) script_Parse_R6n k (bl s) acc = some (.r l a b c, t)
  | 0, s, acc, _, hk, _ => absurd (List.length_eq_zero_iff.1 (Nat.le_zero.1 hk)) (parts_ne s)
  | k + 1, s, acc, hs, hk, ha => by
    have hpos : 0 < (parts s).length := by
      cases hp : parts s with
      | nil => exact absurd hp (parts_ne s)
      | cons _ _ => simp
    by_cases h : Lib.indexByte s 32 < 0
    · rw [splitL_end (by omega) h]
      have hp : parts s = [s] := by rw [parts_index, if_pos h]
      have hpart := part_spec n s acc (by omega) (by omega)
      rw [hp]
      cases hk : pk s with
      | some p =>
        rw [hk] at hpart
        have : ([s] : List (List UInt8)).mapM pk = some [p] := by simp [hk]
        rw [this, hpart]
        exact ⟨_, _, _, _, rfl⟩
      | none =>
        rw [hk] at hpart
        obtain ⟨a, b, c, hpart⟩ := hpart
        have : ([s] : List (List UInt8)).mapM pk = none := by simp [hk]
        rw [this, hpart]
        exact ⟨_, _, _, _, _, rfl⟩
    · obtain ⟨p, q, rfl, hpp, hl⟩ := index_split (l := s) (c := 32) (by omega)
      have hp : parts (p ++ 32 :: q) = p :: parts q := parts_at hpp
      rw [hp] at hk ha ⊢
      simp only [List.length_append, List.length_cons] at hs hk ha
      have hpart := part_spec n p acc (by omega) (by omega)
      cases hpk : pk p with
      | some x =>
        rw [hpk] at hpart
        rw [splitL_on hpp (by simp only [List.length_append, List.length_cons]; omega) hpart rfl]
        have ih := split_spec n k q (acc ++ [x]) (by omega) (by omega) (by simp; omega)
        have hm : (p :: parts q).mapM pk = ((parts q).mapM pk).map (x :: ·) := by
          rw [List.mapM_cons, hpk]
          cases (parts q).mapM pk <;> rfl
        rw [hm]
        cases hq : (parts q).mapM pk with
        | some ps =>
          rw [hq] at ih
          obtain ⟨a, b, c, t, ih⟩ := ih
          refine ⟨a, b, c, t, ?_⟩
          rw [ih]; simp
        | none => rw [hq] at ih; exact ih
      | none =>
        rw [hpk] at hpart
        obtain ⟨a, b, c, hpart⟩ := hpart
        rw [splitL_stop hpp (by simp only [List.length_append, List.length_cons]; omega) hpart rfl]
        have hm : (p :: parts q).mapM pk = none := by rw [List.mapM_cons, hpk]; rfl
        rw [hm]
        exact ⟨_, _, _, _, _, rfl⟩
/-- The picks of a text. -/
def picksOf (s : List UInt8) : Option (List GPick) := if s = [] then some [] else (parts s).mapM pk
theorem parse_spec (n : Nat) (hn : 30000 ≤ n) (s : List UInt8) (hs : s.length ≤ 10000) : ∃ c e, script_Parse n (bl s) = some (c, e) ∧ (∀ ps, picksOf s = some ps → e = 0 ∧ c.l = ps) ∧ (picksOf s = none → e = 2 ∧ c.l = []) := by
  unfold script_Parse
  have e0 : (⟨#[]⟩ : ByteArray) = bl [] := rfl
  rw [e0]
  by_cases h : s = []
  · subst h
    rw [if_pos rfl]
    exact ⟨_, _, rfl, fun ps hp => by cases hp; exact ⟨rfl, rfl⟩, fun hp => by cases hp⟩
  · rw [if_neg (by rw [bl_inj]; exact h)]
    have hss : strings_SplitSeq n (bl s) = some () := rfl
    rw [hss]
    simp only [Option.bind_some]
    have hl := parts_len s
    have hsp := split_spec n n s [] hs (by omega) (by simp; omega)
    have hpo : picksOf s = (parts s).mapM pk := by unfold picksOf; rw [if_neg h]
    unfold script_Parse_R6l
    rw [hpo]
    cases hm : (parts s).mapM pk with
    | some ps =>
      rw [hm] at hsp
      obtain ⟨a, b, c, t, hsp⟩ := hsp
      rw [hsp]
      refine ⟨_, _, rfl, fun ps' hp => ?_, fun hp => by cases hp⟩
      cases hp
      exact ⟨rfl, by simp [Sl.gr]⟩
    | none =>
      rw [hm] at hsp
      obtain ⟨l, a, b, c, t, hsp⟩ := hsp
      rw [hsp]
      exact ⟨_, _, rfl, fun ps' hp => (by cases hp), fun _ => ⟨rfl, rfl⟩⟩
theorem rparse_loop (n : Nat) (hn : 30000 ≤ n) (s : List UInt8) (hs : s.length ≤ 10000) (h0 : s ≠ []) : ∀ (m k : Nat) (acc : List GPick) (fr i : Nat), m = s.length - i → m + 1 < k → fr ≤ i → i ≤ s.length → (∀ c ∈ (s.drop fr).take (i - fr), c ≠ 32) → acc.length + m ≤ 15000 →
    match (parts (s.drop fr)).mapM pk with
    | some ps => ∃ a b, vigilref16_Parse_L4 (bl s) n k acc (fr : Int) (i : Int) = some (.e0 (acc ++ ps) a b)
    | none => ∃ a b c, vigilref16_Parse_L4 (bl s) n k acc (fr : Int) (i : Int) = some (.r a b c)
  | m, 0, acc, fr, i, _, hk, _, _, _, _ => by omega
  | m, k + 1, acc, fr, i, hm, hk, hfi, hi, hd, ha => by
    have e0 : (⟨#[]⟩ : ByteArray) = bl [] := rfl
    have hne : ¬ bl s = (⟨#[]⟩ : ByteArray) := by rw [e0, bl_inj]; exact h0
    rw [vigilref16_Parse_L4, if_pos (by rw [bl_size]; omega), if_neg hne]
    have hext : (bl s).extract ((fr : Nat) : Int).toNat ((i : Nat) : Int).toNat = bl ((s.drop fr).take (i - fr)) := by
      rw [Int.toNat_natCast, Int.toNat_natCast, bl_ext, List.drop_take]
    by_cases hlt : i < s.length
    · rw [if_pos (by rw [bl_size]; omega), bl_byte, List.getElem?_eq_getElem hlt]
      simp only [Option.map_some, Option.bind_some]
      have hsplit : s.drop fr = (s.drop fr).take (i - fr) ++ s[i] :: s.drop (i + 1) := by
        have h1 : (s.drop fr).drop (i - fr) = s.drop i := by rw [List.drop_drop]; congr 1; omega
        have h2 : s.drop i = s[i] :: s.drop (i + 1) := List.drop_eq_getElem_cons hlt
        rw [← h2, ← h1, List.take_append_drop]
      by_cases hc : s[i] = 32
      · rw [if_neg (by rw [hc]; decide), if_pos (by rw [bl_size]; omega), hext]
        rw [hc] at hsplit
        have hp : parts (s.drop fr) = (s.drop fr).take (i - fr) :: parts (s.drop (i + 1)) := by
          conv => lhs; rw [hsplit]
          exact parts_at hd
        rw [hp]
        have hwl : ((s.drop fr).take (i - fr)).length ≤ 10000 := by simp; omega
        obtain ⟨x, ok, h1, h2, h3⟩ := pick_spec n (by omega) ((s.drop fr).take (i - fr)) (by omega) (by omega)
        rw [h1]
        simp only [Option.bind_some]
        cases ok with
        | false =>
          have hmm : ((s.drop fr).take (i - fr) :: parts (s.drop (i + 1))).mapM pk = none := by rw [List.mapM_cons, h3 rfl]; rfl
          rw [hmm]
          exact ⟨_, _, _, rfl⟩
        | true =>
          simp only [cond_true]
          rw [if_neg (by omega), if_pos (by unfold Room; simp; omega), if_pos (by unfold InR; omega)]
          have ih := rparse_loop n hn s hs h0 (m - 1) k (acc ++ [x]) (i + 1) (i + 1) (by omega) (by omega) (by omega) (by omega) (by simp) (by simp; omega)
          have hmm : ((s.drop fr).take (i - fr) :: parts (s.drop (i + 1))).mapM pk = ((parts (s.drop (i + 1))).mapM pk).map (x :: ·) := by
            rw [List.mapM_cons, h2 rfl]
            cases (parts (s.drop (i + 1))).mapM pk <;> rfl
          have ei : ((i : Nat) : Int) + 1 = ((i + 1 : Nat) : Int) := by omega
          rw [hmm, ei]
          cases hq : (parts (s.drop (i + 1))).mapM pk with
          | some ps =>
            rw [hq] at ih
            obtain ⟨a, b, ih⟩ := ih
            exact ⟨a, b, by rw [ih]; simp⟩
          | none => rw [hq] at ih; exact ih
      · have hcn : (s[i].toNat : Int) ≠ 32 := by
          intro hh
          apply hc
          apply UInt8.toNat_inj.1
          show s[i].toNat = 32
          omega
        rw [if_pos hcn, if_pos (by unfold InR; omega)]
        have ei : ((i : Nat) : Int) + 1 = ((i + 1 : Nat) : Int) := by omega
        rw [ei]
        refine rparse_loop n hn s hs h0 (m - 1) k acc fr (i + 1) (by omega) (by omega) (by omega) (by omega) ?_ (by omega)
        have : (s.drop fr).take (i + 1 - fr) = (s.drop fr).take (i - fr) ++ [s[i]] := by
          have e : i + 1 - fr = (i - fr) + 1 := by omega
          rw [e, List.take_add_one]
          congr 1
          rw [List.getElem?_drop]
          have : fr + (i - fr) = i := by omega
          rw [this, List.getElem?_eq_getElem hlt]; rfl
        rw [this]
        intro x hx
        rcases List.mem_append.1 hx with hx | hx
        · exact hd x hx
        · simp only [List.mem_singleton] at hx; subst hx; exact hc
    · have hie : i = s.length := by omega
      rw [if_neg (by rw [bl_size]; omega), if_pos (by rw [bl_size]; omega), hext]
      have htk : (s.drop fr).take (i - fr) = s.drop fr := by rw [hie]; apply List.take_of_length_le; simp
      rw [htk] at hd ⊢
      have hp : parts (s.drop fr) = [s.drop fr] := parts_none hd
      rw [hp]
      obtain ⟨x, ok, h1, h2, h3⟩ := pick_spec n (by omega) (s.drop fr) (by simp; omega) (by simp; omega)
      rw [h1]
      simp only [Option.bind_some]
      cases ok with
      | false =>
        have hmm : ([s.drop fr] : List (List UInt8)).mapM pk = none := by simp [h3 rfl]
        rw [hmm]
        exact ⟨_, _, _, rfl⟩
      | true =>
        have hmm : ([s.drop fr] : List (List UInt8)).mapM pk = some [x] := by simp [h2 rfl]
        rw [hmm]
        simp only [cond_true]
        rw [if_neg (by omega), if_pos (by unfold Room; simp; omega), if_pos (by unfold InR; omega)]
        cases k with
        | zero => omega
        | succ k =>
          rw [vigilref16_Parse_L4, if_neg (by rw [bl_size]; omega)]
          exact ⟨_, _, rfl⟩
theorem rparse_spec (n : Nat) (hn : 30000 ≤ n) (s : List UInt8) (hs : s.length ≤ 10000) : ∃ c e, vigilref16_Parse n (bl s) = some (c, e) ∧ (∀ ps, picksOf s = some ps → e = 0 ∧ c.l = ps) ∧ (picksOf s = none → e = 2 ∧ c.l = []) := by
  unfold vigilref16_Parse
  by_cases h : s = []
  · subst h
    have hl : vigilref16_Parse_L4 (bl []) n n [] 0 0 = some (.e0 [] 0 0) := by
      cases n with
      | zero => omega
      | succ n =>
        rw [vigilref16_Parse_L4, if_pos (by rw [bl_size]; simp), if_pos (show bl [] = (⟨#[]⟩ : ByteArray) from rfl)]
    rw [hl]
    exact ⟨_, _, rfl, fun ps hp => by cases hp; exact ⟨rfl, rfl⟩, fun hp => by cases hp⟩
  · have hpo : picksOf s = (parts s).mapM pk := by unfold picksOf; rw [if_neg h]
    have hloop := rparse_loop n hn s hs h s.length n [] 0 0 (by omega) (by omega) (by omega) (by omega) (by simp) (by simp; omega)
    rw [List.drop_zero] at hloop
    have ez : ((0 : Nat) : Int) = 0 := rfl
    rw [ez] at hloop
    rw [hpo]
    cases hm : (parts s).mapM pk with
    | some ps =>
      rw [hm] at hloop
      obtain ⟨a, b, hloop⟩ := hloop
      rw [hloop]
      refine ⟨_, _, rfl, fun ps' hp => ?_, fun hp => by cases hp⟩
      cases hp
      exact ⟨rfl, by simp [Sl.gr]⟩
    | none =>
      rw [hm] at hloop
      obtain ⟨a, b, c, hloop⟩ := hloop
      rw [hloop]
      exact ⟨_, _, rfl, fun ps' hp => (by cases hp), fun _ => ⟨rfl, rfl⟩⟩
end Go.Proofs.YtilipgopjiokfaaGreatDoor
