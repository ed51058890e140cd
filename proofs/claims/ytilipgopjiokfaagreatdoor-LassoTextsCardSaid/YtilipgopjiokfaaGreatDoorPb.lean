/-
  Part of the proof: printed by the session's own program out of the program's form, or typed; it states no claim by itself.
-/
import Derived.Test.YtilipgopjiokfaaGreatDoorPa
/-
  Picks as a text; the two laws.
-/
set_option linter.unusedVariables false
set_option linter.unusedSimpArgs false
set_option maxRecDepth 10000
namespace Go.Proofs.YtilipgopjiokfaaGreatDoor
open Go Go.Abs Go.Proofs

def Fits (p : GPick) : Prop := InR p.thread ∧ InR p.draw
theorem atI_nat {α : Type} (l : List α) (i : Nat) : atI l (i : Int) = l[i]? := by
  unfold atI; rw [if_pos (by omega), Int.toNat_natCast]
def TextOf (p : GPick) (b : ByteArray) (ok : Bool) : Prop := (ok = true → ∃ w, b = bl w ∧ txt p = some w) ∧ (ok = false → txt p = none)
theorem mapM_cons_txt (p : GPick) (l : List GPick) : (p :: l).mapM txt = (txt p).bind fun w => (l.mapM txt).map (w :: ·) := by
  rw [List.mapM_cons]
  cases txt p with
  | none => rfl
  | some w => cases l.mapM txt <;> rfl
theorem put_loop (n : Nat) (p0 : Sl GPick) (hf : ∀ p ∈ p0.l, Fits p) (hl : p0.l.length ≤ 20000) : ∀ (rest pre : List GPick) (done : List ByteArray) (k : Nat), p0.l = pre ++ rest → done.length = pre.length → rest.length < k →
    match rest.mapM txt with
    | some ts => ∃ i, script_Put_L5 p0 n k (pre.length : Int) (done ++ List.replicate rest.length (⟨#[]⟩ : ByteArray)) = some (.e0 i (done ++ ts.map bl))
    | none => ∃ o a b c, script_Put_L5 p0 n k (pre.length : Int) (done ++ List.replicate rest.length (⟨#[]⟩ : ByteArray)) = some (.r o a b c) := by
  intro rest
  induction rest with
  | nil =>
    intro pre done k he hd hk
    obtain ⟨k, rfl⟩ : ∃ j, k = j + 1 := ⟨k - 1, by omega⟩
    refine ⟨(pre.length : Int), ?_⟩
    rw [script_Put_L5, if_neg (by rw [he]; simp)]
    simp
  | cons p rest IH =>
    intro pre done k he hd hk
    simp only [List.length_cons] at hk
    obtain ⟨k, rfl⟩ : ∃ j, k = j + 1 := ⟨k - 1, by omega⟩
    have hlen : p0.l.length = pre.length + (rest.length + 1) := by rw [he]; simp
    have hg : p0.l[pre.length]? = some p := by rw [he]; simp
    have hp := hf p (by rw [he]; simp)
    obtain ⟨b, ok, h1, h2, h3⟩ := script_text_spec n p hp.1 hp.2
    rw [mapM_cons_txt]
    cases ok with
    | false =>
      have hL : script_Put_L5 p0 n (k + 1) (pre.length : Int) (done ++ List.replicate (p :: rest).length (⟨#[]⟩ : ByteArray)) = some (.r (done ++ List.replicate (p :: rest).length (⟨#[]⟩ : ByteArray)) p.kind p.thread p.draw) := by
        rw [script_Put_L5, if_pos (by omega), atI_nat, hg, Option.bind_some, h1, Option.bind_some]
        rfl
      rw [h3 rfl]
      exact ⟨_, _, _, _, hL⟩
    | true =>
      obtain ⟨w, rfl, hw⟩ := h2 rfl
      have hL : script_Put_L5 p0 n (k + 1) (pre.length : Int) (done ++ List.replicate (p :: rest).length (⟨#[]⟩ : ByteArray)) = script_Put_L5 p0 n k ((pre ++ [p]).length : Int) ((done ++ [bl w]) ++ List.replicate rest.length (⟨#[]⟩ : ByteArray)) := by
        have ho : (done ++ List.replicate (p :: rest).length (⟨#[]⟩ : ByteArray))[pre.length]? = some (⟨#[]⟩ : ByteArray) := by
          rw [← hd]; simp [List.replicate_succ]
        have hs : (done ++ List.replicate (p :: rest).length (⟨#[]⟩ : ByteArray)).set pre.length (bl w) = (done ++ [bl w]) ++ List.replicate rest.length (⟨#[]⟩ : ByteArray) := by
          rw [← hd]; simp [List.replicate_succ]
        have e1 : (pre.length : Int) + 1 = ((pre ++ [p]).length : Int) := by simp
        rw [script_Put_L5, if_pos (by omega), atI_nat, hg, Option.bind_some, h1, Option.bind_some]
        refine (if_pos (by omega)).trans ?_
        rw [atI_nat, ho, Option.bind_some]
        refine (if_pos (by unfold InR; omega)).trans ?_
        rw [Int.toNat_natCast, hs, e1]
      rw [hw, Option.bind_some, hL]
      have ih := IH (pre ++ [p]) (done ++ [bl w]) k (by rw [he]; simp) (by simp [hd]) (by omega)
      cases hm : rest.mapM txt with
      | none => rw [hm] at ih; exact ih
      | some ts =>
        rw [hm] at ih
        obtain ⟨i, ih⟩ := ih
        exact ⟨i, by rw [ih]; simp⟩
theorem join_snoc (w : List UInt8) : ∀ ts : List (List UInt8), Lib.join (ts ++ [w]) [32] = if ts = [] then w else Lib.join ts [32] ++ 32 :: w
  | [] => by rw [if_pos rfl, List.nil_append, Lib.join_one]
  | t :: ts => by
    rw [if_neg (by simp), List.cons_append, Lib.join_cons, Lib.join_cons]
    simp [Lib.joinTail]
theorem join_len : ∀ ts : List (List UInt8), (∀ t ∈ ts, t.length ≤ 13) → (Lib.join ts [32]).length ≤ 14 * ts.length := by
  intro ts
  induction h : ts.length generalizing ts with
  | zero => intro _; have := List.length_eq_zero_iff.1 h; subst this; simp [Lib.join_nil]
  | succ m ih =>
    intro hd
    obtain ⟨l', c, rfl⟩ : ∃ l' c, ts = l' ++ [c] := ⟨ts.dropLast, ts.getLast (by intro hh; subst hh; simp at h), (List.dropLast_concat_getLast _).symm⟩
    have h1 := ih l' (by simpa using h) (fun c hc => hd c (by simp [hc]))
    have h2 := hd c (by simp)
    rw [join_snoc]
    split
    · omega
    · simp only [List.length_append, List.length_cons]; omega
theorem joinB_bl (ts : List (List UInt8)) : joinB (ts.map bl) (⟨#[32]⟩ : ByteArray) = bl (Lib.join ts [32]) := by
  unfold joinB
  have e : (ts.map bl).map (fun b => b.data.toList) = ts := by
    rw [List.map_map]
    conv => rhs; rw [← List.map_id ts]
    exact List.map_congr_left fun a _ => bl_data a
  rw [e]; rfl
theorem mapM_len : ∀ {l : List GPick} {ts : List (List UInt8)}, l.mapM txt = some ts → ts.length = l.length ∧ ∀ t ∈ ts, t.length ≤ 13 ∧ t ≠ [] ∧ ∀ b ∈ t, b ≠ 32
  | [], ts, h => by simp at h; subst h; simp
  | p :: l, ts, h => by
    rw [mapM_cons_txt, Option.bind_eq_some_iff] at h
    obtain ⟨w, hw, h⟩ := h
    rw [Option.map_eq_some_iff] at h
    obtain ⟨us, hu, rfl⟩ := h
    obtain ⟨h1, h2⟩ := mapM_len hu
    refine ⟨by simp [h1], fun t ht => ?_⟩
    rcases List.mem_cons.1 ht with rfl | ht
    · obtain ⟨a, b, c⟩ := txt_bytes hw; exact ⟨c, b, a⟩
    · exact h2 t ht
/-- A list's text, or the error. -/
abbrev PutRes (l : List GPick) (a : ByteArray) (e : Int) : Prop := (∀ ts, l.mapM txt = some ts → e = 0 ∧ a = bl (Lib.join ts [32])) ∧ (l.mapM txt = none → e = 2 ∧ a = bl [])
theorem PutRes.eq {l : List GPick} {a b : ByteArray} {e f : Int} (h : PutRes l a e) (k : PutRes l b f) : a = b ∧ e = f := by
  cases hm : l.mapM txt with
  | none => obtain ⟨h1, h2⟩ := h.2 hm; obtain ⟨k1, k2⟩ := k.2 hm; exact ⟨h2.trans k2.symm, h1.trans k1.symm⟩
  | some ts => obtain ⟨h1, h2⟩ := h.1 ts hm; obtain ⟨k1, k2⟩ := k.1 ts hm; exact ⟨h2.trans k2.symm, h1.trans k1.symm⟩
theorem put_spec (n : Nat) (hn : 30000 ≤ n) (p0 : Sl GPick) (hf : ∀ p ∈ p0.l, Fits p) (hl : p0.l.length ≤ 20000) : ∃ a e, script_Put n p0 = some (a, e) ∧ PutRes p0.l a e := by
  have hloop := put_loop n p0 hf hl p0.l [] [] n rfl rfl (by omega)
  simp only [List.nil_append, List.length_nil] at hloop
  have ez : ((0 : Nat) : Int) = 0 := rfl
  rw [ez] at hloop
  cases hm : p0.l.mapM txt with
  | none =>
    rw [hm] at hloop
    obtain ⟨o, a, b, c, hloop⟩ := hloop
    refine ⟨bl [], 2, ?_, fun ts h => (by rw [hm] at h; cases h), fun _ => ⟨rfl, rfl⟩⟩
    rw [script_Put, if_neg (by omega), if_pos (by unfold Mk; omega), hloop]
    rfl
  | some ts =>
    rw [hm] at hloop
    obtain ⟨i, hloop⟩ := hloop
    obtain ⟨h1, h2⟩ := mapM_len hm
    have hj := join_len ts fun t ht => (h2 t ht).1
    refine ⟨bl (Lib.join ts [32]), 0, ?_, fun ts' h => by rw [hm] at h; cases h; exact ⟨rfl, rfl⟩, fun h => by rw [hm] at h; cases h⟩
    rw [script_Put, if_neg (by omega), if_pos (by unfold Mk; omega), hloop, Option.bind_some]
    refine (if_pos (by simp [h1])).trans ?_
    refine (if_pos (by simp; omega)).trans ?_
    rw [joinB_bl]
    exact if_pos (by rw [bl_size]; omega)
theorem rput_loop (n : Nat) (hn : 30 ≤ n) (p0 : Sl GPick) (hl : p0.l.length ≤ 20000) : ∀ (rest pre : List GPick) (done : List (List UInt8)) (k : Nat), p0.l = pre ++ rest → done.length = pre.length → (∀ t ∈ done, t.length ≤ 13) → rest.length < k →
    match rest.mapM txt with
    | some ts => ∃ i, vigilref16_Put_L5 p0 n k (bl (Lib.join done [32])) (pre.length : Int) = some (.e0 (bl (Lib.join (done ++ ts) [32])) i)
    | none => vigilref16_Put_L5 p0 n k (bl (Lib.join done [32])) (pre.length : Int) = some .r := by
  intro rest
  induction rest with
  | nil =>
    intro pre done k he hd hb hk
    obtain ⟨k, rfl⟩ : ∃ j, k = j + 1 := ⟨k - 1, by omega⟩
    refine ⟨(pre.length : Int), ?_⟩
    rw [vigilref16_Put_L5, if_neg (by rw [he]; simp)]
    simp
  | cons p rest IH =>
    intro pre done k he hd hb hk
    simp only [List.length_cons] at hk
    obtain ⟨k, rfl⟩ : ∃ j, k = j + 1 := ⟨k - 1, by omega⟩
    have hlen : p0.l.length = pre.length + (rest.length + 1) := by rw [he]; simp
    have hg : p0.l[pre.length]? = some p := by rw [he]; simp
    obtain ⟨b, ok, h1, h2, h3⟩ := one_spec n hn p
    rw [mapM_cons_txt]
    cases ok with
    | false =>
      have hL : vigilref16_Put_L5 p0 n (k + 1) (bl (Lib.join done [32])) (pre.length : Int) = some .r := by
        rw [vigilref16_Put_L5, if_pos (by omega), atI_nat, hg, Option.bind_some, h1, Option.bind_some]
        rfl
      rw [h3 rfl]
      exact hL
    | true =>
      obtain ⟨w, rfl, hw⟩ := h2 rfl
      have hwl := (txt_bytes hw).2.2
      have hj := join_len done hb
      have hL : vigilref16_Put_L5 p0 n (k + 1) (bl (Lib.join done [32])) (pre.length : Int) = vigilref16_Put_L5 p0 n k (bl (Lib.join (done ++ [w]) [32])) ((pre ++ [p]).length : Int) := by
        have e1 : (pre.length : Int) + 1 = ((pre ++ [p]).length : Int) := by simp
        have e32 : (⟨#[32]⟩ : ByteArray) = bl [32] := rfl
        rw [vigilref16_Put_L5, if_pos (by omega), atI_nat, hg, Option.bind_some, h1, Option.bind_some, e32]
        by_cases h0 : (pre.length : Int) > 0
        · refine (if_pos h0).trans ?_
          rw [bl_app, bl_app]
          refine (if_pos (by rw [bl_size]; simp only [List.length_append, List.length_singleton]; omega)).trans ?_
          refine (if_pos (by rw [bl_size]; simp only [List.length_append, List.length_singleton]; omega)).trans ?_
          refine (if_pos (by unfold InR; omega)).trans ?_
          rw [join_snoc, if_neg (by intro hh; subst hh; simp at hd; omega), e1]
          simp
        · refine (if_neg h0).trans ?_
          rw [bl_app]
          refine (if_pos (by rw [bl_size]; simp only [List.length_append]; omega)).trans ?_
          refine (if_pos (by unfold InR; omega)).trans ?_
          have hdn : done = [] := List.length_eq_zero_iff.1 (by omega)
          subst hdn
          rw [e1]
          simp [Lib.join_nil, Lib.join_one]
      rw [hw, Option.bind_some, hL]
      have ih := IH (pre ++ [p]) (done ++ [w]) k (by rw [he]; simp) (by simp [hd]) (by
        intro t ht
        rcases List.mem_append.1 ht with ht | ht
        · exact hb t ht
        · simp only [List.mem_singleton] at ht; subst ht; exact hwl) (by omega)
      cases hm : rest.mapM txt with
      | none => rw [hm] at ih; exact ih
      | some ts =>
        rw [hm] at ih
        obtain ⟨i, ih⟩ := ih
        exact ⟨i, by rw [ih]; simp⟩
theorem rput_spec (n : Nat) (hn : 30000 ≤ n) (p0 : Sl GPick) (hl : p0.l.length ≤ 20000) : ∃ a e, vigilref16_Put n p0 = some (a, e) ∧ PutRes p0.l a e := by
  have hloop := rput_loop n (by omega) p0 hl p0.l [] [] n rfl rfl (by simp) (by omega)
  simp only [List.nil_append, List.length_nil] at hloop
  have ez : ((0 : Nat) : Int) = 0 := rfl
  have ej : bl (Lib.join [] [32]) = (⟨#[]⟩ : ByteArray) := rfl
  rw [ez, ej] at hloop
  cases hm : p0.l.mapM txt with
  | none =>
    rw [hm] at hloop
    refine ⟨bl [], 2, ?_, fun ts h => (by rw [hm] at h; cases h), fun _ => ⟨rfl, rfl⟩⟩
    rw [vigilref16_Put, if_neg (by omega), hloop]
    rfl
  | some ts =>
    rw [hm] at hloop
    obtain ⟨i, hloop⟩ := hloop
    refine ⟨bl (Lib.join ts [32]), 0, ?_, fun ts' h => by rw [hm] at h; cases h; exact ⟨rfl, rfl⟩, fun h => by rw [hm] at h; cases h⟩
    rw [vigilref16_Put, if_neg (by omega), hloop]
    rfl
theorem same_loop (n : Nat) (a b : Sl GPick) (h : a.l = b.l) (hl : a.l.length ≤ 1000000) : ∀ (m i k : Nat), m = a.l.length - i → i ≤ a.l.length → m < k → vigilref15_SamePicks_L4 a b n k (i : Int) = some (.e0 (a.l.length : Int))
  | m, i, 0, _, _, hk => by omega
  | m, i, k + 1, hm, hi, hk => by
    by_cases hlt : i < a.l.length
    · have h1 : a.l[i]? = some a.l[i] := List.getElem?_eq_getElem hlt
      have h2 : b.l[i]? = some a.l[i] := by rw [← h]; exact h1
      have e1 : (i : Int) + 1 = ((i + 1 : Nat) : Int) := by omega
      rw [vigilref15_SamePicks_L4, if_pos (by omega), atI_nat, h1, Option.bind_some, atI_nat, h2, Option.bind_some]
      refine (if_pos rfl).trans ?_
      refine (if_pos (by unfold InR; omega)).trans ?_
      rw [e1]
      exact same_loop n a b h hl (m - 1) (i + 1) k (by omega) (by omega) (by omega)
    · rw [vigilref15_SamePicks_L4, if_neg (by omega)]
      have : i = a.l.length := by omega
      rw [this]
theorem same_spec (n : Nat) (hn : 30000 ≤ n) (a b : Sl GPick) (h : a.l = b.l) (hl : a.l.length ≤ 20000) : vigilref15_SamePicks n a b = some true := by
  have hloop := same_loop n a b h (by omega) a.l.length 0 n (by omega) (by omega) (by omega)
  have ez : ((0 : Nat) : Int) = 0 := rfl
  rw [ez] at hloop
  rw [vigilref15_SamePicks, if_neg (by rw [h]; simp), hloop]
  rfl
/-! ### the laws -/
theorem mapM_pk_len : ∀ {l : List (List UInt8)} {ps : List GPick}, l.mapM pk = some ps → ps.length = l.length ∧ ps.mapM txt = some l
  | [], ps, h => by simp at h; subst h; simp
  | w :: l, ps, h => by
    have hc : (w :: l).mapM pk = (pk w).bind fun p => (l.mapM pk).map (p :: ·) := by
      rw [List.mapM_cons]
      cases pk w with
      | none => rfl
      | some w => cases l.mapM pk <;> rfl
    rw [hc, Option.bind_eq_some_iff] at h
    obtain ⟨p, hp, h⟩ := h
    rw [Option.map_eq_some_iff] at h
    obtain ⟨us, hu, rfl⟩ := h
    obtain ⟨h1, h2⟩ := mapM_pk_len hu
    refine ⟨by simp [h1], ?_⟩
    rw [mapM_cons_txt, txt_pk hp, Option.bind_some, h2]; rfl
theorem mapM_txt_pk : ∀ {l : List GPick} {ts : List (List UInt8)}, l.mapM txt = some ts → ts.mapM pk = some l
  | [], ts, h => by simp at h; subst h; simp
  | p :: l, ts, h => by
    rw [mapM_cons_txt, Option.bind_eq_some_iff] at h
    obtain ⟨w, hw, h⟩ := h
    rw [Option.map_eq_some_iff] at h
    obtain ⟨us, hu, rfl⟩ := h
    rw [List.mapM_cons, pk_txt hw, mapM_txt_pk hu]; rfl
theorem picksOf_fits {s : List UInt8} {ps : List GPick} (h : picksOf s = some ps) : (∀ p ∈ ps, Fits p) ∧ ps.length ≤ s.length + 1 ∧ ∃ ts, ps.mapM txt = some ts ∧ Lib.join ts [32] = s := by
  have ht : ∀ {ps : List GPick} {ts : List (List UInt8)}, ps.mapM txt = some ts → ∀ p ∈ ps, Fits p := by
    intro ps
    induction ps with
    | nil => intro ts _ p hp; cases hp
    | cons q ps ih =>
      intro ts h p hp
      rw [mapM_cons_txt, Option.bind_eq_some_iff] at h
      obtain ⟨w, hw, h⟩ := h
      rw [Option.map_eq_some_iff] at h
      obtain ⟨us, hu, rfl⟩ := h
      rcases List.mem_cons.1 hp with rfl | hp
      · unfold txt at hw
        split at hw
        · cases hw
        · rename_i hb
          unfold Fits InR
          omega
      · exact ih hu p hp
  unfold picksOf at h
  split at h
  · rename_i hs
    cases h; subst hs
    exact ⟨fun p hp => (by cases hp), by simp, [], rfl, rfl⟩
  · obtain ⟨h1, h2⟩ := mapM_pk_len h
    have := parts_len s
    exact ⟨ht h2, by omega, _, h2, join_parts s⟩
theorem picksOf_join {l : List GPick} {ts : List (List UInt8)} (h : l.mapM txt = some ts) : picksOf (Lib.join ts [32]) = some l := by
  obtain ⟨h1, h2⟩ := mapM_len h
  have h3 := mapM_txt_pk h
  cases ts with
  | nil => simp at h3; subst h3; rfl
  | cons t ts =>
    have ht := h2 t (by simp)
    have hne : Lib.join (t :: ts) [32] ≠ [] := by
      rw [Lib.join_cons]
      intro hh
      exact ht.2.1 (List.append_eq_nil_iff.1 hh).1
    unfold picksOf
    rw [if_neg hne, parts_join fun q hq => (h2 q hq).2.2]
    exact h3
end Go.Proofs.YtilipgopjiokfaaGreatDoor

/-
  All numbers as texts: what the document's functions come to.
-/
set_option linter.unusedVariables false
set_option linter.unusedSimpArgs false
namespace Go.Proofs.YtilipgopjiokfaaGreatDoor
open Go Go.Abs Go.Proofs

theorem digits_pos (p0 : Int) (n : Nat) : ∀ (j k : Nat) (v : List UInt8) (u : Nat), u < 10 ^ j → j < k → u ≤ 9223372036854775807 → v.length + j ≤ 1000 → vigilref03_Digits_L6 p0 n k (bl v) (u : Int) = some (.e0 (bl ((if u = 0 then [] else dec u) ++ v)) 0)
  | j, 0, v, u, h, hk, _, _ => by omega
  | j, k + 1, v, u, h, hk, hu, hv => by
    unfold vigilref03_Digits_L6
    by_cases h0 : u = 0
    · subst h0; rw [if_neg (by simp)]; simp
    · rw [if_pos (by omega)]
      have em : Int.tmod (u : Int) 10 = ((u % 10 : Nat) : Int) := by rw [Int.tmod_eq_emod_of_nonneg (by omega)]; omega
      have ed : Int.tdiv (u : Int) 10 = ((u / 10 : Nat) : Int) := by rw [Int.tdiv_eq_ediv_of_nonneg (by omega)]; omega
      have ew : Go.IntKind.i64.wrap ((u / 10 : Nat) : Int) = ((u / 10 : Nat) : Int) := wrap_in (by unfold InR; omega)
      have edg : (⟨#[48, 49, 50, 51, 52, 53, 54, 55, 56, 57]⟩ : ByteArray) = bl [48, 49, 50, 51, 52, 53, 54, 55, 56, 57] := rfl
      rw [em, ed, ew, edg, if_neg (by omega), if_pos (by unfold InR; omega)]
      have e1 : (((u % 10 : Nat) : Int)).toNat = u % 10 := by omega
      have e2 : (((u % 10 : Nat) : Int) + 1).toNat = u % 10 + 1 := by omega
      rw [e1, e2, digits10 _ (by omega), bl_app, if_pos (by rw [bl_size]; simp only [List.length_cons, List.length_nil]; omega), if_pos (by rw [bl_size]; simp only [List.length_append, List.length_cons, List.length_nil]; omega)]
      cases j with
      | zero => simp at h; omega
      | succ j =>
        rw [Nat.pow_succ] at h
        rw [digits_pos p0 n j k _ (u / 10) (by omega) (by omega) (by omega) (by simp only [List.length_append, List.length_cons, List.length_nil]; omega), if_neg h0]
        by_cases hs : u < 10
        · rw [if_pos (by omega), dec_small hs, Nat.mod_eq_of_lt hs]; simp
        · rw [if_neg (by omega), dec_big hs]; simp
theorem digits_neg (p0 : Int) (n : Nat) : ∀ (j k : Nat) (v : List UInt8) (u : Nat), u < 10 ^ j → j < k → u ≤ 9223372036854775808 → v.length + j ≤ 1000 → vigilref03_Digits_L6 p0 n k (bl v) (-(u : Int)) = some (.e0 (bl ((if u = 0 then [] else dec u) ++ v)) 0)
  | j, 0, v, u, h, hk, _, _ => by omega
  | j, k + 1, v, u, h, hk, hu, hv => by
    unfold vigilref03_Digits_L6
    by_cases h0 : u = 0
    · subst h0; rw [if_neg (by simp)]; simp
    · rw [if_pos (by omega)]
      have em : Int.tmod (-(u : Int)) 10 = -((u % 10 : Nat) : Int) := by rw [Int.neg_tmod, Int.tmod_eq_emod_of_nonneg (by omega)]; omega
      have ed : Int.tdiv (-(u : Int)) 10 = -((u / 10 : Nat) : Int) := by rw [Int.neg_tdiv, Int.tdiv_eq_ediv_of_nonneg (by omega)]; omega
      have ew : Go.IntKind.i64.wrap (-((u / 10 : Nat) : Int)) = -((u / 10 : Nat) : Int) := wrap_in (by unfold InR; omega)
      have edg : (⟨#[48, 49, 50, 51, 52, 53, 54, 55, 56, 57]⟩ : ByteArray) = bl [48, 49, 50, 51, 52, 53, 54, 55, 56, 57] := rfl
      have hnext : ∀ j', j = j' + 1 → vigilref03_Digits_L6 p0 n k (bl ([UInt8.ofNat (48 + u % 10)] ++ v)) (-((u / 10 : Nat) : Int)) = some (.e0 (bl ((if u = 0 then [] else dec u) ++ v)) 0) := by
        rintro j' rfl
        rw [Nat.pow_succ] at h
        rw [digits_neg p0 n j' k _ (u / 10) (by omega) (by omega) (by omega) (by simp only [List.length_append, List.length_cons, List.length_nil]; omega), if_neg h0]
        by_cases hs : u < 10
        · rw [if_pos (by omega), dec_small hs, Nat.mod_eq_of_lt hs]; simp
        · rw [if_neg (by omega), dec_big hs]; simp
      have hj : ∃ j', j = j' + 1 := by
        cases j with
        | zero => simp at h; omega
        | succ j' => exact ⟨j', rfl⟩
      obtain ⟨j', hj⟩ := hj
      rw [em, ed, ew, edg]
      by_cases hm : u % 10 = 0
      · rw [if_neg (by omega)]
        have e0 : -((u % 10 : Nat) : Int) = 0 := by omega
        rw [e0, if_pos (by unfold InR; omega)]
        have e1 : ((0 : Int)).toNat = 0 := rfl
        have e2 : ((0 : Int) + 1).toNat = 0 + 1 := rfl
        rw [e1, e2, digits10 _ (by omega), bl_app, if_pos (by rw [bl_size]; simp only [List.length_cons, List.length_nil]; omega), if_pos (by rw [bl_size]; simp only [List.length_append, List.length_cons, List.length_nil]; omega)]
        have := hnext j' hj
        rw [hm] at this
        exact this
      · rw [if_pos (by omega)]
        have e0 : (0 - -((u % 10 : Nat) : Int)) = ((u % 10 : Nat) : Int) := by omega
        rw [e0, if_pos (by unfold InR; omega), if_pos (by unfold InR; omega)]
        have e1 : (((u % 10 : Nat) : Int)).toNat = u % 10 := by omega
        have e2 : (((u % 10 : Nat) : Int) + 1).toNat = u % 10 + 1 := by omega
        rw [e1, e2, digits10 _ (by omega), bl_app, if_pos (by rw [bl_size]; simp only [List.length_cons, List.length_nil]; omega), if_pos (by rw [bl_size]; simp only [List.length_append, List.length_cons, List.length_nil]; omega)]
        exact hnext j' hj
theorem digits_all (n : Nat) (hn : 30 ≤ n) {x : Int} (h : InR x) : vigilref03_Digits n x = some (bl (iL x)) := by
  have hx : -9223372036854775808 ≤ x ∧ x ≤ 9223372036854775807 := h
  unfold vigilref03_Digits
  have e : (⟨#[]⟩ : ByteArray) = bl [] := rfl
  by_cases h0 : x = 0
  · subst h0
    rw [if_pos rfl]
    show some (bl [48]) = some (bl (dec 0))
    rw [dec_small (by omega)]; rfl
  · rw [if_neg h0, e]
    by_cases hs : x < 0
    · have := digits_neg x n 19 n [] x.natAbs (by omega) (by omega) (by omega) (by simp)
      have ex : -((x.natAbs : Nat) : Int) = x := by omega
      rw [ex] at this
      rw [this]
      simp only [Option.bind_some]
      have hl : (iL x).length ≤ 20 := iL_len h
      have e45 : (⟨#[45]⟩ : ByteArray) = bl [45] := rfl
      rw [if_pos hs, if_neg (show ¬ x.natAbs = 0 by omega), e45, bl_app]
      have ei : [45] ++ (dec x.natAbs ++ []) = iL x := by unfold iL; rw [if_pos hs]; simp
      rw [ei, if_pos (by rw [bl_size]; omega)]
    · have := digits_pos x n 19 n [] x.toNat (by omega) (by omega) (by omega) (by simp)
      have ex : ((x.toNat : Nat) : Int) = x := by omega
      rw [ex] at this
      rw [this]
      simp only [Option.bind_some]
      have ei : dec x.toNat ++ [] = iL x := by unfold iL; rw [if_neg hs]; simp
      rw [if_neg hs, if_neg (show ¬ x.toNat = 0 by omega), ei]

/-! ### a number of a word -/
theorem wrap64 {x : Int} (h : 0 ≤ x) (h2 : x ≤ 18446744073709551615) : Go.IntKind.u64.wrap x = x := by
  rw [IntKind.wrap_u64]; omega
theorem acc_step {v c : Nat} (hv : v < 1000000000000000000) (h1 : 48 ≤ c) (h2 : c ≤ 57) : Go.IntKind.u64.wrap ((Go.IntKind.u64.wrap (10 * (v : Int))) + (Go.IntKind.u64.wrap (Go.IntKind.u8.wrap ((c : Int) - 48)))) = ((v * 10 + (c - 48) : Nat) : Int) := by
  rw [IntKind.wrap_u64, IntKind.wrap_u64, IntKind.wrap_u64, IntKind.wrap_u8]; omega
theorem pow18 {k : Nat} (h : k ≤ 18) : 10 ^ k ≤ 1000000000000000000 := Nat.le_trans (Nat.pow_le_pow_right (by omega) h) (by decide)
theorem num14_loop2 (n : Nat) : ∀ (rest done : List UInt8) (k : Nat), done.length + rest.length ≤ 19 → (∀ c ∈ done, isDig c) → rest.length < k →
    vigilref14_Number_L9_2 (bl (done ++ rest)) n k (valL done : Int) (done.length : Int) = (if ∀ c ∈ rest, isDig c then some (.e0 (valL (done ++ rest) : Int) ((done ++ rest).length : Int)) else some .r)
  | rest, done, 0, _, _, h => by omega
  | [], done, k + 1, hl, hd, _ => by
    unfold vigilref14_Number_L9_2
    rw [if_neg (by rw [bl_size]; simp), if_pos (by simp)]
    simp
  | c :: rest, done, k + 1, hl, hd, hk => by
    unfold vigilref14_Number_L9_2
    simp only [List.length_cons] at hl hk
    rw [if_pos (by rw [bl_size]; simp only [List.length_append, List.length_cons]; omega), bl_byte]
    have hg : (done ++ c :: rest)[done.length]? = some c := by simp
    rw [hg, Option.map_some, Option.bind_some]
    by_cases h1 : (c.toNat : Int) < 48
    · rw [if_pos h1, if_neg]
      intro hh; have := hh c (by simp); unfold isDig at this; omega
    · rw [if_neg h1, Option.bind_some]
      by_cases h2 : (c.toNat : Int) > 57
      · rw [if_pos h2, if_neg]
        intro hh; have := hh c (by simp); unfold isDig at this; omega
      · rw [if_neg h2, Option.bind_some]
        have hv := valL_lt done hd
        have hp := pow18 (k := done.length) (by omega)
        have hv : valL done < 1000000000000000000 := Nat.lt_of_lt_of_le hv hp
        clear hp
        rw [acc_step hv (by omega) (by omega), if_pos (by unfold InR; omega), ← valL_snoc]
        have hdc : isDig c := by unfold isDig; omega
        have e2 : (done.length : Int) + 1 = ((done ++ [c]).length : Int) := by simp
        have e3 : done ++ c :: rest = (done ++ [c]) ++ rest := by simp
        rw [e2, e3, num14_loop2 n rest (done ++ [c]) k (by simp; omega) (by
          intro x hx
          rcases List.mem_append.1 hx with hx | hx
          · exact hd x hx
          · simp only [List.mem_singleton] at hx; subst hx; exact hdc) (by omega)]
        by_cases hr : ∀ c ∈ rest, isDig c
        · rw [if_pos hr, if_pos]
          intro x hx
          rcases List.mem_cons.1 hx with rfl | hx
          · exact hdc
          · exact hr x hx
        · rw [if_neg hr, if_neg fun hh => hr fun x hx => hh x (by simp [hx])]
theorem num14_loop1 (n : Nat) (p0 : ByteArray) (w : List UInt8) (hw : p0.extract (1 : Int).toNat p0.size = bl w) : ∀ (rest done : List UInt8) (k : Nat), w = done ++ rest → done.length + rest.length ≤ 19 → (∀ c ∈ done, isDig c) → rest.length < k →
    vigilref14_Number_L9 p0 n k (valL done : Int) (done.length : Int) = (if ∀ c ∈ rest, isDig c then some (.e0 (valL (done ++ rest) : Int) ((done ++ rest).length : Int)) else some .r)
  | rest, done, 0, _, _, _, h => by omega
  | [], done, k + 1, hww, hl, hd, _ => by
    unfold vigilref14_Number_L9
    rw [hw, hww]
    rw [if_neg (by rw [bl_size]; simp), if_pos (by simp)]
    simp
  | c :: rest, done, k + 1, hww, hl, hd, hk => by
    unfold vigilref14_Number_L9
    simp only [List.length_cons] at hl hk
    rw [hw, hww]
    rw [if_pos (by rw [bl_size]; simp only [List.length_append, List.length_cons]; omega), bl_byte]
    have hg : (done ++ c :: rest)[done.length]? = some c := by simp
    rw [hg, Option.map_some, Option.bind_some]
    by_cases h1 : (c.toNat : Int) < 48
    · rw [if_pos h1, if_neg]
      intro hh; have := hh c (by simp); unfold isDig at this; omega
    · rw [if_neg h1, Option.bind_some]
      by_cases h2 : (c.toNat : Int) > 57
      · rw [if_pos h2, if_neg]
        intro hh; have := hh c (by simp); unfold isDig at this; omega
      · rw [if_neg h2, Option.bind_some]
        have hv := valL_lt done hd
        have hp := pow18 (k := done.length) (by omega)
        have hv : valL done < 1000000000000000000 := Nat.lt_of_lt_of_le hv hp
        clear hp
        rw [acc_step hv (by omega) (by omega), if_pos (by unfold InR; omega), ← valL_snoc]
        have hdc : isDig c := by unfold isDig; omega
        have e2 : (done.length : Int) + 1 = ((done ++ [c]).length : Int) := by simp
        have e3 : done ++ c :: rest = (done ++ [c]) ++ rest := by simp
        rw [e2, num14_loop1 n p0 w hw rest (done ++ [c]) k (by rw [hww, e3]) (by simp; omega) (by
          intro x hx
          rcases List.mem_append.1 hx with hx | hx
          · exact hd x hx
          · simp only [List.mem_singleton] at hx; subst hx; exact hdc) (by omega)]
        rw [e3]
        by_cases hr : ∀ c ∈ rest, isDig c
        · rw [if_pos hr, if_pos]
          intro x hx
          rcases List.mem_cons.1 hx with rfl | hx
          · exact hdc
          · exact hr x hx
        · rw [if_neg hr, if_neg fun hh => hr fun x hx => hh x (by simp [hx])]
theorem i64_InR (u : Int) : InR (Go.IntKind.i64.wrap u) := by
  rw [IntKind.wrap_i64]; unfold InR; omega
/-- A number of a word: it is one just if the word is its text. -/
theorem num14_spec (n : Nat) (hn : 30 ≤ n) (w : List UInt8) (hw : w.length ≤ 1000000) : ∃ x ok, vigilref14_Number n (bl w) = some (x, ok) ∧ (ok = true → InR x ∧ w = iL x) ∧ (ok = false → ∀ m, InR m → w ≠ iL m) := by
  unfold vigilref14_Number
  have e0 : (⟨#[]⟩ : ByteArray) = bl [] := rfl
  cases w with
  | nil =>
    rw [if_neg (by rw [bl_size]; simp), e0, if_pos rfl]
    exact ⟨_, false, rfl, by simp, fun _ m _ hm => iL_ne m hm.symm⟩
  | cons c t =>
    rw [if_pos (by rw [bl_size]; simp only [List.length_cons]; omega)]
    have eb : byteI (bl (c :: t)) 0 = some (c.toNat : Int) := by
      have := bl_byte (c :: t) 0
      simpa using this
    rw [eb, Option.bind_some]
    by_cases hc : (c.toNat : Int) = 45
    · rw [if_pos hc]
      have hc' : c = 45 := UInt8.toNat_inj.1 (by have : c.toNat = 45 := by omega
                                                 rw [this]; rfl)
      subst hc'
      have ex : (bl ((45 : UInt8) :: t)).extract (1 : Int).toNat (bl ((45 : UInt8) :: t)).size = bl t := by
        rw [bl_ext, bl_size, bl_inj]; simp
      rw [if_pos (by rw [bl_size]; simp only [List.length_cons]; omega), ex, e0]
      have neg : ∀ m, (45 : UInt8) :: t = iL m → InR m → m < 0 ∧ t = dec m.natAbs := fun m hm hR => by
        unfold iL at hm
        split at hm
        · rename_i h; injection hm with _ hm; exact ⟨h, hm⟩
        · exfalso
          have := dec_dig m.toNat 45 (by rw [← hm]; simp)
          have e : (45 : UInt8).toNat = 45 := rfl
          omega
      by_cases ht : t = []
      · subst ht
        rw [if_pos rfl]
        refine ⟨_, false, rfl, by simp, fun _ m hR hm => ?_⟩
        exact dec_ne _ (neg m hm hR).2.symm
      · rw [if_neg (by rw [bl_inj]; exact ht)]
        by_cases hl : ((bl t).size : Int) > 19
        · rw [if_pos hl]
          refine ⟨_, false, rfl, by simp, fun _ m hR hm => ?_⟩
          have h1 := (neg m hm hR).2
          have hx : -9223372036854775808 ≤ m ∧ m ≤ 9223372036854775807 := hR
          have := dec_len 19 m.natAbs (by omega) (by omega)
          rw [← h1] at this
          rw [bl_size] at hl; omega
        · rw [if_neg hl]
          rw [bl_size] at hl
          have hloop := num14_loop1 n (bl ((45 : UInt8) :: t)) t ex t [] n rfl (by simp; omega) (by simp) (by omega)
          simp only [List.nil_append, List.length_nil] at hloop
          have ez : ((valL [] : Nat) : Int) = 0 := rfl
          have ez2 : ((0 : Nat) : Int) = 0 := rfl
          rw [ez, ez2] at hloop
          rw [hloop]
          by_cases hd : ∀ c ∈ t, isDig c
          · rw [if_pos hd]
            simp only [Option.bind_some]
            have hR := i64_InR (0 - Go.IntKind.i64.wrap (valL t : Int))
            rw [digits_all n hn hR]
            simp only [Option.bind_some]
            by_cases he : iL (Go.IntKind.i64.wrap (0 - Go.IntKind.i64.wrap (valL t : Int))) = 45 :: t
            · rw [if_pos (by rw [bl_inj]; exact he)]
              exact ⟨_, true, rfl, fun _ => ⟨hR, he.symm⟩, by simp⟩
            · rw [if_neg (by rw [bl_inj]; exact he)]
              refine ⟨_, false, rfl, by simp, fun _ m hRm hm => he ?_⟩
              obtain ⟨h1, h2⟩ := neg m hm hRm
              have hx : -9223372036854775808 ≤ m ∧ m ≤ 9223372036854775807 := hRm
              have hval : valL t = m.natAbs := by rw [h2, valL_dec]
              have : Go.IntKind.i64.wrap (0 - Go.IntKind.i64.wrap (valL t : Int)) = m := by
                rw [hval, IntKind.wrap_i64, IntKind.wrap_i64]; omega
              rw [this, hm]
          · rw [if_neg hd]
            refine ⟨_, false, rfl, by simp, fun _ m hRm hm => hd ?_⟩
            obtain ⟨h1, h2⟩ := neg m hm hRm
            rw [h2]; exact dec_dig _
    · rw [if_neg hc, e0, if_neg (by rw [bl_inj]; simp)]
      have pos : ∀ m, c :: t = iL m → InR m → 0 ≤ m ∧ c :: t = dec m.toNat := fun m hm hR => by
        unfold iL at hm
        split at hm
        · injection hm with hm _; subst hm; exact absurd rfl hc
        · rename_i h; exact ⟨by omega, hm⟩
      by_cases hl : ((bl (c :: t)).size : Int) > 19
      · rw [if_pos hl]
        refine ⟨_, false, rfl, by simp, fun _ m hR hm => ?_⟩
        have h1 := (pos m hm hR).2
        have hx : -9223372036854775808 ≤ m ∧ m ≤ 9223372036854775807 := hR
        have := dec_len 19 m.toNat (by omega) (by omega)
        rw [← h1] at this
        rw [bl_size] at hl; omega
      · rw [if_neg hl]
        rw [bl_size] at hl
        have hloop := num14_loop2 n (c :: t) [] n (by simp only [List.length_nil]; omega) (by simp) (by omega)
        simp only [List.nil_append, List.length_nil] at hloop
        have ez : ((valL [] : Nat) : Int) = 0 := rfl
        have ez2 : ((0 : Nat) : Int) = 0 := rfl
        rw [ez, ez2] at hloop
        rw [hloop]
        by_cases hd : ∀ x ∈ c :: t, isDig x
        · rw [if_pos hd]
          simp only [Option.bind_some]
          have hR := i64_InR (valL (c :: t) : Int)
          rw [digits_all n hn hR]
          simp only [Option.bind_some]
          by_cases he : iL (Go.IntKind.i64.wrap (valL (c :: t) : Int)) = c :: t
          · rw [if_pos (by rw [bl_inj]; exact he)]
            exact ⟨_, true, rfl, fun _ => ⟨hR, he.symm⟩, by simp⟩
          · rw [if_neg (by rw [bl_inj]; exact he)]
            refine ⟨_, false, rfl, by simp, fun _ m hRm hm => he ?_⟩
            obtain ⟨h1, h2⟩ := pos m hm hRm
            have hx : -9223372036854775808 ≤ m ∧ m ≤ 9223372036854775807 := hRm
            have hval : valL (c :: t) = m.toNat := by rw [h2, valL_dec]
            have : Go.IntKind.i64.wrap (valL (c :: t) : Int) = m := by
              rw [hval, IntKind.wrap_i64]; omega
            rw [this, hm]
        · rw [if_neg hd]
          refine ⟨_, false, rfl, by simp, fun _ m hRm hm => hd ?_⟩
          obtain ⟨h1, h2⟩ := pos m hm hRm
          rw [h2]; exact dec_dig _
end Go.Proofs.YtilipgopjiokfaaGreatDoor

/-
  Texts of lassos: what is one's text; what puts it.
-/
set_option linter.unusedVariables false
set_option linter.unusedSimpArgs false
namespace Go.Proofs.YtilipgopjiokfaaGreatDoor
open Go Go.Abs Go.Proofs

def sepL : List UInt8 := [32, 124, 32]
def cat3 (A B D : List UInt8) : List UInt8 := A ++ (sepL ++ (B ++ (sepL ++ D)))
/-- A lasso's text. -/
def lasT (l : GLasso) : Option (List UInt8) :=
  match l.stem.l.mapM txt, l.loop.l.mapM txt with
  | some a, some b => if 0 ≤ l.thread ∧ l.thread ≤ 999999 then some (cat3 (Lib.join a [32]) (Lib.join b [32]) (dec l.thread.toNat)) else none
  | _, _ => none
theorem lasT_n1 {l : GLasso} (h : l.stem.l.mapM txt = none) : lasT l = none := by unfold lasT; rw [h]
theorem lasT_n2 {l : GLasso} (h : l.loop.l.mapM txt = none) : lasT l = none := by unfold lasT; rw [h]; cases l.stem.l.mapM txt <;> rfl
theorem lasT_n3 {l : GLasso} (h : l.thread < 0 ∨ l.thread > 999999) : lasT l = none := by
  unfold lasT
  split
  · rw [if_neg (by omega)]
  · rfl
theorem lasT_s {l : GLasso} {a b : List (List UInt8)} (h1 : l.stem.l.mapM txt = some a) (h2 : l.loop.l.mapM txt = some b) (h3 : 0 ≤ l.thread) (h4 : l.thread ≤ 999999) : lasT l = some (cat3 (Lib.join a [32]) (Lib.join b [32]) (dec l.thread.toNat)) := by
  unfold lasT; rw [h1, h2]; simp only; rw [if_pos ⟨h3, h4⟩]
theorem lasT_inv {l : GLasso} {s : List UInt8} (h : lasT l = some s) : ∃ a b, l.stem.l.mapM txt = some a ∧ l.loop.l.mapM txt = some b ∧ 0 ≤ l.thread ∧ l.thread ≤ 999999 ∧ s = cat3 (Lib.join a [32]) (Lib.join b [32]) (dec l.thread.toNat) := by
  unfold lasT at h
  split at h
  · rename_i a b h1 h2
    split at h
    · rename_i h3; cases h; exact ⟨a, b, h1, h2, h3.1, h3.2, rfl⟩
    · cases h
  · cases h
abbrev LasRes (l : GLasso) (a : ByteArray) (e : Int) : Prop := (∀ t, lasT l = some t → e = 0 ∧ a = bl t) ∧ (lasT l = none → e = 2 ∧ a = bl [])
theorem LasRes.eq {l : GLasso} {a b : ByteArray} {e f : Int} (h : LasRes l a e) (k : LasRes l b f) : a = b ∧ e = f := by
  cases hm : lasT l with
  | none => obtain ⟨h1, h2⟩ := h.2 hm; obtain ⟨k1, k2⟩ := k.2 hm; exact ⟨h2.trans k2.symm, h1.trans k1.symm⟩
  | some ts => obtain ⟨h1, h2⟩ := h.1 ts hm; obtain ⟨k1, k2⟩ := k.1 ts hm; exact ⟨h2.trans k2.symm, h1.trans k1.symm⟩
theorem LasRes.no {l : GLasso} (h : lasT l = none) : LasRes l (bl []) 2 := ⟨fun t ht => (by rw [h] at ht; cases ht), fun _ => ⟨rfl, rfl⟩⟩
theorem LasRes.yes {l : GLasso} {t : List UInt8} (h : lasT l = some t) : LasRes l (bl t) 0 := ⟨fun u hu => (by rw [h] at hu; cases hu; exact ⟨rfl, rfl⟩), fun hn => (by rw [h] at hn; cases hn)⟩
theorem joinB3 (A B D : List UInt8) : joinB [bl A, bl B, bl D] (⟨#[32, 124, 32]⟩ : ByteArray) = bl (cat3 A B D) := by
  have e : (⟨#[32, 124, 32]⟩ : ByteArray) = bl sepL := rfl
  unfold joinB
  rw [e]
  show bl (Lib.join ([bl A, bl B, bl D].map (·.data.toList)) (bl sepL).data.toList) = _
  rw [bl_inj]
  simp only [List.map_cons, List.map_nil, bl_data, Lib.join_cons, Lib.joinTail, cat3]
  simp
theorem picks_len {l : List GPick} {ts : List (List UInt8)} (h : l.mapM txt = some ts) : (Lib.join ts [32]).length ≤ 14 * l.length := by
  obtain ⟨h1, h2⟩ := mapM_len h
  have := join_len ts fun t ht => (h2 t ht).1
  omega
theorem cat3_len (A B D : List UInt8) : (cat3 A B D).length = A.length + B.length + D.length + 6 := by
  simp [cat3, sepL]; omega
theorem lput_spec (n : Nat) (hn : 30000 ≤ n) (l : GLasso) (hf1 : ∀ p ∈ l.stem.l, Fits p) (hf2 : ∀ p ∈ l.loop.l, Fits p) (hl1 : l.stem.l.length ≤ 5000) (hl2 : l.loop.l.length ≤ 5000) : ∃ a e, lasso_Put n l = some (a, e) ∧ LasRes l a e := by
  obtain ⟨a, e, ha, hra⟩ := put_spec n hn l.stem hf1 (by omega)
  obtain ⟨b, f, hb, hrb⟩ := put_spec n hn l.loop hf2 (by omega)
  have e0 : (⟨#[]⟩ : ByteArray) = bl [] := rfl
  unfold lasso_Put
  rw [ha, Option.bind_some, e0]
  dsimp only
  cases h1 : l.stem.l.mapM txt with
  | none =>
    obtain ⟨rfl, rfl⟩ := hra.2 h1
    rw [if_pos (by omega)]
    exact ⟨_, _, rfl, LasRes.no (lasT_n1 h1)⟩
  | some u =>
    obtain ⟨rfl, rfl⟩ := hra.1 u h1
    rw [if_neg (by simp), hb, Option.bind_some]
    dsimp only
    cases h2 : l.loop.l.mapM txt with
    | none =>
      obtain ⟨rfl, rfl⟩ := hrb.2 h2
      rw [if_pos (by omega)]
      exact ⟨_, _, rfl, LasRes.no (lasT_n2 h2)⟩
    | some v =>
      obtain ⟨rfl, rfl⟩ := hrb.1 v h2
      rw [if_neg (by simp)]
      by_cases h3 : l.thread < 0
      · rw [if_pos h3]
        exact ⟨_, _, rfl, LasRes.no (lasT_n3 (.inl h3))⟩
      rw [if_neg h3]
      by_cases h4 : l.thread > 999999
      · rw [if_pos h4]
        exact ⟨_, _, rfl, LasRes.no (lasT_n3 (.inr h4))⟩
      rw [if_neg h4, itoaB_nn (by omega) (by omega), joinB3, if_pos (by unfold InR; omega), if_pos (by simp)]
      have l1 := picks_len h1
      have l2 := picks_len h2
      have l3 := dec6 (x := l.thread) (by omega) (by omega)
      rw [if_pos (by rw [bl_size, cat3_len]; omega)]
      exact ⟨_, _, rfl, LasRes.yes (lasT_s h1 h2 (by omega) (by omega))⟩
theorem rlput_spec (n : Nat) (hn : 30000 ≤ n) (l : GLasso) (hl1 : l.stem.l.length ≤ 5000) (hl2 : l.loop.l.length ≤ 5000) : ∃ a e, vigilref18_Put n l = some (a, e) ∧ LasRes l a e := by
  obtain ⟨a, e, ha, hra⟩ := rput_spec n hn l.stem (by omega)
  obtain ⟨b, f, hb, hrb⟩ := rput_spec n hn l.loop (by omega)
  have e0 : (⟨#[]⟩ : ByteArray) = bl [] := rfl
  have es : (⟨#[32, 124, 32]⟩ : ByteArray) = bl sepL := rfl
  unfold vigilref18_Put
  rw [ha, Option.bind_some, e0, es]
  dsimp only
  cases h1 : l.stem.l.mapM txt with
  | none =>
    obtain ⟨rfl, rfl⟩ := hra.2 h1
    rw [if_pos (by omega)]
    exact ⟨_, _, rfl, LasRes.no (lasT_n1 h1)⟩
  | some u =>
    obtain ⟨rfl, rfl⟩ := hra.1 u h1
    rw [if_neg (by simp), hb, Option.bind_some]
    dsimp only
    cases h2 : l.loop.l.mapM txt with
    | none =>
      obtain ⟨rfl, rfl⟩ := hrb.2 h2
      rw [if_pos (by omega)]
      exact ⟨_, _, rfl, LasRes.no (lasT_n2 h2)⟩
    | some v =>
      obtain ⟨rfl, rfl⟩ := hrb.1 v h2
      rw [if_neg (by simp)]
      by_cases h3 : l.thread < 0
      · rw [if_pos h3]
        exact ⟨_, _, rfl, LasRes.no (lasT_n3 (.inl h3))⟩
      rw [if_neg h3]
      by_cases h4 : l.thread > 999999
      · rw [if_pos h4]
        exact ⟨_, _, rfl, LasRes.no (lasT_n3 (.inr h4))⟩
      have l1 := picks_len h1
      have l2 := picks_len h2
      have l3 := dec6 (x := l.thread) (by omega) (by omega)
      have ls : sepL.length = 3 := rfl
      rw [if_neg h4, bl_app, bl_app, bl_app, if_pos (by rw [bl_size]; simp only [List.length_append]; omega), if_pos (by rw [bl_size]; simp only [List.length_append]; omega), if_pos (by rw [bl_size]; simp only [List.length_append]; omega),
        digits_spec n (by omega) (by omega) (by omega), Option.bind_some, bl_app, if_pos (by rw [bl_size]; simp only [List.length_append]; omega)]
      have e : Lib.join u [32] ++ sepL ++ Lib.join v [32] ++ sepL ++ dec l.thread.toNat = cat3 (Lib.join u [32]) (Lib.join v [32]) (dec l.thread.toNat) := by simp [cat3]
      rw [e]
      exact ⟨_, _, rfl, LasRes.yes (lasT_s h1 h2 (by omega) (by omega))⟩
end Go.Proofs.YtilipgopjiokfaaGreatDoor

/-
  Texts of lassos: what parses them.
-/
set_option linter.unusedVariables false
set_option linter.unusedSimpArgs false
namespace Go.Proofs.YtilipgopjiokfaaGreatDoor
open Go Go.Abs Go.Proofs

/-! ### parts at each " | " -/
theorem pre_head {c : UInt8} {l : List UInt8} (h : sepL.isPrefixOf (c :: l) = true) : l.head? = some 124 := by
  cases l with
  | nil => simp [sepL, List.isPrefixOf] at h
  | cons d l => simp [sepL, List.isPrefixOf] at h; simp [h.2.1.symm]
theorem head_no {A R : List UInt8} (h : ∀ b ∈ A, b ≠ 124) (hR : R.head? ≠ some 124) : (A ++ R).head? ≠ some 124 := by
  cases A with
  | nil => exact hR
  | cons a A => simp; exact h a (by simp)
theorem sep_head (R : List UInt8) : (sepL ++ R).head? ≠ some 124 := by simp [sepL]
theorem index_sep : ∀ {A R : List UInt8}, (∀ b ∈ A, b ≠ 124) → Lib.index (A ++ (sepL ++ R)) sepL = (A.length : Int)
  | [], R, _ => by
    show Lib.index (32 :: (124 :: 32 :: R)) sepL = _
    rw [Lib.index, if_pos (by simp [sepL, List.isPrefixOf])]; rfl
  | c :: A, R, h => by
    have ih := index_sep (A := A) (R := R) fun b hb => h b (by simp [hb])
    rw [List.cons_append, Lib.index, if_neg, ih, if_neg (by simp)]
    · simp
    · intro hp
      exact head_no (A := A) (fun b hb => h b (by simp [hb])) (sep_head R) (pre_head hp)
theorem index_nosep : ∀ {A : List UInt8}, (∀ b ∈ A, b ≠ 124) → Lib.index A sepL = -1
  | [], _ => rfl
  | c :: A, h => by
    have ih := index_nosep (A := A) fun b hb => h b (by simp [hb])
    rw [Lib.index, if_neg, ih]
    · rfl
    · intro hp
      have := head_no (A := A) (R := []) (fun b hb => h b (by simp [hb])) (by simp)
      rw [List.append_nil] at this
      exact this (pre_head hp)
theorem take_app {A R : List UInt8} : (A ++ R).take A.length = A := by simp
theorem drop_sep {A R : List UInt8} : (A ++ (sepL ++ R)).drop (A.length + sepL.length) = R := by
  rw [← List.append_assoc]
  exact List.drop_left' (by simp)
theorem split3 {A B D : List UInt8} (hA : ∀ b ∈ A, b ≠ 124) (hB : ∀ b ∈ B, b ≠ 124) (hD : ∀ b ∈ D, b ≠ 124) : Lib.split (cat3 A B D) sepL = [A, B, D] := by
  unfold cat3
  rw [split_hit (by simp [sepL]) (index_sep hA), take_app, drop_sep, split_hit (by simp [sepL]) (index_sep hB), take_app, drop_sep, split_miss (index_nosep hD)]
theorem splitK_size (sep : List UInt8) (save : Nat) : ∀ (k : Nat) (s p : List UInt8), p ∈ Lib.splitK sep save k s → p.length ≤ s.length
  | 0, s, p, h => by simp [Lib.splitK] at h; subst h; omega
  | k + 1, s, p, h => by
    rw [Lib.splitK] at h
    split at h
    · simp at h; subst h; omega
    · rcases List.mem_cons.1 h with rfl | h
      · simp; omega
      · have := splitK_size sep save k _ p h
        simp at this; omega
theorem splitS_sep (s : List UInt8) : splitS (bl s) (⟨#[32, 124, 32]⟩ : ByteArray) = (Lib.split s sepL).map bl := by
  unfold splitS
  rw [bl_data]; rfl
theorem dig124 {u : Nat} : ∀ b ∈ dec u, b ≠ 124 := fun b hb => dig_ne hb 124 (by decide)
theorem txt124 {p : GPick} {w : List UInt8} (h : txt p = some w) : ∀ b ∈ w, b ≠ 124 := by
  have hn : ∀ u : Nat, ∀ b ∈ dec u, b ≠ 124 := fun u b hb => dig124 b hb
  unfold txt at h
  split at h
  · cases h
  · split at h
    · cases h
      split
      · intro b hb
        rcases List.mem_append.1 hb with hb | hb
        · exact hn _ b hb
        · rcases List.mem_cons.1 hb with rfl | hb
          · decide
          · exact hn _ b hb
      · exact hn _
    · split at h
      · split at h
        · cases h
          intro b hb
          rcases List.mem_cons.1 hb with rfl | hb
          · decide
          · exact hn _ b hb
        · cases h
      · split at h
        · cases h
          intro b hb
          simp only [List.mem_singleton] at hb
          subst hb; decide
        · cases h
theorem join124 : ∀ ts : List (List UInt8), (∀ t ∈ ts, ∀ b ∈ t, b ≠ 124) → ∀ b ∈ Lib.join ts [32], b ≠ 124
  | [], _, b, hb => by cases hb
  | [t], h, b, hb => by rw [Lib.join_one] at hb; exact h t (by simp) b hb
  | t :: u :: ts, h, b, hb => by
    have e : Lib.join (t :: u :: ts) [32] = t ++ 32 :: Lib.join (u :: ts) [32] := by
      rw [Lib.join_cons, Lib.join_cons]; simp [Lib.joinTail]
    rw [e] at hb
    rcases List.mem_append.1 hb with hb | hb
    · exact h t (by simp) b hb
    · rcases List.mem_cons.1 hb with rfl | hb
      · decide
      · exact join124 (u :: ts) (fun x hx => h x (by simp [hx])) b hb
theorem picks124 : ∀ {l : List GPick} {ts : List (List UInt8)}, l.mapM txt = some ts → ∀ t ∈ ts, ∀ b ∈ t, b ≠ 124
  | [], ts, h, t, ht => by simp at h; subst h; cases ht
  | p :: l, ts, h, t, ht => by
    rw [mapM_cons_txt, Option.bind_eq_some_iff] at h
    obtain ⟨w, hw, h⟩ := h
    rw [Option.map_eq_some_iff] at h
    obtain ⟨us, hu, rfl⟩ := h
    rcases List.mem_cons.1 ht with rfl | ht
    · exact txt124 hw
    · exact picks124 hu t ht
/-- The pieces of a lasso's text. -/
theorem lasT_parts {l : GLasso} {s : List UInt8} (h : lasT l = some s) : ∃ A B, s = cat3 A B (dec l.thread.toNat) ∧ picksOf A = some l.stem.l ∧ picksOf B = some l.loop.l ∧ 0 ≤ l.thread ∧ l.thread ≤ 999999 ∧ (∀ b ∈ A, b ≠ 124) ∧ (∀ b ∈ B, b ≠ 124) := by
  obtain ⟨a, b, h1, h2, h3, h4, rfl⟩ := lasT_inv h
  exact ⟨_, _, rfl, picksOf_join h1, picksOf_join h2, h3, h4, join124 _ (picks124 h1), join124 _ (picks124 h2)⟩

abbrev LasP (s : List UInt8) (c : GLasso) (e : Int) : Prop := (∀ l, lasT l = some s → e = 0 ∧ c.stem.l = l.stem.l ∧ c.loop.l = l.loop.l ∧ c.thread = l.thread) ∧ ((∀ l, lasT l ≠ some s) → e = 2 ∧ c = ⟨Sl.nil, Sl.nil, 0⟩)
theorem LasP.no {s : List UInt8} (h : ∀ l, lasT l ≠ some s) : LasP s ⟨Sl.nil, Sl.nil, 0⟩ 2 := ⟨fun l hl => absurd hl (h l), fun _ => ⟨rfl, rfl⟩⟩
theorem lasT_congr {a b : GLasso} (h1 : a.stem.l = b.stem.l) (h2 : a.loop.l = b.loop.l) (h3 : a.thread = b.thread) : lasT a = lasT b := by unfold lasT; rw [h1, h2, h3]
theorem LasP.yes {s : List UInt8} {l c : GLasso} (hl : lasT l = some s) (h1 : c.stem.l = l.stem.l) (h2 : c.loop.l = l.loop.l) (h3 : c.thread = l.thread) (huniq : ∀ l', lasT l' = some s → l'.stem.l = l.stem.l ∧ l'.loop.l = l.loop.l ∧ l'.thread = l.thread) : LasP s c 0 :=
  ⟨fun l' hl' => by obtain ⟨a, b, d⟩ := huniq l' hl'; exact ⟨rfl, h1.trans a.symm, h2.trans b.symm, h3.trans d.symm⟩, fun h => absurd hl (h l)⟩
theorem dec_inj {u v : Nat} (h : dec u = dec v) : u = v := by have := congrArg valL h; rwa [valL_dec, valL_dec] at this
theorem lasT_uniq {l l' : GLasso} {s : List UInt8} (hl : lasT l = some s) (hl' : lasT l' = some s) : l'.stem.l = l.stem.l ∧ l'.loop.l = l.loop.l ∧ l'.thread = l.thread := by
  obtain ⟨A, B, e, h1, h2, h3, h4, h5, h6⟩ := lasT_parts hl
  obtain ⟨A', B', e', k1, k2, k3, k4, k5, k6⟩ := lasT_parts hl'
  have h := split3 h5 h6 (dig124 (u := l.thread.toNat))
  have k := split3 k5 k6 (dig124 (u := l'.thread.toNat))
  rw [← e] at h
  rw [← e', h] at k
  simp only [List.cons.injEq, and_true] at k
  obtain ⟨rfl, rfl, k⟩ := k
  have := dec_inj k
  rw [h1] at k1; rw [h2] at k2
  exact ⟨(Option.some.inj k1).symm, (Option.some.inj k2).symm, by omega⟩
theorem atI30 {α : Type} (x y z : α) : atI [x, y, z] 0 = some x := rfl
theorem atI31 {α : Type} (x y z : α) : atI [x, y, z] 1 = some y := rfl
theorem atI32 {α : Type} (x y z : α) : atI [x, y, z] 2 = some z := rfl
theorem atoiR_dec {u : Nat} (hu : u < 10000000000) : atoiR (bl (dec u)) = ((u : Int), false) := by
  unfold atoiR; rw [bl_data, atoi_dec u hu]
/-- The last step of both: a lasso is put, and its text compared. -/
theorem las_end {s : List UInt8} {c : GLasso} {a : ByteArray} {e : Int} (h : LasRes c a e) :
    ∃ c' e', (if e ≠ 0 then some (({ stem := (Sl.nil : Sl GPick), loop := (Sl.nil : Sl GPick), thread := 0 } : GLasso), (2 : Int)) else if a = bl s then some (c, 0) else some (({ stem := (Sl.nil : Sl GPick), loop := (Sl.nil : Sl GPick), thread := 0 } : GLasso), 2)) = some (c', e') ∧
      ((∀ l, lasT l = some s → lasT c = some s) → LasP s c' e') := by
  cases hc : lasT c with
  | none =>
    obtain ⟨rfl, rfl⟩ := h.2 hc
    refine ⟨_, _, if_pos (by omega), fun hh => LasP.no fun l hl => ?_⟩
    have := hh l hl; cases this
  | some t =>
    obtain ⟨rfl, rfl⟩ := h.1 t hc
    rw [if_neg (by simp)]
    by_cases ht : t = s
    · subst ht
      rw [if_pos rfl]
      exact ⟨_, _, rfl, fun _ => LasP.yes hc rfl rfl rfl fun l' hl' => lasT_uniq hc hl'⟩
    · rw [if_neg (by rw [bl_inj]; exact ht)]
      refine ⟨_, _, rfl, fun hh => LasP.no fun l hl => ?_⟩
      have := hh l hl
      injection this with this
      exact ht this
theorem lparse_spec (n : Nat) (hn : 30000 ≤ n) (s : List UInt8) (hs : s.length ≤ 4000) : ∃ c e, lasso_Parse n (bl s) = some (c, e) ∧ LasP s c e := by
  have hyes : ∀ l, lasT l = some s → ∃ A B, Lib.split s sepL = [A, B, dec l.thread.toNat] ∧ picksOf A = some l.stem.l ∧ picksOf B = some l.loop.l ∧ 0 ≤ l.thread ∧ l.thread ≤ 999999 := fun l hl => by
    obtain ⟨A, B, e, h1, h2, h3, h4, h5, h6⟩ := lasT_parts hl
    exact ⟨A, B, by rw [e]; exact split3 h5 h6 dig124, h1, h2, h3, h4⟩
  have hsz : ∀ p ∈ Lib.split s sepL, p.length ≤ s.length := fun p hp => splitK_size _ _ _ _ p hp
  unfold lasso_Parse
  rw [if_pos (by rw [bl_size]; omega), splitS_sep]
  by_cases h3 : (((Lib.split s sepL).map bl).length : Int) ≠ 3
  · rw [if_pos h3]
    refine ⟨_, _, rfl, LasP.no fun l hl => h3 ?_⟩
    obtain ⟨A, B, e, _⟩ := hyes l hl
    rw [e]; rfl
  rw [if_neg h3]
  obtain ⟨A, B, D, hL⟩ : ∃ A B D, Lib.split s sepL = [A, B, D] := by
    simp only [List.length_map, ne_eq, Decidable.not_not] at h3
    match hm : Lib.split s sepL, h3 with
    | [A, B, D], _ => exact ⟨A, B, D, rfl⟩
  rw [hL] at hsz hyes
  have zA := hsz A (by simp); have zB := hsz B (by simp); have zD := hsz D (by simp)
  rw [hL]
  simp only [List.map_cons, List.map_nil]
  rw [atI30, Option.bind_some, atI31, atI32]
  obtain ⟨x, e1, hx, x1, x2⟩ := parse_spec n hn A (by omega)
  obtain ⟨y, e2, hy, y1, y2⟩ := parse_spec n hn B (by omega)
  rw [hx, Option.bind_some]
  dsimp only
  rw [Option.bind_some, hy, Option.bind_some]
  dsimp only
  rw [Option.bind_some, if_pos (by rw [bl_size]; omega), lasso_Parse_J7]
  cases hA : picksOf A with
  | none =>
    rw [if_pos (by rw [(x2 hA).1]; omega)]
    refine ⟨_, _, rfl, LasP.no fun l hl => ?_⟩
    obtain ⟨A', B', e, h1, _⟩ := hyes l hl
    simp only [List.cons.injEq, and_true] at e
    rw [e.1, h1] at hA; cases hA
  | some ps =>
  cases hB : picksOf B with
  | none =>
    rw [if_neg (by rw [(x1 ps hA).1]; omega), if_pos (by rw [(y2 hB).1]; omega)]
    refine ⟨_, _, rfl, LasP.no fun l hl => ?_⟩
    obtain ⟨A', B', e, h1, h2, _⟩ := hyes l hl
    simp only [List.cons.injEq, and_true] at e
    rw [e.2.1, h2] at hB; cases hB
  | some qs =>
  rw [if_neg (by rw [(x1 ps hA).1]; omega), if_neg (by rw [(y1 qs hB).1]; omega)]
  by_cases hr : (atoiR (bl D)).2 = true
  · rw [if_pos hr]
    refine ⟨_, _, rfl, LasP.no fun l hl => ?_⟩
    obtain ⟨A', B', e, h1, h2, h4, h5⟩ := hyes l hl
    simp only [List.cons.injEq, and_true] at e
    rw [e.2.2, atoiR_dec (by omega)] at hr; cases hr
  rw [if_neg hr]
  simp only [Option.bind_some]
  obtain ⟨f1, f2, _⟩ := picksOf_fits hA
  obtain ⟨g1, g2, _⟩ := picksOf_fits hB
  have ex := (x1 ps hA).2
  have ey := (y1 qs hB).2
  obtain ⟨a, e, ha, hra⟩ := lput_spec n hn ⟨x, y, (atoiR (bl D)).1⟩ (by rw [ex]; exact f1) (by rw [ey]; exact g1) (by rw [ex]; omega) (by rw [ey]; omega)
  rw [ha, Option.bind_some]
  dsimp only
  obtain ⟨c', e', he, hc⟩ := las_end (s := s) hra
  refine ⟨c', e', he, hc fun l hl => ?_⟩
  obtain ⟨A', B', e, h1, h2, h4, h5⟩ := hyes l hl
  simp only [List.cons.injEq, and_true] at e
  obtain ⟨rfl, rfl, rfl⟩ := e
  rw [h1] at hA; cases hA
  rw [h2] at hB; cases hB
  rw [← hl]
  refine lasT_congr ex ey ?_
  rw [atoiR_dec (by omega)]
  show ((l.thread.toNat : Nat) : Int) = l.thread
  omega
end Go.Proofs.YtilipgopjiokfaaGreatDoor

/-
  Texts of lassos: what the document's function parses; the statement LassoTexts.
-/
set_option linter.unusedVariables false
set_option linter.unusedSimpArgs false
namespace Go.Proofs.YtilipgopjiokfaaGreatDoor
open Go Go.Abs Go.Proofs

/-- The places of " | ". -/
def barsR : Nat → List UInt8 → List Nat
  | _, [] => []
  | off, c :: l => if sepL.isPrefixOf (c :: l) then off :: barsR (off + 1) l else barsR (off + 1) l
theorem pre_len {l : List UInt8} (h : sepL.isPrefixOf l = true) : 3 ≤ l.length ∧ l.take 3 = sepL := by
  match l, h with
  | [], h => simp [sepL, List.isPrefixOf] at h
  | [a], h => simp [sepL, List.isPrefixOf] at h
  | [a, b], h => simp [sepL, List.isPrefixOf] at h
  | a :: b :: c :: l, h =>
    simp [sepL, List.isPrefixOf] at h
    obtain ⟨rfl, rfl, rfl⟩ := h
    exact ⟨by simp only [List.length_cons]; omega, rfl⟩
theorem pre_of {l : List UInt8} (h : l.take 3 = sepL) : sepL.isPrefixOf l = true := by
  match l, h with
  | [], h => simp [sepL] at h
  | [a], h => simp [sepL] at h
  | [a, b], h => simp [sepL] at h
  | a :: b :: c :: l, h =>
    simp [sepL] at h
    obtain ⟨rfl, rfl, rfl⟩ := h
    simp [sepL, List.isPrefixOf]
theorem bars_short : ∀ (off : Nat) (l : List UInt8), l.length < 3 → barsR off l = []
  | _, [], _ => rfl
  | off, c :: l, h => by
    rw [barsR, if_neg fun hp => by have := (pre_len hp).1; omega]
    exact bars_short _ l (by simp only [List.length_cons] at h; omega)
theorem bars_in : ∀ (off : Nat) (l : List UInt8), ∀ i ∈ barsR off l, off ≤ i ∧ i + 3 ≤ off + l.length
  | _, [], i, h => by cases h
  | off, c :: l, i, h => by
    rw [barsR] at h
    have ih := bars_in (off + 1) l i
    simp only [List.length_cons]
    split at h
    · rename_i hp
      rcases List.mem_cons.1 h with rfl | h
      · have := (pre_len hp).1
        simp only [List.length_cons] at this
        omega
      · have := ih h; omega
    · have := ih h; omega
theorem bars_no : ∀ (off : Nat) {l : List UInt8}, (∀ b ∈ l, b ≠ 124) → barsR off l = []
  | _, [], _ => rfl
  | off, c :: l, h => by
    rw [barsR, if_neg, bars_no _ fun b hb => h b (by simp [hb])]
    intro hp
    have := head_no (A := l) (R := []) (fun b hb => h b (by simp [hb])) (by simp)
    rw [List.append_nil] at this
    exact this (pre_head hp)
theorem bars_at : ∀ (off : Nat) {A R : List UInt8}, (∀ b ∈ A, b ≠ 124) → R.head? ≠ some 124 → barsR off (A ++ (sepL ++ R)) = (off + A.length) :: barsR (off + A.length + 3) R
  | off, [], R, _, hR => by
    show barsR off (32 :: 124 :: 32 :: R) = _
    rw [barsR, if_pos (by simp [sepL, List.isPrefixOf]), barsR, if_neg (by simp [sepL, List.isPrefixOf]), barsR, if_neg (fun hp => hR (pre_head hp))]
    simp
  | off, c :: A, R, h, hR => by
    rw [List.cons_append, barsR, if_neg, bars_at (off + 1) (fun b hb => h b (by simp [hb])) hR]
    · simp only [List.length_cons]
      rw [show off + 1 + A.length = off + (A.length + 1) by omega]
    · intro hp
      exact head_no (A := A) (fun b hb => h b (by simp [hb])) (sep_head R) (pre_head hp)
theorem bars3 {A B D : List UInt8} (hA : ∀ b ∈ A, b ≠ 124) (hB : ∀ b ∈ B, b ≠ 124) (hD : ∀ b ∈ D, b ≠ 124) : barsR 0 (cat3 A B D) = [A.length, A.length + 3 + B.length] := by
  unfold cat3
  have hd : D.head? ≠ some 124 := by
    have := head_no (A := D) (R := []) hD (by simp)
    rwa [List.append_nil] at this
  rw [bars_at 0 hA (head_no hB (sep_head D)), bars_at _ hB hd, bars_no _ hD]
  simp
theorem bars_loop (n : Nat) (s : List UInt8) (hs : s.length ≤ 100000) : ∀ (rest done : List UInt8) (k : Nat) (acc : List Int), s = done ++ rest → rest.length < k → acc.length + rest.length ≤ 200000 →
    ∃ v, vigilref18_bars_L3 (bl s) n k acc (done.length : Int) = some (.e0 (acc ++ (barsR done.length rest).map fun (i : Nat) => (i : Int)) v)
  | rest, done, 0, acc, _, h, _ => by omega
  | rest, done, k + 1, acc, hss, hk, ha => by
    rw [vigilref18_bars_L3]
    have hlen : s.length = done.length + rest.length := by rw [hss]; simp
    rw [if_pos (by unfold InR; omega)]
    by_cases h3 : rest.length < 3
    · rw [if_neg (by rw [bl_size]; omega), bars_short _ _ h3]
      exact ⟨(done.length : Int), by simp⟩
    rw [if_pos (by rw [bl_size]; omega), if_pos (by rw [bl_size]; omega)]
    cases rest with
    | nil => simp at h3
    | cons c rest =>
      have e1 : ((done.length : Int)).toNat = done.length := by omega
      have e2 : ((done.length : Int) + 3).toNat = done.length + 3 := by omega
      have ex : (bl s).extract (done.length : Int).toNat ((done.length : Int) + 3).toNat = bl ((c :: rest).take 3) := by
        rw [e1, e2, bl_ext, bl_inj, hss, List.take_append, List.drop_append]
        simp [List.take_of_length_le (show done.length ≤ done.length + 3 by omega)]
      have es : (⟨#[32, 124, 32]⟩ : ByteArray) = bl sepL := rfl
      have e3 : (done.length : Int) + 1 = ((done ++ [c]).length : Int) := by simp
      have e4 : s = (done ++ [c]) ++ rest := by rw [hss]; simp
      have e5 : (done ++ [c]).length = done.length + 1 := by simp
      simp only [List.length_cons] at hk ha h3 hlen
      rw [ex, es]
      by_cases hp : (c :: rest).take 3 = sepL
      · rw [if_pos (by rw [bl_inj]; exact hp), if_pos (by unfold Room; simp only [List.length_append, List.length_cons, List.length_nil]; omega), if_pos (by unfold InR; omega), e3]
        obtain ⟨v, hv⟩ := bars_loop n s hs rest (done ++ [c]) k (acc ++ [(done.length : Int)]) e4 (by omega) (by simp only [List.length_append, List.length_cons, List.length_nil]; omega)
        refine ⟨v, hv.trans ?_⟩
        rw [barsR, if_pos (pre_of hp), e5]
        simp
      · rw [if_neg (by rw [bl_inj]; exact hp), if_pos (by unfold InR; omega), e3]
        obtain ⟨v, hv⟩ := bars_loop n s hs rest (done ++ [c]) k acc e4 (by omega) (by omega)
        refine ⟨v, hv.trans ?_⟩
        rw [barsR, if_neg (fun h => hp (pre_len h).2), e5]
theorem bars_spec (n : Nat) (s : List UInt8) (hs : s.length ≤ 100000) (hn : s.length < n) : vigilref18_bars n (bl s) = some ((barsR 0 s).map fun (i : Nat) => (i : Int)) := by
  obtain ⟨v, hv⟩ := bars_loop n s hs s [] n [] rfl hn (by simp; omega)
  simp only [List.length_nil, List.nil_append] at hv
  have ez : ((0 : Nat) : Int) = 0 := rfl
  rw [ez] at hv
  rw [vigilref18_bars, hv]
  rfl
theorem atI20 {α : Type} (x y : α) : atI [x, y] 0 = some x := rfl
theorem atI21 {α : Type} (x y : α) : atI [x, y] 1 = some y := rfl
theorem take_cat {A B D : List UInt8} : ((cat3 A B D).take A.length).drop 0 = A := by simp [cat3]
theorem mid_cat {A B D : List UInt8} : ((cat3 A B D).take (A.length + 3 + B.length)).drop (A.length + 3) = B := by
  have e : cat3 A B D = (A ++ sepL) ++ (B ++ (sepL ++ D)) := by simp [cat3]
  have l : (A ++ sepL).length = A.length + 3 := by simp [sepL]
  rw [e, ← l, List.drop_take]
  rw [List.drop_left' rfl]
  simp
theorem end_cat {A B D : List UInt8} {k : Nat} (hk : k = (cat3 A B D).length) : ((cat3 A B D).take k).drop (A.length + 3 + B.length + 3) = D := by
  have e : cat3 A B D = (A ++ sepL ++ B ++ sepL) ++ D := by simp [cat3]
  have l : (A ++ sepL ++ B ++ sepL).length = A.length + 3 + B.length + 3 := by simp [sepL]; omega
  rw [hk, List.take_length, e, ← l]
  exact List.drop_left' rfl
theorem rlparse_spec (n : Nat) (hn : 30000 ≤ n) (s : List UInt8) (hs : s.length ≤ 4000) : ∃ c e, vigilref18_Parse n (bl s) = some (c, e) ∧ LasP s c e := by
  have hyes : ∀ l, lasT l = some s → ∃ A B, s = cat3 A B (dec l.thread.toNat) ∧ barsR 0 s = [A.length, A.length + 3 + B.length] ∧ picksOf A = some l.stem.l ∧ picksOf B = some l.loop.l ∧ 0 ≤ l.thread ∧ l.thread ≤ 999999 := fun l hl => by
    obtain ⟨A, B, e, h1, h2, h3, h4, h5, h6⟩ := lasT_parts hl
    exact ⟨A, B, e, by rw [e]; exact bars3 h5 h6 dig124, h1, h2, h3, h4⟩
  unfold vigilref18_Parse
  rw [bars_spec n s (by omega) (by omega), Option.bind_some]
  by_cases h3 : (((barsR 0 s).map fun (i : Nat) => (i : Int)).length : Int) ≠ 2
  · rw [if_pos h3]
    refine ⟨_, _, rfl, LasP.no fun l hl => h3 ?_⟩
    obtain ⟨A, B, _, e, _⟩ := hyes l hl
    rw [e]; rfl
  rw [if_neg h3]
  obtain ⟨a, b, hL⟩ : ∃ a b, barsR 0 s = [a, b] := by
    simp only [List.length_map, ne_eq, Decidable.not_not] at h3
    match hm : barsR 0 s, h3 with
    | [a, b], _ => exact ⟨a, b, rfl⟩
  have ha := bars_in 0 s a (by rw [hL]; simp)
  have hb := bars_in 0 s b (by rw [hL]; simp)
  rw [hL]
  rw [hL] at hyes
  simp only [List.map_cons, List.map_nil]
  rw [atI21, Option.bind_some, atI20, Option.bind_some, if_pos (by unfold InR; omega)]
  by_cases hab : (b : Int) < (a : Int) + 3
  · rw [if_pos hab]
    refine ⟨_, _, rfl, LasP.no fun l hl => ?_⟩
    obtain ⟨A, B, _, e, _⟩ := hyes l hl
    simp only [List.cons.injEq, and_true] at e
    omega
  have ea : (a : Int).toNat = a := by omega
  have eb : (b : Int).toNat = b := by omega
  have ea3 : ((a : Int) + 3).toNat = a + 3 := by omega
  have eb3 : ((b : Int) + 3).toNat = b + 3 := by omega
  rw [if_neg hab, if_pos (by rw [bl_size]; omega), ea, ea3, eb, eb3, bl_ext, bl_ext, bl_ext, bl_size]
  have zA : ((s.take a).drop 0).length ≤ 4000 := by simp; omega
  have zB : ((s.take b).drop (a + 3)).length ≤ 4000 := by simp; omega
  have zD : ((s.take s.length).drop (b + 3)).length ≤ 4000 := by simp; omega
  have hy2 : ∀ l, lasT l = some s → picksOf ((s.take a).drop 0) = some l.stem.l ∧ picksOf ((s.take b).drop (a + 3)) = some l.loop.l ∧ (s.take s.length).drop (b + 3) = dec l.thread.toNat ∧ 0 ≤ l.thread ∧ l.thread ≤ 999999 := fun l hl => by
    obtain ⟨A, B, e, e2, h1, h2, h4, h5⟩ := hyes l hl
    simp only [List.cons.injEq, and_true] at e2
    obtain ⟨rfl, rfl⟩ := e2
    have hk : s.length = (cat3 A B (dec l.thread.toNat)).length := by rw [← e]
    refine ⟨?_, ?_, ?_, h4, h5⟩
    · rw [e, take_cat]; exact h1
    · rw [e, mid_cat]; exact h2
    · rw [hk]
      conv => lhs; rw [e]
      exact end_cat rfl
  clear hyes
  generalize (s.take a).drop 0 = A at zA hy2
  generalize (s.take b).drop (a + 3) = B at zB hy2
  generalize (s.take s.length).drop (b + 3) = D at zD hy2
  obtain ⟨x, e1, hx, x1, x2⟩ := rparse_spec n hn A (by omega)
  obtain ⟨y, e2, hy, y1, y2⟩ := rparse_spec n hn B (by omega)
  obtain ⟨z, ok, hz, z1, z2⟩ := num14_spec n (by omega) D (by omega)
  rw [hx, Option.bind_some]
  dsimp only
  rw [if_pos (by omega), hy, Option.bind_some]
  dsimp only
  rw [if_pos (by unfold InR; omega), if_pos (by omega), hz, Option.bind_some]
  dsimp only
  rw [vigilref18_Parse_J7]
  cases hA : picksOf A with
  | none =>
    rw [if_pos (by rw [(x2 hA).1]; omega)]
    refine ⟨_, _, rfl, LasP.no fun l hl => ?_⟩
    rw [(hy2 l hl).1] at hA; cases hA
  | some ps =>
  cases hB : picksOf B with
  | none =>
    rw [if_neg (by rw [(x1 ps hA).1]; omega), if_pos (by rw [(y2 hB).1]; omega)]
    refine ⟨_, _, rfl, LasP.no fun l hl => ?_⟩
    rw [(hy2 l hl).2.1] at hB; cases hB
  | some qs =>
  rw [if_neg (by rw [(x1 ps hA).1]; omega), if_neg (by rw [(y1 qs hB).1]; omega)]
  have hnum : ∀ l, lasT l = some s → D = iL l.thread ∧ InR l.thread ∧ 0 ≤ l.thread ∧ l.thread ≤ 999999 := fun l hl => by
    obtain ⟨_, _, h, h1, h2⟩ := hy2 l hl
    exact ⟨by rw [iL_nn h1]; exact h, by unfold InR; omega, h1, h2⟩
  cases ok with
  | false =>
    rw [cond_false]
    refine ⟨_, _, rfl, LasP.no fun l hl => ?_⟩
    obtain ⟨h1, h2, _⟩ := hnum l hl
    exact z2 rfl _ h2 h1
  | true =>
  rw [cond_true]
  obtain ⟨hzR, hzD⟩ := z1 rfl
  have hzz : ∀ l, lasT l = some s → z = l.thread := fun l hl => by
    obtain ⟨h1, h2, _⟩ := hnum l hl
    exact iL_inj hzR h2 (hzD.symm.trans h1)
  by_cases hz0 : z < 0
  · rw [if_pos hz0]
    refine ⟨_, _, rfl, LasP.no fun l hl => ?_⟩
    have := hzz l hl; have := (hnum l hl).2.2; omega
  rw [if_neg hz0]
  by_cases hz9 : z > 999999
  · rw [if_pos hz9]
    refine ⟨_, _, rfl, LasP.no fun l hl => ?_⟩
    have := hzz l hl; have := (hnum l hl).2.2; omega
  rw [if_neg hz9]
  simp only [Option.bind_some]
  obtain ⟨f1, f2, _⟩ := picksOf_fits hA
  obtain ⟨g1, g2, _⟩ := picksOf_fits hB
  have ex := (x1 ps hA).2
  have ey := (y1 qs hB).2
  obtain ⟨a', e, ha', hra⟩ := rlput_spec n hn ⟨x, y, z⟩ (by rw [ex]; omega) (by rw [ey]; omega)
  rw [ha', Option.bind_some]
  dsimp only
  obtain ⟨c', e', he, hc⟩ := las_end (s := s) hra
  refine ⟨c', e', he, hc fun l hl => ?_⟩
  obtain ⟨h1, h2, _⟩ := hy2 l hl
  rw [h1] at hA; cases hA
  rw [h2] at hB; cases hB
  rw [← hl]
  exact lasT_congr ex ey (hzz l hl)

/-! ### the statement -/
def FitsL (l : GLasso) : Prop := (∀ p ∈ l.stem.l, Fits p) ∧ ∀ p ∈ l.loop.l, Fits p
theorem lsame_spec (n : Nat) (hn : 30000 ≤ n) (a b : GLasso) (h1 : a.stem.l = b.stem.l) (h2 : a.loop.l = b.loop.l) (h3 : a.thread = b.thread) (hl1 : a.stem.l.length ≤ 20000) (hl2 : a.loop.l.length ≤ 20000) : vigilref18_Same n a b = some true := by
  rw [vigilref18_Same, same_spec n hn _ _ h1 hl1, Option.bind_some, cond_true, same_spec n hn _ _ h2 hl2, Option.bind_some, cond_true, if_pos h3]
theorem lasT_len {l : GLasso} {s : List UInt8} (h : lasT l = some s) : l.stem.l.length ≤ s.length + 1 ∧ l.loop.l.length ≤ s.length + 1 := by
  obtain ⟨A, B, e, h1, h2, _⟩ := lasT_parts h
  have := (picksOf_fits h1).2.1
  have := (picksOf_fits h2).2.1
  have := cat3_len A B (dec l.thread.toNat)
  rw [← e] at this
  omega
theorem LasP.eq {s : List UInt8} {c d : GLasso} {e f : Int} (h : LasP s c e) (k : LasP s d f) : e = f ∧ c.stem.l = d.stem.l ∧ c.loop.l = d.loop.l ∧ c.thread = d.thread ∧ c.stem.l.length ≤ s.length + 1 ∧ c.loop.l.length ≤ s.length + 1 := by
  by_cases hm : ∃ l, lasT l = some s
  · obtain ⟨l, hl⟩ := hm
    obtain ⟨a1, a2, a3, a4⟩ := h.1 l hl
    obtain ⟨b1, b2, b3, b4⟩ := k.1 l hl
    have := lasT_len hl
    exact ⟨a1.trans b1.symm, a2.trans b2.symm, a3.trans b3.symm, a4.trans b4.symm, by rw [a2]; exact this.1, by rw [a3]; exact this.2⟩
  · have hm' : ∀ l, lasT l ≠ some s := fun l hl => hm ⟨l, hl⟩
    obtain ⟨a1, rfl⟩ := h.2 hm'
    obtain ⟨b1, rfl⟩ := k.2 hm'
    exact ⟨a1.trans b1.symm, rfl, rfl, rfl, by simp [Sl.nil], by simp [Sl.nil]⟩
theorem lasso_true (p0 : GLasso) (p1 : ByteArray) (hf : FitsL p0) : vigillaw18_LassoTexts 30000 p0 p1 = some true := by
  rw [vigillaw18_LassoTexts, vigillaw18_LassoTexts_J1]
  by_cases h1 : (p0.stem.l.length : Int) > 100
  · rw [if_pos h1]; rfl
  rw [if_neg h1]
  by_cases h2 : (p0.loop.l.length : Int) > 100
  · rw [if_pos h2]; rfl
  rw [if_neg h2]
  by_cases h3 : (p1.size : Int) > 2000
  · rw [if_pos h3]; rfl
  rw [if_neg h3]
  have hp1 : p1 = bl p1.data.toList := (bl_of p1).symm
  generalize hs : p1.data.toList = s at hp1
  subst hp1
  rw [bl_size] at h3
  simp only [Option.bind_some]
  obtain ⟨a, e, ha, hra⟩ := lput_spec 30000 (by omega) p0 hf.1 hf.2 (by omega) (by omega)
  obtain ⟨b, f, hb, hrb⟩ := rlput_spec 30000 (by omega) p0 (by omega) (by omega)
  obtain ⟨c, g, hc, hrc⟩ := lparse_spec 30000 (by omega) s (by omega)
  obtain ⟨d, i, hd, hrd⟩ := rlparse_spec 30000 (by omega) s (by omega)
  rw [ha, Option.bind_some]
  dsimp only
  rw [hb, Option.bind_some]
  dsimp only
  rw [hc, Option.bind_some]
  dsimp only
  rw [hd, Option.bind_some]
  dsimp only
  obtain ⟨hab, hef⟩ := hra.eq hrb
  obtain ⟨hgi, k1, k2, k3, k4, k5⟩ := hrc.eq hrd
  rw [vigillaw18_LassoTexts_J7, if_pos hab, vigillaw18_num, Option.bind_some, if_neg (by simpa using hef), lsame_spec 30000 (by omega) c d k1 k2 k3 (by omega) (by omega), Option.bind_some, cond_true, vigillaw18_num, Option.bind_some, if_neg (by simpa using hgi)]
  simp only [Option.bind_some]
  by_cases hf0 : f = 0
  · rw [if_pos hf0]
    cases hm : lasT p0 with
    | none => have := (hrb.2 hm).1; omega
    | some t =>
      obtain ⟨rfl, rfl⟩ := hra.1 t hm
      have ht : t.length ≤ 4000 := by
        obtain ⟨u, v, q1, q2, q3, q4, rfl⟩ := lasT_inv hm
        have l1 := picks_len q1
        have l2 := picks_len q2
        have l3 := dec6 q3 q4
        rw [cat3_len]; omega
      obtain ⟨x, j, hx, hrx⟩ := lparse_spec 30000 (by omega) t ht
      obtain ⟨rfl, y1, y2, y3⟩ := hrx.1 p0 hm
      rw [hx, Option.bind_some]
      dsimp only
      rw [vigillaw18_num, Option.bind_some, if_neg (by simp), lsame_spec 30000 (by omega) x p0 y1 y2 y3 (by rw [y1]; omega) (by rw [y2]; omega)]
      rfl
  · rw [if_neg hf0]
end Go.Proofs.YtilipgopjiokfaaGreatDoor
