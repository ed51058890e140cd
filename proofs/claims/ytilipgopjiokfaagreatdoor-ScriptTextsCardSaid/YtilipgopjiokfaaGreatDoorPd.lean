/-
  Picks as a text; the two laws.
-/
import Derived.Test.YtilipgopjiokfaaGreatDoorPc
set_option linter.unusedVariables false
set_option linter.unusedSimpArgs false
set_option maxRecDepth 10000
namespace Go.Proofs.YtilipgopjiokfaaGreatDoor
open Go Go.Abs Go.Proofs

def Fits (p : GPick) : Prop := InR p.thread ∧ InR p.draw
theorem atI_nat {α : Type} (l : List α) (i : Nat) : atI l (i : Int) = l[i]? := by
  unfold atI; rw [if_pos (by omega), Int.toNat_natCast]
def TextOf (p : GPick) (b : ByteArray) (ok : Bool) : Prop := (ok = true → ∃ w, b = bl w ∧ txt p = some w) ∧ (ok = false → txt p = none)
theorem mapM_cons_txt (p : GPick) (l : List GPick) : (p :: l).mapM txt = (txt p).bind fun w => (l.mapM txt).map (w :: ·) := by
  rw [List.mapM_cons]
  cases txt p with
  | none => rfl
  | some w => cases l.mapM txt <;> rfl
theorem put_loop (n : Nat) (p0 : Sl GPick) (hf : ∀ p ∈ p0.l, Fits p) (hl : p0.l.length ≤ 20000) : ∀ (rest pre : List GPick) (done : List ByteArray) (k : Nat), p0.l = pre ++ rest → done.length = pre.length → rest.length < k →
    match rest.mapM txt with
    | some ts => ∃ i, script_Put_L5 p0 n k (pre.length : Int) (done ++ List.replicate rest.length (⟨#[]⟩ : ByteArray)) = some (.e0 i (done ++ ts.map bl))
    | none => ∃ o a b c, script_Put_L5 p0 n k (pre.length : Int) (done ++ List.replicate rest.length (⟨#[]⟩ : ByteArray)) = some (.r o a b c) := by
  intro rest
  induction rest with
  | nil =>
    intro pre done k he hd hk
    obtain ⟨k, rfl⟩ : ∃ j, k = j + 1 := ⟨k - 1, by omega⟩
    refine ⟨(pre.length : Int), ?_⟩
    rw [script_Put_L5, if_neg (by rw [he]; simp)]
    simp
  | cons p rest IH =>
    intro pre done k he hd hk
    simp only [List.length_cons] at hk
    obtain ⟨k, rfl⟩ : ∃ j, k = j + 1 := ⟨k - 1, by omega⟩
    have hlen : p0.l.length = pre.length + (rest.length + 1) := by rw [he]; simp
    have hg : p0.l[pre.length]? = some p := by rw [he]; simp
    have hp := hf p (by rw [he]; simp)
    obtain ⟨b, ok, h1, h2, h3⟩ := script_text_spec n p hp.1 hp.2
    rw [mapM_cons_txt]
    cases ok with
    | false =>
      have hL : script_Put_L5 p0 n (k + 1) (pre.length : Int) (done ++ List.replicate (p :: rest).length (⟨#[]⟩ : ByteArray)) = some (.r (done ++ List.replicate (p :: rest).length (⟨#[]⟩ : ByteArray)) p.kind p.thread p.draw) := by
        rw [script_Put_L5, if_pos (by omega), atI_nat, hg, Option.bind_some, h1, Option.bind_some]
        rfl
      rw [h3 rfl]
      exact ⟨_, _, _, _, hL⟩
    | true =>
      obtain ⟨w, rfl, hw⟩ := h2 rfl
      have hL : script_Put_L5 p0 n (k + 1) (pre.length : Int) (done ++ List.replicate (p :: rest).length (⟨#[]⟩ : ByteArray)) = script_Put_L5 p0 n k ((pre ++ [p]).length : Int) ((done ++ [bl w]) ++ List.replicate rest.length (⟨#[]⟩ : ByteArray)) := by
        have ho : (done ++ List.replicate (p :: rest).length (⟨#[]⟩ : ByteArray))[pre.length]? = some (⟨#[]⟩ : ByteArray) := by
          rw [← hd]; simp [List.replicate_succ]
        have hs : (done ++ List.replicate (p :: rest).length (⟨#[]⟩ : ByteArray)).set pre.length (bl w) = (done ++ [bl w]) ++ List.replicate rest.length (⟨#[]⟩ : ByteArray) := by
          rw [← hd]; simp [List.replicate_succ]
        have e1 : (pre.length : Int) + 1 = ((pre ++ [p]).length : Int) := by simp
        rw [script_Put_L5, if_pos (by omega), atI_nat, hg, Option.bind_some, h1, Option.bind_some]
        refine (if_pos (by omega)).trans ?_
        rw [atI_nat, ho, Option.bind_some]
        refine (if_pos (by unfold InR; omega)).trans ?_
        rw [Int.toNat_natCast, hs, e1]
      rw [hw, Option.bind_some, hL]
      have ih := IH (pre ++ [p]) (done ++ [bl w]) k (by rw [he]; simp) (by simp [hd]) (by omega)
      cases hm : rest.mapM txt with
      | none => rw [hm] at ih; exact ih
      | some ts =>
        rw [hm] at ih
        obtain ⟨i, ih⟩ := ih
        exact ⟨i, by rw [ih]; simp⟩
theorem join_snoc (w : List UInt8) : ∀ ts : List (List UInt8), Lib.join (ts ++ [w]) [32] = if ts = [] then w else Lib.join ts [32] ++ 32 :: w
  | [] => by rw [if_pos rfl, List.nil_append, Lib.join_one]
  | t :: ts => by
    rw [if_neg (by simp), List.cons_append, Lib.join_cons, Lib.join_cons]
    simp [Lib.joinTail]
theorem join_len : ∀ ts : List (List UInt8), (∀ t ∈ ts, t.length ≤ 13) → (Lib.join ts [32]).length ≤ 14 * ts.length := by
  intro ts
  induction h : ts.length generalizing ts with
  | zero => intro _; have := List.length_eq_zero_iff.1 h; subst this; simp [Lib.join_nil]
  | succ m ih =>
    intro hd
    obtain ⟨l', c, rfl⟩ : ∃ l' c, ts = l' ++ [c] := ⟨ts.dropLast, ts.getLast (by intro hh; subst hh; simp at h), (List.dropLast_concat_getLast _).symm⟩
    have h1 := ih l' (by simpa using h) (fun c hc => hd c (by simp [hc]))
    have h2 := hd c (by simp)
    rw [join_snoc]
    split
    · omega
    · simp only [List.length_append, List.length_cons]; omega
theorem joinB_bl (ts : List (List UInt8)) : joinB (ts.map bl) (⟨#[32]⟩ : ByteArray) = bl (Lib.join ts [32]) := by
  unfold joinB
  have e : (ts.map bl).map (fun b => b.data.toList) = ts := by
    rw [List.map_map]
    conv => rhs; rw [← List.map_id ts]
    exact List.map_congr_left fun a _ => bl_data a
  rw [e]; rfl
theorem mapM_len : ∀ {l : List GPick} {ts : List (List UInt8)}, l.mapM txt = some ts → ts.length = l.length ∧ ∀ t ∈ ts, t.length ≤ 13 ∧ t ≠ [] ∧ ∀ b ∈ t, b ≠ 32
  | [], ts, h => by simp at h; subst h; simp
  | p :: l, ts, h => by
    rw [mapM_cons_txt, Option.bind_eq_some_iff] at h
    obtain ⟨w, hw, h⟩ := h
    rw [Option.map_eq_some_iff] at h
    obtain ⟨us, hu, rfl⟩ := h
    obtain ⟨h1, h2⟩ := mapM_len hu
    refine ⟨by simp [h1], fun t ht => ?_⟩
    rcases List.mem_cons.1 ht with rfl | ht
    · obtain ⟨a, b, c⟩ := txt_bytes hw; exact ⟨c, b, a⟩
    · exact h2 t ht
/-- A list's text, or the error. -/
abbrev PutRes (l : List GPick) (a : ByteArray) (e : Int) : Prop := (∀ ts, l.mapM txt = some ts → e = 0 ∧ a = bl (Lib.join ts [32])) ∧ (l.mapM txt = none → e = 2 ∧ a = bl [])
theorem PutRes.eq {l : List GPick} {a b : ByteArray} {e f : Int} (h : PutRes l a e) (k : PutRes l b f) : a = b ∧ e = f := by
  cases hm : l.mapM txt with
  | none => obtain ⟨h1, h2⟩ := h.2 hm; obtain ⟨k1, k2⟩ := k.2 hm; exact ⟨h2.trans k2.symm, h1.trans k1.symm⟩
  | some ts => obtain ⟨h1, h2⟩ := h.1 ts hm; obtain ⟨k1, k2⟩ := k.1 ts hm; exact ⟨h2.trans k2.symm, h1.trans k1.symm⟩
theorem put_spec (n : Nat) (hn : 30000 ≤ n) (p0 : Sl GPick) (hf : ∀ p ∈ p0.l, Fits p) (hl : p0.l.length ≤ 20000) : ∃ a e, script_Put n p0 = some (a, e) ∧ PutRes p0.l a e := by
  have hloop := put_loop n p0 hf hl p0.l [] [] n rfl rfl (by omega)
  simp only [List.nil_append, List.length_nil] at hloop
  have ez : ((0 : Nat) : Int) = 0 := rfl
  rw [ez] at hloop
  cases hm : p0.l.mapM txt with
  | none =>
    rw [hm] at hloop
    obtain ⟨o, a, b, c, hloop⟩ := hloop
    refine ⟨bl [], 2, ?_, fun ts h => (by rw [hm] at h; cases h), fun _ => ⟨rfl, rfl⟩⟩
    rw [script_Put, if_neg (by omega), if_pos (by unfold Mk; omega), hloop]
    rfl
  | some ts =>
    rw [hm] at hloop
    obtain ⟨i, hloop⟩ := hloop
    obtain ⟨h1, h2⟩ := mapM_len hm
    have hj := join_len ts fun t ht => (h2 t ht).1
    refine ⟨bl (Lib.join ts [32]), 0, ?_, fun ts' h => by rw [hm] at h; cases h; exact ⟨rfl, rfl⟩, fun h => by rw [hm] at h; cases h⟩
    rw [script_Put, if_neg (by omega), if_pos (by unfold Mk; omega), hloop, Option.bind_some]
    refine (if_pos (by simp [h1])).trans ?_
    refine (if_pos (by simp; omega)).trans ?_
    rw [joinB_bl]
    exact if_pos (by rw [bl_size]; omega)
theorem rput_loop (n : Nat) (hn : 30 ≤ n) (p0 : Sl GPick) (hl : p0.l.length ≤ 20000) : ∀ (rest pre : List GPick) (done : List (List UInt8)) (k : Nat), p0.l = pre ++ rest → done.length = pre.length → (∀ t ∈ done, t.length ≤ 13) → rest.length < k →
    match rest.mapM txt with
    | some ts => ∃ i, vigilref16_Put_L5 p0 n k (bl (Lib.join done [32])) (pre.length : Int) = some (.e0 (bl (Lib.join (done ++ ts) [32])) i)
    | none => vigilref16_Put_L5 p0 n k (bl (Lib.join done [32])) (pre.length : Int) = some .r := by
  intro rest
  induction rest with
  | nil =>
    intro pre done k he hd hb hk
    obtain ⟨k, rfl⟩ : ∃ j, k = j + 1 := ⟨k - 1, by omega⟩
    refine ⟨(pre.length : Int), ?_⟩
    rw [vigilref16_Put_L5, if_neg (by rw [he]; simp)]
    simp
  | cons p rest IH =>
    intro pre done k he hd hb hk
    simp only [List.length_cons] at hk
    obtain ⟨k, rfl⟩ : ∃ j, k = j + 1 := ⟨k - 1, by omega⟩
    have hlen : p0.l.length = pre.length + (rest.length + 1) := by rw [he]; simp
    have hg : p0.l[pre.length]? = some p := by rw [he]; simp
    obtain ⟨b, ok, h1, h2, h3⟩ := one_spec n hn p
    rw [mapM_cons_txt]
    cases ok with
    | false =>
      have hL : vigilref16_Put_L5 p0 n (k + 1) (bl (Lib.join done [32])) (pre.length : Int) = some .r := by
        rw [vigilref16_Put_L5, if_pos (by omega), atI_nat, hg, Option.bind_some, h1, Option.bind_some]
        rfl
      rw [h3 rfl]
      exact hL
    | true =>
      obtain ⟨w, rfl, hw⟩ := h2 rfl
      have hwl := (txt_bytes hw).2.2
      have hj := join_len done hb
      have hL : vigilref16_Put_L5 p0 n (k + 1) (bl (Lib.join done [32])) (pre.length : Int) = vigilref16_Put_L5 p0 n k (bl (Lib.join (done ++ [w]) [32])) ((pre ++ [p]).length : Int) := by
        have e1 : (pre.length : Int) + 1 = ((pre ++ [p]).length : Int) := by simp
        have e32 : (⟨#[32]⟩ : ByteArray) = bl [32] := rfl
        rw [vigilref16_Put_L5, if_pos (by omega), atI_nat, hg, Option.bind_some, h1, Option.bind_some, e32]
        by_cases h0 : (pre.length : Int) > 0
        · refine (if_pos h0).trans ?_
          rw [bl_app, bl_app]
          refine (if_pos (by rw [bl_size]; simp only [List.length_append, List.length_singleton]; omega)).trans ?_
          refine (if_pos (by rw [bl_size]; simp only [List.length_append, List.length_singleton]; omega)).trans ?_
          refine (if_pos (by unfold InR; omega)).trans ?_
          rw [join_snoc, if_neg (by intro hh; subst hh; simp at hd; omega), e1]
          simp
        · refine (if_neg h0).trans ?_
          rw [bl_app]
          refine (if_pos (by rw [bl_size]; simp only [List.length_append]; omega)).trans ?_
          refine (if_pos (by unfold InR; omega)).trans ?_
          have hdn : done = [] := List.length_eq_zero_iff.1 (by omega)
          subst hdn
          rw [e1]
          simp [Lib.join_nil, Lib.join_one]
      rw [hw, Option.bind_some, hL]
      have ih := IH (pre ++ [p]) (done ++ [w]) k (by rw [he]; simp) (by simp [hd]) (by
        intro t ht
        rcases List.mem_append.1 ht with ht | ht
        · exact hb t ht
        · simp only [List.mem_singleton] at ht; subst ht; exact hwl) (by omega)
      cases hm : rest.mapM txt with
      | none => rw [hm] at ih; exact ih
      | some ts =>
        rw [hm] at ih
        obtain ⟨i, ih⟩ := ih
        exact ⟨i, by rw [ih]; simp⟩
theorem rput_spec (n : Nat) (hn : 30000 ≤ n) (p0 : Sl GPick) (hl : p0.l.length ≤ 20000) : ∃ a e, vigilref16_Put n p0 = some (a, e) ∧ PutRes p0.l a e := by
  have hloop := rput_loop n (by omega) p0 hl p0.l [] [] n rfl rfl (by simp) (by omega)
  simp only [List.nil_append, List.length_nil] at hloop
  have ez : ((0 : Nat) : Int) = 0 := rfl
  have ej : bl (Lib.join [] [32]) = (⟨#[]⟩ : ByteArray) := rfl
  rw [ez, ej] at hloop
  cases hm : p0.l.mapM txt with
  | none =>
    rw [hm] at hloop
    refine ⟨bl [], 2, ?_, fun ts h => (by rw [hm] at h; cases h), fun _ => ⟨rfl, rfl⟩⟩
    rw [vigilref16_Put, if_neg (by omega), hloop]
    rfl
  | some ts =>
    rw [hm] at hloop
    obtain ⟨i, hloop⟩ := hloop
    refine ⟨bl (Lib.join ts [32]), 0, ?_, fun ts' h => by rw [hm] at h; cases h; exact ⟨rfl, rfl⟩, fun h => by rw [hm] at h; cases h⟩
    rw [vigilref16_Put, if_neg (by omega), hloop]
    rfl
theorem same_loop (n : Nat) (a b : Sl GPick) (h : a.l = b.l) (hl : a.l.length ≤ 1000000) : ∀ (m i k : Nat), m = a.l.length - i → i ≤ a.l.length → m < k → vigilref15_SamePicks_L4 a b n k (i : Int) = some (.e0 (a.l.length : Int))
  | m, i, 0, _, _, hk => by omega
  | m, i, k + 1, hm, hi, hk => by
    by_cases hlt : i < a.l.length
    · have h1 : a.l[i]? = some a.l[i] := List.getElem?_eq_getElem hlt
      have h2 : b.l[i]? = some a.l[i] := by rw [← h]; exact h1
      have e1 : (i : Int) + 1 = ((i + 1 : Nat) : Int) := by omega
      rw [vigilref15_SamePicks_L4, if_pos (by omega), atI_nat, h1, Option.bind_some, atI_nat, h2, Option.bind_some]
      refine (if_pos rfl).trans ?_
      refine (if_pos (by unfold InR; omega)).trans ?_
      rw [e1]
      exact same_loop n a b h hl (m - 1) (i + 1) k (by omega) (by omega) (by omega)
    · rw [vigilref15_SamePicks_L4, if_neg (by omega)]
      have : i = a.l.length := by omega
      rw [this]
theorem same_spec (n : Nat) (hn : 30000 ≤ n) (a b : Sl GPick) (h : a.l = b.l) (hl : a.l.length ≤ 20000) : vigilref15_SamePicks n a b = some true := by
  have hloop := same_loop n a b h (by omega) a.l.length 0 n (by omega) (by omega) (by omega)
  have ez : ((0 : Nat) : Int) = 0 := rfl
  rw [ez] at hloop
  rw [vigilref15_SamePicks, if_neg (by rw [h]; simp), hloop]
  rfl
/-! ### the laws -/
theorem mapM_pk_len : ∀ {l : List (List UInt8)} {ps : List GPick}, l.mapM pk = some ps → ps.length = l.length ∧ ps.mapM txt = some l
  | [], ps, h => by simp at h; subst h; simp
  | w :: l, ps, h => by
    have hc : (w :: l).mapM pk = (pk w).bind fun p => (l.mapM pk).map (p :: ·) := by
      rw [List.mapM_cons]
      cases pk w with
      | none => rfl
      | some w => cases l.mapM pk <;> rfl
    rw [hc, Option.bind_eq_some_iff] at h
    obtain ⟨p, hp, h⟩ := h
    rw [Option.map_eq_some_iff] at h
    obtain ⟨us, hu, rfl⟩ := h
    obtain ⟨h1, h2⟩ := mapM_pk_len hu
    refine ⟨by simp [h1], ?_⟩
    rw [mapM_cons_txt, txt_pk hp, Option.bind_some, h2]; rfl
theorem mapM_txt_pk : ∀ {l : List GPick} {ts : List (List UInt8)}, l.mapM txt = some ts → ts.mapM pk = some l
  | [], ts, h => by simp at h; subst h; simp
  | p :: l, ts, h => by
    rw [mapM_cons_txt, Option.bind_eq_some_iff] at h
    obtain ⟨w, hw, h⟩ := h
    rw [Option.map_eq_some_iff] at h
    obtain ⟨us, hu, rfl⟩ := h
    rw [List.mapM_cons, pk_txt hw, mapM_txt_pk hu]; rfl
theorem picksOf_fits {s : List UInt8} {ps : List GPick} (h : picksOf s = some ps) : (∀ p ∈ ps, Fits p) ∧ ps.length ≤ s.length + 1 ∧ ∃ ts, ps.mapM txt = some ts ∧ Lib.join ts [32] = s := by
  have ht : ∀ {ps : List GPick} {ts : List (List UInt8)}, ps.mapM txt = some ts → ∀ p ∈ ps, Fits p := by
    intro ps
    induction ps with
    | nil => intro ts _ p hp; cases hp
    | cons q ps ih =>
      intro ts h p hp
      rw [mapM_cons_txt, Option.bind_eq_some_iff] at h
      obtain ⟨w, hw, h⟩ := h
      rw [Option.map_eq_some_iff] at h
      obtain ⟨us, hu, rfl⟩ := h
      rcases List.mem_cons.1 hp with rfl | hp
      · unfold txt at hw
        split at hw
        · cases hw
        · rename_i hb
          unfold Fits InR
          omega
      · exact ih hu p hp
  unfold picksOf at h
  split at h
  · rename_i hs
    cases h; subst hs
    exact ⟨fun p hp => (by cases hp), by simp, [], rfl, rfl⟩
  · obtain ⟨h1, h2⟩ := mapM_pk_len h
    have := parts_len s
    exact ⟨ht h2, by omega, _, h2, join_parts s⟩
theorem picksOf_join {l : List GPick} {ts : List (List UInt8)} (h : l.mapM txt = some ts) : picksOf (Lib.join ts [32]) = some l := by
  obtain ⟨h1, h2⟩ := mapM_len h
  have h3 := mapM_txt_pk h
  cases ts with
  | nil => simp at h3; subst h3; rfl
  | cons t ts =>
    have ht := h2 t (by simp)
    have hne : Lib.join (t :: ts) [32] ≠ [] := by
      rw [Lib.join_cons]
      intro hh
      exact ht.2.1 (List.append_eq_nil_iff.1 hh).1
    unfold picksOf
    rw [if_neg hne, parts_join fun q hq => (h2 q hq).2.2]
    exact h3
theorem texts_true (p0 : Sl GPick) (p1 : ByteArray) (hf : ∀ p ∈ p0.l, Fits p) : vigillaw16_ScriptTexts 30000 p0 p1 = some true := by
  rw [vigillaw16_ScriptTexts]
  by_cases h1 : (p0.l.length : Int) > 200
  · rw [if_pos h1]
  rw [if_neg h1]
  by_cases h2 : (p1.size : Int) > 2000
  · rw [if_pos h2]
  rw [if_neg h2]
  refine (if_pos (by unfold Room; simp only [List.nil_append]; omega)).trans ?_
  have hp1 : p1 = bl p1.data.toList := (bl_of p1).symm
  generalize hs : p1.data.toList = s at hp1
  subst hp1
  rw [bl_size] at h2
  have hnil : (([] : List GPick) ++ p0.l) = p0.l := List.nil_append _
  obtain ⟨a, e, ha, hra⟩ := put_spec 30000 (by omega) (⟨false, false, ([] : List GPick) ++ p0.l⟩ : Sl GPick) (by simpa using hf) (by simp; omega)
  obtain ⟨b, f, hb, hrb⟩ := rput_spec 30000 (by omega) p0 (by omega)
  obtain ⟨c, g, hc, hc1, hc2⟩ := parse_spec 30000 (by omega) s (by omega)
  obtain ⟨d, i, hd, hd1, hd2⟩ := rparse_spec 30000 (by omega) s (by omega)
  rw [ha, Option.bind_some]
  dsimp only
  rw [hb, Option.bind_some]
  dsimp only
  rw [hc, Option.bind_some]
  dsimp only
  rw [hd, Option.bind_some]
  dsimp only
  have hra' : PutRes p0.l a e := by rw [← hnil]; exact hra
  obtain ⟨hab, hef⟩ := hra'.eq hrb
  refine (if_pos hab).trans ?_
  rw [vigillaw16_num, Option.bind_some]
  refine (if_pos hef).trans ?_
  have hcd : c.l = d.l ∧ g = i ∧ c.l.length ≤ 20000 := by
    cases hp : picksOf s with
    | none => obtain ⟨x1, x2⟩ := hc2 hp; obtain ⟨y1, y2⟩ := hd2 hp; exact ⟨x2.trans y2.symm, x1.trans y1.symm, by rw [x2]; simp⟩
    | some ps =>
      obtain ⟨x1, x2⟩ := hc1 ps hp; obtain ⟨y1, y2⟩ := hd1 ps hp
      have := (picksOf_fits hp).2.1
      exact ⟨x2.trans y2.symm, x1.trans y1.symm, by rw [x2]; omega⟩
  rw [same_spec 30000 (by omega) c d hcd.1 hcd.2.2, Option.bind_some]
  rw [cond_true, vigillaw16_num, Option.bind_some]
  exact if_pos hcd.2.1
theorem back_end (s : List UInt8) (hs : s.length ≤ 2000) : ((script_Parse 30000 (bl s)).bind fun (x_8, x_9) =>
    (vigillaw16_num 30000 x_9).bind fun x_10 =>
    if x_10 ≠ 0 then
      if (x_8.l.length : Int) = 0 then
        some true
      else some false
    else (script_Put 30000 x_8).bind fun (x_11, x_12) =>
    (vigillaw16_num 30000 x_12).bind fun x_13 =>
    if x_13 = 0 then
      if x_11 = bl s then
        some true
      else some false
    else some false) = some true := by
  obtain ⟨c, g, hc, hc1, hc2⟩ := parse_spec 30000 (by omega) s (by omega)
  rw [hc, Option.bind_some]
  dsimp only
  rw [vigillaw16_num, Option.bind_some]
  cases hp : picksOf s with
  | none =>
    obtain ⟨x1, x2⟩ := hc2 hp
    rw [if_pos (by omega), if_pos (by rw [x2]; rfl)]
  | some ps =>
    obtain ⟨x1, x2⟩ := hc1 ps hp
    obtain ⟨f1, f2, ts, f3, f4⟩ := picksOf_fits hp
    rw [if_neg (by omega)]
    obtain ⟨a, e, ha, hra⟩ := put_spec 30000 (by omega) c (by rw [x2]; exact f1) (by rw [x2]; omega)
    rw [ha, Option.bind_some]
    dsimp only
    rw [x2] at hra
    obtain ⟨y1, y2⟩ := hra.1 ts f3
    rw [vigillaw16_num, Option.bind_some, if_pos y1, if_pos (by rw [y2, f4])]
theorem back_true (p0 : Sl GPick) (p1 : ByteArray) (hf : ∀ p ∈ p0.l, Fits p) : vigillaw16_ScriptBack 30000 p0 p1 = some true := by
  rw [vigillaw16_ScriptBack]
  by_cases h1 : (p0.l.length : Int) > 200
  · rw [if_pos h1]
  rw [if_neg h1]
  by_cases h2 : (p1.size : Int) > 2000
  · rw [if_pos h2]
  rw [if_neg h2]
  have hp1 : p1 = bl p1.data.toList := (bl_of p1).symm
  generalize hs : p1.data.toList = s at hp1
  subst hp1
  rw [bl_size] at h2
  obtain ⟨a, e, ha, hra⟩ := put_spec 30000 (by omega) p0 hf (by omega)
  rw [ha, Option.bind_some]
  dsimp only
  have hj : vigillaw16_ScriptBack_J4 p0 (bl s) a e 30000 = some .m ∨ vigillaw16_ScriptBack_J4 p0 (bl s) a e 30000 = some .m_2 := by
    unfold vigillaw16_ScriptBack_J4
    rw [vigillaw16_num, Option.bind_some]
    cases hm : p0.l.mapM txt with
    | none =>
      obtain ⟨x1, x2⟩ := hra.2 hm
      right
      rw [if_neg (by omega)]
    | some ts =>
      obtain ⟨x1, x2⟩ := hra.1 ts hm
      obtain ⟨l1, l2⟩ := mapM_len hm
      have hjl := join_len ts fun t ht => (l2 t ht).1
      left
      rw [if_pos x1, x2]
      obtain ⟨c, g, hc, hc1, hc2⟩ := parse_spec 30000 (by omega) (Lib.join ts [32]) (by omega)
      obtain ⟨y1, y2⟩ := hc1 _ (picksOf_join hm)
      rw [hc, Option.bind_some]
      dsimp only
      rw [vigillaw16_num, Option.bind_some, if_neg (by omega), same_spec 30000 (by omega) p0 c y2.symm (by omega)]
      rfl
  rcases hj with hj | hj
  · rw [hj, Option.bind_some]
    exact back_end s (by omega)
  · rw [hj, Option.bind_some]
    exact back_end s (by omega)
end Go.Proofs.YtilipgopjiokfaaGreatDoor
