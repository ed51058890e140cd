/-
  Part of the proof: printed by the session's own program out of the program's form, or typed; it states no claim by itself.
-/
import Derived.Test.YtilipgopjiokfaaGreatDoorPb
/-
  Texts of worlds: both functions parse just the worlds' texts; the statements WorldTexts, WorldBack.
-/
set_option linter.unusedVariables false
set_option linter.unusedSimpArgs false
namespace Go.Proofs.YtilipgopjiokfaaGreatDoor
open Go Go.Abs Go.Proofs

abbrev noW : GWorld := ⟨Sl.nil, Sl.nil, Sl.nil⟩
/-- What parsing a text comes to. -/
def WP (s : List UInt8) (c : GWorld) (ok : Bool) : Prop :=
  (ok = true → FitW c ∧ SmallW c ∧ textW c.threads.l c.locks.l c.vals.l = s) ∧ (ok = false → c = noW ∧ ∀ T K V, (∀ t ∈ T, FitT t) → (∀ t ∈ K, FitK t) → (∀ t ∈ V, FitV t) → textW T K V ≠ s)
theorem WP.no {s : List UInt8} (h : ∀ T K V, (∀ t ∈ T, FitT t) → (∀ t ∈ K, FitK t) → (∀ t ∈ V, FitV t) → textW T K V ≠ s) : WP s noW false := ⟨by simp, fun _ => ⟨rfl, h⟩⟩
theorem WP.eq {s : List UInt8} {c d : GWorld} {e f : Bool} (h : WP s c e) (k : WP s d f) : e = f ∧ SameW c d ∧ SmallW c := by
  cases e with
  | true =>
    obtain ⟨h1, h2, h3⟩ := h.1 rfl
    cases f with
    | true =>
      obtain ⟨k1, k2, k3⟩ := k.1 rfl
      have hw : words c.threads.l c.locks.l c.vals.l = words d.threads.l d.locks.l d.vals.l := by rw [← cuts_text, ← cuts_text, h3, k3]
      obtain ⟨a1, a2, a3⟩ := words_inj h1.t h1.k h1.v k1.t k1.k k1.v hw
      exact ⟨rfl, ⟨a1, a2, a3⟩, h2⟩
    | false => exact absurd h3 ((k.2 rfl).2 _ _ _ h1.t h1.k h1.v)
  | false =>
    obtain ⟨rfl, h2⟩ := h.2 rfl
    cases f with
    | true =>
      obtain ⟨k1, k2, k3⟩ := k.1 rfl
      exact absurd k3 (h2 _ _ _ k1.t k1.k k1.v)
    | false =>
      obtain ⟨rfl, _⟩ := k.2 rfl
      exact ⟨rfl, ⟨rfl, rfl, rfl⟩, by simp [SmallW, Sl.nil]⟩
theorem drop_at {α : Type} (P Q : List α) (x : α) : (P ++ x :: Q).drop (P.length + 1) = Q := by
  rw [show P ++ x :: Q = (P ++ [x]) ++ Q by simp]
  exact List.drop_left' (by simp)
/-- The last step of both: a world is printed, and its text compared. -/
theorem w_end {s : List UInt8} {c : GWorld} {t : List UInt8} (hf : FitW c) (hs : SmallW c) (ht : t = textW c.threads.l c.locks.l c.vals.l) :
    ∃ c' ok, (if bl t = bl s then some (c, true) else some (noW, false)) = some (c', ok) ∧ ((∀ T K V, (∀ t ∈ T, FitT t) → (∀ t ∈ K, FitK t) → (∀ t ∈ V, FitV t) → textW T K V = s → c.threads.l = T ∧ c.locks.l = K ∧ c.vals.l = V) → WP s c' ok) := by
  by_cases h : t = s
  · rw [if_pos (by rw [h])]
    exact ⟨_, _, rfl, fun _ => ⟨fun _ => ⟨hf, hs, by rw [← ht, h]⟩, by simp⟩⟩
  · rw [if_neg (by rw [bl_inj]; exact h)]
    refine ⟨_, _, rfl, fun hh => WP.no fun T K V h1 h2 h3 e => h ?_⟩
    obtain ⟨a, b, d⟩ := hh T K V h1 h2 h3 e
    rw [ht, a, b, d, e]
theorem wparse_spec (n : Nat) (hn : 30000 ≤ n) (s : List UInt8) (hs : s.length ≤ 19900) : ∃ c ok, world_Parse n (bl s) = some (c, ok) ∧ WP s c ok := by
  have hcl := cuts_len 32 s
  have hcz := cuts_size 32 s
  have hyes : ∀ T K V, textW T K V = s → cuts 32 s = words T K V := fun T K V h => by rw [← h, cuts_text]
  have e47 : (⟨#[47]⟩ : ByteArray) = bl [47] := rfl
  unfold world_Parse
  rw [if_pos (by rw [bl_size]; omega), splitS_one, e47]
  generalize cuts 32 s = L at hcl hcz hyes
  rcases index_spec n false true L (by omega) (by omega) with ⟨P, Q, rfl, hP, h1⟩ | ⟨hno, h1⟩
  · rw [h1, Option.bind_some]
    simp only [List.length_append, List.length_cons] at hcl
    have hyes' : ∀ T K V, textW T K V = s → P = T.map (fun t => wN (tN t)) ∧ Q = K.map (fun l => wN (kN l)) ++ [47] :: V.map fun v => wN (vN v) := fun T K V h => first_uniq hP (no47 _ _) (hyes T K V h)
    have eP : (((P ++ [47] :: Q).map bl).drop ((P.length : Int) + 1).toNat).take (((P ++ [47] :: Q).map bl).length - ((P.length : Int) + 1).toNat) = Q.map bl := by
      have e : ((P.length : Int) + 1).toNat = P.length + 1 := by omega
      rw [e, ← List.map_drop, drop_at, List.take_of_length_le]
      simp; omega
    have eL : ((P ++ [47] :: Q).map bl).length = P.length + (Q.length + 1) := by simp
    rw [if_neg (by omega), if_pos (by unfold InR; omega), if_pos (by rw [eL]; omega), eP]
    rcases index_spec n false (true && ((P ++ [47] :: Q).map bl).length == ((P ++ [47] :: Q).map bl).length) Q (by omega) (by omega) with ⟨R, S, rfl, hR, h2⟩ | ⟨hno, h2⟩
    · rw [h2, Option.bind_some, if_neg (by omega), if_pos (by rw [eL]; omega)]
      simp only [List.length_append, List.length_cons] at hcl eL
      have hyes2 : ∀ T K V, textW T K V = s → P = T.map (fun t => wN (tN t)) ∧ R = K.map (fun l => wN (kN l)) ∧ S = V.map fun v => wN (vN v) := fun T K V h => by
        obtain ⟨a, b⟩ := hyes' T K V h
        obtain ⟨b, c⟩ := first_uniq hR (no47 _ _) b
        exact ⟨a, b, c⟩
      have z : ∀ w, w ∈ P ∨ w ∈ R ∨ w ∈ S → w.length ≤ 20000 := fun w hw => by
        have := hcz w (by
          rcases hw with hw | hw | hw
          · exact List.mem_append_left _ hw
          · exact List.mem_append_right _ (List.mem_cons_of_mem _ (List.mem_append_left _ hw))
          · exact List.mem_append_right _ (List.mem_cons_of_mem _ (List.mem_append_right _ (List.mem_cons_of_mem _ hw))))
        omega
      have e1 : (((P ++ [47] :: (R ++ [47] :: S)).map bl).drop 0).take ((P.length : Int).toNat - 0) = P.map bl := by
        have e : (P.length : Int).toNat - 0 = P.length := by omega
        rw [e, List.drop_zero, ← List.map_take]
        simp
      have e2 : (((P ++ [47] :: (R ++ [47] :: S)).map bl).drop ((P.length : Int) + 1).toNat).take ((((P.length : Int) + 1) + (R.length : Int)).toNat - ((P.length : Int) + 1).toNat) = R.map bl := by
        have a : ((P.length : Int) + 1).toNat = P.length + 1 := by omega
        have b : (((P.length : Int) + 1) + (R.length : Int)).toNat - (P.length + 1) = R.length := by omega
        rw [a, b, ← List.map_drop, drop_at, ← List.map_take]
        simp
      have e3 : (((P ++ [47] :: (R ++ [47] :: S)).map bl).drop (((P.length : Int) + 2) + (R.length : Int)).toNat).take (((P ++ [47] :: (R ++ [47] :: S)).map bl).length - (((P.length : Int) + 2) + (R.length : Int)).toNat) = S.map bl := by
        have a : (((P.length : Int) + 2) + (R.length : Int)).toNat = (P ++ [47] :: R).length + 1 := by simp; omega
        rw [a, ← List.map_drop, show P ++ [47] :: (R ++ [47] :: S) = (P ++ [47] :: R) ++ [47] :: S by simp, drop_at, List.take_of_length_le]
        simp; omega
      obtain ⟨c1, o1, r1, r1a, r1b⟩ := world_row_spec n hn false (true && (P.length : Int).toNat == ((P ++ [47] :: (R ++ [47] :: S)).map bl).length) P (by omega) (fun w hw => z w (.inl hw))
      obtain ⟨c2, o2, r2, r2a, r2b⟩ := world_row_2_spec n hn false (true && (((P.length : Int) + 1) + (R.length : Int)).toNat == ((P ++ [47] :: (R ++ [47] :: S)).map bl).length) R (by omega) (fun w hw => z w (.inr (.inl hw)))
      obtain ⟨c3, o3, r3, r3a, r3b⟩ := world_row_3_spec n hn false (true && ((P ++ [47] :: (R ++ [47] :: S)).map bl).length == ((P ++ [47] :: (R ++ [47] :: S)).map bl).length) S (by omega) (fun w hw => z w (.inr (.inr hw)))
      rw [e1, r1, Option.bind_some]
      dsimp only
      rw [if_pos (by unfold InR; omega), if_pos (by rw [eL]; omega), e2, r2, Option.bind_some]
      dsimp only
      rw [if_pos (by unfold InR; omega), if_pos (by unfold InR; omega), if_pos (by rw [eL]; omega), e3, r3, Option.bind_some]
      dsimp only
      cases o1 with
      | false =>
        rw [cond_false]
        refine ⟨_, _, rfl, WP.no fun T K V h1 h2 h3 e => ?_⟩
        have := (r1b T h1 (hyes2 T K V e).1).1; cases this
      | true =>
      cases o2 with
      | false =>
        rw [cond_true, cond_false]
        refine ⟨_, _, rfl, WP.no fun T K V h1 h2 h3 e => ?_⟩
        have := (r2b K h2 (hyes2 T K V e).2.1).1; cases this
      | true =>
      cases o3 with
      | false =>
        rw [cond_true, cond_true, cond_false]
        refine ⟨_, _, rfl, WP.no fun T K V h1 h2 h3 e => ?_⟩
        have := (r3b V h3 (hyes2 T K V e).2.2).1; cases this
      | true =>
      rw [cond_true, cond_true, cond_true]
      have f : FitW ⟨c1, c2, c3⟩ := ⟨(r1a rfl).2, (r2a rfl).2, (r3a rfl).2⟩
      have sm : SmallW ⟨c1, c2, c3⟩ := by
        unfold SmallW
        have := (r1a rfl).1; have := (r2a rfl).1; have := (r3a rfl).1
        show c1.l.length + c2.l.length + c3.l.length ≤ _
        omega
      rw [text_spec n hn _ f sm, Option.bind_some]
      obtain ⟨c', ok, hc, hh⟩ := w_end (s := s) f sm rfl
      refine ⟨c', ok, hc, hh fun T K V h1 h2 h3 e => ?_⟩
      obtain ⟨y1, y2, y3⟩ := hyes2 T K V e
      exact ⟨(r1b T h1 y1).2, (r2b K h2 y2).2, (r3b V h3 y3).2⟩
    · rw [h2, Option.bind_some, if_pos (by omega)]
      refine ⟨_, _, rfl, WP.no fun T K V _ _ _ e => hno ?_⟩
      rw [(hyes' T K V e).2]; simp
  · rw [h1, Option.bind_some, if_pos (by omega)]
    refine ⟨_, _, rfl, WP.no fun T K V _ _ _ e => hno ?_⟩
    rw [hyes T K V e]; simp [words]
end Go.Proofs.YtilipgopjiokfaaGreatDoor

/-
  Texts of worlds: the document's function parses just the worlds' texts; the statements WorldTexts, WorldBack.
-/
set_option linter.unusedVariables false
set_option linter.unusedSimpArgs false
namespace Go.Proofs.YtilipgopjiokfaaGreatDoor
open Go Go.Abs Go.Proofs

theorem rsplit_loop (n : Nat) (s : List UInt8) (c : UInt8) (hs : s.length ≤ 100000) : ∀ (rest pre cur : List UInt8) (acc : List ByteArray) (k : Nat), s = pre ++ rest → (∀ b ∈ cur, b ≠ c) → rest.length < k → acc.length + rest.length ≤ 200000 → cur.length + rest.length ≤ 200000 →
    ∃ v5 v6 v7, vigilref14_split_L4 (bl s) (c.toNat : Int) n k acc (bl cur) (pre.length : Int) = some (.e0 v5 v6 v7) ∧ v5 ++ [v6] = acc ++ (cuts c (cur ++ rest)).map bl := by
  intro rest
  induction rest with
  | nil =>
    intro pre cur acc k h1 hc hk _ _
    obtain ⟨k, rfl⟩ : ∃ j, k = j + 1 := ⟨k - 1, by omega⟩
    refine ⟨acc, bl cur, (pre.length : Int), ?_, ?_⟩
    · rw [vigilref14_split_L4, if_neg (by rw [bl_size, h1]; simp)]
    · rw [List.append_nil, cuts_none hc]; rfl
  | cons b rest IH =>
    intro pre cur acc k h1 hc hk ha hu
    simp only [List.length_cons] at hk ha hu
    obtain ⟨k, rfl⟩ : ∃ j, k = j + 1 := ⟨k - 1, by omega⟩
    have hlen : s.length = pre.length + (rest.length + 1) := by rw [h1]; simp
    have hg : s[pre.length]? = some b := by rw [h1]; simp
    have e0 : (⟨#[]⟩ : ByteArray) = bl [] := rfl
    have e1 : (pre.length : Int) + 1 = ((pre ++ [b]).length : Int) := by simp
    have e2 : s = (pre ++ [b]) ++ rest := by rw [h1]; simp
    rw [vigilref14_split_L4, if_pos (by rw [bl_size]; omega), bl_byte, hg, Option.map_some, Option.bind_some]
    by_cases hb : b = c
    · subst hb
      rw [if_pos rfl, if_pos (by unfold Room; simp; omega), if_pos (by unfold InR; omega), e0, e1]
      obtain ⟨v5, v6, v7, h, hv⟩ := IH (pre ++ [b]) [] (acc ++ [bl cur]) k e2 (by simp) (by omega) (by simp; omega) (by simp; omega)
      refine ⟨v5, v6, v7, h, ?_⟩
      rw [hv, cuts_at hc]
      simp
    · have hbi : ¬ (b.toNat : Int) = (c.toNat : Int) := fun e => hb (UInt8.toNat_inj.1 (by omega))
      have ex : (bl s).extract (pre.length : Int).toNat ((pre.length : Int) + 1).toNat = bl [b] := by
        have a1 : (pre.length : Int).toNat = pre.length := by omega
        have a2 : ((pre.length : Int) + 1).toNat = pre.length + 1 := by omega
        rw [a1, a2, bl_ext, bl_inj, h1, List.take_append, List.drop_append]
        simp [List.take_of_length_le (show pre.length ≤ pre.length + 1 by omega)]
      rw [if_neg hbi, if_pos (by unfold InR; omega), if_pos (by rw [bl_size]; omega), ex, bl_app, if_pos (by rw [bl_size]; simp; omega), e1]
      obtain ⟨v5, v6, v7, h, hv⟩ := IH (pre ++ [b]) (cur ++ [b]) acc k e2 (fun x hx => by
        rcases List.mem_append.1 hx with hx | hx
        · exact hc x hx
        · simp only [List.mem_singleton] at hx; subst hx; exact hb) (by omega) (by omega) (by simp; omega)
      exact ⟨v5, v6, v7, h, by rw [hv]; simp⟩
theorem rsplit_spec (n : Nat) (s : List UInt8) (c : UInt8) (hs : s.length ≤ 100000) (hn : s.length < n) : vigilref14_split n (bl s) (c.toNat : Int) = some ((cuts c s).map bl) := by
  obtain ⟨v5, v6, v7, h, hv⟩ := rsplit_loop n s c hs s [] [] [] n rfl (by simp) hn (by simp; omega) (by simp; omega)
  have ez : ((([] : List UInt8).length : Nat) : Int) = 0 := rfl
  have e0 : (⟨#[]⟩ : ByteArray) = bl [] := rfl
  rw [ez] at h
  unfold vigilref14_split
  rw [e0, h]
  simp only [Option.bind_some]
  rw [hv]
  have := cuts_len c s
  rw [if_pos (by unfold Room; simp; omega)]
  simp
theorem rnum_loop (n : Nat) (hn : 30 ≤ n) (ws : List (List UInt8)) (hl : ws.length ≤ 100000) (hz : ∀ w ∈ ws, w.length ≤ 1000000) : ∀ (rest pre : List (List UInt8)) (acc : List Int) (k : Nat), ws = pre ++ rest → rest.length < k → acc.length + rest.length ≤ 200000 →
    (∃ ys v, vigilref14_numbers_L3 (Sl.gr (ws.map bl)) n k acc (pre.length : Int) = some (.e0 (acc ++ ys) v) ∧ (∀ y ∈ ys, InR y) ∧ rest = ys.map iL) ∨ (vigilref14_numbers_L3 (Sl.gr (ws.map bl)) n k acc (pre.length : Int) = some .r ∧ ∀ ns : List Int, (∀ y ∈ ns, InR y) → rest ≠ ns.map iL) := by
  intro rest
  induction rest with
  | nil =>
    intro pre acc k h1 hk _
    obtain ⟨k, rfl⟩ : ∃ j, k = j + 1 := ⟨k - 1, by omega⟩
    refine .inl ⟨[], (pre.length : Int), ?_, by simp, rfl⟩
    rw [vigilref14_numbers_L3]
    refine (if_neg (by show ¬ _ < ((ws.map bl).length : Int); rw [h1]; simp)).trans ?_
    simp
  | cons w rest IH =>
    intro pre acc k h1 hk ha
    simp only [List.length_cons] at hk ha
    obtain ⟨k, rfl⟩ : ∃ j, k = j + 1 := ⟨k - 1, by omega⟩
    have hlen : (ws.map bl).length = pre.length + (rest.length + 1) := by rw [h1]; simp
    have hlen' : ws.length = pre.length + (rest.length + 1) := by rw [h1]; simp
    have hg : (ws.map bl)[pre.length]? = some (bl w) := by rw [h1]; simp
    have e1 : (pre.length : Int) + 1 = ((pre ++ [w]).length : Int) := by simp
    obtain ⟨x, ok, hx, x1, x2⟩ := num14_spec n hn w (hz w (by rw [h1]; simp))
    have hhead : vigilref14_numbers_L3 (Sl.gr (ws.map bl)) n (k + 1) acc (pre.length : Int) = bif ok then
        if Room 8 (acc ++ ([x] : List Int)).length then if InR ((pre.length : Int) + 1) then vigilref14_numbers_L3 (Sl.gr (ws.map bl)) n k (acc ++ ([x] : List Int)) ((pre.length : Int) + 1)
        else none
        else none
      else some (.r) := by
      rw [vigilref14_numbers_L3]
      refine (if_pos (by show _ < ((ws.map bl).length : Int); omega)).trans ?_
      show (atI (ws.map bl) _).bind _ = _
      rw [atI_nat, hg, Option.bind_some, hx, Option.bind_some]
    rw [hhead]
    cases ok with
    | false =>
      refine .inr ⟨rfl, fun ns hns h => ?_⟩
      cases ns with
      | nil => cases h
      | cons m ns =>
        simp only [List.map_cons, List.cons.injEq] at h
        exact x2 rfl m (hns m (by simp)) h.1
    | true =>
      obtain ⟨y1, y2⟩ := x1 rfl
      rw [cond_true, if_pos (by unfold Room; simp; omega), if_pos (by unfold InR; omega), e1]
      rcases IH (pre ++ [w]) (acc ++ [x]) k (by rw [h1]; simp) (by omega) (by simp; omega) with ⟨ys, v, h, h2, h3⟩ | ⟨h, hno⟩
      · refine .inl ⟨x :: ys, v, by rw [h]; simp, fun y hy => ?_, by rw [List.map_cons, ← y2, ← h3]⟩
        rcases List.mem_cons.1 hy with rfl | hy
        · exact y1
        · exact h2 y hy
      · refine .inr ⟨h, fun ns hns h => ?_⟩
        cases ns with
        | nil => cases h
        | cons m ns =>
          simp only [List.map_cons, List.cons.injEq] at h
          exact hno ns (fun y hy => hns y (by simp [hy])) h.2
/-- The numbers of a word. -/
theorem rword_spec (n : Nat) (hn : 30000 ≤ n) (w : List UInt8) (hw : w.length ≤ 20000) : ∃ x ok, ((vigilref14_split n (bl w) 58).bind fun x_2 => vigilref14_numbers n (Sl.gr x_2)) = some (x, ok) ∧ (ok = true → (∀ y ∈ x.l, InR y) ∧ w = wN x.l) ∧
    ∀ ns : List Int, ns ≠ [] → (∀ y ∈ ns, InR y) → w = wN ns → ok = true ∧ x.l = ns := by
  have e58 : (58 : Int) = ((58 : UInt8).toNat : Int) := rfl
  have hcl := cuts_len 58 w
  rw [e58, rsplit_spec n w 58 (by omega) (by omega), Option.bind_some]
  have ez : ((([] : List (List UInt8)).length : Nat) : Int) = 0 := rfl
  have h := rnum_loop n (by omega) (cuts 58 w) (by omega) (fun q hq => by have := cuts_size 58 w q hq; omega) (cuts 58 w) [] [] n rfl (by omega) (by simp; omega)
  rw [ez] at h
  unfold vigilref14_numbers
  rcases h with ⟨ys, v, h, h2, h3⟩ | ⟨h, hno⟩
  · rw [h]
    refine ⟨Sl.gr ys, true, rfl, fun _ => ⟨h2, ?_⟩, fun ns h4 h5 h6 => ⟨rfl, ?_⟩⟩
    · have := join_cuts 58 w
      rw [h3] at this
      exact this.symm
    · refine map_iL_inj h2 h5 ?_
      show ys.map iL = _
      rw [← h3, h6, cuts_wN h4]
  · rw [h]
    refine ⟨Sl.nil, false, rfl, by simp, fun ns h4 h5 h6 => ?_⟩
    exact absurd (by rw [h6, cuts_wN h4]) (hno ns h5)
/-- A step of the loop, at a word that is no slash. -/
theorem rp_head (n : Nat) (p0 : ByteArray) (ws : List (List UInt8)) (k i : Nat) (part : Int) (T : List GThread) (K : List GLock) (V : List Int) (w : List UInt8) (hg : ws[i]? = some w) (hw : w ≠ [47]) (x : Sl Int) (ok : Bool)
    (hx : ((vigilref14_split n (bl w) 58).bind fun x_2 => vigilref14_numbers n (Sl.gr x_2)) = some (x, ok)) :
    vigilref14_Parse_L5 p0 (ws.map bl) n (k + 1) part (i : Int) T K V = bif ok then
        if part = 0 then
          if (x.l.length : Int) = 5 then
            (atI x.l 0).bind fun v50 =>
            (atI x.l 1).bind fun v53 =>
            (atI x.l 2).bind fun v56 =>
            (atI x.l 3).bind fun v59 =>
            (atI x.l 4).bind fun v62 =>
            if Room 40 (T ++ ([({ role := v50, loc := v53, state := v56, left := v59, depth := v62 } : GThread)] : List GThread)).length then if InR ((i : Int) + 1) then vigilref14_Parse_L5 p0 (ws.map bl) n k part ((i : Int) + 1) (T ++ ([({ role := v50, loc := v53, state := v56, left := v59, depth := v62 } : GThread)] : List GThread)) K V
            else none
            else none
          else some (.r T K V)
        else if part = 1 then
          if (x.l.length : Int) = 2 then
            (atI x.l 0).bind fun v82 =>
            (atI x.l 1).bind fun v85 =>
            if Room 16 (K ++ ([({ owner := v82, depth := v85 } : GLock)] : List GLock)).length then if InR ((i : Int) + 1) then vigilref14_Parse_L5 p0 (ws.map bl) n k part ((i : Int) + 1) T (K ++ ([({ owner := v82, depth := v85 } : GLock)] : List GLock)) V
            else none
            else none
          else some (.r T K V)
        else if part = 2 then
          if (x.l.length : Int) = 1 then
            (atI x.l 0).bind fun v105 =>
            if Room 8 (V ++ ([v105] : List Int)).length then if InR ((i : Int) + 1) then vigilref14_Parse_L5 p0 (ws.map bl) n k part ((i : Int) + 1) T K (V ++ ([v105] : List Int))
            else none
            else none
          else some (.r T K V)
        else some (.r T K V)
      else some (.r T K V) := by
  have e47 : (⟨#[47]⟩ : ByteArray) = bl [47] := rfl
  have hlt : i < ws.length := (List.getElem?_eq_some_iff.1 hg).1
  have hg' : (ws.map bl)[i]? = some (bl w) := by rw [List.getElem?_map, hg]; rfl
  rw [vigilref14_Parse_L5, if_pos (by rw [List.length_map]; omega), atI_nat, hg', Option.bind_some, e47, if_neg (by rw [bl_inj]; exact hw)]
  rw [Option.bind_eq_some_iff] at hx
  obtain ⟨u, h1, h2⟩ := hx
  rw [h1, Option.bind_some, h2, Option.bind_some]
  dsimp only
  cases ok with
  | false => rfl
  | true =>
    rw [cond_true, cond_true]
    by_cases h0 : part = 0
    · subst h0
      rw [if_pos rfl, if_pos rfl]
      by_cases h5 : (x.l.length : Int) = 5
      · rw [if_pos h5, if_pos h5]
      · rw [if_neg h5, if_neg h5, if_neg (by decide), if_neg (by decide)]
    · rw [if_neg h0, if_neg h0]
      by_cases h1 : part = 1
      · subst h1
        rw [if_pos rfl, if_pos rfl]
        by_cases h2 : (x.l.length : Int) = 2
        · rw [if_pos h2, if_pos h2]
        · rw [if_neg h2, if_neg h2, if_neg (by decide)]
      · rw [if_neg h1, if_neg h1]
theorem rp_slash (n : Nat) (p0 : ByteArray) (ws : List (List UInt8)) (k i : Nat) (part : Int) (T : List GThread) (K : List GLock) (V : List Int) (hg : ws[i]? = some [47]) (hp : InR (part + 1)) (hi : i ≤ 1000000) :
    vigilref14_Parse_L5 p0 (ws.map bl) n (k + 1) part (i : Int) T K V = vigilref14_Parse_L5 p0 (ws.map bl) n k (part + 1) ((i + 1 : Nat) : Int) T K V := by
  have e47 : (⟨#[47]⟩ : ByteArray) = bl [47] := rfl
  have hlt : i < ws.length := (List.getElem?_eq_some_iff.1 hg).1
  have hg' : (ws.map bl)[i]? = some (bl [47]) := by rw [List.getElem?_map, hg]; rfl
  have e1 : (i : Int) + 1 = ((i + 1 : Nat) : Int) := by omega
  rw [vigilref14_Parse_L5, if_pos (by rw [List.length_map]; omega), atI_nat, hg', Option.bind_some, e47, if_pos rfl, if_pos hp, if_pos (by unfold InR; omega), e1]
theorem rp_total (n : Nat) (hn : 30000 ≤ n) (p0 : ByteArray) (ws : List (List UInt8)) (hl : ws.length ≤ 20000) (hz : ∀ w ∈ ws, w.length ≤ 20000) : ∀ (rest pre : List (List UInt8)) (part : Int) (T : List GThread) (K : List GLock) (V : List Int) (k : Nat), ws = pre ++ rest → rest.length < k → 0 ≤ part → part + rest.length ≤ 100000 → (∀ t ∈ T, FitT t) → (∀ t ∈ K, FitK t) → (∀ t ∈ V, FitV t) → T.length + K.length + V.length + rest.length ≤ 20000 →
    ∃ o, vigilref14_Parse_L5 p0 (ws.map bl) n k part (pre.length : Int) T K V = some o ∧ ∀ a b T' K' V', o = .e0 a b T' K' V' → (∀ t ∈ T', FitT t) ∧ (∀ t ∈ K', FitK t) ∧ (∀ t ∈ V', FitV t) ∧ T'.length + K'.length + V'.length ≤ 20000 := by
  intro rest
  induction rest with
  | nil =>
    intro pre part T K V k h1 hk _ _ f1 f2 f3 hs
    obtain ⟨k, rfl⟩ : ∃ j, k = j + 1 := ⟨k - 1, by omega⟩
    refine ⟨_, by rw [vigilref14_Parse_L5, if_neg (by rw [h1]; simp)], fun a b T' K' V' e => ?_⟩
    cases e
    exact ⟨f1, f2, f3, by simpa using hs⟩
  | cons w rest IH =>
    intro pre part T K V k h1 hk hp hp2 f1 f2 f3 hs
    simp only [List.length_cons] at hk hp2 hs
    obtain ⟨k, rfl⟩ : ∃ j, k = j + 1 := ⟨k - 1, by omega⟩
    have hg : ws[pre.length]? = some w := by rw [h1]; simp
    have hlen : ws.length = pre.length + (rest.length + 1) := by rw [h1]; simp
    have e0 : ws = (pre ++ [w]) ++ rest := by rw [h1]; simp
    have e1 : (pre.length : Int) + 1 = ((pre ++ [w]).length : Int) := by simp
    have e2 : ((pre.length + 1 : Nat) : Int) = ((pre ++ [w]).length : Int) := by simp
    by_cases hw : w = [47]
    · subst hw
      rw [rp_slash n p0 ws k pre.length part T K V hg (by unfold InR; omega) (by omega), e2]
      exact IH (pre ++ [[47]]) (part + 1) T K V k e0 (by omega) (by omega) (by omega) f1 f2 f3 (by omega)
    · obtain ⟨x, ok, hx, x1, _⟩ := rword_spec n hn w (hz w (by rw [h1]; simp))
      rw [rp_head n p0 ws k pre.length part T K V w hg hw x ok hx]
      have hr : ∃ o, (some (.r T K V) : Option vigilref14_Parse_L5O) = some o ∧ ∀ a b T' K' V', o = .e0 a b T' K' V' → (∀ t ∈ T', FitT t) ∧ (∀ t ∈ K', FitK t) ∧ (∀ t ∈ V', FitV t) ∧ T'.length + K'.length + V'.length ≤ 20000 :=
        ⟨_, rfl, fun a b T' K' V' e => by cases e⟩
      cases ok with
      | false => exact hr
      | true =>
        rw [cond_true]
        obtain ⟨hR, _⟩ := x1 rfl
        obtain ⟨fl, xl, ul⟩ := x
        simp only at hR ⊢
        by_cases h0 : part = 0
        · rw [if_pos h0]
          by_cases h5 : (ul.length : Int) = 5
          · rw [if_pos h5]
            match ul, h5 with
            | [a, b, c, d, e], _ =>
            show ∃ o, (if Room 40 (T ++ [(⟨a, b, c, d, e⟩ : GThread)]).length then _ else none) = some o ∧ _
            rw [if_pos (by unfold Room; simp; omega), if_pos (by unfold InR; omega), e1]
            exact IH (pre ++ [w]) part (T ++ [⟨a, b, c, d, e⟩]) K V k e0 (by omega) hp (by omega) (fun t ht => by
              rcases List.mem_append.1 ht with ht | ht
              · exact f1 t ht
              · simp only [List.mem_singleton] at ht; subst ht; exact hR) f2 f3 (by simp; omega)
          · rw [if_neg h5]; exact hr
        · rw [if_neg h0]
          by_cases h1' : part = 1
          · rw [if_pos h1']
            by_cases h5 : (ul.length : Int) = 2
            · rw [if_pos h5]
              match ul, h5 with
              | [a, b], _ =>
              show ∃ o, (if Room 16 (K ++ [(⟨a, b⟩ : GLock)]).length then _ else none) = some o ∧ _
              rw [if_pos (by unfold Room; simp; omega), if_pos (by unfold InR; omega), e1]
              exact IH (pre ++ [w]) part T (K ++ [⟨a, b⟩]) V k e0 (by omega) hp (by omega) f1 (fun t ht => by
                rcases List.mem_append.1 ht with ht | ht
                · exact f2 t ht
                · simp only [List.mem_singleton] at ht; subst ht; exact hR) f3 (by simp; omega)
            · rw [if_neg h5]; exact hr
          · rw [if_neg h1']
            by_cases h2' : part = 2
            · rw [if_pos h2']
              by_cases h5 : (ul.length : Int) = 1
              · rw [if_pos h5]
                match ul, h5 with
                | [a], _ =>
                show ∃ o, (if Room 8 (V ++ [a]).length then _ else none) = some o ∧ _
                rw [if_pos (by unfold Room; simp; omega), if_pos (by unfold InR; omega), e1]
                exact IH (pre ++ [w]) part T K (V ++ [a]) k e0 (by omega) hp (by omega) f1 f2 (fun t ht => by
                  rcases List.mem_append.1 ht with ht | ht
                  · exact f3 t ht
                  · simp only [List.mem_singleton] at ht; rw [ht]; exact hR a (by simp)) (by simp; omega)
              · rw [if_neg h5]; exact hr
            · rw [if_neg h2']; exact hr
theorem rp_runT (n : Nat) (hn : 30000 ≤ n) (p0 : ByteArray) (ws : List (List UInt8)) (hl : ws.length ≤ 20000) (hz : ∀ w ∈ ws, w.length ≤ 20000) (K : List GLock) (V : List Int) : ∀ (T2 : List GThread) (pre R : List (List UInt8)) (T : List GThread) (k : Nat), ws = pre ++ (T2.map (fun t => wN (tN t)) ++ R) → (∀ t ∈ T2, FitT t) → T.length + T2.length ≤ 30000 →
    vigilref14_Parse_L5 p0 (ws.map bl) n (k + T2.length) 0 (pre.length : Int) T K V = vigilref14_Parse_L5 p0 (ws.map bl) n k 0 ((pre.length + T2.length : Nat) : Int) (T ++ T2) K V
  | [], pre, R, T, k, _, _, _ => by simp
  | t :: T2, pre, R, T, k, h1, hf, hs => by
    have hg : ws[pre.length]? = some (wN (tN t)) := by rw [h1]; simp
    have hlen : pre.length < ws.length := (List.getElem?_eq_some_iff.1 hg).1
    simp only [List.length_cons] at hs ⊢
    obtain ⟨x, ok, hx, x1, x2⟩ := rword_spec n hn (wN (tN t)) (hz _ (List.mem_of_getElem? hg))
    obtain ⟨rfl, h5⟩ := x2 (tN t) (by simp [tN]) (hf t (by simp)) rfl
    obtain ⟨fl, xl, ul⟩ := x
    simp only at h5
    subst h5
    have e1 : (pre.length : Int) + 1 = ((pre ++ [wN (tN t)]).length : Int) := by simp
    rw [show k + (T2.length + 1) = (k + T2.length) + 1 by omega, rp_head n p0 ws (k + T2.length) pre.length 0 T K V _ hg (wN_ne47 _) _ _ hx, cond_true, if_pos rfl]
    refine (if_pos (show ((tN t).length : Int) = 5 from rfl)).trans ?_
    show (if Room 40 (T ++ [t]).length then _ else none) = _
    rw [if_pos (by unfold Room; simp; omega), if_pos (by unfold InR; omega), e1]
    show vigilref14_Parse_L5 p0 (ws.map bl) n (k + T2.length) 0 ((pre ++ [wN (tN t)]).length : Int) (T ++ [t]) K V = _
    rw [rp_runT n hn p0 ws hl hz K V T2 (pre ++ [wN (tN t)]) R (T ++ [t]) k (by rw [h1]; simp) (fun u hu => hf u (by simp [hu])) (by simp; omega)]
    congr 1
    · simp; omega
    · simp
theorem rp_runK (n : Nat) (hn : 30000 ≤ n) (p0 : ByteArray) (ws : List (List UInt8)) (hl : ws.length ≤ 20000) (hz : ∀ w ∈ ws, w.length ≤ 20000) (T : List GThread) (V : List Int) : ∀ (K2 : List GLock) (pre R : List (List UInt8)) (K : List GLock) (k : Nat), ws = pre ++ (K2.map (fun t => wN (kN t)) ++ R) → (∀ t ∈ K2, FitK t) → K.length + K2.length ≤ 30000 →
    vigilref14_Parse_L5 p0 (ws.map bl) n (k + K2.length) 1 (pre.length : Int) T K V = vigilref14_Parse_L5 p0 (ws.map bl) n k 1 ((pre.length + K2.length : Nat) : Int) T (K ++ K2) V
  | [], pre, R, K, k, _, _, _ => by simp
  | t :: K2, pre, R, K, k, h1, hf, hs => by
    have hg : ws[pre.length]? = some (wN (kN t)) := by rw [h1]; simp
    have hlen : pre.length < ws.length := (List.getElem?_eq_some_iff.1 hg).1
    simp only [List.length_cons] at hs ⊢
    obtain ⟨x, ok, hx, x1, x2⟩ := rword_spec n hn (wN (kN t)) (hz _ (List.mem_of_getElem? hg))
    obtain ⟨rfl, h5⟩ := x2 (kN t) (by simp [kN]) (hf t (by simp)) rfl
    obtain ⟨fl, xl, ul⟩ := x
    simp only at h5
    subst h5
    have e1 : (pre.length : Int) + 1 = ((pre ++ [wN (kN t)]).length : Int) := by simp
    rw [show k + (K2.length + 1) = (k + K2.length) + 1 by omega, rp_head n p0 ws (k + K2.length) pre.length 1 T K V _ hg (wN_ne47 _) _ _ hx, cond_true, if_neg (by decide), if_pos rfl]
    refine (if_pos (show ((kN t).length : Int) = 2 from rfl)).trans ?_
    show (if Room 16 (K ++ [t]).length then _ else none) = _
    rw [if_pos (by unfold Room; simp; omega), if_pos (by unfold InR; omega), e1]
    show vigilref14_Parse_L5 p0 (ws.map bl) n (k + K2.length) 1 ((pre ++ [wN (kN t)]).length : Int) T (K ++ [t]) V = _
    rw [rp_runK n hn p0 ws hl hz T V K2 (pre ++ [wN (kN t)]) R (K ++ [t]) k (by rw [h1]; simp) (fun u hu => hf u (by simp [hu])) (by simp; omega)]
    congr 1
    · simp; omega
    · simp
theorem rp_runV (n : Nat) (hn : 30000 ≤ n) (p0 : ByteArray) (ws : List (List UInt8)) (hl : ws.length ≤ 20000) (hz : ∀ w ∈ ws, w.length ≤ 20000) (T : List GThread) (K : List GLock) : ∀ (V2 : List Int) (pre R : List (List UInt8)) (V : List Int) (k : Nat), ws = pre ++ (V2.map (fun t => wN (vN t)) ++ R) → (∀ t ∈ V2, FitV t) → V.length + V2.length ≤ 30000 →
    vigilref14_Parse_L5 p0 (ws.map bl) n (k + V2.length) 2 (pre.length : Int) T K V = vigilref14_Parse_L5 p0 (ws.map bl) n k 2 ((pre.length + V2.length : Nat) : Int) T K (V ++ V2)
  | [], pre, R, V, k, _, _, _ => by simp
  | t :: V2, pre, R, V, k, h1, hf, hs => by
    have hg : ws[pre.length]? = some (wN (vN t)) := by rw [h1]; simp
    have hlen : pre.length < ws.length := (List.getElem?_eq_some_iff.1 hg).1
    simp only [List.length_cons] at hs ⊢
    obtain ⟨x, ok, hx, x1, x2⟩ := rword_spec n hn (wN (vN t)) (hz _ (List.mem_of_getElem? hg))
    obtain ⟨rfl, h5⟩ := x2 (vN t) (by simp [vN]) (by simp [vN]; exact hf t (by simp)) rfl
    obtain ⟨fl, xl, ul⟩ := x
    simp only at h5
    subst h5
    have e1 : (pre.length : Int) + 1 = ((pre ++ [wN (vN t)]).length : Int) := by simp
    rw [show k + (V2.length + 1) = (k + V2.length) + 1 by omega, rp_head n p0 ws (k + V2.length) pre.length 2 T K V _ hg (wN_ne47 _) _ _ hx, cond_true, if_neg (by decide), if_neg (by decide), if_pos rfl]
    refine (if_pos (show ((vN t).length : Int) = 1 from rfl)).trans ?_
    show (if Room 8 (V ++ [t]).length then _ else none) = _
    rw [if_pos (by unfold Room; simp; omega), if_pos (by unfold InR; omega), e1]
    show vigilref14_Parse_L5 p0 (ws.map bl) n (k + V2.length) 2 ((pre ++ [wN (vN t)]).length : Int) T K (V ++ [t]) = _
    rw [rp_runV n hn p0 ws hl hz T K V2 (pre ++ [wN (vN t)]) R (V ++ [t]) k (by rw [h1]; simp) (fun u hu => hf u (by simp [hu])) (by simp; omega)]
    congr 1
    · simp; omega
    · simp
end Go.Proofs.YtilipgopjiokfaaGreatDoor

/-
  Texts of worlds: the statements WorldTexts, WorldBack.
-/
set_option linter.unusedVariables false
set_option linter.unusedSimpArgs false
namespace Go.Proofs.YtilipgopjiokfaaGreatDoor
open Go Go.Abs Go.Proofs

theorem rwparse_spec (n : Nat) (hn : 30000 ≤ n) (s : List UInt8) (hs : s.length ≤ 19900) : ∃ c ok, vigilref14_Parse n (bl s) = some (c, ok) ∧ WP s c ok := by
  have hcl := cuts_len 32 s
  have hcz := cuts_size 32 s
  have e32 : (32 : Int) = ((32 : UInt8).toNat : Int) := rfl
  have ez : ((([] : List (List UInt8)).length : Nat) : Int) = 0 := rfl
  have hz : ∀ w ∈ cuts 32 s, w.length ≤ 20000 := fun w hw => by have := hcz w hw; omega
  unfold vigilref14_Parse
  rw [e32, rsplit_spec n s 32 (by omega) (by omega), Option.bind_some]
  by_cases hm : ∃ T K V, (∀ t ∈ T, FitT t) ∧ (∀ t ∈ K, FitK t) ∧ (∀ t ∈ V, FitV t) ∧ textW T K V = s
  · obtain ⟨T, K, V, h1, h2, h3, h4⟩ := hm
    have hw : cuts 32 s = words T K V := by rw [← h4, cuts_text]
    rw [hw] at hcl hz
    have hl : (words T K V).length = T.length + K.length + V.length + 2 := words_len
    have hrun : vigilref14_Parse_L5 (bl s) ((words T K V).map bl) n n 0 0 [] [] [] = some (.e0 2 (((words T K V).length : Nat) : Int) T K V) := by
      obtain ⟨m, rfl⟩ : ∃ m, n = ((((m + 1) + V.length) + 1) + K.length) + 1 + T.length := ⟨n - (T.length + K.length + V.length + 3), by omega⟩
      generalize hN : ((((m + 1) + V.length) + 1) + K.length) + 1 + T.length = N at hn
      rw [show vigilref14_Parse_L5 (bl s) ((words T K V).map bl) N N 0 0 [] [] [] = vigilref14_Parse_L5 (bl s) ((words T K V).map bl) N ((((((m + 1) + V.length) + 1) + K.length) + 1) + T.length) 0 (([] : List (List UInt8)).length : Int) [] [] [] by rw [hN]; rfl]
      rw [rp_runT N hn (bl s) _ (by omega) hz [] [] T [] ([47] :: (K.map (fun l => wN (kN l)) ++ [47] :: V.map fun v => wN (vN v))) [] _ (by simp [words]) h1 (by simp; omega)]
      have p1 : (words T K V)[(([] : List (List UInt8)).length + T.length : Nat)]? = some [47] := by simp [words]
      rw [rp_slash N (bl s) _ _ _ 0 _ [] [] p1 (by unfold InR; omega) (by simp; omega)]
      have q1 : ((([] : List (List UInt8)).length + T.length + 1 : Nat) : Int) = ((T.map (fun t => wN (tN t)) ++ [[47]]).length : Int) := by simp
      rw [q1, show (0 : Int) + 1 = 1 from rfl, rp_runK N hn (bl s) _ (by omega) hz _ [] K (T.map (fun t => wN (tN t)) ++ [[47]]) ([47] :: V.map fun v => wN (vN v)) [] _ (by simp [words]) h2 (by simp; omega)]
      have p2 : (words T K V)[((T.map (fun t => wN (tN t)) ++ [[47]]).length + K.length : Nat)]? = some [47] := by
        unfold words
        rw [show T.map (fun t => wN (tN t)) ++ [47] :: (K.map (fun l => wN (kN l)) ++ [47] :: V.map fun v => wN (vN v)) = (T.map (fun t => wN (tN t)) ++ [[47]]) ++ (K.map (fun l => wN (kN l)) ++ [47] :: V.map fun v => wN (vN v)) by simp]
        rw [List.getElem?_append_right (by omega)]
        simp
      rw [rp_slash N (bl s) _ _ _ 1 _ _ [] p2 (by unfold InR; omega) (by simp; omega)]
      have q2 : (((T.map (fun t => wN (tN t)) ++ [[47]]).length + K.length + 1 : Nat) : Int) = ((T.map (fun t => wN (tN t)) ++ [47] :: (K.map (fun l => wN (kN l)) ++ [[47]])).length : Int) := by simp; omega
      rw [q2, show (1 : Int) + 1 = 2 from rfl, rp_runV N hn (bl s) _ (by omega) hz _ _ V (T.map (fun t => wN (tN t)) ++ [47] :: (K.map (fun l => wN (kN l)) ++ [[47]])) [] [] _ (by simp [words]) h3 (by simp; omega)]
      have q3 : (((T.map (fun t => wN (tN t)) ++ [47] :: (K.map (fun l => wN (kN l)) ++ [[47]])).length + V.length : Nat) : Int) = ((words T K V).length : Int) := by rw [hl]; simp; omega
      rw [q3, vigilref14_Parse_L5, if_neg (by simp)]
      simp
    rw [hw, hrun]
    simp only [Option.bind_some]
    rw [if_neg (by simp)]
    have f : FitW ⟨Sl.gr T, Sl.gr K, Sl.gr V⟩ := ⟨h1, h2, h3⟩
    have sm : SmallW ⟨Sl.gr T, Sl.gr K, Sl.gr V⟩ := by
      unfold SmallW
      show T.length + K.length + V.length ≤ _
      omega
    rw [rtext_spec n hn _ f sm, Option.bind_some]
    refine ⟨_, true, if_pos ?_, fun _ => ⟨f, sm, h4⟩, by simp⟩
    rw [bl_inj]; exact h4
  · have hno : ∀ T K V, (∀ t ∈ T, FitT t) → (∀ t ∈ K, FitK t) → (∀ t ∈ V, FitV t) → textW T K V ≠ s := fun T K V h1 h2 h3 h4 => hm ⟨T, K, V, h1, h2, h3, h4⟩
    obtain ⟨o, ho, hh⟩ := rp_total n hn (bl s) (cuts 32 s) (by omega) hz (cuts 32 s) [] 0 [] [] [] n rfl (by omega) (by omega) (by omega) (by simp) (by simp) (by simp) (by simp; omega)
    rw [ez] at ho
    rw [ho]
    cases o with
    | r a b c => exact ⟨_, _, rfl, WP.no hno⟩
    | e0 a b T K V =>
      obtain ⟨f1, f2, f3, f4⟩ := hh _ _ _ _ _ rfl
      simp only [Option.bind_some]
      by_cases ha : a ≠ 2
      · rw [if_pos ha]; exact ⟨_, _, rfl, WP.no hno⟩
      · rw [if_neg ha]
        have f : FitW ⟨Sl.gr T, Sl.gr K, Sl.gr V⟩ := ⟨f1, f2, f3⟩
        have sm : SmallW ⟨Sl.gr T, Sl.gr K, Sl.gr V⟩ := f4
        rw [rtext_spec n hn _ f sm, Option.bind_some]
        refine ⟨_, false, if_neg ?_, WP.no hno⟩
        rw [bl_inj]; exact hno T K V f1 f2 f3

/-! ### the statements -/
theorem texts_J1 (n : Nat) (a b : GWorld) (p : ByteArray) : (vigillaw14_WorldTexts_J1 a b p n = some .r) ∨ (vigillaw14_WorldTexts_J1 a b p n = some .m ∧ SmallW a ∧ SmallW b ∧ a.threads.l.length + a.locks.l.length + a.vals.l.length ≤ 180 ∧ p.size ≤ 2000) := by
  unfold vigillaw14_WorldTexts_J1 SmallW
  by_cases h1 : (a.threads.l.length : Int) > 60
  · rw [if_pos h1]; exact .inl rfl
  by_cases h2 : (a.locks.l.length : Int) > 60
  · rw [if_neg h1, if_pos h2]; exact .inl rfl
  by_cases h3 : (a.vals.l.length : Int) > 60
  · rw [if_neg h1, if_neg h2, if_pos h3]; exact .inl rfl
  by_cases h4 : (b.threads.l.length : Int) > 60
  · rw [if_neg h1, if_neg h2, if_neg h3, if_pos h4]; exact .inl rfl
  by_cases h5 : (b.locks.l.length : Int) > 60
  · rw [if_neg h1, if_neg h2, if_neg h3, if_neg h4, if_pos h5]; exact .inl rfl
  by_cases h6 : (b.vals.l.length : Int) > 60
  · rw [if_neg h1, if_neg h2, if_neg h3, if_neg h4, if_neg h5, if_pos h6]; exact .inl rfl
  by_cases h7 : (p.size : Int) > 2000
  · rw [if_neg h1, if_neg h2, if_neg h3, if_neg h4, if_neg h5, if_neg h6, if_pos h7]; exact .inl rfl
  rw [if_neg h1, if_neg h2, if_neg h3, if_neg h4, if_neg h5, if_neg h6, if_neg h7]
  exact .inr ⟨rfl, by omega, by omega, by omega, by omega⟩
theorem back_J1 (n : Nat) (a b : GWorld) (p : ByteArray) : vigillaw14_WorldBack_J1 a b p n = (vigillaw14_WorldTexts_J1 a b p n).map fun | .r => .r | .m => .m := by
  unfold vigillaw14_WorldBack_J1 vigillaw14_WorldTexts_J1
  repeat' (first | rfl | split)
theorem worldTexts_true (a b : GWorld) (p : ByteArray) (ha : FitW a) (hb : FitW b) : vigillaw14_WorldTexts 30000 a b p = some true := by
  rw [vigillaw14_WorldTexts]
  rcases texts_J1 30000 a b p with h | ⟨h, sa, sb, _, hp⟩
  · rw [h]; rfl
  rw [h]
  simp only [Option.bind_some]
  have hp1 : p = bl p.data.toList := (bl_of p).symm
  generalize hs : p.data.toList = s at hp1
  subst hp1
  rw [bl_size] at hp
  obtain ⟨x, e, hx, hxw⟩ := wparse_spec 30000 (by omega) s (by omega)
  obtain ⟨y, f, hy, hyw⟩ := rwparse_spec 30000 (by omega) s (by omega)
  obtain ⟨hef, hsame, hsm⟩ := hxw.eq hyw
  subst hef
  rw [hx, Option.bind_some]
  dsimp only
  rw [hy, Option.bind_some]
  dsimp only
  rw [same_spec 30000 (by omega) a b sa, Option.bind_some, rsame_spec 30000 (by omega) a b sa, Option.bind_some, text_spec 30000 (by omega) a ha sa, rtext_spec 30000 (by omega) a ha sa, Option.bind_some, Option.bind_some, if_pos rfl, rsame_spec 30000 (by omega) x y hsm, Option.bind_some, decide_eq_true hsame, cond_true]
  cases decide (SameW a b) <;> cases e <;> rfl
theorem sameW_text {a b : GWorld} (ha : FitW a) (hb : FitW b) : SameW a b ↔ bl (textW a.threads.l a.locks.l a.vals.l) = bl (textW b.threads.l b.locks.l b.vals.l) := by
  rw [bl_inj]
  refine ⟨fun ⟨h1, h2, h3⟩ => by rw [h1, h2, h3], fun h => ?_⟩
  have hw : words a.threads.l a.locks.l a.vals.l = words b.threads.l b.locks.l b.vals.l := by rw [← cuts_text, ← cuts_text, h]
  exact words_inj ha.t ha.k ha.v hb.t hb.k hb.v hw
theorem worldBack_true (a b : GWorld) (p : ByteArray) (ha : FitW a) (hb : FitW b) : vigillaw14_WorldBack 30000 a b p = some true := by
  rw [vigillaw14_WorldBack, back_J1]
  rcases texts_J1 30000 a b p with h | ⟨h, sa, sb, hla, hp⟩
  · rw [h]; rfl
  rw [h]
  simp only [Option.map_some, Option.bind_some]
  have hp1 : p = bl p.data.toList := (bl_of p).symm
  generalize hs : p.data.toList = s at hp1
  subst hp1
  rw [bl_size] at hp
  have htl := text_len ha.t ha.k ha.v
  obtain ⟨x, e, hx, hxw⟩ := wparse_spec 30000 (by omega) (textW a.threads.l a.locks.l a.vals.l) (by
    have := Nat.mul_le_mul_left 106 (show a.threads.l.length + a.locks.l.length + a.vals.l.length + 2 ≤ 182 by omega)
    omega)
  rw [text_spec 30000 (by omega) a ha sa, Option.bind_some, hx, Option.bind_some]
  dsimp only
  have he : e = true := by
    cases e with
    | true => rfl
    | false => exact absurd rfl ((hxw.2 rfl).2 _ _ _ ha.t ha.k ha.v)
  subst he
  obtain ⟨fx, sx, tx⟩ := hxw.1 rfl
  have hax : SameW a x := (sameW_text ha fx).2 (by rw [tx])
  rw [vigillaw14_WorldBack_J5, cond_true, same_spec 30000 (by omega) a x sa, Option.bind_some, decide_eq_true hax, cond_true, text_spec 30000 (by omega) b hb sb, Option.bind_some, same_spec 30000 (by omega) a b sa]
  obtain ⟨z, f, hz, hzw⟩ := wparse_spec 30000 (by omega) s (by omega)
  have hend : ((world_Parse 30000 (bl s)).bind fun (x_8, x_9) =>
      bif x_9 then
        (world_Text 30000 x_8).bind fun x_10 =>
        if x_10 = bl s then
          some true
        else some false
      else some true) = some true := by
    rw [hz, Option.bind_some]
    dsimp only
    cases f with
    | false => rfl
    | true =>
      obtain ⟨fz, sz, tz⟩ := hzw.1 rfl
      rw [cond_true, text_spec 30000 (by omega) z fz sz, Option.bind_some, if_pos (by rw [tz])]
  by_cases hab : SameW a b
  · rw [if_pos ((sameW_text ha hb).1 hab), Option.bind_some, decide_eq_true hab, cond_true]
    exact hend
  · rw [if_neg fun h => hab ((sameW_text ha hb).2 h), Option.bind_some, decide_eq_false hab, cond_false]
    exact hend
end Go.Proofs.YtilipgopjiokfaaGreatDoor
