/-
  Part of the proof: printed by the session's own program out of the program's form, or typed; it states no claim by itself.
-/
import Derived.Test.YtilipgopjiokfaaGreatDoorPa
/-
  Texts of worlds: both functions print a world's text.
-/
set_option linter.unusedVariables false
set_option linter.unusedSimpArgs false
namespace Go.Proofs.YtilipgopjiokfaaGreatDoor
open Go Go.Abs Go.Proofs

theorem atI_nat {α : Type} (l : List α) (i : Nat) : atI l (i : Int) = l[i]? := by
  unfold atI; rw [if_pos (by omega)]; simp
theorem joinB_k (k : UInt8) (ts : List (List UInt8)) : joinB (ts.map bl) (⟨#[k]⟩ : ByteArray) = bl (Lib.join ts [k]) := by
  unfold joinB
  show bl (Lib.join ((ts.map bl).map (·.data.toList)) [k]) = _
  rw [bl_inj, List.map_map]
  congr 1
  conv => rhs; rw [← List.map_id ts]
  exact List.map_congr_left fun a _ => by simp [bl]
theorem joined_loop (n : Nat) (p0 : Sl Int) (hf : ∀ x ∈ p0.l, InR x) (hl : p0.l.length ≤ 1000) : ∀ (rest pre : List Int) (done : List ByteArray) (k : Nat), p0.l = pre ++ rest → done.length = pre.length → rest.length < k →
    world_joined_L3 p0 n k (pre.length : Int) (done ++ List.replicate rest.length (⟨#[]⟩ : ByteArray)) = some (.e0 (p0.l.length : Int) (done ++ (rest.map iL).map bl)) := by
  intro rest
  induction rest with
  | nil =>
    intro pre done k he hd hk
    obtain ⟨k, rfl⟩ : ∃ j, k = j + 1 := ⟨k - 1, by omega⟩
    rw [world_joined_L3, if_neg (by rw [he]; simp)]
    simp [he]
  | cons p rest IH =>
    intro pre done k he hd hk
    simp only [List.length_cons] at hk
    obtain ⟨k, rfl⟩ : ∃ j, k = j + 1 := ⟨k - 1, by omega⟩
    have hlen : p0.l.length = pre.length + (rest.length + 1) := by rw [he]; simp
    have hg : p0.l[pre.length]? = some p := by rw [he]; simp
    have hp := hf p (by rw [he]; simp)
    have ho : (done ++ List.replicate (p :: rest).length (⟨#[]⟩ : ByteArray))[pre.length]? = some (⟨#[]⟩ : ByteArray) := by
      rw [← hd]; simp [List.replicate_succ]
    have hs : (done ++ List.replicate (p :: rest).length (⟨#[]⟩ : ByteArray)).set pre.length (bl (iL p)) = (done ++ [bl (iL p)]) ++ List.replicate rest.length (⟨#[]⟩ : ByteArray) := by
      rw [← hd]; simp [List.replicate_succ]
    have e1 : (pre.length : Int) + 1 = ((pre ++ [p]).length : Int) := by simp
    rw [world_joined_L3, if_pos (by omega), atI_nat, hg, Option.bind_some, if_pos hp]
    refine (if_pos (by omega)).trans ?_
    rw [atI_nat, ho, Option.bind_some]
    refine (if_pos (by unfold InR; omega)).trans ?_
    rw [Int.toNat_natCast, itoaB_iL hp, hs, e1, IH (pre ++ [p]) (done ++ [bl (iL p)]) k (by rw [he]; simp) (by simp [hd]) (by omega)]
    simp
theorem joined_spec (n : Nat) (hn : 30 ≤ n) (f x : Bool) (ns : List Int) (hf : ∀ x ∈ ns, InR x) (hl : ns.length ≤ 20) : world_joined n (⟨f, x, ns⟩ : Sl Int) = some (bl (wN ns)) := by
  have h := joined_loop n ⟨f, x, ns⟩ hf (by show ns.length ≤ _; omega) ns [] [] n rfl rfl (by omega)
  simp only [List.nil_append, List.length_nil] at h
  have ez : ((0 : Nat) : Int) = 0 := rfl
  rw [ez] at h
  have hw := wN_len hf
  unfold wN at hw
  unfold world_joined
  rw [if_pos (by unfold Mk; show 16 * ns.length ≤ _ ∧ ns.length ≤ _; omega)]
  show ((world_joined_L3 ⟨f, x, ns⟩ n n 0 (List.replicate ns.length (⟨#[]⟩ : ByteArray))).bind _) = _
  rw [h]
  simp only [Option.bind_some]
  rw [joinB_k, if_pos (by simp), if_pos (by simp; omega), if_pos (by rw [bl_size]; omega)]
  rfl
theorem joinT (n : Nat) (hn : 30 ≤ n) (t : GThread) (h : FitT t) : world_joined n (⟨false, true, ([t.role, t.loc, t.state, t.left, t.depth] : List Int)⟩ : Sl Int) = some (bl (wN (tN t))) := joined_spec n hn _ _ (tN t) h (by simp [tN])
theorem joinK (n : Nat) (hn : 30 ≤ n) (t : GLock) (h : FitK t) : world_joined n (⟨false, true, ([t.owner, t.depth] : List Int)⟩ : Sl Int) = some (bl (wN (kN t))) := joined_spec n hn _ _ (kN t) h (by simp [kN])
theorem joinV (n : Nat) (hn : 30 ≤ n) (v : Int) (h : FitV v) : world_joined n (⟨false, true, ([v] : List Int)⟩ : Sl Int) = some (bl (wN (vN v))) := joined_spec n hn _ _ (vN v) (by simp [vN]; exact h) (by simp [vN])
section
variable (n : Nat) (hn : 30 ≤ n) (w : GWorld)
include hn
theorem text_L3 (hf : ∀ t ∈ w.threads.l, FitT t) (hl : w.threads.l.length ≤ 100000) : ∀ (rest pre : List GThread) (acc : List ByteArray) (k : Nat), w.threads.l = pre ++ rest → rest.length < k → acc.length + rest.length ≤ 1000000 →
    ∃ i, world_Text_L3 w n k acc (pre.length : Int) = some (.e0 (acc ++ (rest.map fun t => wN (tN t)).map bl) i) := by
  intro rest
  induction rest with
  | nil =>
    intro pre acc k he hk _
    obtain ⟨k, rfl⟩ : ∃ j, k = j + 1 := ⟨k - 1, by omega⟩
    exact ⟨(pre.length : Int), by rw [world_Text_L3, if_neg (by rw [he]; simp)]; simp⟩
  | cons p rest IH =>
    intro pre acc k he hk ha
    simp only [List.length_cons] at hk ha
    obtain ⟨k, rfl⟩ : ∃ j, k = j + 1 := ⟨k - 1, by omega⟩
    have hlen : w.threads.l.length = pre.length + (rest.length + 1) := by rw [he]; simp
    have hg : w.threads.l[pre.length]? = some p := by rw [he]; simp
    have e1 : (pre.length : Int) + 1 = ((pre ++ [p]).length : Int) := by simp
    obtain ⟨i, hi⟩ := IH (pre ++ [p]) (acc ++ [bl (wN (tN p))]) k (by rw [he]; simp) (by omega) (by simp; omega)
    refine ⟨i, ?_⟩
    rw [world_Text_L3, if_pos (by omega), atI_nat, hg, Option.bind_some, joinT n hn p (hf p (by rw [he]; simp)), Option.bind_some, if_pos (by unfold Room; simp; omega), if_pos (by unfold InR; omega), e1, hi]
    simp
theorem text_L9 (hf : ∀ t ∈ w.locks.l, FitK t) (hl : w.locks.l.length ≤ 100000) : ∀ (rest pre : List GLock) (acc : List ByteArray) (k : Nat), w.locks.l = pre ++ rest → rest.length < k → acc.length + rest.length ≤ 1000000 →
    ∃ i, world_Text_L9 w n k acc (pre.length : Int) = some (.e2 (acc ++ (rest.map fun t => wN (kN t)).map bl) i) := by
  intro rest
  induction rest with
  | nil =>
    intro pre acc k he hk _
    obtain ⟨k, rfl⟩ : ∃ j, k = j + 1 := ⟨k - 1, by omega⟩
    exact ⟨(pre.length : Int), by rw [world_Text_L9, if_neg (by rw [he]; simp)]; simp⟩
  | cons p rest IH =>
    intro pre acc k he hk ha
    simp only [List.length_cons] at hk ha
    obtain ⟨k, rfl⟩ : ∃ j, k = j + 1 := ⟨k - 1, by omega⟩
    have hlen : w.locks.l.length = pre.length + (rest.length + 1) := by rw [he]; simp
    have hg : w.locks.l[pre.length]? = some p := by rw [he]; simp
    have e1 : (pre.length : Int) + 1 = ((pre ++ [p]).length : Int) := by simp
    obtain ⟨i, hi⟩ := IH (pre ++ [p]) (acc ++ [bl (wN (kN p))]) k (by rw [he]; simp) (by omega) (by simp; omega)
    refine ⟨i, ?_⟩
    rw [world_Text_L9, if_pos (by omega), atI_nat, hg, Option.bind_some, joinK n hn p (hf p (by rw [he]; simp)), Option.bind_some, if_pos (by unfold Room; simp; omega), if_pos (by unfold InR; omega), e1, hi]
    simp
theorem text_L15 (hf : ∀ t ∈ w.vals.l, FitV t) (hl : w.vals.l.length ≤ 100000) : ∀ (rest pre : List Int) (acc : List ByteArray) (k : Nat), w.vals.l = pre ++ rest → rest.length < k → acc.length + rest.length ≤ 1000000 →
    ∃ i, world_Text_L15 w n k acc (pre.length : Int) = some (.e4 (acc ++ (rest.map fun t => wN (vN t)).map bl) i) := by
  intro rest
  induction rest with
  | nil =>
    intro pre acc k he hk _
    obtain ⟨k, rfl⟩ : ∃ j, k = j + 1 := ⟨k - 1, by omega⟩
    exact ⟨(pre.length : Int), by rw [world_Text_L15, if_neg (by rw [he]; simp)]; simp⟩
  | cons p rest IH =>
    intro pre acc k he hk ha
    simp only [List.length_cons] at hk ha
    obtain ⟨k, rfl⟩ : ∃ j, k = j + 1 := ⟨k - 1, by omega⟩
    have hlen : w.vals.l.length = pre.length + (rest.length + 1) := by rw [he]; simp
    have hg : w.vals.l[pre.length]? = some p := by rw [he]; simp
    have e1 : (pre.length : Int) + 1 = ((pre ++ [p]).length : Int) := by simp
    obtain ⟨i, hi⟩ := IH (pre ++ [p]) (acc ++ [bl (wN (vN p))]) k (by rw [he]; simp) (by omega) (by simp; omega)
    refine ⟨i, ?_⟩
    rw [world_Text_L15, if_pos (by omega), atI_nat, hg, Option.bind_some, joinV n hn p (hf p (by rw [he]; simp)), Option.bind_some, if_pos (by unfold Room; simp; omega), if_pos (by unfold InR; omega), e1, hi]
    simp
end
/-- What is asked of a world that is printed: its numbers fit, its lists are not too long. -/
structure FitW (w : GWorld) : Prop where
  t : ∀ t ∈ w.threads.l, FitT t
  k : ∀ t ∈ w.locks.l, FitK t
  v : ∀ t ∈ w.vals.l, FitV t
def SmallW (w : GWorld) : Prop := w.threads.l.length + w.locks.l.length + w.vals.l.length ≤ 20000
theorem text_spec (n : Nat) (hn : 30000 ≤ n) (w : GWorld) (hf : FitW w) (hs : SmallW w) : world_Text n w = some (bl (textW w.threads.l w.locks.l w.vals.l)) := by
  unfold SmallW at hs
  have e47 : (⟨#[47]⟩ : ByteArray) = bl [47] := rfl
  have ez : ((0 : Nat) : Int) = 0 := rfl
  obtain ⟨i, h1⟩ := text_L3 n (by omega) w hf.t (by omega) w.threads.l [] [] n rfl (by omega) (by simp; omega)
  simp only [List.length_nil, List.nil_append] at h1
  rw [ez] at h1
  obtain ⟨j, h2⟩ := text_L9 n (by omega) w hf.k (by omega) w.locks.l [] ((w.threads.l.map fun t => wN (tN t)).map bl ++ [bl [47]]) n rfl (by omega) (by simp; omega)
  simp only [List.length_nil] at h2
  rw [ez] at h2
  obtain ⟨m, h3⟩ := text_L15 n (by omega) w hf.v (by omega) w.vals.l [] ((w.threads.l.map fun t => wN (tN t)).map bl ++ [bl [47]] ++ (w.locks.l.map fun t => wN (kN t)).map bl ++ [bl [47]]) n rfl (by omega) (by simp; omega)
  simp only [List.length_nil] at h3
  rw [ez] at h3
  have hl := text_len hf.t hf.k hf.v
  unfold world_Text
  rw [h1]
  simp only [Option.bind_some]
  rw [e47, if_pos (by unfold Room; simp; omega), h2]
  simp only [Option.bind_some]
  rw [if_pos (by unfold Room; simp; omega), h3]
  simp only [Option.bind_some]
  have e : ((w.threads.l.map fun t => wN (tN t)).map bl ++ [bl [47]] ++ (w.locks.l.map fun t => wN (kN t)).map bl ++ [bl [47]] ++ (w.vals.l.map fun t => wN (vN t)).map bl) = (words w.threads.l w.locks.l w.vals.l).map bl := by
    simp [words]
  rw [e, joinB_k, if_pos (by simp only [List.length_map, words_len]; omega), if_pos (by rw [bl_size]; show (textW _ _ _).length ≤ _; omega)]
  rfl

/-! ### the document's function -/
theorem wN_five (a b c d e : Int) : wN [a, b, c, d, e] = iL a ++ [58] ++ iL b ++ [58] ++ iL c ++ [58] ++ iL d ++ [58] ++ iL e := by
  simp [wN, Lib.join_cons, Lib.joinTail]
theorem wN_two (a b : Int) : wN [a, b] = iL a ++ [58] ++ iL b := by simp [wN, Lib.join_cons, Lib.joinTail]
theorem wN_one (a : Int) : wN [a] = iL a := by simp [wN, Lib.join_one]
theorem text_flat (T : List GThread) (K : List GLock) (V : List Int) : textW T K V = (T.flatMap fun t => wN (tN t) ++ [32]) ++ [47] ++ (K.flatMap fun l => 32 :: wN (kN l)) ++ [32, 47] ++ V.flatMap fun v => 32 :: wN (vN v) := by
  have tail : ∀ (x : List UInt8) (r : List (List UInt8)), Lib.join (x :: r) [32] = x ++ r.flatMap fun y => 32 :: y := fun x r => by
    rw [Lib.join_cons]
    refine congrArg (x ++ ·) ?_
    unfold Lib.joinTail
    rw [List.flatMap_def]
    rfl
  unfold textW words
  induction T with
  | nil => simp [tail, List.flatMap_append, List.flatMap_map]
  | cons t T ih =>
    have hne : ∃ p ps, (T.map (fun t => wN (tN t)) ++ [47] :: (K.map (fun l => wN (kN l)) ++ [47] :: V.map fun v => wN (vN v))) = p :: ps := words_ne
    obtain ⟨p, ps, hp⟩ := hne
    rw [hp] at ih
    rw [List.map_cons, List.cons_append, hp, Lib.join_cons]
    rw [Lib.join_cons] at ih
    simp only [Lib.joinTail, List.map_cons, List.flatten_cons, List.flatMap_cons, List.append_assoc, List.singleton_append, List.cons_append, List.nil_append] at ih ⊢
    rw [ih]
theorem dig_ok (n : Nat) (hn : 30 ≤ n) {x : Int} (h : InR x) : vigilref14_digits n x = some (bl (iL x)) := by
  unfold vigilref14_digits
  rw [digits_all n hn h]; rfl
section
variable (n : Nat) (hn : 30 ≤ n) (w : GWorld)
include hn
theorem rtext_L3 (hf : ∀ t ∈ w.threads.l, FitT t) (hl : w.threads.l.length ≤ 100000) : ∀ (rest pre : List GThread) (acc : List UInt8) (k : Nat), w.threads.l = pre ++ rest → rest.length < k → acc.length + 200 * rest.length ≤ 100000000 →
    ∃ i, vigilref14_Text_L3 w n k (bl acc) (pre.length : Int) = some (.e0 (bl (acc ++ rest.flatMap fun t => wN (tN t) ++ [32])) i) := by
  intro rest
  induction rest with
  | nil =>
    intro pre acc k he hk _
    obtain ⟨k, rfl⟩ : ∃ j, k = j + 1 := ⟨k - 1, by omega⟩
    exact ⟨(pre.length : Int), by rw [vigilref14_Text_L3, if_neg (by rw [he]; simp)]; simp⟩
  | cons p rest IH =>
    intro pre acc k he hk ha
    simp only [List.length_cons] at hk ha
    obtain ⟨k, rfl⟩ : ∃ j, k = j + 1 := ⟨k - 1, by omega⟩
    have hlen : w.threads.l.length = pre.length + (rest.length + 1) := by rw [he]; simp
    have hg : w.threads.l[pre.length]? = some p := by rw [he]; simp
    have hp := hf p (by rw [he]; simp)
    have p1 : InR p.role := hp _ (by simp [tN])
    have p2 : InR p.loc := hp _ (by simp [tN])
    have p3 : InR p.state := hp _ (by simp [tN])
    have p4 : InR p.left := hp _ (by simp [tN])
    have p5 : InR p.depth := hp _ (by simp [tN])
    have l1 := iL_len p1; have l2 := iL_len p2; have l3 := iL_len p3; have l4 := iL_len p4; have l5 := iL_len p5
    have e1 : (pre.length : Int) + 1 = ((pre ++ [p]).length : Int) := by simp
    have e58 : (⟨#[58]⟩ : ByteArray) = bl [58] := rfl
    have e32 : (⟨#[32]⟩ : ByteArray) = bl [32] := rfl
    obtain ⟨i, hi⟩ := IH (pre ++ [p]) (acc ++ (wN (tN p) ++ [32])) k (by rw [he]; simp) (by omega) (by
      have := wN_len hp
      have l : (tN p).length = 5 := rfl
      simp only [List.length_append, List.length_cons, List.length_nil]; omega)
    refine ⟨i, ?_⟩
    rw [vigilref14_Text_L3, if_pos (by omega), atI_nat, hg, Option.bind_some, e58, e32, dig_ok n hn p1, Option.bind_some, dig_ok n hn p2, dig_ok n hn p3, digits_all n hn p4, dig_ok n hn p5]
    simp only [Option.bind_some, bl_app]
    have sz : ∀ l : List UInt8, l.length ≤ 200000000 → ((bl l).size) ≤ 9223372036854775807 := fun l h => by rw [bl_size]; omega
    rw [if_pos (sz _ (by simp only [List.length_append, List.length_cons, List.length_nil]; omega)), if_pos (sz _ (by simp only [List.length_append, List.length_cons, List.length_nil]; omega)), if_pos (sz _ (by simp only [List.length_append, List.length_cons, List.length_nil]; omega)), if_pos (sz _ (by simp only [List.length_append, List.length_cons, List.length_nil]; omega)), if_pos (sz _ (by simp only [List.length_append, List.length_cons, List.length_nil]; omega)), if_pos (sz _ (by simp only [List.length_append, List.length_cons, List.length_nil]; omega)), if_pos (sz _ (by simp only [List.length_append, List.length_cons, List.length_nil]; omega)), if_pos (sz _ (by simp only [List.length_append, List.length_cons, List.length_nil]; omega)), if_pos (sz _ (by simp only [List.length_append, List.length_cons, List.length_nil]; omega)), if_pos (sz _ (by simp only [List.length_append, List.length_cons, List.length_nil]; omega)), if_pos (by unfold InR; omega), e1]
    have ew : acc ++ iL p.role ++ [58] ++ iL p.loc ++ [58] ++ iL p.state ++ [58] ++ iL p.left ++ [58] ++ iL p.depth ++ [32] = acc ++ (wN (tN p) ++ [32]) := by
      unfold tN; rw [wN_five]; simp
    rw [ew, hi]
    simp
theorem rtext_L9 (hf : ∀ t ∈ w.locks.l, FitK t) (hl : w.locks.l.length ≤ 100000) : ∀ (rest pre : List GLock) (acc : List UInt8) (k : Nat), w.locks.l = pre ++ rest → rest.length < k → acc.length + 200 * rest.length ≤ 100000000 →
    ∃ i, vigilref14_Text_L9 w n k (bl acc) (pre.length : Int) = some (.e2 (bl (acc ++ rest.flatMap fun t => 32 :: wN (kN t))) i) := by
  intro rest
  induction rest with
  | nil =>
    intro pre acc k he hk _
    obtain ⟨k, rfl⟩ : ∃ j, k = j + 1 := ⟨k - 1, by omega⟩
    exact ⟨(pre.length : Int), by rw [vigilref14_Text_L9, if_neg (by rw [he]; simp)]; simp⟩
  | cons p rest IH =>
    intro pre acc k he hk ha
    simp only [List.length_cons] at hk ha
    obtain ⟨k, rfl⟩ : ∃ j, k = j + 1 := ⟨k - 1, by omega⟩
    have hlen : w.locks.l.length = pre.length + (rest.length + 1) := by rw [he]; simp
    have hg : w.locks.l[pre.length]? = some p := by rw [he]; simp
    have hp := hf p (by rw [he]; simp)
    have p1 : InR p.owner := hp _ (by simp [kN])
    have p2 : InR p.depth := hp _ (by simp [kN])
    have l1 := iL_len p1; have l2 := iL_len p2
    have e1 : (pre.length : Int) + 1 = ((pre ++ [p]).length : Int) := by simp
    have e58 : (⟨#[58]⟩ : ByteArray) = bl [58] := rfl
    have e32 : (⟨#[32]⟩ : ByteArray) = bl [32] := rfl
    obtain ⟨i, hi⟩ := IH (pre ++ [p]) (acc ++ (32 :: wN (kN p))) k (by rw [he]; simp) (by omega) (by
      have := wN_len hp
      have l : (kN p).length = 2 := rfl
      simp only [List.length_append, List.length_cons, List.length_nil]; omega)
    refine ⟨i, ?_⟩
    have sz : ∀ l : List UInt8, l.length ≤ 200000000 → ((bl l).size) ≤ 9223372036854775807 := fun l h => by rw [bl_size]; omega
    rw [vigilref14_Text_L9, if_pos (by omega), e58, e32, bl_app, if_pos (sz _ (by simp only [List.length_append, List.length_cons, List.length_nil]; omega)), atI_nat, hg, Option.bind_some, dig_ok n hn p1, Option.bind_some, dig_ok n hn p2]
    simp only [Option.bind_some, bl_app]
    rw [if_pos (sz _ (by simp only [List.length_append, List.length_cons, List.length_nil]; omega)), if_pos (sz _ (by simp only [List.length_append, List.length_cons, List.length_nil]; omega)), if_pos (sz _ (by simp only [List.length_append, List.length_cons, List.length_nil]; omega)), if_pos (by unfold InR; omega), e1]
    have ew : acc ++ [32] ++ iL p.owner ++ [58] ++ iL p.depth = acc ++ (32 :: wN (kN p)) := by
      unfold kN; rw [wN_two]; simp
    rw [ew, hi]
    simp
theorem rtext_L14 (hf : ∀ t ∈ w.vals.l, FitV t) (hl : w.vals.l.length ≤ 100000) : ∀ (rest pre : List Int) (acc : List UInt8) (k : Nat), w.vals.l = pre ++ rest → rest.length < k → acc.length + 200 * rest.length ≤ 100000000 →
    ∃ i, vigilref14_Text_L14 w n k (bl acc) (pre.length : Int) = some (.e4 (bl (acc ++ rest.flatMap fun t => 32 :: wN (vN t))) i) := by
  intro rest
  induction rest with
  | nil =>
    intro pre acc k he hk _
    obtain ⟨k, rfl⟩ : ∃ j, k = j + 1 := ⟨k - 1, by omega⟩
    exact ⟨(pre.length : Int), by rw [vigilref14_Text_L14, if_neg (by rw [he]; simp)]; simp⟩
  | cons p rest IH =>
    intro pre acc k he hk ha
    simp only [List.length_cons] at hk ha
    obtain ⟨k, rfl⟩ : ∃ j, k = j + 1 := ⟨k - 1, by omega⟩
    have hlen : w.vals.l.length = pre.length + (rest.length + 1) := by rw [he]; simp
    have hg : w.vals.l[pre.length]? = some p := by rw [he]; simp
    have p1 : InR p := hf p (by rw [he]; simp)
    have l1 := iL_len p1
    have e1 : (pre.length : Int) + 1 = ((pre ++ [p]).length : Int) := by simp
    have e32 : (⟨#[32]⟩ : ByteArray) = bl [32] := rfl
    have ew1 : wN (vN p) = iL p := wN_one p
    obtain ⟨i, hi⟩ := IH (pre ++ [p]) (acc ++ (32 :: wN (vN p))) k (by rw [he]; simp) (by omega) (by
      rw [ew1]
      simp only [List.length_append, List.length_cons, List.length_nil]; omega)
    refine ⟨i, ?_⟩
    have sz : ∀ l : List UInt8, l.length ≤ 200000000 → ((bl l).size) ≤ 9223372036854775807 := fun l h => by rw [bl_size]; omega
    rw [vigilref14_Text_L14, if_pos (by omega), e32, bl_app, if_pos (sz _ (by simp only [List.length_append, List.length_cons, List.length_nil]; omega)), atI_nat, hg, Option.bind_some, digits_all n hn p1, Option.bind_some, bl_app]
    rw [if_pos (sz _ (by simp only [List.length_append, List.length_cons, List.length_nil]; omega)), if_pos (by unfold InR; omega), e1]
    have ew : acc ++ [32] ++ iL p = acc ++ (32 :: wN (vN p)) := by rw [ew1]; simp
    rw [ew, hi]
    simp
end
theorem rtext_spec (n : Nat) (hn : 30000 ≤ n) (w : GWorld) (hf : FitW w) (hs : SmallW w) : vigilref14_Text n w = some (bl (textW w.threads.l w.locks.l w.vals.l)) := by
  unfold SmallW at hs
  have e47 : (⟨#[47]⟩ : ByteArray) = bl [47] := rfl
  have e3247 : (⟨#[32, 47]⟩ : ByteArray) = bl [32, 47] := rfl
  have e0 : (⟨#[]⟩ : ByteArray) = bl [] := rfl
  have ez : ((0 : Nat) : Int) = 0 := rfl
  have hl := text_len hf.t hf.k hf.v
  rw [text_flat] at hl
  simp only [List.length_append, List.length_cons, List.length_nil] at hl
  obtain ⟨i, h1⟩ := rtext_L3 n (by omega) w hf.t (by omega) w.threads.l [] [] n rfl (by omega) (by simp; omega)
  simp only [List.length_nil, List.nil_append] at h1
  rw [ez] at h1
  obtain ⟨j, h2⟩ := rtext_L9 n (by omega) w hf.k (by omega) w.locks.l [] ((w.threads.l.flatMap fun t => wN (tN t) ++ [32]) ++ [47]) n rfl (by omega) (by simp only [List.length_append, List.length_cons, List.length_nil]; omega)
  simp only [List.length_nil] at h2
  rw [ez] at h2
  obtain ⟨m, h3⟩ := rtext_L14 n (by omega) w hf.v (by omega) w.vals.l [] ((w.threads.l.flatMap fun t => wN (tN t) ++ [32]) ++ [47] ++ (w.locks.l.flatMap fun t => 32 :: wN (kN t)) ++ [32, 47]) n rfl (by omega) (by simp only [List.length_append, List.length_cons, List.length_nil]; omega)
  simp only [List.length_nil] at h3
  rw [ez] at h3
  unfold vigilref14_Text
  rw [e0, h1]
  simp only [Option.bind_some]
  rw [e47, bl_app, if_pos (by rw [bl_size]; simp only [List.length_append, List.length_cons, List.length_nil]; omega), h2]
  simp only [Option.bind_some]
  rw [e3247, bl_app, if_pos (by rw [bl_size]; simp only [List.length_append, List.length_cons, List.length_nil]; omega), h3]
  simp only [Option.bind_some]
  rw [text_flat]
end Go.Proofs.YtilipgopjiokfaaGreatDoor

/-
  Texts of worlds: equality, numbers of words, rows of things.
-/
set_option linter.unusedVariables false
set_option linter.unusedSimpArgs false
namespace Go.Proofs.YtilipgopjiokfaaGreatDoor
open Go Go.Abs Go.Proofs

theorem slices_Equal_loop (n : Nat) (p0 p1 : Sl GThread) (hl : p0.l.length ≤ 1000000) : ∀ (a b pre pre' : List GThread) (k : Nat), p0.l = pre ++ a → p1.l = pre' ++ b → pre.length = pre'.length → a.length = b.length → a.length < k →
    ∃ o, slices_Equal_L4 p0 p1 n k (pre.length : Int) = some o ∧ ((o = .r ∧ a ≠ b) ∨ ∃ v, o = .e0 v ∧ a = b) := by
  intro a
  induction a with
  | nil =>
    intro b pre pre' k h1 h2 h3 h4 hk
    obtain ⟨k, rfl⟩ : ∃ j, k = j + 1 := ⟨k - 1, by omega⟩
    have hb : b = [] := List.length_eq_zero_iff.1 (by simpa using h4.symm)
    exact ⟨.e0 (pre.length : Int), by rw [slices_Equal_L4, if_neg (by rw [h1]; simp)], .inr ⟨_, rfl, hb.symm⟩⟩
  | cons a a' IH =>
    intro b pre pre' k h1 h2 h3 h4 hk
    cases b with
    | nil => simp at h4
    | cons b b' =>
    simp only [List.length_cons] at hk
    obtain ⟨k, rfl⟩ : ∃ j, k = j + 1 := ⟨k - 1, by omega⟩
    have hlen : p0.l.length = pre.length + (a'.length + 1) := by rw [h1]; simp
    have g1 : p0.l[pre.length]? = some a := by rw [h1]; simp
    have g2 : p1.l[pre'.length]? = some b := by rw [h2]; simp
    have h3' : (pre.length : Int) = (pre'.length : Int) := by rw [h3]
    have e1 : (pre.length : Int) + 1 = ((pre ++ [a]).length : Int) := by simp
    by_cases hab : a = b
    · subst hab
      obtain ⟨o, ho, h⟩ := IH b' (pre ++ [a]) (pre' ++ [a]) k (by rw [h1]; simp) (by rw [h2]; simp) (by simp [h3]) (by simpa using h4) (by omega)
      refine ⟨o, ?_, ?_⟩
      · rw [slices_Equal_L4, if_pos (by omega), atI_nat, g1, Option.bind_some, h3', atI_nat, g2, Option.bind_some, if_pos rfl, if_pos (by unfold InR; omega), ← h3', e1, ho]
      · rcases h with ⟨rfl, h⟩ | ⟨v, rfl, h⟩
        · exact .inl ⟨rfl, by simpa using h⟩
        · exact .inr ⟨v, rfl, by simpa using h⟩
    · refine ⟨.r, ?_, .inl ⟨rfl, by simp [hab]⟩⟩
      rw [slices_Equal_L4, if_pos (by omega), atI_nat, g1, Option.bind_some, h3', atI_nat, g2, Option.bind_some, if_neg hab]
theorem slices_Equal_spec (n : Nat) (p0 p1 : Sl GThread) (hl : p0.l.length ≤ 1000000) (hn : p0.l.length < n) : slices_Equal n p0 p1 = some (decide (p0.l = p1.l)) := by
  unfold slices_Equal
  by_cases h : (p0.l.length : Int) ≠ (p1.l.length : Int)
  · rw [if_pos h, decide_eq_false]
    intro e; exact h (by rw [e])
  · rw [if_neg h]
    obtain ⟨o, ho, hh⟩ := slices_Equal_loop n p0 p1 hl p0.l p1.l [] [] n rfl rfl rfl (by omega) hn
    have ez : ((([] : List GThread).length : Nat) : Int) = 0 := rfl
    rw [ez] at ho
    rw [ho]
    rcases hh with ⟨rfl, hh⟩ | ⟨v, rfl, hh⟩
    · rw [decide_eq_false hh]; rfl
    · rw [decide_eq_true hh]; rfl
theorem slices_Equal_2_loop (n : Nat) (p0 p1 : Sl GLock) (hl : p0.l.length ≤ 1000000) : ∀ (a b pre pre' : List GLock) (k : Nat), p0.l = pre ++ a → p1.l = pre' ++ b → pre.length = pre'.length → a.length = b.length → a.length < k →
    ∃ o, slices_Equal_2_L4 p0 p1 n k (pre.length : Int) = some o ∧ ((o = .r ∧ a ≠ b) ∨ ∃ v, o = .e0 v ∧ a = b) := by
  intro a
  induction a with
  | nil =>
    intro b pre pre' k h1 h2 h3 h4 hk
    obtain ⟨k, rfl⟩ : ∃ j, k = j + 1 := ⟨k - 1, by omega⟩
    have hb : b = [] := List.length_eq_zero_iff.1 (by simpa using h4.symm)
    exact ⟨.e0 (pre.length : Int), by rw [slices_Equal_2_L4, if_neg (by rw [h1]; simp)], .inr ⟨_, rfl, hb.symm⟩⟩
  | cons a a' IH =>
    intro b pre pre' k h1 h2 h3 h4 hk
    cases b with
    | nil => simp at h4
    | cons b b' =>
    simp only [List.length_cons] at hk
    obtain ⟨k, rfl⟩ : ∃ j, k = j + 1 := ⟨k - 1, by omega⟩
    have hlen : p0.l.length = pre.length + (a'.length + 1) := by rw [h1]; simp
    have g1 : p0.l[pre.length]? = some a := by rw [h1]; simp
    have g2 : p1.l[pre'.length]? = some b := by rw [h2]; simp
    have h3' : (pre.length : Int) = (pre'.length : Int) := by rw [h3]
    have e1 : (pre.length : Int) + 1 = ((pre ++ [a]).length : Int) := by simp
    by_cases hab : a = b
    · subst hab
      obtain ⟨o, ho, h⟩ := IH b' (pre ++ [a]) (pre' ++ [a]) k (by rw [h1]; simp) (by rw [h2]; simp) (by simp [h3]) (by simpa using h4) (by omega)
      refine ⟨o, ?_, ?_⟩
      · rw [slices_Equal_2_L4, if_pos (by omega), atI_nat, g1, Option.bind_some, h3', atI_nat, g2, Option.bind_some, if_pos rfl, if_pos (by unfold InR; omega), ← h3', e1, ho]
      · rcases h with ⟨rfl, h⟩ | ⟨v, rfl, h⟩
        · exact .inl ⟨rfl, by simpa using h⟩
        · exact .inr ⟨v, rfl, by simpa using h⟩
    · refine ⟨.r, ?_, .inl ⟨rfl, by simp [hab]⟩⟩
      rw [slices_Equal_2_L4, if_pos (by omega), atI_nat, g1, Option.bind_some, h3', atI_nat, g2, Option.bind_some, if_neg hab]
theorem slices_Equal_2_spec (n : Nat) (p0 p1 : Sl GLock) (hl : p0.l.length ≤ 1000000) (hn : p0.l.length < n) : slices_Equal_2 n p0 p1 = some (decide (p0.l = p1.l)) := by
  unfold slices_Equal_2
  by_cases h : (p0.l.length : Int) ≠ (p1.l.length : Int)
  · rw [if_pos h, decide_eq_false]
    intro e; exact h (by rw [e])
  · rw [if_neg h]
    obtain ⟨o, ho, hh⟩ := slices_Equal_2_loop n p0 p1 hl p0.l p1.l [] [] n rfl rfl rfl (by omega) hn
    have ez : ((([] : List GLock).length : Nat) : Int) = 0 := rfl
    rw [ez] at ho
    rw [ho]
    rcases hh with ⟨rfl, hh⟩ | ⟨v, rfl, hh⟩
    · rw [decide_eq_false hh]; rfl
    · rw [decide_eq_true hh]; rfl
theorem slices_Equal_3_loop (n : Nat) (p0 p1 : Sl Int) (hl : p0.l.length ≤ 1000000) : ∀ (a b pre pre' : List Int) (k : Nat), p0.l = pre ++ a → p1.l = pre' ++ b → pre.length = pre'.length → a.length = b.length → a.length < k →
    ∃ o, slices_Equal_3_L4 p0 p1 n k (pre.length : Int) = some o ∧ ((o = .r ∧ a ≠ b) ∨ ∃ v, o = .e0 v ∧ a = b) := by
  intro a
  induction a with
  | nil =>
    intro b pre pre' k h1 h2 h3 h4 hk
    obtain ⟨k, rfl⟩ : ∃ j, k = j + 1 := ⟨k - 1, by omega⟩
    have hb : b = [] := List.length_eq_zero_iff.1 (by simpa using h4.symm)
    exact ⟨.e0 (pre.length : Int), by rw [slices_Equal_3_L4, if_neg (by rw [h1]; simp)], .inr ⟨_, rfl, hb.symm⟩⟩
  | cons a a' IH =>
    intro b pre pre' k h1 h2 h3 h4 hk
    cases b with
    | nil => simp at h4
    | cons b b' =>
    simp only [List.length_cons] at hk
    obtain ⟨k, rfl⟩ : ∃ j, k = j + 1 := ⟨k - 1, by omega⟩
    have hlen : p0.l.length = pre.length + (a'.length + 1) := by rw [h1]; simp
    have g1 : p0.l[pre.length]? = some a := by rw [h1]; simp
    have g2 : p1.l[pre'.length]? = some b := by rw [h2]; simp
    have h3' : (pre.length : Int) = (pre'.length : Int) := by rw [h3]
    have e1 : (pre.length : Int) + 1 = ((pre ++ [a]).length : Int) := by simp
    by_cases hab : a = b
    · subst hab
      obtain ⟨o, ho, h⟩ := IH b' (pre ++ [a]) (pre' ++ [a]) k (by rw [h1]; simp) (by rw [h2]; simp) (by simp [h3]) (by simpa using h4) (by omega)
      refine ⟨o, ?_, ?_⟩
      · rw [slices_Equal_3_L4, if_pos (by omega), atI_nat, g1, Option.bind_some, h3', atI_nat, g2, Option.bind_some, if_neg (by simp), if_pos (by unfold InR; omega), ← h3', e1, ho]
      · rcases h with ⟨rfl, h⟩ | ⟨v, rfl, h⟩
        · exact .inl ⟨rfl, by simpa using h⟩
        · exact .inr ⟨v, rfl, by simpa using h⟩
    · refine ⟨.r, ?_, .inl ⟨rfl, by simp [hab]⟩⟩
      rw [slices_Equal_3_L4, if_pos (by omega), atI_nat, g1, Option.bind_some, h3', atI_nat, g2, Option.bind_some, if_pos hab]
theorem slices_Equal_3_spec (n : Nat) (p0 p1 : Sl Int) (hl : p0.l.length ≤ 1000000) (hn : p0.l.length < n) : slices_Equal_3 n p0 p1 = some (decide (p0.l = p1.l)) := by
  unfold slices_Equal_3
  by_cases h : (p0.l.length : Int) ≠ (p1.l.length : Int)
  · rw [if_pos h, decide_eq_false]
    intro e; exact h (by rw [e])
  · rw [if_neg h]
    obtain ⟨o, ho, hh⟩ := slices_Equal_3_loop n p0 p1 hl p0.l p1.l [] [] n rfl rfl rfl (by omega) hn
    have ez : ((([] : List Int).length : Nat) : Int) = 0 := rfl
    rw [ez] at ho
    rw [ho]
    rcases hh with ⟨rfl, hh⟩ | ⟨v, rfl, hh⟩
    · rw [decide_eq_false hh]; rfl
    · rw [decide_eq_true hh]; rfl
theorem vigilref11_Values_loop (n : Nat) (p0 p1 : Sl Int) (hl : p0.l.length ≤ 1000000) : ∀ (a b pre pre' : List Int) (k : Nat), p0.l = pre ++ a → p1.l = pre' ++ b → pre.length = pre'.length → a.length = b.length → a.length < k →
    ∃ o, vigilref11_Values_L4 p0 p1 n k (pre.length : Int) = some o ∧ ((o = .r ∧ a ≠ b) ∨ ∃ v, o = .e0 v ∧ a = b) := by
  intro a
  induction a with
  | nil =>
    intro b pre pre' k h1 h2 h3 h4 hk
    obtain ⟨k, rfl⟩ : ∃ j, k = j + 1 := ⟨k - 1, by omega⟩
    have hb : b = [] := List.length_eq_zero_iff.1 (by simpa using h4.symm)
    exact ⟨.e0 (pre.length : Int), by rw [vigilref11_Values_L4, if_neg (by rw [h1]; simp)], .inr ⟨_, rfl, hb.symm⟩⟩
  | cons a a' IH =>
    intro b pre pre' k h1 h2 h3 h4 hk
    cases b with
    | nil => simp at h4
    | cons b b' =>
    simp only [List.length_cons] at hk
    obtain ⟨k, rfl⟩ : ∃ j, k = j + 1 := ⟨k - 1, by omega⟩
    have hlen : p0.l.length = pre.length + (a'.length + 1) := by rw [h1]; simp
    have g1 : p0.l[pre.length]? = some a := by rw [h1]; simp
    have g2 : p1.l[pre'.length]? = some b := by rw [h2]; simp
    have h3' : (pre.length : Int) = (pre'.length : Int) := by rw [h3]
    have e1 : (pre.length : Int) + 1 = ((pre ++ [a]).length : Int) := by simp
    by_cases hab : a = b
    · subst hab
      obtain ⟨o, ho, h⟩ := IH b' (pre ++ [a]) (pre' ++ [a]) k (by rw [h1]; simp) (by rw [h2]; simp) (by simp [h3]) (by simpa using h4) (by omega)
      refine ⟨o, ?_, ?_⟩
      · rw [vigilref11_Values_L4, if_pos (by omega), atI_nat, g1, Option.bind_some, h3', atI_nat, g2, Option.bind_some, if_neg (by simp), if_pos (by unfold InR; omega), ← h3', e1, ho]
      · rcases h with ⟨rfl, h⟩ | ⟨v, rfl, h⟩
        · exact .inl ⟨rfl, by simpa using h⟩
        · exact .inr ⟨v, rfl, by simpa using h⟩
    · refine ⟨.r, ?_, .inl ⟨rfl, by simp [hab]⟩⟩
      rw [vigilref11_Values_L4, if_pos (by omega), atI_nat, g1, Option.bind_some, h3', atI_nat, g2, Option.bind_some, if_pos hab]
theorem vigilref11_Values_spec (n : Nat) (p0 p1 : Sl Int) (hl : p0.l.length ≤ 1000000) (hn : p0.l.length < n) : vigilref11_Values n p0 p1 = some (decide (p0.l = p1.l)) := by
  unfold vigilref11_Values
  by_cases h : (p0.l.length : Int) ≠ (p1.l.length : Int)
  · rw [if_pos h, decide_eq_false]
    intro e; exact h (by rw [e])
  · rw [if_neg h]
    obtain ⟨o, ho, hh⟩ := vigilref11_Values_loop n p0 p1 hl p0.l p1.l [] [] n rfl rfl rfl (by omega) hn
    have ez : ((([] : List Int).length : Nat) : Int) = 0 := rfl
    rw [ez] at ho
    rw [ho]
    rcases hh with ⟨rfl, hh⟩ | ⟨v, rfl, hh⟩
    · rw [decide_eq_false hh]; rfl
    · rw [decide_eq_true hh]; rfl

/-- Are two worlds the same? -/
def SameW (a b : GWorld) : Prop := a.threads.l = b.threads.l ∧ a.locks.l = b.locks.l ∧ a.vals.l = b.vals.l
instance (a b : GWorld) : Decidable (SameW a b) := inferInstanceAs (Decidable (_ ∧ _))
theorem same_spec (n : Nat) (hn : 30000 ≤ n) (a b : GWorld) (hs : SmallW a) : world_Same n a b = some (decide (SameW a b)) := by
  unfold SmallW at hs
  unfold world_Same
  rw [slices_Equal_spec n _ _ (by omega) (by omega), Option.bind_some]
  by_cases h1 : a.threads.l = b.threads.l
  · rw [decide_eq_true h1, cond_true, slices_Equal_2_spec n _ _ (by omega) (by omega), Option.bind_some]
    by_cases h2 : a.locks.l = b.locks.l
    · rw [decide_eq_true h2, cond_true, slices_Equal_3_spec n _ _ (by omega) (by omega), Option.bind_some]
      by_cases h3 : a.vals.l = b.vals.l
      · rw [decide_eq_true h3, decide_eq_true (show SameW a b from ⟨h1, h2, h3⟩)]
      · rw [decide_eq_false h3, decide_eq_false (p := SameW a b) fun h => h3 h.2.2]
    · rw [decide_eq_false h2, cond_false, decide_eq_false (p := SameW a b) fun h => h2 h.2.1]
  · rw [decide_eq_false h1, cond_false, decide_eq_false (p := SameW a b) fun h => h1 h.1]
theorem vigilref14_Same_L4_loop (n : Nat) (p0 p1 : GWorld) (hl : p0.threads.l.length ≤ 1000000) : ∀ (a b pre pre' : List GThread) (k : Nat), p0.threads.l = pre ++ a → p1.threads.l = pre' ++ b → pre.length = pre'.length → a.length = b.length → a.length < k →
    ∃ o, vigilref14_Same_L4 p0 p1 n k (pre.length : Int) = some o ∧ ((o = .r ∧ a ≠ b) ∨ ∃ v, o = .e0 v ∧ a = b) := by
  intro a
  induction a with
  | nil =>
    intro b pre pre' k h1 h2 h3 h4 hk
    obtain ⟨k, rfl⟩ : ∃ j, k = j + 1 := ⟨k - 1, by omega⟩
    have hb : b = [] := List.length_eq_zero_iff.1 (by simpa using h4.symm)
    exact ⟨.e0 (pre.length : Int), by rw [vigilref14_Same_L4, if_neg (by rw [h1]; simp)], .inr ⟨_, rfl, hb.symm⟩⟩
  | cons a a' IH =>
    intro b pre pre' k h1 h2 h3 h4 hk
    cases b with
    | nil => simp at h4
    | cons b b' =>
    simp only [List.length_cons] at hk
    obtain ⟨k, rfl⟩ : ∃ j, k = j + 1 := ⟨k - 1, by omega⟩
    have hlen : p0.threads.l.length = pre.length + (a'.length + 1) := by rw [h1]; simp
    have g1 : p0.threads.l[pre.length]? = some a := by rw [h1]; simp
    have g2 : p1.threads.l[pre'.length]? = some b := by rw [h2]; simp
    have h3' : (pre.length : Int) = (pre'.length : Int) := by rw [h3]
    have e1 : (pre.length : Int) + 1 = ((pre ++ [a]).length : Int) := by simp
    by_cases hab : a = b
    · subst hab
      obtain ⟨o, ho, h⟩ := IH b' (pre ++ [a]) (pre' ++ [a]) k (by rw [h1]; simp) (by rw [h2]; simp) (by simp [h3]) (by simpa using h4) (by omega)
      refine ⟨o, ?_, ?_⟩
      · rw [vigilref14_Same_L4, if_pos (by omega), atI_nat, g1, Option.bind_some, h3', atI_nat, g2, Option.bind_some, if_pos rfl, if_pos (by unfold InR; omega), ← h3', e1, ho]
      · rcases h with ⟨rfl, h⟩ | ⟨v, rfl, h⟩
        · exact .inl ⟨rfl, by simpa using h⟩
        · exact .inr ⟨v, rfl, by simpa using h⟩
    · refine ⟨.r, ?_, .inl ⟨rfl, by simp [hab]⟩⟩
      rw [vigilref14_Same_L4, if_pos (by omega), atI_nat, g1, Option.bind_some, h3', atI_nat, g2, Option.bind_some, if_neg hab]
theorem vigilref14_Same_L9_loop (n : Nat) (p0 p1 : GWorld) (hl : p0.locks.l.length ≤ 1000000) : ∀ (a b pre pre' : List GLock) (k : Nat), p0.locks.l = pre ++ a → p1.locks.l = pre' ++ b → pre.length = pre'.length → a.length = b.length → a.length < k →
    ∃ o, vigilref14_Same_L9 p0 p1 n k (pre.length : Int) = some o ∧ ((o = .r ∧ a ≠ b) ∨ ∃ v, o = .e2 v ∧ a = b) := by
  intro a
  induction a with
  | nil =>
    intro b pre pre' k h1 h2 h3 h4 hk
    obtain ⟨k, rfl⟩ : ∃ j, k = j + 1 := ⟨k - 1, by omega⟩
    have hb : b = [] := List.length_eq_zero_iff.1 (by simpa using h4.symm)
    exact ⟨.e2 (pre.length : Int), by rw [vigilref14_Same_L9, if_neg (by rw [h1]; simp)], .inr ⟨_, rfl, hb.symm⟩⟩
  | cons a a' IH =>
    intro b pre pre' k h1 h2 h3 h4 hk
    cases b with
    | nil => simp at h4
    | cons b b' =>
    simp only [List.length_cons] at hk
    obtain ⟨k, rfl⟩ : ∃ j, k = j + 1 := ⟨k - 1, by omega⟩
    have hlen : p0.locks.l.length = pre.length + (a'.length + 1) := by rw [h1]; simp
    have g1 : p0.locks.l[pre.length]? = some a := by rw [h1]; simp
    have g2 : p1.locks.l[pre'.length]? = some b := by rw [h2]; simp
    have h3' : (pre.length : Int) = (pre'.length : Int) := by rw [h3]
    have e1 : (pre.length : Int) + 1 = ((pre ++ [a]).length : Int) := by simp
    by_cases hab : a = b
    · subst hab
      obtain ⟨o, ho, h⟩ := IH b' (pre ++ [a]) (pre' ++ [a]) k (by rw [h1]; simp) (by rw [h2]; simp) (by simp [h3]) (by simpa using h4) (by omega)
      refine ⟨o, ?_, ?_⟩
      · rw [vigilref14_Same_L9, if_pos (by omega), atI_nat, g1, Option.bind_some, h3', atI_nat, g2, Option.bind_some, if_pos rfl, if_pos (by unfold InR; omega), ← h3', e1, ho]
      · rcases h with ⟨rfl, h⟩ | ⟨v, rfl, h⟩
        · exact .inl ⟨rfl, by simpa using h⟩
        · exact .inr ⟨v, rfl, by simpa using h⟩
    · refine ⟨.r, ?_, .inl ⟨rfl, by simp [hab]⟩⟩
      rw [vigilref14_Same_L9, if_pos (by omega), atI_nat, g1, Option.bind_some, h3', atI_nat, g2, Option.bind_some, if_neg hab]
theorem rsame_spec (n : Nat) (hn : 30000 ≤ n) (a b : GWorld) (hs : SmallW a) : vigilref14_Same n a b = some (decide (SameW a b)) := by
  unfold SmallW at hs
  unfold vigilref14_Same vigilref14_Same_J1
  have ez : ((0 : Nat) : Int) = 0 := rfl
  by_cases h1 : (a.threads.l.length : Int) ≠ (b.threads.l.length : Int)
  · rw [if_pos h1, decide_eq_false (p := SameW a b) fun h => h1 (by rw [h.1])]; rfl
  rw [if_neg h1]
  by_cases h2 : (a.locks.l.length : Int) ≠ (b.locks.l.length : Int)
  · rw [if_pos h2, decide_eq_false (p := SameW a b) fun h => h2 (by rw [h.2.1])]; rfl
  rw [if_neg h2, vigilref11_Values_spec n _ _ (by omega) (by omega), Option.bind_some]
  by_cases h3 : a.vals.l = b.vals.l
  · rw [decide_eq_true h3, cond_true, Option.bind_some]
    dsimp only
    obtain ⟨o, ho, hh⟩ := vigilref14_Same_L4_loop n a b (by omega) a.threads.l b.threads.l [] [] n rfl rfl rfl (by omega) (by omega)
    simp only [List.length_nil] at ho
    rw [ez] at ho
    rw [ho]
    rcases hh with ⟨rfl, hh⟩ | ⟨v, rfl, hh⟩
    · rw [decide_eq_false (p := SameW a b) fun h => hh h.1]; rfl
    · simp only [Option.bind_some]
      obtain ⟨o, ho, hk⟩ := vigilref14_Same_L9_loop n a b (by omega) a.locks.l b.locks.l [] [] n rfl rfl rfl (by omega) (by omega)
      simp only [List.length_nil] at ho
      rw [ez] at ho
      rw [ho]
      rcases hk with ⟨rfl, hk⟩ | ⟨v, rfl, hk⟩
      · rw [decide_eq_false (p := SameW a b) fun h => hk h.2.1]; rfl
      · rw [decide_eq_true (show SameW a b from ⟨hh, hk, h3⟩)]; rfl
  · rw [decide_eq_false h3, cond_false, decide_eq_false (p := SameW a b) fun h => h3 h.2.2]; rfl

/-! ### where a word comes first -/
theorem index_loop (n : Nat) (f x : Bool) (ws : List (List UInt8)) (hl : ws.length ≤ 1000000) : ∀ (rest pre : List (List UInt8)) (k : Nat), ws = pre ++ rest → rest.length < k →
    (∃ P Q, rest = P ++ [47] :: Q ∧ [47] ∉ P ∧ slices_Index_L2 (⟨f, x, ws.map bl⟩ : Sl ByteArray) (bl [47]) n k (pre.length : Int) = some (.r ((pre.length + P.length : Nat) : Int))) ∨ ([47] ∉ rest ∧ ∃ v, slices_Index_L2 (⟨f, x, ws.map bl⟩ : Sl ByteArray) (bl [47]) n k (pre.length : Int) = some (.e0 v)) := by
  intro rest
  induction rest with
  | nil =>
    intro pre k h1 hk
    obtain ⟨k, rfl⟩ : ∃ j, k = j + 1 := ⟨k - 1, by omega⟩
    exact .inr ⟨by simp, (pre.length : Int), by rw [slices_Index_L2, if_neg (by rw [h1]; simp)]⟩
  | cons w rest IH =>
    intro pre k h1 hk
    simp only [List.length_cons] at hk
    obtain ⟨k, rfl⟩ : ∃ j, k = j + 1 := ⟨k - 1, by omega⟩
    have hlen : (ws.map bl).length = pre.length + (rest.length + 1) := by rw [h1]; simp
    have hlen' : ws.length = pre.length + (rest.length + 1) := by rw [h1]; simp
    have hg : (ws.map bl)[pre.length]? = some (bl w) := by rw [h1]; simp
    have e1 : (pre.length : Int) + 1 = ((pre ++ [w]).length : Int) := by simp
    by_cases hw : w = [47]
    · subst hw
      refine .inl ⟨[], rest, rfl, by simp, ?_⟩
      rw [slices_Index_L2]
      refine (if_pos (by show _ < ((ws.map bl).length : Int); omega)).trans ?_
      show (atI (ws.map bl) _).bind _ = _
      rw [atI_nat, hg, Option.bind_some, if_pos rfl]; simp
    · have hstep : slices_Index_L2 (⟨f, x, ws.map bl⟩ : Sl ByteArray) (bl [47]) n (k + 1) (pre.length : Int) = slices_Index_L2 (⟨f, x, ws.map bl⟩ : Sl ByteArray) (bl [47]) n k ((pre ++ [w]).length : Int) := by
        rw [slices_Index_L2]
        refine (if_pos (by show _ < ((ws.map bl).length : Int); omega)).trans ?_
        show (atI (ws.map bl) _).bind _ = _
        rw [atI_nat, hg, Option.bind_some, if_neg (by rw [bl_inj]; exact Ne.symm hw), if_pos (by unfold InR; omega), e1]
      rcases IH (pre ++ [w]) k (by rw [h1]; simp) (by omega) with ⟨P, Q, e, hP, h⟩ | ⟨hno, v, h⟩
      · refine .inl ⟨w :: P, Q, by rw [e]; rfl, fun hm => ?_, ?_⟩
        · rcases List.mem_cons.1 hm with hm | hm
          · exact hw hm.symm
          · exact hP hm
        · rw [hstep, h]
          simp; omega
      · refine .inr ⟨fun hm => ?_, v, by rw [hstep, h]⟩
        rcases List.mem_cons.1 hm with hm | hm
        · exact hw hm.symm
        · exact hno hm
theorem index_spec (n : Nat) (f x : Bool) (ws : List (List UInt8)) (hl : ws.length ≤ 1000000) (hn : ws.length < n) :
    (∃ P Q, ws = P ++ [47] :: Q ∧ [47] ∉ P ∧ slices_Index n (⟨f, x, ws.map bl⟩ : Sl ByteArray) (bl [47]) = some (P.length : Int)) ∨ ([47] ∉ ws ∧ slices_Index n (⟨f, x, ws.map bl⟩ : Sl ByteArray) (bl [47]) = some (-1)) := by
  have ez : ((([] : List (List UInt8)).length : Nat) : Int) = 0 := rfl
  rcases index_loop n f x ws hl ws [] n rfl hn with ⟨P, Q, e, hP, h⟩ | ⟨hno, v, h⟩
  · rw [ez] at h
    exact .inl ⟨P, Q, e, hP, by unfold slices_Index; rw [h]; simp⟩
  · rw [ez] at h
    exact .inr ⟨hno, by unfold slices_Index; rw [h]; rfl⟩

/-! ### numbers of a word -/
theorem atoiR_iL {m : Int} (h : InR m) : atoiR (bl (iL m)) = (m, false) := by unfold atoiR; rw [bl_data, atoi_iL h]
theorem atoiR_ok {w : List UInt8} (h : (atoiR (bl w)).2 ≠ true) : InR (atoiR (bl w)).1 := by
  unfold atoiR at h ⊢
  rw [bl_data] at h ⊢
  cases ha : Lib.atoiAll w with
  | ok v => exact atoi_InR ha
  | range => rw [ha] at h; exact absurd rfl h
  | _ => rw [ha] at h; exact absurd rfl h
theorem numbers_loop (n : Nat) (p0 : ByteArray) (p1 : Int) (L : List (List UInt8)) (hL : splitS p0 (⟨#[58]⟩ : ByteArray) = L.map bl) (hp : p1 = (L.length : Int)) (hl : L.length ≤ 1000000) (hz : ∀ q ∈ L, q.length ≤ 1000000) : ∀ (rest pre : List (List UInt8)) (done : List Int) (k : Nat), L = pre ++ rest → done.length = pre.length → rest.length < k →
    (∃ ys v, world_numbers_L6 p0 p1 n k (pre.length : Int) (done ++ List.replicate rest.length 0) = some (.e0 v (done ++ ys)) ∧ ys.length = rest.length ∧ (∀ y ∈ ys, InR y) ∧ ∀ ns : List Int, (∀ y ∈ ns, InR y) → rest = ns.map iL → ys = ns) ∨
    ((∃ o, world_numbers_L6 p0 p1 n k (pre.length : Int) (done ++ List.replicate rest.length 0) = some (.r o)) ∧ ∀ ns : List Int, (∀ y ∈ ns, InR y) → rest ≠ ns.map iL) := by
  intro rest
  induction rest with
  | nil =>
    intro pre done k h1 hd hk
    obtain ⟨k, rfl⟩ : ∃ j, k = j + 1 := ⟨k - 1, by omega⟩
    refine .inl ⟨[], (pre.length : Int), ?_, rfl, by simp, fun ns _ h => ?_⟩
    · rw [world_numbers_L6, hL, if_neg (by rw [h1]; simp)]; simp
    · cases ns with
      | nil => rfl
      | cons => cases h
  | cons w rest IH =>
    intro pre done k h1 hd hk
    simp only [List.length_cons] at hk
    obtain ⟨k, rfl⟩ : ∃ j, k = j + 1 := ⟨k - 1, by omega⟩
    have hlen : (L.map bl).length = pre.length + (rest.length + 1) := by rw [h1]; simp
    have hlen' : L.length = pre.length + (rest.length + 1) := by rw [h1]; simp
    have hg : (L.map bl)[pre.length]? = some (bl w) := by rw [h1]; simp
    have hw := hz w (by rw [h1]; simp)
    have e1 : (pre.length : Int) + 1 = ((pre ++ [w]).length : Int) := by simp
    rw [world_numbers_L6, hL, if_pos (by omega), atI_nat, hg, Option.bind_some, if_pos (by rw [bl_size]; omega)]
    by_cases he : (atoiR (bl w)).2 = true
    · rw [if_pos he]
      refine .inr ⟨⟨_, rfl⟩, fun ns hns h => ?_⟩
      cases ns with
      | nil => cases h
      | cons m ns =>
        simp only [List.map_cons, List.cons.injEq] at h
        rw [h.1, atoiR_iL (hns m (by simp))] at he
        cases he
    · rw [if_neg he]
      have ho : (done ++ List.replicate (w :: rest).length (0 : Int))[pre.length]? = some (0 : Int) := by
        rw [← hd]; simp [List.replicate_succ]
      have hs : (done ++ List.replicate (w :: rest).length (0 : Int)).set pre.length (atoiR (bl w)).1 = (done ++ [(atoiR (bl w)).1]) ++ List.replicate rest.length 0 := by
        rw [← hd]; simp [List.replicate_succ]
      rw [if_pos (by rw [hp]; omega), atI_nat, ho, Option.bind_some, if_pos (by unfold InR; omega), Int.toNat_natCast, hs, e1]
      rcases IH (pre ++ [w]) (done ++ [(atoiR (bl w)).1]) k (by rw [h1]; simp) (by simp [hd]) (by omega) with ⟨ys, v, h, hy1, hy2, hy3⟩ | ⟨⟨o, h⟩, hno⟩
      · refine .inl ⟨(atoiR (bl w)).1 :: ys, v, by rw [h]; simp, by simp [hy1], fun y hy => ?_, fun ns hns h => ?_⟩
        · rcases List.mem_cons.1 hy with rfl | hy
          · exact atoiR_ok he
          · exact hy2 y hy
        · cases ns with
          | nil => cases h
          | cons m ns =>
            simp only [List.map_cons, List.cons.injEq] at h
            rw [hy3 ns (fun y hy => hns y (by simp [hy])) h.2, h.1, atoiR_iL (hns m (by simp))]
      · refine .inr ⟨⟨o, h⟩, fun ns hns h => ?_⟩
        cases ns with
        | nil => cases h
        | cons m ns =>
          simp only [List.map_cons, List.cons.injEq] at h
          exact hno ns (fun y hy => hns y (by simp [hy])) h.2
/-- The numbers of a word, if there are so many. -/
theorem numbers_spec (n : Nat) (m : Nat) (hm : m ≤ 100) (hm0 : 0 < m) (hn : 30000 ≤ n) (w : List UInt8) (hw : w.length ≤ 20000) : ∃ x ok, world_numbers n (bl w) (m : Int) = some (x, ok) ∧ (ok = true → x.l.length = m ∧ ∀ y ∈ x.l, InR y) ∧
    ∀ ns : List Int, ns.length = m → (∀ y ∈ ns, InR y) → w = wN ns → ok = true ∧ x.l = ns := by
  have hcut : ∀ ns : List Int, ns.length = m → w = wN ns → cuts 58 w = ns.map iL := fun ns h1 h2 => by
    rw [h2, cuts_wN (by intro e; subst e; simp at h1; omega)]
  have hcl := cuts_len 58 w
  unfold world_numbers
  rw [if_pos (by rw [bl_size]; omega), splitS_one]
  by_cases hlen : (((cuts 58 w).map bl).length : Int) ≠ (m : Int)
  · rw [if_pos hlen]
    refine ⟨_, false, rfl, by simp, fun ns h1 _ h2 => ?_⟩
    exfalso; apply hlen
    rw [hcut ns h1 h2]; simp [h1]
  · rw [if_neg hlen, if_pos (by omega), Int.toNat_natCast, if_pos (by unfold Mk; omega)]
    have hlen' : (cuts 58 w).length = m := by simp at hlen; omega
    have := numbers_loop n (bl w) (m : Int) (cuts 58 w) (splitS_one 58 w) (by rw [hlen']) (by omega) (fun q hq => by have := cuts_size 58 w q hq; omega) (cuts 58 w) [] [] n rfl rfl (by omega)
    simp only [List.nil_append, List.length_nil, hlen'] at this
    have ez : ((0 : Nat) : Int) = 0 := rfl
    rw [ez] at this
    rcases this with ⟨ys, v, h, h1, h2, h3⟩ | ⟨⟨o, h⟩, hno⟩
    · rw [h]
      simp only [Option.bind_some]
      rw [if_pos h1.symm]
      exact ⟨_, true, rfl, fun _ => ⟨h1, h2⟩, fun ns g1 g2 g3 => ⟨rfl, h3 ns g2 (hcut ns g1 g3)⟩⟩
    · rw [h]
      exact ⟨_, false, rfl, by simp, fun ns g1 g2 g3 => absurd (hcut ns g1 g3) (hno ns g2)⟩

theorem world_row_loop (n : Nat) (hn : 30000 ≤ n) (f x : Bool) (ws : List (List UInt8)) (hl : ws.length ≤ 20000) (hz : ∀ w ∈ ws, w.length ≤ 20000) : ∀ (rest pre : List (List UInt8)) (acc : List GThread) (k : Nat), ws = pre ++ rest → rest.length < k → acc.length + rest.length ≤ 30000 →
    (∃ ys v, world_row_L2 (⟨f, x, ws.map bl⟩ : Sl ByteArray) 5 n k acc (pre.length : Int) = some (.e0 (acc ++ ys) v) ∧ ys.length = rest.length ∧ (∀ y ∈ ys, FitT y) ∧ ∀ T : List GThread, (∀ y ∈ T, FitT y) → rest = T.map (fun t => wN (tN t)) → ys = T) ∨
    (world_row_L2 (⟨f, x, ws.map bl⟩ : Sl ByteArray) 5 n k acc (pre.length : Int) = some .r ∧ ∀ T : List GThread, (∀ y ∈ T, FitT y) → rest ≠ T.map fun t => wN (tN t)) := by
  intro rest
  induction rest with
  | nil =>
    intro pre acc k h1 hk ha
    obtain ⟨k, rfl⟩ : ∃ j, k = j + 1 := ⟨k - 1, by omega⟩
    refine .inl ⟨[], (pre.length : Int), ?_, rfl, by simp, fun ns _ h => ?_⟩
    · rw [world_row_L2, if_neg (by rw [h1]; simp)]; simp
    · cases ns with
      | nil => rfl
      | cons => cases h
  | cons w rest IH =>
    intro pre acc k h1 hk ha
    simp only [List.length_cons] at hk ha
    obtain ⟨k, rfl⟩ : ∃ j, k = j + 1 := ⟨k - 1, by omega⟩
    have hlen : (ws.map bl).length = pre.length + (rest.length + 1) := by rw [h1]; simp
    have hlen' : ws.length = pre.length + (rest.length + 1) := by rw [h1]; simp
    have hg : (ws.map bl)[pre.length]? = some (bl w) := by rw [h1]; simp
    have e1 : (pre.length : Int) + 1 = ((pre ++ [w]).length : Int) := by simp
    obtain ⟨u, ok, hu, u1, u2⟩ := numbers_spec n 5 (by omega) (by omega) hn w (hz w (by rw [h1]; simp))
    have hu' : world_numbers n (bl w) 5 = some (u, ok) := hu
    have hhead : world_row_L2 (⟨f, x, ws.map bl⟩ : Sl ByteArray) 5 n (k + 1) acc (pre.length : Int) = bif ok then
        (world_Parse_1 n u).bind fun x_3 =>
        if Room 40 (acc ++ ([x_3] : List GThread)).length then if InR ((pre.length : Int) + 1) then world_row_L2 (⟨f, x, ws.map bl⟩ : Sl ByteArray) 5 n k (acc ++ ([x_3] : List GThread)) ((pre.length : Int) + 1)
        else none
        else none
      else some (.r) := by
      rw [world_row_L2]
      refine (if_pos (by show _ < ((ws.map bl).length : Int); omega)).trans ?_
      show (atI (ws.map bl) _).bind _ = _
      rw [atI_nat, hg, Option.bind_some, hu', Option.bind_some]
    rw [hhead]
    cases ok with
    | false =>
      refine .inr ⟨rfl, fun T hT h => ?_⟩
      cases T with
      | nil => cases h
      | cons t T =>
        simp only [List.map_cons, List.cons.injEq] at h
        have := (u2 (tN t) rfl (hT t (by simp)) h.1).1
        cases this
    | true =>
      obtain ⟨g1, g2⟩ := u1 rfl
      rw [cond_true]
      obtain ⟨fl, xl, ul⟩ := u
      simp only at g1 g2 u2
      match ul, g1 with
      | [a, b, c, d, e], _ =>
      have hmk : world_Parse_1 n (⟨fl, xl, [a, b, c, d, e]⟩ : Sl Int) = some (⟨a, b, c, d, e⟩ : GThread) := rfl
      rw [hmk, Option.bind_some, if_pos (by unfold Room; simp; omega), if_pos (by unfold InR; omega), e1]
      have hfit : FitT (⟨a, b, c, d, e⟩ : GThread) := g2
      rcases IH (pre ++ [w]) (acc ++ [(⟨a, b, c, d, e⟩ : GThread)]) k (by rw [h1]; simp) (by omega) (by simp; omega) with ⟨ys, v, h, hy1, hy2, hy3⟩ | ⟨h, hno⟩
      · refine .inl ⟨(⟨a, b, c, d, e⟩ : GThread) :: ys, v, by rw [h]; simp, by simp [hy1], fun y hy => ?_, fun T hT h => ?_⟩
        · rcases List.mem_cons.1 hy with rfl | hy
          · exact hfit
          · exact hy2 y hy
        · cases T with
          | nil => cases h
          | cons t T =>
            simp only [List.map_cons, List.cons.injEq] at h
            have ht := (u2 (tN t) rfl (hT t (by simp)) h.1).2
            rw [hy3 T (fun y hy => hT y (by simp [hy])) h.2]
            have : (⟨a, b, c, d, e⟩ : GThread) = t := tN_inj ht
            rw [this]
      · refine .inr ⟨h, fun T hT h => ?_⟩
        cases T with
        | nil => cases h
        | cons t T =>
          simp only [List.map_cons, List.cons.injEq] at h
          exact hno T (fun y hy => hT y (by simp [hy])) h.2
theorem world_row_spec (n : Nat) (hn : 30000 ≤ n) (f x : Bool) (ws : List (List UInt8)) (hl : ws.length ≤ 20000) (hz : ∀ w ∈ ws, w.length ≤ 20000) : ∃ c ok, world_row n (⟨f, x, ws.map bl⟩ : Sl ByteArray) 5 = some (c, ok) ∧ (ok = true → c.l.length = ws.length ∧ ∀ y ∈ c.l, FitT y) ∧
    ∀ T : List GThread, (∀ y ∈ T, FitT y) → ws = T.map (fun t => wN (tN t)) → ok = true ∧ c.l = T := by
  have ez : ((([] : List (List UInt8)).length : Nat) : Int) = 0 := rfl
  have := world_row_loop n hn f x ws hl hz ws [] [] n rfl (by omega) (by simp; omega)
  rw [ez] at this
  rcases this with ⟨ys, v, h, h1, h2, h3⟩ | ⟨h, hno⟩
  · refine ⟨Sl.gr ys, true, by unfold world_row; rw [h]; rfl, fun _ => ⟨h1, h2⟩, fun T hT e => ⟨rfl, h3 T hT e⟩⟩
  · exact ⟨Sl.nil, false, by unfold world_row; rw [h]; rfl, by simp, fun T hT e => absurd e (hno T hT)⟩

theorem world_row_2_loop (n : Nat) (hn : 30000 ≤ n) (f x : Bool) (ws : List (List UInt8)) (hl : ws.length ≤ 20000) (hz : ∀ w ∈ ws, w.length ≤ 20000) : ∀ (rest pre : List (List UInt8)) (acc : List GLock) (k : Nat), ws = pre ++ rest → rest.length < k → acc.length + rest.length ≤ 30000 →
    (∃ ys v, world_row_2_L2 (⟨f, x, ws.map bl⟩ : Sl ByteArray) 2 n k acc (pre.length : Int) = some (.e0 (acc ++ ys) v) ∧ ys.length = rest.length ∧ (∀ y ∈ ys, FitK y) ∧ ∀ T : List GLock, (∀ y ∈ T, FitK y) → rest = T.map (fun t => wN (kN t)) → ys = T) ∨
    (world_row_2_L2 (⟨f, x, ws.map bl⟩ : Sl ByteArray) 2 n k acc (pre.length : Int) = some .r ∧ ∀ T : List GLock, (∀ y ∈ T, FitK y) → rest ≠ T.map fun t => wN (kN t)) := by
  intro rest
  induction rest with
  | nil =>
    intro pre acc k h1 hk ha
    obtain ⟨k, rfl⟩ : ∃ j, k = j + 1 := ⟨k - 1, by omega⟩
    refine .inl ⟨[], (pre.length : Int), ?_, rfl, by simp, fun ns _ h => ?_⟩
    · rw [world_row_2_L2, if_neg (by rw [h1]; simp)]; simp
    · cases ns with
      | nil => rfl
      | cons => cases h
  | cons w rest IH =>
    intro pre acc k h1 hk ha
    simp only [List.length_cons] at hk ha
    obtain ⟨k, rfl⟩ : ∃ j, k = j + 1 := ⟨k - 1, by omega⟩
    have hlen : (ws.map bl).length = pre.length + (rest.length + 1) := by rw [h1]; simp
    have hlen' : ws.length = pre.length + (rest.length + 1) := by rw [h1]; simp
    have hg : (ws.map bl)[pre.length]? = some (bl w) := by rw [h1]; simp
    have e1 : (pre.length : Int) + 1 = ((pre ++ [w]).length : Int) := by simp
    obtain ⟨u, ok, hu, u1, u2⟩ := numbers_spec n 2 (by omega) (by omega) hn w (hz w (by rw [h1]; simp))
    have hu' : world_numbers n (bl w) 2 = some (u, ok) := hu
    have hhead : world_row_2_L2 (⟨f, x, ws.map bl⟩ : Sl ByteArray) 2 n (k + 1) acc (pre.length : Int) = bif ok then
        (world_Parse_2 n u).bind fun x_3 =>
        if Room 16 (acc ++ ([x_3] : List GLock)).length then if InR ((pre.length : Int) + 1) then world_row_2_L2 (⟨f, x, ws.map bl⟩ : Sl ByteArray) 2 n k (acc ++ ([x_3] : List GLock)) ((pre.length : Int) + 1)
        else none
        else none
      else some (.r) := by
      rw [world_row_2_L2]
      refine (if_pos (by show _ < ((ws.map bl).length : Int); omega)).trans ?_
      show (atI (ws.map bl) _).bind _ = _
      rw [atI_nat, hg, Option.bind_some, hu', Option.bind_some]
    rw [hhead]
    cases ok with
    | false =>
      refine .inr ⟨rfl, fun T hT h => ?_⟩
      cases T with
      | nil => cases h
      | cons t T =>
        simp only [List.map_cons, List.cons.injEq] at h
        have := (u2 (kN t) rfl (hT t (by simp)) h.1).1
        cases this
    | true =>
      obtain ⟨g1, g2⟩ := u1 rfl
      rw [cond_true]
      obtain ⟨fl, xl, ul⟩ := u
      simp only at g1 g2 u2
      match ul, g1 with
      | [a, b], _ =>
      have hmk : world_Parse_2 n (⟨fl, xl, [a, b]⟩ : Sl Int) = some (⟨a, b⟩ : GLock) := rfl
      rw [hmk, Option.bind_some, if_pos (by unfold Room; simp; omega), if_pos (by unfold InR; omega), e1]
      have hfit : FitK (⟨a, b⟩ : GLock) := g2
      rcases IH (pre ++ [w]) (acc ++ [(⟨a, b⟩ : GLock)]) k (by rw [h1]; simp) (by omega) (by simp; omega) with ⟨ys, v, h, hy1, hy2, hy3⟩ | ⟨h, hno⟩
      · refine .inl ⟨(⟨a, b⟩ : GLock) :: ys, v, by rw [h]; simp, by simp [hy1], fun y hy => ?_, fun T hT h => ?_⟩
        · rcases List.mem_cons.1 hy with rfl | hy
          · exact hfit
          · exact hy2 y hy
        · cases T with
          | nil => cases h
          | cons t T =>
            simp only [List.map_cons, List.cons.injEq] at h
            have ht := (u2 (kN t) rfl (hT t (by simp)) h.1).2
            rw [hy3 T (fun y hy => hT y (by simp [hy])) h.2]
            have : (⟨a, b⟩ : GLock) = t := kN_inj ht
            rw [this]
      · refine .inr ⟨h, fun T hT h => ?_⟩
        cases T with
        | nil => cases h
        | cons t T =>
          simp only [List.map_cons, List.cons.injEq] at h
          exact hno T (fun y hy => hT y (by simp [hy])) h.2
theorem world_row_2_spec (n : Nat) (hn : 30000 ≤ n) (f x : Bool) (ws : List (List UInt8)) (hl : ws.length ≤ 20000) (hz : ∀ w ∈ ws, w.length ≤ 20000) : ∃ c ok, world_row_2 n (⟨f, x, ws.map bl⟩ : Sl ByteArray) 2 = some (c, ok) ∧ (ok = true → c.l.length = ws.length ∧ ∀ y ∈ c.l, FitK y) ∧
    ∀ T : List GLock, (∀ y ∈ T, FitK y) → ws = T.map (fun t => wN (kN t)) → ok = true ∧ c.l = T := by
  have ez : ((([] : List (List UInt8)).length : Nat) : Int) = 0 := rfl
  have := world_row_2_loop n hn f x ws hl hz ws [] [] n rfl (by omega) (by simp; omega)
  rw [ez] at this
  rcases this with ⟨ys, v, h, h1, h2, h3⟩ | ⟨h, hno⟩
  · refine ⟨Sl.gr ys, true, by unfold world_row_2; rw [h]; rfl, fun _ => ⟨h1, h2⟩, fun T hT e => ⟨rfl, h3 T hT e⟩⟩
  · exact ⟨Sl.nil, false, by unfold world_row_2; rw [h]; rfl, by simp, fun T hT e => absurd e (hno T hT)⟩

theorem world_row_3_loop (n : Nat) (hn : 30000 ≤ n) (f x : Bool) (ws : List (List UInt8)) (hl : ws.length ≤ 20000) (hz : ∀ w ∈ ws, w.length ≤ 20000) : ∀ (rest pre : List (List UInt8)) (acc : List Int) (k : Nat), ws = pre ++ rest → rest.length < k → acc.length + rest.length ≤ 30000 →
    (∃ ys v, world_row_3_L2 (⟨f, x, ws.map bl⟩ : Sl ByteArray) 1 n k acc (pre.length : Int) = some (.e0 (acc ++ ys) v) ∧ ys.length = rest.length ∧ (∀ y ∈ ys, FitV y) ∧ ∀ T : List Int, (∀ y ∈ T, FitV y) → rest = T.map (fun t => wN (vN t)) → ys = T) ∨
    (world_row_3_L2 (⟨f, x, ws.map bl⟩ : Sl ByteArray) 1 n k acc (pre.length : Int) = some .r ∧ ∀ T : List Int, (∀ y ∈ T, FitV y) → rest ≠ T.map fun t => wN (vN t)) := by
  intro rest
  induction rest with
  | nil =>
    intro pre acc k h1 hk ha
    obtain ⟨k, rfl⟩ : ∃ j, k = j + 1 := ⟨k - 1, by omega⟩
    refine .inl ⟨[], (pre.length : Int), ?_, rfl, by simp, fun ns _ h => ?_⟩
    · rw [world_row_3_L2, if_neg (by rw [h1]; simp)]; simp
    · cases ns with
      | nil => rfl
      | cons => cases h
  | cons w rest IH =>
    intro pre acc k h1 hk ha
    simp only [List.length_cons] at hk ha
    obtain ⟨k, rfl⟩ : ∃ j, k = j + 1 := ⟨k - 1, by omega⟩
    have hlen : (ws.map bl).length = pre.length + (rest.length + 1) := by rw [h1]; simp
    have hlen' : ws.length = pre.length + (rest.length + 1) := by rw [h1]; simp
    have hg : (ws.map bl)[pre.length]? = some (bl w) := by rw [h1]; simp
    have e1 : (pre.length : Int) + 1 = ((pre ++ [w]).length : Int) := by simp
    obtain ⟨u, ok, hu, u1, u2⟩ := numbers_spec n 1 (by omega) (by omega) hn w (hz w (by rw [h1]; simp))
    have hu' : world_numbers n (bl w) 1 = some (u, ok) := hu
    have hhead : world_row_3_L2 (⟨f, x, ws.map bl⟩ : Sl ByteArray) 1 n (k + 1) acc (pre.length : Int) = bif ok then
        (world_Parse_3 n u).bind fun x_3 =>
        if Room 8 (acc ++ ([x_3] : List Int)).length then if InR ((pre.length : Int) + 1) then world_row_3_L2 (⟨f, x, ws.map bl⟩ : Sl ByteArray) 1 n k (acc ++ ([x_3] : List Int)) ((pre.length : Int) + 1)
        else none
        else none
      else some (.r) := by
      rw [world_row_3_L2]
      refine (if_pos (by show _ < ((ws.map bl).length : Int); omega)).trans ?_
      show (atI (ws.map bl) _).bind _ = _
      rw [atI_nat, hg, Option.bind_some, hu', Option.bind_some]
    rw [hhead]
    cases ok with
    | false =>
      refine .inr ⟨rfl, fun T hT h => ?_⟩
      cases T with
      | nil => cases h
      | cons t T =>
        simp only [List.map_cons, List.cons.injEq] at h
        have := (u2 (vN t) rfl (by simp [vN]; exact hT t (by simp)) h.1).1
        cases this
    | true =>
      obtain ⟨g1, g2⟩ := u1 rfl
      rw [cond_true]
      obtain ⟨fl, xl, ul⟩ := u
      simp only at g1 g2 u2
      match ul, g1 with
      | [a], _ =>
      have hmk : world_Parse_3 n (⟨fl, xl, [a]⟩ : Sl Int) = some a := rfl
      rw [hmk, Option.bind_some, if_pos (by unfold Room; simp; omega), if_pos (by unfold InR; omega), e1]
      have hfit : FitV a := g2 a (by simp)
      rcases IH (pre ++ [w]) (acc ++ [a]) k (by rw [h1]; simp) (by omega) (by simp; omega) with ⟨ys, v, h, hy1, hy2, hy3⟩ | ⟨h, hno⟩
      · refine .inl ⟨a :: ys, v, by rw [h]; simp, by simp [hy1], fun y hy => ?_, fun T hT h => ?_⟩
        · rcases List.mem_cons.1 hy with rfl | hy
          · exact hfit
          · exact hy2 y hy
        · cases T with
          | nil => cases h
          | cons t T =>
            simp only [List.map_cons, List.cons.injEq] at h
            have ht := (u2 (vN t) rfl (by simp [vN]; exact hT t (by simp)) h.1).2
            rw [hy3 T (fun y hy => hT y (by simp [hy])) h.2]
            have : a = t := by simpa [vN] using ht
            rw [this]
      · refine .inr ⟨h, fun T hT h => ?_⟩
        cases T with
        | nil => cases h
        | cons t T =>
          simp only [List.map_cons, List.cons.injEq] at h
          exact hno T (fun y hy => hT y (by simp [hy])) h.2
theorem world_row_3_spec (n : Nat) (hn : 30000 ≤ n) (f x : Bool) (ws : List (List UInt8)) (hl : ws.length ≤ 20000) (hz : ∀ w ∈ ws, w.length ≤ 20000) : ∃ c ok, world_row_3 n (⟨f, x, ws.map bl⟩ : Sl ByteArray) 1 = some (c, ok) ∧ (ok = true → c.l.length = ws.length ∧ ∀ y ∈ c.l, FitV y) ∧
    ∀ T : List Int, (∀ y ∈ T, FitV y) → ws = T.map (fun t => wN (vN t)) → ok = true ∧ c.l = T := by
  have ez : ((([] : List (List UInt8)).length : Nat) : Int) = 0 := rfl
  have := world_row_3_loop n hn f x ws hl hz ws [] [] n rfl (by omega) (by simp; omega)
  rw [ez] at this
  rcases this with ⟨ys, v, h, h1, h2, h3⟩ | ⟨h, hno⟩
  · refine ⟨Sl.gr ys, true, by unfold world_row_3; rw [h]; rfl, fun _ => ⟨h1, h2⟩, fun T hT e => ⟨rfl, h3 T hT e⟩⟩
  · exact ⟨Sl.nil, false, by unfold world_row_3; rw [h]; rfl, by simp, fun T hT e => absurd e (hno T hT)⟩
end Go.Proofs.YtilipgopjiokfaaGreatDoor
