/-
  slices.Compact of nests, by hand.
-/
import Derived.Test.YtkfmoodaplelnaaRd
set_option maxRecDepth 100000
set_option maxHeartbeats 4000000
set_option linter.unusedVariables false
set_option linter.unusedSimpArgs false
set_option linter.unusedSectionVars false
namespace Go.Proofs.Ytkfmoodaplelnaa
open Go Go.Abs Go.Proofs
/-- The first i of them, without those that are as the one ahead of them. -/
def dn (l : List GNest) : Nat → List GNest
  | 0 => []
  | i + 1 => match l[i]? with
    | none => dn l i
    | some x => if i ≠ 0 ∧ l[i - 1]? = some x then dn l i else dn l i ++ [x]
theorem dn_len (l : List GNest) : ∀ i, (dn l i).length ≤ i
  | 0 => by simp [dn]
  | i + 1 => by
    have := dn_len l i
    unfold dn
    split
    · omega
    · split
      · omega
      · simp; omega
variable [Kn]
def st7 (os : Ob × Ob × Ob × Ob × Ob × Ob × Ob) (v : Nat) (cs : List DV) : List Ob := [os.1, os.2.1, os.2.2.1, os.2.2.2.1, os.2.2.2.2.1, os.2.2.2.2.2.1, os.2.2.2.2.2.2, ⟨v, cs⟩]
section
variable {os : Ob × Ob × Ob × Ob × Ob × Ob × Ob} {v n k0 : Nat} {l : List GNest}
theorem spanN {cur : List GNest} {i : Nat} {x : GNest} {off : Nat} (h : cur[i]? = some x) (ho : off = i * 2) : span (dcells cur) off 2 = some ((EncX.encX x).map .c) := by
  have := dspan_at' (α := GNest) 0 2 (by decide) h
  rw [ho, show i * 2 = 0 + i * 2 + 0 by omega]
  exact this
theorem storeN {cur : List GNest} {i : Nat} (x : GNest) {off : Nat} (h : i < cur.length) (ho : off = i * 2) : off + 2 ≤ (dcells cur).length ∧ setL (dcells cur) off ((EncX.encX x).map .c) = dcells (cur.set i x) := by
  have := dst_all (l := cur) (i := (i : Int)) x ⟨by omega, by omega⟩
  simp only [Int.toNat_natCast] at this
  rw [ho, show i * 2 = 0 + i * 2 by omega]
  exact this
structure InvB (l : List GNest) (n k0 k k2 : Nat) (cur : List GNest) : Prop where
  len : cur.length = n
  tk : cur.take k = dn l (k0 + k2)
  le : k + 1 ≤ k0 + k2
  rest : ∀ j, k0 + k2 ≤ j + 1 → cur[j]? = l[j]?
def FB (v n k0 : Nat) (k k2 : Nat) : Nat → DV := fl [(0, .ms 7 v 0 n 2 false), (3, dInt (k : Int)), (4, .ms 7 v (0 + k0 * 2) (n - k0) 2 false), (5, dInt (k2 : Int))]
theorem InvB.step {k k2 : Nat} {cur : List GNest} (iv : InvB l n k0 k k2 cur) (hl : l.length = n) (h1 : 1 ≤ k0) (h2 : 1 ≤ k2) (hlt : k0 + k2 < n) {x y : GNest} (hx : cur[k0 + k2]? = some x) (hy : cur[k0 + k2 - 1]? = some y) :
    (x ≠ y → InvB l n k0 (k + 1) (k2 + 1) (cur.set k x)) ∧ (x = y → InvB l n k0 k (k2 + 1) cur) := by
  have hx' : l[k0 + k2]? = some x := by rw [← iv.rest (k0 + k2) (by omega)]; exact hx
  have hy' : l[k0 + k2 - 1]? = some y := by rw [← iv.rest (k0 + k2 - 1) (by omega)]; exact hy
  have hdn : dn l (k0 + (k2 + 1)) = if x = y then dn l (k0 + k2) else dn l (k0 + k2) ++ [x] := by
    rw [show k0 + (k2 + 1) = (k0 + k2) + 1 by omega]
    show (match l[k0 + k2]? with | none => dn l (k0 + k2) | some x => if (k0 + k2) ≠ 0 ∧ l[k0 + k2 - 1]? = some x then dn l (k0 + k2) else dn l (k0 + k2) ++ [x]) = _
    rw [hx', hy']
    simp only
    by_cases hxy : x = y
    · rw [if_pos hxy, if_pos ⟨by omega, by rw [hxy]⟩]
    · rw [if_neg hxy, if_neg (fun h => hxy (Option.some.inj h.2).symm)]
  have hle := iv.le
  have hcl := iv.len
  constructor
  · intro hxy
    refine ⟨by simp [iv.len], ?_, by omega, fun j hj => ?_⟩
    · rw [hdn, if_neg hxy, ← iv.tk]
      rw [List.take_succ_eq_append_getElem (by simp; omega)]
      rw [List.take_set_of_le (Nat.le_refl k)]
      simp
    · rw [List.getElem?_set, if_neg (by omega)]
      exact iv.rest j (by omega)
  · intro hxy
    exact ⟨iv.len, by rw [hdn, if_pos hxy, iv.tk], by omega, fun j hj => iv.rest j (by omega)⟩
theorem loopB (hl : l.length = n) (hn : n ≤ 100000) (h1 : 1 ≤ k0) (hk0 : k0 ≤ n) {M : Nat} : ∀ (f k k2 : Nat) (cur : List GNest), k0 + k2 + f = n → 1 ≤ k2 → InvB l n k0 k k2 cur →
    ∀ s : S, restrS (X.an.rs 26 9) s = ⟨FB v n k0 k k2, ⟨st7 os v (dcells cur), []⟩⟩ → ∃ k' cur', InvB l n k0 k' (n - k0) cur' ∧
      X.Loop 26 61 [] (sub b26 [1, 1, 0, 1, 0, 0, 1, 0, 0, 1, 0, 1, 0, 1, 0, 0]) M s (.exit 2) ⟨fl [(0, .ms 7 v 0 n 2 false), (3, dInt (k' : Int)), (4, .ms 7 v (0 + k0 * 2) (n - k0) 2 false), (5, dInt ((n - k0 : Nat) : Int)), (32, dB false)], ⟨st7 os v (dcells cur'), []⟩⟩
  | 0, k, k2, cur, hf, h2, iv, s, hs => by
    have : k2 = n - k0 := by omega
    subst this
    refine ⟨k, cur, iv, ?_⟩
    refine Sys.loopQ hs ?_
    have h3 : ¬ ((n - k0 : Nat) : Int) < ((n - k0 : Nat) : Int) := by omega
    exact Sys.endX [((9, 3), .b false)] h3 rfl (by kernel_rfl)
  | f + 1, k, k2, cur, hf, h2, iv, s, hs => by
    have hcl := iv.len
    have hle := iv.le
    have hx : cur[k0 + k2]? = some (cur[k0 + k2]'(by omega)) := List.getElem?_eq_getElem _
    have hy : cur[k0 + k2 - 1]? = some (cur[k0 + k2 - 1]'(by omega)) := List.getElem?_eq_getElem _
    generalize cur[k0 + k2]'(by omega) = x at hx
    generalize cur[k0 + k2 - 1]'(by omega) = y at hy
    obtain ⟨st1, st2⟩ := iv.step hl h1 h2 (by omega) hx hy
    have h3 : (k2 : Int) < ((n - k0 : Nat) : Int) := by omega
    have hi1 : 0 ≤ (k2 : Int) ∧ (k2 : Int) < ((n - k0 : Nat) : Int) := by omega
    have hr1 : InR ((k2 : Int) - 1) := by unfold InR; omega
    have hi2 : 0 ≤ (k2 : Int) - 1 ∧ (k2 : Int) - 1 < ((n - k0 : Nat) : Int) := by omega
    have hr2 : InR ((k2 : Int) + 1) := by unfold InR; omega
    have hs1 : v = v ∧ span (dcells cur) (0 + k0 * 2 + (k2 : Int).toNat * 2) 2 = some ((EncX.encX x).map .c) := ⟨rfl, spanN hx (by omega)⟩
    have hs2 : v = v ∧ span (dcells cur) (0 + k0 * 2 + ((k2 : Int) - 1).toNat * 2) 2 = some ((EncX.encX y).map .c) := ⟨rfl, spanN hy (by omega)⟩
    by_cases hxy : x = y
    · obtain ⟨k', cur', iv', hL⟩ := loopB hl hn h1 hk0 (M := M) f k (k2 + 1) cur (by omega) (by omega) (st2 hxy) ⟨FB v n k0 k (k2 + 1), ⟨st7 os v (dcells cur), []⟩⟩ (by kernel_rfl)
      refine ⟨k', cur', iv', ?_⟩
      refine Sys.loopQ hs ?_
      refine Sys.to [((9, 3), .b true), ((11, 2), .ix), ((11, 3), .agg (EncX.encX x)), ((11, 6), .n), ((11, 7), .ix), ((11, 8), .agg (EncX.encX y)), ((11, 9), .op { d := dB false }), ((10, 1), .n)] 999999 (.fin .normal) ⟨fl [(0, .ms 7 v 0 n 2 false), (3, dInt (k : Int)), (4, .ms 7 v (0 + k0 * 2) (n - k0) 2 false), (5, dInt ((k2 : Int) + 1))], ⟨st7 os v (dcells cur), []⟩⟩
        (And.intro h3 (And.intro hi1 (And.intro hs1 (And.intro hr1 (And.intro hi2 (And.intro hs2 (And.intro (rec_neq_false (GNest_eq x y) hxy) hr2))))))) (by kernel_rfl) ?_
      exact Sys.fin (.inl ⟨rfl, _, rfl, hL⟩)
    · obtain ⟨k', cur', iv', hL⟩ := loopB hl hn h1 hk0 (M := M) f (k + 1) (k2 + 1) (cur.set k x) (by omega) (by omega) (st1 hxy) ⟨FB v n k0 (k + 1) (k2 + 1), ⟨st7 os v (dcells (cur.set k x)), []⟩⟩ (by kernel_rfl)
      refine ⟨k', cur', iv', ?_⟩
      refine Sys.loopQ hs ?_
      have hi3 : 0 ≤ (k : Int) ∧ (k : Int) < (n : Int) := by omega
      have hr3 : InR ((k : Int) + 1) := by unfold InR; omega
      have hst : v = v ∧ 0 + (k : Int).toNat * 2 + 2 ≤ (dcells cur).length ∧ setL (dcells cur) (0 + (k : Int).toNat * 2) ((EncX.encX x).map .c) = dcells (cur.set k x) := ⟨rfl, storeN x (by omega) (by omega)⟩
      refine Sys.to [((9, 3), .b true), ((11, 2), .ix), ((11, 3), .agg (EncX.encX x)), ((11, 6), .n), ((11, 7), .ix), ((11, 8), .agg (EncX.encX y)), ((11, 9), .op { d := dB true }), ((12, 4), .ix), ((12, 5), .agg (EncX.encX x)), ((12, 6), .ix), ((12, 7), .st (dcells (cur.set k x))), ((13, 1), .n), ((10, 1), .n)] 999999 (.fin .normal) ⟨fl [(0, .ms 7 v 0 n 2 false), (3, dInt ((k : Int) + 1)), (4, .ms 7 v (0 + k0 * 2) (n - k0) 2 false), (5, dInt ((k2 : Int) + 1))], ⟨st7 os v (dcells (cur.set k x)), []⟩⟩
        (And.intro h3 (And.intro hi1 (And.intro hs1 (And.intro hr1 (And.intro hi2 (And.intro hs2 (And.intro (rec_neq_true (GNest_eq x y) hxy) (And.intro hi1 (And.intro hs1 (And.intro hi3 (And.intro hst (And.intro hr3 hr2)))))))))))) (by kernel_rfl) ?_
      exact Sys.fin (.inl ⟨rfl, _, rfl, hL⟩)
theorem zeroN : zeroT X.P 42 = some [dInt 0, dInt 0] := by kernel_rfl
theorem under35 : X.P.underlying 35 = some (.slice 42) := by kernel_rfl
theorem replN (m : Nat) : replD m [dInt 0, dInt 0] = dcells (List.replicate m (⟨0, 0⟩ : GNest)) := replD_cells (a := (⟨0, 0⟩ : GNest)) m _ rfl
theorem setL_tail {a b c : List DV} (h : b.length = c.length) : setL (a ++ b) a.length c = a ++ c := by
  refine List.ext_getElem? fun i => ?_
  by_cases h1 : i < a.length
  · rw [setL_out _ _ _ _ (by omega), List.getElem?_append_left h1, List.getElem?_append_left h1]
  · by_cases h2 : i < a.length + c.length
    · obtain ⟨j, rfl⟩ : ∃ j, i = a.length + j := ⟨i - a.length, by omega⟩
      rw [setL_in _ _ _ _ (by simp; omega) (by omega), List.getElem?_append_right (by omega)]
      congr 1; omega
    · rw [setL_out _ _ _ _ (by omega), List.getElem?_append_right (by omega), List.getElem?_append_right (by omega), List.getElem?_eq_none (by omega), List.getElem?_eq_none (by omega)]
theorem clearN {st : List Ob} {cur : List GNest} {k : Nat} (hs : st[7]? = some ⟨v, dcells cur⟩) (hc : cur.length = n) (hk : k < n) : clearD X.P st 35 (.ms 7 v (0 + k * 2) (n - k) 2 false) = some { d := .tup [], set := some (7, ⟨v, dcells (cur.take k ++ List.replicate (n - k) (⟨0, 0⟩ : GNest))⟩) } := by
  have hg : getO st 7 v = some ⟨v, dcells cur⟩ := getO_of hs rfl
  have hcut : dcells cur = dcells (cur.take k) ++ dcells (cur.drop k) := by rw [← dcells_append, List.take_append_drop]
  have h1 : (dcells (cur.take k)).length = k * 2 := by rw [dcells_length]; simp [Enc.sz]; omega
  have h2 : (dcells (cur.drop k)).length = (dcells (List.replicate (n - k) (⟨0, 0⟩ : GNest))).length := by rw [dcells_length, dcells_length]; simp [hc]
  have h3 : (dcells cur).length = n * 2 := by rw [dcells_length, hc]; rfl
  have hset : setL (dcells cur) (0 + k * 2) (replD (n - k) [dInt 0, dInt 0]) = dcells (cur.take k ++ List.replicate (n - k) (⟨0, 0⟩ : GNest)) := by
    rw [replN, hcut, show 0 + k * 2 = (dcells (cur.take k)).length by omega, setL_tail h2, dcells_append]
  unfold clearD
  rw [under35]
  simp only [zeroN, hg]
  have hc1 : ([dInt 0, dInt 0] : List DV).length = 2 := rfl
  have hc2 : n - k ≠ 0 := by omega
  have hc3 : 0 + k * 2 + (n - k) * 2 ≤ (dcells cur).length := by rw [h3]; omega
  rw [if_pos ⟨hc1, hc2, hc3⟩, hset]
def FA (v n k : Nat) : Nat → DV := fl [(0, .ms 7 v 0 n 2 false), (3, dInt (k : Int))]
theorem dn_next (l : List GNest) {k : Nat} {x y : GNest} (h1 : 1 ≤ k) (hx : l[k]? = some x) (hy : l[k - 1]? = some y) : dn l (k + 1) = if x = y then dn l k else dn l k ++ [x] := by
  show (match l[k]? with | none => dn l k | some x => if k ≠ 0 ∧ l[k - 1]? = some x then dn l k else dn l k ++ [x]) = _
  rw [hx, hy]
  simp only
  by_cases hxy : x = y
  · rw [if_pos hxy, if_pos ⟨by omega, by rw [hxy]⟩]
  · rw [if_neg hxy, if_neg (fun h => hxy (Option.some.inj h.2).symm)]
theorem loopA (hl : l.length = n) (hn : n ≤ 100000) {M : Nat} (hM : M = 8) : ∀ (f k : Nat), k + f = n → 1 ≤ k → dn l k = l.take k →
    ∀ s : S, restrS (X.an.rs 26 4) s = ⟨FA v n k, ⟨st7 os v (dcells l), []⟩⟩ →
    (dn l n = l ∧ X.Loop 26 61 [] (sub b26 [1, 1, 0, 1, 0, 0]) M s (.exit 0) ⟨fl [(0, .ms 7 v 0 n 2 false), (3, dInt (n : Int)), (13, dB false)], ⟨st7 os v (dcells l), []⟩⟩) ∨
    (∃ rest : List GNest, X.Loop 26 61 [] (sub b26 [1, 1, 0, 1, 0, 0]) M s .ret ⟨fl [(2, .ms 7 v 0 (dn l n).length 2 false)], ⟨st7 os v (dcells (dn l n ++ rest)), []⟩⟩)
  | 0, k, hf, h1, hd, s, hs => by
    have : k = n := by omega
    subst this
    refine .inl ⟨by rw [hd, ← hl, List.take_length], ?_⟩
    refine Sys.loopQ hs ?_
    have h3 : ¬ (k : Int) < (k : Int) := by omega
    exact Sys.endX [((4, 3), .b false)] h3 rfl (by kernel_rfl)
  | f + 1, k, hf, h1, hd, s, hs => by
    have hx : l[k]? = some (l[k]'(by omega)) := List.getElem?_eq_getElem _
    have hy : l[k - 1]? = some (l[k - 1]'(by omega)) := List.getElem?_eq_getElem _
    generalize hxv : l[k]'(by omega) = x at hx
    generalize l[k - 1]'(by omega) = y at hy
    have hdn := dn_next l h1 hx hy
    have h3 : (k : Int) < (n : Int) := by omega
    have hi1 : 0 ≤ (k : Int) ∧ (k : Int) < (n : Int) := by omega
    have hr1 : InR ((k : Int) - 1) := by unfold InR; omega
    have hi2 : 0 ≤ (k : Int) - 1 ∧ (k : Int) - 1 < (n : Int) := by omega
    have hr2 : InR ((k : Int) + 1) := by unfold InR; omega
    have hs1 : v = v ∧ span (dcells l) (0 + (k : Int).toNat * 2) 2 = some ((EncX.encX x).map .c) := ⟨rfl, spanN hx (by omega)⟩
    have hs2 : v = v ∧ span (dcells l) (0 + ((k : Int) - 1).toNat * 2) 2 = some ((EncX.encX y).map .c) := ⟨rfl, spanN hy (by omega)⟩
    by_cases hxy : x = y
    · -- the first one that is as the one ahead of it
      obtain ⟨k', cur', iv', hL⟩ := loopB (os := os) (v := v) (l := l) (n := n) (k0 := k) hl hn h1 (by omega) (M := 8) (n - k - 1) k 1 l (by omega) (by omega) ⟨hl, by rw [hdn, if_pos hxy, hd], by omega, fun j _ => rfl⟩ ⟨FB v n k k 1, ⟨st7 os v (dcells l), []⟩⟩ (by kernel_rfl)
      have hle := iv'.le
      have hcl := iv'.len
      have htk : cur'.take k' = dn l n := by rw [iv'.tk]; congr 1; omega
      have hk' : (dn l n).length = k' := by rw [← htk]; simp; omega
      refine .inr ⟨List.replicate (n - k') (⟨0, 0⟩ : GNest), ?_⟩
      refine Sys.loopQ hs ?_
      have hb1 : boundsD n (some (dInt (k : Int))) none none = some (k, n, none) := by
        simp only [boundsD, intD, dInt, cInt, Option.map_some, Option.bind_some]
        rw [if_pos (by omega)]; simp
      have hb2 : boundsD n (some (dInt (k' : Int))) none none = some (k', n, none) := by
        simp only [boundsD, intD, dInt, cInt, Option.map_some, Option.bind_some]
        rw [if_pos (by omega)]; simp
      have hb3 : boundsD n none (some (dInt (k' : Int))) none = some (0, k', none) := by
        simp only [boundsD, intD, dInt, cInt, Option.map_some, Option.bind_some, Option.getD_none]
        rw [if_pos (by omega)]; simp
      have hcr := clearN (v := v) (st := st7 os v (dcells cur')) (cur := cur') (n := n) (k := k') rfl hcl (by omega)
      rw [htk] at hcr
      rw [hk']
      exact Sys.endX [((4, 3), .b true), ((6, 2), .ix), ((6, 3), .agg (EncX.encX x)), ((6, 6), .n), ((6, 7), .ix), ((6, 8), .agg (EncX.encX y)), ((6, 9), .op { d := dB true }), ((7, 2), .slc k n), ((9, 1000), .code (.exit 2) ⟨fl [(0, .ms 7 v 0 n 2 false), (3, dInt (k' : Int)), (4, .ms 7 v (0 + k * 2) (n - k) 2 false), (5, dInt ((n - k : Nat) : Int)), (32, dB false)], ⟨st7 os v (dcells cur'), []⟩⟩), ((14, 2), .slc k' n), ((14, 3), .op { d := .tup [], set := some (7, ⟨v, dcells (dn l n ++ List.replicate (n - k') (⟨0, 0⟩ : GNest))⟩) }), ((15, 2), .slc 0 k')]
        (And.intro h3 (And.intro hi1 (And.intro hs1 (And.intro hr1 (And.intro hi2 (And.intro hs2 (And.intro (rec_eql_true (GNest_eq x y) hxy) (And.intro hb1 (And.intro (Sys.Loop.goM hL rfl) (And.intro hb2 (And.intro hcr hb3))))))))))) rfl (by kernel_rfl)
    · have hd' : dn l (k + 1) = l.take (k + 1) := by
        rw [hdn, if_neg hxy, hd, List.take_succ_eq_append_getElem (by omega), hxv]
      have ih := loopA hl hn hM f (k + 1) (by omega) (by omega) hd' ⟨FA v n (k + 1), ⟨st7 os v (dcells l), []⟩⟩ (by kernel_rfl)
      have step : ∀ {EX : Ex} {ST : S}, X.Loop 26 61 [] (sub b26 [1, 1, 0, 1, 0, 0]) M ⟨FA v n (k + 1), ⟨st7 os v (dcells l), []⟩⟩ EX ST → X.Loop 26 61 [] (sub b26 [1, 1, 0, 1, 0, 0]) M s EX ST := fun {EX ST} hL => by
        refine Sys.loopQ hs ?_
        refine Sys.to [((4, 3), .b true), ((6, 2), .ix), ((6, 3), .agg (EncX.encX x)), ((6, 6), .n), ((6, 7), .ix), ((6, 8), .agg (EncX.encX y)), ((6, 9), .op { d := dB false }), ((5, 1), .n)] 999999 (.fin .normal) ⟨fl [(0, .ms 7 v 0 n 2 false), (3, dInt ((k : Int) + 1))], ⟨st7 os v (dcells l), []⟩⟩
          (And.intro h3 (And.intro hi1 (And.intro hs1 (And.intro hr1 (And.intro hi2 (And.intro hs2 (And.intro (rec_eql_false (GNest_eq x y) hxy) hr2))))))) (by kernel_rfl) ?_
        exact Sys.fin (.inl ⟨rfl, _, rfl, hL⟩)
      rcases ih with ⟨g1, g2⟩ | ⟨rest, g2⟩
      · exact .inl ⟨g1, step g2⟩
      · exact .inr ⟨rest, step g2⟩
/-- slices.Compact of nests. -/
theorem compact26 (hl : l.length = n) (hn : n ≤ 100000) : ∃ rest : List GNest, X.Runs [] 26 [.ms 7 v 0 n 2 false] ⟨st7 os v (dcells l), []⟩ (.ms 7 v 0 (dn l n).length 2 false) ⟨st7 os v (dcells (dn l n ++ rest)), []⟩ := by
  by_cases h2 : (n : Int) < 2
  · refine ⟨[], ?_⟩
    have hd : dn l n = l := by
      match l, hl with
      | [], h => subst h; rfl
      | [x], h => subst h; rfl
      | x :: y :: r, h => simp at h; omega
    rw [List.append_nil, hd, hl]
    refine Sys.callM' (fn := Try.f26) (b := b26) (by kernel_rfl) (by kernel_rfl) ?_
    exact Sys.endK [((1, 2), .b true)] h2 (by kernel_rfl)
  · rcases loopA (os := os) (v := v) hl hn (M := 8) rfl (n - 1) 1 (by omega) (by omega) (by
      match l, hl with
      | [], h => simp at h; omega
      | x :: r, h => rfl) ⟨FA v n 1, ⟨st7 os v (dcells l), []⟩⟩ (by kernel_rfl) with ⟨g1, g2⟩ | ⟨rest, g2⟩
    · refine ⟨[], ?_⟩
      rw [List.append_nil, g1, hl]
      refine Sys.callM' (fn := Try.f26) (b := b26) (by kernel_rfl) (by kernel_rfl) ?_
      exact Sys.endK [((1, 2), .b false), ((4, 1000), .code (.exit 0) ⟨fl [(0, .ms 7 v 0 n 2 false), (3, dInt (n : Int)), (13, dB false)], ⟨st7 os v (dcells l), []⟩⟩)] (And.intro h2 (Sys.Loop.goM g2 rfl)) (by kernel_rfl)
    · refine ⟨rest, ?_⟩
      refine Sys.callM' (fn := Try.f26) (b := b26) (by kernel_rfl) (by kernel_rfl) ?_
      exact Sys.endK [((1, 2), .b false), ((4, 1000), .code .ret ⟨fl [(2, .ms 7 v 0 (dn l n).length 2 false)], ⟨st7 os v (dcells (dn l n ++ rest)), []⟩⟩)] (And.intro h2 (Sys.Loop.goM g2 rfl)) (by kernel_rfl)
end
end Go.Proofs.Ytkfmoodaplelnaa
