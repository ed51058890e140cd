/-
  held.Nests, by hand.
-/
import Derived.Test.YtkfmoodaplelnaaNc
import Derived.Test.YtkfmoodaplelnaaFd
set_option maxRecDepth 100000
set_option maxHeartbeats 4000000
set_option linter.unusedVariables false
set_option linter.unusedSimpArgs false
set_option linter.unusedSectionVars false
namespace Go.Proofs.Ytkfmoodaplelnaa
open Go Go.Abs Go.Proofs
abbrev OO : Held_owned := { a0 := 0, a1 := 0, a2 := 0, a3 := 0, a4 := 0, a5 := 0, a6 := 0, a7 := 0 }
abbrev Mo := List (Int × Held_owned)
def atN (σ : Mo) (a : Int) : Held_owned := lookM OO σ a
def nestJ (o : Held_owned) (b : Int) (m j : Nat) : List GNest := ((List.range' j (m - j)).filter fun i => decide (o.get i > 0)).map fun i : Nat => ⟨(i : Int), b⟩
def nestE (m : Nat) (σ : Mo) (e : GEdge) : List GNest :=
  if hasM σ e.from_ = true ∧ e.kind = 4 ∧ ¬ (atN σ e.from_).get e.mon.toNat > 0 then nestJ (atN σ e.from_) e.mon m 0 else []
variable [Kn]
def lvN (v : Nat) (cur : List GNest) : DV := match cur with
  | [] => .c (.sl true true [] 0)
  | _ :: _ => .ms 7 v 0 cur.length 2 false
def ObN (v : Nat) (cur : List GNest) (o : Ob) : Prop := match cur with
  | [] => o = ⟨0, []⟩
  | _ :: _ => o = ⟨v, dcells cur⟩
theorem info42 : ∃ i, X.P.info? 42 = some i ∧ i.size = 2 ∧ i.bytes = 16 ∧ zeroFits i = true := by
  have h : (X.P.info? 42).map (fun i => (i.size, i.bytes, zeroFits i)) = some (2, 16, true) := by kernel_rfl
  obtain ⟨i, h1, h2⟩ := Option.map_eq_some_iff.1 h
  simp only [Prod.mk.injEq] at h2
  exact ⟨i, h1, h2.1, h2.2.1, h2.2.2⟩
theorem dcells_lenN (l : List GNest) : (dcells l).length = l.length * 2 := by rw [dcells_length]; rfl
theorem span_all (l : List GNest) : span (dcells l) 0 (l.length * 2) = some (dcells l) := by
  have := dcells_lenN l
  unfold span
  simp [this]
  rw [← this]; simp
theorem appN_old {st : List Ob} {id0 v : Nat} {l : List GNest} {a b : Int} {x1 : Bool} (h : st[7]? = some ⟨v, dcells l⟩) (hl : l.length ≤ 100000) : appendO X.P st id0 35 35 (.ms 7 v 0 l.length 2 false) (.c (.sl false x1 [cInt a, cInt b] 1)) = some { d := .ms 7 (v + 1) 0 (l.length + 1) 2 false, set := some (7, ⟨v + 1, dcells (l ++ [(⟨a, b⟩ : GNest)])⟩) } := by
  obtain ⟨i, h1, h2, h3, h4⟩ := info42
  have hg : getO st 7 v = some ⟨v, dcells l⟩ := getO_of h rfl
  have hroom : roomy (l.length + 1) 16 = true := roomy_ok (by decide) (by unfold Room; omega)
  have hspan := span_all l
  unfold appendO
  rw [under35]
  simp only [h1, h4, Bool.not_true, Bool.false_eq_true, if_false, elemsD, h2, h3]
  rw [dcells_append]
  simp [hg, hroom, hspan]
  rfl
theorem appN_new {st : List Ob} {id0 : Nat} {a b : Int} {x1 : Bool} (h : st[id0]? = some ⟨0, []⟩) : appendO X.P st id0 35 35 (.c (.sl true true [] 0)) (.c (.sl false x1 [cInt a, cInt b] 1)) = some { d := .ms id0 1 0 1 2 false, set := some (id0, ⟨1, dcells [(⟨a, b⟩ : GNest)]⟩) } := by
  obtain ⟨i, h1, h2, h3, h4⟩ := info42
  have hroom : roomy 1 16 = true := by decide
  unfold appendO
  rw [under35]
  simp only [h1, h4, Bool.not_true, Bool.false_eq_true, if_false, elemsD, h2, h3]
  simp [hroom, lay, h]
  rfl
section
variable {f : GFlow} {o1 : List (Rs Int)} {σ : Mo} {w : Rs Int} {m : Nat}
def stN (f : GFlow) (o1 : List (Rs Int)) (σ : Mo) (w : Rs Int) (a b c : Ob) : List Ob := [⟨1, (EncX.encX f).map DV.c⟩, ⟨1, (held_Sections_c3 f)⟩, ⟨1, rcells o1⟩, mkOb 1 (.map (encM σ)), ⟨1, (held_Sections_c5 f w)⟩, a, b, c]
def FI (f : GFlow) (m v5 v6 : Nat) (LV : DV) (i j : Int) : Nat → DV := fl [(1, dInt (m : Int)), (4, LV), (5, .pt 4 1 0), (8, .pt 5 v5 0), (9, .pt 6 v6 0), (21, .c (eSl f.edges)), (22, dInt (f.edges.l.length : Int)), (23, dInt i), (51, dInt (m : Int)), (52, dInt j)]
theorem nestJ_next {o : Held_owned} {b : Int} {m j : Nat} (h : j < m) : nestJ o b m j = (if o.get j > 0 then [(⟨(j : Int), b⟩ : GNest)] else []) ++ nestJ o b m (j + 1) := by
  unfold nestJ
  rw [show m - j = (m - (j + 1)) + 1 by omega, List.range'_succ]
  by_cases hg : o.get j > 0
  · rw [List.filter_cons_of_pos (by simpa using hg), if_pos hg]; simp
  · rw [List.filter_cons_of_neg (by simpa using hg), if_neg hg]; simp
/-- The inner loop. -/
theorem inner14 (hm : m ≤ 8) {e : GEdge} {o : Held_owned} {v5 v6 : Nat} {i : Int} {M : Nat} : ∀ (g j : Nat) (v : Nat) (cur : List GNest) (c : Ob), j + g = m → ObN v cur c → cur.length + (m - j) ≤ 100000 →
    ∀ s : S, restrS (X.an.rs 14 10) s = ⟨FI f m v5 v6 (lvN v cur) i j, ⟨stN f o1 σ w ⟨v5, (EncX.encX e).map DV.c⟩ ⟨v6, (EncX.encX o).map DV.c⟩ c, []⟩⟩ →
    ∃ v' c', ObN v' (cur ++ nestJ o e.mon m j) c' ∧ X.Loop 14 72 [] (sub b14 [1, 1, 1, 0, 1, 0, 0, 1, 1, 0, 0, 1, 1, 1, 1, 0, 0]) M s (.exit 2)
      ⟨fl [(1, dInt (m : Int)), (4, lvN v' (cur ++ nestJ o e.mon m j)), (5, .pt 4 1 0), (8, .pt 5 v5 0), (9, .pt 6 v6 0), (21, .c (eSl f.edges)), (22, dInt (f.edges.l.length : Int)), (23, dInt i), (51, dInt (m : Int)), (52, dInt (m : Int)), (53, dB false)], ⟨stN f o1 σ w ⟨v5, (EncX.encX e).map DV.c⟩ ⟨v6, (EncX.encX o).map DV.c⟩ c', []⟩⟩
  | 0, j, v, cur, c, hj, hc, hlen, s, hs => by
    have : j = m := by omega
    subst this
    have hn : nestJ o e.mon j j = [] := by simp [nestJ]
    rw [hn, List.append_nil]
    refine ⟨v, c, hc, ?_⟩
    refine Sys.loopQ hs ?_
    have h3 : ¬ (j : Int) < (j : Int) := by omega
    exact Sys.endX [((10, 0), .b false)] h3 rfl (by kernel_rfl)
  | g + 1, j, v, cur, c, hj, hc, hlen, s, hs => by
    have h3 : (j : Int) < (m : Int) := by omega
    have hi : 0 ≤ (j : Int) ∧ (j : Int) < (8 : Int) := by omega
    have hr : InR ((j : Int) + 1) := by unfold InR; omega
    have hld : v6 = v6 ∧ ((EncX.encX o).map DV.c)[0 + (j : Int).toNat * 1 + 0]? = some (.c (cInt (o.get (j : Int).toNat))) := ⟨rfl, Held_owned.get_at o hi⟩
    rw [nestJ_next (by omega)]
    by_cases hg : o.get j > 0
    · have hg' : o.get (j : Int).toNat > 0 := hg
      rw [if_pos hg, ← List.append_assoc]
      have hlm : v5 = v5 ∧ ((EncX.encX e).map DV.c)[0 + 3]? = some (.c (cInt e.mon)) := ⟨rfl, rfl⟩
      cases cur with
      | nil =>
        have hc' : c = ⟨0, []⟩ := hc
        subst hc'
        obtain ⟨v', c', h4, hL⟩ := inner14 hm (M := M) g (j + 1) 1 [(⟨(j : Int), e.mon⟩ : GNest)] ⟨1, dcells [(⟨(j : Int), e.mon⟩ : GNest)]⟩ (by omega) rfl (by simp; omega) ⟨FI f m v5 v6 (lvN 1 [(⟨(j : Int), e.mon⟩ : GNest)]) i ((j + 1 : Nat) : Int), ⟨stN f o1 σ w ⟨v5, (EncX.encX e).map DV.c⟩ ⟨v6, (EncX.encX o).map DV.c⟩ ⟨1, dcells [(⟨(j : Int), e.mon⟩ : GNest)]⟩, []⟩⟩ (by kernel_rfl)
        refine ⟨v', c', h4, ?_⟩
        refine Sys.loopQ hs ?_
        have happ := appN_new (st := stN f o1 σ w ⟨v5, (EncX.encX e).map DV.c⟩ ⟨v6, (EncX.encX o).map DV.c⟩ ⟨0, []⟩) (id0 := 7) (a := (j : Int)) (b := e.mon) (x1 := true) rfl
        refine Sys.to [((10, 0), .b true), ((12, 1), .ix), ((12, 2), .cell (cInt (o.get (j : Int).toNat))), ((12, 3), .b true), ((13, 3), .cell (cInt e.mon)), ((13, 6), .op { d := .ms 7 1 0 1 2 false, set := some (7, ⟨1, dcells [(⟨(j : Int), e.mon⟩ : GNest)]⟩) }), ((14, 0), .n)] 999999 (.fin .normal) ⟨fl [(1, dInt (m : Int)), (4, .ms 7 1 0 1 2 false), (5, .pt 4 1 0), (8, .pt 5 v5 0), (9, .pt 6 v6 0), (21, .c (eSl f.edges)), (22, dInt (f.edges.l.length : Int)), (23, dInt i), (51, dInt (m : Int)), (52, dInt ((j : Int) + 1))], ⟨stN f o1 σ w ⟨v5, (EncX.encX e).map DV.c⟩ ⟨v6, (EncX.encX o).map DV.c⟩ ⟨1, dcells [(⟨(j : Int), e.mon⟩ : GNest)]⟩, []⟩⟩
          (And.intro h3 (And.intro hi (And.intro hld (And.intro hg' (And.intro hlm (And.intro happ hr)))))) (by kernel_rfl) ?_
        exact Sys.fin (.inl ⟨rfl, _, rfl, hL⟩)
      | cons x0 xs =>
        have hc' : c = ⟨v, dcells (x0 :: xs)⟩ := hc
        subst hc'
        have hlen' : (x0 :: xs).length ≤ 100000 := by omega
        obtain ⟨v', c', h4, hL⟩ := inner14 hm (M := M) g (j + 1) (v + 1) ((x0 :: xs) ++ [(⟨(j : Int), e.mon⟩ : GNest)]) ⟨v + 1, dcells ((x0 :: xs) ++ [(⟨(j : Int), e.mon⟩ : GNest)])⟩ (by omega) rfl (by simp at hlen ⊢; omega) ⟨FI f m v5 v6 (lvN (v + 1) ((x0 :: xs) ++ [(⟨(j : Int), e.mon⟩ : GNest)])) i ((j + 1 : Nat) : Int), ⟨stN f o1 σ w ⟨v5, (EncX.encX e).map DV.c⟩ ⟨v6, (EncX.encX o).map DV.c⟩ ⟨v + 1, dcells ((x0 :: xs) ++ [(⟨(j : Int), e.mon⟩ : GNest)])⟩, []⟩⟩ (by kernel_rfl)
        refine ⟨v', c', h4, ?_⟩
        refine Sys.loopQ hs ?_
        have happ := appN_old (st := stN f o1 σ w ⟨v5, (EncX.encX e).map DV.c⟩ ⟨v6, (EncX.encX o).map DV.c⟩ ⟨v, dcells (x0 :: xs)⟩) (id0 := 7) (v := v) (l := x0 :: xs) (a := (j : Int)) (b := e.mon) (x1 := true) rfl hlen'
        have hll : ((x0 :: xs) ++ [(⟨(j : Int), e.mon⟩ : GNest)]).length = (x0 :: xs).length + 1 := by simp
        have hlv : lvN (v + 1) ((x0 :: xs) ++ [(⟨(j : Int), e.mon⟩ : GNest)]) = .ms 7 (v + 1) 0 ((x0 :: xs).length + 1) 2 false := by
          show DV.ms 7 (v + 1) 0 ((x0 :: xs) ++ [(⟨(j : Int), e.mon⟩ : GNest)]).length 2 false = _
          rw [hll]
        rw [hlv] at hL
        refine Sys.to [((10, 0), .b true), ((12, 1), .ix), ((12, 2), .cell (cInt (o.get (j : Int).toNat))), ((12, 3), .b true), ((13, 3), .cell (cInt e.mon)), ((13, 6), .op { d := .ms 7 (v + 1) 0 ((x0 :: xs).length + 1) 2 false, set := some (7, ⟨v + 1, dcells ((x0 :: xs) ++ [(⟨(j : Int), e.mon⟩ : GNest)])⟩) }), ((14, 0), .n)] 999999 (.fin .normal) ⟨fl [(1, dInt (m : Int)), (4, .ms 7 (v + 1) 0 ((x0 :: xs).length + 1) 2 false), (5, .pt 4 1 0), (8, .pt 5 v5 0), (9, .pt 6 v6 0), (21, .c (eSl f.edges)), (22, dInt (f.edges.l.length : Int)), (23, dInt i), (51, dInt (m : Int)), (52, dInt ((j : Int) + 1))], ⟨stN f o1 σ w ⟨v5, (EncX.encX e).map DV.c⟩ ⟨v6, (EncX.encX o).map DV.c⟩ ⟨v + 1, dcells ((x0 :: xs) ++ [(⟨(j : Int), e.mon⟩ : GNest)])⟩, []⟩⟩
          (And.intro h3 (And.intro hi (And.intro hld (And.intro hg' (And.intro hlm (And.intro happ hr)))))) (by kernel_rfl) ?_
        exact Sys.fin (.inl ⟨rfl, _, rfl, hL⟩)
    · have hg' : ¬ o.get (j : Int).toNat > 0 := hg
      rw [if_neg hg, List.nil_append]
      obtain ⟨v', c', h4, hL⟩ := inner14 hm (M := M) g (j + 1) v cur c (by omega) hc (by omega) ⟨FI f m v5 v6 (lvN v cur) i ((j + 1 : Nat) : Int), ⟨stN f o1 σ w ⟨v5, (EncX.encX e).map DV.c⟩ ⟨v6, (EncX.encX o).map DV.c⟩ c, []⟩⟩ (by kernel_rfl)
      refine ⟨v', c', h4, ?_⟩
      refine Sys.loopQ hs ?_
      refine Sys.to [((10, 0), .b true), ((12, 1), .ix), ((12, 2), .cell (cInt (o.get (j : Int).toNat))), ((12, 3), .b false), ((14, 0), .n)] 999999 (.fin .normal) ⟨fl [(1, dInt (m : Int)), (4, lvN v cur), (5, .pt 4 1 0), (8, .pt 5 v5 0), (9, .pt 6 v6 0), (21, .c (eSl f.edges)), (22, dInt (f.edges.l.length : Int)), (23, dInt i), (51, dInt (m : Int)), (52, dInt ((j : Int) + 1))], ⟨stN f o1 σ w ⟨v5, (EncX.encX e).map DV.c⟩ ⟨v6, (EncX.encX o).map DV.c⟩ c, []⟩⟩
        (And.intro h3 (And.intro hi (And.intro hld (And.intro hg' hr)))) (by kernel_rfl) ?_
      exact Sys.fin (.inl ⟨rfl, _, rfl, hL⟩)
def Z60 : List DV := [dInt 0, dInt 0, dInt 0, dInt 0, dInt 0, dInt 0, .c (.sc (.string .empty)), .c (.sc (.string .empty)), dInt 0, .c (.sl true true [] 0), dInt 0, dInt 0, dInt 0, dInt 0, dInt 0]
def Z52 : List DV := [dInt 0, dInt 0, dInt 0, dInt 0, dInt 0, dInt 0, dInt 0, dInt 0]
def FO (f : GFlow) (m : Nat) (LV : DV) (i : Int) : Nat → DV := fl [(1, dInt (m : Int)), (4, LV), (5, .pt 4 1 0), (21, .c (eSl f.edges)), (22, dInt (f.edges.l.length : Int)), (23, dInt i)]
theorem encE_len (e : GEdge) : ((EncX.encX e).map DV.c).length = 15 := by rw [List.length_map, EncX.eq]; exact Enc.len e
theorem encO_len (o : Held_owned) : ((EncX.encX o).map DV.c).length = 8 := by rw [List.length_map, EncX.eq]; exact Enc.len o
theorem setL_whole {a b : List DV} (h : a.length = b.length) : setL a 0 b = b := by
  have := setL_tail (a := []) (b := a) (c := b) h
  simpa using this
theorem outer14 (hm : m ≤ 8) (hE : f.edges.l.length ≤ 10000) (hmon : ∀ e ∈ f.edges.l, e.kind = 4 → 0 ≤ e.mon ∧ e.mon < 8) {M : Nat} : ∀ (rest : List GEdge) (j : Nat) (i : Int) (v5 v6 v : Nat) (c5 c6 : List DV) (cur : List GNest) (c : Ob), i = (j : Int) → f.edges.l.drop j = rest → j ≤ f.edges.l.length → ObN v cur c → cur.length ≤ 8 * j →
    ∀ s : S, restrS (X.an.rs 14 5) s = ⟨FO f m (lvN v cur) i, ⟨stN f o1 σ w ⟨v5, c5⟩ ⟨v6, c6⟩ c, []⟩⟩ →
    ∃ v' c' a5 a6, ∃ r : Int, ObN v' (cur ++ rest.flatMap (nestE m σ)) c' ∧ (cur ++ rest.flatMap (nestE m σ)).length ≤ 80000 ∧ X.Loop 14 72 [] (sub b14 [1, 1, 1, 0, 1, 0, 0]) M s (.exit 0)
      ⟨fl [(1, dInt (m : Int)), (4, lvN v' (cur ++ rest.flatMap (nestE m σ))), (5, .pt 4 1 0), (21, .c (eSl f.edges)), (22, dInt (f.edges.l.length : Int)), (23, dInt r), (24, dB false)], ⟨stN f o1 σ w a5 a6 c', []⟩⟩
  | [], j, i, v5, v6, v, c5, c6, cur, c, hi, hd, hj, hc, hlen, s, hs => by
    have hjl : f.edges.l.length ≤ j := by
      have := congrArg List.length hd
      simp at this; omega
    rw [List.flatMap_nil, List.append_nil]
    refine ⟨v, c, ⟨v5, c5⟩, ⟨v6, c6⟩, i, hc, by omega, ?_⟩
    refine Sys.loopQ hs ?_
    have h1 : ¬ i < (f.edges.l.length : Int) := by omega
    exact Sys.endX [((5, 0), .b false)] h1 rfl (by kernel_rfl)
  | e :: rest, j, i, v5, v6, v, c5, c6, cur, c, hi, hd, hj, hc, hlen, s, hs => by
    have hjl : j < f.edges.l.length := by
      refine Classical.byContradiction fun hn => ?_
      rw [List.drop_eq_nil_of_le (by omega)] at hd
      cases hd
    have hd' := List.drop_eq_getElem_cons hjl
    rw [hd] at hd'
    obtain ⟨hx, hr⟩ := List.cons.inj hd'
    have hget : f.edges.l[i.toNat]? = some e := by rw [show i.toNat = j by omega, List.getElem?_eq_getElem hjl, hx]
    have hmem : e ∈ f.edges.l := List.mem_of_getElem? hget
    have h1 : i < (f.edges.l.length : Int) := by omega
    have hix : 0 ≤ i ∧ i < (f.edges.l.length : Int) := by omega
    have hsp := span_at (l := f.edges.l) 0 15 (by decide) hget
    have hinr : InR (i + 1) := by unfold InR; omega
    have hs5 : (v5 + 1 = v5 + 1) ∧ 0 + 15 ≤ Z60.length ∧ setL Z60 0 ((EncX.encX e).map DV.c) = (EncX.encX e).map DV.c := ⟨rfl, Nat.le_refl _, setL_whole (by rw [encE_len]; rfl)⟩
    have hfrom : (v5 + 1 = v5 + 1) ∧ ((EncX.encX e).map DV.c)[0 + 0]? = some (.c (cInt e.from_)) := ⟨rfl, rfl⟩
    have hkind : (v5 + 1 = v5 + 1) ∧ ((EncX.encX e).map DV.c)[0 + 2]? = some (.c (cInt e.kind)) := ⟨rfl, rfl⟩
    have hmo : (v5 + 1 = v5 + 1) ∧ ((EncX.encX e).map DV.c)[0 + 3]? = some (.c (cInt e.mon)) := ⟨rfl, rfl⟩
    have hs6 : (v6 + 1 = v6 + 1) ∧ 0 + 8 ≤ Z52.length ∧ setL Z52 0 ((EncX.encX (atN σ e.from_)).map DV.c) = (EncX.encX (atN σ e.from_)).map DV.c := ⟨rfl, Nat.le_refl _, setL_whole (by rw [encO_len]; rfl)⟩
    have hlook : ∀ b, hasM σ e.from_ = b → val (lookD X.P (stN f o1 σ w ⟨v5 + 1, (EncX.encX e).map DV.c⟩ ⟨v6, c6⟩ c) 48 (.mp 3 1) (dInt e.from_) true) = some { d := .tup [.c (.agg (EncX.encX (atN σ e.from_))), dB b] } := fun b hb =>
      look2M_ok (P := X.P) (t := 48) (et := 52) (st := stN f o1 σ w ⟨v5 + 1, (EncX.encX e).map DV.c⟩ ⟨v6, c6⟩ c) (id := 3) (ver := 1) (l := σ) (k := e.from_) (z := OO) (b := b) (by kernel_rfl) (by kernel_rfl) rfl hb
    have skip : nestE m σ e = [] → (X.Go 14 72 [] (sub b14 [1, 1, 1, 0, 1, 0, 0]) ⟨FO f m (lvN v cur) i, ⟨stN f o1 σ w ⟨v5, c5⟩ ⟨v6, c6⟩ c, []⟩⟩ .normal ⟨FO f m (lvN v cur) (i + 1), ⟨stN f o1 σ w ⟨v5 + 1, (EncX.encX e).map DV.c⟩ ⟨v6 + 1, (EncX.encX (atN σ e.from_)).map DV.c⟩ c, []⟩⟩) →
        ∃ v' c' a5 a6, ∃ r : Int, ObN v' (cur ++ (e :: rest).flatMap (nestE m σ)) c' ∧ (cur ++ (e :: rest).flatMap (nestE m σ)).length ≤ 80000 ∧ X.Loop 14 72 [] (sub b14 [1, 1, 1, 0, 1, 0, 0]) M s (.exit 0)
        ⟨fl [(1, dInt (m : Int)), (4, lvN v' (cur ++ (e :: rest).flatMap (nestE m σ))), (5, .pt 4 1 0), (21, .c (eSl f.edges)), (22, dInt (f.edges.l.length : Int)), (23, dInt r), (24, dB false)], ⟨stN f o1 σ w a5 a6 c', []⟩⟩ := fun hn hgo => by
      obtain ⟨v', c', a5, a6, r, q1, q2, q3⟩ := outer14 hm hE hmon (M := M) rest (j + 1) (i + 1) (v5 + 1) (v6 + 1) v ((EncX.encX e).map DV.c) ((EncX.encX (atN σ e.from_)).map DV.c) cur c (by omega) hr.symm (by omega) hc (by omega) ⟨FO f m (lvN v cur) (i + 1), ⟨stN f o1 σ w ⟨v5 + 1, (EncX.encX e).map DV.c⟩ ⟨v6 + 1, (EncX.encX (atN σ e.from_)).map DV.c⟩ c, []⟩⟩ (by kernel_rfl)
      have hfm : (e :: rest).flatMap (nestE m σ) = rest.flatMap (nestE m σ) := by rw [List.flatMap_cons, hn, List.nil_append]
      rw [hfm]
      exact ⟨v', c', a5, a6, r, q1, q2, Sys.Loop.step hs hgo (s2 := ⟨FO f m (lvN v cur) (i + 1), ⟨stN f o1 σ w ⟨v5 + 1, (EncX.encX e).map DV.c⟩ ⟨v6 + 1, (EncX.encX (atN σ e.from_)).map DV.c⟩ c, []⟩⟩) rfl q3⟩
    by_cases hh : hasM σ e.from_ = true
    · by_cases hk : e.kind ≠ 4
      · refine skip (by unfold nestE; rw [if_neg (fun h => hk h.2.1)]) (Sys.goE (Sys.endJ [((5, 0), .b true), ((6, 0), .ix), ((6, 1), .agg (EncX.encX e)), ((6, 3), .st ((EncX.encX e).map DV.c)), ((7, 5), .cell (cInt e.from_)), ((7, 6), .op { d := .tup [.c (.agg (EncX.encX (atN σ e.from_))), dB true] }), ((7, 11), .st ((EncX.encX (atN σ e.from_)).map DV.c)), ((8, 4), .cell (cInt e.kind)), ((8, 5), .b true), ((15, 0), .n)]
          (And.intro h1 (And.intro hix (And.intro hsp (And.intro hs5 (And.intro hfrom (And.intro (hlook true hh) (And.intro hs6 (And.intro hkind (And.intro hk hinr))))))))) (by kernel_rfl)))
      · have hk4 : e.kind = 4 := Classical.not_not.1 hk
        have hmr := hmon e hmem hk4
        have hld : (v6 + 1 = v6 + 1) ∧ ((EncX.encX (atN σ e.from_)).map DV.c)[0 + e.mon.toNat * 1 + 0]? = some (.c (cInt ((atN σ e.from_).get e.mon.toNat))) := ⟨rfl, Held_owned.get_at _ hmr⟩
        by_cases hg : (atN σ e.from_).get e.mon.toNat > 0
        · refine skip (by unfold nestE; rw [if_neg (fun h => h.2.2 hg)]) (Sys.goE (Sys.endJ [((5, 0), .b true), ((6, 0), .ix), ((6, 1), .agg (EncX.encX e)), ((6, 3), .st ((EncX.encX e).map DV.c)), ((7, 5), .cell (cInt e.from_)), ((7, 6), .op { d := .tup [.c (.agg (EncX.encX (atN σ e.from_))), dB true] }), ((7, 11), .st ((EncX.encX (atN σ e.from_)).map DV.c)), ((8, 4), .cell (cInt e.kind)), ((8, 5), .b false), ((8, 9), .cell (cInt e.mon)), ((8, 10), .ix), ((8, 11), .cell (cInt ((atN σ e.from_).get e.mon.toNat))), ((8, 12), .b true), ((15, 0), .n)]
            (And.intro h1 (And.intro hix (And.intro hsp (And.intro hs5 (And.intro hfrom (And.intro (hlook true hh) (And.intro hs6 (And.intro hkind (And.intro hk (And.intro hmo (And.intro hmr (And.intro hld (And.intro hg hinr))))))))))))) (by kernel_rfl)))
        · have hne : nestE m σ e = nestJ (atN σ e.from_) e.mon m 0 := by unfold nestE; rw [if_pos ⟨hh, hk4, hg⟩]
          have hnl : (nestJ (atN σ e.from_) e.mon m 0).length ≤ m := by
            unfold nestJ
            rw [List.length_map]
            exact Nat.le_trans (List.length_filter_le _ _) (by simp)
          obtain ⟨v', c', q0, qL⟩ := inner14 (f := f) (o1 := o1) (σ := σ) (w := w) hm (e := e) (o := atN σ e.from_) (v5 := v5 + 1) (v6 := v6 + 1) (i := i) (M := 8) m 0 v cur c (by omega) hc (by omega) ⟨FI f m (v5 + 1) (v6 + 1) (lvN v cur) i 0, ⟨stN f o1 σ w ⟨v5 + 1, (EncX.encX e).map DV.c⟩ ⟨v6 + 1, (EncX.encX (atN σ e.from_)).map DV.c⟩ c, []⟩⟩ (by kernel_rfl)
          have hgo : X.Go 14 72 [] (sub b14 [1, 1, 1, 0, 1, 0, 0]) ⟨FO f m (lvN v cur) i, ⟨stN f o1 σ w ⟨v5, c5⟩ ⟨v6, c6⟩ c, []⟩⟩ .normal ⟨FO f m (lvN v' (cur ++ nestJ (atN σ e.from_) e.mon m 0)) (i + 1), ⟨stN f o1 σ w ⟨v5 + 1, (EncX.encX e).map DV.c⟩ ⟨v6 + 1, (EncX.encX (atN σ e.from_)).map DV.c⟩ c', []⟩⟩ :=
            Sys.goE (Sys.endJ [((5, 0), .b true), ((6, 0), .ix), ((6, 1), .agg (EncX.encX e)), ((6, 3), .st ((EncX.encX e).map DV.c)), ((7, 5), .cell (cInt e.from_)), ((7, 6), .op { d := .tup [.c (.agg (EncX.encX (atN σ e.from_))), dB true] }), ((7, 11), .st ((EncX.encX (atN σ e.from_)).map DV.c)), ((8, 4), .cell (cInt e.kind)), ((8, 5), .b false), ((8, 9), .cell (cInt e.mon)), ((8, 10), .ix), ((8, 11), .cell (cInt ((atN σ e.from_).get e.mon.toNat))), ((8, 12), .b false),
              ((10, 1000), .code (.exit 2) ⟨fl [(1, dInt (m : Int)), (4, lvN v' (cur ++ nestJ (atN σ e.from_) e.mon m 0)), (5, .pt 4 1 0), (8, .pt 5 (v5 + 1) 0), (9, .pt 6 (v6 + 1) 0), (21, .c (eSl f.edges)), (22, dInt (f.edges.l.length : Int)), (23, dInt i), (51, dInt (m : Int)), (52, dInt (m : Int)), (53, dB false)], ⟨stN f o1 σ w ⟨v5 + 1, (EncX.encX e).map DV.c⟩ ⟨v6 + 1, (EncX.encX (atN σ e.from_)).map DV.c⟩ c', []⟩⟩), ((15, 0), .n)]
              (And.intro h1 (And.intro hix (And.intro hsp (And.intro hs5 (And.intro hfrom (And.intro (hlook true hh) (And.intro hs6 (And.intro hkind (And.intro hk (And.intro hmo (And.intro hmr (And.intro hld (And.intro hg (And.intro (Sys.Loop.goM qL rfl) hinr)))))))))))))) (by kernel_rfl))
          obtain ⟨v2, c2, a5, a6, r, q1, q2, q3⟩ := outer14 hm hE hmon (M := M) rest (j + 1) (i + 1) (v5 + 1) (v6 + 1) v' ((EncX.encX e).map DV.c) ((EncX.encX (atN σ e.from_)).map DV.c) (cur ++ nestJ (atN σ e.from_) e.mon m 0) c' (by omega) hr.symm (by omega) q0 (by rw [List.length_append]; omega) ⟨FO f m (lvN v' (cur ++ nestJ (atN σ e.from_) e.mon m 0)) (i + 1), ⟨stN f o1 σ w ⟨v5 + 1, (EncX.encX e).map DV.c⟩ ⟨v6 + 1, (EncX.encX (atN σ e.from_)).map DV.c⟩ c', []⟩⟩ (by kernel_rfl)
          have hfm : cur ++ (e :: rest).flatMap (nestE m σ) = (cur ++ nestJ (atN σ e.from_) e.mon m 0) ++ rest.flatMap (nestE m σ) := by rw [List.flatMap_cons, hne, List.append_assoc]
          rw [hfm]
          exact ⟨v2, c2, a5, a6, r, q1, q2, Sys.Loop.step hs hgo (s2 := ⟨FO f m (lvN v' (cur ++ nestJ (atN σ e.from_) e.mon m 0)) (i + 1), ⟨stN f o1 σ w ⟨v5 + 1, (EncX.encX e).map DV.c⟩ ⟨v6 + 1, (EncX.encX (atN σ e.from_)).map DV.c⟩ c', []⟩⟩) rfl q3⟩
    · have hh' : hasM σ e.from_ = false := eq_false_of_ne_true hh
      refine skip (by unfold nestE; rw [if_neg (fun h => hh h.1)]) (Sys.goE (Sys.endJ [((5, 0), .b true), ((6, 0), .ix), ((6, 1), .agg (EncX.encX e)), ((6, 3), .st ((EncX.encX e).map DV.c)), ((7, 5), .cell (cInt e.from_)), ((7, 6), .op { d := .tup [.c (.agg (EncX.encX (atN σ e.from_))), dB false] }), ((7, 11), .st ((EncX.encX (atN σ e.from_)).map DV.c)), ((15, 0), .n)]
        (And.intro h1 (And.intro hix (And.intro hsp (And.intro hs5 (And.intro hfrom (And.intro (hlook false hh') (And.intro hs6 hinr))))))) (by kernel_rfl)))
/-! ### the sort -/
def toP (x : GNest) : Int × Int := (x.outer, x.inner)
def ofP (p : Int × Int) : GNest := ⟨p.1, p.2⟩
def sortG (l : List GNest) : List GNest := (sortN (l.map toP)).map ofP
theorem flatP_map : ∀ l : List (Int × Int), flatP l = dcells (l.map ofP)
  | [] => rfl
  | p :: l => by
    show dInt p.1 :: dInt p.2 :: flatP l = dInt p.1 :: dInt p.2 :: dcells (l.map ofP)
    rw [flatP_map l]
theorem of_to (l : List GNest) : (l.map toP).map ofP = l := by
  rw [List.map_map]
  exact List.map_id l
theorem pairs_flat : ∀ l : List (Int × Int), pairsOf (flatP l) = some l
  | [] => rfl
  | (a, b) :: l => by
    show (pairsOf (flatP l)).map ((a, b) :: ·) = _
    rw [pairs_flat l]; rfl
theorem pairs_dcells (l : List GNest) : pairsOf (dcells l) = some (l.map toP) := by
  have h := flatP_map (l.map toP)
  rw [of_to] at h
  rw [← h, pairs_flat]
theorem sortG_len (l : List GNest) : (sortG l).length = l.length := by simp [sortG, sortN]
theorem sort_step (hs : Kn.srt = true) {st : List Ob} {v : Nat} {x : GNest} {xs : List GNest} (h : st[7]? = some ⟨v, dcells (x :: xs)⟩) (hl : xs.length ≤ 100000) :
    Kn.S st [.ms 7 v 0 (x :: xs).length 2 false, .fn 25 [] []] = some { d := .tup [], set := some (7, ⟨v, dcells (sortG (x :: xs))⟩) } := by
  rw [Kn.sok hs]
  have hg : getO st 7 v = some ⟨v, dcells (x :: xs)⟩ := getO_of h rfl
  have hsp : span (dcells (x :: xs)) 0 ((xs.length + 1) * 2) = some (dcells (x :: xs)) := span_all (x :: xs)
  have hset : setL (dcells (x :: xs)) 0 (flatP (sortN ((x :: xs).map toP))) = dcells (sortG (x :: xs)) := by
    rw [setL_whole (by rw [dcells_lenN, flatP_length]; simp [sortN]), flatP_map]; rfl
  have : ¬ (4611686018427387903 ≤ xs.length) := by omega
  simp only [sort2P, List.length_cons]
  rw [if_pos ⟨trivial, by omega⟩, hg]
  simp only [hsp, Option.bind_some, pairs_dcells, Option.map_some, hset]
theorem sort_nil (hs : Kn.srt = true) (st : List Ob) : Kn.S st [.c (.sl true true [] 0), .fn 25 [] []] = some { d := .tup [] } := by
  rw [Kn.sok hs]; rfl
theorem compact_nil : X.RunsC 26 [.c (.sl true true [] 0)] (.c (.sl true true [] 0)) :=
  Sys.callC' (fn := Try.f26) (b := b26) (by kernel_rfl) (by kernel_rfl) (Sys.endC [] True.intro (by kernel_rfl))
theorem closeList_cells (st : List Ob) : ∀ l : List CV, closeList (closeD 8 st) (l.map DV.c) = some l
  | [] => rfl
  | c :: l => by simp only [List.map_cons, closeList, closeD, closeList_cells st l]
theorem closeN {st : List Ob} {v : Nat} {D rest : List GNest} (h : st[7]? = some ⟨v, dcells (D ++ rest)⟩) : closeTop st (.ms 7 v 0 D.length 2 false) = some (.c (eSl (⟨false, false, D⟩ : Sl GNest))) := by
  have hg : getO st 7 v = some ⟨v, dcells (D ++ rest)⟩ := getO_of h rfl
  have hsp : span (dcells (D ++ rest)) 0 (D.length * 2) = some (dcells D) := by
    have h1 := dcells_lenN D
    rw [dcells_append]
    unfold span
    simp [← h1]
  have hc : closeList (closeD 8 st) (dcells D) = some (cells D) := closeList_cells st (cells D)
  simp only [closeTop, closeD, hg, hsp, Option.bind_some, hc, Option.map_some]
  rfl
/-- held.Nests, plain. -/
def nestsL (m : Nat) (σ : Mo) (es : List GEdge) : List GNest := es.flatMap (nestE m σ)
def held_Nests (n : Nat) (f : GFlow) (m : Int) : Option (Sl GNest) :=
  if Kn.srt = true then (held_find n f m).bind fun r => match r with
    | .r_1 o1 σ w => if (0 ≤ m ∧ m ≤ 8) ∧ f.edges.l.length ≤ 10000 ∧ (∀ e ∈ f.edges.l, e.kind = 4 → 0 ≤ e.mon ∧ e.mon < 8) then
        (match nestsL m.toNat σ f.edges.l with
          | [] => some ⟨true, true, []⟩
          | x :: xs => some ⟨false, false, dn (sortG (x :: xs)) (x :: xs).length⟩)
      else none
    | .r o1 σ w => some ⟨true, true, []⟩
    | .r_2 => some ⟨true, true, []⟩
  else none
end
theorem held_Nests_ok {n : Nat} {f : GFlow} {p1 : Int} {r : Sl GNest} (h : held_Nests n f p1 = some r) : X.RunsC 14 [.c (.agg (EncX.encX f)), dInt p1] (.c (eSl r)) := by
  unfold held_Nests at h
  split at h
  case isFalse => cases h
  rename_i hsrt
  obtain ⟨fr, h1, h⟩ := Option.bind_eq_some_iff.1 h
  have h2 := held_find_ok h1
  refine Sys.callC' (fn := Try.f14) (b := b14) (by kernel_rfl) (by kernel_rfl) ?_
  cases fr with
  | r o1 σ w =>
    cases h
    exact Sys.endC [((1, 2), .callK (.tup [.c (.sc (.pointer none)), dB false]) ⟨[⟨1, (held_Sections_c3 f)⟩, ⟨1, rcells o1⟩, mkOb 1 (.map (encM σ)), ⟨1, (held_Sections_c1 f w)⟩], []⟩ (.tup [.c (.sc (.pointer none)), dB false]) [⟨1, (held_Sections_c3 f)⟩, ⟨1, rcells o1⟩, mkOb 1 (.map (encM σ)), ⟨1, (held_Sections_c2 f w)⟩])] (And.intro h2 (And.intro (by kernel_rfl : shift 1 0 (.tup [.c (.sc (.pointer none)), dB false]) = .tup [.c (.sc (.pointer none)), dB false]) (shifts_cons (n := 1) (p := 0) (ver := 1) (cs := (held_Sections_c3 f)) (cs' := (held_Sections_c3 f)) ((by kernel_rfl : shiftL 1 0 (held_Sections_c3 f) = (held_Sections_c3 f))) (shifts_cons (n := 1) (p := 0) (ver := 1) (cs := rcells o1) (cs' := rcells o1) (shift_rcells _ _ _) (shifts_consM (n := 1) (p := 0) (ver := 1) (l := σ) (shifts_cons (n := 1) (p := 0) (ver := 1) (cs := (held_Sections_c1 f w)) (cs' := (held_Sections_c2 f w)) (shl_cons (by kernel_rfl : shift 1 0 (.c (.sc (.string f.name))) = .c (.sc (.string f.name))) (shl_cons (by kernel_rfl : shift 1 0 (dB f.star) = dB f.star) (shl_cons (by kernel_rfl : shift 1 0 (dInt f.locs) = dInt f.locs) (shl_cons (by kernel_rfl : shift 1 0 (.c (eSl f.edges)) = .c (eSl f.edges)) (shl_cons (by kernel_rfl : shift 1 0 (.c (eSl f.guards)) = .c (eSl f.guards)) (shl_cons (by kernel_rfl : shift 1 0 (.ms 1 1 0 f.locs.toNat 1 true) = .ms 2 1 0 f.locs.toNat 1 true) (shl_cons (by kernel_rfl : shift 1 0 (.mp 2 1) = .mp 3 1) (shl_cons (shift_rsl 1 0 w) (shl_nil _ _))))))))) (shifts_nil _ _))))))) (by kernel_rfl)
  | r_2 =>
    cases h
    exact Sys.endC [((1, 2), .callK (.tup [.c (.sc (.pointer none)), dB false]) ⟨[⟨1, (held_Sections_c3 f)⟩], []⟩ (.tup [.c (.sc (.pointer none)), dB false]) [⟨1, (held_Sections_c3 f)⟩])] (And.intro h2 (And.intro (by kernel_rfl : shift 1 0 (.tup [.c (.sc (.pointer none)), dB false]) = .tup [.c (.sc (.pointer none)), dB false]) (shifts_cons (n := 1) (p := 0) (ver := 1) (cs := (held_Sections_c3 f)) (cs' := (held_Sections_c3 f)) ((by kernel_rfl : shiftL 1 0 (held_Sections_c3 f) = (held_Sections_c3 f))) (shifts_nil _ _)))) (by kernel_rfl)
  | r_1 o1 σ w =>
    simp only at h
    split at h
    case isFalse => cases h
    rename_i hc
    obtain ⟨hm, hE, hmon⟩ := hc
    obtain ⟨m, rfl⟩ := Int.eq_ofNat_of_zero_le hm.1
    simp only [Int.toNat_natCast] at h
    refine Sys.to [((1, 2), .callK (.tup [.pt 3 1 0, dB true]) ⟨[⟨1, (held_Sections_c3 f)⟩, ⟨1, rcells o1⟩, mkOb 1 (.map (encM σ)), ⟨1, (held_Sections_c4 f w)⟩], []⟩ (.tup [.pt 4 1 0, dB true]) [⟨1, (held_Sections_c3 f)⟩, ⟨1, rcells o1⟩, mkOb 1 (.map (encM σ)), ⟨1, (held_Sections_c5 f w)⟩])] 100005 (.at [1, 1, 1, 0, 1, 0]) ⟨FO f m (lvN 0 []) 0, ⟨stN f o1 σ w ⟨0, []⟩ ⟨0, []⟩ ⟨0, []⟩, []⟩⟩ (And.intro h2 (And.intro (by kernel_rfl : shift 1 0 (.tup [.pt 3 1 0, dB true]) = .tup [.pt 4 1 0, dB true]) (shifts_cons (n := 1) (p := 0) (ver := 1) (cs := (held_Sections_c3 f)) (cs' := (held_Sections_c3 f)) ((by kernel_rfl : shiftL 1 0 (held_Sections_c3 f) = (held_Sections_c3 f))) (shifts_cons (n := 1) (p := 0) (ver := 1) (cs := rcells o1) (cs' := rcells o1) (shift_rcells _ _ _) (shifts_consM (n := 1) (p := 0) (ver := 1) (l := σ) (shifts_cons (n := 1) (p := 0) (ver := 1) (cs := (held_Sections_c4 f w)) (cs' := (held_Sections_c5 f w)) (shl_cons (by kernel_rfl : shift 1 0 (.c (.sc (.string f.name))) = .c (.sc (.string f.name))) (shl_cons (by kernel_rfl : shift 1 0 (dB f.star) = dB f.star) (shl_cons (by kernel_rfl : shift 1 0 (dInt f.locs) = dInt f.locs) (shl_cons (by kernel_rfl : shift 1 0 (.c (eSl f.edges)) = .c (eSl f.edges)) (shl_cons (by kernel_rfl : shift 1 0 (.c (eSl f.guards)) = .c (eSl f.guards)) (shl_cons (by kernel_rfl : shift 1 0 (.ms 1 1 0 f.locs.toNat 1 true) = .ms 2 1 0 f.locs.toNat 1 true) (shl_cons (by kernel_rfl : shift 1 0 (.mp 2 1) = .mp 3 1) (shl_cons (shift_rsl 1 0 w) (shl_nil _ _))))))))) (shifts_nil _ _))))))) (by kernel_rfl) ?_
    obtain ⟨v, c, a5, a6, q, hO, hlen, hL⟩ := outer14 (f := f) (o1 := o1) (σ := σ) (w := w) (m := m) (by omega) hE hmon (M := 8) f.edges.l 0 0 0 0 0 [] [] [] ⟨0, []⟩ rfl rfl (by omega) rfl (by simp) ⟨FO f m (lvN 0 []) 0, ⟨stN f o1 σ w ⟨0, []⟩ ⟨0, []⟩ ⟨0, []⟩, []⟩⟩ (by kernel_rfl)
    rw [List.nil_append] at hO hL hlen
    have hfl : f.edges.l.flatMap (nestE m σ) = nestsL m σ f.edges.l := rfl
    rw [hfl] at hO hL hlen
    have hL2 := Sys.Loop.goM hL rfl
    revert h hO hL2 hlen
    clear hL hfl
    generalize nestsL m σ f.edges.l = cur
    intro h hO hlen hL2
    cases cur with
    | nil =>
      cases h
      have hsn := sort_nil hsrt (stN f o1 σ w a5 a6 c)
      exact Sys.endC [((5, 1000), .code (.exit 0) ⟨fl [(1, dInt (m : Int)), (4, .c (.sl true true [] 0)), (5, .pt 4 1 0), (21, .c (eSl f.edges)), (22, dInt (f.edges.l.length : Int)), (23, dInt q), (24, dB false)], ⟨stN f o1 σ w a5 a6 c, []⟩⟩), ((16, 1), .op { d := .tup [] }), ((17, 1), .call (.c (.sl true true [] 0)) ⟨[], []⟩)] (And.intro hL2 (And.intro hsn compact_nil)) (by kernel_rfl)
    | cons x xs =>
      cases h
      have hc' : c = ⟨v, dcells (x :: xs)⟩ := hO
      subst hc'
      have hss := sort_step hsrt (st := stN f o1 σ w a5 a6 ⟨v, dcells (x :: xs)⟩) (v := v) (x := x) (xs := xs) rfl (by simp at hlen; omega)
      obtain ⟨rest, hcomp⟩ := compact26 (os := (⟨1, (EncX.encX f).map DV.c⟩, ⟨1, (held_Sections_c3 f)⟩, ⟨1, rcells o1⟩, mkOb 1 (.map (encM σ)), ⟨1, (held_Sections_c5 f w)⟩, a5, a6)) (v := v) (n := (x :: xs).length) (l := sortG (x :: xs)) (sortG_len _) (by omega)
      refine Sys.to [((5, 1000), .code (.exit 0) ⟨fl [(1, dInt (m : Int)), (4, .ms 7 v 0 (x :: xs).length 2 false), (5, .pt 4 1 0), (21, .c (eSl f.edges)), (22, dInt (f.edges.l.length : Int)), (23, dInt q), (24, dB false)], ⟨stN f o1 σ w a5 a6 ⟨v, dcells (x :: xs)⟩, []⟩⟩), ((16, 1), .op { d := .tup [], set := some (7, ⟨v, dcells (sortG (x :: xs))⟩) }), ((17, 1), .call (.ms 7 v 0 (dn (sortG (x :: xs)) (x :: xs).length).length 2 false) ⟨stN f o1 σ w a5 a6 ⟨v, dcells (dn (sortG (x :: xs)) (x :: xs).length ++ rest)⟩, []⟩)] 999999 (.fin .ret) ⟨fl [(4, .ms 7 v 0 (dn (sortG (x :: xs)) (x :: xs).length).length 2 false)], ⟨stN f o1 σ w a5 a6 ⟨v, dcells (dn (sortG (x :: xs)) (x :: xs).length ++ rest)⟩, []⟩⟩ (And.intro hL2 (And.intro hss hcomp)) (by kernel_rfl) ?_
      exact Sys.fin ⟨rfl, .ms 7 v 0 (dn (sortG (x :: xs)) (x :: xs).length).length 2 false, by kernel_rfl, closeN rfl⟩
end Go.Proofs.Ytkfmoodaplelnaa
