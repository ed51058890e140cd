/-
  held.Round: how the lists of those within come to be; the whole function.
-/
import Derived.Test.YtkfmoodaplelnaaRd
set_option maxRecDepth 100000
set_option maxHeartbeats 4000000
set_option linter.unusedVariables false
set_option linter.unusedSimpArgs false
set_option linter.unusedSectionVars false
namespace Go.Proofs.Ytkfmoodaplelnaa
open Go Go.Abs Go.Proofs
def setE : List Ent → Int → Ent → List Ent
  | [], _, _ => []
  | e :: es, k, e' => if e.1 = k then e' :: es else e :: setE es k e'
theorem mapD_set {k : Int} {e' : Ent} : ∀ {es : List Ent} {j : Nat}, posE es k = some j → (mapD es).set j (entD e') = mapD (setE es k e')
  | [], j, h => by cases h
  | e :: es, j, h => by
    unfold posE at h
    unfold setE
    by_cases hk : e.1 = k
    · rw [if_pos hk] at h; cases h
      rw [if_pos hk]; rfl
    · rw [if_neg hk] at h
      obtain ⟨j', h1, rfl⟩ := Option.map_eq_some_iff.1 h
      rw [if_neg hk]
      show entD e :: (mapD es).set j' (entD e') = _
      rw [mapD_set h1]; rfl
theorem findE_set {k k' : Int} {e e' : Ent} (hk : e'.1 = k) : ∀ {es : List Ent}, findE es k = some e → findE (setE es k e') k' = if k' = k then some e' else findE es k'
  | [], h => by cases h
  | a :: es, h => by
    unfold setE
    unfold findE at h
    by_cases ha : a.1 = k
    · rw [if_pos ha]
      simp only [findE]
      by_cases hh : k' = k
      · rw [if_pos hh, if_pos (by rw [hk, hh])]
      · rw [if_neg hh, if_neg (by rw [hk]; exact fun q => hh q.symm), if_neg (by rw [ha]; exact fun q => hh q.symm)]
    · rw [if_neg ha] at h
      rw [if_neg ha]
      simp only [findE]
      by_cases hh : a.1 = k'
      · rw [if_pos hh, if_neg (fun q => ha (hh.trans q)), if_pos hh]
      · rw [if_neg hh, if_neg hh]; exact findE_set hk h
theorem findE_app {k k' : Int} {e' : Ent} (hk : e'.1 = k) : ∀ {es : List Ent}, findE es k = none → findE (es ++ [e']) k' = if k' = k then some e' else findE es k'
  | [], _ => by
    simp only [List.nil_append, findE, hk]
    by_cases hh : k' = k
    · rw [if_pos hh, if_pos hh.symm]
    · rw [if_neg hh, if_neg (fun q => hh q.symm)]
  | a :: es, h => by
    unfold findE at h
    by_cases ha : a.1 = k
    · rw [if_pos ha] at h; cases h
    · rw [if_neg ha] at h
      simp only [List.cons_append, findE]
      by_cases hh : a.1 = k'
      · rw [if_pos hh, if_pos hh, if_neg (fun q => ha (hh.trans q))]
      · rw [if_neg hh, if_neg hh]; exact findE_app hk h
theorem setE_mem {k : Int} {e e' x : Ent} : ∀ {es : List Ent}, findE es k = some e → (es.map fun e => e.2.1).Nodup → x ∈ setE es k e' → x = e' ∨ (x ∈ es ∧ x.2.1 ≠ e.2.1)
  | [], h, _, _ => by cases h
  | a :: es, h, hn, hx => by
    unfold findE at h
    unfold setE at hx
    simp only [List.map_cons, List.nodup_cons] at hn
    by_cases ha : a.1 = k
    · rw [if_pos ha] at h hx
      cases h
      rcases List.mem_cons.1 hx with rfl | hx
      · exact .inl rfl
      · exact .inr ⟨List.mem_cons_of_mem _ hx, fun hh => hn.1 (hh ▸ List.mem_map_of_mem (f := fun e : Ent => e.2.1) hx)⟩
    · rw [if_neg ha] at h hx
      rcases List.mem_cons.1 hx with rfl | hx
      · exact .inr ⟨List.mem_cons_self .., fun hh => hn.1 (hh ▸ List.mem_map_of_mem (f := fun e : Ent => e.2.1) (find_in h).1)⟩
      · rcases setE_mem h hn.2 hx with h1 | ⟨h1, h2⟩
        · exact .inl h1
        · exact .inr ⟨List.mem_cons_of_mem _ h1, h2⟩
theorem setE_ns {k : Int} {e e' : Ent} (he : e'.2.1 = e.2.1) : ∀ {es : List Ent}, findE es k = some e → (setE es k e').map (fun e => e.2.1) = es.map fun e => e.2.1
  | [], h => by cases h
  | a :: es, h => by
    unfold findE at h
    unfold setE
    by_cases ha : a.1 = k
    · rw [if_pos ha] at h; cases h
      rw [if_pos ha]; simp [he]
    · rw [if_neg ha] at h
      rw [if_neg ha]
      simp only [List.map_cons, setE_ns he h]
/-- One more. -/
def addE (x : GNest) (es : List Ent) (TO : List Ob) : List Ent := match findE es x.outer with
  | some e => setE es x.outer (e.1, e.2.1, e.2.2.1 + 1, e.2.2.2 ++ [x.inner])
  | none => es ++ [(x.outer, TO.length, 1, [x.inner])]
def addT (x : GNest) (es : List Ent) (TO : List Ob) : List Ob := match findE es x.outer with
  | some e => (TO ++ [(⟨0, []⟩ : Ob)]).set e.2.1 (⟨e.2.2.1 + 1, dcells e.2.2.2 ++ [dInt x.inner]⟩ : Ob)
  | none => (TO ++ [(⟨0, []⟩ : Ob)]).set TO.length (⟨1, [dInt x.inner]⟩ : Ob)
structure Good (es : List Ent) (TO : List Ob) (B : Nat) : Prop where
  tail : TailOk es TO
  ns : (es.map fun e => e.2.1).Nodup
  len : ∀ k, (nxE es k).length ≤ B
theorem Good.lt {es : List Ent} {TO : List Ob} {B : Nat} (g : Good es TO B) {e : Ent} (h : e ∈ es) : e.2.1 < TO.length := (List.getElem?_eq_some_iff.1 (g.tail e h)).1
theorem nxE_add (x : GNest) (es : List Ent) (TO : List Ob) (k : Int) : nxE (addE x es TO) k = if k = x.outer then nxE es k ++ [x.inner] else nxE es k := by
  unfold addE nxE
  cases h : findE es x.outer with
  | some e =>
    simp only
    rw [findE_set (e := e) (by exact (find_in h).2) h]
    by_cases hk : k = x.outer
    · rw [if_pos hk, if_pos hk, hk, h]
    · rw [if_neg hk, if_neg hk]
  | none =>
    simp only
    rw [findE_app rfl h]
    by_cases hk : k = x.outer
    · rw [if_pos hk, if_pos hk, hk, h]; rfl
    · rw [if_neg hk, if_neg hk]
theorem Good.add {es : List Ent} {TO : List Ob} {B : Nat} (g : Good es TO B) (x : GNest) : Good (addE x es TO) (addT x es TO) (B + 1) := by
  refine ⟨?_, ?_, fun k => ?_⟩
  · unfold addE addT
    cases h : findE es x.outer with
    | some e =>
      intro y hy
      rcases setE_mem h g.ns hy with rfl | ⟨h1, h2⟩
      · have := g.lt (find_in h).1
        simp only
        rw [List.getElem?_set, if_pos rfl, if_pos (by simp; omega)]
        simp [dcells_append]; rfl
      · have h3 := g.lt h1
        simp only
        rw [List.getElem?_set, if_neg (Ne.symm h2), List.getElem?_append_left h3]
        exact g.tail y h1
    | none =>
      intro y hy
      rcases List.mem_append.1 hy with hy | hy
      · have h3 := g.lt hy
        simp only
        rw [List.getElem?_set, if_neg (by omega), List.getElem?_append_left h3]
        exact g.tail y hy
      · simp only [List.mem_singleton] at hy
        subst hy
        simp only
        rw [List.getElem?_set, if_pos rfl, if_pos (by simp)]; rfl
  · unfold addE
    cases h : findE es x.outer with
    | some e => simp only; rw [setE_ns (e := e) (e' := (e.1, e.2.1, e.2.2.1 + 1, e.2.2.2 ++ [x.inner])) rfl h]; exact g.ns
    | none =>
      simp only
      rw [List.map_append, List.nodup_append]
      refine ⟨g.ns, by simp, fun a ha b hb => ?_⟩
      obtain ⟨y, hy, rfl⟩ := List.mem_map.1 ha
      have := g.lt hy
      simp only [List.map_cons, List.map_nil, List.mem_singleton] at hb
      omega
  · rw [nxE_add]
    have := g.len k
    split
    · simp; omega
    · omega
variable [Kn]
def stA (es : List Ent) (c2 : Ob) (TO : List Ob) : List Ob := mkOb 1 (.map (mapD es)) :: ⟨1, [.mp 0 1]⟩ :: c2 :: ⟨0, []⟩ :: ⟨0, []⟩ :: ⟨0, []⟩ :: TO
theorem putE_old {st : List Ob} {es : List Ent} {k : Int} {e e' : Ent} (hg : getK st 0 1 = some (.map (mapD es))) (hf : findE es k = some e) (hk : e'.1 = k) : (putK X.P st 66 (.mp 0 1) (dInt k) (entD e').2).map (fun e => ({ d := .un, set := some e } : Out)) = some { d := .un, set := some (0, mkOb 1 (.map (mapD (setE es k e')))) } := by
  have hm := mapT_int (P := X.P) (t := 66) (et := 32) (k := k) (by kernel_rfl)
  simp only [putK, hm, hg, findK_ent]
  have hp := pos_find k es
  rw [hf] at hp
  obtain ⟨j, hj⟩ := Option.isSome_iff_exists.1 hp
  rw [hj, hf]
  simp only [Option.map_some, Nat.zero_add]
  have h1 : (DV.c (.sc (.int .i64 k)), (entD e').2) = entD e' := by subst hk; rfl
  rw [h1, mapD_set hj]
theorem putE_new {st : List Ob} {es : List Ent} {k : Int} {e' : Ent} (hg : getK st 0 1 = some (.map (mapD es))) (hf : findE es k = none) (hk : e'.1 = k) : (putK X.P st 66 (.mp 0 1) (dInt k) (entD e').2).map (fun e => ({ d := .un, set := some e } : Out)) = some { d := .un, set := some (0, mkOb 1 (.map (mapD (es ++ [e'])))) } := by
  have hm := mapT_int (P := X.P) (t := 66) (et := 32) (k := k) (by kernel_rfl)
  simp only [putK, hm, hg, findK_ent]
  have hp := pos_find k es
  rw [hf] at hp
  have hj : posE es k = none := by
    cases h : posE es k with
    | none => rfl
    | some j => rw [h] at hp; cases hp
  rw [hj]
  simp only [Option.map_some]
  have h1 : (DV.c (.sc (.int .i64 k)), (entD e').2) = entD e' := by subst hk; rfl
  rw [h1]
  simp [mapD]
theorem info3 : ∃ i, X.P.info? 3 = some i ∧ i.size = 1 ∧ i.bytes = 8 ∧ zeroFits i = true := by
  have h : (X.P.info? 3).map (fun i => (i.size, i.bytes, zeroFits i)) = some (1, 8, true) := by kernel_rfl
  obtain ⟨i, h1, h2⟩ := Option.map_eq_some_iff.1 h
  simp only [Prod.mk.injEq] at h2
  exact ⟨i, h1, h2.1, h2.2.1, h2.2.2⟩
theorem under32 : X.P.underlying 32 = some (.slice 3) := by kernel_rfl
/-- append to what lies in an object. -/
theorem appO_old {st : List Ob} {id0 id v : Nat} {l : List Int} {b : Int} {x1 : Bool} (h : st[id]? = some ⟨v, dcells l⟩) (hl : l.length ≤ 100000) : appendO X.P st id0 32 32 (.ms id v 0 l.length 1 false) (.c (.sl false x1 [cInt b] 1)) = some { d := .ms id (v + 1) 0 (l.length + 1) 1 false, set := some (id, ⟨v + 1, dcells l ++ [dInt b]⟩) } := by
  obtain ⟨i, h1, h2, h3, h4⟩ := info3
  have hg : getO st id v = some ⟨v, dcells l⟩ := getO_of h rfl
  have hroom : roomy (l.length + 1) 8 = true := roomy_ok (by decide) (by unfold Room; omega)
  have hspan : span (dcells l) 0 (l.length * 1) = some (dcells l) := by
    have : (dcells l).length = l.length := by rw [dcells_map]; simp
    unfold span
    simp [this]
    rw [← this]; simp
  unfold appendO
  rw [under32]
  simp only [h1, h4, Bool.not_true, Bool.false_eq_true, if_false, elemsD, h2, h3]
  rw [Nat.mul_one] at hspan
  simp [hg, hroom, hspan]
  rfl
/-- append to nil. -/
theorem appO_new {st : List Ob} {id0 : Nat} {b : Int} {x1 : Bool} (h : st[id0]? = some ⟨0, []⟩) : appendO X.P st id0 32 32 (.c (.sl true true [] 0)) (.c (.sl false x1 [cInt b] 1)) = some { d := .ms id0 1 0 1 1 false, set := some (id0, ⟨1, [dInt b]⟩) } := by
  obtain ⟨i, h1, h2, h3, h4⟩ := info3
  have hroom : roomy 1 8 = true := by decide
  unfold appendO
  rw [under32]
  simp only [h1, h4, Bool.not_true, Bool.false_eq_true, if_false, elemsD, h2, h3]
  simp [hroom, lay, h]
  rfl
/-- One round of the loop. -/
def F16 (l : Sl GNest) (i : Int) : Nat → DV := fl [(0, .c (eSl l)), (3, .pt 1 1 0), (9, .c (eSl l)), (10, dInt (l.l.length : Int)), (11, dInt i)]
theorem round16 (l : Sl GNest) {i : Int} {x : GNest} {es : List Ent} {TO : List Ob} {B v : Nat} {cs : List DV} (g : Good es TO B) (hB : B ≤ 100000) (hl : l.l.length ≤ 100000) (h0 : 0 ≤ i) (hx : l.l[i.toNat]? = some x) :
    X.Go 16 32 [] (sub b16 [1, 1, 0, 1, 0, 0]) ⟨F16 l i, ⟨stA es ⟨v, cs⟩ TO, []⟩⟩ .normal ⟨F16 l (i + 1), ⟨stA (addE x es TO) ⟨v + 1, (EncX.encX x).map DV.c⟩ (addT x es TO), []⟩⟩ := by
  have hlt : i.toNat < l.l.length := (List.getElem?_eq_some_iff.1 hx).1
  have h1 : i < (l.l.length : Int) := by omega
  have hix : 0 ≤ i ∧ i < (l.l.length : Int) := ⟨h0, h1⟩
  have hsp := span_at (l := l.l) 0 2 (by decide) hx
  have hinr : InR (i + 1) := by unfold InR; omega
  have ho : (v + 1 = v + 1) ∧ ((EncX.encX x).map DV.c)[0]? = some (.c (cInt x.outer)) := ⟨rfl, rfl⟩
  have hi : (v + 1 = v + 1) ∧ ((EncX.encX x).map DV.c)[1]? = some (.c (cInt x.inner)) := ⟨rfl, rfl⟩
  have hst : (v + 1 = v + 1) ∧ 0 + 2 ≤ ([dInt 0, dInt 0] : List DV).length ∧ setL [dInt 0, dInt 0] 0 ((EncX.encX x).map DV.c) = (EncX.encX x).map DV.c := ⟨rfl, by decide, rfl⟩
  have hlk := lookE_ok (st := stA es ⟨v + 1, (EncX.encX x).map DV.c⟩ (TO ++ [(⟨0, []⟩ : Ob)])) (es := es) (k := x.outer) rfl
  unfold addE addT
  cases hf : findE es x.outer with
  | some e =>
    rw [hf] at hlk
    obtain ⟨hem, hek⟩ := find_in hf
    have hlt2 := g.lt hem
    have hlen : e.2.2.2.length ≤ 100000 := by have := g.len x.outer; unfold nxE at this; rw [hf] at this; simp only at this; omega
    have happ := appO_old (st := stA es ⟨v + 1, (EncX.encX x).map DV.c⟩ (TO ++ [(⟨0, []⟩ : Ob)])) (id0 := TO.length + 6) (id := e.2.1 + 6) (v := e.2.2.1) (l := e.2.2.2) (b := x.inner) (x1 := true) (by
      show (TO ++ [(⟨0, []⟩ : Ob)])[e.2.1]? = _
      rw [List.getElem?_append_left hlt2]; exact g.tail e hem) hlen
    have hput := putE_old (st := stA es ⟨v + 1, (EncX.encX x).map DV.c⟩ ((TO ++ [(⟨0, []⟩ : Ob)]).set e.2.1 (⟨e.2.2.1 + 1, dcells e.2.2.2 ++ [dInt x.inner]⟩ : Ob))) (es := es) (k := x.outer) (e := e) (e' := (e.1, e.2.1, e.2.2.1 + 1, e.2.2.2 ++ [x.inner])) rfl hf hek
    have hlen2 : (e.2.2.2 ++ [x.inner]).length = e.2.2.2.length + 1 := by simp
    simp only [entD, hlen2] at hput
    exact Sys.goE (Sys.endJ [((3, 0), .b true), ((4, 0), .ix), ((4, 1), .agg (EncX.encX x)), ((4, 3), .st ((EncX.encX x).map DV.c)), ((5, 2), .cell (cInt x.outer)), ((5, 5), .cell (cInt x.outer)), ((5, 6), .op { d := .ms (e.2.1 + 6) e.2.2.1 0 e.2.2.2.length 1 false }), ((5, 8), .cell (cInt x.inner)), ((5, 10), .op { d := .ms (e.2.1 + 6) (e.2.2.1 + 1) 0 (e.2.2.2.length + 1) 1 false, set := some (e.2.1 + 6, ⟨e.2.2.1 + 1, dcells e.2.2.2 ++ [dInt x.inner]⟩) }), ((5, 11), .op { d := .un, set := some (0, mkOb 1 (.map (mapD (setE es x.outer (e.1, e.2.1, e.2.2.1 + 1, e.2.2.2 ++ [x.inner]))))) }), ((6, 0), .n)]
      (And.intro h1 (And.intro hix (And.intro hsp (And.intro hst (And.intro ho (And.intro ho (And.intro hlk (And.intro hi (And.intro happ (And.intro hput hinr)))))))))) (by kernel_rfl))
  | none =>
    rw [hf] at hlk
    have happ := appO_new (st := stA es ⟨v + 1, (EncX.encX x).map DV.c⟩ (TO ++ [(⟨0, []⟩ : Ob)])) (id0 := TO.length + 6) (b := x.inner) (x1 := true) (by
      show (TO ++ [(⟨0, []⟩ : Ob)])[TO.length]? = _
      simp)
    have hput := putE_new (st := stA es ⟨v + 1, (EncX.encX x).map DV.c⟩ ((TO ++ [(⟨0, []⟩ : Ob)]).set TO.length (⟨1, [dInt x.inner]⟩ : Ob))) (es := es) (k := x.outer) (e' := (x.outer, TO.length, 1, [x.inner])) rfl hf rfl
    exact Sys.goE (Sys.endJ [((3, 0), .b true), ((4, 0), .ix), ((4, 1), .agg (EncX.encX x)), ((4, 3), .st ((EncX.encX x).map DV.c)), ((5, 2), .cell (cInt x.outer)), ((5, 5), .cell (cInt x.outer)), ((5, 6), .op { d := .c (.sl true true [] 0) }), ((5, 8), .cell (cInt x.inner)), ((5, 10), .op { d := .ms (TO.length + 6) 1 0 1 1 false, set := some (TO.length + 6, ⟨1, [dInt x.inner]⟩) }), ((5, 11), .op { d := .un, set := some (0, mkOb 1 (.map (mapD (es ++ [(x.outer, TO.length, 1, [x.inner])])))) }), ((6, 0), .n)]
      (And.intro h1 (And.intro hix (And.intro hsp (And.intro hst (And.intro ho (And.intro ho (And.intro hlk (And.intro hi (And.intro happ (And.intro hput hinr)))))))))) (by kernel_rfl))
def nxL (l : List GNest) (k : Int) : List Int := (l.filter fun x => decide (x.outer = k)).map GNest.inner
theorem loop16 (l : Sl GNest) (hl : l.l.length ≤ 1000) {M : Nat} : ∀ (rest : List GNest) (j : Nat) (i : Int) (v : Nat) (cs : List DV) (es : List Ent) (TO : List Ob), i = (j : Int) → l.l.drop j = rest → j ≤ l.l.length → Good es TO j →
    ∀ s : S, s = ⟨F16 l i, ⟨stA es ⟨v, cs⟩ TO, []⟩⟩ → ∃ (es' : List Ent) (TO' : List Ob) (v' : Nat) (cs' : List DV) (r : Int), Good es' TO' l.l.length ∧ (∀ k, nxE es' k = nxE es k ++ nxL rest k) ∧
      X.Loop 16 32 [] (sub b16 [1, 1, 0, 1, 0, 0]) M s (.exit 0) ⟨fl [(0, .c (eSl l)), (3, .pt 1 1 0), (9, .c (eSl l)), (10, dInt (l.l.length : Int)), (11, dInt r), (12, dB false)], ⟨stA es' ⟨v', cs'⟩ TO', []⟩⟩
  | [], j, i, v, cs, es, TO, hi, hd, hj, g, s, hs => by
    have hjl : l.l.length ≤ j := by
      have := congrArg List.length hd
      simp at this; omega
    have hje : j = l.l.length := by omega
    subst hje
    refine ⟨es, TO, v, cs, i, g, fun k => by simp [nxL], ?_⟩
    subst hs
    refine Sys.loopQ (s0 := ⟨F16 l i, ⟨stA es ⟨v, cs⟩ TO, []⟩⟩) (by kernel_rfl) ?_
    have h1 : ¬ i < (l.l.length : Int) := by omega
    exact Sys.endX [((3, 0), .b false)] h1 rfl (by kernel_rfl)
  | x :: rest, j, i, v, cs, es, TO, hi, hd, hj, g, s, hs => by
    have hjl : j < l.l.length := by
      refine Classical.byContradiction fun hn => ?_
      rw [List.drop_eq_nil_of_le (by omega)] at hd
      cases hd
    have hd' := List.drop_eq_getElem_cons hjl
    rw [hd] at hd'
    obtain ⟨hx, hr⟩ := List.cons.inj hd'
    have hget : l.l[i.toNat]? = some x := by rw [show i.toNat = j by omega, List.getElem?_eq_getElem hjl, hx]
    have hgo := round16 l (v := v) (cs := cs) g (by omega) (by omega) (by omega) hget
    obtain ⟨es', TO', v', cs', r, g1, g2, g3⟩ := loop16 l hl (M := M) rest (j + 1) (i + 1) (v + 1) ((EncX.encX x).map DV.c) (addE x es TO) (addT x es TO) (by omega) hr.symm (by omega) (g.add x) _ rfl
    refine ⟨es', TO', v', cs', r, g1, fun k => ?_, ?_⟩
    · rw [g2, nxE_add, nxL, nxL]
      by_cases hk : k = x.outer
      · rw [if_pos hk, List.filter_cons_of_pos (by simp [hk])]; simp
      · rw [if_neg hk, List.filter_cons_of_neg (by simp; exact fun q => hk q.symm)]
    · subst hs
      exact Sys.Loop.step (s0 := ⟨F16 l i, ⟨stA es ⟨v, cs⟩ TO, []⟩⟩) (by kernel_rfl) hgo (s2 := ⟨F16 l (i + 1), ⟨stA (addE x es TO) ⟨v + 1, (EncX.encX x).map DV.c⟩ (addT x es TO), []⟩⟩) rfl g3
/-- held.Round, plain. -/
def held_Round (n : Nat) (l : Sl GNest) : Option Bool := if l.l.length ≤ 1000 then (anyF (walkF (nxL l.l) n) (l.l.map GNest.outer) []).map Prod.fst else none
theorem nxL_len (l : List GNest) (k : Int) : (nxL l k).length ≤ l.length := by
  unfold nxL
  rw [List.length_map]
  exact List.length_filter_le _ _
theorem held_Round_ok {n : Nat} {l : Sl GNest} {r : Bool} (h : held_Round n l = some r) : X.RunsC 16 [.c (eSl l)] (dB r) := by
  unfold held_Round at h
  split at h
  case isFalse => cases h
  rename_i hl
  obtain ⟨⟨b, σ'⟩, h1, rfl⟩ := Option.map_eq_some_iff.1 h
  obtain ⟨es, TO, v, cs, q, g, hnx, hL⟩ := loop16 l hl (M := (stA [] ⟨0, []⟩ []).length) l.l 0 0 0 [] [] [] rfl rfl (by omega) ⟨fun e he => (by cases he), by simp, fun k => by simp [nxE, findE]⟩ _ rfl
  have hnx' : nxE es = nxL l.l := funext fun k => by rw [hnx]; simp [nxE, findE]
  rw [← hnx'] at h1
  have hlen : ∀ k, (nxE es k).length ≤ 100000 := fun k => by have := g.len k; omega
  obtain ⟨c2', hrun⟩ := contains29 (es := es) (TO := TO) (nx := nxE es) (w := walkF (nxE es) n) (fun c2 => walk_ok g.tail hlen n) l (by omega) (v := v) (cs := cs) h1
  refine Sys.callC' (fn := Try.f16) (b := b16) (by kernel_rfl) (by kernel_rfl) ?_
  have hL2 := Sys.Loop.goM hL rfl
  exact Sys.endC [((3, 1000), .code (.exit 0) ⟨fl [(0, .c (eSl l)), (3, .pt 1 1 0), (9, .c (eSl l)), (10, dInt (l.l.length : Int)), (11, dInt q), (12, dB false)], ⟨stA es ⟨v, cs⟩ TO, []⟩⟩), ((10, 2), .call (dB b) ⟨stB es c2' σ' TO, []⟩)] (And.intro hL2 hrun) (by kernel_rfl)
end Go.Proofs.Ytkfmoodaplelnaa
