/-
  held.Round: the search, by hand.
-/
import Derived.Test.YtkfmoodaplelnaaAbs43
import Derived.Test.YtkfmoodaplelnaaAn
set_option maxRecDepth 100000
set_option maxHeartbeats 4000000
set_option linter.unusedVariables false
set_option linter.unusedSimpArgs false
set_option linter.unusedSectionVars false
namespace Go.Proofs.Ytkfmoodaplelnaa
open Go Go.Abs Go.Proofs
/-! ### the search, as Lean functions -/
abbrev St2 := List (Int × Int)
def anyF (w : Int → St2 → Option (Bool × St2)) : List Int → St2 → Option (Bool × St2)
  | [], σ => some (false, σ)
  | x :: r, σ => (w x σ).bind fun y => bif y.1 then some (true, y.2) else anyF w r y.2
def walkF (nx : Int → List Int) : Nat → Int → St2 → Option (Bool × St2)
  | 0, _, _ => none
  | k + 1, m, σ => if lookM 0 σ m ≠ 0 then some (decide (lookM 0 σ m = 1), σ) else
    (anyF (walkF nx k) (nx m) (putM σ m 1)).bind fun y => bif y.1 then some (true, y.2) else some (false, putM y.2 m 2)
/-! ### lists in the map -/
abbrev Ent := Int × Nat × Nat × List Int
def entD (e : Ent) : DV × DV := (dInt e.1, .ms (e.2.1 + 6) e.2.2.1 0 e.2.2.2.length 1 false)
def mapD (es : List Ent) : List (DV × DV) := es.map entD
def findE : List Ent → Int → Option Ent
  | [], _ => none
  | e :: es, k => if e.1 = k then some e else findE es k
def posE : List Ent → Int → Option Nat
  | [], _ => none
  | e :: es, k => if e.1 = k then some 0 else (posE es k).map (· + 1)
def nxE (es : List Ent) (k : Int) : List Int := match findE es k with
  | some e => e.2.2.2
  | none => []
def valE : Option Ent → DV
  | some e => (entD e).2
  | none => .c (.sl true true [] 0)
def TailOk (es : List Ent) (TO : List Ob) : Prop := ∀ e ∈ es, TO[e.2.1]? = some ⟨e.2.2.1, dcells e.2.2.2⟩
theorem findK_ent (k : Int) : ∀ (es : List Ent) (i : Nat), findK (.int .i64) (.int .i64 k) (mapD es) i = some (match posE es k, findE es k with | some j, some e => some (i + j, (entD e).2) | _, _ => none)
  | [], i => rfl
  | e :: es, i => by
    show findK (.int .i64) (.int .i64 k) ((.c (.sc (.int .i64 e.1)), (entD e).2) :: mapD es) i = _
    simp only [findK, sameK, if_true]
    by_cases h : e.1 = k
    · subst h
      simp [posE, findE]
    · have h2 : (k == e.1) = false := by simp only [beq_eq_false_iff_ne]; exact fun hh => h hh.symm
      rw [h2]
      simp only [findK_ent k es (i + 1), posE, findE, if_neg h]
      cases h3 : posE es k with
      | none => rfl
      | some j =>
        cases h4 : findE es k with
        | none => rfl
        | some v => simp only [Option.map_some]; congr 3; omega
theorem pos_find (k : Int) : ∀ es : List Ent, (posE es k).isSome = (findE es k).isSome
  | [] => rfl
  | e :: es => by
    simp only [posE, findE]
    by_cases h : e.1 = k
    · simp [h]
    · simp only [if_neg h, Option.isSome_map]; exact pos_find k es
theorem find_in {k : Int} {e : Ent} : ∀ {es : List Ent}, findE es k = some e → e ∈ es ∧ e.1 = k
  | [], h => by cases h
  | a :: es, h => by
    unfold findE at h
    split at h
    · rename_i hh; cases h; exact ⟨List.mem_cons_self .., hh⟩
    · obtain ⟨h1, h2⟩ := find_in h; exact ⟨List.mem_cons_of_mem _ h1, h2⟩
variable [Kn]
theorem lookE_ok {st : List Ob} {es : List Ent} {k : Int} (hg : getK st 0 1 = some (.map (mapD es))) : val (lookD X.P st 66 (.mp 0 1) (dInt k) false) = some { d := valE (findE es k) } := by
  have hz : zeroV X.P 32 = some (.c (.sl true true [] 0)) := by kernel_rfl
  have hm := mapT_int (P := X.P) (t := 66) (et := 32) (k := k) (by kernel_rfl)
  simp only [lookD, hm, hg, findK_ent]
  have hp := pos_find k es
  cases h3 : posE es k <;> cases h4 : findE es k <;> rw [h3, h4] at hp <;> simp_all [val, valE]
/-! ### the store -/
def capsW : List DV := [.pt 4 1 0, .pt 1 1 0, .pt 5 1 0]
def fnW : DV := .fn 27 [] [.pt 4 1 0, .pt 1 1 0, .pt 5 1 0]
def stB (es : List Ent) (c2 : Ob) (σ : St2) (TO : List Ob) : List Ob := mkOb 1 (.map (mapD es)) :: ⟨1, [.mp 0 1]⟩ :: c2 :: mkOb 1 (.map (encM σ)) :: ⟨1, [.mp 3 1]⟩ :: ⟨1, [.fn 27 [] [.pt 4 1 0, .pt 1 1 0, .pt 5 1 0]]⟩ :: TO
theorem Sys.callM' {X : Go.Abs.Sys} {f : FuncId} {fn : Func} {b : Code} {args : List DV} {d : DV} {m0 m : M} (hf : X.P.funcs[f]? = some fn) (hb : fn.body = some b) (h : X.GoAt f fn.ntmps b (.at []) ⟨argFr args, m0⟩ (FinK X fn d m)) : X.Runs [] f args m0 d m := by
  obtain ⟨ex, s', hg, h1, h2, h3⟩ := Sys.goQ h
  exact Sys.call hg hf hb h1 h2 h3
section
variable {es : List Ent} {TO : List Ob} {c2 : Ob}
/-- A value that stands for a list. -/
def IsL (TO : List Ob) (A : DV) (l : List Int) : Prop := (∃ n v, A = .ms (n + 6) v 0 l.length 1 false ∧ TO[n]? = some ⟨v, dcells l⟩) ∨ (A = .c (.sl true true [] 0) ∧ l = [])
theorem isL_of (ht : TailOk es TO) (k : Int) : IsL TO (valE (findE es k)) (nxE es k) := by
  unfold nxE
  cases h : findE es k with
  | none => exact .inr ⟨rfl, rfl⟩
  | some e => exact .inl ⟨e.2.1, e.2.2.1, rfl, ht e (find_in h).1⟩
theorem loadI_ok {st : List Ob} {id ver off : Nat} {o : Ob} {n : Int} (h : st[id]? = some o) (hv : o.ver = ver) (hc : o.cs[off]? = some (dInt n)) : val (loadD X.P st 3 (.pt id ver off)) = some { d := dInt n } := by
  have ht : isAggT X.P 3 = some false := by kernel_rfl
  refine load_get (o := o) (getO_of h hv) ?_
  simp only [part1, ht, hc, Option.map_some]; rfl
theorem dcells_map : ∀ l : List Int, dcells l = l.map dInt
  | [] => rfl
  | a :: l => by
    show dInt a :: dcells l = dInt a :: l.map dInt
    rw [dcells_map l]
theorem dcells_int {l : List Int} {i : Nat} {x : Int} (h : l[i]? = some x) : (dcells l)[0 + i * 1 + 0]? = some (dInt x) := by
  rw [show 0 + i * 1 + 0 = i by omega, dcells_map, List.getElem?_map, h]; rfl
/-- Is it so of some? -/
def Step (nx : Int → List Int) (w : Int → St2 → Option (Bool × St2)) (es : List Ent) (TO : List Ob) (c2 : Ob) : Prop :=
  ∀ m σ b σ', w m σ = some (b, σ') → X.Runs [] 27 (dInt m :: capsW) ⟨stB es c2 σ TO, []⟩ (dB b) ⟨stB es c2 σ' TO, []⟩
def F37 (A : DV) (n : Nat) (i : Int) : Nat → DV := fl [(0, A), (1, .fn 27 [] [.pt 4 1 0, .pt 1 1 0, .pt 5 1 0]), (7, dInt (n : Int)), (8, dInt i)]
theorem loop37 {nx : Int → List Int} {w : Int → St2 → Option (Bool × St2)} (hw : Step nx w es TO c2) {nn v : Nat} {l : List Int} (hT : TO[nn]? = some ⟨v, dcells l⟩) (hl : l.length ≤ 100000) {M : Nat} : ∀ (rest : List Int) (j : Nat) (i : Int) (σ : St2) (b : Bool) (σ' : St2), i = (j : Int) → l.drop j = rest → j ≤ l.length → anyF w rest σ = some (b, σ') →
    ∀ s : S, restrS (X.an.rs 37 2) s = ⟨F37 (.ms (nn + 6) v 0 l.length 1 false) l.length i, ⟨stB es c2 σ TO, []⟩⟩ →
    (b = true ∧ ∃ r : Int, 0 ≤ r ∧ X.Loop 37 19 [] (sub b37 [1, 0, 1, 0, 0]) M s .ret ⟨fl [(4, dInt r)], ⟨stB es c2 σ' TO, []⟩⟩) ∨
    (b = false ∧ ∃ r : Int, X.Loop 37 19 [] (sub b37 [1, 0, 1, 0, 0]) M s (.exit 0) ⟨fl [(0, .ms (nn + 6) v 0 l.length 1 false), (1, .fn 27 [] [.pt 4 1 0, .pt 1 1 0, .pt 5 1 0]), (7, dInt (l.length : Int)), (8, dInt r), (9, dB false)], ⟨stB es c2 σ' TO, []⟩⟩)
  | [], j, i, σ, b, σ', hi, hd, hj, h, s, hs => by
    cases h
    have hjl : l.length ≤ j := by
      have := congrArg List.length hd
      simp at this; omega
    refine .inr ⟨rfl, i, ?_⟩
    refine Sys.loopQ hs ?_
    have h1 : ¬ i < (l.length : Int) := by omega
    exact Sys.endX [((2, 0), .b false)] h1 rfl (by kernel_rfl)
  | x :: rest, j, i, σ, b, σ', hi, hd, hj, h, s, hs => by
    have hjl : j < l.length := by
      refine Classical.byContradiction fun hn => ?_
      rw [List.drop_eq_nil_of_le (by omega)] at hd
      cases hd
    have hd' := List.drop_eq_getElem_cons hjl
    rw [hd] at hd'
    obtain ⟨hx, hr⟩ := List.cons.inj hd'
    have hget : l[j]? = some x := by rw [List.getElem?_eq_getElem hjl, hx]
    unfold anyF at h
    obtain ⟨⟨b1, σ1⟩, h2, h3⟩ := Option.bind_eq_some_iff.1 h
    have hrun := hw x σ b1 σ1 h2
    have hlt : i < (l.length : Int) := by omega
    have hix : 0 ≤ i ∧ i < (l.length : Int) := by omega
    have hld : val (loadD X.P (stB es c2 σ TO) 3 (.pt (nn + 6) v (0 + i.toNat * 1))) = some { d := dInt x } := by
      refine loadI_ok (o := ⟨v, dcells l⟩) hT rfl ?_
      have := dcells_int hget
      rw [show i.toNat = j by omega]; exact this
    cases b1 with
    | true =>
      simp only [cond_true] at h3
      cases h3
      refine .inl ⟨rfl, i, by omega, ?_⟩
      refine Sys.loopQ hs ?_
      exact Sys.endX [((2, 0), .b true), ((4, 3), .ix), ((4, 4), .op { d := dInt x }), ((4, 5), .call (dB true) ⟨stB es c2 σ' TO, []⟩)] (And.intro hlt (And.intro hix (And.intro hld hrun))) rfl (by kernel_rfl)
    | false =>
      simp only [cond_false] at h3
      have hinr : InR (i + 1) := by unfold InR; omega
      have ih := loop37 hw hT hl (M := M) rest (j + 1) (i + 1) σ1 b σ' (by omega) hr.symm (by omega) h3 ⟨F37 (.ms (nn + 6) v 0 l.length 1 false) l.length (i + 1), ⟨stB es c2 σ1 TO, []⟩⟩ (by kernel_rfl)
      have step : ∀ {EX : Ex} {ST : S}, X.Loop 37 19 [] (sub b37 [1, 0, 1, 0, 0]) M ⟨F37 (.ms (nn + 6) v 0 l.length 1 false) l.length (i + 1), ⟨stB es c2 σ1 TO, []⟩⟩ EX ST → X.Loop 37 19 [] (sub b37 [1, 0, 1, 0, 0]) M s EX ST := fun {EX ST} hL => by
        refine Sys.loopQ hs ?_
        refine Sys.to [((2, 0), .b true), ((4, 3), .ix), ((4, 4), .op { d := dInt x }), ((4, 5), .call (dB false) ⟨stB es c2 σ1 TO, []⟩), ((6, 0), .n)] 999999 (.fin .normal) ⟨F37 (.ms (nn + 6) v 0 l.length 1 false) l.length (i + 1), ⟨stB es c2 σ1 TO, []⟩⟩ (And.intro hlt (And.intro hix (And.intro hld (And.intro hrun hinr)))) (by kernel_rfl) ?_
        exact Sys.fin (.inl ⟨rfl, _, rfl, hL⟩)
      rcases ih with ⟨g1, r, g2, g3⟩ | ⟨g1, r, g3⟩
      · exact .inl ⟨g1, r, g2, step g3⟩
      · exact .inr ⟨g1, r, step g3⟩
theorem idx37 {nx : Int → List Int} {w : Int → St2 → Option (Bool × St2)} (hw : Step nx w es TO c2) {A : DV} {l : List Int} (hA : IsL TO A l) (hl : l.length ≤ 100000) {σ σ' : St2} {b : Bool} (h : anyF w l σ = some (b, σ')) :
    ∃ r : Int, (b = true ↔ 0 ≤ r) ∧ X.Runs [] 37 [A, .fn 27 [] [.pt 4 1 0, .pt 1 1 0, .pt 5 1 0]] ⟨stB es c2 σ TO, []⟩ (dInt r) ⟨stB es c2 σ' TO, []⟩ := by
  rcases hA with ⟨nn, v, rfl, hT⟩ | ⟨rfl, rfl⟩
  · have hlp := loop37 hw hT hl (M := (stB es c2 σ TO).length) l 0 0 σ b σ' rfl rfl (by omega) h ⟨F37 (.ms (nn + 6) v 0 l.length 1 false) l.length 0, ⟨stB es c2 σ TO, []⟩⟩ (by kernel_rfl)
    rcases hlp with ⟨rfl, r, hr, hL⟩ | ⟨rfl, r, hL⟩
    · refine ⟨r, ⟨fun _ => hr, fun _ => rfl⟩, Sys.callM' (fn := Try.f37) (b := b37) (by kernel_rfl) (by kernel_rfl) ?_⟩
      exact Sys.endK [((2, 1000), .code .ret ⟨fl [(4, dInt r)], ⟨stB es c2 σ' TO, []⟩⟩)] (Sys.Loop.goM hL rfl) (by kernel_rfl)
    · refine ⟨-1, ⟨fun hh => (by cases hh), fun hh => (by omega)⟩, Sys.callM' (fn := Try.f37) (b := b37) (by kernel_rfl) (by kernel_rfl) ?_⟩
      exact Sys.endK [((2, 1000), .code (.exit 0) ⟨fl [(0, .ms (nn + 6) v 0 l.length 1 false), (1, .fn 27 [] [.pt 4 1 0, .pt 1 1 0, .pt 5 1 0]), (7, dInt (l.length : Int)), (8, dInt r), (9, dB false)], ⟨stB es c2 σ' TO, []⟩⟩)] (Sys.Loop.goM hL rfl) (by kernel_rfl)
  · cases h
    refine ⟨-1, ⟨fun hh => (by cases hh), fun hh => (by omega)⟩, Sys.callM' (fn := Try.f37) (b := b37) (by kernel_rfl) (by kernel_rfl) ?_⟩
    have hL : X.Loop 37 19 [] (sub b37 [1, 0, 1, 0, 0]) (stB es c2 σ TO).length ⟨F37 (.c (.sl true true [] 0)) 0 0, ⟨stB es c2 σ TO, []⟩⟩ (.exit 0) ⟨fl [(0, .c (.sl true true [] 0)), (1, .fn 27 [] [.pt 4 1 0, .pt 1 1 0, .pt 5 1 0]), (7, dInt 0), (8, dInt 0), (9, dB false)], ⟨stB es c2 σ TO, []⟩⟩ :=
      Sys.loopQ (s0 := ⟨F37 (.c (.sl true true [] 0)) 0 0, ⟨stB es c2 σ TO, []⟩⟩) (by kernel_rfl) (Sys.endX [] True.intro rfl (by kernel_rfl))
    exact Sys.endK [((2, 1000), .code (.exit 0) ⟨fl [(0, .c (.sl true true [] 0)), (1, .fn 27 [] [.pt 4 1 0, .pt 1 1 0, .pt 5 1 0]), (7, dInt 0), (8, dInt 0), (9, dB false)], ⟨stB es c2 σ TO, []⟩⟩)] (Sys.Loop.goM hL rfl) (by kernel_rfl)
theorem contains28 {nx : Int → List Int} {w : Int → St2 → Option (Bool × St2)} (hw : Step nx w es TO c2) {A : DV} {l : List Int} (hA : IsL TO A l) (hl : l.length ≤ 100000) {σ σ' : St2} {b : Bool} (h : anyF w l σ = some (b, σ')) :
    X.Runs [] 28 [A, .fn 27 [] [.pt 4 1 0, .pt 1 1 0, .pt 5 1 0]] ⟨stB es c2 σ TO, []⟩ (dB b) ⟨stB es c2 σ' TO, []⟩ := by
  obtain ⟨r, hr, hrun⟩ := idx37 hw hA hl h
  refine Sys.callM' (fn := Try.f28) (b := b28) (by kernel_rfl) (by kernel_rfl) ?_
  cases b with
  | true =>
    have h1 : r ≥ 0 := hr.1 rfl
    rcases hA with ⟨nn, v, rfl, hT⟩ | ⟨rfl, rfl⟩
    · exact Sys.endK [((1, 2), .call (dInt r) ⟨stB es c2 σ' TO, []⟩), ((1, 3), .b true)] (And.intro hrun h1) (by kernel_rfl)
    · exact Sys.endK [((1, 2), .call (dInt r) ⟨stB es c2 σ' TO, []⟩), ((1, 3), .b true)] (And.intro hrun h1) (by kernel_rfl)
  | false =>
    have h1 : ¬ r ≥ 0 := fun hh => by have := hr.2 hh; cases this
    rcases hA with ⟨nn, v, rfl, hT⟩ | ⟨rfl, rfl⟩
    · exact Sys.endK [((1, 2), .call (dInt r) ⟨stB es c2 σ' TO, []⟩), ((1, 3), .b false)] (And.intro hrun h1) (by kernel_rfl)
    · exact Sys.endK [((1, 2), .call (dInt r) ⟨stB es c2 σ' TO, []⟩), ((1, 3), .b false)] (And.intro hrun h1) (by kernel_rfl)
theorem lookS_ok {σ : St2} {m : Int} : val (lookD X.P (stB es c2 σ TO) 67 (.mp 3 1) (dInt m) false) = some { d := dInt (lookM (0 : Int) σ m) } :=
  lookM_ok (P := X.P) (t := 67) (et := 3) (l := σ) (k := m) (z := (0 : Int)) (by kernel_rfl) (by kernel_rfl) rfl
theorem putS_ok {σ : St2} {m v : Int} : (putK X.P (stB es c2 σ TO) 67 (.mp 3 1) (dInt m) (dInt v)).map (fun e => ({ d := .un, set := some e } : Out)) = some { d := .un, set := some (3, mkOb 1 (.map (encM (putM σ m v)))) } :=
  putM_ok (P := X.P) (t := 67) (et := 3) (l := σ) (k := m) (v := v) (by kernel_rfl) rfl
theorem walk_ok (ht : TailOk es TO) (hlen : ∀ k, (nxE es k).length ≤ 100000) : ∀ k : Nat, Step (nxE es) (walkF (nxE es) k) es TO c2
  | 0 => fun m σ b σ' h => by cases h
  | k + 1 => fun m σ b σ' h => by
    have ih := walk_ok ht hlen k
    unfold walkF at h
    refine Sys.callM' (fn := Try.f27) (b := b27) (by kernel_rfl) (by kernel_rfl) ?_
    have hS := lookS_ok (es := es) (TO := TO) (c2 := c2) (σ := σ) (m := m)
    by_cases h0 : lookM 0 σ m ≠ 0
    · rw [if_pos h0] at h
      cases h
      by_cases h1 : lookM 0 σ m = 1
      · rw [decide_eq_true h1]
        exact Sys.endK [((1, 2), .op { d := dInt (lookM (0 : Int) σ m) }), ((1, 3), .b true), ((2, 2), .op { d := dInt (lookM (0 : Int) σ m) }), ((2, 3), .b true)] (And.intro hS (And.intro h0 (And.intro hS h1))) (by kernel_rfl)
      · rw [decide_eq_false h1]
        exact Sys.endK [((1, 2), .op { d := dInt (lookM (0 : Int) σ m) }), ((1, 3), .b true), ((2, 2), .op { d := dInt (lookM (0 : Int) σ m) }), ((2, 3), .b false)] (And.intro hS (And.intro h0 (And.intro hS h1))) (by kernel_rfl)
    · rw [if_neg h0] at h
      obtain ⟨⟨b1, σ1⟩, h2, h3⟩ := Option.bind_eq_some_iff.1 h
      have hrun := contains28 (c2 := c2) ih (isL_of ht m) (hlen m) h2
      have hP1 := putS_ok (es := es) (TO := TO) (c2 := c2) (σ := σ) (m := m) (v := 1)
      have hP2 := putS_ok (es := es) (TO := TO) (c2 := c2) (σ := σ1) (m := m) (v := 2)
      have hnx := lookE_ok (st := stB es c2 (putM σ m 1) TO) (es := es) (k := m) rfl
      have hf : (∃ nn v len, valE (findE es m) = .ms (nn + 6) v 0 len 1 false) ∨ valE (findE es m) = .c (.sl true true [] 0) := by
        cases findE es m with
        | none => exact .inr rfl
        | some e => exact .inl ⟨_, _, _, rfl⟩
      cases b1 with
      | true =>
        simp only [cond_true] at h3
        cases h3
        rcases hf with ⟨nn, v, len, hf⟩ | hf <;> rw [hf] at hnx hrun
        · exact Sys.endK [((1, 2), .op { d := dInt (lookM (0 : Int) σ m) }), ((1, 3), .b false), ((3, 2), .op { d := .un, set := some (3, mkOb 1 (.map (encM (putM σ m 1)))) }), ((4, 2), .op { d := .ms (nn + 6) v 0 len 1 false }), ((4, 4), .call (dB true) ⟨stB es c2 σ' TO, []⟩)] (And.intro hS (And.intro h0 (And.intro hP1 (And.intro hnx hrun)))) (by kernel_rfl)
        · exact Sys.endK [((1, 2), .op { d := dInt (lookM (0 : Int) σ m) }), ((1, 3), .b false), ((3, 2), .op { d := .un, set := some (3, mkOb 1 (.map (encM (putM σ m 1)))) }), ((4, 2), .op { d := .c (.sl true true [] 0) }), ((4, 4), .call (dB true) ⟨stB es c2 σ' TO, []⟩)] (And.intro hS (And.intro h0 (And.intro hP1 (And.intro hnx hrun)))) (by kernel_rfl)
      | false =>
        simp only [cond_false] at h3
        cases h3
        rcases hf with ⟨nn, v, len, hf⟩ | hf <;> rw [hf] at hnx hrun
        · exact Sys.endK [((1, 2), .op { d := dInt (lookM (0 : Int) σ m) }), ((1, 3), .b false), ((3, 2), .op { d := .un, set := some (3, mkOb 1 (.map (encM (putM σ m 1)))) }), ((4, 2), .op { d := .ms (nn + 6) v 0 len 1 false }), ((4, 4), .call (dB false) ⟨stB es c2 σ1 TO, []⟩), ((6, 2), .op { d := .un, set := some (3, mkOb 1 (.map (encM (putM σ1 m 2)))) })] (And.intro hS (And.intro h0 (And.intro hP1 (And.intro hnx (And.intro hrun hP2))))) (by kernel_rfl)
        · exact Sys.endK [((1, 2), .op { d := dInt (lookM (0 : Int) σ m) }), ((1, 3), .b false), ((3, 2), .op { d := .un, set := some (3, mkOb 1 (.map (encM (putM σ m 1)))) }), ((4, 2), .op { d := .c (.sl true true [] 0) }), ((4, 4), .call (dB false) ⟨stB es c2 σ1 TO, []⟩), ((6, 2), .op { d := .un, set := some (3, mkOb 1 (.map (encM (putM σ1 m 2)))) })] (And.intro hS (And.intro h0 (And.intro hP1 (And.intro hnx (And.intro hrun hP2))))) (by kernel_rfl)
omit [Kn] in
theorem encN (a : GNest) : EncX.encX a = [cInt a.outer, cInt a.inner] := rfl
theorem f30_ok {nx : Int → List Int} {w : Int → St2 → Option (Bool × St2)} (hw : ∀ c2, Step nx w es TO c2) {v : Nat} {cs : List DV} (a : GNest) {σ σ' : St2} {b : Bool} (h : w a.outer σ = some (b, σ')) :
    X.Runs [] 30 [.c (.agg (EncX.encX a)), .pt 5 1 0] ⟨stB es ⟨v, cs⟩ σ TO, []⟩ (dB b) ⟨stB es ⟨v + 1, (EncX.encX a).map DV.c⟩ σ' TO, []⟩ := by
  have hrun := hw ⟨v + 1, (EncX.encX a).map DV.c⟩ a.outer σ b σ' h
  refine Sys.callM' (fn := Try.f30) (b := b30) (by kernel_rfl) (by kernel_rfl) ?_
  exact Sys.endK [((1, 2), .cell (cInt a.outer)), ((1, 3), .call (dB b) ⟨stB es ⟨v + 1, (EncX.encX a).map DV.c⟩ σ' TO, []⟩)] (And.intro (And.intro (rfl : v + 1 = v + 1) (rfl : ((EncX.encX a).map DV.c)[0]? = some (.c (cInt a.outer)))) hrun) (by kernel_rfl)
def F38 (l : Sl GNest) (i : Int) : Nat → DV := fl [(0, .c (eSl l)), (1, .fn 30 [] [.pt 5 1 0]), (7, dInt (l.l.length : Int)), (8, dInt i)]
theorem loop38 {nx : Int → List Int} {w : Int → St2 → Option (Bool × St2)} (hw : ∀ c2, Step nx w es TO c2) (l : Sl GNest) (hl : l.l.length ≤ 100000) {M : Nat} : ∀ (rest : List GNest) (j : Nat) (i : Int) (v : Nat) (cs : List DV) (σ : St2) (b : Bool) (σ' : St2), i = (j : Int) → l.l.drop j = rest → j ≤ l.l.length → anyF w (rest.map GNest.outer) σ = some (b, σ') →
    ∀ s : S, restrS (X.an.rs 38 2) s = ⟨F38 l i, ⟨stB es ⟨v, cs⟩ σ TO, []⟩⟩ → ∃ c2',
    (b = true ∧ ∃ r : Int, 0 ≤ r ∧ X.Loop 38 19 [] (sub b38 [1, 0, 1, 0, 0]) M s .ret ⟨fl [(4, dInt r)], ⟨stB es c2' σ' TO, []⟩⟩) ∨
    (b = false ∧ ∃ r : Int, X.Loop 38 19 [] (sub b38 [1, 0, 1, 0, 0]) M s (.exit 0) ⟨fl [(0, .c (eSl l)), (1, .fn 30 [] [.pt 5 1 0]), (7, dInt (l.l.length : Int)), (8, dInt r), (9, dB false)], ⟨stB es c2' σ' TO, []⟩⟩)
  | [], j, i, v, cs, σ, b, σ', hi, hd, hj, h, s, hs => by
    cases h
    have hjl : l.l.length ≤ j := by
      have := congrArg List.length hd
      simp at this; omega
    refine ⟨⟨v, cs⟩, .inr ⟨rfl, i, ?_⟩⟩
    refine Sys.loopQ hs ?_
    have h1 : ¬ i < (l.l.length : Int) := by omega
    exact Sys.endX [((2, 0), .b false)] h1 rfl (by kernel_rfl)
  | x :: rest, j, i, v, cs, σ, b, σ', hi, hd, hj, h, s, hs => by
    have hjl : j < l.l.length := by
      refine Classical.byContradiction fun hn => ?_
      rw [List.drop_eq_nil_of_le (by omega)] at hd
      cases hd
    have hd' := List.drop_eq_getElem_cons hjl
    rw [hd] at hd'
    obtain ⟨hx, hr⟩ := List.cons.inj hd'
    have hget : l.l[i.toNat]? = some x := by rw [show i.toNat = j by omega, List.getElem?_eq_getElem hjl, hx]
    rw [List.map_cons] at h
    unfold anyF at h
    obtain ⟨⟨b1, σ1⟩, h2, h3⟩ := Option.bind_eq_some_iff.1 h
    have hrun := f30_ok hw (v := v) (cs := cs) x h2
    have hlt : i < (l.l.length : Int) := by omega
    have hix : 0 ≤ i ∧ i < (l.l.length : Int) := by omega
    have hsp := span_at (l := l.l) 0 2 (by decide) hget
    cases b1 with
    | true =>
      simp only [cond_true] at h3
      cases h3
      refine ⟨⟨v + 1, (EncX.encX x).map DV.c⟩, .inl ⟨rfl, i, by omega, ?_⟩⟩
      refine Sys.loopQ hs ?_
      exact Sys.endX [((2, 0), .b true), ((4, 3), .ix), ((4, 4), .agg (EncX.encX x)), ((4, 5), .call (dB true) ⟨stB es ⟨v + 1, (EncX.encX x).map DV.c⟩ σ' TO, []⟩)] (And.intro hlt (And.intro hix (And.intro hsp hrun))) rfl (by kernel_rfl)
    | false =>
      simp only [cond_false] at h3
      have hinr : InR (i + 1) := by unfold InR; omega
      obtain ⟨c2', ih⟩ := loop38 hw l hl (M := M) rest (j + 1) (i + 1) (v + 1) ((EncX.encX x).map DV.c) σ1 b σ' (by omega) hr.symm (by omega) h3 ⟨F38 l (i + 1), ⟨stB es ⟨v + 1, (EncX.encX x).map DV.c⟩ σ1 TO, []⟩⟩ (by kernel_rfl)
      have step : ∀ {EX : Ex} {ST : S}, X.Loop 38 19 [] (sub b38 [1, 0, 1, 0, 0]) M ⟨F38 l (i + 1), ⟨stB es ⟨v + 1, (EncX.encX x).map DV.c⟩ σ1 TO, []⟩⟩ EX ST → X.Loop 38 19 [] (sub b38 [1, 0, 1, 0, 0]) M s EX ST := fun {EX ST} hL => by
        refine Sys.loopQ hs ?_
        refine Sys.to [((2, 0), .b true), ((4, 3), .ix), ((4, 4), .agg (EncX.encX x)), ((4, 5), .call (dB false) ⟨stB es ⟨v + 1, (EncX.encX x).map DV.c⟩ σ1 TO, []⟩), ((6, 0), .n)] 999999 (.fin .normal) ⟨F38 l (i + 1), ⟨stB es ⟨v + 1, (EncX.encX x).map DV.c⟩ σ1 TO, []⟩⟩ (And.intro hlt (And.intro hix (And.intro hsp (And.intro hrun hinr)))) (by kernel_rfl) ?_
        exact Sys.fin (.inl ⟨rfl, _, rfl, hL⟩)
      refine ⟨c2', ?_⟩
      rcases ih with ⟨g1, r, g2, g3⟩ | ⟨g1, r, g3⟩
      · exact .inl ⟨g1, r, g2, step g3⟩
      · exact .inr ⟨g1, r, step g3⟩
theorem idx38 {nx : Int → List Int} {w : Int → St2 → Option (Bool × St2)} (hw : ∀ c2, Step nx w es TO c2) (l : Sl GNest) (hl : l.l.length ≤ 100000) {v : Nat} {cs : List DV} {σ σ' : St2} {b : Bool} (h : anyF w (l.l.map GNest.outer) σ = some (b, σ')) :
    ∃ (r : Int) (c2' : Ob), (b = true ↔ 0 ≤ r) ∧ X.Runs [] 38 [.c (eSl l), .fn 30 [] [.pt 5 1 0]] ⟨stB es ⟨v, cs⟩ σ TO, []⟩ (dInt r) ⟨stB es c2' σ' TO, []⟩ := by
  obtain ⟨c2', hlp⟩ := loop38 hw l hl (M := (stB es ⟨v, cs⟩ σ TO).length) l.l 0 0 v cs σ b σ' rfl rfl (by omega) h ⟨F38 l 0, ⟨stB es ⟨v, cs⟩ σ TO, []⟩⟩ (by kernel_rfl)
  rcases hlp with ⟨rfl, r, hr, hL⟩ | ⟨rfl, r, hL⟩
  · refine ⟨r, c2', ⟨fun _ => hr, fun _ => rfl⟩, Sys.callM' (fn := Try.f38) (b := b38) (by kernel_rfl) (by kernel_rfl) ?_⟩
    exact Sys.endK [((2, 1000), .code .ret ⟨fl [(4, dInt r)], ⟨stB es c2' σ' TO, []⟩⟩)] (Sys.Loop.goM hL rfl) (by kernel_rfl)
  · refine ⟨-1, c2', ⟨fun hh => (by cases hh), fun hh => (by omega)⟩, Sys.callM' (fn := Try.f38) (b := b38) (by kernel_rfl) (by kernel_rfl) ?_⟩
    exact Sys.endK [((2, 1000), .code (.exit 0) ⟨fl [(0, .c (eSl l)), (1, .fn 30 [] [.pt 5 1 0]), (7, dInt (l.l.length : Int)), (8, dInt r), (9, dB false)], ⟨stB es c2' σ' TO, []⟩⟩)] (Sys.Loop.goM hL rfl) (by kernel_rfl)
theorem contains29 {nx : Int → List Int} {w : Int → St2 → Option (Bool × St2)} (hw : ∀ c2, Step nx w es TO c2) (l : Sl GNest) (hl : l.l.length ≤ 100000) {v : Nat} {cs : List DV} {σ σ' : St2} {b : Bool} (h : anyF w (l.l.map GNest.outer) σ = some (b, σ')) :
    ∃ c2', X.Runs [] 29 [.c (eSl l), .fn 30 [] [.pt 5 1 0]] ⟨stB es ⟨v, cs⟩ σ TO, []⟩ (dB b) ⟨stB es c2' σ' TO, []⟩ := by
  obtain ⟨r, c2', hr, hrun⟩ := idx38 hw l hl (v := v) (cs := cs) h
  refine ⟨c2', Sys.callM' (fn := Try.f29) (b := b29) (by kernel_rfl) (by kernel_rfl) ?_⟩
  cases b with
  | true =>
    have h1 : r ≥ 0 := hr.1 rfl
    exact Sys.endK [((1, 2), .call (dInt r) ⟨stB es c2' σ' TO, []⟩), ((1, 3), .b true)] (And.intro hrun h1) (by kernel_rfl)
  | false =>
    have h1 : ¬ r ≥ 0 := fun hh => by have := hr.2 hh; cases this
    exact Sys.endK [((1, 2), .call (dInt r) ⟨stB es c2' σ' TO, []⟩), ((1, 3), .b false)] (And.intro hrun h1) (by kernel_rfl)
end
end Go.Proofs.Ytkfmoodaplelnaa
