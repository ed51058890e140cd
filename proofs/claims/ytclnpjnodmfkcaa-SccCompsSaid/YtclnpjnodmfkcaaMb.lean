/-
  Part of the proof: printed by the session's own program out of the program's form, or typed; it states no claim by itself.
-/
import Derived.Test.YtclnpjnodmfkcaaWb
import Derived.Test.YtclnpjnodmfkcaaMa
set_option linter.unusedVariables false
set_option maxRecDepth 10000
namespace Go.Proofs.Ytclnpjnodmfkcaa
open Go Go.Abs Go.Proofs Go.Proofs.Scc

/-- A range over the arcs from a node. -/
theorem arcs_range {adj : Sl (Sl Int)} {fr : Int} {row : Sl Int} (hfr : Nod adj.l fr) (hrow : adj.l[fr.toNat]? = some row) (hl : row.l.length ≤ 1000000) (Γ : List (Nat × Ctx)) (j a va b vb : Nat) (I : Nat → M → Prop)
    (hbox : ∀ k m, I k m → getO m.st a va = some ⟨va, [.c (eSl adj)]⟩)
    (hround : ∀ k m y, I k m → row.l[k]? = some y → Nod adj.l y → ∃ m', X.Round Γ j [dInt y] m (dB true) m' ∧ I (k + 1) m')
    (hskip : ∀ k m y, I k m → row.l[k]? = some y → ¬ Nod adj.l y → I (k + 1) m)
    (m : M) (h0 : I 0 m) (hb : getO m.st b vb = some ⟨vb, [dInt fr]⟩) : ∃ m', X.Runs Γ 35 [.yl j, .pt a va 0, .pt b vb 0] m (.tup []) m' ∧ I row.l.length m' := by
  obtain ⟨ex, s', hg, _, i, m', rfl, rfl, hI⟩ := Sys.loop_go (X := X) (f := 35) (nt := 30) (Γ := Γ) (a := sub b35 [1, 0, 0]) (m := m.st.length)
    (fun σ : Nat × M => ⟨fl [(0, .yl j), (1, .pt a va 0), (9, .c (eSl row)), (10, dInt (row.l.length : Int)), (11, dInt σ.1)], σ.2⟩)
    (fun σ => σ.1 ≤ row.l.length ∧ I σ.1 σ.2) (fun σ => row.l.length - σ.1)
    (fun ex s' => ∃ (i : Int) (m' : M), ex = .exit 0 ∧ s' = ⟨fl [(0, .yl j), (1, .pt a va 0), (9, .c (eSl row)), (10, dInt (row.l.length : Int)), (11, dInt i), (12, dB false)], m'⟩ ∧ I row.l.length m')
    (by
      rintro ⟨k, m⟩ ⟨hk, hI⟩
      simp only at hk hI
      by_cases h1 : (k : Int) < (row.l.length : Int)
      · obtain ⟨y, hy⟩ := get_nat h1
        have hy' : row.l[k]? = some y := by simpa using hy
        by_cases hn : Nod adj.l y
        · obtain ⟨m', hr, hI'⟩ := hround k m y hI hy' hn
          exact .inl ⟨_, (k + 1, m'), seqB_1 Γ j a va b vb adj row m k (hbox k m hI) y m' h1 (by omega) hy hn.1 hn.2 hr (by omega), rfl, ⟨by simp only; omega, hI'⟩, by simp only; omega⟩
        · by_cases h0 : y ≥ 0
          · exact .inl ⟨_, (k + 1, m), seqB_3 Γ j a va b vb adj row m k (hbox k m hI) y h1 (by omega) hy h0 (fun h => hn ⟨h0, h⟩) (by omega), rfl, ⟨by simp only; omega, hskip k m y hI hy' hn⟩, by simp only; omega⟩
          · exact .inl ⟨_, (k + 1, m), seqB_4 Γ j a va b vb adj row m k (hbox k m hI) y h1 (by omega) hy h0 (by omega), rfl, ⟨by simp only; omega, hskip k m y hI hy' hn⟩, by simp only; omega⟩
      · have hk2 : k = row.l.length := by omega
        exact .inr ⟨_, _, seqB_5 Γ j a va b vb adj row m k (hbox k m hI) h1, by simp, k, m, rfl, rfl, hk2 ▸ hI⟩)
    (0, m) ⟨by simp, h0⟩ rfl
  exact ⟨m', seqM_1 Γ j a va b vb adj fr m (hbox 0 m h0) hb row m' i hfr hrow hg, hI⟩

/-- The store of Reach. -/
abbrev rst (adj : Sl (Sl Int)) (td : OS Int) (o2 : Ob) (seen : List Bool) (tl : List Ob) : List Ob :=
  ⟨1, [.c (eSl adj)]⟩ :: td.ob :: o2 :: ⟨1, dcells seen⟩ :: ⟨1, [.ms 3 1 0 adj.l.length 1 true]⟩ :: ⟨1, [td.dv 1]⟩ :: ⟨1, [.fn 22 [] [.pt 0 1 0, .pt 4 1 0, .pt 5 1 0]]⟩ :: tl

theorem note_runs (Γ : List (Nat × Ctx)) (pd : List Ex) (adj : Sl (Sl Int)) (n : Int) (seen : List Bool) (td : OS Int) (o2 : Ob) (tl : List Ob) (S : Int → Prop) (pre : List Int) (hs : adj.l.length ≤ 1000000) (hn : Noted adj.l S seen (pre ++ td.l)) (hS : Nod adj.l n → S n) :
    ∃ td' seen', X.Runs Γ 22 [dInt n, .pt 0 1 0, .pt 4 1 0, .pt 5 1 0] ⟨rst adj td o2 seen tl, pd⟩ (.tup []) ⟨rst adj td' o2 seen' tl, pd⟩ ∧ Noted adj.l S seen' (pre ++ td'.l) ∧ (∃ t, td'.l = td.l ++ t) ∧ (Nod adj.l n → n ∈ pre ++ td'.l) := by
  by_cases h1 : n ≥ 0
  · by_cases h2 : n < (adj.l.length : Int)
    · have h3 : 0 ≤ n ∧ n < (seen.length : Int) := by rw [hn.len]; exact ⟨h1, h2⟩
      obtain ⟨b, hb⟩ := get_int h3
      cases b with
      | true =>
        refine ⟨td, seen, ?_, hn, ⟨[], by simp⟩, fun _ => (hn.mem n).2 ⟨h1, hb⟩⟩
        cases td with
        | none => exact noteN_1 Γ pd adj n seen o2 tl h1 h2 ⟨h1, h2⟩ hb
        | some s => exact noteS_1 Γ pd adj n seen o2 tl s.ver s.x s.l s.r h1 h2 ⟨h1, h2⟩ hb
      | false =>
        have hadd := hn.add h1 hb (hS ⟨h1, h2⟩)
        have hle := hadd.le
        cases td with
        | none =>
          refine ⟨some ⟨1, false, [n], []⟩, seen.set n.toNat true, ?_, by simpa [OS.l] using hadd, ⟨[n], rfl⟩, fun _ => by simp [OS.l]⟩
          have := noteN_2 Γ pd adj n seen o2 tl h1 h2 ⟨h1, h2⟩ hb h3
          exact this
        | some s =>
          refine ⟨some ⟨s.ver + 1, false, s.l ++ [n], []⟩, seen.set n.toNat true, ?_, by simpa [OS.l] using hadd, ⟨[n], rfl⟩, fun _ => by simp [OS.l]⟩
          have := noteS_2 Γ pd adj n seen o2 tl s.ver s.x s.l s.r h1 h2 ⟨h1, h2⟩ hb h3 (by simp [OS.l] at hle ⊢; omega)
          simp only [rst, OS.ob, OS.dv]
          rw [show dcells (s.l ++ [n]) ++ dcells ([] : List Int) = dcells (s.l ++ [n]) from List.append_nil _]
          exact this
    · refine ⟨td, seen, ?_, hn, ⟨[], by simp⟩, fun h => absurd h.2 h2⟩
      cases td with
      | none => exact noteN_3 Γ pd adj n seen o2 tl h1 h2
      | some s => exact noteS_3 Γ pd adj n seen o2 tl s.ver s.x s.l s.r h1 h2
  · refine ⟨td, seen, ?_, hn, ⟨[], by simp⟩, fun h => absurd h.1 h1⟩
    cases td with
    | none => exact noteN_4 Γ pd adj n seen o2 tl h1
    | some s => exact noteS_4 Γ pd adj n seen o2 tl s.ver s.x s.l s.r h1

theorem at12 : sub b12 [1, 1, 1, 1, 1, 0, 0, 0, 1, 0, 1, 1, 1, 1, 0] = .rangeFunc (.tmp 47) #[48] (sub b12 [1, 1, 1, 1, 1, 0, 0, 0, 1, 0, 1, 1, 1, 1, 0, 0]) (sub b12 [1, 1, 1, 1, 1, 0, 0, 0, 1, 0, 1, 1, 1, 1, 0, 1]) := by kernel_rfl
/-- The rounds of Reach over a node's arcs. -/
theorem reach_range (pd : List Ex) (adj : Sl (Sl Int)) (hs : adj.l.length ≤ 1000000) (hr : ∀ r ∈ adj.l, r.l.length ≤ 1000000) (S : Int → Prop) (pre : List Int) (out : DV) (o2 : Ob) (x : Int) (row : Sl Int) (hx : Nod adj.l x) (hrow : adj.l[x.toNat]? = some row)
    (seen : List Bool) (td : OS Int) (hn : Noted adj.l S seen (pre ++ td.l)) (hS : ∀ y, Arc adj.l x y → S y) :
    ∃ td' seen' pd', X.Go 12 55 [] (sub b12 [1, 1, 1, 1, 1, 0, 0, 0, 1, 0, 1, 1, 1, 1, 0]) ⟨fl [(2, .pt 0 1 0), (6, .pt 5 1 0), (7, out), (8, .pt 6 1 0), (47, .fn 35 [] [.pt 7 1 0, .pt 8 1 0])], ⟨rst adj td o2 seen [⟨1, [.c (eSl adj)]⟩, ⟨1, [dInt x]⟩], pd⟩⟩
      .normal ⟨fl [(2, .pt 0 1 0), (6, .pt 5 1 0), (7, out), (8, .pt 6 1 0), (47, .fn 35 [] [.pt 7 1 0, .pt 8 1 0])], ⟨rst adj td' o2 seen' [⟨1, [.c (eSl adj)]⟩, ⟨1, [dInt x]⟩], pd'⟩⟩ ∧
      Noted adj.l S seen' (pre ++ td'.l) ∧ (∀ y, y ∈ pre ++ td.l → y ∈ pre ++ td'.l) ∧ ∀ y, Arc adj.l x y → y ∈ pre ++ td'.l := by
  have hrl : row.l.length ≤ 1000000 := hr row (List.mem_of_getElem? hrow)
  obtain ⟨m', hruns, td', seen', hm', hn', hsub, hrows⟩ := arcs_range hx hrow hrl ((pd.length, rctx 12 55 (fl [(2, .pt 0 1 0), (6, .pt 5 1 0), (7, out), (8, .pt 6 1 0), (47, .fn 35 [] [.pt 7 1 0, .pt 8 1 0])]) #[48] (sub b12 [1, 1, 1, 1, 1, 0, 0, 0, 1, 0, 1, 1, 1, 1, 0, 0]) (sub b12 [1, 1, 1, 1, 1, 0, 0, 0, 1, 0, 1, 1, 1, 1, 0, 1])) :: []) pd.length 7 1 8 1
    (fun k m => ∃ td' seen', m = ⟨rst adj td' o2 seen' [⟨1, [.c (eSl adj)]⟩, ⟨1, [dInt x]⟩], pd ++ [.normal]⟩ ∧ Noted adj.l S seen' (pre ++ td'.l) ∧ (∀ y, y ∈ pre ++ td.l → y ∈ pre ++ td'.l) ∧ ∀ i, i < k → ∀ y, row.l[i]? = some y → Nod adj.l y → y ∈ pre ++ td'.l)
    (by rintro k m ⟨td', seen', rfl, _⟩; rfl)
    (by
      rintro k m y ⟨td1, seen1, rfl, hn1, hs1, hr1⟩ hy hny
      obtain ⟨td2, seen2, hruns, hn2, ⟨t, ht⟩, hin⟩ := note_runs [] (pd ++ [.normal]) adj y seen1 td1 o2 [⟨1, [.c (eSl adj)]⟩, ⟨1, [dInt x]⟩] S pre hs hn1 (fun _ => hS y ⟨hx.1, ⟨row, hrow, List.mem_of_getElem? hy⟩, hny⟩)
      have hrd := Sys.round1 (X := X) (Γ := []) (f := 12) (nt := 55) (ps := #[48]) (asg := sub b12 [1, 1, 1, 1, 1, 0, 0, 0, 1, 0, 1, 1, 1, 1, 0, 0]) (body := sub b12 [1, 1, 1, 1, 1, 0, 0, 0, 1, 0, 1, 1, 1, 1, 0, 1]) (j := pd.length) (args := [dInt y]) (by simp) rfl (by simp) rfl (by kernel_rfl)
        (reachR_1 (pd ++ [.normal]) adj seen1 td1 o2 out 0 (.fn 35 [] [.pt 7 1 0, .pt 8 1 0]) y [⟨1, [.c (eSl adj)]⟩, ⟨1, [dInt x]⟩] td2 seen2 hruns) rfl
      rw [set_same (by simp)] at hrd
      refine ⟨_, hrd, td2, seen2, rfl, hn2, fun z hz => ?_, fun i hi z hz hnz => ?_⟩
      · have := hs1 z hz
        rw [ht]; simp only [List.mem_append] at this ⊢; rcases this with h | h <;> simp [h]
      · by_cases hik : i = k
        · subst hik; rw [hy] at hz; cases hz; exact hin hnz
        · have := hr1 i (by omega) z hz hnz
          rw [ht]; simp only [List.mem_append] at this ⊢; rcases this with h | h <;> simp [h])
    (by
      rintro k m y ⟨td1, seen1, rfl, hn1, hs1, hr1⟩ hy hny
      refine ⟨td1, seen1, rfl, hn1, hs1, fun i hi z hz hnz => ?_⟩
      by_cases hik : i = k
      · subst hik; rw [hy] at hz; cases hz; exact absurd hnz hny
      · exact hr1 i (by omega) z hz hnz)
    ⟨rst adj td o2 seen [⟨1, [.c (eSl adj)]⟩, ⟨1, [dInt x]⟩], pd ++ [.normal]⟩ ⟨td, seen, rfl, hn, fun _ h => h, by omega⟩ rfl
  subst hm'
  refine ⟨td', seen', pd ++ [Ex.normal], Sys.range1 at12 rfl (by kernel_rfl) hruns (by simp) (by kernel_rfl), hn', hsub, fun y hy => ?_⟩
  obtain ⟨_, ⟨row', h1, h2⟩, h3⟩ := hy
  rw [hrow] at h1; cases h1
  obtain ⟨i, hi, rfl⟩ := List.getElem_of_mem h2
  exact hrows i (by omega) _ (List.getElem?_eq_getElem hi) h3

/-- The numbers, sorted. -/
theorem ins_perm (x : Int) : ∀ l, (ins x l).Perm (x :: l)
  | [] => .refl _
  | y :: l => by
    simp only [ins]
    split
    · exact .refl _
    · exact ((ins_perm x l).cons y).trans (.swap x y l)
theorem isort_perm : ∀ l, (isort l).Perm l
  | [] => .refl _
  | x :: l => (ins_perm x _).trans ((isort_perm l).cons x)

theorem reach_runs (adj : Sl (Sl Int)) (fr : Sl Int) (hs : adj.l.length ≤ 1000000) (hf : fr.l.length ≤ 1000000) (hr : ∀ r ∈ adj.l, r.l.length ≤ 1000000) :
    ∃ (s : Sl Int) (out : List Int), X.RunsC 12 [.c (eSl adj), .c (eSl fr)] (.c (eSl s)) ∧ s.l = isort out ∧ out.Nodup ∧ ∀ x, x ∈ out ↔ Reached adj.l fr.l x := by
  obtain ⟨ex, s', hg, _, i, seen, td, rfl, rfl, hn, hfr⟩ := Sys.loop_go (X := X) (f := 12) (nt := 55) (Γ := []) (a := sub b12 [1, 1, 1, 1, 0, 1, 0, 0]) (m := 7)
    (fun σ : Nat × List Bool × OS Int => ⟨fl [(2, .pt 0 1 0), (6, .pt 5 1 0), (7, .c (.sl true true [] 0)), (8, .pt 6 1 0), (17, .c (eSl fr)), (18, dInt (fr.l.length : Int)), (19, dInt σ.1)], ⟨rst adj σ.2.2 ⟨0, []⟩ σ.2.1 [], []⟩⟩)
    (fun σ => σ.1 ≤ fr.l.length ∧ Noted adj.l (Reached adj.l fr.l) σ.2.1 ([] ++ σ.2.2.l) ∧ ∀ j, j < σ.1 → ∀ x, fr.l[j]? = some x → Nod adj.l x → x ∈ σ.2.2.l) (fun σ => fr.l.length - σ.1)
    (fun ex s' => ∃ (i : Int) (seen : List Bool) (td : OS Int), ex = .exit 0 ∧ s' = ⟨fl [(2, .pt 0 1 0), (6, .pt 5 1 0), (7, .c (.sl true true [] 0)), (8, .pt 6 1 0), (17, .c (eSl fr)), (18, dInt (fr.l.length : Int)), (19, dInt i), (20, dB false)], ⟨rst adj td ⟨0, []⟩ seen [], []⟩⟩ ∧
      Noted adj.l (Reached adj.l fr.l) seen ([] ++ td.l) ∧ ∀ x ∈ fr.l, Nod adj.l x → x ∈ td.l)
    (by
      rintro ⟨i, seen, td⟩ ⟨hi, hn, hfr⟩
      simp only at hi hn hfr
      by_cases h1 : (i : Int) < (fr.l.length : Int)
      · obtain ⟨v, hv⟩ := get_nat h1
        have hv' : fr.l[i]? = some v := by simpa using hv
        obtain ⟨td', seen', hruns, hn', ⟨t, ht⟩, hin⟩ := note_runs [] [] adj v seen td ⟨0, []⟩ [] (Reached adj.l fr.l) [] hs hn (fun h => ⟨v, List.mem_of_getElem? hv', .refl h⟩)
        refine .inl ⟨_, (i + 1, seen', td'), reachA_1 [] adj fr i seen td v td' seen' h1 (by omega) hv hruns (by omega), rfl, ⟨by simp only; omega, hn', fun j hj x hx hnx => ?_⟩, by simp only; omega⟩
        by_cases hji : j = i
        · subst hji; rw [hv'] at hx; cases hx; simpa using hin hnx
        · have := hfr j (by omega) x hx hnx
          simp only [ht, List.mem_append]; exact .inl this
      · refine .inr ⟨_, _, reachA_2 [] adj fr i seen td h1, by simp, i, seen, td, rfl, rfl, hn, fun x hx hnx => ?_⟩
        obtain ⟨j, hj, rfl⟩ := List.getElem_of_mem hx
        exact hfr j (by omega) _ (List.getElem?_eq_getElem hj) hnx)
    (0, List.replicate adj.l.length false, none) ⟨by simp, Noted.start _ _, by simp⟩ rfl
  obtain ⟨ex, s', hg', _, pd', seen', td', out, rfl, rfl, hn', hfr', hcl, htd, hout⟩ := Sys.loop_go (X := X) (f := 12) (nt := 55) (Γ := []) (a := sub b12 [1, 1, 1, 1, 1, 0, 0, 0]) (m := 7)
    (fun σ : List Ex × List Bool × OS Int × OA Int × List (Nat × DV) => ⟨fl ((2, .pt 0 1 0) :: (6, .pt 5 1 0) :: (7, σ.2.2.2.1.dv 2) :: (8, .pt 6 1 0) :: σ.2.2.2.2), ⟨rst adj σ.2.2.1 σ.2.2.2.1.ob σ.2.1 [], σ.1⟩⟩)
    (fun σ => Noted adj.l (Reached adj.l fr.l) σ.2.1 (σ.2.2.2.1.l ++ σ.2.2.1.l) ∧ (∀ x ∈ fr.l, Nod adj.l x → x ∈ σ.2.2.2.1.l ++ σ.2.2.1.l) ∧ (∀ x ∈ σ.2.2.2.1.l, ∀ y, Arc adj.l x y → y ∈ σ.2.2.2.1.l ++ σ.2.2.1.l) ∧ (σ.2.2.2.1 = none ∨ σ.2.2.2.1.l ≠ [])) (fun σ => adj.l.length - σ.2.2.2.1.l.length)
    (fun ex s' => ∃ (pd : List Ex) (seen : List Bool) (td : OS Int) (out : OA Int), ex = .exit 2 ∧ s' = ⟨fl [(2, .pt 0 1 0), (6, .pt 5 1 0), (7, out.dv 2), (8, .pt 6 1 0), (29, dB false)], ⟨rst adj td out.ob seen [], pd⟩⟩ ∧
      Noted adj.l (Reached adj.l fr.l) seen (out.l ++ td.l) ∧ (∀ x ∈ fr.l, Nod adj.l x → x ∈ out.l ++ td.l) ∧ (∀ x ∈ out.l, ∀ y, Arc adj.l x y → y ∈ out.l ++ td.l) ∧ td.l = [] ∧ (out = none ∨ out.l ≠ []))
    (by
      rintro ⟨pd, seen, td, out, ex⟩ ⟨hn, hfr, hcl, hou⟩
      simp only at hn hfr hcl hou
      cases td with
      | none =>
        refine .inr ⟨.exit 2, ⟨fl [(2, .pt 0 1 0), (6, .pt 5 1 0), (7, out.dv 2), (8, .pt 6 1 0), (29, dB false)], ⟨rst adj none out.ob seen [], pd⟩⟩, ?_, by simp, pd, seen, none, out, rfl, rfl, hn, hfr, hcl, rfl, hou⟩
        cases out with
        | none => exact reachBnn_1 pd adj seen ex
        | some o => obtain ⟨w, out⟩ := o; exact reachBsn_1 pd adj seen w out ex
      | some t =>
        obtain ⟨v, x, todo, r⟩ := t
        simp only [OS.l] at hn hfr hcl
        by_cases h1 : (todo.length : Int) > 0
        · have hne : todo ≠ [] := fun h => by rw [h] at h1; simp at h1
          obtain ⟨todo', y, rfl⟩ : ∃ l a, todo = l ++ [a] := ⟨todo.dropLast, todo.getLast hne, (List.dropLast_concat_getLast hne).symm⟩
          have hlen : ((todo' ++ [y]).length : Int) - 1 = (todo'.length : Int) := by simp
          have hy : (todo' ++ [y])[(((todo' ++ [y]).length : Int) - 1).toNat]? = some y := by rw [hlen]; simp
          have hyn : Nod adj.l y := hn.node (by simp)
          obtain ⟨row, hrow⟩ := get_int (l := adj.l) hyn
          have hle := hn.le
          simp only [List.length_append, List.length_singleton] at hle
          obtain ⟨s0, hs0, hw0⟩ := hn.ok y (by simp)
          -- the node goes from the todo list to the others
          have hn2 : Noted adj.l (Reached adj.l fr.l) seen ((out.l ++ [y]) ++ todo') := hn.perm (by
            simp only [List.append_assoc]
            exact List.Perm.append_left _ List.perm_append_comm)
          have hmv : ∀ z, z ∈ out.l ++ (todo' ++ [y]) → z ∈ (out.l ++ [y]) ++ todo' := fun z hz => by
            simp only [List.mem_append, List.mem_singleton] at hz ⊢
            rcases hz with h | h | h <;> simp [h]
          have fin : ∀ (out' : OA Int), out'.l = out.l ++ [y] → ∀ (td' : OS Int) (seen' : List Bool), Noted adj.l (Reached adj.l fr.l) seen' (out'.l ++ td'.l) → (∀ z, z ∈ out'.l ++ todo' → z ∈ out'.l ++ td'.l) → (∀ z, Arc adj.l y z → z ∈ out'.l ++ td'.l) →
              (Noted adj.l (Reached adj.l fr.l) seen' (out'.l ++ OS.l td') ∧ (∀ x ∈ fr.l, Nod adj.l x → x ∈ out'.l ++ OS.l td') ∧ (∀ x ∈ out'.l, ∀ y, Arc adj.l x y → y ∈ out'.l ++ OS.l td') ∧ (out' = none ∨ out'.l ≠ [])) ∧ adj.l.length - out'.l.length < adj.l.length - out.l.length := fun out' ho td' seen' hn' hsub harcs => by
            refine ⟨⟨hn', fun z hz hnz => hsub z (by rw [ho]; exact hmv z (hfr z hz hnz)), fun z hz w hw => ?_, .inr (by rw [ho]; simp)⟩, by rw [ho]; simp only [List.length_append, List.length_singleton]; omega⟩
            rw [ho, List.mem_append, List.mem_singleton] at hz
            rcases hz with hz | rfl
            · exact hsub w (by rw [ho]; exact hmv w (hcl z hz w hw))
            · exact harcs w hw
          have hob : OS.ob (some ⟨v, x && ((((todo' ++ [y]).length : Int) - 1).toNat == (todo' ++ [y]).length), todo', [y] ++ r⟩) = ⟨v, dcells (todo' ++ [y]) ++ dcells r⟩ := by
            simp only [OS.ob, dcells_append, List.append_assoc]
          have hdv : OS.dv 1 (some ⟨v, x && ((((todo' ++ [y]).length : Int) - 1).toNat == (todo' ++ [y]).length), todo', [y] ++ r⟩) = .ms 1 v 0 (((todo' ++ [y]).length : Int) - 1).toNat 1 (x && ((((todo' ++ [y]).length : Int) - 1).toNat == (todo' ++ [y]).length)) := by
            rw [show (((todo' ++ [y]).length : Int) - 1).toNat = todo'.length by simp]; rfl
          cases out with
          | none =>
            obtain ⟨td', seen', pd', hgo, hn3, hsub, harcs⟩ := reach_range (pd ++ []) adj hs hr (Reached adj.l fr.l) [y] (.ms 2 1 0 1 1 false) ⟨1, dcells ([y] : List Int)⟩ y row hyn hrow seen (some ⟨v, x && ((((todo' ++ [y]).length : Int) - 1).toNat == (todo' ++ [y]).length), todo', [y] ++ r⟩) (by simpa [OS.l, OA.l] using hn2) (fun z hz => ⟨s0, hs0, .step hw0 hz⟩)
            simp only [rst, hob, hdv] at hgo
            obtain ⟨f1, f2⟩ := fin (some (1, [y])) rfl td' seen' hn3 hsub harcs
            exact .inl ⟨_, (pd', seen', td', some (1, [y]), []), reachBns_1 pd adj seen v x (todo' ++ [y]) r ex y td' seen' pd' h1 (by omega) (by omega) hy (by omega) (arcsM_1 adj y) hgo, reachBns_cut1 pd adj seen v x (todo' ++ [y]) r ex y td' seen' pd', f1, f2⟩
          | some o =>
            obtain ⟨w, out⟩ := o
            obtain ⟨td', seen', pd', hgo, hn3, hsub, harcs⟩ := reach_range (pd ++ []) adj hs hr (Reached adj.l fr.l) (out ++ [y]) (.ms 2 (w + 1) 0 (out ++ [y]).length 1 false) ⟨w + 1, dcells (out ++ [y])⟩ y row hyn hrow seen (some ⟨v, x && ((((todo' ++ [y]).length : Int) - 1).toNat == (todo' ++ [y]).length), todo', [y] ++ r⟩) (by simpa [OS.l, OA.l] using hn2) (fun z hz => ⟨s0, hs0, .step hw0 hz⟩)
            simp only [rst, hob, hdv] at hgo
            obtain ⟨f1, f2⟩ := fin (some (w + 1, out ++ [y])) rfl td' seen' hn3 hsub harcs
            exact .inl ⟨_, (pd', seen', td', some (w + 1, out ++ [y]), []), reachBss_1 pd adj seen w out v x (todo' ++ [y]) r ex y td' seen' pd' h1 (by omega) (by omega) hy (by omega) (by simp only [OA.l, List.length_append, List.length_singleton] at hle ⊢; omega) (arcsM_1 adj y) hgo, reachBss_cut1 pd adj seen w out v x (todo' ++ [y]) r ex y td' seen' pd', f1, f2⟩
        · refine .inr ⟨.exit 2, ⟨fl [(2, .pt 0 1 0), (6, .pt 5 1 0), (7, out.dv 2), (8, .pt 6 1 0), (29, dB false)], ⟨rst adj (some ⟨v, x, todo, r⟩) out.ob seen [], pd⟩⟩, ?_, by simp, pd, seen, some ⟨v, x, todo, r⟩, out, rfl, rfl, hn, hfr, hcl, List.length_eq_zero_iff.1 (by simp only [OS.l]; omega), hou⟩
          cases out with
          | none => exact reachBns_2 pd adj seen v x todo r ex h1
          | some o => obtain ⟨w, out⟩ := o; exact reachBss_2 pd adj seen w out v x todo r ex h1)
    ([], seen, td, none, [(17, .c (eSl fr)), (18, dInt (fr.l.length : Int)), (19, dInt i), (20, dB false)]) ⟨by simpa [OA.l] using hn, by simpa [OA.l] using hfr, by simp [OA.l], .inl rfl⟩ rfl
  have hset : ∀ z, z ∈ out.l ↔ Reached adj.l fr.l z := fun z => by
    rw [htd, List.append_nil] at hn' hfr'
    refine ⟨fun h => hn'.ok z h, fun ⟨s, hs, hw⟩ => closed_way (fun x hx y hy => by have := hcl x hx y hy; rwa [htd, List.append_nil] at this) (hfr' s hs hw.src) hw⟩
  rw [htd, List.append_nil] at hn'
  cases out with
  | none => exact ⟨Sl.nil, [], reachMn_1 adj fr td seen i td' seen' pd' (by omega) hg hg', rfl, by simp, hset⟩
  | some o =>
    obtain ⟨w, out⟩ := o
    have hle := hn'.le
    have hne : out ≠ [] ∧ out.length < 4611686018427387904 := ⟨hout.resolve_left (by simp), by simp only [OA.l] at hle; omega⟩
    exact ⟨Sl.of false (isort out), out, reachMs_1 adj fr td seen i td' seen' pd' w out (by omega) hg hg' hne (isort_length out), rfl, hn'.nodup, hset⟩
end Go.Proofs.Ytclnpjnodmfkcaa
