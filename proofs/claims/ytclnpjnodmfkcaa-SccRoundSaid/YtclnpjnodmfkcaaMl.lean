/-
  Part of the proof: printed by the session's own program out of the program's form, or typed; it states no claim by itself.
-/
import Derived.Test.YtclnpjnodmfkcaaWk
import Derived.Test.YtclnpjnodmfkcaaMb
import Derived.Test.YtclnpjnodmfkcaaTa
/-
  The walk of the search for components: its small parts.
-/
set_option linter.unusedVariables false
set_option linter.unusedSimpArgs false
set_option maxRecDepth 10000
namespace Go.Proofs.Ytclnpjnodmfkcaa
open Go Go.Abs Go.Proofs Go.Proofs.Scc

theorem box_ok {st : List Ob} {id : Nat} {cs cs0 : List DV} (h : st[id]? = some ⟨0, cs0⟩) : ((lay st id cs).map fun e => ({ d := .pt id e.2.ver 0, set := some e } : Out)) = some { d := .pt id 1 0, set := some (id, ⟨1, cs⟩) } := by
  simp only [lay, h, Option.map_some]
theorem visit0 (st : List Ob) (pd : List Ex) (n : Int) : X.Go 29 135 [] (sub b29 [0]) ⟨argFr [.pt 3 1 0, dInt n], ⟨st, pd⟩⟩ .normal
    ⟨fl [(2, .pt (st.length + 0) 1 0), (3, .pt (st.length + 1) 1 0)], ⟨((st ++ List.replicate 2 (⟨0, []⟩ : Ob)).set (st.length + 0) ⟨1, [.pt 3 1 0]⟩).set (st.length + 1) ⟨1, [dInt n]⟩, pd⟩⟩ :=
  Sys.go [((0, 0), .op { d := .pt (st.length + 0) 1 0, set := some (st.length + 0, ⟨1, [.pt 3 1 0]⟩) }), ((0, 1), .op { d := .pt (st.length + 1) 1 0, set := some (st.length + 1, ⟨1, [dInt n]⟩) })]
    (And.intro (box_ok (st := st ++ List.replicate 2 (⟨0, []⟩ : Ob)) (id := st.length + 0) (cs := [.pt 3 1 0]) (cs0 := []) (by rw [List.getElem?_append_right (by omega)]; simp))
      (box_ok (st := (st ++ List.replicate 2 (⟨0, []⟩ : Ob)).set (st.length + 0) ⟨1, [.pt 3 1 0]⟩) (id := st.length + 1) (cs := [dInt n]) (cs0 := []) (by rw [List.getElem?_set, if_neg (by omega), List.getElem?_append_right (by omega)]; simp))) (by kernel_rfl)
theorem two_set (st : List Ob) (a b : Ob) : ((st ++ List.replicate 2 (⟨0, []⟩ : Ob)).set (st.length + 0) a).set (st.length + 1) b = st ++ [a, b] := by
  rw [List.set_append_right _ _ (by omega), List.set_append_right _ _ (by omega)]
  simp
/-- The finder's objects. -/
abbrev finF (adj : Sl (Sl Int)) (idx low : List Int) (on : List Bool) (cnt : Int) (td : OS Int) (od : OS (Sl Int)) (u : Nat) (tl : List Ob) : List Ob :=
  ⟨1, dcells idx⟩ :: ⟨1, dcells low⟩ :: ⟨1, dcells on⟩ :: ⟨1, [.c (eSl adj), .ms 0 1 0 adj.l.length 1 true, .ms 1 1 0 adj.l.length 1 true, td.dv 4, .ms 2 1 0 adj.l.length 1 true, dInt cnt, od.dv 5]⟩ :: td.ob :: od.ob :: ⟨u, []⟩ :: tl
/-- What the finder's objects tell. -/
structure Rep (A : Adj) (S : TS) (idx low : List Int) (on : List Bool) (td : OS Int) (od : OS (Sl Int)) : Prop where
  il : idx.length = A.length
  ll : low.length = A.length
  ol : on.length = A.length
  ix : ∀ x, Nod A x → idx[x.toNat]? = some (S.idx x)
  lw : ∀ x, Nod A x → low[x.toNat]? = some (S.low x)
  os : ∀ x, Nod A x → on[x.toNat]? = some (decide (x ∈ S.stk))
  st : td.l = S.stk
  ou : od.l.map (·.l) = S.outs
  oo : ∀ s, od = some s → s.x = false ∧ s.r = [] ∧ s.l ≠ []
theorem set_fset {A : Adj} {l : List Int} {f : Int → Int} (hl : l.length = A.length) (h : ∀ x, Nod A x → l[x.toNat]? = some (f x)) {n : Int} (hn : Nod A n) (v : Int) : ∀ x, Nod A x → (l.set n.toNat v)[x.toNat]? = some (fset f n v x) := fun x hx => by
  have h1 := hx.1; have h2 := hn.1; have h3 := hn.2
  rw [List.getElem?_set]
  by_cases hxn : x = n
  · subst hxn; rw [if_pos rfl, if_pos (by omega), fset_same]
  · rw [if_neg (by omega), fset_ne hxn]; exact h x hx
theorem set_on {A : Adj} {l : List Bool} {s : List Int} (hl : l.length = A.length) (h : ∀ x, Nod A x → l[x.toNat]? = some (decide (x ∈ s))) {n : Int} (hn : Nod A n) : ∀ x, Nod A x → (l.set n.toNat true)[x.toNat]? = some (decide (x ∈ s ++ [n])) := fun x hx => by
  have h1 := hx.1; have h2 := hn.1; have h3 := hn.2
  rw [List.getElem?_set]
  by_cases hxn : x = n
  · subst hxn; rw [if_pos rfl, if_pos (by omega)]; simp
  · rw [if_neg (by omega), h x hx]; simp [hxn]
theorem Rep.push {A : Adj} {S : TS} {idx low : List Int} {on : List Bool} {td td' : OS Int} {od : OS (Sl Int)} (h : Rep A S idx low on td od) {n : Int} (hn : Nod A n) (ht : td'.l = td.l ++ [n]) : Rep A (S.push n) (idx.set n.toNat (S.cnt + 1)) (low.set n.toNat (S.cnt + 1)) (on.set n.toNat true) td' od :=
  ⟨by simp [h.il], by simp [h.ll], by simp [h.ol], set_fset h.il h.ix hn _, set_fset h.ll h.lw hn _, set_on h.ol h.os hn, by rw [ht, h.st]; rfl, h.ou, h.oo⟩
theorem Rep.lower {A : Adj} {S : TS} {idx low : List Int} {on : List Bool} {td : OS Int} {od : OS (Sl Int)} (h : Rep A S idx low on td od) {n v : Int} (hn : Nod A n) : Rep A (S.lower n v) idx (low.set n.toNat (if v < S.low n then v else S.low n)) on td od :=
  ⟨h.il, by simp [h.ll], h.ol, h.ix, set_fset h.ll h.lw hn _, h.os, h.st, h.ou, h.oo⟩

/-! ### Index -/
theorem posOf_take {n : Int} : ∀ {l : List Int} {i : Nat}, i < l.length → (∀ x ∈ l.take i, x ≠ n) → l[i]? = some n → posOf n l = i
  | [], i, h, _, _ => absurd h (by simp)
  | x :: l, 0, _, _, h => by
    simp only [List.getElem?_cons_zero, Option.some.injEq] at h
    unfold posOf; rw [if_pos h.symm]
  | x :: l, i + 1, h, h1, h2 => by
    have hx : n ≠ x := fun e => h1 x (by simp) e.symm
    unfold posOf
    rw [if_neg hx, posOf_take (by simpa using h) (fun y hy => h1 y (by simp [hy])) (by simpa using h2)]
theorem index_runs (adj : Sl (Sl Int)) (idx low : List Int) (on : List Bool) (cnt : Int) (v u : Nat) (x : Bool) (l r : List Int) (ov : DV) (oo : Ob) (tl : List Ob) (pd : List Ex) (n : Int) (hl : l.length ≤ 1000000) (hm : n ∈ l) :
    X.Runs [] 55 [.ms 4 v 0 l.length 1 x, dInt n] ⟨⟨1, dcells idx⟩ :: ⟨1, dcells low⟩ :: ⟨1, dcells on⟩ :: ⟨1, [.c (eSl adj), .ms 0 1 0 adj.l.length 1 true, .ms 1 1 0 adj.l.length 1 true, .ms 4 v 0 l.length 1 x, .ms 2 1 0 adj.l.length 1 true, dInt cnt, ov]⟩ :: ⟨v, dcells l ++ (dcells r)⟩ :: oo :: ⟨u, []⟩ :: tl, pd⟩ (dInt (posOf n l : Int)) ⟨⟨1, dcells idx⟩ :: ⟨1, dcells low⟩ :: ⟨1, dcells on⟩ :: ⟨1, [.c (eSl adj), .ms 0 1 0 adj.l.length 1 true, .ms 1 1 0 adj.l.length 1 true, .ms 4 v 0 l.length 1 x, .ms 2 1 0 adj.l.length 1 true, dInt cnt, ov]⟩ :: ⟨v, dcells l ++ (dcells r)⟩ :: oo :: ⟨u, []⟩ :: tl, pd⟩ := by
  let st : List Ob := ⟨1, dcells idx⟩ :: ⟨1, dcells low⟩ :: ⟨1, dcells on⟩ :: ⟨1, [.c (eSl adj), .ms 0 1 0 adj.l.length 1 true, .ms 1 1 0 adj.l.length 1 true, .ms 4 v 0 l.length 1 x, .ms 2 1 0 adj.l.length 1 true, dInt cnt, ov]⟩ :: ⟨v, dcells l ++ (dcells r)⟩ :: oo :: ⟨u, []⟩ :: tl
  obtain ⟨ex, s', hg, _, rfl, rfl⟩ := Sys.loop_go (X := X) (f := 55) (nt := 19) (Γ := []) (a := sub b55 [1, 0, 1, 0, 0]) (m := st.length)
    (fun σ : Nat => ⟨fl [(0, .ms 4 v 0 l.length 1 x), (1, dInt n), (7, dInt (l.length : Int)), (8, dInt σ)], ⟨st, pd⟩⟩)
    (fun σ => σ ≤ l.length ∧ ∀ y ∈ l.take σ, y ≠ n) (fun σ => l.length - σ)
    (fun ex s' => ex = .ret ∧ s' = ⟨fl [(4, dInt (posOf n l : Int))], ⟨st, pd⟩⟩)
    (by
      rintro i ⟨hi, hno⟩
      by_cases h1 : (i : Int) < (l.length : Int)
      · obtain ⟨y, hy⟩ := get_nat h1
        have hy' : l[i]? = some y := by simpa using hy
        by_cases h4 : n = y
        · subst h4
          refine .inr ⟨_, _, indexB_1 adj idx low on cnt v u x l r ov oo tl pd n i n h1 (by omega) hy rfl, by simp, rfl, ?_⟩
          rw [posOf_take (by omega) hno hy']
        · refine .inl ⟨_, i + 1, indexB_2 adj idx low on cnt v u x l r ov oo tl pd n i y h1 (by omega) hy h4 (by omega), rfl, ⟨by omega, fun z hz => ?_⟩, by omega⟩
          rw [List.take_add_one, hy'] at hz
          rcases List.mem_append.1 hz with hz | hz
          · exact hno z hz
          · simp at hz; subst hz; exact fun e => h4 e.symm
      · rw [List.take_of_length_le (by omega)] at hno
        exact absurd rfl (hno n hm))
    0 ⟨by omega, by simp⟩ rfl
  exact indexM_1 adj idx low on cnt v u x l r ov oo tl pd n _ hg

/-! ### close -/
theorem close_loop (adj : Sl (Sl Int)) (idx low c : List Int) (on : List Bool) (cnt : Int) (u : Nat) (sv ov : DV) (so oo : Ob) (tl : List Ob) (pd : List Ex) (hol : on.length = adj.l.length) (hc : ∀ x ∈ c, Nod adj.l x) (hcl : c.length ≤ 1000000) :
    ∃ (on' : List Bool) (i : Int), X.Go 40 55 [] (sub b40 [1, 1, 1, 0, 1, 0]) ⟨fl [(0, .pt 3 1 0), (5, .ms 6 u 0 c.length 1 false), (30, .ms 6 u 0 c.length 1 false), (31, dInt (c.length : Int)), (32, dInt 0)], ⟨⟨1, dcells idx⟩ :: ⟨1, dcells low⟩ :: ⟨1, dcells on⟩ :: ⟨1, [.c (eSl adj), .ms 0 1 0 adj.l.length 1 true, .ms 1 1 0 adj.l.length 1 true, sv, .ms 2 1 0 adj.l.length 1 true, dInt cnt, ov]⟩ :: so :: oo :: ⟨u, dcells c⟩ :: tl, pd⟩⟩ (.exit 0) ⟨fl [(0, .pt 3 1 0), (5, .ms 6 u 0 c.length 1 false), (30, .ms 6 u 0 c.length 1 false), (31, dInt (c.length : Int)), (32, dInt i), (33, dB false)], ⟨⟨1, dcells idx⟩ :: ⟨1, dcells low⟩ :: ⟨1, dcells on'⟩ :: ⟨1, [.c (eSl adj), .ms 0 1 0 adj.l.length 1 true, .ms 1 1 0 adj.l.length 1 true, sv, .ms 2 1 0 adj.l.length 1 true, dInt cnt, ov]⟩ :: so :: oo :: ⟨u, dcells c⟩ :: tl, pd⟩⟩ ∧
      on'.length = adj.l.length ∧ ∀ x, Nod adj.l x → ∀ b, on[x.toNat]? = some b → on'[x.toNat]? = some (b && !decide (x ∈ c)) := by
  let F : List Bool → List Ob := fun o => ⟨1, dcells idx⟩ :: ⟨1, dcells low⟩ :: ⟨1, dcells o⟩ :: ⟨1, [.c (eSl adj), .ms 0 1 0 adj.l.length 1 true, .ms 1 1 0 adj.l.length 1 true, sv, .ms 2 1 0 adj.l.length 1 true, dInt cnt, ov]⟩ :: so :: oo :: ⟨u, dcells c⟩ :: tl
  obtain ⟨ex, s', hg, _, on', i, rfl, rfl, h1, h2⟩ := Sys.loop_go (X := X) (f := 40) (nt := 55) (Γ := []) (a := sub b40 [1, 1, 1, 0, 1, 0, 0]) (m := (F on).length)
    (fun σ : Nat × List Bool => ⟨fl [(0, .pt 3 1 0), (5, .ms 6 u 0 c.length 1 false), (30, .ms 6 u 0 c.length 1 false), (31, dInt (c.length : Int)), (32, dInt σ.1)], ⟨F σ.2, pd⟩⟩)
    (fun σ => σ.1 ≤ c.length ∧ σ.2.length = adj.l.length ∧ ∀ x, Nod adj.l x → ∀ b, on[x.toNat]? = some b → σ.2[x.toNat]? = some (b && !decide (x ∈ c.take σ.1))) (fun σ => c.length - σ.1)
    (fun ex s' => ∃ (on' : List Bool) (i : Int), ex = .exit 0 ∧ s' = ⟨fl [(0, .pt 3 1 0), (5, .ms 6 u 0 c.length 1 false), (30, .ms 6 u 0 c.length 1 false), (31, dInt (c.length : Int)), (32, dInt i), (33, dB false)], ⟨F on', pd⟩⟩ ∧
      on'.length = adj.l.length ∧ ∀ x, Nod adj.l x → ∀ b, on[x.toNat]? = some b → on'[x.toNat]? = some (b && !decide (x ∈ c)))
    (by
      rintro ⟨i, o⟩ ⟨hi, ho, hall⟩
      simp only at hi ho hall
      by_cases h1 : (i : Int) < (c.length : Int)
      · obtain ⟨y, hy⟩ := get_nat h1
        have hy' : c[i]? = some y := by simpa using hy
        have hny := hc y (List.mem_of_getElem? hy')
        have hy0 := hny.1; have hy1 := hny.2
        refine .inl ⟨_, (i + 1, o.set y.toNat false), closeB_1 adj idx low c o cnt i u sv ov so oo tl pd y h1 (by omega) hy hny (by rw [ho]; exact hny) (by omega), rfl, ⟨by simp only; omega, by simpa using ho, fun x hx b hb => ?_⟩, by simp only; omega⟩
        have hx0 := hx.1
        have htk : c.take (i + 1) = c.take i ++ [y] := by rw [List.take_add_one, hy']; rfl
        simp only
        rw [htk, List.getElem?_set]
        by_cases hxy : x = y
        · subst hxy
          rw [if_pos rfl, if_pos (by omega)]; simp
        · rw [if_neg (by omega), hall x hx b hb]; simp [hxy]
      · refine .inr ⟨_, _, closeB_2 adj idx low c o cnt i u sv ov so oo tl pd h1, by simp, o, i, rfl, rfl, ho, fun x hx b hb => ?_⟩
        have := hall x hx b hb
        rw [List.take_of_length_le (by omega)] at this
        exact this)
    (0, on) ⟨by simp, hol, fun x hx b hb => by simp [hb]⟩ rfl
  exact ⟨on', i, hg, h1, h2⟩
theorem dcells_cut (l r : List Int) (j : Nat) : dcells l ++ dcells r = dcells (l.take j) ++ dcells (l.drop j ++ r) := by
  rw [← dcells_append, ← dcells_append, ← List.append_assoc, List.take_append_drop]
theorem close_runs (adj : Sl (Sl Int)) (S : TS) (idx low : List Int) (on : List Bool) (cnt : Int) (td : OS Int) (od : OS (Sl Int)) (u : Nat) (tl : List Ob) (pd : List Ex) (n : Int) (h : Rep adj.l S idx low on td od) (hb : Bnd adj.l S) (hn : n ∈ S.stk) :
    ∃ on' s' od' u', X.Runs [] 40 [.pt 3 1 0, dInt n] ⟨finF adj idx low on cnt td od u tl, pd⟩ (.tup []) ⟨finF adj idx low on' cnt (some s') od' u' tl, pd⟩ ∧ Rep adj.l (S.close n) idx low on' (some s') od' := by
  cases td with
  | none =>
    have := h.st
    rw [← this] at hn
    simp [OS.l] at hn
  | some s =>
    obtain ⟨v, x, l, r⟩ := s
    have hl : l = S.stk := h.st
    subst hl
    have hpos := posOf_le hn
    have hj := hpos
    generalize hjn : posOf n S.stk = j at hj
    have hsl := hb.stk
    have hdl : (S.stk.drop j).length = S.stk.length - j := by simp
    have hne : S.stk.drop j ≠ [] := fun e => by rw [e] at hdl; simp at hdl; omega
    have hil := isort_length (S.stk.drop j)
    have htl : (S.stk.take j).length = j := by rw [List.length_take]; omega
    have hcl : (S.close n) = { S with stk := S.stk.take j, outs := S.outs ++ [isort (S.stk.drop j)] } := by unfold TS.close; rw [hjn]
    have hx2 : ((x && j == S.stk.length) : Bool) = (x && j == S.stk.length) := rfl
    have repOf : ∀ (on' : List Bool) (od' : OS (Sl Int)) (y : Bool), on'.length = adj.l.length → (∀ z, Nod adj.l z → ∀ b, on[z.toNat]? = some b → on'[z.toNat]? = some (b && !decide (z ∈ S.stk.drop j))) → od'.l = od.l ++ [Sl.of false (isort (S.stk.drop j))] → (∀ s, od' = some s → s.x = false ∧ s.r = [] ∧ s.l ≠ []) →
        Rep adj.l (S.close n) idx low on' (some ⟨v, y, S.stk.take j, S.stk.drop j ++ r⟩) od' := fun on' od' y h1 h2 h3 h4 => by
      rw [hcl]
      refine ⟨h.il, h.ll, h1, h.ix, h.lw, fun z hz => ?_, rfl, by rw [h3, List.map_append, h.ou]; rfl, h4⟩
      rw [h2 z hz _ (h.os z hz)]
      have hsplit : S.stk.take j ++ S.stk.drop j = S.stk := List.take_append_drop j S.stk
      have hd := hb.dup
      rw [← hsplit, List.nodup_append] at hd
      congr 1
      rw [Bool.eq_iff_iff]
      simp only [Bool.and_eq_true, decide_eq_true_eq, Bool.not_eq_true', decide_eq_false_iff_not]
      constructor
      · rintro ⟨h5, h6⟩
        rw [← hsplit] at h5
        exact (List.mem_append.1 h5).resolve_right h6
      · intro h5
        exact ⟨by rw [← hsplit]; exact List.mem_append_left _ h5, fun h6 => hd.2.2 z h5 z h6 rfl⟩
    have hcN : ∀ y ∈ S.stk.drop j, Nod adj.l y := fun y hy => hb.nod y (List.mem_of_mem_drop hy)
    have hxx : (x && S.stk.length == S.stk.length) = x := by simp
    have happ : ∀ outs : List (Sl Int), dcells outs ++ dcells ([] : List (Sl Int)) = dcells outs := fun outs => List.append_nil _
    cases od with
    | none =>
      have h55 := index_runs adj idx low on cnt v u x S.stk r (.c (.sl true true [] 0)) ⟨0, []⟩ tl pd n hsl hn
      rw [hjn] at h55
      have h56 := cloneM_1 adj idx low on cnt v u x S.stk r (.c (.sl true true [] 0)) ⟨0, []⟩ tl pd j ⟨hne, by omega⟩
      obtain ⟨on', i, hg, h1, h2⟩ := close_loop adj idx low (S.stk.drop j) on cnt (u + 1) (.ms 4 v 0 j 1 (x && j == S.stk.length)) (.c (.sl true true [] 0)) ⟨v, dcells S.stk ++ dcells r⟩ ⟨0, []⟩ tl pd h.ol hcN (by omega)
      have hrun := closeN_1 adj idx low on cnt v u x S.stk r n tl pd j on' i h55 (by omega) (by rw [hxx]; exact h56) (by omega) hg ⟨hne, by omega⟩ hil
      refine ⟨on', ⟨v, x && j == S.stk.length, S.stk.take j, S.stk.drop j ++ r⟩, some ⟨1, false, [Sl.of false (isort (S.stk.drop j))], []⟩, u + 1 + 1, ?_, repOf on' _ _ h1 h2 rfl (fun s hs => by cases hs; exact ⟨rfl, rfl, by simp⟩)⟩
      simp only [finF, OS.dv, OS.ob]
      rw [htl, ← dcells_cut, happ]
      exact hrun
    | some w =>
      obtain ⟨wv, wx, outs, wr⟩ := w
      obtain ⟨hwx, hwr, _⟩ := h.oo _ rfl
      simp only at hwx hwr
      subst hwx; subst hwr
      have hol : outs.length = S.outs.length := by rw [← h.ou]; simp [OS.l]
      have hbo := hb.outs
      have h55 := index_runs adj idx low on cnt v u x S.stk r (.ms 5 wv 0 outs.length 1 false) ⟨wv, dcells outs⟩ tl pd n hsl hn
      rw [hjn] at h55
      have h56 := cloneM_1 adj idx low on cnt v u x S.stk r (.ms 5 wv 0 outs.length 1 false) ⟨wv, dcells outs⟩ tl pd j ⟨hne, by omega⟩
      obtain ⟨on', i, hg, h1, h2⟩ := close_loop adj idx low (S.stk.drop j) on cnt (u + 1) (.ms 4 v 0 j 1 (x && j == S.stk.length)) (.ms 5 wv 0 outs.length 1 false) ⟨v, dcells S.stk ++ dcells r⟩ ⟨wv, dcells outs⟩ tl pd h.ol hcN (by omega)
      have hrun := closeS_1 adj idx low on cnt v u x S.stk r n tl pd wv outs j on' i h55 (by omega) (by rw [hxx]; exact h56) (by omega) hg ⟨hne, by omega⟩ hil (by simp; omega)
      refine ⟨on', ⟨v, x && j == S.stk.length, S.stk.take j, S.stk.drop j ++ r⟩, some ⟨wv + 1, false, outs ++ [Sl.of false (isort (S.stk.drop j))], []⟩, u + 1 + 1, ?_, repOf on' _ _ h1 h2 rfl (fun s hs => by cases hs; exact ⟨rfl, rfl, by simp⟩)⟩
      simp only [finF, OS.dv, OS.ob]
      rw [htl, ← dcells_cut, happ, happ]
      exact hrun
end Go.Proofs.Ytclnpjnodmfkcaa

/-
  The walk of the search for components: a visit.
-/
set_option linter.unusedVariables false
set_option linter.unusedSimpArgs false
set_option maxRecDepth 10000
namespace Go.Proofs.Ytclnpjnodmfkcaa
open Go Go.Abs Go.Proofs Go.Proofs.Scc

abbrev wp29 : List Nat := [1, 1, 1, 1, 1, 0, 1, 0]
theorem at29 : sub b29 wp29 = .rangeFunc (.tmp 53) #[54] (sub b29 (wp29 ++ [0])) (sub b29 (wp29 ++ [1])) := by kernel_rfl
def SafeT (T : List Ob) : Prop := ∀ m, 7 ≤ m → AllB m T
theorem allB_append {m : Nat} {a b : List Ob} (h : AllB m a) (h' : AllB m b) : AllB m (a ++ b) := by
  unfold AllB at h h' ⊢
  rw [List.all_append, h, h']; rfl
theorem finF_allB {adj : Sl (Sl Int)} {idx low : List Int} {on : List Bool} {cnt : Int} {td : OS Int} {od : OS (Sl Int)} {u : Nat} {T : List Ob} {m : Nat} (hm : 7 ≤ m) (hT : AllB m T) : AllB m (finF adj idx low on cnt td od u T) := by
  refine AllB.cons (below_dcells m idx) (AllB.cons (below_dcells m low) (AllB.cons (below_dcells m on) (AllB.cons ?_ (AllB.consR (OS.below m td) (AllB.consR (OS.below m od) (AllB.cons rfl hT))))))
  have h1 := OS.below_dv (n := m) (id := 4) (by omega) td
  have h2 := OS.below_dv (n := m) (id := 5) (by omega) od
  simp only [List.all_cons, List.all_nil, Bool.and_true] at h1 h2 ⊢
  rw [h1, h2]
  simp [below, dInt]
  omega
theorem fin_trim {adj : Sl (Sl Int)} {idx low : List Int} {on : List Bool} {cnt : Int} {td : OS Int} {od : OS (Sl Int)} {u : Nat} {T B : List Ob} {pd : List Ex} (hT : SafeT T) :
    trimM (T.length + 7) (.tup []) ⟨finF adj idx low on cnt td od u (T ++ B), pd⟩ = some ⟨finF adj idx low on cnt td od u T, pd⟩ :=
  trim_ok (m := ⟨finF adj idx low on cnt td od u (T ++ B), pd⟩) rfl (finF_allB (by omega) (hT _ (by omega))) (by
    show List.take (T.length + 7) _ = _
    simp only [finF, List.take_succ_cons, List.take_left])

/-- The rounds over some arcs, one behind the other. -/
def Chain (A : Adj) (Γ : List (Nat × Ctx)) (j : Nat) (B : M → Prop) (Q : M → Prop) : List Int → M → Prop
  | [], m => B m ∧ Q m
  | y :: ys, m => B m ∧ ((Nod A y → ∃ m', X.Round Γ j [dInt y] m (dB true) m' ∧ Chain A Γ j B Q ys m') ∧ (¬ Nod A y → Chain A Γ j B Q ys m))
theorem Chain.box {A : Adj} {Γ : List (Nat × Ctx)} {j : Nat} {B Q : M → Prop} : ∀ {ys : List Int} {m : M}, Chain A Γ j B Q ys m → B m
  | [], _, h => h.1
  | _ :: _, _, h => h.1
abbrev tlV (T : List Ob) (n : Int) : List Ob := T ++ [⟨1, [.pt 3 1 0]⟩, ⟨1, [dInt n]⟩]
abbrev tlW (adj : Sl (Sl Int)) (T : List Ob) (n : Int) : List Ob := tlV T n ++ [⟨1, [.c (eSl adj)]⟩, ⟨1, [dInt n]⟩]
abbrev vfr (T : List Ob) (n : Int) : Nat → DV := fl [(2, .pt (T.length + 7) 1 0), (3, .pt (T.length + 1 + 7) 1 0), (53, .fn 35 [] [.pt (0 + ((tlV T n).length + 7)) 1 0, .pt (1 + ((tlV T n).length + 7)) 1 0])]
theorem getA (T : List Ob) (n : Int) : getO (tlV T n) T.length 1 = some ⟨1, [.pt 3 1 0]⟩ := by simp [getO]
theorem getB (T : List Ob) (n : Int) : getO (tlV T n) (T.length + 1) 1 = some ⟨1, [dInt n]⟩ := by simp [getO]
theorem tlW_safe {adj : Sl (Sl Int)} {T : List Ob} {n : Int} (hT : SafeT T) : SafeT (tlW adj T n) := fun m hm => by
  refine allB_append (allB_append (hT m hm) ?_) ?_
  · unfold AllB; simp [below, dInt]; omega
  · unfold AllB; simp [below, dInt]

theorem run_walk (adj : Sl (Sl Int)) (hr : ∀ r ∈ adj.l, r.l.length ≤ 1000000) (hs : adj.l.length ≤ 1000000) {S S' : TS} {n : Int} {k : Option (List Int)} (hrun : Run adj.l S n k S') :
    match k with
    | none => ∀ (idx low : List Int) (on : List Bool) (td : OS Int) (od : OS (Sl Int)) (u : Nat) (T : List Ob) (pd : List Ex), Rep adj.l S idx low on td od → SafeT T →
      ∃ idx' low' on' s' od' u' pd' B, X.Runs [] 29 [.pt 3 1 0, dInt n] ⟨finF adj idx low on S.cnt td od u T, pd⟩ (.tup []) ⟨finF adj idx' low' on' S'.cnt (some s') od' u' (T ++ B), pd'⟩ ∧ Rep adj.l S' idx' low' on' (some s') od' ∧ pd <+: pd'
    | some ys => ∀ (idx low : List Int) (on : List Bool) (s : OSt Int) (od : OS (Sl Int)) (u : Nat) (T : List Ob) (pd pd0 : List Ex), Rep adj.l S idx low on (some s) od → SafeT T → Nod adj.l n → (pd0 ++ [.normal]) <+: pd →
      Chain adj.l ((pd0.length, rctx 29 135 (vfr T n) #[54] (sub b29 (wp29 ++ [0])) (sub b29 (wp29 ++ [1]))) :: []) pd0.length (fun m => getO m.st (0 + ((tlV T n).length + 7)) 1 = some ⟨1, [.c (eSl adj)]⟩)
        (fun m => ∃ idx' low' on' s' od' u' pd', m = ⟨finF adj idx' low' on' S'.cnt (some s') od' u' (tlW adj T n), pd'⟩ ∧ Rep adj.l S' idx' low' on' (some s') od' ∧ (pd0 ++ [.normal]) <+: pd') ys ⟨finF adj idx low on S.cnt (some s) od u (tlW adj T n), pd⟩ := by
  have boxA : ∀ (idx low : List Int) (on : List Bool) (cnt : Int) (td : OS Int) (od : OS (Sl Int)) (u : Nat) (T : List Ob) (n : Int), getO (finF adj idx low on cnt td od u (tlW adj T n)) (0 + ((tlV T n).length + 7)) 1 = some ⟨1, [.c (eSl adj)]⟩ := fun idx low on cnt td od u T n => by
    simp only [finF, getO, Nat.zero_add, List.getElem?_cons_succ]
    rw [List.getElem?_append_right (Nat.le_refl _)]; simp
  have boxB : ∀ (idx low : List Int) (on : List Bool) (cnt : Int) (td : OS Int) (od : OS (Sl Int)) (u : Nat) (T : List Ob) (n : Int), getO (finF adj idx low on cnt td od u (tlW adj T n)) (1 + ((tlV T n).length + 7)) 1 = some ⟨1, [dInt n]⟩ := fun idx low on cnt td od u T n => by
    have e : 1 + ((tlV T n).length + 7) = ((tlV T n).length + 1) + 7 := by omega
    rw [e]
    simp only [finF, getO, List.getElem?_cons_succ]
    rw [List.getElem?_append_right (by omega)]; simp
  have mk : ∀ {T : List Ob} {n y : Int} {pd0 pd pd' : List Ex} {st st' : List Ob} {fr' : Nat → DV}, (pd0 ++ [.normal]) <+: pd → (pd0 ++ [.normal]) <+: pd' → X.Go 29 135 [] (.seq (sub b29 (wp29 ++ [0])) (sub b29 (wp29 ++ [1]))) ⟨setPs (fun t => unflag (vfr T n t)) [(54, dInt y)], ⟨st, pd⟩⟩ .normal ⟨fr', ⟨st', pd'⟩⟩ →
      X.Round ((pd0.length, rctx 29 135 (vfr T n) #[54] (sub b29 (wp29 ++ [0])) (sub b29 (wp29 ++ [1]))) :: []) pd0.length [dInt y] ⟨st, pd⟩ (dB true) ⟨st', pd'⟩ := fun {T n y pd0 pd pd' st st' fr'} hp hp' hgo => by
    have at_ : ∀ {p : List Ex}, (pd0 ++ [.normal]) <+: p → p[pd0.length]? = some .normal := fun {p} h => by
      obtain ⟨t, rfl⟩ := h
      simp
    have hrd := Sys.round1 (X := X) (Γ := []) (f := 29) (nt := 135) (ps := #[54]) (j := pd0.length) (args := [dInt y]) (by simp) rfl (at_ hp) rfl (by kernel_rfl) hgo rfl
    rw [set_same (at_ hp')] at hrd
    exact hrd
  induction hrun with
  | nil =>
    intro idx low on s od u T pd pd0 hrep hT hn hpd
    exact ⟨boxA _ _ _ _ _ _ _ _ _, idx, low, on, s, od, u, pd, rfl, hrep, hpd⟩
  | skip hny _ ih =>
    intro idx low on s od u T pd pd0 hrep hT hn hpd
    exact ⟨boxA _ _ _ _ _ _ _ _ _, fun h => absurd h hny, fun _ => ih idx low on s od u T pd pd0 hrep hT hn hpd⟩
  | @new S S1 S' n y ys hny h0 _ _ ih1 ih2 =>
    intro idx low on s od u T pd pd0 hrep hT hn hpd
    refine ⟨boxA _ _ _ _ _ _ _ _ _, fun _ => ?_, fun h => absurd hny h⟩
    obtain ⟨idx', low', on', s', od', u', pd', B, hv, hrep', hpre⟩ := ih1 idx low on (some s) od u (tlW adj T n) pd hrep (tlW_safe hT)
    have hpd' : (pd0 ++ [.normal]) <+: pd' := hpd.trans hpre
    have hlow := hrep'.lower (n := n) (v := S1.low y) hn
    have hnl : 0 ≤ n ∧ n < (low'.length : Int) := by rw [hrep'.ll]; exact hn
    exact ⟨_, mk hpd hpd' (visitR_1 adj idx low on S.cnt s.ver u s.x s.l s.r n y (od.dv 5) (.fn 35 [] [.pt (0 + ((tlV T n).length + 7)) 1 0, .pt (1 + ((tlV T n).length + 7)) 1 0]) od.ob (tlW adj T n) pd T.length (T.length + 1) (getO_left (getA T n)) (getO_left (getB T n)) (S.idx y) idx' low' on' S1.cnt s'.ver u' s'.x s'.l s'.r (od'.dv 5) od'.ob pd' (S1.low n) (S1.low y) hny (hrep.ix y hny) h0 ⟨_, hv, fin_trim (tlW_safe hT)⟩ hn (hrep'.lw n hn) (hrep'.lw y hny) hnl),
      ih2 idx' _ on' s' od' u' T pd' pd0 hlow hT hn hpd'⟩
  | @on S S' n y ys hny h0 hon _ ih =>
    intro idx low on s od u T pd pd0 hrep hT hn hpd
    refine ⟨boxA _ _ _ _ _ _ _ _ _, fun _ => ?_, fun h => absurd hny h⟩
    have hnl : 0 ≤ n ∧ n < (low.length : Int) := by rw [hrep.ll]; exact hn
    have hlow := hrep.lower (n := n) (v := S.idx y) hn
    have hony : on[y.toNat]? = some true := by rw [hrep.os y hny]; simp [hon]
    exact ⟨_, mk hpd hpd (visitR_2 adj idx low on S.cnt s.ver u s.x s.l s.r n y (od.dv 5) (.fn 35 [] [.pt (0 + ((tlV T n).length + 7)) 1 0, .pt (1 + ((tlV T n).length + 7)) 1 0]) od.ob (tlW adj T n) pd T.length (T.length + 1) (getO_left (getA T n)) (getO_left (getB T n)) (S.idx y) (S.low n) hny (hrep.ix y hny) h0 hony hn (hrep.lw n hn) hnl),
      ih idx _ on s od u T pd pd0 hlow hT hn hpd⟩
  | @off S S' n y ys hny h0 hon _ ih =>
    intro idx low on s od u T pd pd0 hrep hT hn hpd
    refine ⟨boxA _ _ _ _ _ _ _ _ _, fun _ => ?_, fun h => absurd hny h⟩
    have hony : on[y.toNat]? = some false := by rw [hrep.os y hny]; simp [hon]
    exact ⟨_, mk hpd hpd (visitR_3 adj idx low on S.cnt s.ver u s.x s.l s.r n y (od.dv 5) (.fn 35 [] [.pt (0 + ((tlV T n).length + 7)) 1 0, .pt (1 + ((tlV T n).length + 7)) 1 0]) od.ob (tlW adj T n) pd T.length (T.length + 1) (getO_left (getA T n)) (getO_left (getB T n)) (S.idx y) hny (hrep.ix y hny) h0 hony),
      ih idx low on s od u T pd pd0 hrep hT hn hpd⟩
  | @visit S S1 n row hn hrow hb _ hb1 hn1 ih =>
    intro idx low on td od u T pd hrep hT
    have h0 := visit0 (finF adj idx low on S.cnt td od u T) pd n
    rw [two_set] at h0
    have hni : 0 ≤ n ∧ n < (idx.length : Int) := by rw [hrep.il]; exact hn
    have hnl : 0 ≤ n ∧ n < (low.length : Int) := by rw [hrep.ll]; exact hn
    have hno : 0 ≤ n ∧ n < (on.length : Int) := by rw [hrep.ol]; exact hn
    have hc := hb.cnt
    have hstk := hb.stk
    have happ : ∀ l : List Int, dcells l ++ dcells ([] : List Int) = dcells l := fun l => List.append_nil _
    -- the range, from the state behind the push
    have range : ∀ s : OSt Int, OS.l (some s : OS Int) = OS.l td ++ [n] → ∃ idx' low' on' s' od' u' pd', X.Go 29 135 [] (sub b29 wp29) ⟨vfr T n, ⟨finF adj (idx.set n.toNat (S.cnt + 1)) (low.set n.toNat (S.cnt + 1)) (on.set n.toNat true) (S.cnt + 1) (some s) od u (tlW adj T n), pd ++ []⟩⟩ .normal ⟨vfr T n, ⟨finF adj idx' low' on' S1.cnt (some s') od' u' (tlW adj T n), pd'⟩⟩ ∧ Rep adj.l S1 idx' low' on' (some s') od' ∧ pd <+: pd' := fun s hs => by
      have hch := ih _ _ _ s od u T ((pd ++ []) ++ [.normal]) (pd ++ []) (hrep.push hn hs) hT hn List.prefix_rfl
      obtain ⟨m', hruns, hend⟩ := arcs_range (adj := adj) (fr := n) hn hrow (hr row (List.mem_of_getElem? hrow)) (((pd ++ []).length, rctx 29 135 (vfr T n) #[54] (sub b29 (wp29 ++ [0])) (sub b29 (wp29 ++ [1]))) :: []) (pd ++ []).length (0 + ((tlV T n).length + 7)) 1 (1 + ((tlV T n).length + 7)) 1
        (fun k m => Chain adj.l (((pd ++ []).length, rctx 29 135 (vfr T n) #[54] (sub b29 (wp29 ++ [0])) (sub b29 (wp29 ++ [1]))) :: []) (pd ++ []).length (fun m => getO m.st (0 + ((tlV T n).length + 7)) 1 = some ⟨1, [.c (eSl adj)]⟩)
          (fun m => ∃ idx' low' on' s' od' u' pd', m = ⟨finF adj idx' low' on' S1.cnt (some s') od' u' (tlW adj T n), pd'⟩ ∧ Rep adj.l S1 idx' low' on' (some s') od' ∧ ((pd ++ []) ++ [.normal]) <+: pd') (row.l.drop k) m)
        (fun k m h => h.box)
        (by
          intro k m y hI hy hny
          obtain ⟨hlt, rfl⟩ := List.getElem?_eq_some_iff.1 hy
          rw [List.drop_eq_getElem_cons hlt] at hI
          exact hI.2.1 hny)
        (by
          intro k m y hI hy hny
          obtain ⟨hlt, rfl⟩ := List.getElem?_eq_some_iff.1 hy
          rw [List.drop_eq_getElem_cons hlt] at hI
          exact hI.2.2 hny)
        ⟨finF adj (idx.set n.toNat (S.cnt + 1)) (low.set n.toNat (S.cnt + 1)) (on.set n.toNat true) (S.cnt + 1) (some s) od u (tlW adj T n), (pd ++ []) ++ [.normal]⟩ hch (boxB _ _ _ _ _ _ _ _ _)
      rw [List.drop_length] at hend
      obtain ⟨_, idx', low', on', s', od', u', pd', rfl, hrep', hpre⟩ := hend
      refine ⟨idx', low', on', s', od', u', pd', Sys.range1 at29 rfl (by kernel_rfl) hruns ?_ (by kernel_rfl), hrep', ?_⟩
      · obtain ⟨t, rfl⟩ := hpre
        simp
      · rw [List.append_nil] at hpre
        exact (List.prefix_append pd [.normal]).trans hpre
    have finish : ∀ {st : List Ob} {pd' : List Ex} {fr : Nat → DV}, X.Go 29 135 [] (sub b29 [1]) ⟨fl [(2, .pt (T.length + 7) 1 0), (3, .pt (T.length + 1 + 7) 1 0)], ⟨finF adj idx low on S.cnt td od u (tlV T n), pd⟩⟩ .normal ⟨fr, ⟨st, pd'⟩⟩ → X.Runs [] 29 [.pt 3 1 0, dInt n] ⟨finF adj idx low on S.cnt td od u T, pd⟩ (.tup []) ⟨st, pd'⟩ := fun {st pd' fr} hgo =>
      Sys.call (X := X) (f := 29) (fn := Try.f29) (Γ := []) (c := .seq (sub b29 [0]) (sub b29 [1])) (args := [.pt 3 1 0, dInt n]) (d := .tup []) (Sys.seq h0 hgo) (by kernel_rfl) (by kernel_rfl) rfl (by kernel_rfl) rfl
    have hB : ∀ (x : List Ob), tlW adj T n = T ++ ([⟨1, [.pt 3 1 0]⟩, ⟨1, [dInt n]⟩] ++ [⟨1, [.c (eSl adj)]⟩, ⟨1, [dInt n]⟩]) := fun _ => List.append_assoc _ _ _
    have harcs := arcsM_1 adj n
    cases td with
    | none =>
      obtain ⟨idx', low', on', s', od', u', pd', hgo, hrep', hpre⟩ := range ⟨1, false, [n], []⟩ rfl
      simp only [finF, OS.ob, OS.dv, happ] at hgo
      by_cases heq : S1.low n = S1.idx n
      · obtain ⟨on'', s'', od'', u'', hcl, hrep''⟩ := close_runs adj S1 idx' low' on' S1.cnt (some s') od' u' (tlW adj T n) pd' n hrep' hb1 hn1
        have hg := visitN_1 adj idx low on S.cnt u n (od.dv 5) od.ob (tlV T n) pd T.length (T.length + 1) (getA T n) (getB T n) idx' low' on' S1.cnt s'.ver u' s'.x s'.l s'.r (od'.dv 5) od'.ob pd' (S1.low n) (S1.idx n) idx' low' on'' S1.cnt s''.ver u'' s''.x s''.l s''.r (od''.dv 5) od''.ob (by omega) hn hni hnl hno harcs hgo (hrep'.lw n hn) (hrep'.ix n hn) heq hcl
        have hfin : S1.fin n = S1.close n := by unfold TS.fin; rw [if_pos heq]
        rw [hfin]
        exact ⟨idx', low', on'', s'', od'', u'', pd', _, by rw [← hB []]; exact finish hg, hrep'', hpre⟩
      · have hg := visitN_2 adj idx low on S.cnt u n (od.dv 5) od.ob (tlV T n) pd T.length (T.length + 1) (getA T n) (getB T n) idx' low' on' S1.cnt s'.ver u' s'.x s'.l s'.r (od'.dv 5) od'.ob pd' (S1.low n) (S1.idx n) (by omega) hn hni hnl hno harcs hgo (hrep'.lw n hn) (hrep'.ix n hn) heq
        have hfin : S1.fin n = S1 := by unfold TS.fin; rw [if_neg heq]
        rw [hfin]
        exact ⟨idx', low', on', s', od', u', pd', _, by rw [← hB []]; exact finish hg, hrep', hpre⟩
    | some s =>
      obtain ⟨idx', low', on', s', od', u', pd', hgo, hrep', hpre⟩ := range ⟨s.ver + 1, false, s.l ++ [n], []⟩ rfl
      simp only [finF, OS.ob, OS.dv, happ] at hgo
      have hsl : s.l.length ≤ 1000000 := by
        have := hrep.st
        simp only [OS.l] at this
        rw [this]; exact hstk
      by_cases heq : S1.low n = S1.idx n
      · obtain ⟨on'', s'', od'', u'', hcl, hrep''⟩ := close_runs adj S1 idx' low' on' S1.cnt (some s') od' u' (tlW adj T n) pd' n hrep' hb1 hn1
        have hg := visitS_1 adj idx low on S.cnt u n (od.dv 5) od.ob (tlV T n) pd T.length (T.length + 1) s.ver s.x s.l s.r (getA T n) (getB T n) idx' low' on' S1.cnt s'.ver u' s'.x s'.l s'.r (od'.dv 5) od'.ob pd' (S1.low n) (S1.idx n) idx' low' on'' S1.cnt s''.ver u'' s''.x s''.l s''.r (od''.dv 5) od''.ob (by omega) hn hni hnl (by simp; omega) hno harcs hgo (hrep'.lw n hn) (hrep'.ix n hn) heq hcl
        have hfin : S1.fin n = S1.close n := by unfold TS.fin; rw [if_pos heq]
        rw [hfin]
        exact ⟨idx', low', on'', s'', od'', u'', pd', _, by rw [← hB []]; exact finish hg, hrep'', hpre⟩
      · have hg := visitS_2 adj idx low on S.cnt u n (od.dv 5) od.ob (tlV T n) pd T.length (T.length + 1) s.ver s.x s.l s.r (getA T n) (getB T n) idx' low' on' S1.cnt s'.ver u' s'.x s'.l s'.r (od'.dv 5) od'.ob pd' (S1.low n) (S1.idx n) (by omega) hn hni hnl (by simp; omega) hno harcs hgo (hrep'.lw n hn) (hrep'.ix n hn) heq
        have hfin : S1.fin n = S1 := by unfold TS.fin; rw [if_neg heq]
        rw [hfin]
        exact ⟨idx', low', on', s', od', u', pd', _, by rw [← hB []]; exact finish hg, hrep', hpre⟩
end Go.Proofs.Ytclnpjnodmfkcaa
