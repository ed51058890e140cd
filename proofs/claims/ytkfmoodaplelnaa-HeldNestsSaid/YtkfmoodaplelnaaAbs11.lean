/-
  Abs11: stores, loads that take the right along, copy.
-/
import Derived.Test.YtkfmoodaplelnaaAbs10
set_option linter.unusedVariables false
set_option linter.unusedSectionVars false
namespace Go.Abs
open Go
variable [Fl]

section
variable {P : Program} {n0 : Nat} {PR : Addr → Prop} {e : E} {reg : Own → Addr → Prop} {fr : Nat → DV} {tm : Array Value} {df : List Deferred}

theorem at_inj {f : Fp} {i j : Nat} (h : f.at i = f.at j) : i = j := by unfold Fp.at at h; injection h with _ h _; omega

theorem MI.write (m : MI n0 PR e reg) {id : Nat} {o : Ob} (ho : e.st[id]? = some o) {off : Nat} {ds : List DV} {us : List Value} (hl : ds.length = us.length) (hk : ds.all cellOk = true) (hoff : off + ds.length ≤ o.cs.length)
    {w' : World} (hw : Wr e.w w' (fun a => ∃ j, j < us.length ∧ a = (e.io id).at (off + j))) (hcell : ∀ (j : Nat) v, us[j]? = some v → w'.cell? ((e.io id).at (off + j)) = some v)
    {q : Own → Addr → Prop} (qa : ∀ p a, q p a → ∃ p', reg p' a) (qd : ∀ p p' a, q p a → q p' a → p = p') (qo : ∀ j a, reg (.ob j) a → q (.ob j) a)
    (qc : ∀ j i a, ¬ (j = id ∧ off ≤ i ∧ i < off + ds.length) → reg (.cell j i) a → q (.cell j i) a)
    (hr : ∀ (i : Nat) d v, ds[i]? = some d → us[i]? = some v → RD e (q (.cell id (off + i))) d v) :
    MI n0 PR { e with w := w', st := e.st.set id ⟨o.ver, setL o.cs off ds⟩, io := updIo e.io id (e.io id) } q ∧ Ext e { e with w := w', st := e.st.set id ⟨o.ver, setL o.cs off ds⟩, io := updIo e.io id (e.io id) } := by
  have hext := m.ext id o ho
  refine m.obj ho hw (fun a ⟨j, hj, ha⟩ => by rw [ha]; exact m.own id o ho _ (by omega)) (fun a ⟨j, hj, ha⟩ => by rw [ha]; exact ⟨us[j], hcell j _ (List.getElem?_eq_getElem hj)⟩) qa qd (fun j hj a => qo j a) (fun j hj i a => qc j i a (fun h => hj h.1))
    (fun i hi => qo id _ (m.own id o ho i hi)) (by rw [setL_len]; exact hext) ⟨Nat.le_refl _, fun _ => rfl⟩ (fun i d hd => ?_)
  by_cases hin : off ≤ i ∧ i < off + ds.length
  · obtain ⟨j, rfl⟩ : ∃ j, i = off + j := ⟨i - off, by omega⟩
    have hj : j < ds.length := by omega
    have hdj : ds[j]? = some d := by rw [← setL_in o.cs off ds j hoff hj]; exact hd
    have huj : us[j]? = some (us[j]'(by omega)) := List.getElem?_eq_getElem (by omega)
    exact ⟨(List.all_eq_true.1 hk) d (List.mem_of_getElem? hdj), _, hcell j _ huj, hr j d _ hdj huj⟩
  · have hd' : o.cs[i]? = some d := by rw [← setL_out o.cs off ds i (by omega)]; exact hd
    obtain ⟨h1, v, h2, h3⟩ := m.cell id o ho i d hd'
    refine ⟨h1, v, (hw.cell _ ?_).trans h2, h3.weak (fun a ha => qc id i a (fun h => hin h.2) ha)⟩
    rintro ⟨j, hj, hh⟩
    have := at_inj hh
    omega

theorem storeAt_run {t : TypeId} {f : Fp} {off k : Nat} {v : Value} {us : List Value} {w : World} (hsz : sizeT P t = some k) (hv : v.cells = ⟨us⟩) (hl : us.length = k) (h1 : ∀ u ∈ us, u.oneCell' = true)
    (h2 : ∀ j, j < us.length → (∃ v, w.cell? (f.at (off + j)) = some v) ∧ w.frozen? (f.at (off + j)) = false) :
    ∃ w', (Instr.storeAt t (.pointer (some (f.at off))) v).run P w = .ok () w' ∧ Wr w w' (fun a => ∃ j, j < us.length ∧ a = f.at (off + j)) ∧ ∀ (j : Nat) u, us[j]? = some u → w'.cell? (f.at (off + j)) = some u := by
  obtain ⟨w', r1, r2, r3⟩ := storeCells_run (P := P) f.b (f.off + off) us 0 w h1 (fun j hj => by have := h2 j hj; simpa [Fp.at, Nat.add_assoc] using this)
  refine ⟨w', ?_, by simpa [Fp.at, Nat.add_assoc] using r2, fun j u hu => by have := r3 j u hu; simpa [Fp.at, Nat.add_assoc] using this⟩
  have hne : ¬ ((⟨us⟩ : Array Value).size ≠ k) := by simp [hl]
  simp only [Instr.storeAt, Instr.sureAddr, pure_bind, storeVar, Sem.run_bind, sizeT_run hsz, Result.andThen_ok, hv, if_neg hne]
  exact r1

theorem storeD_some {st : List Ob} {t : TypeId} {x v : DV} {y : Nat × Ob} (h : storeD P st t x v = some y) :
    ∃ id ver off vs k o, x = .pt id ver off ∧ cellsOf v = some vs ∧ sizeT P t = some k ∧ st[id]? = some o ∧ o.ver = ver ∧ vs.length = k ∧ off + k ≤ o.cs.length ∧ y = (id, ⟨ver, setL o.cs off vs⟩) := by
  unfold storeD at h
  split at h
  · rename_i id ver off vs k hc hs
    split at h
    · rename_i o ho
      split at h
      · rename_i hh
        cases h
        obtain ⟨h1, h2⟩ := getO_some ho
        exact ⟨id, ver, off, vs, k, o, rfl, hc, hs, h1, h2, hh.1, hh.2, rfl⟩
      · cases h
    · cases h
  · cases h

theorem store_sound (m : MI n0 PR e reg) {o : Oper} {t : TypeId} {x y : Operand} (ho : o.op = .store t x y) (hf : ∀ t, RD e (reg (.slot t)) (fr t) (tm.getD t undef)) {c : Site} {r : Out}
    (h : (if c.mv then (storeD P e.st t (ev fr x) (raw fr y)).map fun e => ({ d := .tup [], set := some e, drop := tmpOf y } : Out) else (storeD P e.st t (ev fr x) (ev fr y)).map fun e => ({ d := .tup [], set := some e } : Out)) = some r) : ∃ v e' reg', Done P n0 PR e reg o ⟨tm, df⟩ r v e' reg' := by
  have hev : ∀ x s, RD e s (ev fr x) ((⟨tm, df⟩ : Act).eval x) := fun x s => ev_rd hf x
  -- a store of cells with given rights
  have main : ∀ (d : DV) (yy : Nat × Ob) (drop : List Tmp) (q : Own → Addr → Prop), storeD P e.st t (ev fr x) d = some yy → ∀ (ds : List DV) (us : List Value), cellsOf d = some ds → ds.all cellOk = true → ((⟨tm, df⟩ : Act).eval y).cells = ⟨us⟩ → ds.length = us.length → (∀ u ∈ us, u.oneCell' = true) →
      (∀ p a, q p a → ∃ p', reg p' a) → (∀ p p' a, q p a → q p' a → p = p') → (∀ j a, reg (.ob j) a → q (.ob j) a) →
      (∀ id off, ev fr x = .pt id yy.2.ver off → (∀ j i a, ¬ (j = id ∧ off ≤ i ∧ i < off + ds.length) → reg (.cell j i) a → q (.cell j i) a) ∧ (∀ (i : Nat) d v, ds[i]? = some d → us[i]? = some v → RD e (q (.cell id (off + i))) d v)) →
      (∀ t, t ∉ drop → ∀ a, reg (.slot t) a → q (.slot t) a) → ∃ v e' reg', Done P n0 PR e reg o ⟨tm, df⟩ { d := .tup [], set := some yy, drop } v e' reg' := by
    intro d yy drop q hs ds us hc hk hv hl h1 qa qd qo qx qs
    obtain ⟨id, ver, off, vs, k, ob, hx, hc', hsz, hob, hver, hvl, hle, rfl⟩ := storeD_some hs
    rw [hc] at hc'; cases hc'
    obtain ⟨qc, hr⟩ := qx id off hx
    have hrx := hev x (fun _ => False)
    rw [hx] at hrx
    generalize hax : (⟨tm, df⟩ : Act).eval x = ax at hrx
    cases hrx with
    | pt hid hv' =>
      have ha := (hv' ob hob).2 hver.symm
      have hext := m.ext id ob hob
      obtain ⟨w', r1, r2, r3⟩ := storeAt_run (P := P) (t := t) (f := e.io id) (off := off) (w := e.w) hsz hv (by omega) h1 (fun j hj => by
        have := m.ok _ _ (m.own id ob hob (off + j) (by omega))
        exact ⟨this.2.1, this.2.2.1⟩)
      obtain ⟨g1, g2⟩ := m.write hob hl hk (by omega) r2 r3 qa qd qo qc hr
      subst hver
      refine ⟨undef, _, q, .inr ⟨?_, rfl⟩, rfl, g1, g2, r2.keep (fun a ⟨j, hj, ha⟩ => ?_) _, .tup .nil, qs⟩
      · simp only [execOp, ho, Sem.run_bind, hax, ha, r1, Result.andThen_ok, Sem.run_pure]
      · have := m.ok _ _ (m.own id ob hob (off + j) (by omega))
        rw [ha]
        exact ⟨this.1, this.2.2.2.2⟩
  -- the plain store
  have plain : ∀ (d : DV) (yy : Nat × Ob) (drop : List Tmp), unflag d = d → (∀ s, RD e s d ((⟨tm, df⟩ : Act).eval y)) → storeD P e.st t (ev fr x) d = some yy → ∃ v e' reg', Done P n0 PR e reg o ⟨tm, df⟩ { d := .tup [], set := some yy, drop } v e' reg' := by
    intro d yy drop hpl hd hs
    obtain ⟨id, ver, off, vs, k, ob, hx, hc, hsz, hob, hver, hvl, hle, hyy⟩ := storeD_some hs
    obtain ⟨hk, us, hu, hr⟩ := cellsOf_ev hpl hc (hd (fun _ => False))
    refine main d yy drop (fun p a => match p with | .cell j i => ¬ (j = id ∧ off ≤ i ∧ i < off + vs.length) ∧ reg p a | _ => reg p a) hs vs us hc hk hu hr.length (hr.one hk) ?_ ?_ (fun j a h => h) ?_ (fun t _ a h => h)
    · intro p a h
      cases p <;> first | exact ⟨_, h⟩ | exact ⟨_, h.2⟩
    · intro p p' a h1 h2
      have key : ∀ p, (match p with | .cell j i => ¬ (j = id ∧ off ≤ i ∧ i < off + vs.length) ∧ reg p a | _ => reg p a) → reg p a := fun p h => by cases p <;> first | exact h | exact h.2
      exact m.disj p p' a (key p h1) (key p' h2)
    · intro id' off' hx'
      rw [hx] at hx'
      injection hx' with e1 e2 e3
      subst e1; subst e3
      exact ⟨fun j i a hn ha => ⟨hn, ha⟩, fun i d v h1 h2 => by
        obtain ⟨v', hv', hr'⟩ := hr.get h1
        rw [h2] at hv'; cases hv'
        exact hr'.weak (fun _ h => h.elim)⟩
  split at h
  · rw [Option.map_eq_some_iff] at h
    obtain ⟨yy, hs, rfl⟩ := h
    cases y with
    | tmp ty =>
      simp only [raw] at hs ⊢
      by_cases hpl : unflag (fr ty) = fr ty
      · exact plain (fr ty) yy _ hpl (fun s => (hf ty).plain hpl) hs
      · -- the slot's right goes to the cell
        obtain ⟨id, ver, off, vs, k, ob, hx, hc, hsz, hob, hver, hvl, hle, hyy⟩ := storeD_some hs
        have hap : ∃ nl cs len esz, fr ty = .ap nl cs len esz := by
          cases hfr : fr ty <;> simp [hfr, Abs.unflag] at hpl
          exact ⟨_, _, _, _, rfl⟩
        obtain ⟨nl, cs, len, esz, hap⟩ := hap
        have hvs : vs = [fr ty] := by rw [hap] at hc ⊢; simp [cellsOf, cellOk] at hc; exact hc.symm
        subst hvs
        have hone : ((⟨tm, df⟩ : Act).eval (.tmp ty)).oneCell' = true := oneCell_of (by rw [hap]; rfl) (hf ty)
        refine main (fr ty) yy [ty] (fun p a => match p with | .cell j i => if j = id ∧ i = off then reg (.slot ty) a else reg p a | .slot u => u ≠ ty ∧ reg p a | _ => reg p a) hs [fr ty] [(⟨tm, df⟩ : Act).eval (.tmp ty)] hc (by rw [hap]; rfl) (cells_one hone) rfl
          (by simpa using hone) ?_ ?_ (fun j a h => h) ?_ ?_
        · intro p a h
          cases p with
          | cell j i => simp only at h; split at h <;> exact ⟨_, h⟩
          | slot u => exact ⟨_, h.2⟩
          | _ => exact ⟨_, h⟩
        · intro p p' a h1 h2
          have key : ∀ p, (match p with | .cell j i => if j = id ∧ i = off then reg (.slot ty) a else reg p a | .slot u => u ≠ ty ∧ reg p a | _ => reg p a) → (p = .cell id off ∧ reg (.slot ty) a) ∨ (p ≠ .slot ty ∧ reg p a) := fun p h => by
            cases p with
            | cell j i =>
              simp only at h
              split at h
              · rename_i hh; exact .inl ⟨by rw [hh.1, hh.2], h⟩
              · exact .inr ⟨by simp, h⟩
            | slot u => exact .inr ⟨fun hh => h.1 (by injection hh), h.2⟩
            | ob j => exact .inr ⟨by simp, h⟩
            | res => exact .inr ⟨by simp, h⟩
          rcases key p h1 with ⟨g1, g2⟩ | ⟨g1, g2⟩ <;> rcases key p' h2 with ⟨g3, g4⟩ | ⟨g3, g4⟩
          · rw [g1, g3]
          · exact absurd (m.disj _ _ a g2 g4).symm g3
          · exact absurd (m.disj _ _ a g4 g2).symm g1
          · exact m.disj _ _ a g2 g4
        · intro id' off' hx'
          rw [hx] at hx'
          injection hx' with e1 e2 e3
          subst e1; subst e3
          refine ⟨fun j i a hn ha => ?_, fun i d v h1 h2 => ?_⟩
          · have : ¬ (j = id ∧ i = off) := fun hh => hn ⟨hh.1, by omega, by simp; omega⟩
            simp only [if_neg this]; exact ha
          · cases i with
            | zero =>
              simp at h1 h2
              subst h1; subst h2
              simp only [Nat.add_zero, and_self, if_true]
              exact hf ty
            | succ i => simp at h1
        · intro u hu a ha
          exact ⟨fun hh => hu (by simp [hh]), ha⟩
    | _ => exact plain _ yy _ (ev_plain fr _) (fun s => hev _ s) hs
  · rw [Option.map_eq_some_iff] at h
    obtain ⟨yy, hs, rfl⟩ := h
    exact plain _ yy _ (ev_plain fr y) (fun s => hev y s) hs

theorem load_done (m : MI n0 PR e reg) (hres : ∀ a, ¬ reg .res a) {o : Oper} {t : TypeId} {x : Operand} (ho : o.op = .load t x) {a : Act} (hev : ∀ x s, RD e s (ev fr x) (a.eval x)) {c : Site} {r : Out}
    (h : opS P c (.load t x) fr e.st = some r) : ∃ v e' reg', Done P n0 PR e reg o a r v e' reg' := by
  simp only [opS] at h
  split at h
  · split at h
    · rename_i id ver off hx hagg
      split at h
      · rename_i ob hob
        rw [Option.map_eq_some_iff] at h
        obtain ⟨d, hd, rfl⟩ := h
        obtain ⟨h1, h2⟩ := getO_some hob
        subst h2
        have hrx := hev x (fun _ => False)
        rw [hx] at hrx
        generalize hax : a.eval x = ax at hrx
        cases hrx with
        | pt hid hv =>
          have ha := (hv ob h1).2 rfl
          obtain ⟨hk, v, hcell, hr⟩ := m.cell id ob h1 off d hd
          have hlt : off < ob.cs.length := (List.getElem?_eq_some_iff.1 hd).1
          let q : Own → Addr → Prop := fun p a => match p with | .res => reg (.cell id off) a | .cell j i => ¬ (j = id ∧ i = off) ∧ reg p a | _ => reg p a
          have key : ∀ p a, q p a → (p = .res ∧ reg (.cell id off) a) ∨ (p ≠ .cell id off ∧ p ≠ .res ∧ reg p a) := fun p a h => by
            cases p with
            | res => exact .inl ⟨rfl, h⟩
            | cell j i => exact .inr ⟨fun hh => h.1 (by injection hh with e1 e2; exact ⟨e1, e2⟩), by simp, h.2⟩
            | slot u => exact .inr ⟨by simp, by simp, h⟩
            | ob j => exact .inr ⟨by simp, by simp, h⟩
          obtain ⟨g1, g2⟩ := m.obj (o' := ⟨ob.ver, ob.cs.set off (unflag d)⟩) (f' := e.io id) (w' := e.w) (S := fun _ => False) h1 (Wr.refl _ _) (fun a h => h.elim) (fun a h => h.elim) (q := q)
            (fun p a h => by rcases key p a h with ⟨_, h⟩ | ⟨_, _, h⟩ <;> exact ⟨_, h⟩)
            (fun p p' a h1 h2 => by
              rcases key p a h1 with ⟨g1, g2⟩ | ⟨g1, g1', g2⟩ <;> rcases key p' a h2 with ⟨g3, g4⟩ | ⟨g3, g3', g4⟩
              · rw [g1, g3]
              · exact absurd (m.disj _ _ a g2 g4).symm g3
              · exact absurd (m.disj _ _ a g4 g2).symm g1
              · exact m.disj _ _ a g2 g4)
            (fun j _ a h => h) (fun j hj i a h => ⟨fun hh => hj hh.1, h⟩) (fun i hi => m.own id ob h1 i hi) (by simpa using m.ext id ob h1) ⟨Nat.le_refl _, fun _ => rfl⟩
            (fun i d' hd' => by
              by_cases hi : i = off
              · subst hi
                have : d' = unflag d := by simp only at hd'; rw [List.getElem?_set_self hlt] at hd'; cases hd'; rfl
                subst this
                exact ⟨unflag_ok hk, v, hcell, hr.unflag⟩
              · have hd2 : ob.cs[i]? = some d' := by simp only at hd'; rw [List.getElem?_set_ne (by omega)] at hd'; exact hd'
                obtain ⟨k1, v', k2, k3⟩ := m.cell id ob h1 i d' hd2
                exact ⟨k1, v', k2, k3.weak fun a ha => ⟨fun hh => hi hh.2, ha⟩⟩)
          refine ⟨v, _, q, .inl ?_, rfl, g1, g2, Keep.refl .., (hr.mono g2 (fun a ha => ha)), fun t _ a h => h⟩
          simp only [execOp, ho, Sem.run_bind, hax, ha, Instr.loadAt, Instr.sureAddr, pure_bind, loadVar_one hagg hcell, Result.andThen_ok, Sem.run_pure]
      · cases h
    · cases h
  · obtain ⟨d, hd, rfl⟩ := val_some h
    obtain ⟨u, hu, _⟩ := load_sound m (s' := fun _ => False) hd (hev x (fun _ => False))
    refine done_pure m (sm := Instr.loadAt t (a.eval x)) ⟨u, hu, fun s => ?_⟩ (by simp [execOp, ho])
    obtain ⟨u', hu', hr'⟩ := load_sound m (s' := s) hd (hev x (fun _ => False))
    rw [hu] at hu'
    injection hu' with e1 e2
    rw [e1]; exact hr'
end
end Go.Abs
