/-
  Abs17: a call on a store of its own.
-/
import Derived.Test.YtkfmoodaplelnaaAbs16
set_option linter.unusedVariables false
set_option linter.unusedSimpArgs false
set_option linter.unusedSectionVars false
namespace Go.Abs
open Go
variable [Fl]
variable [Gl]

section
variable {P : Program} {n0 : Nat} {PR : Addr → Prop} {Γ : List (Nat × Ctx)} {e e' : E} {reg reg' : Own → Addr → Prop} {m : M} {r : Option Nat} {k0 nt : Nat} {fr : Nat → DV} {a : Act}

/-- What was the call's own is never written any more. -/
def shut (e : E) (reg : Own → Addr → Prop) : Addr → Prop := fun a => e.im a ∨ ∃ id, reg (.ob id) a

theorem closeD_ok : ∀ {n : Nat} {st : List Ob} {d : DV} {c : CV}, closeD n st d = some c → cellOk d = true → cvOk c = true
  | 0, _, _, _, h, _ => by simp [closeD] at h
  | n + 1, st, d, c, h, hk => by
    cases d with
    | c v => simp only [closeD] at h; cases h; exact hk
    | ap nl cs len esz => simp only [closeD] at h; cases h; rfl
    | ms id ver off len esz x =>
      simp only [closeD] at h
      split at h
      · rw [Option.bind_eq_some_iff] at h
        obtain ⟨ds, _, h⟩ := h
        rw [Option.map_eq_some_iff] at h
        obtain ⟨cs, _, rfl⟩ := h
        rfl
      · cases h
    | agg ds => simp [cellOk] at hk
    | _ => simp [closeD] at h

theorem closeD_rd (mi : MI n0 PR e reg) : ∀ (n : Nat) {d : DV} {c : CV} {v : Value} {s : Addr → Prop}, closeD n e.st d = some c → RD e s d v → RC (shut e reg) e.w c v
  | 0, _, _, _, _, h, _ => by simp [closeD] at h
  | n + 1, d, c, v, s, h, hr => by
    have up : ∀ {c : CV} {v : Value}, RC e.im e.w c v → RC (shut e reg) e.w c v := fun h => h.mono (fun _ h => .inl h) (fun _ _ => rfl)
    have go : ∀ {ds : List DV} {cs : List CV} {vs : List Value}, closeList (closeD n e.st) ds = some cs → ds.all cellOk = true → RDw e ds vs → RCs (shut e reg) e.w cs vs := fun {ds} => by
      induction ds with
      | nil => intro cs vs h _ hr; simp only [closeList] at h; cases h; cases hr; exact .nil
      | cons d ds ih =>
        intro cs vs h hk hr
        simp only [closeList] at h
        simp only [List.all_cons, Bool.and_eq_true] at hk
        split at h
        · rename_i c cs' h1 h2
          cases h
          cases hr with
          | cons a b => exact .cons (closeD_ok h1 hk.1) (closeD_rd mi n h1 a) (ih h2 hk.2 b)
        · cases h
    cases d with
    | c v => simp only [closeD] at h; cases h; cases hr with | c hr => exact up hr
    | ap nl cs len esz =>
      simp only [closeD] at h; cases h
      have := hr.unflag (s' := s)
      simp only [Abs.unflag] at this
      cases this with | c hr => exact up hr
    | agg ds =>
      simp only [closeD] at h
      rw [Option.map_eq_some_iff] at h
      obtain ⟨cs, hcs, rfl⟩ := h
      cases hr with
      | agg hk hr => exact .agg (go hcs hk hr.w)
    | ms id ver off len esz x =>
      simp only [closeD] at h
      split at h
      · rename_i o ho
        rw [Option.bind_eq_some_iff] at h
        obtain ⟨ds, hds, h⟩ := h
        rw [Option.map_eq_some_iff] at h
        obtain ⟨cs, hcs, rfl⟩ := h
        obtain ⟨g1, rfl⟩ := getO_some ho
        obtain ⟨vs, hl, hcell, hrw, hk⟩ := mi.cells g1 hds
        cases hr with
        | ms hid hle hx hv =>
          rename_i a cap
          obtain ⟨q1, q2⟩ := (hv o g1).2 rfl
          refine .sl (go hcs hk hrw) (fun i v hi => ?_) hle hx
          have hlt : i < vs.length := (List.getElem?_eq_some_iff.1 hi).1
          have hle2 : len * esz ≤ cap * esz := Nat.mul_le_mul_right _ hle
          rcases q1 with q1 | q1
          · rw [q1] at hle2; omega
          · subst q1
            refine ⟨hcell i v hi, .inr ⟨id, ?_⟩⟩
            rw [at_add]
            exact mi.own id o g1 _ (by omega)
      · cases h
    | _ => simp [closeD] at h

theorem closeGo_rd (mi : MI n0 PR e reg) {n : Nat} : ∀ {ds : List DV} {cs : List CV} {vs : List Value} {e2 : E}, closeList (closeD n e.st) ds = some cs → RDs e ds vs → e2.im = shut e reg → e2.w = e.w → RDs e2 (cs.map .c) vs
  | [], cs, _, e2, h, .nil, _, _ => by simp only [closeList] at h; cases h; exact .nil
  | d :: ds, cs, _, e2, h, .cons a b, h1, h2 => by
    simp only [closeList] at h
    split at h
    · rename_i c cs' hc hcs
      cases h
      refine .cons (.c ?_) (closeGo_rd mi hcs b h1 h2)
      rw [h1, h2]; exact closeD_rd mi n hc a
    · cases h

theorem closeTop_rd (mi : MI n0 PR e reg) {d d' : DV} {v : Value} {s : Addr → Prop} (h : closeTop e.st d = some d') (hr : RD e s d v) {e2 : E} (h1 : e2.im = shut e reg) (h2 : e2.w = e.w) : RD e2 s d' v := by
  have up : ∀ {c : CV} {v : Value}, RC e.im e.w c v → RC e2.im e2.w c v := fun h => by rw [h1, h2]; exact h.mono (fun _ h => .inl h) (fun _ _ => rfl)
  have ups : ∀ {c : List CV} {v : List Value}, RCs e.im e.w c v → RCs e2.im e2.w c v := fun h => by rw [h1, h2]; exact h.mono (fun _ h => .inl h) (fun _ _ => rfl)
  have other : ∀ {d d' : DV}, (closeD 9 e.st d).map .c = some d' → RD e s d v → RD e2 s d' v := fun {d d'} h hr => by
    rw [Option.map_eq_some_iff] at h
    obtain ⟨c, hc, rfl⟩ := h
    refine .c ?_
    rw [h1, h2]; exact closeD_rd mi 9 hc hr
  cases d with
  | c v => simp only [closeTop] at h; cases h; cases hr with | c hr => exact .c (up hr)
  | ap nl cs len esz =>
    simp only [closeTop] at h; cases h
    cases hr with
    | apnil => exact .apnil
    | ap hr hc hl hn hs => exact .ap (ups hr) (fun i v hv => ⟨by rw [h2]; exact (hc i v hv).1, by rw [h1]; exact .inl (hc i v hv).2⟩) hl hn hs
  | tup ds =>
    simp only [closeTop] at h
    rw [Option.map_eq_some_iff] at h
    obtain ⟨cs, hcs, rfl⟩ := h
    cases hr with
    | tup hr => exact .tup (closeGo_rd mi hcs hr h1 h2)
  | _ => exact other (by simpa only [closeTop] using h) hr

/-! ### what is kept open is laid behind the store -/
theorem shiftL_len (n p : Nat) : ∀ ds : List DV, (shiftL n p ds).length = ds.length
  | [] => rfl
  | d :: ds => by simp [shiftL, shiftL_len n p ds]
theorem shiftL_get (n p : Nat) : ∀ (ds : List DV) (i : Nat), (shiftL n p ds)[i]? = (ds[i]?).map (shift n p)
  | [], i => by simp [shiftL]
  | d :: ds, 0 => by simp [shiftL]
  | d :: ds, i + 1 => by simp [shiftL, shiftL_get n p ds i]
theorem shift_ok (n p : Nat) (d : DV) : cellOk (shift n p d) = cellOk d := by cases d <;> simp [shift, cellOk]
theorem shiftL_all (n p : Nat) : ∀ ds : List DV, (shiftL n p ds).all cellOk = ds.all cellOk
  | [] => rfl
  | d :: ds => by simp [shiftL, shift_ok, shiftL_all n p ds]

/-- Two stores side by side. -/
structure Beside (e1 e2 : E) (n p : Nat) : Prop where
  im : e2.im = e1.im
  w : e2.w = e1.w
  len : ∀ id, id < e1.st.length → id + n < e2.st.length
  st : ∀ id o, e2.st[id + n]? = some o → ∃ o1, e1.st[id]? = some o1 ∧ o.ver = o1.ver ∧ (o.mp.k ≠ none → o1.mp.k ≠ none)
  io : ∀ id, id < e1.st.length → e2.io (id + n) = e1.io id
  la : ∀ (k l : Nat), e1.la[k]? = some l → e2.la[k + p]? = some l

mutual
theorem RD.shift {e1 e2 : E} {n p : Nat} (x : Beside e1 e2 n p) {s : Addr → Prop} {d : DV} {v : Value} : RD e1 s d v → RD e2 s (Abs.shift n p d) v
  | .un => by simp only [Abs.shift]; exact .un
  | .c h => by simp only [Abs.shift]; exact .c (by rw [x.im, x.w]; exact h)
  | .apnil => by simp only [Abs.shift]; exact .apnil
  | .ap h hc hl hn hs => by simp only [Abs.shift]; exact .ap (by rw [x.im, x.w]; exact h) (by rw [x.im, x.w]; exact hc) hl hn hs
  | .agg hk h => by simp only [Abs.shift]; exact .agg (by rw [shiftL_all]; exact hk) (RDs.shift x h)
  | .tup h => by simp only [Abs.shift]; exact .tup (RDs.shift x h)
  | .ms (id := id) hid hl hx hv => by
      simp only [Abs.shift]
      refine .ms (x.len id hid) hl hx fun o ho => ?_
      obtain ⟨o1, h1, h2, _⟩ := x.st id o ho
      rw [h2, x.io id hid]; exact hv o1 h1
  | .pt (id := id) hid hv => by
      simp only [Abs.shift]
      refine .pt (x.len id hid) fun o ho => ?_
      obtain ⟨o1, h1, h2, _⟩ := x.st id o ho
      rw [h2, x.io id hid]; exact hv o1 h1
  | .ia h hc => by simp only [Abs.shift]; exact .ia (by rw [x.im, x.w]; exact h) (by rw [x.im, x.w]; exact hc)
  | .fn h1 h2 => by simp only [Abs.shift]; exact .fn (RDs.shift x h1) (RDs.shift x h2)
  | .yl h => by simp only [Abs.shift]; exact .yl (x.la _ _ h)
  | .er h => by simp only [Abs.shift]; exact .er h
  | .mp (id := id) hid hv => by
      simp only [Abs.shift]
      refine .mp (x.len id hid) fun o ho => ?_
      obtain ⟨o1, h1, h2, _⟩ := x.st id o ho
      rw [h2, x.io id hid]; exact hv o1 h1
  | .mi (id := id) hid hv => by
      simp only [Abs.shift]
      refine .mi (x.len id hid) fun o ho => ?_
      obtain ⟨o1, h1, h2, _⟩ := x.st id o ho
      rw [h2, x.io id hid]; exact hv o1 h1
theorem RDs.shift {e1 e2 : E} {n p : Nat} (x : Beside e1 e2 n p) {ds : List DV} {vs : List Value} : RDs e1 ds vs → RDs e2 (shiftL n p ds) vs
  | .nil => by simp only [shiftL]; exact .nil
  | .cons h hs => by simp only [shiftL]; exact .cons (h.shift x) (RDs.shift x hs)
end

theorem MR.shift {e1 e2 : E} {n p : Nat} (x : Beside e1 e2 n p) : ∀ {es : List (DV × DV)} {xs : List MapEntry}, MR e1 es xs → MR e2 (shiftE n p es) xs
  | _, _, .nil => .nil
  | _, _, .cons a b c => .cons (a.shift x) (b.shift x) (c.shift x)
theorem shiftK_none {n p : Nat} {k : Option MK} : shiftK n p k ≠ none → k ≠ none := by
  cases k with
  | none => intro h; exact absurd rfl h
  | some k => intro _; simp

theorem MkAt.shift {e1 e2 : E} {n p : Nat} (x : Beside e1 e2 n p) {b b' : Nat} (hb : b' = b) : ∀ {k k' : MK}, shiftK n p (some k) = some k' → MkAt e1 b k → MkAt e2 b' k'
  | .map _, _, h, ⟨xs, c, h1, h2⟩ => by
    subst hb
    simp only [shiftK, Option.some.injEq] at h; subst h
    exact ⟨xs, c, by rw [x.w]; exact h1, h2.1.shift x, h2.2⟩
  | .it id ver k cur left, _, h, ⟨r, since, seen, stepped, h1, h2, h3⟩ => by
    subst hb
    simp only [shiftK, Option.some.injEq] at h; subst h
    refine ⟨r, since, seen, stepped, by rw [x.w]; exact h1, by have := h2.shift x; simpa only [Abs.shift] using this, fun o ho hv hk => ?_⟩
    obtain ⟨o1, g1, g2, g3⟩ := x.st id o ho
    rw [x.w]
    exact h3 o1 g1 (g2 ▸ hv) (g3 hk)
  | .iter .., _, h, ⟨r, c, h1, h2⟩ => by
    subst hb
    simp only [shiftK, Option.some.injEq] at h; subst h
    exact ⟨r, c, by rw [x.w]; exact h1, by have := h2.shift x; simpa only [Abs.shift] using this⟩
mutual
theorem closed_arg {e0 : E} (him : e0.im = e.im) (hw : e0.w = e.w) {s : Addr → Prop} : ∀ {d : DV} {v : Value}, isClosed d = true → RD e s d v → RD e0 s d v
  | .c c, _, _, .c a => .c (by rw [him, hw]; exact a)
  | .ap .., _, _, .apnil => .apnil
  | .ap .., _, _, .ap h1 h2 h3 h4 h5 => .ap (by rw [him, hw]; exact h1) (by rw [him, hw]; exact h2) h3 h4 h5
  | .fn f xs ys, _, h, .fn h1 h2 => by
    simp only [isClosed, Bool.and_eq_true] at h
    exact .fn (closed_argL him hw h.1 h1) (closed_argL him hw h.2 h2)
theorem closed_argL {e0 : E} (him : e0.im = e.im) (hw : e0.w = e.w) : ∀ {ds : List DV} {vs : List Value}, isClosedL ds = true → RDs e ds vs → RDs e0 ds vs
  | [], _, _, .nil => .nil
  | d :: ds, _, h, .cons a b => by
    simp only [isClosedL, Bool.and_eq_true] at h
    exact .cons (closed_arg him hw h.1 a) (closed_argL him hw h.2 b)
end
theorem closed_args {e0 : E} (him : e0.im = e.im) (hw : e0.w = e.w) : ∀ {ds : List DV} {vs : List Value}, ds.all isClosed = true → RDs e ds vs → RDs e0 ds vs
  | _, _, _, .nil => .nil
  | d :: ds, _, h, .cons a b => by
    simp only [List.all_cons, Bool.and_eq_true] at h
    exact .cons (closed_arg him hw h.1 a) (closed_args him hw h.2 b)

/-- A call on a store of its own. -/
theorem St.apart (s : St n0 PR Γ e reg m) (hres : NoRes reg) :
    let PR' : Addr → Prop := fun x => PR x ∨ ∃ p, reg p x
    let e0 : E := { e with st := [], la := [] }
    St n0 PR' [] e0 (fun _ _ => False) ⟨[], []⟩ ∧
    (∀ d m' en w', Back n0 PR' [] e0 d m' en w' →
      (∀ d', closeTop m'.st d = some d' → ∃ v e' reg', en = .returned v ∧ e'.w = w' ∧ St n0 PR Γ e' reg' m ∧ To n0 PR Γ e e' ∧ RD e' (reg' .res) d' v ∧ ∀ t x, reg (.slot t) x → reg' (.slot t) x) ∧
      (∃ v e' reg', en = .returned v ∧ e'.w = w' ∧ St n0 PR Γ e' reg' ⟨m.st ++ m'.st.map fun o => shiftO m.st.length m.pd.length o, m.pd ++ m'.pd⟩ ∧ To n0 PR Γ e e' ∧ RD e' (reg' .res) (shift m.st.length m.pd.length d) v ∧
        ∀ t x, reg (.slot t) x → reg' (.slot t) x)) := by
  intro PR' e0
  have mi := s.mi
  refine ⟨⟨rfl, rfl, by simp [e0], ⟨mi.imlt, fun a ha hp => ?_, fun a hp => ?_, mi.n0le, fun p a hp => hp.elim, fun p q a h1 _ => h1.elim, by simp [e0], by simp [e0], by simp [e0]⟩, ⟨⟨s.gi.gl.im, s.gi.gl.ok⟩, MpI.void (by simp [e0]), by simp, by simp⟩⟩, ?_⟩
  · rcases hp with hp | ⟨t, ht⟩
    · exact mi.impr a ha hp
    · exact (mi.ok _ _ ht).2.2.2.1 ha
  · rcases hp with hp | ⟨t, ht⟩
    · exact mi.prlt a hp
    · exact mi.old ht
  · intro d m' en w' hb
    cases en with
    | panicked c => exact hb.elim
    | outgrown => exact hb.elim
    | returned v =>
      obtain ⟨e1, reg1, rfl, s1, hns, to, hrd⟩ := hb
      have mi1 := s1.mi
      have hMB : ∀ r, ¬ MB e0 r := fun r h => by obtain ⟨_, _, h, _⟩ := h; simp [e0] at h
      have hX : ∀ r, ¬ (X [] e0.la r ∨ MB e0 r) := fun r h => h.elim (fun h => by obtain ⟨_, _, h, _⟩ := h; simp at h) (hMB r)
      have keepF : Keep n0 PR (fun _ => False) e.w e1.w := ⟨to.keep.os, to.keep.tape, to.keep.output, to.keep.size, to.keep.old, fun a ha => to.keep.pr a (.inl ha), fun r o h1 h2 h3 => to.keep.obj r o h1 h2 (hX r), to.keep.dr⟩
      have old : ∀ p a, reg p a → n0 ≤ a.block ∧ (∃ v, e1.w.cell? a = some v) ∧ e1.w.frozen? a = false ∧ ¬ e1.im a ∧ ¬ PR a := fun t a h => by
        obtain ⟨h1, ⟨v, h2⟩, h3, h4, h5⟩ := mi.ok _ _ h
        obtain ⟨k1, k2⟩ := to.keep.pr a (.inr ⟨t, h⟩)
        exact ⟨h1, ⟨v, k1.trans h2⟩, k2.trans h3, fun hi => mi1.impr a hi (.inr ⟨t, h⟩), h5⟩
      have sep : ∀ p q a, reg p a → ¬ reg1 q a := fun p q a h1 h2 => (mi1.ok q a h2).2.2.2.2 (.inr ⟨p, h1⟩)
      have cellOld : ∀ id o, e.st[id]? = some o → ∀ i d, o.cs[i]? = some d → ∀ v, e.w.cell? ((e.io id).at i) = some v → e1.w.cell? ((e.io id).at i) = some v := fun id o ho i d hd v hv => by
        have hlt : i < (e.io id).ext := Nat.lt_of_lt_of_le (List.getElem?_eq_some_iff.1 hd).1 (mi.ext id o ho)
        exact (to.keep.pr _ (.inr ⟨_, mi.own id o ho i hlt⟩)).1.trans hv
      refine ⟨fun d' hd' => ?_, ?_⟩
      · -- what comes back is shut
        let e2 : E := { e with im := shut e1 reg1, w := e1.w }
        let reg2 : Own → Addr → Prop := fun p x => match p with | .res => reg1 .res x | p => reg p x
        have hr2 : ∀ p a, reg2 p a → (p = .res ∧ reg1 .res a) ∨ (p ≠ .res ∧ reg p a) := fun p a h => by
          cases p with
          | res => exact .inl ⟨rfl, h⟩
          | _ => exact .inr ⟨by simp, h⟩
        have hx : Ext e e2 := ⟨fun a ha => .inl (to.ext.im a ha), fun a ha => to.ext.cell a ha, Nat.le_refl _, fun id o o' h1 h2 => by rw [show e2.st = e.st from rfl, h1] at h2; cases h2; exact ⟨Nat.le_refl _, fun _ => rfl⟩, fun _ _ h => h⟩
        refine ⟨v, e2, reg2, rfl, rfl, ⟨s.st, s.la, fun l hl => ⟨(s.lt l hl).1, Nat.lt_of_lt_of_le (s.lt l hl).2 keepF.size⟩, ⟨fun a ha => ?_, fun a ha hp => ?_, fun a hp => mi1.prlt a (.inl hp), mi1.n0le, fun p a hp => ?_, fun p q a h1 h2 => ?_, mi.ext, mi.own, fun id o ho i d hd => ?_⟩, s.gi.keep hx keepF (SameK.of_eq rfl)⟩,
          To.of_keep hx keepF (SameK.of_eq rfl), closeTop_rd mi1 (by rw [s1.st]; exact hd') hrd rfl rfl, fun t x h => h⟩
        · rcases ha with ha | ⟨id, ha⟩
          · exact mi1.imlt a ha
          · exact mi1.old ha
        · rcases ha with ha | ⟨id, ha⟩
          · exact mi1.impr a ha (.inl hp)
          · exact (mi1.ok _ a ha).2.2.2.2 (.inl hp)
        · rcases hr2 p a hp with ⟨rfl, h⟩ | ⟨_, h⟩
          · obtain ⟨h1, h2, h3, h4, h5⟩ := mi1.ok _ a h
            refine ⟨h1, h2, h3, fun hh => ?_, fun hh => h5 (.inl hh)⟩
            rcases hh with hh | ⟨id, hh⟩
            · exact h4 hh
            · have := mi1.disj _ _ _ h hh; cases this
          · obtain ⟨h1, h2, h3, h4, h5⟩ := old p a h
            refine ⟨h1, h2, h3, fun hh => ?_, h5⟩
            rcases hh with hh | ⟨id, hh⟩
            · exact h4 hh
            · exact sep _ _ _ h hh
        · rcases hr2 p a h1 with ⟨rfl, g1⟩ | ⟨_, g1⟩ <;> rcases hr2 q a h2 with ⟨rfl, g2⟩ | ⟨_, g2⟩
          · rfl
          · exact absurd g1 (sep _ _ _ g2)
          · exact absurd g2 (sep _ _ _ g1)
          · exact mi.disj _ _ a g1 g2
        · obtain ⟨h1, v, h2, h3⟩ := mi.cell id o ho i d hd
          exact ⟨h1, v, cellOld id o ho i d hd v h2, h3.mono hx fun a ha => ha⟩
      · -- what comes back is kept open
        have hN : e.st.length = m.st.length := by rw [s.st]
        have hp : e.la.length = m.pd.length := s.la
        let e2 : E := { im := e1.im, w := e1.w, st := m.st ++ m'.st.map fun o => shiftO m.st.length m.pd.length o, io := fun j => if j < m.st.length then e.io j else e1.io (j - m.st.length), la := e.la ++ e1.la }
        let reg2 : Own → Addr → Prop := fun p x => match p with
          | .res => reg1 .res x
          | .slot t => reg (.slot t) x
          | .ob j => if j < m.st.length then reg (.ob j) x else reg1 (.ob (j - m.st.length)) x
          | .cell j i => if j < m.st.length then reg (.cell j i) x else reg1 (.cell (j - m.st.length) i) x
        have hr2 : ∀ p a, reg2 p a → (reg p a ∧ p ≠ .res ∧ (∀ j, p = .ob j → j < m.st.length) ∧ (∀ j i, p = .cell j i → j < m.st.length)) ∨
            (∃ p', reg1 p' a ∧ ((p = .res ∧ p' = .res) ∨ (∃ j, p = .ob j ∧ m.st.length ≤ j ∧ p' = .ob (j - m.st.length)) ∨ (∃ j i, p = .cell j i ∧ m.st.length ≤ j ∧ p' = .cell (j - m.st.length) i))) := fun p a h => by
          cases p with
          | res => exact .inr ⟨_, h, .inl ⟨rfl, rfl⟩⟩
          | slot t => exact .inl ⟨h, by simp, by simp, by simp⟩
          | ob j =>
            simp only [reg2] at h
            split at h
            · rename_i hj; exact .inl ⟨h, by simp, fun j' hh => by cases hh; exact hj, by simp⟩
            · rename_i hj; exact .inr ⟨_, h, .inr (.inl ⟨j, rfl, by omega, rfl⟩)⟩
          | cell j i =>
            simp only [reg2] at h
            split at h
            · rename_i hj; exact .inl ⟨h, by simp, by simp, fun j' i' hh => by cases hh; exact hj⟩
            · rename_i hj; exact .inr ⟨_, h, .inr (.inr ⟨j, i, rfl, by omega, rfl⟩)⟩
        have hlow : ∀ id, id < m.st.length → e2.st[id]? = e.st[id]? := fun id h => by rw [s.st]; exact List.getElem?_append_left h
        have hhigh : ∀ id, m.st.length ≤ id → e2.st[id]? = (e1.st[id - m.st.length]?).map fun o => shiftO m.st.length m.pd.length o := fun id h => by
          rw [s1.st]
          show (m.st ++ m'.st.map _)[id]? = _
          rw [List.getElem?_append_right h, List.getElem?_map]
        have hx : Ext e e2 := by
          refine ⟨fun a ha => to.ext.im a ha, fun a ha => to.ext.cell a ha, by rw [s.st]; simp [e2], fun id o o' h1 h2 => ?_, fun k l h => ?_⟩
          · have hlt : id < m.st.length := by rw [← hN]; exact (List.getElem?_eq_some_iff.1 h1).1
            rw [hlow id hlt, h1] at h2
            cases h2
            exact ⟨Nat.le_refl _, fun _ => by simp [e2, hlt]⟩
          · show (e.la ++ e1.la)[k]? = some l
            rw [List.getElem?_append_left (List.getElem?_eq_some_iff.1 h).1]; exact h
        have bes : Beside e1 e2 m.st.length m.pd.length := by
          refine ⟨rfl, rfl, fun id h => ?_, fun id o h => ?_, fun id h => ?_, fun k l h => ?_⟩
          · have := h; rw [s1.st] at this; simp [e2]; omega
          · rw [hhigh _ (by omega), Option.map_eq_some_iff] at h
            obtain ⟨o1, h1, rfl⟩ := h
            rw [Nat.add_sub_cancel] at h1
            exact ⟨o1, h1, rfl, fun h => shiftK_none h⟩
          · have hn : ¬ (id + m.st.length < m.st.length) := by omega
            simp only [e2, if_neg hn, Nat.add_sub_cancel]
          · show (e.la ++ e1.la)[k + m.pd.length]? = some l
            rw [List.getElem?_append_right (by omega), hp, Nat.add_sub_cancel]; exact h
        have hio1 : ∀ id, m.st.length ≤ id → e2.io id = e1.io (id - m.st.length) := fun id h => by simp [e2, Nat.not_lt.2 h]
        have hnew : ∀ id o, m.st.length ≤ id → e2.st[id]? = some o → o.mp.k ≠ none → ∃ o1, e1.st[id - m.st.length]? = some o1 ∧ o1.mp.k ≠ none ∧ shiftK m.st.length m.pd.length o1.mp.k = o.mp.k ∧ e.w.heap.size ≤ (e2.io id).b := fun id o hge ho hk => by
          rw [hhigh id hge, Option.map_eq_some_iff] at ho
          obtain ⟨o1, h1, rfl⟩ := ho
          have hk1 := shiftK_none hk
          refine ⟨o1, h1, hk1, rfl, ?_⟩
          rw [hio1 id hge]
          exact (to.maps _ ⟨_, o1, h1, hk1, rfl⟩).elim (fun h => absurd h (hMB _)) fun h => h
        have hold : ∀ id o, id < m.st.length → e2.st[id]? = some o → e.st[id]? = some o ∧ e2.io id = e.io id := fun id o hlt ho => by
          rw [hlow id hlt] at ho
          exact ⟨ho, by simp [e2, hlt]⟩
        have hmem : ∀ id o, id < m.st.length → e2.st[id]? = some o → o.mp.k ≠ none → (e2.io id).b < e.w.heap.size := fun id o hlt ho hk => by
          obtain ⟨h1, h2⟩ := hold id o hlt ho
          rw [h2]
          obtain ⟨_, x, hx, _⟩ := s.gi.mp.obj ⟨id, o, h1, hk, rfl⟩
          exact (Array.getElem?_eq_some_iff.1 hx).1
        have hmb : ∀ r ob, MB e r → e.w.heap[r]? = some ob → e2.w.heap[r]? = some ob := fun r ob hb ho2 => keepF.obj _ _ ho2 (by
          obtain ⟨_, o3, h3, h4⟩ := s.gi.mp.obj hb
          rw [ho2] at h3; cases h3
          cases ob <;> first | rfl | (cases h4; done)) (fun h => h)
        have mp2 : MpI n0 e2 := by
          refine ⟨fun id o k h1 h2 => ?_, fun id id' o o' h1 h2 h3 h4 h5 => ?_⟩
          · rcases Nat.lt_or_ge id m.st.length with hlt | hge
            · obtain ⟨g1, g2⟩ := hold id o hlt h1
              obtain ⟨q1, q2⟩ := s.gi.mp.at_ id o k g1 h2
              rw [g2]
              refine ⟨q1, q2.to hx rfl (fun o2 ho2 => hmb _ o2 ⟨id, o, g1, by rw [h2]; simp, rfl⟩ ho2) fun mid mver n cur left _ r hr u' hu' hv hk => ?_⟩
              have hlt' : mid < m.st.length := by
                cases hr with
                | mp hid _ => rw [s.st] at hid; exact hid
              obtain ⟨q3, _⟩ := hold mid u' hlt' hu'
              exact ⟨u', q3, hv, hk, fun xs c hxs => ⟨xs, c, hmb _ _ ⟨mid, u', q3, hk, (hr.mp_b q3 hv).symm⟩ hxs, Later.refl ..⟩⟩
            · obtain ⟨o1, g1, g2, g3, _⟩ := hnew id o hge h1 (by rw [h2]; simp)
              rw [hio1 id hge]
              cases hk1 : o1.mp.k with
              | none => exact absurd hk1 g2
              | some k1 =>
                obtain ⟨q1, q2⟩ := s1.gi.mp.at_ _ o1 k1 g1 hk1
                exact ⟨q1, q2.shift bes rfl (by rw [← hk1, g3]; exact h2)⟩
          · rcases Nat.lt_or_ge id m.st.length with hlt | hge <;> rcases Nat.lt_or_ge id' m.st.length with hlt' | hge'
            · obtain ⟨g1, g2⟩ := hold id o hlt h1
              obtain ⟨g3, g4⟩ := hold id' o' hlt' h3
              rw [g2, g4] at h5
              exact s.gi.mp.inj id id' o o' g1 h2 g3 h4 h5
            · have := hmem id o hlt h1 h2
              obtain ⟨_, _, _, _, h⟩ := hnew id' o' hge' h3 h4
              omega
            · have := hmem id' o' hlt' h3 h4
              obtain ⟨_, _, _, _, h⟩ := hnew id o hge h1 h2
              omega
            · obtain ⟨o1, g1, g2, _, _⟩ := hnew id o hge h1 h2
              obtain ⟨o1', g1', g2', _, _⟩ := hnew id' o' hge' h3 h4
              rw [hio1 id hge, hio1 id' hge'] at h5
              have := s1.gi.mp.inj _ _ o1 o1' g1 g2 g1' g2' h5
              omega
        have to2 : To n0 PR Γ e e2 := ⟨hx, keepF.weak (fun _ h => h.elim), fun r hr => by
          obtain ⟨id, o, h1, h2, h3⟩ := hr
          rcases Nat.lt_or_ge id m.st.length with hlt | hge
          · obtain ⟨g1, g2⟩ := hold id o hlt h1
            exact .inl ⟨id, o, g1, h2, by rw [← g2]; exact h3⟩
          · obtain ⟨_, _, _, _, h⟩ := hnew id o hge h1 h2
            rw [h3] at h; exact .inr h, fun l r _ h => ⟨r, keepF.obj _ _ h rfl (fun h => h), rfl⟩⟩
        refine ⟨v, e2, reg2, rfl, rfl, ⟨rfl, ?_, ?_, ⟨mi1.imlt, fun a ha hp => mi1.impr a ha (.inl hp), fun a hp => mi1.prlt a (.inl hp), mi1.n0le, fun p a hp => ?_, fun p q a h1 h2 => ?_, ?_, ?_, ?_⟩, ?_⟩, to2, hrd.shift bes, fun t x h => h⟩
        · show (e.la ++ e1.la).length = _
          simp [hp, s1.la]
        · intro l hl
          rcases List.mem_append.1 hl with hl | hl
          · exact ⟨(s.lt l hl).1, Nat.lt_of_lt_of_le (s.lt l hl).2 keepF.size⟩
          · exact s1.lt l hl
        · rcases hr2 p a hp with ⟨h, _⟩ | ⟨p', h, _⟩
          · exact old p a h
          · obtain ⟨h1, h2, h3, h4, h5⟩ := mi1.ok _ a h
            exact ⟨h1, h2, h3, h4, fun hh => h5 (.inl hh)⟩
        · rcases hr2 p a h1 with ⟨g1, _⟩ | ⟨p', g1, hp'⟩ <;> rcases hr2 q a h2 with ⟨g2, _⟩ | ⟨q', g2, hq'⟩
          · exact mi.disj _ _ a g1 g2
          · exact absurd g2 (sep _ _ _ g1)
          · exact absurd g1 (sep _ _ _ g2)
          · have heq := mi1.disj _ _ a g1 g2
            subst heq
            rcases hp' with ⟨rfl, hA⟩ | ⟨j, rfl, hj, hA⟩ | ⟨j, i, rfl, hj, hA⟩ <;> rcases hq' with ⟨rfl, hB⟩ | ⟨j', rfl, hj', hB⟩ | ⟨j', i', rfl, hj', hB⟩ <;> rw [hA] at hB <;> first | rfl | (cases hB; done) | skip
            · injection hB with hB; rw [show j = j' by omega]
            · injection hB with hB hC; rw [show j = j' by omega, hC]
        · intro id o ho
          rcases Nat.lt_or_ge id m.st.length with hlt | hge
          · rw [hlow id hlt] at ho
            have : e2.io id = e.io id := by simp [e2, hlt]
            rw [this]; exact mi.ext id o ho
          · rw [hhigh id hge, Option.map_eq_some_iff] at ho
            obtain ⟨o1, h1, rfl⟩ := ho
            have : e2.io id = e1.io (id - m.st.length) := by simp [e2, Nat.not_lt.2 hge]
            rw [this]
            show (shiftL _ _ o1.cs).length ≤ _
            rw [shiftL_len]; exact mi1.ext _ o1 h1
        · intro id o ho i hi
          rcases Nat.lt_or_ge id m.st.length with hlt | hge
          · rw [hlow id hlt] at ho
            have h2 : e2.io id = e.io id := by simp [e2, hlt]
            rw [h2] at hi ⊢
            simp only [reg2, if_pos hlt]; exact mi.own id o ho i hi
          · rw [hhigh id hge, Option.map_eq_some_iff] at ho
            obtain ⟨o1, h1, rfl⟩ := ho
            have h2 : e2.io id = e1.io (id - m.st.length) := by simp [e2, Nat.not_lt.2 hge]
            rw [h2] at hi ⊢
            simp only [reg2, if_neg (Nat.not_lt.2 hge)]; exact mi1.own _ o1 h1 i hi
        · intro id o ho i d hd
          rcases Nat.lt_or_ge id m.st.length with hlt | hge
          · rw [hlow id hlt] at ho
            have h2 : e2.io id = e.io id := by simp [e2, hlt]
            obtain ⟨k1, v, k2, k3⟩ := mi.cell id o ho i d hd
            rw [h2]
            exact ⟨k1, v, cellOld id o ho i d hd v k2, k3.mono hx fun a ha => by simp only [reg2, if_pos hlt]; exact ha⟩
          · rw [hhigh id hge, Option.map_eq_some_iff] at ho
            obtain ⟨o1, h1, rfl⟩ := ho
            have h2 : e2.io id = e1.io (id - m.st.length) := by simp [e2, Nat.not_lt.2 hge]
            simp only [shiftO, shiftL_get] at hd
            rw [Option.map_eq_some_iff] at hd
            obtain ⟨d1, hd1, rfl⟩ := hd
            obtain ⟨k1, v, k2, k3⟩ := mi1.cell _ o1 h1 i d1 hd1
            rw [h2]
            exact ⟨by rw [shift_ok]; exact k1, v, k2, (k3.shift bes).weak fun a ha => by simp only [reg2, if_neg (Nat.not_lt.2 hge)]; exact ha⟩
        · have g0 := s.gi.to' (e' := e2) hx mp2 (fun l r hX hr => keepF.obj _ _ hr rfl (fun h => h))
          refine ⟨g0.gl, mp2, fun k c hm => ?_, g0.inj⟩
          obtain ⟨l, rc, hl, hat⟩ := g0.at_ k c hm
          obtain ⟨l0, _, hl0, _⟩ := s.gi.at_ k c hm
          have hk : k < m.pd.length := by rw [← hp]; exact (List.getElem?_eq_some_iff.1 hl0).1
          refine ⟨l, rc, hl, hat.heap, hat.params, hat.assign, hat.body, hat.nt, hat.rd, ?_⟩
          show StateOk rc (m.pd ++ m'.pd)[k]?
          rw [List.getElem?_append_left hk]; exact hat.state
end
end Go.Abs
