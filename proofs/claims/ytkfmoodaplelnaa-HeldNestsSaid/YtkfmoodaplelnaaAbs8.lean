/-
  Abs8: objects that are laid, turned, moved; values that nobody writes any more.
-/
import Derived.Test.YtkfmoodaplelnaaAbs7
set_option linter.unusedSectionVars false
namespace Go.Abs
open Go
variable [Fl]

theorem get_set_self {α : Type} {l : List α} {i : Nat} {x y : α} (h : l[i]? = some y) : (l.set i x)[i]? = some x := by
  have := (List.getElem?_eq_some_iff.1 h).1
  simp [this]
theorem get_set_ne {α : Type} {l : List α} {i j : Nat} {x : α} (h : i ≠ j) : (l.set i x)[j]? = l[j]? := by simp [h]

def updIo (io : Nat → Fp) (id : Nat) (f : Fp) : Nat → Fp := fun j => if j = id then f else io j
theorem updIo_self (io : Nat → Fp) (id : Nat) (f : Fp) : updIo io id f id = f := by simp [updIo]
theorem updIo_ne (io : Nat → Fp) {id j : Nat} (f : Fp) (h : j ≠ id) : updIo io id f j = io j := by simp [updIo, h]

section
variable {P : Program} {n0 : Nat} {PR : Addr → Prop} {e : E} {reg : Own → Addr → Prop}

theorem MI.old (m : MI n0 PR e reg) {p : Own} {a : Addr} (h : reg p a) : a.block < e.w.heap.size := by
  obtain ⟨_, ⟨v, hv⟩, _⟩ := m.ok p a h
  exact World.block_lt_of_cell? _ _ hv

theorem Ext.of_set {e e' : E} {id : Nat} {o o' : Ob} (ho : e.st[id]? = some o) (hst : e'.st = e.st.set id o') (him : ∀ a, e.im a → e'.im a) (hc : ∀ a, e.im a → e'.w.cell? a = e.w.cell? a)
    (hio : ∀ j, j ≠ id → e'.io j = e.io j) (hv : o.ver ≤ o'.ver ∧ (o.ver = o'.ver → e'.io id = e.io id)) (hla : ∀ (k l : Nat), e.la[k]? = some l → e'.la[k]? = some l) : Ext e e' := by
  refine ⟨him, hc, by rw [hst]; simp, fun j a b ha hb => ?_, hla⟩
  rw [hst] at hb
  by_cases hj : j = id
  · subst hj
    rw [ho] at ha; cases ha
    rw [get_set_self ho] at hb; cases hb
    exact hv
  · rw [get_set_ne (Ne.symm hj)] at hb
    rw [ha] at hb; cases hb
    exact ⟨Nat.le_refl _, fun _ => hio j hj⟩

/-- An object is turned where it lies (or in a part of that). -/
theorem MI.obj (m : MI n0 PR e reg) {id : Nat} {o o' : Ob} (ho : e.st[id]? = some o) {f' : Fp} {w' : World} {S : Addr → Prop} (hw : Wr e.w w' S) (hS : ∀ a, S a → reg (.ob id) a) (hSc : ∀ a, S a → ∃ v, w'.cell? a = some v)
    {q : Own → Addr → Prop} (qa : ∀ p a, q p a → ∃ p', reg p' a) (qd : ∀ p p' a, q p a → q p' a → p = p') (qo : ∀ j, j ≠ id → ∀ a, reg (.ob j) a → q (.ob j) a) (qc : ∀ j, j ≠ id → ∀ i a, reg (.cell j i) a → q (.cell j i) a)
    (qf : ∀ i, i < f'.ext → q (.ob id) (f'.at i)) (hl : o'.cs.length ≤ f'.ext) (hv : o.ver ≤ o'.ver ∧ (o.ver = o'.ver → f' = e.io id))
    (hcs : ∀ (i : Nat) (d : DV), o'.cs[i]? = some d → cellOk d = true ∧ ∃ v, w'.cell? (f'.at i) = some v ∧ RD e (q (.cell id i)) d v) :
    MI n0 PR { e with w := w', st := e.st.set id o', io := updIo e.io id f' } q ∧ Ext e { e with w := w', st := e.st.set id o', io := updIo e.io id f' } := by
  have hx : Ext e { e with w := w', st := e.st.set id o', io := updIo e.io id f' } := by
    refine Ext.of_set ho rfl (fun _ h => h) (fun a ha => hw.cell a fun hs => (m.ok _ a (hS a hs)).2.2.2.1 ha) (fun j hj => updIo_ne _ _ hj) ⟨hv.1, fun h => ?_⟩ (fun _ _ h => h)
    show updIo e.io id f' id = e.io id
    rw [updIo_self]; exact hv.2 h
  refine ⟨⟨fun a ha => by rw [hw.size]; exact m.imlt a ha, m.impr, fun a ha => by rw [hw.size]; exact m.prlt a ha, by rw [hw.size]; exact m.n0le, fun p a hp => ?_, qd, ?_, ?_, ?_⟩, hx⟩
  · obtain ⟨p', hp'⟩ := qa p a hp
    obtain ⟨h1, ⟨v, h2⟩, h3, h4, h5⟩ := m.ok p' a hp'
    refine ⟨h1, ?_, by rw [hw.frozen]; exact h3, h4, h5⟩
    by_cases hs : S a
    · exact hSc a hs
    · exact ⟨v, (hw.cell a hs).trans h2⟩
  · intro j x hj
    show x.cs.length ≤ (updIo e.io id f' j).ext
    by_cases hji : j = id
    · subst hji
      have : x = o' := by have := get_set_self (x := o') ho; simp only at hj; rw [this] at hj; cases hj; rfl
      subst this
      rw [updIo_self]; exact hl
    · have hj' : e.st[j]? = some x := by simp only at hj; rw [get_set_ne (Ne.symm hji)] at hj; exact hj
      rw [updIo_ne _ _ hji]; exact m.ext j x hj'
  · intro j x hj i hi
    by_cases hji : j = id
    · subst hji
      simp only [updIo_self] at hi ⊢; exact qf i hi
    · have hj' : e.st[j]? = some x := by simp only at hj; rw [get_set_ne (Ne.symm hji)] at hj; exact hj
      simp only [updIo_ne _ _ hji] at hi ⊢
      exact qo j hji _ (m.own j x hj' i hi)
  · intro j x hj i d hd
    by_cases hji : j = id
    · subst hji
      have : x = o' := by have := get_set_self (x := o') ho; simp only at hj; rw [this] at hj; cases hj; rfl
      subst this
      obtain ⟨h1, v, h2, h3⟩ := hcs i d hd
      simp only [updIo_self]
      exact ⟨h1, v, h2, h3.mono hx (fun _ h => h)⟩
    · have hj' : e.st[j]? = some x := by simp only at hj; rw [get_set_ne (Ne.symm hji)] at hj; exact hj
      obtain ⟨h1, v, h2, h3⟩ := m.cell j x hj' i d hd
      simp only [updIo_ne _ _ hji]
      have hns : ¬ S ((e.io j).at i) := fun hs => by
        have hlt : i < (e.io j).ext := Nat.lt_of_lt_of_le (List.getElem?_eq_some_iff.1 hd).1 (m.ext j x hj')
        have := m.disj _ _ _ (hS _ hs) (m.own j x hj' i hlt)
        injection this with this
        exact hji this.symm
      exact ⟨h1, v, (hw.cell _ hns).trans h2, h3.mono hx (qc j hji i)⟩

/-- An object is laid (or moved) into a new block. -/
theorem MI.objNew (m : MI n0 PR e reg) {id : Nat} {o o' : Ob} (ho : e.st[id]? = some o) (hver : o.ver < o'.ver) (c : List Value) (T : TypeId) {vs : List Value} (hc : ∀ (i : Nat) v, vs[i]? = some v → c[i]? = some v)
    (hr : RDs e o'.cs vs) (hk : o'.cs.all cellOk = true) :
    let f' : Fp := ⟨e.w.heap.size, 0, c.length⟩
    let q : Own → Addr → Prop := fun p a => match p with | .ob j => if j = id then (∃ i, i < c.length ∧ a = ⟨e.w.heap.size, i, none⟩) else reg p a | .cell j _ => j ≠ id ∧ reg p a | _ => reg p a
    MI n0 PR { e with w := e.w.alloc (.cells ⟨c⟩ T), st := e.st.set id o', io := updIo e.io id f' } q ∧ Ext e { e with w := e.w.alloc (.cells ⟨c⟩ T), st := e.st.set id o', io := updIo e.io id f' } := by
  intro f' q
  have hx : Ext e { e with w := e.w.alloc (.cells ⟨c⟩ T), st := e.st.set id o', io := updIo e.io id f' } :=
    Ext.of_set ho rfl (fun _ h => h) (fun a ha => World.cell?_alloc_lt _ _ _ (m.imlt a ha)) (fun j hj => updIo_ne _ _ hj) ⟨Nat.le_of_lt hver, fun h => by omega⟩ (fun _ _ h => h)
  have hq : ∀ p a, q p a → reg p a ∨ (∃ i, i < c.length ∧ a = ⟨e.w.heap.size, i, none⟩) := fun p a h => by
    cases p with
    | ob j => simp only [q] at h; split at h; exact .inr h; exact .inl h
    | cell j i => exact .inl h.2
    | slot t => exact .inl h
    | res => exact .inl h
  have hqb : ∀ p a, q p a → a.block = e.w.heap.size → p = .ob id := fun p a h hb => by
    cases p with
    | ob j =>
      simp only [q] at h
      split at h
      · rename_i hj; rw [hj]
      · have := m.old h; omega
    | cell j i => have := m.old h.2; omega
    | slot t => have := m.old (show reg (.slot t) a from h); omega
    | res => have := m.old (show reg .res a from h); omega
  obtain ⟨g1, g2, g3, g4⟩ := m.alloc c T (im' := e.im) (reg' := q) (fun a h => .inl h) (fun _ h => h) hq (fun p p' a h1 h2 hb => (hqb p a h1 hb).trans (hqb p' a h2 hb).symm)
  refine ⟨⟨g1, g2, fun a ha => by have := m.prlt a ha; simp; omega, by have := m.n0le; simp; omega, g3, g4, ?_, ?_, ?_⟩, hx⟩
  · intro j x hj
    show x.cs.length ≤ (updIo e.io id f' j).ext
    by_cases hji : j = id
    · subst hji
      have : x = o' := by have := get_set_self (x := o') ho; simp only at hj; rw [this] at hj; cases hj; rfl
      subst this
      rw [updIo_self, hr.length]
      show vs.length ≤ c.length
      rcases Nat.lt_or_ge c.length vs.length with hlt | hge
      · have := hc c.length (vs[c.length]) (List.getElem?_eq_getElem hlt)
        simp at this
      · exact hge
    · have hj' : e.st[j]? = some x := by simp only at hj; rw [get_set_ne (Ne.symm hji)] at hj; exact hj
      rw [updIo_ne _ _ hji]; exact m.ext j x hj'
  · intro j x hj i hi
    by_cases hji : j = id
    · subst hji
      simp only [updIo_self] at hi ⊢
      simp only [q, if_true]
      exact ⟨i, hi, by simp [Fp.at, f']⟩
    · have hj' : e.st[j]? = some x := by simp only at hj; rw [get_set_ne (Ne.symm hji)] at hj; exact hj
      simp only [updIo_ne _ _ hji] at hi ⊢
      simp only [q, if_neg hji]
      exact m.own j x hj' i hi
  · intro j x hj i d hd
    by_cases hji : j = id
    · subst hji
      have : x = o' := by have := get_set_self (x := o') ho; simp only at hj; rw [this] at hj; cases hj; rfl
      subst this
      obtain ⟨v, hv, h3⟩ := hr.get hd
      refine ⟨(List.all_eq_true.1 hk) d (List.mem_of_getElem? hd), v, ?_, h3.mono hx (fun _ h => h.elim)⟩
      simp only [updIo_self, Fp.at, f', Nat.zero_add]
      rw [alloc_cell_new]; exact hc i v hv
    · have hj' : e.st[j]? = some x := by simp only at hj; rw [get_set_ne (Ne.symm hji)] at hj; exact hj
      obtain ⟨h1, v, h2, h3⟩ := m.cell j x hj' i d hd
      simp only [updIo_ne _ _ hji]
      refine ⟨h1, v, by rw [World.cell?_alloc_lt _ _ _ (World.block_lt_of_cell? _ _ h2)]; exact h2, h3.mono hx fun a ha => ⟨hji, ha⟩⟩

/-- A new block of which the first cells are never written any more; the right to the others. -/
theorem MI.imm (m : MI n0 PR e reg) (_hres : ∀ a, ¬ reg .res a) (c : List Value) (T : TypeId) (n : Nat) :
    let im' : Addr → Prop := fun a => e.im a ∨ ∃ i, i < n ∧ a = ⟨e.w.heap.size, i, none⟩
    let q : Own → Addr → Prop := fun p a => match p with | .res => ∃ i, n ≤ i ∧ i < c.length ∧ a = ⟨e.w.heap.size, i, none⟩ | _ => reg p a
    MI n0 PR { e with w := e.w.alloc (.cells ⟨c⟩ T), im := im' } q ∧ Ext e { e with w := e.w.alloc (.cells ⟨c⟩ T), im := im' } := by
  intro im' q
  have hx : Ext e { e with w := e.w.alloc (.cells ⟨c⟩ T), im := im' } :=
    ⟨fun _ h => .inl h, fun a ha => World.cell?_alloc_lt _ _ _ (m.imlt a ha), Nat.le_refl _, fun j a b ha hb => by simp only at hb; rw [ha] at hb; cases hb; exact ⟨Nat.le_refl _, fun _ => rfl⟩, fun _ _ h => h⟩
  have hne : ∀ p, p ≠ .res → ∀ a, q p a → reg p a := fun p hp a h => by cases p <;> first | exact h | exact absurd rfl hp
  have hqb : ∀ p a, q p a → a.block = e.w.heap.size → p = .res := fun p a h hb => by
    by_cases hp : p = .res
    · exact hp
    · have := m.old (hne p hp a h); omega
  obtain ⟨g1, g2, g3, g4⟩ := m.alloc c T (im' := im') (reg' := q) (fun a h => by
      rcases h with h | ⟨i, hi, rfl⟩
      · exact .inl h
      · refine .inr ⟨rfl, fun p hp => ?_⟩
        have := hqb p _ hp rfl
        subst this
        obtain ⟨j, h1, h2, h3⟩ := hp
        injection h3 with _ h3 _
        omega) (fun _ h => .inl h) (fun p a h => by
      by_cases hp : p = .res
      · subst hp; obtain ⟨i, _, hi, rfl⟩ := h; exact .inr ⟨i, hi, rfl⟩
      · exact .inl (hne p hp a h)) (fun p p' a h1 h2 hb => (hqb p a h1 hb).trans (hqb p' a h2 hb).symm)
  refine ⟨⟨g1, g2, fun a ha => by have := m.prlt a ha; simp; omega, by have := m.n0le; simp; omega, g3, g4, m.ext, m.own, fun j x hj i d hd => ?_⟩, hx⟩
  obtain ⟨h1, v, h2, h3⟩ := m.cell j x hj i d hd
  exact ⟨h1, v, by show (e.w.alloc _).cell? _ = _; rw [World.cell?_alloc_lt _ _ _ (World.block_lt_of_cell? _ _ h2)]; exact h2, h3.mono hx fun a ha => ha⟩

/-- Cells behind a slice that has the right to them are written, and never any more. -/
theorem MI.immAt (m : MI n0 PR e reg) (_hres : ∀ a, ¬ reg .res a) {t : Nat} {w' : World} {S : Addr → Prop} (hw : Wr e.w w' S) (hS : ∀ a, S a → reg (.slot t) a) :
    let im' : Addr → Prop := fun a => e.im a ∨ S a
    let q : Own → Addr → Prop := fun p a => match p with | .res => reg (.slot t) a ∧ ¬ S a | .slot u => u ≠ t ∧ reg p a | _ => reg p a
    MI n0 PR { e with w := w', im := im' } q ∧ Ext e { e with w := w', im := im' } := by
  intro im' q
  have hx : Ext e { e with w := w', im := im' } :=
    ⟨fun _ h => .inl h, fun a ha => hw.cell a fun hs => (m.ok _ a (hS a hs)).2.2.2.1 ha, Nat.le_refl _, fun j a b ha hb => by simp only at hb; rw [ha] at hb; cases hb; exact ⟨Nat.le_refl _, fun _ => rfl⟩, fun _ _ h => h⟩
  have hq : ∀ p a, q p a → ∃ p', reg p' a ∧ ¬ S a ∧ (p = .res → p' = .slot t) ∧ (p ≠ .res → p' = p ∧ p ≠ .slot t) := fun p a h => by
    cases p with
    | res => exact ⟨.slot t, h.1, h.2, fun _ => rfl, fun h => absurd rfl h⟩
    | slot u => exact ⟨.slot u, h.2, fun hs => h.1 (by have := m.disj _ _ _ h.2 (hS a hs); injection this), by simp, fun _ => ⟨rfl, fun hh => h.1 (by injection hh)⟩⟩
    | ob j => exact ⟨.ob j, h, fun hs => (by have := m.disj _ _ _ (show reg (.ob j) a from h) (hS a hs); cases this), (by simp), fun _ => ⟨rfl, by simp⟩⟩
    | cell j i => exact ⟨.cell j i, h, fun hs => (by have := m.disj _ _ _ (show reg (.cell j i) a from h) (hS a hs); cases this), (by simp), fun _ => ⟨rfl, by simp⟩⟩
  refine ⟨⟨fun a ha => ?_, fun a ha => ?_, fun a ha => by rw [hw.size]; exact m.prlt a ha, by rw [hw.size]; exact m.n0le, fun p a hp => ?_, fun p p' a h1 h2 => ?_, m.ext, m.own, fun j x hj i d hd => ?_⟩, hx⟩
  · rw [hw.size]
    rcases ha with h | h
    · exact m.imlt a h
    · exact m.old (hS a h)
  · rcases ha with h | h
    · exact m.impr a h
    · exact (m.ok _ a (hS a h)).2.2.2.2
  · obtain ⟨p', hp', hns, _⟩ := hq p a hp
    obtain ⟨h1, ⟨v, h2⟩, h3, h4, h5⟩ := m.ok p' a hp'
    exact ⟨h1, ⟨v, (hw.cell a hns).trans h2⟩, by rw [hw.frozen]; exact h3, fun h => h.elim h4 hns, h5⟩
  · obtain ⟨u, hu, _, hu1, hu2⟩ := hq p a h1
    obtain ⟨u', hu', _, hu1', hu2'⟩ := hq p' a h2
    have heq := m.disj _ _ _ hu hu'
    by_cases hp : p = .res
    · by_cases hp' : p' = .res
      · rw [hp, hp']
      · exact absurd ((hu2' hp').1.symm.trans (heq.symm.trans (hu1 hp))) (hu2' hp').2
    · by_cases hp' : p' = .res
      · exact absurd ((hu2 hp).1.symm.trans (heq.trans (hu1' hp'))) (hu2 hp).2
      · exact (hu2 hp).1.symm.trans (heq.trans (hu2' hp').1)
  · obtain ⟨h1, v, h2, h3⟩ := m.cell j x hj i d hd
    have hns : ¬ S ((e.io j).at i) := fun hs => by
      have hlt : i < (e.io j).ext := Nat.lt_of_lt_of_le (List.getElem?_eq_some_iff.1 hd).1 (m.ext j x hj)
      have := m.disj _ _ _ (hS _ hs) (m.own j x hj i hlt)
      cases this
    exact ⟨h1, v, (hw.cell _ hns).trans h2, h3.mono hx fun a ha => ha⟩

/-- Draws turn nothing. -/
theorem MI.drew (m : MI n0 PR e reg) : MI n0 PR { e with w := e.w.drew } reg ∧ Ext e { e with w := e.w.drew } := by
  have hx : Ext e { e with w := e.w.drew } := ⟨fun _ h => h, fun _ _ => rfl, Nat.le_refl _, fun j a b ha hb => by simp only at hb; rw [ha] at hb; cases hb; exact ⟨Nat.le_refl _, fun _ => rfl⟩, fun _ _ h => h⟩
  exact ⟨⟨m.imlt, m.impr, m.prlt, m.n0le, m.ok, m.disj, m.ext, m.own, fun j x hj i d hd => let ⟨h1, v, h2, h3⟩ := m.cell j x hj i d hd; ⟨h1, v, h2, h3.mono hx fun _ h => h⟩⟩, hx⟩
theorem drew_keep (w : World) (X : Nat → Prop) : Keep n0 PR X w w.drew := ⟨rfl, rfl, rfl, Nat.le_refl _, fun _ _ => rfl, fun _ _ => ⟨rfl, rfl⟩, fun _ _ h _ _ => h, fun _ => Nat.le_succ _⟩
end
end Go.Abs
