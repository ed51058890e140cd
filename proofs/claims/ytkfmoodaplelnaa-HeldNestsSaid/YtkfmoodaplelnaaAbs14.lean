/-
  Abs14: append to objects, copy.
-/
import Derived.Test.YtkfmoodaplelnaaAbs13
set_option linter.unusedVariables false
set_option linter.unusedSimpArgs false
set_option linter.unusedSectionVars false
namespace Go.Abs
open Go
variable [Fl]

section
variable {P : Program} {n0 : Nat} {PR : Addr → Prop} {e : E} {reg : Own → Addr → Prop} {fr : Nat → DV} {tm : Array Value} {df : List Deferred}

/-- An object moves into a new block, with the rights of its cells. -/
theorem MI.objMove (m : MI n0 PR e reg) {id : Nat} {o o' : Ob} (ho : e.st[id]? = some o) (hver : o.ver < o'.ver) (c : List Value) (T : TypeId) (hlen : o'.cs.length ≤ c.length) (qc : Nat → Addr → Prop) (hqc : ∀ i a, qc i a → ∃ k, reg (.cell id k) a)
    (hqd : ∀ i j a, qc i a → qc j a → i = j) (hr : ∀ (i : Nat) d, o'.cs[i]? = some d → cellOk d = true ∧ ∃ v, c[i]? = some v ∧ RD e (qc i) d v) :
    let f' : Fp := ⟨e.w.heap.size, 0, c.length⟩
    let q : Own → Addr → Prop := fun p a => match p with | .ob j => if j = id then (∃ i, i < c.length ∧ a = ⟨e.w.heap.size, i, none⟩) else reg p a | .cell j i => if j = id then qc i a else reg p a | _ => reg p a
    MI n0 PR { e with w := e.w.alloc (.cells ⟨c⟩ T), st := e.st.set id o', io := updIo e.io id f' } q ∧ Ext e { e with w := e.w.alloc (.cells ⟨c⟩ T), st := e.st.set id o', io := updIo e.io id f' } := by
  intro f' q
  have hx : Ext e { e with w := e.w.alloc (.cells ⟨c⟩ T), st := e.st.set id o', io := updIo e.io id f' } :=
    Ext.of_set ho rfl (fun _ h => h) (fun a ha => World.cell?_alloc_lt _ _ _ (m.imlt a ha)) (fun j hj => updIo_ne _ _ hj) ⟨Nat.le_of_lt hver, fun h => by omega⟩ (fun _ _ h => h)
  -- what q says
  have hq : ∀ p a, q p a → (∃ p', reg p' a ∧ (p' = p ∨ ∃ i k, p = .cell id i ∧ p' = .cell id k ∧ qc i a) ∧ (∀ i, p = .cell id i → qc i a)) ∨ (p = .ob id ∧ ∃ i, i < c.length ∧ a = ⟨e.w.heap.size, i, none⟩) := fun p a h => by
    cases p with
    | ob j =>
      simp only [q] at h
      split at h
      · rename_i hj; exact .inr ⟨by rw [hj], h⟩
      · exact .inl ⟨_, h, .inl rfl, by simp⟩
    | cell j i =>
      simp only [q] at h
      split at h
      · rename_i hj
        subst hj
        obtain ⟨k, hk⟩ := hqc i a h
        exact .inl ⟨_, hk, .inr ⟨i, k, rfl, rfl, h⟩, fun i' hh => by injection hh with _ hh; subst hh; exact h⟩
      · rename_i hj; exact .inl ⟨_, h, .inl rfl, fun i' hh => by injection hh with hh _; exact absurd hh hj⟩
    | slot t => exact .inl ⟨_, h, .inl rfl, by simp⟩
    | res => exact .inl ⟨_, h, .inl rfl, by simp⟩
  have old : ∀ p a, reg p a → a.block < e.w.heap.size := fun p a h => m.old h
  refine ⟨⟨fun a ha => by have := m.imlt a ha; simp; omega, m.impr, fun a ha => by have := m.prlt a ha; simp; omega, by have := m.n0le; simp; omega, ?_, ?_, ?_, ?_, ?_⟩, hx⟩
  · intro p a hp
    rcases hq p a hp with ⟨p', hp', _, _⟩ | ⟨_, i, hi, rfl⟩
    · obtain ⟨h1, ⟨v, hv⟩, h3, h4, h5⟩ := m.ok p' a hp'
      have hlt := old p' a hp'
      exact ⟨h1, ⟨v, by show (e.w.alloc _).cell? _ = _; rw [World.cell?_alloc_lt _ _ _ hlt]; exact hv⟩, by show (e.w.alloc _).frozen? _ = _; rw [World.frozen?_alloc_old _ _ _ (by omega)]; exact h3, h4, h5⟩
    · refine ⟨m.n0le, ⟨c[i], by show (e.w.alloc _).cell? _ = _; rw [alloc_cell_new]; exact List.getElem?_eq_getElem hi⟩, by show (e.w.alloc _).frozen? _ = _; rw [World.frozen?_alloc_at _ _ _ _ rfl], fun hi' => ?_, fun hp => by have := m.prlt _ hp; simp at this⟩
      have := m.imlt _ hi'; simp at this
  · intro p p' a h1 h2
    rcases hq p a h1 with ⟨u, hu, hu1, hu2⟩ | ⟨hp, i, _, rfl⟩
    · rcases hq p' a h2 with ⟨u', hu', hu1', hu2'⟩ | ⟨_, i, _, rfl⟩
      · have heq := m.disj _ _ _ hu hu'
        rcases hu1 with rfl | ⟨i, k, rfl, rfl, hqi⟩
        · rcases hu1' with rfl | ⟨i', k', rfl, rfl, hqi'⟩
          · exact heq
          · subst heq
            rw [hqd _ _ _ (hu2 _ rfl) hqi']
        · rcases hu1' with rfl | ⟨i', k', rfl, rfl, hqi'⟩
          · subst heq
            rw [hqd _ _ _ (hu2' _ rfl) hqi]
          · rw [hqd _ _ _ hqi hqi']
      · have := old u _ hu; simp at this
    · rcases hq p' _ h2 with ⟨u', hu', _, _⟩ | ⟨hp', _⟩
      · have := old u' _ hu'; simp at this
      · rw [hp, hp']
  · intro j x hj
    show x.cs.length ≤ (updIo e.io id f' j).ext
    by_cases hji : j = id
    · subst hji
      have : x = o' := by have := get_set_self (x := o') ho; simp only at hj; rw [this] at hj; cases hj; rfl
      subst this
      rw [updIo_self]; exact hlen
    · have hj' : e.st[j]? = some x := by simp only at hj; rw [get_set_ne (Ne.symm hji)] at hj; exact hj
      rw [updIo_ne _ _ hji]; exact m.ext j x hj'
  · intro j x hj i hi
    by_cases hji : j = id
    · subst hji
      simp only [updIo_self] at hi ⊢
      simp only [q, if_true]
      exact ⟨i, hi, by simp [Fp.at, f']⟩
    · have hj' : e.st[j]? = some x := by simp only at hj; rw [get_set_ne (Ne.symm hji)] at hj; exact hj
      simp only [updIo_ne _ _ hji] at hi ⊢
      simp only [q, if_neg hji]
      exact m.own j x hj' i hi
  · intro j x hj i d hd
    by_cases hji : j = id
    · subst hji
      have : x = o' := by have := get_set_self (x := o') ho; simp only at hj; rw [this] at hj; cases hj; rfl
      subst this
      obtain ⟨hk, v, hv, h3⟩ := hr i d hd
      refine ⟨hk, v, ?_, h3.mono hx (fun a ha => ?_)⟩
      · simp only [updIo_self, Fp.at, f', Nat.zero_add]
        rw [alloc_cell_new]; exact hv
      · simp only [q, if_true]; exact ha
    · have hj' : e.st[j]? = some x := by simp only at hj; rw [get_set_ne (Ne.symm hji)] at hj; exact hj
      obtain ⟨h1, v, h2, h3⟩ := m.cell j x hj' i d hd
      simp only [updIo_ne _ _ hji]
      refine ⟨h1, v, by rw [World.cell?_alloc_lt _ _ _ (World.block_lt_of_cell? _ _ h2)]; exact h2, h3.mono hx fun a ha => ?_⟩
      simp only [q, if_neg hji]; exact ha

/-- An object is closed: nobody writes it any more. -/
theorem MI.freeze0 (m : MI n0 PR e reg) {id : Nat} {o : Ob} (ho : e.st[id]? = some o) :
    let im' : Addr → Prop := fun a => e.im a ∨ reg (.ob id) a
    let q : Own → Addr → Prop := fun p a => match p with | .ob j => j ≠ id ∧ reg p a | .cell j _ => j ≠ id ∧ reg p a | _ => reg p a
    MI n0 PR { e with im := im', st := e.st.set id ⟨o.ver + 1, []⟩, io := updIo e.io id ⟨0, 0, 0⟩ } q ∧ Ext e { e with im := im', st := e.st.set id ⟨o.ver + 1, []⟩, io := updIo e.io id ⟨0, 0, 0⟩ } := by
  intro im' q
  have hx : Ext e { e with im := im', st := e.st.set id ⟨o.ver + 1, []⟩, io := updIo e.io id ⟨0, 0, 0⟩ } :=
    Ext.of_set ho rfl (fun _ h => .inl h) (fun _ _ => rfl) (fun j hj => updIo_ne _ _ hj) ⟨Nat.le_succ _, fun h => by simp at h⟩ (fun _ _ h => h)
  have hq : ∀ p a, q p a → reg p a ∧ p ≠ .ob id := fun p a h => by
    cases p with
    | ob j => exact ⟨h.2, fun hh => h.1 (by injection hh)⟩
    | cell j i => exact ⟨h.2, by simp⟩
    | slot t => exact ⟨h, by simp⟩
    | res => exact ⟨h, by simp⟩
  have get : ∀ j x, (e.st.set id ⟨o.ver + 1, []⟩)[j]? = some x → (j = id ∧ x = ⟨o.ver + 1, []⟩) ∨ (j ≠ id ∧ e.st[j]? = some x) := fun j x hj => by
    by_cases hji : j = id
    · subst hji
      rw [get_set_self ho] at hj; cases hj
      exact .inl ⟨rfl, rfl⟩
    · rw [get_set_ne (Ne.symm hji)] at hj
      exact .inr ⟨hji, hj⟩
  refine ⟨⟨fun a ha => ?_, fun a ha hp => ?_, m.prlt, m.n0le, fun p a hp => ?_, fun p p' a h1 h2 => m.disj p p' a (hq p a h1).1 (hq p' a h2).1, fun j x hj => ?_, fun j x hj i hi => ?_, fun j x hj i d hd => ?_⟩, hx⟩
  · rcases ha with ha | ha
    · exact m.imlt a ha
    · exact m.old ha
  · rcases ha with ha | ha
    · exact m.impr a ha hp
    · exact (m.ok _ a ha).2.2.2.2 hp
  · obtain ⟨hr, hne⟩ := hq p a hp
    obtain ⟨h1, h2, h3, h4, h5⟩ := m.ok p a hr
    refine ⟨h1, h2, h3, fun hi => ?_, h5⟩
    rcases hi with hi | hi
    · exact h4 hi
    · exact hne (m.disj _ _ a hr hi)
  · rcases get j x hj with ⟨rfl, rfl⟩ | ⟨hne, hj'⟩
    · simp
    · simp only [updIo_ne _ _ hne]; exact m.ext j x hj'
  · rcases get j x hj with ⟨rfl, rfl⟩ | ⟨hne, hj'⟩
    · simp only [updIo_self] at hi; simp at hi
    · simp only [updIo_ne _ _ hne] at hi ⊢
      exact ⟨hne, m.own j x hj' i hi⟩
  · rcases get j x hj with ⟨rfl, rfl⟩ | ⟨hne, hj'⟩
    · simp at hd
    · obtain ⟨h1, v, h2, h3⟩ := m.cell j x hj' i d hd
      simp only [updIo_ne _ _ hne]
      exact ⟨h1, v, h2, h3.mono hx fun a ha => ⟨hne, ha⟩⟩

theorem appendO_sound (m : MI n0 PR e reg) {o : Oper} {k : Call} (ho : o.op = .call k) (hb : k.callee = .builtin .append) {x y : Operand} (ha : k.args.toList = [x, y]) (hf : ∀ t, RD e (reg (.slot t)) (fr t) (tm.getD t undef))
    {t t2 : TypeId} (h0 : k.argTypes[0]? = some t) (h1 : k.argTypes[1]? = some t2) {id0 : Nat} {r : Out} (h : appendO P e.st id0 t t2 (ev fr x) (ev fr y) = some r) :
    ∃ v e' reg', Done P n0 PR e reg o ⟨tm, df⟩ r v e' reg' := by
  have hev : ∀ x s, RD e s (ev fr x) ((⟨tm, df⟩ : Act).eval x) := fun x s => ev_rd hf x
  unfold appendO at h
  split at h
  · rename_i el el2 hu hu2
    split at h
    · cases h
    · rename_i i hi
      split at h
      · cases h
      · rename_i hz
        have hz' : zeroFits i = true := by simpa using hz
        have hk : sizeT P el = some i.size := by simp [sizeT, hi]
        split at h
        · cases h
        · rename_i n ys hel
          split at h
          · rename_i hn0
            subst hn0
            split at h
            · rename_i hx
              rw [Option.map_eq_some_iff] at h
              obtain ⟨xx, hxx, rfl⟩ := h
              have ry := hev y (fun _ => False)
              obtain ⟨us, hul, hru, hka, hlen, hfc, _⟩ := elems_rd (P := P) m hel ry
              have rx := hev x (fun _ => False)
              rw [hx] at rx
              generalize hax : (⟨tm, df⟩ : Act).eval x = ax at rx
              unfold lay at hxx
              split at hxx
              · rename_i ob hob
                cases hxx
                obtain ⟨q1, q2⟩ := m.freeze0 hob
                have hus : us = [] := List.eq_nil_of_length_eq_zero (by omega)
                subst hus
                cases rx with
                | c rx =>
                  cases rx with
                  | sl hr hc hl hxc =>
                    rename_i vs a cap
                    have hcap : cap = 0 := hxc rfl
                    refine ⟨_, _, _, .inl (append_exec ho hb ha _ (by rw [hax]; exact append_none (P := P) hu hu2 hk h0 h1 (hlen e.w) (hfc e.w fun _ => rfl) hl)), (by rfl), q1, q2, Keep.refl .., ?_, fun t _ x hx => hx⟩
                    have hlt : id0 < e.st.length := (List.getElem?_eq_some_iff.1 hob).1
                    refine .ms (by simpa using hlt) hl (by simp) fun o2 ho2 => ?_
                    have : o2 = ⟨ob.ver + 1, []⟩ := by have := get_set_self (x := (⟨ob.ver + 1, []⟩ : Ob)) hob; simp only at ho2; rw [this] at ho2; cases ho2; rfl
                    subst this
                    exact ⟨Nat.le_refl _, fun _ => ⟨.inl hcap, by rw [hcap]; simp⟩⟩
              · cases hxx
            · cases h
          · rename_i hn0
            have ry := hev y (fun _ => False)
            obtain ⟨us, hul, hru, hka, hlen, hfc, _⟩ := elems_rd (P := P) m hel ry
            have hruf : RDs e (ys.map unflag) us := hru.unflags
            have hone : ∀ u ∈ us, u.oneCell' = true := hruf.one (unflags_ok hka)
            split at h
            · rename_i id ver off len esz xx0 hx
              have rx := hev x (fun _ => False)
              rw [hx] at rx
              generalize hax : (⟨tm, df⟩ : Act).eval x = ax at rx
              split at h
              · rename_i ob hob
                split at h
                · rename_i hcond
                  obtain ⟨rfl, hroom⟩ := hcond
                  rw [Option.map_eq_some_iff] at h
                  obtain ⟨old, hold, rfl⟩ := h
                  obtain ⟨g1, rfl⟩ := getO_some hob
                  obtain ⟨ous, hol, hocell, hor, hok⟩ := m.cells g1 hold
                  cases rx with
                  | ms hid hl hxx hv =>
                    rename_i a cap
                    obtain ⟨q1, q2⟩ := (hv ob g1).2 rfl
                    have hspan := fun (j : Nat) (d : DV) (hj : old[j]? = some d) => span_get hold hj
                    have holdl : old.length = len * i.size := span_len hold
                    have hreg : ∀ (j : Nat) d, (old ++ ys.map unflag)[j]? = some d → (j < len * i.size ∧ ob.cs[off + j]? = some d) ∨ (len * i.size ≤ j ∧ (ys.map unflag)[j - len * i.size]? = some d) := fun j d hj => by
                      rcases Nat.lt_or_ge j old.length with hlt | hge
                      · rw [List.getElem?_append_left hlt] at hj
                        exact .inl ⟨by omega, (hspan j d hj).1⟩
                      · rw [List.getElem?_append_right hge] at hj
                        exact .inr ⟨by omega, by rw [← holdl]; exact hj⟩
                    by_cases hg : len + n ≤ cap
                    · -- in place
                      have ha' : a = (e.io id).at off := by
                        rcases q1 with h | h
                        · omega
                        · exact h
                      subst ha'
                      have hcap : (len + n) * i.size ≤ cap * i.size := Nat.mul_le_mul_right _ hg
                      rw [Nat.add_mul] at hcap
                      obtain ⟨w', r1, r2, r3⟩ := storeCells_run (P := P) (e.io id).b ((e.io id).off + off + len * i.size) us 0 e.w hone (fun j hj => by
                        rw [Nat.zero_add]
                        have := m.ok _ _ (m.own id ob g1 (off + len * i.size + j) (by omega))
                        simp only [Fp.at] at this
                        rw [show (e.io id).off + off + len * i.size + j = (e.io id).off + (off + len * i.size + j) by omega]
                        exact ⟨this.2.1, this.2.2.1⟩)
                      simp only [Nat.zero_add] at r2 r3
                      let q : Own → Addr → Prop := fun p a => match p with | .cell j i' => if j = id then i' < len * i.size ∧ reg (.cell id (off + i')) a else reg p a | _ => reg p a
                      have hq : ∀ p a, q p a → ∃ p', reg p' a ∧ ((p' = p ∧ ∀ i', p ≠ .cell id i') ∨ ∃ i', p = .cell id i' ∧ p' = .cell id (off + i')) := fun p a h => by
                        cases p with
                        | cell j i' =>
                          simp only [q] at h
                          split at h
                          · rename_i hj; subst hj; exact ⟨_, h.2, .inr ⟨i', rfl, rfl⟩⟩
                          · rename_i hj; exact ⟨_, h, .inl ⟨rfl, fun i2 hh => by injection hh with hh _; exact hj hh⟩⟩
                        | ob j => exact ⟨_, h, .inl ⟨rfl, by simp⟩⟩
                        | slot j => exact ⟨_, h, .inl ⟨rfl, by simp⟩⟩
                        | res => exact ⟨_, h, .inl ⟨rfl, by simp⟩⟩
                      obtain ⟨g3, g4⟩ := m.obj (o' := ⟨ob.ver + 1, old ++ ys.map unflag⟩) (f' := ⟨(e.io id).b, (e.io id).off + off, cap * i.size⟩) g1 r2 (fun a ⟨j, hj, hh⟩ => by
                          rw [hh]
                          have := m.own id ob g1 (off + len * i.size + j) (by omega)
                          simp only [Fp.at] at this
                          rw [show (e.io id).off + off + len * i.size + j = (e.io id).off + (off + len * i.size + j) by omega]; exact this)
                        (fun a ⟨j, hj, hh⟩ => by rw [hh]; exact ⟨us[j], r3 j _ (List.getElem?_eq_getElem hj)⟩) (q := q)
                        (fun p a h => let ⟨p', h', _⟩ := hq p a h; ⟨p', h'⟩)
                        (fun p p' a h1 h2 => by
                          obtain ⟨u, hu, hu1⟩ := hq p a h1
                          obtain ⟨u', hu', hu1'⟩ := hq p' a h2
                          have heq := m.disj _ _ _ hu hu'
                          rcases hu1 with ⟨rfl, hn1⟩ | ⟨i1, rfl, rfl⟩ <;> rcases hu1' with ⟨rfl, hn2⟩ | ⟨i2, rfl, rfl⟩
                          · exact heq
                          · exact absurd heq (hn1 _)
                          · exact absurd heq.symm (hn2 _)
                          · injection heq with _ heq; rw [show i1 = i2 by omega])
                        (fun j hj a h => h) (fun j hj i' a h => by simp only [q, if_neg hj]; exact h)
                        (fun i' hi' => by
                          have := m.own id ob g1 (off + i') (by have : i' < cap * i.size := hi'; omega)
                          simp only [Fp.at] at this ⊢
                          rw [Nat.add_assoc]; exact this)
                        (by
                          show (old ++ ys.map unflag).length ≤ cap * i.size
                          have := hruf.length
                          simp only [List.length_append, holdl, this, hul]; exact hcap) ⟨by simp, fun h => by simp at h⟩
                        (fun j d hd => by
                          have hbase : (⟨(e.io id).b, (e.io id).off + off + j, none⟩ : Addr) = (e.io id).at (off + j) := by simp [Fp.at, Nat.add_assoc]
                          rcases hreg j d hd with ⟨hj, hd'⟩ | ⟨hj, hd'⟩
                          · obtain ⟨k1, v, k2, k3⟩ := m.cell id ob g1 (off + j) d hd'
                            refine ⟨k1, v, ?_, k3.weak fun a ha => by simp only [q, if_true]; exact ⟨hj, ha⟩⟩
                            show w'.cell? ⟨(e.io id).b, (e.io id).off + off + j, none⟩ = _
                            rw [r2.cell _ (by rintro ⟨j', _, hh⟩; injection hh with _ hh _; omega), hbase]; exact k2
                          · obtain ⟨v, hv', hr'⟩ := hruf.get hd'
                            refine ⟨(List.all_eq_true.1 (unflags_ok hka)) d (List.mem_of_getElem? hd'), v, ?_, hr'.weak fun _ h => h.elim⟩
                            have := r3 _ v hv'
                            show w'.cell? ⟨(e.io id).b, (e.io id).off + off + j, none⟩ = _
                            rw [show (e.io id).off + off + j = (e.io id).off + off + len * i.size + (j - len * i.size) by omega]; exact this)
                      refine ⟨_, _, q, .inl (append_exec ho hb ha _ (by rw [hax]; exact append_place (P := P) (w' := w') hu hu2 hk h0 h1 (hlen e.w) (hfc e.w fun _ => rfl) hg (by rw [at_add]; simp only [Fp.at]; rw [← Nat.add_assoc]; exact r1))), (by rfl), g3, g4, r2.keep (fun a ⟨j, hj, hh⟩ => ?_) _, ?_, fun t _ a h => h⟩
                      · have := m.ok _ _ (m.own id ob g1 (off + len * i.size + j) (by omega))
                        simp only [Fp.at] at this
                        rw [hh, show (e.io id).off + off + len * i.size + j = (e.io id).off + (off + len * i.size + j) by omega]
                        exact ⟨this.1, this.2.2.2.2⟩
                      · have hlt : id < e.st.length := hid
                        refine .ms (by simpa using hlt) hg (by simp) fun o2 ho2 => ?_
                        have : o2 = ⟨ob.ver + 1, old ++ ys.map unflag⟩ := by have := get_set_self (x := (⟨ob.ver + 1, old ++ ys.map unflag⟩ : Ob)) g1; simp only at ho2; rw [this] at ho2; cases ho2; rfl
                        subst this
                        refine ⟨Nat.le_refl _, fun _ => ⟨.inr ?_, ?_⟩⟩
                        · simp only [updIo_self, Fp.at, Nat.add_zero]
                        · simp only [updIo_self, Nat.zero_add]; exact Nat.le_refl _
                    · -- grow
                      have hof : ∀ w : World, (∀ a, w.cell? a = e.w.cell? a) → (Builtin.firstCells i.size len (.slice (some a) len cap)).run P w = .ok ⟨ous⟩ w := fun w hw => firstCells_run hol fun j v hj => by
                        rw [hw]
                        rcases q1 with q1 | q1
                        · have : j < ous.length := (List.getElem?_eq_some_iff.1 hj).1
                          have h0' : len = 0 := by omega
                          subst h0'
                          simp at hol
                          subst hol
                          simp at this
                        · rw [q1]; exact hocell j v hj
                      obtain ⟨cap', rest, hcap, hlr, hrun⟩ := append_grow (P := P) (ty := o.type) hu hu2 hi hz' h0 h1 e.w (hlen e.w) (hof e.w.drew fun _ => rfl) (hfc e.w.drew fun _ => rfl) (by omega) hroom hol hul
                      obtain ⟨d1, d2⟩ := m.drew
                      have hlen2 : (old ++ ys.map unflag).length = (ous ++ us).length := by have := hruf.length; simp only [List.length_append, holdl, hol, this]
                      obtain ⟨g3, g4⟩ := d1.objMove (id := id) (o' := ⟨ob.ver + 1, old ++ ys.map unflag⟩) g1 (by simp) (ous ++ us ++ rest) el (by
                          show (old ++ ys.map unflag).length ≤ _
                          rw [hlen2]; simp)
                        (fun i' a => i' < len * i.size ∧ reg (.cell id (off + i')) a) (fun i' a h => ⟨_, h.2⟩) (fun i1 i2 a h1 h2 => by have := m.disj _ _ _ h1.2 h2.2; injection this with _ this; omega)
                        (fun j d hd => by
                          rcases hreg j d hd with ⟨hj, hd'⟩ | ⟨hj, hd'⟩
                          · obtain ⟨k1, v, k2, k3⟩ := m.cell id ob g1 (off + j) d hd'
                            have hjl : j < ous.length := by omega
                            have hcell := hocell j ous[j] (List.getElem?_eq_getElem hjl)
                            rw [at_add, k2] at hcell
                            injection hcell with hcell
                            refine ⟨k1, v, ?_, k3.mono d2 fun a ha => ⟨hj, ha⟩⟩
                            rw [List.append_assoc, List.getElem?_append_left hjl, hcell]; exact List.getElem?_eq_getElem hjl
                          · obtain ⟨v, hv', hr'⟩ := hruf.get hd'
                            have hjl : j - len * i.size < us.length := (List.getElem?_eq_some_iff.1 hv').1
                            refine ⟨(List.all_eq_true.1 (unflags_ok hka)) d (List.mem_of_getElem? hd'), v, ?_, hr'.mono d2 fun _ h => h.elim⟩
                            rw [List.append_assoc, List.getElem?_append_right (by omega), List.getElem?_append_left (by omega), hol]; exact hv')
                      refine ⟨_, _, _, .inl (append_exec ho hb ha _ (by rw [hax]; exact hrun)), (by rfl), g3, d2.trans g4, (drew_keep _ _).trans (alloc_keep (w := e.w.drew) _ m.n0le m.prlt _), ?_, fun t _ a h => h⟩
                      have hlt : id < e.st.length := hid
                      refine .ms (by simpa using hlt) hcap (by simp) fun o2 ho2 => ?_
                      have : o2 = ⟨ob.ver + 1, old ++ ys.map unflag⟩ := by have := get_set_self (x := (⟨ob.ver + 1, old ++ ys.map unflag⟩ : Ob)) g1; simp only at ho2; rw [this] at ho2; cases ho2; rfl
                      subst this
                      refine ⟨Nat.le_refl _, fun _ => ⟨.inr ?_, ?_⟩⟩
                      · simp only [updIo_self, Fp.at, Nat.add_zero]; rfl
                      · simp only [updIo_self, Nat.zero_add, hlr]; exact Nat.le_refl _
                · cases h
              · cases h
            · rename_i nl cs len hx
              have rx := hev x (fun _ => False)
              rw [hx] at rx
              generalize hax : (⟨tm, df⟩ : Act).eval x = ax at rx
              split at h
              · rename_i hcond
                obtain ⟨hroom, hcl2⟩ := hcond
                rw [Option.map_eq_some_iff] at h
                obtain ⟨xx, hxx, rfl⟩ := h
                obtain ⟨hx2, hlt, o0, ho0, hv0⟩ := lay_get hxx
                have main : ∀ (base : Option Addr) (cap : Nat) (olds : List Value), ax = .slice base len cap → cap < len + n → RCs e.im e.w cs olds → (∀ w : World, (∀ a, w.cell? a = e.w.cell? a) → (Builtin.firstCells i.size len (.slice base len cap)).run P w = .ok ⟨olds⟩ w) →
                    ∃ v e' reg', Done P n0 PR e reg o ⟨tm, df⟩ { d := .ms id0 xx.2.ver 0 (len + n) i.size false, set := some xx } v e' reg' := by
                  intro base cap olds hv hg hro hof
                  have hol : olds.length = len * i.size := by rw [← hro.length]; exact hcl2
                  obtain ⟨cap', rest, hcap, hlr, hrun⟩ := append_grow (P := P) (ty := o.type) hu hu2 hi hz' h0 h1 e.w (hlen e.w) (hof e.w.drew fun _ => rfl) (hfc e.w.drew fun _ => rfl) hg hroom hol hul
                  obtain ⟨d1, d2⟩ := m.drew
                  have hr2 : RDs e (cs.map .c ++ ys.map unflag) (olds ++ us) := hro.map_c.append hruf
                  have hk2 : (cs.map DV.c ++ ys.map unflag).all cellOk = true := by
                    rw [List.all_append, unflags_ok hka, Bool.and_true, List.all_eq_true]
                    intro d hd
                    obtain ⟨c, hcm, rfl⟩ := List.mem_map.1 hd
                    obtain ⟨_, hj⟩ := List.getElem?_of_mem hcm
                    exact hro.ok hj
                  obtain ⟨g3, g4⟩ := d1.objNew (id := id0) (o' := ⟨xx.2.ver, cs.map .c ++ ys.map unflag⟩) ho0 hv0 (olds ++ us ++ rest) el (vs := olds ++ us) (fun j v hj => by
                    have : j < (olds ++ us).length := (List.getElem?_eq_some_iff.1 hj).1
                    rw [List.getElem?_append_left this]; exact hj) (hr2.mono d2) hk2
                  refine ⟨_, _, _, .inl (append_exec ho hb ha _ (by rw [hax, hv]; exact hrun)), (by rw [hx2]; rfl), g3, d2.trans g4, (drew_keep _ _).trans (alloc_keep (w := e.w.drew) _ m.n0le m.prlt _), ?_, fun t _ a h => h⟩
                  exact ms_new (ds := cs.map .c ++ ys.map unflag) (n := e.w.heap.size) (k := (olds ++ us ++ rest).length) (by simpa using hlt) (set_get hlt) (updIo_self _ _ _) hcap (by simp) (by rw [hlr]; exact Nat.le_refl _) _
                cases rx with
                | c rx =>
                  cases rx with
                  | nil => exact main none 0 [] rfl (by omega) .nil (fun w _ => by simp [Builtin.firstCells])
                  | sl hr hc hl hx' =>
                    rename_i vs b cap
                    have hcap : cap = len := hx' rfl
                    subst hcap
                    exact main (some b) cap vs rfl (by omega) hr (fun w hw => firstCells_run (by rw [← hr.length]; exact hcl2) fun j v hj => by rw [hw]; exact (hc j v hj).1)
              · cases h
            · cases h
  · cases h

theorem copy_exec {o : Oper} {k : Call} (ho : o.op = .call k) (hb : k.callee = .builtin .copy) {x y : Operand} (ha : k.args.toList = [x, y]) (a : Act) {v : Value} {w w' : World}
    (h : (Builtin.copy_ k.argTypes o.type #[a.eval x, a.eval y]).run P w = .ok v w') : (execOp a.eval o).run P w = .ok (.value v) w' := by
  have hargs : k.args = #[x, y] := by apply Array.ext'; simpa using ha
  have hm : k.args.map a.eval = #[a.eval x, a.eval y] := by rw [hargs]; simp
  simp [execOp, ho, resolve, hb, invoke, builtin, hm, h]

theorem copyD_sound (m : MI n0 PR e reg) {o : Oper} {k : Call} (ho : o.op = .call k) (hb : k.callee = .builtin .copy) {x y : Operand} (ha : k.args.toList = [x, y]) (hf : ∀ t, RD e (reg (.slot t)) (fr t) (tm.getD t undef))
    {t : TypeId} (h0 : k.argTypes[0]? = some t) {r : Out} (h : copyD P e.st t (ev fr x) (ev fr y) = some r) : ∃ v e' reg', Done P n0 PR e reg o ⟨tm, df⟩ r v e' reg' := by
  have hev : ∀ x s, RD e s (ev fr x) ((⟨tm, df⟩ : Act).eval x) := fun x s => ev_rd hf x
  unfold copyD at h
  split at h
  · rename_i el id ver off len esz xx hu hx
    split at h
    · rename_i sz ob hk hob
      split at h
      · rename_i n ys hel
        split at h
        · rename_i hcond
          obtain ⟨rfl, hle⟩ := hcond
          cases h
          obtain ⟨g1, rfl⟩ := getO_some hob
          obtain ⟨us, hul, hru, hka, hlen, _, hfk⟩ := elems_rd (P := P) m hel (hev y (fun _ => False))
          have rx := hev x (fun _ => False)
          rw [hx] at rx
          generalize hax : (⟨tm, df⟩ : Act).eval x = ax at rx
          cases rx with
          | ms hid hl hxx hv =>
            rename_i a cap
            obtain ⟨q1, q2⟩ := (hv ob g1).2 rfl
            have hruf : RDs e ((ys.take (min n len * sz)).map unflag) (us.take (min n len * sz)) := by rw [List.map_take]; exact hru.unflags.take _
            have hkf : ((ys.take (min n len * sz)).map unflag).all cellOk = true := by
              have := unflags_ok hka
              rw [List.all_eq_true] at this ⊢
              intro d hd
              rw [List.map_take] at hd
              exact this d (List.mem_of_mem_take hd)
            have hul2 : (us.take (min n len * sz)).length = min n len * sz := by
              rw [List.length_take, hul]
              have := Nat.mul_le_mul_right sz (Nat.min_le_left n len)
              omega
            have hext := m.ext id ob g1
            -- the store
            have hst : ∃ w', (storeCells a (us.take (min n len * sz))).run P e.w = .ok () w' ∧ Wr e.w w' (fun a => ∃ j, j < (us.take (min n len * sz)).length ∧ a = (e.io id).at (off + j)) ∧ ∀ (j : Nat) u, (us.take (min n len * sz))[j]? = some u → w'.cell? ((e.io id).at (off + j)) = some u := by
              by_cases hz : min n len * sz = 0
              · rw [hz]
                exact ⟨e.w, rfl, Wr.refl _ _, by simp⟩
              · have ha' : a = (e.io id).at off := by
                  rcases q1 with h | h
                  · have : len = 0 := by omega
                    subst this
                    simp at hz
                  · exact h
                obtain ⟨w', r1, r2, r3⟩ := storeCells_run (P := P) (e.io id).b ((e.io id).off + off) (us.take (min n len * sz)) 0 e.w (hruf.one hkf) (fun j hj => by
                  rw [Nat.zero_add]
                  have := m.ok _ _ (m.own id ob g1 (off + j) (by omega))
                  simp only [Fp.at] at this
                  rw [Nat.add_assoc]; exact ⟨this.2.1, this.2.2.1⟩)
                refine ⟨w', by rw [ha']; exact r1, ?_, ?_⟩
                · simpa [Fp.at, Nat.add_assoc] using r2
                · intro j u hu'; have := r3 j u hu'; simpa [Fp.at, Nat.add_assoc] using this
            obtain ⟨w', r1, r2, r3⟩ := hst
            have hdl : ((ys.take (min n len * sz)).map unflag).length = (us.take (min n len * sz)).length := hruf.length
            let q : Own → Addr → Prop := fun p a => match p with | .cell j i => ¬ (j = id ∧ off ≤ i ∧ i < off + ((ys.take (min n len * sz)).map unflag).length) ∧ reg p a | _ => reg p a
            have hq : ∀ p a, q p a → reg p a := fun p a h => by cases p <;> first | exact h | exact h.2
            obtain ⟨g3, g4⟩ := m.write (q := q) g1 hdl hkf (by rw [hdl, hul2]; exact hle) r2 r3 (fun p a h => ⟨p, hq p a h⟩) (fun p p' a h1 h2 => m.disj _ _ a (hq p a h1) (hq p' a h2)) (fun j a h => h) (fun j i a hn h => ⟨hn, h⟩)
              (fun j d v hd hv' => by obtain ⟨v2, hv2, hr2⟩ := hruf.get hd; rw [hv'] at hv2; cases hv2; exact hr2.weak (fun _ h => h.elim))
            refine ⟨.int .i64 (min n len : Nat), _, q, .inl (copy_exec ho hb ha _ (w' := w') ?_), (by rfl), g3, g4, r2.keep (fun a ⟨j, hj, hh⟩ => ?_) _, .c (.sc rfl), fun t _ a h => h⟩
            · rw [hax]
              have hmin : Nat.min n len ≤ n := Nat.min_le_left _ _
              simp [Builtin.copy_, h0, run_underlying hu, sizeT_run hk, hlen, hfk e.w (min n len) (Nat.min_le_left _ _) (fun _ => rfl), r1, goInt]
            · have := m.ok _ _ (m.own id ob g1 (off + j) (by omega))
              rw [hh]; exact ⟨this.1, this.2.2.2.2⟩
        · cases h
      · cases h
    · cases h
  · cases h
theorem clear_exec {o : Oper} {k : Call} (ho : o.op = .call k) (hb : k.callee = .builtin .clear) {x : Operand} (ha : k.args.toList = [x]) (a : Act) {v : Value} {w w' : World}
    (h : (Builtin.clear_ k.argTypes o.type #[a.eval x]).run P w = .ok v w') : (execOp a.eval o).run P w = .ok (.value v) w' := by
  have hargs : k.args = #[x] := by apply Array.ext'; simpa using ha
  have hm : k.args.map a.eval = #[a.eval x] := by rw [hargs]; simp
  simp [execOp, ho, resolve, hb, invoke, builtin, hm, h]
theorem clearD_sound (m : MI n0 PR e reg) {o : Oper} {k : Call} (ho : o.op = .call k) (hb : k.callee = .builtin .clear) {x : Operand} (ha : k.args.toList = [x]) (hf : ∀ t, RD e (reg (.slot t)) (fr t) (tm.getD t undef))
    {t : TypeId} (h0 : k.argTypes[0]? = some t) {r : Out} (h : clearD P e.st t (ev fr x) = some r) : ∃ v e' reg', Done P n0 PR e reg o ⟨tm, df⟩ r v e' reg' := by
  have hev : ∀ x s, RD e s (ev fr x) ((⟨tm, df⟩ : Act).eval x) := fun x s => ev_rd hf x
  unfold clearD at h
  split at h
  · rename_i el id ver off len esz xx hu hx
    split at h
    · rename_i z ob hz hob
      split at h
      · rename_i hcond
        obtain ⟨rfl, hl0, hle⟩ := hcond
        cases h
        obtain ⟨g1, rfl⟩ := getO_some hob
        obtain ⟨zv, hzr, ⟨zs, hv, hr⟩, hka⟩ := zeroT_run (e := e) hz e.w
        have hzl : zs.length = z.length := hr.length.symm
        have rx := hev x (fun _ => False)
        rw [hx] at rx
        generalize hax : (⟨tm, df⟩ : Act).eval x = ax at rx
        cases rx with
        | ms hid hl hxx hv' =>
          rename_i a cap
          obtain ⟨q1, q2⟩ := (hv' ob g1).2 rfl
          have ha' : a = (e.io id).at off := q1.resolve_left (by omega)
          have hext := m.ext id ob g1
          have hruf := replD_rds (e := e) hr len
          have hkf := replD_all hka len
          have hul2 : (List.replicate len zs).flatten.length = len * z.length := by simp [hzl]
          obtain ⟨w', r1, r2, r3⟩ := storeCells_run (P := P) (e.io id).b ((e.io id).off + off) (List.replicate len zs).flatten 0 e.w (hruf.one hkf) (fun j hj => by
            rw [Nat.zero_add]
            have := m.ok _ _ (m.own id ob g1 (off + j) (by rw [hul2] at hj; omega))
            simp only [Fp.at] at this
            rw [Nat.add_assoc]; exact ⟨this.2.1, this.2.2.1⟩)
          have hdl : (replD len z).length = (List.replicate len zs).flatten.length := hruf.length
          have r2' : Wr e.w w' (fun a => ∃ j, j < (List.replicate len zs).flatten.length ∧ a = (e.io id).at (off + j)) := by simpa [Fp.at, Nat.add_assoc] using r2
          have r3' : ∀ (j : Nat) u, (List.replicate len zs).flatten[j]? = some u → w'.cell? ((e.io id).at (off + j)) = some u := by
            intro j u hu'; have := r3 j u hu'; simpa [Fp.at, Nat.add_assoc] using this
          let q : Own → Addr → Prop := fun p a => match p with | .cell j i => ¬ (j = id ∧ off ≤ i ∧ i < off + (replD len z).length) ∧ reg p a | _ => reg p a
          have hq : ∀ p a, q p a → reg p a := fun p a h => by cases p <;> first | exact h | exact h.2
          obtain ⟨g3, g4⟩ := m.write (q := q) g1 hdl hkf (by rw [hdl, hul2]; exact hle) r2' r3' (fun p a h => ⟨p, hq p a h⟩) (fun p p' a h1 h2 => m.disj _ _ a (hq p a h1) (hq p' a h2)) (fun j a h => h) (fun j i a hn h => ⟨hn, h⟩)
            (fun j d v hd hv' => by obtain ⟨v2, hv2, hr2⟩ := hruf.get hd; rw [hv'] at hv2; cases hv2; exact hr2.weak (fun _ h => h.elim))
          refine ⟨.tuple #[], _, q, .inl (clear_exec ho hb ha _ (w' := w') ?_), (by rfl), g3, g4, r2'.keep (fun a ⟨j, hj, hh⟩ => ?_) _, .tup .nil, fun t _ a h => h⟩
          · rw [hax]
            obtain ⟨n, rfl⟩ : ∃ n, len = n + 1 := ⟨len - 1, by omega⟩
            have hzc : (Builtin.zeroCells zv.cells (n + 1)).toList = (List.replicate (n + 1) zs).flatten := by
              have := zeros_eq zs z.length (n + 1) hzl
              rw [hv]
              simpa [Builtin.zeroCells, hzl] using congrArg Array.toList this
            have r1' : (storeCells a (List.replicate (n + 1) zs).flatten).run P e.w = .ok () w' := by rw [ha']; exact r1
            simp [Builtin.clear_, h0, run_underlying hu, hzr, hzc, r1']
          · have := m.ok _ _ (m.own id ob g1 (off + j) (by rw [hul2] at hj; omega))
            rw [hh]; exact ⟨this.1, this.2.2.2.2⟩
      · cases h
    · cases h
  · cases h
end
end Go.Abs
