/-
  Abs15: every operation does in the memory what the interpreter says.
-/
import Derived.Test.YtkfmoodaplelnaaAbs14
set_option linter.unusedVariables false
set_option linter.unusedSimpArgs false
set_option linter.unusedSectionVars false
namespace Go.Abs
open Go
variable [Fl]

section
variable {P : Program} {n0 : Nat} {PR : Addr → Prop} {e : E} {reg : Own → Addr → Prop} {fr : Nat → DV} {tm : Array Value} {df : List Deferred}

/-- Rights change hands (those of objects stay). -/
theorem MI.rereg (m : MI n0 PR e reg) {q : Own → Addr → Prop} (qa : ∀ p a, q p a → ∃ p', reg p' a) (qd : ∀ p p' a, q p a → q p' a → p = p') (qo : ∀ j a, reg (.ob j) a → q (.ob j) a) (qc : ∀ j i a, reg (.cell j i) a → q (.cell j i) a) : MI n0 PR e q :=
  ⟨m.imlt, m.impr, m.prlt, m.n0le, fun p a h => let ⟨p', h'⟩ := qa p a h; m.ok p' a h', qd, m.ext, fun id o ho i hi => qo _ _ (m.own id o ho i hi), fun id o ho i d hd => let ⟨h1, v, h2, h3⟩ := m.cell id o ho i d hd; ⟨h1, v, h2, h3.weak (qc id i)⟩⟩

/-- A value without rights. -/
theorem done_ev (m : MI n0 PR e reg) {o : Oper} {a : Act} {d : DV} {v : Value} (hx : (execOp a.eval o).run P e.w = .ok (.value v) e.w) (r : ∀ s, RD e s d v) : ∃ v e' reg', Done P n0 PR e reg o a { d } v e' reg' :=
  ⟨v, e, reg, .inl hx, rfl, m, Ext.refl e, Keep.refl .., r _, fun _ _ _ h => h⟩

theorem done_nz {o : Oper} {a : Act} {d : DV} {drop : List Tmp} (nz : List (Nat × Nat)) (h : ∃ v e' reg', Done P n0 PR e reg o a { d, drop } v e' reg') : ∃ v e' reg', Done P n0 PR e reg o a { d := nz1 nz d, drop } v e' reg' := by
  obtain ⟨v, e', reg', h⟩ := h
  exact ⟨v, e', reg', h.run, h.st, h.mi, h.ext, h.keep, nz1_rd nz h.res, h.slot⟩
/-- An object's nil slices that will be grown. -/
theorem MI.nz (m : MI n0 PR e reg) {id : Nat} {o : Ob} (ho : e.st[id]? = some o) (nz : List (Nat × Nat)) :
    MI n0 PR { e with st := e.st.set id ⟨o.ver, nzL nz o.cs⟩ } reg ∧ Ext e { e with st := e.st.set id ⟨o.ver, nzL nz o.cs⟩ } := by
  have hx : Ext e { e with st := e.st.set id ⟨o.ver, nzL nz o.cs⟩ } := by
    refine ⟨fun _ h => h, fun _ _ => rfl, by simp, fun j x x' h1 h2 => ?_, fun _ _ h => h⟩
    by_cases hj : j = id
    · subst hj
      rw [ho] at h1; cases h1
      have h2 : (e.st.set j ⟨o.ver, nzL nz o.cs⟩)[j]? = some x' := h2
      rw [get_set_self ho] at h2; cases h2
      exact ⟨Nat.le_refl _, fun _ => rfl⟩
    · have h2 : (e.st.set id ⟨o.ver, nzL nz o.cs⟩)[j]? = some x' := h2
      rw [get_set_ne (Ne.symm hj), h1] at h2; cases h2
      exact ⟨Nat.le_refl _, fun _ => rfl⟩
  have get : ∀ j x, (e.st.set id ⟨o.ver, nzL nz o.cs⟩)[j]? = some x → (j = id ∧ x = ⟨o.ver, nzL nz o.cs⟩) ∨ (j ≠ id ∧ e.st[j]? = some x) := fun j x hj => by
    by_cases hji : j = id
    · subst hji
      rw [get_set_self ho] at hj; cases hj
      exact .inl ⟨rfl, rfl⟩
    · rw [get_set_ne (Ne.symm hji)] at hj
      exact .inr ⟨hji, hj⟩
  have hlen : (nzL nz o.cs).length = o.cs.length := nzL_length nz o.cs
  refine ⟨⟨m.imlt, m.impr, m.prlt, m.n0le, m.ok, m.disj, fun j x hj => ?_, fun j x hj i hi => ?_, fun j x hj i d hd => ?_⟩, hx⟩
  · rcases get j x hj with ⟨rfl, rfl⟩ | ⟨hne, hj'⟩
    · show (nzL nz o.cs).length ≤ _
      rw [hlen]; exact m.ext _ o ho
    · exact m.ext j x hj'
  · rcases get j x hj with ⟨rfl, rfl⟩ | ⟨hne, hj'⟩
    · exact m.own _ o ho i hi
    · exact m.own j x hj' i hi
  · rcases get j x hj with ⟨rfl, rfl⟩ | ⟨hne, hj'⟩
    · obtain ⟨d0, h0, hcase⟩ := nzL_get nz o.cs i d hd
      obtain ⟨h1, v, h2, h3⟩ := m.cell _ o ho i d0 h0
      rcases hcase with rfl | ⟨esz, rfl⟩
      · exact ⟨h1, v, h2, h3.mono hx fun _ h => h⟩
      · exact ⟨nzD_ok esz h1, v, h2, nzD_rd esz (h3.mono hx fun _ h => h)⟩
    · obtain ⟨h1, v, h2, h3⟩ := m.cell j x hj' i d hd
      exact ⟨h1, v, h2, h3.mono hx fun _ h => h⟩
theorem done_nzO {o : Oper} {a : Act} {r : Out} (nz : List (Nat × Nat)) (hset : ∀ id ob, r.set = some (id, ob) → id < e.st.length) (h : ∃ v e' reg', Done P n0 PR e reg o a r v e' reg') : ∃ v e' reg', Done P n0 PR e reg o a (nzO nz r) v e' reg' := by
  obtain ⟨v, e', reg', h⟩ := h
  cases nz with
  | nil => exact ⟨v, e', reg', h⟩
  | cons x xs =>
    cases hs : r.set with
    | none => 
      refine ⟨v, e', reg', h.run, ?_, h.mi, h.ext, h.keep, h.res, h.slot⟩
      have := h.st
      simp only [nzO, hs, Option.map_none] at this ⊢
      exact this
    | some p =>
      obtain ⟨id, ob⟩ := p
      have hst := congrArg Prod.fst h.st
      have hla := congrArg Prod.snd h.st
      simp only [hs, stSet] at hst hla
      have hlt := hset id ob hs
      have hget : e'.st[id]? = some ob := by rw [hst]; simp [hlt]
      obtain ⟨m2, x2⟩ := h.mi.nz hget (x :: xs)
      refine ⟨v, { e' with st := e'.st.set id ⟨ob.ver, nzL (x :: xs) ob.cs⟩ }, reg', h.run, ?_, m2, h.ext.trans x2, h.keep, h.res.mono x2 (fun _ h => h), h.slot⟩
      simp only [nzO, hs, Option.map_some, stSet, hst, hla, List.set_set]
theorem storeD_lt {st : List Ob} {t : TypeId} {x v : DV} {p : Nat × Ob} (h : storeD P st t x v = some p) : p.1 < st.length := by
  unfold storeD at h
  split at h
  · split at h
    · rename_i o ho
      split at h
      · cases h; exact (List.getElem?_eq_some_iff.1 (getO_some ho).1).1
      · cases h
    · cases h
  · cases h
theorem move_done (m : MI n0 PR e reg) (hres : ∀ a, ¬ reg .res a) {o : Oper} {x : Operand} (hf : ∀ t, RD e (reg (.slot t)) (fr t) (tm.getD t undef)) (hx : (execOp (⟨tm, df⟩ : Act).eval o).run P e.w = .ok (.value ((⟨tm, df⟩ : Act).eval x)) e.w) :
    ∃ v e' reg', Done P n0 PR e reg o ⟨tm, df⟩ { d := raw fr x, drop := tmpOf x } v e' reg' := by
  cases x with
  | tmp t =>
    let q : Own → Addr → Prop := fun p a => match p with | .res => reg (.slot t) a | .slot u => u ≠ t ∧ reg p a | _ => reg p a
    have hq : ∀ p a, q p a → (p = .res ∧ reg (.slot t) a) ∨ (p ≠ .slot t ∧ p ≠ .res ∧ reg p a) := fun p a h => by
      cases p with
      | res => exact .inl ⟨rfl, h⟩
      | slot u => exact .inr ⟨fun hh => h.1 (by injection hh), by simp, h.2⟩
      | ob j => exact .inr ⟨by simp, by simp, h⟩
      | cell j i => exact .inr ⟨by simp, by simp, h⟩
    refine ⟨_, e, q, .inl hx, rfl, m.rereg (q := q) ?_ ?_ (fun _ _ h => h) (fun _ _ _ h => h), Ext.refl e, Keep.refl .., hf t, fun u hu a h => ⟨fun hh => hu (by simp [tmpOf, hh]), h⟩⟩
    · intro p a h
      rcases hq p a h with ⟨_, h⟩ | ⟨_, _, h⟩ <;> exact ⟨_, h⟩
    · intro p p' a h1 h2
      rcases hq p a h1 with ⟨g1, g2⟩ | ⟨g1, g1', g2⟩ <;> rcases hq p' a h2 with ⟨g3, g4⟩ | ⟨g3, g3', g4⟩
      · rw [g1, g3]
      · exact absurd (m.disj _ _ a g2 g4).symm g3
      · exact absurd (m.disj _ _ a g4 g2).symm g1
      · exact m.disj _ _ a g2 g4
  | const v => exact ⟨_, e, reg, .inl hx, rfl, m, Ext.refl e, Keep.refl .., ofVal_rd v, fun _ _ _ h => h⟩
  | global g => exact ⟨_, e, reg, .inl hx, rfl, m, Ext.refl e, Keep.refl .., .un, fun _ _ _ h => h⟩
  | func f => exact ⟨_, e, reg, .inl hx, rfl, m, Ext.refl e, Keep.refl .., .fn .nil .nil, fun _ _ _ h => h⟩

theorem freeze_done (m : MI n0 PR e reg) {o : Oper} {a : Act} {x : DV} {v : Value} {r : Out} (h : freezeD e.st x = some r) (hx : (execOp a.eval o).run P e.w = .ok (.value v) e.w) (hr : ∀ s, RD e s x v) : ∃ v e' reg', Done P n0 PR e reg o a r v e' reg' := by
  unfold freezeD at h
  split at h
  · rename_i id ver off len esz xx
    split at h
    · rename_i ob hob
      split at h
      · rename_i cs hcs
        cases h
        rw [Option.bind_eq_some_iff] at hcs
        obtain ⟨ds, hds, hcs⟩ := hcs
        obtain ⟨g1, rfl⟩ := getO_some hob
        obtain ⟨vs, hl, hcell, hrw, hk⟩ := m.cells g1 hds
        obtain ⟨q1, q2⟩ := m.freeze0 g1
        have hrd := hr (fun _ => False)
        cases hrd with
        | ms hid hle hxx hv =>
          rename_i a' cap
          obtain ⟨p1, p2⟩ := (hv ob g1).2 rfl
          refine ⟨_, { e with im := fun a => e.im a ∨ reg (.ob id) a, st := e.st.set id ⟨ob.ver + 1, []⟩, io := updIo e.io id ⟨0, 0, 0⟩ }, _, .inl hx, (by rfl), q1, q2, Keep.refl .., ?_, fun t _ x hx => hx⟩
          have hrc : RCs e.im e.w cs vs := closeL_rds hcs hk hrw
          refine .c (.sl (hrc.mono (fun _ h => .inl h) (fun _ _ => rfl)) (fun i u hi => ?_) hle hxx)
          have hlt : i < vs.length := (List.getElem?_eq_some_iff.1 hi).1
          have hle2 : len * esz ≤ cap * esz := Nat.mul_le_mul_right _ hle
          rcases p1 with p1 | p1
          · rw [p1] at hle2; omega
          · subst p1
            refine ⟨hcell i u hi, .inr ?_⟩
            rw [at_add]
            exact m.own id ob g1 _ (by omega)
      · cases h
    · cases h
  · cases h

theorem minmax_sound {b : Bool} {xs : List DV} {vs : List Value} {d : DV} (h : minmax b xs = some d) (r : RDs e xs vs) (args : Array Value) (ha : args.toList = vs) (ts : Array TypeId) (ty : TypeId) :
    ∃ u, ((if b then Builtin.max_ else Builtin.min_) ts ty args).run P e.w = .ok u e.w ∧ ∀ s, RD e s d u := by
  cases r with
  | nil => simp [minmax] at h
  | cons h1 h2 =>
    simp only [minmax] at h
    obtain ⟨u, hu, hr⟩ := minmax_go (P := P) h h2 ⟨_, h1⟩
    refine ⟨u, ?_, hr⟩
    cases b <;> simpa [Builtin.max_, Builtin.min_, ha] using hu

theorem rds_get {ds : List DV} {vs : List Value} (h : RDs e ds vs) {i : Nat} {d : DV} (hd : ds[i]? = some d) : ∃ v, vs[i]? = some v ∧ RD e (fun _ => False) d v := h.get hd

theorem lay_plain {st : List Ob} {id : Nat} {cs : List DV} {x : Nat × Ob} (h : lay st id cs = some x) : x.2.mp.k = none := by
  unfold lay at h
  split at h
  · cases h; rfl
  · cases h
theorem storeD_plain {st : List Ob} {t : TypeId} {x v : DV} {p : Nat × Ob} (h : storeD P st t x v = some p) : p.2.mp.k = none := by
  unfold storeD at h
  split at h
  · split at h
    · split at h
      · cases h; rfl
      · cases h
    · cases h
  · cases h
theorem appendO_plain {st : List Ob} {id0 : Nat} {t t2 : TypeId} {x y : DV} {r : Out} (h : appendO P st id0 t t2 x y = some r) {id : Nat} {ob : Ob} (hs : r.set = some (id, ob)) : ob.mp.k = none := by
  unfold appendO at h
  split at h
  · split at h
    · cases h
    · split at h
      · cases h
      · split at h
        · cases h
        · split at h
          · split at h
            · rw [Option.map_eq_some_iff] at h
              obtain ⟨a, ha, rfl⟩ := h
              cases hs; exact lay_plain ha
            · cases h
          · split at h
            · split at h
              · split at h
                · rw [Option.map_eq_some_iff] at h
                  obtain ⟨a, ha, rfl⟩ := h
                  cases hs; rfl
                · cases h
              · cases h
            · split at h
              · rw [Option.map_eq_some_iff] at h
                obtain ⟨a, ha, rfl⟩ := h
                cases hs; exact lay_plain ha
              · cases h
            · cases h
  · cases h
theorem copyD_plain {st : List Ob} {t : TypeId} {x y : DV} {r : Out} (h : copyD P st t x y = some r) {id : Nat} {ob : Ob} (hs : r.set = some (id, ob)) : ob.mp.k = none := by
  unfold copyD at h
  split at h
  · split at h
    · split at h
      · split at h
        · cases h; cases hs; rfl
        · cases h
      · cases h
    · cases h
  · cases h
theorem clearD_plain {st : List Ob} {t : TypeId} {x : DV} {r : Out} (h : clearD P st t x = some r) {id : Nat} {ob : Ob} (hs : r.set = some (id, ob)) : ob.mp.k = none := by
  unfold clearD at h
  split at h
  · split at h
    · split at h
      · cases h; cases hs; rfl
      · cases h
    · cases h
  · cases h
theorem freezeD_plain {st : List Ob} {x : DV} {r : Out} (h : freezeD st x = some r) {id : Nat} {ob : Ob} (hs : r.set = some (id, ob)) : ob.mp.k = none := by
  unfold freezeD at h
  split at h
  · split at h
    · split at h
      · cases h; cases hs; rfl
      · cases h
    · cases h
  · cases h
theorem nzO_plain {nz : List (Nat × Nat)} {r : Out} (h : ∀ id ob, r.set = some (id, ob) → ob.mp.k = none) {id : Nat} {ob : Ob} (hs : (nzO nz r).set = some (id, ob)) : ob.mp.k = none := by
  unfold nzO at hs
  split at hs
  · exact h _ _ hs
  · simp only [Option.map_eq_some_iff] at hs
    obtain ⟨⟨i, o'⟩, _, h2⟩ := hs
    cases h2; rfl
/-- An operation that is none on maps makes no map. -/
theorem opS_plain {c : Site} {op : Op} {st : List Ob} {r : Out} (h : opS P c op fr st = some r) (hno : isMapOp op = false) {id : Nat} {ob : Ob} (hs : r.set = some (id, ob)) : ob.mp.k = none := by
  have hval : ∀ {d : Option DV}, val d = some r → ob.mp.k = none := fun h => by
    unfold val at h
    rw [Option.map_eq_some_iff] at h
    obtain ⟨x, _, rfl⟩ := h
    cases hs
  cases op with
  | move x =>
    simp only [opS] at h
    split at h
    · cases h; cases hs
    · split at h
      · exact freezeD_plain h hs
      · cases h; cases hs
  | assign x =>
    simp only [opS] at h
    split at h
    · cases h; cases hs
    · split at h
      · exact freezeD_plain h hs
      · cases h; cases hs
  | pick b x y =>
    simp only [opS] at h
    split at h
    · cases h; cases hs
    · cases h
  | alloc t =>
    simp only [opS, Option.bind_eq_some_iff, Option.map_eq_some_iff] at h
    obtain ⟨_, _, x, hx, rfl⟩ := h
    cases hs; exact lay_plain hx
  | box t x =>
    simp only [opS, Option.bind_eq_some_iff, Option.map_eq_some_iff] at h
    obtain ⟨_, _, x, hx, rfl⟩ := h
    cases hs; exact lay_plain hx
  | build t ps =>
    simp only [opS] at h
    split at h
    · split at h
      · exact hval h
      · cases h
    · split at h
      · exact hval h
      · cases h
    · cases h
  | buildSlice t n ps =>
    simp only [opS] at h
    split at h
    · split at h
      · split at h
        · cases h
        · split at h
          · cases h
          · split at h
            · rw [Option.map_eq_some_iff] at h
              obtain ⟨x, hx, rfl⟩ := h
              cases hs; exact lay_plain hx
            · rw [Option.map_eq_some_iff] at h
              obtain ⟨x, hx, rfl⟩ := h
              cases hs
      · cases h
    · cases h
  | makeSlice t l cp =>
    simp only [opS] at h
    split at h
    · split at h
      · split at h
        · split at h
          · split at h
            · rw [Option.map_eq_some_iff] at h
              obtain ⟨_, _, rfl⟩ := h
              cases hs
            · cases h
          · rw [Option.map_eq_some_iff] at h
            obtain ⟨x, hx, rfl⟩ := h
            cases hs; exact lay_plain hx
        · cases h
      · cases h
    · cases h
  | load t x =>
    simp only [opS] at h
    split at h
    · split at h
      · split at h
        · rw [Option.map_eq_some_iff] at h
          obtain ⟨x, hx, rfl⟩ := h
          cases hs; rfl
        · cases h
      · cases h
    · exact hval h
  | store t x y =>
    simp only [opS] at h
    split at h
    · simp only [Option.map_eq_some_iff] at h
      obtain ⟨r1, ⟨x, hx, rfl⟩, rfl⟩ := h
      exact nzO_plain (fun _ _ hh => by cases hh; exact storeD_plain hx) hs
    · simp only [Option.map_eq_some_iff] at h
      obtain ⟨r1, ⟨x, hx, rfl⟩, rfl⟩ := h
      exact nzO_plain (fun _ _ hh => by cases hh; exact storeD_plain hx) hs
  | nilCheck x =>
    simp only [opS] at h
    split at h <;> first | (cases h; cases hs; done) | (cases h; done)
  | binOp op t x y _ => exact hval h
  | unOp op t x => exact hval h
  | convert a b x => exact hval h
  | makeFunc fn xs ys =>
    cases fn <;> simp only [opS] at h <;> first | (cases h; cases hs; done) | (cases h; done)
  | slice t x lo hi mx => exact hval h
  | fieldAddr t x f => exact hval h
  | field t x f => exact hval h
  | indexAddr t x i => exact hval h
  | index t x i => exact hval h
  | extract x i =>
    simp only [opS] at h
    split at h
    · exact hval h
    · cases h
  | call k =>
    simp only [opS] at h
    split at h
    · split at h
      · exact hval h
      · exact hval h
      · exact hval h
      · split at h
        · split at h
          · exact appendO_plain h hs
          · rw [Option.map_eq_some_iff] at h
            obtain ⟨x, hx, rfl⟩ := h
            cases hs
        · cases h
      · split at h
        · exact copyD_plain h hs
        · cases h
      · split at h
        · exact clearD_plain h hs
        · cases h
      · cases h
    · cases h
  | _ => first | (simp [opS] at h; done) | (cases hno; done)

theorem opS_sound (m : MI n0 PR e reg) (hres : ∀ a, ¬ reg .res a) (hf : ∀ t, RD e (reg (.slot t)) (fr t) (tm.getD t undef)) {o : Oper} {c : Site} {r : Out} (h : opS P c o.op fr e.st = some r) (hno : isMapOp o.op = false) : (∃ v e' reg', Done P n0 PR e reg o ⟨tm, df⟩ r v e' reg') ∧ ∀ id ob, r.set = some (id, ob) → ob.mp.k = none := by
  refine ⟨?_, fun id ob hs => opS_plain h hno hs⟩
  have hev : ∀ x s, RD e s (ev fr x) ((⟨tm, df⟩ : Act).eval x) := fun x s => ev_rd hf x
  cases ho : o.op with
  | move x =>
    rw [ho] at h
    simp only [opS] at h
    split at h
    · cases h; exact done_nz c.nz (move_done m hres hf (by simp [execOp, ho]))
    · split at h
      · exact freeze_done m h (v := (⟨tm, df⟩ : Act).eval x) (by simp [execOp, ho]) (hev x)
      · cases h; exact done_nz c.nz (done_ev m (v := (⟨tm, df⟩ : Act).eval x) (by simp [execOp, ho]) (hev x))
  | assign x =>
    rw [ho] at h
    simp only [opS] at h
    split at h
    · cases h; exact done_nz c.nz (move_done m hres hf (by simp [execOp, ho]))
    · split at h
      · exact freeze_done m h (v := (⟨tm, df⟩ : Act).eval x) (by simp [execOp, ho]) (hev x)
      · cases h; exact done_nz c.nz (done_ev m (v := (⟨tm, df⟩ : Act).eval x) (by simp [execOp, ho]) (hev x))
  | pick b x y =>
    rw [ho] at h
    simp only [opS] at h
    split at h
    · rename_i b' hb
      cases h
      have := hev b (fun _ => False)
      rw [hb] at this
      generalize hab : (⟨tm, df⟩ : Act).eval b = ab at this
      cases this with
      | c this =>
        cases this
        cases b' with
        | true => exact done_ev m (v := (⟨tm, df⟩ : Act).eval x) (by simp [execOp, ho, hab, asBool]) (hev x)
        | false => exact done_ev m (v := (⟨tm, df⟩ : Act).eval y) (by simp [execOp, ho, hab, asBool]) (hev y)
    · cases h
  | alloc t => rw [ho] at h; exact alloc_sound m ho h
  | box t x => rw [ho] at h; exact box_sound m ho hev h
  | build t ps => rw [ho] at h; exact build_sound m ho hev h
  | buildSlice t n ps => rw [ho] at h; exact buildSlice_sound m hres ho hev h
  | makeSlice t l cp => rw [ho] at h; exact makeSlice_sound m hres ho hev h
  | load t x => rw [ho] at h; exact load_done m hres ho hev h
  | store t x y =>
    rw [ho] at h
    have key : ∀ r0, (if c.mv then (storeD P e.st t (ev fr x) (raw fr y)).map fun e => ({ d := .tup [], set := some e, drop := tmpOf y } : Out) else (storeD P e.st t (ev fr x) (ev fr y)).map fun e => ({ d := .tup [], set := some e } : Out)) = some r0 → r = nzO c.nz r0 → ∃ v e' reg', Done P n0 PR e reg o ⟨tm, df⟩ r v e' reg' := fun r0 h0 hr => by
      rw [hr]
      refine done_nzO c.nz (fun id ob hs => ?_) (store_sound m ho hf h0)
      split at h0
      · rw [Option.map_eq_some_iff] at h0
        obtain ⟨p, hp, rfl⟩ := h0
        simp only [Option.some.injEq] at hs
        subst hs
        exact storeD_lt (P := P) hp
      · rw [Option.map_eq_some_iff] at h0
        obtain ⟨p, hp, rfl⟩ := h0
        simp only [Option.some.injEq] at hs
        subst hs
        exact storeD_lt (P := P) hp
    simp only [opS] at h
    split at h
    · rename_i hmv
      rw [Option.map_eq_some_iff] at h
      obtain ⟨r0, h0, rfl⟩ := h
      exact key r0 (by rw [if_pos hmv]; exact h0) rfl
    · rename_i hmv
      rw [Option.map_eq_some_iff] at h
      obtain ⟨r0, h0, rfl⟩ := h
      exact key r0 (by rw [if_neg hmv]; exact h0) rfl
  | nilCheck x =>
    rw [ho] at h
    simp only [opS] at h
    have hx := hev x
    split at h
    · rename_i id ver off hd
      cases h
      rw [hd] at hx
      have h1 := hx (fun _ => False)
      generalize hax : (⟨tm, df⟩ : Act).eval x = ax at h1 hx
      refine done_ev m (v := ax) ?_ hx
      cases h1; simp [execOp, ho, hax]
    · rename_i cs off hd
      cases h
      rw [hd] at hx
      have h1 := hx (fun _ => False)
      generalize hax : (⟨tm, df⟩ : Act).eval x = ax at h1 hx
      refine done_ev m (v := ax) ?_ hx
      cases h1; simp [execOp, ho, hax]
    · rename_i f a b hd
      cases h
      rw [hd] at hx
      have h1 := hx (fun _ => False)
      generalize hax : (⟨tm, df⟩ : Act).eval x = ax at h1 hx
      refine done_ev m (v := ax) ?_ hx
      cases h1; simp [execOp, ho, hax]
    · rename_i k hd
      cases h
      rw [hd] at hx
      have h1 := hx (fun _ => False)
      generalize hax : (⟨tm, df⟩ : Act).eval x = ax at h1 hx
      refine done_ev m (v := ax) ?_ hx
      cases h1; simp [execOp, ho, hax]
    · cases h
  | binOp op t x y _ =>
    rw [ho] at h
    simp only [opS] at h
    obtain ⟨d, hd, rfl⟩ := val_some h
    exact done_pure m (binO_run x y hd (hev x (fun _ => False)) (hev y (fun _ => False)) (fun h => by rw [h]; rfl)) (by simp [execOp, ho])
  | unOp op t x =>
    rw [ho] at h
    simp only [opS] at h
    obtain ⟨d, hd, rfl⟩ := val_some h
    exact done_pure m (unD_run hd (hev x (fun _ => False))) (by simp [execOp, ho])
  | convert a b x =>
    rw [ho] at h
    simp only [opS] at h
    obtain ⟨d, hd, rfl⟩ := val_some h
    exact done_pure m (convD_run hd (hev x (fun _ => False))) (by simp [execOp, ho])
  | makeFunc fn xs ys =>
    rw [ho] at h
    cases fn with
    | func f =>
      simp only [opS] at h
      cases h
      refine done_ev m (v := .func (.func f) (xs.map (⟨tm, df⟩ : Act).eval) (ys.map (⟨tm, df⟩ : Act).eval)) (by simp [execOp, ho, Instr.makeFunc]) (fun s => ?_)
      have h1 := evs_rds (fr := fr) (a := ⟨tm, df⟩) hev xs.toList
      have h2 := evs_rds (fr := fr) (a := ⟨tm, df⟩) hev ys.toList
      have e1 : ∀ (zs : Array Operand), zs.map (⟨tm, df⟩ : Act).eval = ⟨zs.toList.map (⟨tm, df⟩ : Act).eval⟩ := fun zs => by apply Array.ext'; simp
      rw [e1, e1]
      exact .fn h1 h2
    | _ => simp [opS] at h
  | slice t x lo hi mx =>
    rw [ho] at h
    simp only [opS] at h
    obtain ⟨d, hd, rfl⟩ := val_some h
    exact done_pure m (slice_sound m hd (hev x (fun _ => False)) (RO.of (fun x => ⟨_, hev x (fun _ => False)⟩) lo) (RO.of (fun x => ⟨_, hev x (fun _ => False)⟩) hi) (RO.of (fun x => ⟨_, hev x (fun _ => False)⟩) mx)) (by simp [execOp, ho])
  | fieldAddr t x f =>
    rw [ho] at h
    simp only [opS] at h
    obtain ⟨d, hd, rfl⟩ := val_some h
    exact done_pure m (fieldAddr_sound hd (hev x (fun _ => False))) (by simp [execOp, ho])
  | field t x f =>
    rw [ho] at h
    simp only [opS] at h
    obtain ⟨d, hd, rfl⟩ := val_some h
    exact done_pure m (field_sound hd (hev x (fun _ => False))) (by simp [execOp, ho])
  | indexAddr t x i =>
    rw [ho] at h
    simp only [opS] at h
    obtain ⟨d, hd, rfl⟩ := val_some h
    exact done_pure m (indexAddr_sound hd (hev x (fun _ => False)) (hev i (fun _ => False))) (by simp [execOp, ho])
  | index t x i =>
    rw [ho] at h
    simp only [opS] at h
    obtain ⟨d, hd, rfl⟩ := val_some h
    exact done_pure m (index_sound hd (hev x (fun _ => False)) (hev i (fun _ => False))) (by simp [execOp, ho])
  | extract x i =>
    rw [ho] at h
    simp only [opS] at h
    split at h
    · rename_i ds hx
      obtain ⟨d, hd, rfl⟩ := val_some h
      rw [Option.map_eq_some_iff] at hd
      obtain ⟨d0, hd0, rfl⟩ := hd
      have := hev x (fun _ => False)
      rw [hx] at this
      generalize hax : (⟨tm, df⟩ : Act).eval x = ax at this
      cases this with
      | tup hr =>
        obtain ⟨v, hv, hr'⟩ := hr.get hd0
        exact done_ev m (v := v) (by simp [execOp, ho, hax, Instr.extract, hv]) (fun s => hr'.unflag)
    · cases h
  | call k =>
    rw [ho] at h
    simp only [opS] at h
    split at h
    · rename_i b hb
      split at h
      · rename_i x ha
        obtain ⟨d, hd, rfl⟩ := val_some h
        have hargs : k.args = #[x] := by apply Array.ext'; simpa using ha
        have hm : k.args.map (⟨tm, df⟩ : Act).eval = #[(⟨tm, df⟩ : Act).eval x] := by rw [hargs]; simp
        split at hd
        · rename_i t ht
          exact done_pure m (len_sound hd (hev x (fun _ => False)) k.argTypes ht o.type) (by simp [execOp, ho, resolve, hb, invoke, builtin, hm])
        · cases hd
      · rename_i xs
        obtain ⟨d, hd, rfl⟩ := val_some h
        obtain ⟨u, hu, hr⟩ := minmax_sound (P := P) (b := false) hd (evs_rds (fr := fr) (a := ⟨tm, df⟩) hev k.args.toList) (k.args.map (⟨tm, df⟩ : Act).eval) (by simp) k.argTypes o.type
        exact done_pure m ⟨u, hu, hr⟩ (by simp [execOp, ho, resolve, hb, invoke, builtin])
      · rename_i xs
        obtain ⟨d, hd, rfl⟩ := val_some h
        obtain ⟨u, hu, hr⟩ := minmax_sound (P := P) (b := true) hd (evs_rds (fr := fr) (a := ⟨tm, df⟩) hev k.args.toList) (k.args.map (⟨tm, df⟩ : Act).eval) (by simp) k.argTypes o.type
        exact done_pure m ⟨u, hu, hr⟩ (by simp [execOp, ho, resolve, hb, invoke, builtin])
      · rename_i x y ha
        split at h
        · rename_i t t2 h0 h1
          split at h
          · exact appendO_sound m ho hb ha hf h0 h1 h
          · rw [Option.map_eq_some_iff] at h
            obtain ⟨d, hd, rfl⟩ := h
            exact appendV_sound m hres ho hb ha hf h0 h1 hd
        · cases h
      · rename_i x y ha
        split at h
        · rename_i t h0
          exact copyD_sound m ho hb ha hf h0 h
        · cases h
      · rename_i x ha
        split at h
        · rename_i t h0
          exact clearD_sound m ho hb ha hf h0 h
        · cases h
      · cases h
    · cases h
  | _ => rw [ho] at h hno; first | (simp [opS] at h; done) | (cases hno; done)
end
end Go.Abs
