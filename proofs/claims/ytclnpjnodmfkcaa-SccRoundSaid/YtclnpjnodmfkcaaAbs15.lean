/-
  Abs15: every operation does in the memory what the interpreter says.
-/
import Derived.Test.YtclnpjnodmfkcaaAbs14
set_option linter.unusedVariables false
set_option linter.unusedSimpArgs false
namespace Go.Abs
open Go

section
variable {P : Program} {n0 : Nat} {PR : Addr → Prop} {e : E} {reg : Own → Addr → Prop} {fr : Nat → DV} {tm : Array Value} {df : List Deferred}

/-- Rights change hands (those of objects stay). -/
theorem MI.rereg (m : MI n0 PR e reg) {q : Own → Addr → Prop} (qa : ∀ p a, q p a → ∃ p', reg p' a) (qd : ∀ p p' a, q p a → q p' a → p = p') (qo : ∀ j a, reg (.ob j) a → q (.ob j) a) (qc : ∀ j i a, reg (.cell j i) a → q (.cell j i) a) : MI n0 PR e q :=
  ⟨m.imlt, m.impr, m.prlt, m.n0le, fun p a h => let ⟨p', h'⟩ := qa p a h; m.ok p' a h', qd, m.ext, fun id o ho i hi => qo _ _ (m.own id o ho i hi), fun id o ho i d hd => let ⟨h1, v, h2, h3⟩ := m.cell id o ho i d hd; ⟨h1, v, h2, h3.weak (qc id i)⟩⟩

/-- A value without rights. -/
theorem done_ev (m : MI n0 PR e reg) {o : Oper} {a : Act} {d : DV} {v : Value} (hx : (execOp a.eval o).run P e.w = .ok (.value v) e.w) (r : ∀ s, RD e s d v) : ∃ v e' reg', Done P n0 PR e reg o a { d } v e' reg' :=
  ⟨v, e, reg, .inl hx, rfl, m, Ext.refl e, Keep.refl .., r _, fun _ _ _ h => h⟩

theorem move_done (m : MI n0 PR e reg) (hres : ∀ a, ¬ reg .res a) {o : Oper} {x : Operand} (hf : ∀ t, RD e (reg (.slot t)) (fr t) (tm.getD t undef)) (hx : (execOp (⟨tm, df⟩ : Act).eval o).run P e.w = .ok (.value ((⟨tm, df⟩ : Act).eval x)) e.w) :
    ∃ v e' reg', Done P n0 PR e reg o ⟨tm, df⟩ { d := raw fr x, drop := tmpOf x } v e' reg' := by
  cases x with
  | tmp t =>
    let q : Own → Addr → Prop := fun p a => match p with | .res => reg (.slot t) a | .slot u => u ≠ t ∧ reg p a | _ => reg p a
    have hq : ∀ p a, q p a → (p = .res ∧ reg (.slot t) a) ∨ (p ≠ .slot t ∧ p ≠ .res ∧ reg p a) := fun p a h => by
      cases p with
      | res => exact .inl ⟨rfl, h⟩
      | slot u => exact .inr ⟨fun hh => h.1 (by injection hh), by simp, h.2⟩
      | ob j => exact .inr ⟨by simp, by simp, h⟩
      | cell j i => exact .inr ⟨by simp, by simp, h⟩
    refine ⟨_, e, q, .inl hx, rfl, m.rereg (q := q) ?_ ?_ (fun _ _ h => h) (fun _ _ _ h => h), Ext.refl e, Keep.refl .., hf t, fun u hu a h => ⟨fun hh => hu (by simp [tmpOf, hh]), h⟩⟩
    · intro p a h
      rcases hq p a h with ⟨_, h⟩ | ⟨_, _, h⟩ <;> exact ⟨_, h⟩
    · intro p p' a h1 h2
      rcases hq p a h1 with ⟨g1, g2⟩ | ⟨g1, g1', g2⟩ <;> rcases hq p' a h2 with ⟨g3, g4⟩ | ⟨g3, g3', g4⟩
      · rw [g1, g3]
      · exact absurd (m.disj _ _ a g2 g4).symm g3
      · exact absurd (m.disj _ _ a g4 g2).symm g1
      · exact m.disj _ _ a g2 g4
  | const v => exact ⟨_, e, reg, .inl hx, rfl, m, Ext.refl e, Keep.refl .., ofVal_rd v, fun _ _ _ h => h⟩
  | global g => exact ⟨_, e, reg, .inl hx, rfl, m, Ext.refl e, Keep.refl .., .un, fun _ _ _ h => h⟩
  | func f => exact ⟨_, e, reg, .inl hx, rfl, m, Ext.refl e, Keep.refl .., .fn .nil .nil, fun _ _ _ h => h⟩

/-- An object is closed: nobody writes it any more. -/
theorem MI.freeze (m : MI n0 PR e reg) {id : Nat} {o : Ob} (ho : e.st[id]? = some o) :
    let im' : Addr → Prop := fun a => e.im a ∨ reg (.ob id) a
    let q : Own → Addr → Prop := fun p a => match p with | .ob j => j ≠ id ∧ reg p a | .cell j _ => j ≠ id ∧ reg p a | _ => reg p a
    MI n0 PR { e with im := im', st := e.st.set id ⟨o.ver + 1, []⟩, io := updIo e.io id ⟨0, 0, 0⟩ } q ∧ Ext e { e with im := im', st := e.st.set id ⟨o.ver + 1, []⟩, io := updIo e.io id ⟨0, 0, 0⟩ } := by
  intro im' q
  have hx : Ext e { e with im := im', st := e.st.set id ⟨o.ver + 1, []⟩, io := updIo e.io id ⟨0, 0, 0⟩ } :=
    Ext.of_set ho rfl (fun _ h => .inl h) (fun _ _ => rfl) (fun j hj => updIo_ne _ _ hj) ⟨Nat.le_succ _, fun h => by simp at h⟩ (fun _ _ h => h)
  have hq : ∀ p a, q p a → reg p a ∧ p ≠ .ob id := fun p a h => by
    cases p with
    | ob j => exact ⟨h.2, fun hh => h.1 (by injection hh)⟩
    | cell j i => exact ⟨h.2, by simp⟩
    | slot t => exact ⟨h, by simp⟩
    | res => exact ⟨h, by simp⟩
  have get : ∀ j x, (e.st.set id ⟨o.ver + 1, []⟩)[j]? = some x → (j = id ∧ x = ⟨o.ver + 1, []⟩) ∨ (j ≠ id ∧ e.st[j]? = some x) := fun j x hj => by
    by_cases hji : j = id
    · subst hji
      rw [get_set_self ho] at hj; cases hj
      exact .inl ⟨rfl, rfl⟩
    · rw [get_set_ne (Ne.symm hji)] at hj
      exact .inr ⟨hji, hj⟩
  refine ⟨⟨fun a ha => ?_, fun a ha hp => ?_, m.prlt, m.n0le, fun p a hp => ?_, fun p p' a h1 h2 => m.disj p p' a (hq p a h1).1 (hq p' a h2).1, fun j x hj => ?_, fun j x hj i hi => ?_, fun j x hj i d hd => ?_⟩, hx⟩
  · rcases ha with ha | ha
    · exact m.imlt a ha
    · exact m.old ha
  · rcases ha with ha | ha
    · exact m.impr a ha hp
    · exact (m.ok _ a ha).2.2.2.2 hp
  · obtain ⟨hr, hne⟩ := hq p a hp
    obtain ⟨h1, h2, h3, h4, h5⟩ := m.ok p a hr
    refine ⟨h1, h2, h3, fun hi => ?_, h5⟩
    rcases hi with hi | hi
    · exact h4 hi
    · exact hne (m.disj _ _ a hr hi)
  · rcases get j x hj with ⟨rfl, rfl⟩ | ⟨hne, hj'⟩
    · simp
    · simp only [updIo_ne _ _ hne]; exact m.ext j x hj'
  · rcases get j x hj with ⟨rfl, rfl⟩ | ⟨hne, hj'⟩
    · simp only [updIo_self] at hi; simp at hi
    · simp only [updIo_ne _ _ hne] at hi ⊢
      exact ⟨hne, m.own j x hj' i hi⟩
  · rcases get j x hj with ⟨rfl, rfl⟩ | ⟨hne, hj'⟩
    · simp at hd
    · obtain ⟨h1, v, h2, h3⟩ := m.cell j x hj' i d hd
      simp only [updIo_ne _ _ hne]
      exact ⟨h1, v, h2, h3.mono hx fun a ha => ⟨hne, ha⟩⟩

theorem freeze_done (m : MI n0 PR e reg) {o : Oper} {a : Act} {x : DV} {v : Value} {r : Out} (h : freezeD e.st x = some r) (hx : (execOp a.eval o).run P e.w = .ok (.value v) e.w) (hr : ∀ s, RD e s x v) : ∃ v e' reg', Done P n0 PR e reg o a r v e' reg' := by
  unfold freezeD at h
  split at h
  · rename_i id ver off len esz xx
    split at h
    · rename_i ob hob
      split at h
      · rename_i cs hcs
        cases h
        rw [Option.bind_eq_some_iff] at hcs
        obtain ⟨ds, hds, hcs⟩ := hcs
        obtain ⟨g1, rfl⟩ := getO_some hob
        obtain ⟨vs, hl, hcell, hrw, hk⟩ := m.cells g1 hds
        obtain ⟨q1, q2⟩ := m.freeze g1
        have hrd := hr (fun _ => False)
        cases hrd with
        | ms hid hle hxx hv =>
          rename_i a' cap
          obtain ⟨p1, p2⟩ := (hv ob g1).2 rfl
          refine ⟨_, { e with im := fun a => e.im a ∨ reg (.ob id) a, st := e.st.set id ⟨ob.ver + 1, []⟩, io := updIo e.io id ⟨0, 0, 0⟩ }, _, .inl hx, (by rfl), q1, q2, Keep.refl .., ?_, fun t _ x hx => hx⟩
          have hrc : RCs e.im e.w cs vs := closeL_rds hcs hk hrw
          refine .c (.sl (hrc.mono (fun _ h => .inl h) (fun _ _ => rfl)) (fun i u hi => ?_) hle hxx)
          have hlt : i < vs.length := (List.getElem?_eq_some_iff.1 hi).1
          have hle2 : len * esz ≤ cap * esz := Nat.mul_le_mul_right _ hle
          rcases p1 with p1 | p1
          · rw [p1] at hle2; omega
          · subst p1
            refine ⟨hcell i u hi, .inr ?_⟩
            rw [at_add]
            exact m.own id ob g1 _ (by omega)
      · cases h
    · cases h
  · cases h

theorem minmax_sound {b : Bool} {xs : List DV} {vs : List Value} {d : DV} (h : minmax b xs = some d) (r : RDs e xs vs) (args : Array Value) (ha : args.toList = vs) (ts : Array TypeId) (ty : TypeId) :
    ∃ u, ((if b then Builtin.max_ else Builtin.min_) ts ty args).run P e.w = .ok u e.w ∧ ∀ s, RD e s d u := by
  cases r with
  | nil => simp [minmax] at h
  | cons h1 h2 =>
    simp only [minmax] at h
    obtain ⟨u, hu, hr⟩ := minmax_go (P := P) h h2 ⟨_, h1⟩
    refine ⟨u, ?_, hr⟩
    cases b <;> simpa [Builtin.max_, Builtin.min_, ha] using hu

theorem rds_get {ds : List DV} {vs : List Value} (h : RDs e ds vs) {i : Nat} {d : DV} (hd : ds[i]? = some d) : ∃ v, vs[i]? = some v ∧ RD e (fun _ => False) d v := h.get hd

theorem opS_sound (m : MI n0 PR e reg) (hres : ∀ a, ¬ reg .res a) (hf : ∀ t, RD e (reg (.slot t)) (fr t) (tm.getD t undef)) {o : Oper} {c : Site} {r : Out} (h : opS P c o.op fr e.st = some r) : ∃ v e' reg', Done P n0 PR e reg o ⟨tm, df⟩ r v e' reg' := by
  have hev : ∀ x s, RD e s (ev fr x) ((⟨tm, df⟩ : Act).eval x) := fun x s => ev_rd hf x
  cases ho : o.op with
  | move x =>
    rw [ho] at h
    simp only [opS] at h
    split at h
    · cases h; exact move_done m hres hf (by simp [execOp, ho])
    · split at h
      · exact freeze_done m h (v := (⟨tm, df⟩ : Act).eval x) (by simp [execOp, ho]) (hev x)
      · cases h; exact done_ev m (v := (⟨tm, df⟩ : Act).eval x) (by simp [execOp, ho]) (hev x)
  | assign x =>
    rw [ho] at h
    simp only [opS] at h
    split at h
    · cases h; exact move_done m hres hf (by simp [execOp, ho])
    · split at h
      · exact freeze_done m h (v := (⟨tm, df⟩ : Act).eval x) (by simp [execOp, ho]) (hev x)
      · cases h; exact done_ev m (v := (⟨tm, df⟩ : Act).eval x) (by simp [execOp, ho]) (hev x)
  | pick b x y =>
    rw [ho] at h
    simp only [opS] at h
    split at h
    · rename_i b' hb
      cases h
      have := hev b (fun _ => False)
      rw [hb] at this
      generalize hab : (⟨tm, df⟩ : Act).eval b = ab at this
      cases this with
      | c this =>
        cases this
        cases b' with
        | true => exact done_ev m (v := (⟨tm, df⟩ : Act).eval x) (by simp [execOp, ho, hab, asBool]) (hev x)
        | false => exact done_ev m (v := (⟨tm, df⟩ : Act).eval y) (by simp [execOp, ho, hab, asBool]) (hev y)
    · cases h
  | alloc t => rw [ho] at h; exact alloc_sound m ho h
  | box t x => rw [ho] at h; exact box_sound m ho hev h
  | build t ps => rw [ho] at h; exact build_sound m ho hev h
  | buildSlice t n ps => rw [ho] at h; exact buildSlice_sound m hres ho hev h
  | makeSlice t l cp => rw [ho] at h; exact makeSlice_sound m ho hev h
  | load t x => rw [ho] at h; exact load_done m hres ho hev h
  | store t x y => rw [ho] at h; exact store_sound m ho hf h
  | nilCheck x =>
    rw [ho] at h
    simp only [opS] at h
    have hx := hev x
    split at h
    · rename_i id ver off hd
      cases h
      rw [hd] at hx
      have h1 := hx (fun _ => False)
      generalize hax : (⟨tm, df⟩ : Act).eval x = ax at h1 hx
      refine done_ev m (v := ax) ?_ hx
      cases h1; simp [execOp, ho, hax]
    · rename_i cs off hd
      cases h
      rw [hd] at hx
      have h1 := hx (fun _ => False)
      generalize hax : (⟨tm, df⟩ : Act).eval x = ax at h1 hx
      refine done_ev m (v := ax) ?_ hx
      cases h1; simp [execOp, ho, hax]
    · rename_i f a b hd
      cases h
      rw [hd] at hx
      have h1 := hx (fun _ => False)
      generalize hax : (⟨tm, df⟩ : Act).eval x = ax at h1 hx
      refine done_ev m (v := ax) ?_ hx
      cases h1; simp [execOp, ho, hax]
    · rename_i k hd
      cases h
      rw [hd] at hx
      have h1 := hx (fun _ => False)
      generalize hax : (⟨tm, df⟩ : Act).eval x = ax at h1 hx
      refine done_ev m (v := ax) ?_ hx
      cases h1; simp [execOp, ho, hax]
    · cases h
  | binOp op t x y _ =>
    rw [ho] at h
    simp only [opS] at h
    obtain ⟨d, hd, rfl⟩ := val_some h
    exact done_pure m (binD_run hd (hev x (fun _ => False)) (hev y (fun _ => False)) x y) (by simp [execOp, ho])
  | unOp op t x =>
    rw [ho] at h
    simp only [opS] at h
    obtain ⟨d, hd, rfl⟩ := val_some h
    exact done_pure m (unD_run hd (hev x (fun _ => False))) (by simp [execOp, ho])
  | convert a b x =>
    rw [ho] at h
    simp only [opS] at h
    obtain ⟨d, hd, rfl⟩ := val_some h
    exact done_pure m (convD_run hd (hev x (fun _ => False))) (by simp [execOp, ho])
  | makeFunc fn xs ys =>
    rw [ho] at h
    cases fn with
    | func f =>
      simp only [opS] at h
      cases h
      refine done_ev m (v := .func (.func f) (xs.map (⟨tm, df⟩ : Act).eval) (ys.map (⟨tm, df⟩ : Act).eval)) (by simp [execOp, ho, Instr.makeFunc]) (fun s => ?_)
      have h1 := evs_rds (fr := fr) (a := ⟨tm, df⟩) hev xs.toList
      have h2 := evs_rds (fr := fr) (a := ⟨tm, df⟩) hev ys.toList
      have e1 : ∀ (zs : Array Operand), zs.map (⟨tm, df⟩ : Act).eval = ⟨zs.toList.map (⟨tm, df⟩ : Act).eval⟩ := fun zs => by apply Array.ext'; simp
      rw [e1, e1]
      exact .fn h1 h2
    | _ => simp [opS] at h
  | slice t x lo hi mx =>
    rw [ho] at h
    simp only [opS] at h
    obtain ⟨d, hd, rfl⟩ := val_some h
    exact done_pure m (slice_sound m hd (hev x (fun _ => False)) (RO.of (fun x => ⟨_, hev x (fun _ => False)⟩) lo) (RO.of (fun x => ⟨_, hev x (fun _ => False)⟩) hi) (RO.of (fun x => ⟨_, hev x (fun _ => False)⟩) mx)) (by simp [execOp, ho])
  | fieldAddr t x f =>
    rw [ho] at h
    simp only [opS] at h
    obtain ⟨d, hd, rfl⟩ := val_some h
    exact done_pure m (fieldAddr_sound hd (hev x (fun _ => False))) (by simp [execOp, ho])
  | field t x f =>
    rw [ho] at h
    simp only [opS] at h
    obtain ⟨d, hd, rfl⟩ := val_some h
    exact done_pure m (field_sound hd (hev x (fun _ => False))) (by simp [execOp, ho])
  | indexAddr t x i =>
    rw [ho] at h
    simp only [opS] at h
    obtain ⟨d, hd, rfl⟩ := val_some h
    exact done_pure m (indexAddr_sound hd (hev x (fun _ => False)) (hev i (fun _ => False))) (by simp [execOp, ho])
  | index t x i =>
    rw [ho] at h
    simp only [opS] at h
    obtain ⟨d, hd, rfl⟩ := val_some h
    exact done_pure m (index_sound hd (hev x (fun _ => False)) (hev i (fun _ => False))) (by simp [execOp, ho])
  | extract x i =>
    rw [ho] at h
    simp only [opS] at h
    split at h
    · rename_i ds hx
      obtain ⟨d, hd, rfl⟩ := val_some h
      rw [Option.map_eq_some_iff] at hd
      obtain ⟨d0, hd0, rfl⟩ := hd
      have := hev x (fun _ => False)
      rw [hx] at this
      generalize hax : (⟨tm, df⟩ : Act).eval x = ax at this
      cases this with
      | tup hr =>
        obtain ⟨v, hv, hr'⟩ := hr.get hd0
        exact done_ev m (v := v) (by simp [execOp, ho, hax, Instr.extract, hv]) (fun s => hr'.unflag)
    · cases h
  | call k =>
    rw [ho] at h
    simp only [opS] at h
    split at h
    · rename_i b hb
      split at h
      · rename_i x ha
        obtain ⟨d, hd, rfl⟩ := val_some h
        have hargs : k.args = #[x] := by apply Array.ext'; simpa using ha
        have hm : k.args.map (⟨tm, df⟩ : Act).eval = #[(⟨tm, df⟩ : Act).eval x] := by rw [hargs]; simp
        split at hd
        · rename_i t ht
          exact done_pure m (len_sound hd (hev x (fun _ => False)) k.argTypes ht o.type) (by simp [execOp, ho, resolve, hb, invoke, builtin, hm])
        · cases hd
      · rename_i xs
        obtain ⟨d, hd, rfl⟩ := val_some h
        obtain ⟨u, hu, hr⟩ := minmax_sound (P := P) (b := false) hd (evs_rds (fr := fr) (a := ⟨tm, df⟩) hev k.args.toList) (k.args.map (⟨tm, df⟩ : Act).eval) (by simp) k.argTypes o.type
        exact done_pure m ⟨u, hu, hr⟩ (by simp [execOp, ho, resolve, hb, invoke, builtin])
      · rename_i xs
        obtain ⟨d, hd, rfl⟩ := val_some h
        obtain ⟨u, hu, hr⟩ := minmax_sound (P := P) (b := true) hd (evs_rds (fr := fr) (a := ⟨tm, df⟩) hev k.args.toList) (k.args.map (⟨tm, df⟩ : Act).eval) (by simp) k.argTypes o.type
        exact done_pure m ⟨u, hu, hr⟩ (by simp [execOp, ho, resolve, hb, invoke, builtin])
      · rename_i x y ha
        split at h
        · rename_i t t2 h0 h1
          split at h
          · exact appendO_sound m ho hb ha hf h0 h1 h
          · rw [Option.map_eq_some_iff] at h
            obtain ⟨d, hd, rfl⟩ := h
            exact appendV_sound m hres ho hb ha hf h0 h1 hd
        · cases h
      · rename_i x y ha
        split at h
        · rename_i t h0
          exact copyD_sound m ho hb ha hf h0 h
        · cases h
      · cases h
    · cases h
  | _ => rw [ho] at h; simp [opS] at h
end
end Go.Abs
