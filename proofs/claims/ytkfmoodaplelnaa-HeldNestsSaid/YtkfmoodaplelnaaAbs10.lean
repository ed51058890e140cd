/-
  Abs10: each operation does in the memory what the interpreter says: those that compute, read, lay, store.
-/
import Derived.Test.YtkfmoodaplelnaaAbs9
set_option linter.unusedVariables false
set_option linter.unusedSectionVars false
namespace Go.Abs
open Go
variable [Fl]

def stSet (st : List Ob) : Option (Nat × Ob) → List Ob
  | some (id, o) => st.set id o
  | none => st

/-- The operation comes to a value (or to nothing: then what is put is undef). -/
def Runs (P : Program) (o : Oper) (a : Act) (w : World) (v : Value) (w' : World) : Prop :=
  (execOp a.eval o).run P w = .ok (.value v) w' ∨ ((execOp a.eval o).run P w = .ok .skip w' ∧ v = undef)

/-- What is so behind an operation. -/
structure Done (P : Program) (n0 : Nat) (PR : Addr → Prop) (e : E) (reg : Own → Addr → Prop) (o : Oper) (a : Act) (r : Out) (v : Value) (e' : E) (reg' : Own → Addr → Prop) : Prop where
  run : Runs P o a e.w v e'.w
  st : (e'.st, e'.la) = (stSet e.st r.set, e.la)
  mi : MI n0 PR e' reg'
  ext : Ext e e'
  keep : Keep n0 PR (fun _ => False) e.w e'.w
  res : RD e' (reg' .res) r.d v
  slot : ∀ t, t ∉ r.drop → ∀ x, reg (.slot t) x → reg' (.slot t) x

section
variable {P : Program} {n0 : Nat} {PR : Addr → Prop} {e : E} {reg : Own → Addr → Prop} {fr : Nat → DV} {tm : Array Value} {df : List Deferred}

theorem done_pure (m : MI n0 PR e reg) {o : Oper} {a : Act} {d : DV} {sm : Sem Value} (hg : Gives P e sm d) (hx : execOp a.eval o = do pure (.value (← sm))) :
    ∃ v e' reg', Done P n0 PR e reg o a { d } v e' reg' := by
  obtain ⟨u, hu, hr⟩ := hg
  exact ⟨u, e, reg, .inl (by rw [hx]; simp [hu]), rfl, m, Ext.refl e, Keep.refl .., hr _, fun _ _ _ h => h⟩
theorem val_some {d : Option DV} {r : Out} (h : val d = some r) : ∃ x, d = some x ∧ r = { d := x } := by
  unfold val at h
  rw [Option.map_eq_some_iff] at h
  obtain ⟨x, hx, rfl⟩ := h
  exact ⟨x, hx, rfl⟩
theorem gives_of {sm : Sem Value} {d : DV} {v : Value} (h : sm.run P e.w = .ok v e.w) (r : ∀ s, RD e s d v) : Gives P e sm d := ⟨v, h, r⟩

theorem RO.of {fr : Nat → DV} {a : Act} (h : ∀ x, ∃ s, RD e s (ev fr x) (a.eval x)) (x : Option Operand) : RO e (x.map (ev fr)) (x.map a.eval) := by
  cases x with
  | none => trivial
  | some x => exact h x

theorem evs_rds {fr : Nat → DV} {a : Act} (h : ∀ x s, RD e s (ev fr x) (a.eval x)) : ∀ (xs : List Operand), RDs e (evs fr xs) (xs.map a.eval)
  | [] => .nil
  | x :: xs => .cons (h x _) (evs_rds h xs)

theorem lay_get {st : List Ob} {id : Nat} {ds : List DV} {x : Nat × Ob} (hl : lay st id ds = some x) : x = (id, ⟨x.2.ver, ds⟩) ∧ id < st.length ∧ ∃ o0, st[id]? = some o0 ∧ o0.ver < x.2.ver := by
  unfold lay at hl
  split at hl
  · rename_i o0 ho
    cases hl
    exact ⟨rfl, (List.getElem?_eq_some_iff.1 ho).1, o0, ho, Nat.lt_succ_self _⟩
  · cases hl

/-- The new object and the pointer (or slice) to it. -/
theorem done_lay (m : MI n0 PR e reg) {o : Oper} {a : Act} {id : Nat} {ds : List DV} {x : Nat × Ob} {us : List Value} {T : TypeId} {d : DV} {v : Value} (hl : lay e.st id ds = some x) (hr : RDs e ds us) (hk : ds.all cellOk = true)
    (hrun : (execOp a.eval o).run P e.w = .ok (.value v) (e.w.alloc (.cells ⟨us⟩ T)))
    (hd : ∀ e' : E, e'.st = e.st.set id ⟨x.2.ver, ds⟩ → e'.io id = ⟨e.w.heap.size, 0, us.length⟩ → ∀ s, RD e' s d v) : ∃ v e' reg', Done P n0 PR e reg o a { d, set := some x } v e' reg' := by
  obtain ⟨hx, hlt, o0, ho, hv⟩ := lay_get hl
  obtain ⟨h1, h2⟩ := m.objNew (o' := ⟨x.2.ver, ds⟩) ho hv us T (fun _ _ h => h) hr hk
  refine ⟨v, _, _, .inl hrun, ?_, h1, h2, alloc_keep _ m.n0le m.prlt _, hd _ rfl (updIo_self _ _ _) _, fun t _ x hx => hx⟩
  rw [hx]; rfl

theorem pt_new {e' : E} {id ver : Nat} {ds : List DV} {n k : Nat} (h0 : id < e'.st.length) (h1 : e'.st[id]? = some ⟨ver, ds⟩) (h2 : e'.io id = ⟨n, 0, k⟩) (s : Addr → Prop) : RD e' s (.pt id ver 0) (.pointer (some ⟨n, 0, none⟩)) :=
  .pt h0 fun o ho => by rw [h1] at ho; cases ho; exact ⟨Nat.le_refl _, fun _ => by rw [h2]; rfl⟩
theorem ms_new {e' : E} {id ver : Nat} {ds : List DV} {n k len cap esz : Nat} {x : Bool} (h0 : id < e'.st.length) (h1 : e'.st[id]? = some ⟨ver, ds⟩) (h2 : e'.io id = ⟨n, 0, k⟩) (hl : len ≤ cap) (hx : x = true → cap = len) (hk : cap * esz ≤ k) (s : Addr → Prop) :
    RD e' s (.ms id ver 0 len esz x) (.slice (some ⟨n, 0, none⟩) len cap) :=
  .ms h0 hl hx fun o ho => by rw [h1] at ho; cases ho; exact ⟨Nat.le_refl _, fun _ => ⟨.inr (by rw [h2]; rfl), by rw [h2]; simpa using hk⟩⟩
theorem set_get {st : List Ob} {id : Nat} {o : Ob} (h : id < st.length) : (st.set id o)[id]? = some o := by simp [h]

theorem nzD_rd {s : Addr → Prop} {d : DV} {v : Value} (esz : Nat) (h : RD e s d v) : RD e s (nzD esz d) v := by
  unfold nzD
  split
  · cases h with
    | c h =>
      cases h with
      | nil => exact .apnil
  · exact h
theorem nz1_rd {s : Addr → Prop} {d : DV} {v : Value} (nz : List (Nat × Nat)) (h : RD e s d v) : RD e s (nz1 nz d) v := by
  unfold nz1
  split
  · exact nzD_rd _ h
  · exact h
theorem nzD_ok (esz : Nat) {d : DV} (h : cellOk d = true) : cellOk (nzD esz d) = true := by
  unfold nzD
  split
  · rfl
  · exact h
theorem nzL_length : ∀ (nz : List (Nat × Nat)) (cs : List DV), (nzL nz cs).length = cs.length
  | [], _ => rfl
  | (i, esz) :: nz, cs => by
    simp only [nzL]
    rw [nzL_length nz]
    cases cs[i]? <;> simp
theorem nzD_nzD (e e' : Nat) (d : DV) : nzD e (nzD e' d) = nzD e' d ∨ nzD e (nzD e' d) = nzD e d := by
  by_cases h : d = .c (.sl true true [] 0)
  · subst h; exact .inl rfl
  · have : nzD e' d = d := by
      unfold nzD
      split
      · exact absurd rfl h
      · rfl
    exact .inr (by rw [this])
theorem nzL_get : ∀ (nz : List (Nat × Nat)) (cs : List DV) (i : Nat) (d : DV), (nzL nz cs)[i]? = some d → ∃ d0, cs[i]? = some d0 ∧ (d = d0 ∨ ∃ esz, d = nzD esz d0)
  | [], cs, i, d, h => ⟨d, h, .inl rfl⟩
  | (j, esz) :: nz, cs, i, d, h => by
    simp only [nzL] at h
    obtain ⟨d1, h1, hc⟩ := nzL_get nz _ i d h
    cases hj : cs[j]? with
    | none => rw [hj] at h1; exact ⟨d1, h1, hc⟩
    | some dj =>
      rw [hj] at h1
      simp only [List.getElem?_set] at h1
      split at h1
      · rename_i hji
        subst hji
        split at h1
        · cases h1
          refine ⟨dj, hj, ?_⟩
          rcases hc with rfl | ⟨e2, rfl⟩
          · exact .inr ⟨esz, rfl⟩
          · rcases nzD_nzD e2 esz dj with h2 | h2
            · exact .inr ⟨esz, h2⟩
            · exact .inr ⟨e2, h2⟩
        · cases h1
      · exact ⟨d1, h1, hc⟩
theorem nzL_rds : ∀ (nz : List (Nat × Nat)) {ds : List DV} {vs : List Value}, RDs e ds vs → ds.all cellOk = true → RDs e (nzL nz ds) vs ∧ (nzL nz ds).all cellOk = true
  | [], ds, vs, h, hk => ⟨h, hk⟩
  | (i, esz) :: nz, ds, vs, h, hk => by
    simp only [nzL]
    cases hd : ds[i]? with
    | none => exact nzL_rds nz h hk
    | some d =>
      obtain ⟨v, hv, hr⟩ := h.get hd
      have hi : i < ds.length := (List.getElem?_eq_some_iff.1 hd).1
      refine nzL_rds nz (RDs.of_get (by simp [h.length]) fun j c u hc hu => ?_) ?_
      · rw [List.getElem?_set] at hc
        split at hc
        · rename_i hij
          subst hij
          cases hc
          rw [hv] at hu; cases hu
          exact nzD_rd esz hr
        · obtain ⟨w, hw, hr'⟩ := h.get hc
          rw [hw] at hu; cases hu; exact hr'
      · rw [List.all_eq_true] at hk ⊢
        intro c hc
        rcases List.mem_or_eq_of_mem_set hc with hc | rfl
        · exact hk c hc
        · exact nzD_ok esz (hk d (List.mem_of_getElem? hd))

theorem alloc_sound (m : MI n0 PR e reg) {o : Oper} {t : TypeId} (ho : o.op = .alloc t) {a : Act} {id : Nat} {nz : List (Nat × Nat)} {r : Out} (h : ((zeroT P t).bind fun cs => (lay e.st id (nzL nz cs)).map fun x => ({ d := .pt id x.2.ver 0, set := some x } : Out)) = some r) :
    ∃ v e' reg', Done P n0 PR e reg o a r v e' reg' := by
  rw [Option.bind_eq_some_iff] at h
  obtain ⟨cs, hcs, h⟩ := h
  rw [Option.map_eq_some_iff] at h
  obtain ⟨x, hx, rfl⟩ := h
  obtain ⟨z, hz, ⟨vs, hv, hr⟩, hk⟩ := zeroT_run (e := e) hcs e.w
  obtain ⟨_, hlt, _⟩ := lay_get hx
  obtain ⟨hr, hk⟩ := nzL_rds nz hr hk
  refine done_lay m hx hr hk (T := t) (v := .pointer (some ⟨e.w.heap.size, 0, none⟩)) ?_ (fun e' h1 h2 s => pt_new (by rw [h1]; simpa using hlt) (by rw [h1]; exact set_get hlt) h2 s)
  simp [execOp, ho, Instr.alloc, hz, newVar, newRow, hv]

theorem box_sound (m : MI n0 PR e reg) {o : Oper} {t : TypeId} {x : Operand} (ho : o.op = .box t x) {a : Act} (hev : ∀ x s, RD e s (ev fr x) (a.eval x)) {id : Nat} {nz : List (Nat × Nat)} {r : Out}
    (h : ((cellsOf (ev fr x)).bind fun cs => (lay e.st id (nzL nz cs)).map fun x => ({ d := .pt id x.2.ver 0, set := some x } : Out)) = some r) : ∃ v e' reg', Done P n0 PR e reg o a r v e' reg' := by
  rw [Option.bind_eq_some_iff] at h
  obtain ⟨cs, hcs, h⟩ := h
  rw [Option.map_eq_some_iff] at h
  obtain ⟨y, hy, rfl⟩ := h
  obtain ⟨hk, us, hu, hr⟩ := cellsOf_ev (ev_plain fr x) hcs (hev x (fun _ => False))
  obtain ⟨_, hlt, _⟩ := lay_get hy
  obtain ⟨hr, hk⟩ := nzL_rds nz hr hk
  refine done_lay m hy hr hk (T := t) (v := .pointer (some ⟨e.w.heap.size, 0, none⟩)) ?_ (fun e' h1 h2 s => pt_new (by rw [h1]; simpa using hlt) (by rw [h1]; exact set_get hlt) h2 s)
  simp [execOp, ho, Instr.box, newVar, newRow, hu]

theorem replD_rds {z : List DV} {zv : List Value} (h : RDs e z zv) (n : Nat) : RDs e (replD n z) (List.replicate n zv).flatten := by
  unfold replD
  induction n with
  | zero => exact .nil
  | succ n ih => simp only [List.replicate_succ, List.flatten_cons]; exact h.append ih
theorem replD_all {z : List DV} (h : z.all cellOk = true) (n : Nat) : (replD n z).all cellOk = true := by
  unfold replD
  rw [List.all_eq_true] at h ⊢
  intro x hx
  obtain ⟨l, hl, hx⟩ := List.mem_flatten.1 hx
  rw [(List.mem_replicate.1 hl).2] at hx
  exact h x hx
theorem flatten_rep (zv : List Value) (n : Nat) : ∀ i, i < n * zv.length → (List.replicate n zv).flatten[i]? = some (zv[i % zv.length]!) := by
  induction n with
  | zero => intro i hi; simp at hi
  | succ n ih =>
    intro i hi
    simp only [List.replicate_succ, List.flatten_cons]
    rcases Nat.lt_or_ge i zv.length with h | h
    · rw [List.getElem?_append_left h, Nat.mod_eq_of_lt h]; simp [h]
    · rw [List.getElem?_append_right h, ih (i - zv.length) (by rw [Nat.add_mul] at hi; omega), Nat.mod_eq_sub_mod h]
theorem zeros_eq (zv : List Value) (k n : Nat) (hl : zv.length = k) : ((Array.range (n * k)).map (fun x => (⟨zv⟩ : Array Value)[x % (⟨zv⟩ : Array Value).size]!)) = ⟨(List.replicate n zv).flatten⟩ := by
  apply Array.ext'
  apply List.ext_getElem?
  intro i
  simp only [Array.toList_map, Array.toList_range, List.getElem?_map]
  rcases Nat.lt_or_ge i (n * k) with h | h
  · rw [List.getElem?_range h, flatten_rep zv n i (by rw [hl]; exact h)]
    simp
  · rw [List.getElem?_eq_none (by simpa using h), List.getElem?_eq_none (by simp [hl]; exact h)]
    rfl

theorem build_sound (m : MI n0 PR e reg) {o : Oper} {t : TypeId} {ps : Array (Nat × Operand)} (ho : o.op = .build t ps) {a : Act} (hev : ∀ x s, RD e s (ev fr x) (a.eval x)) {c : Site} {r : Out}
    (h : opS P c (.build t ps) fr e.st = some r) : ∃ v e' reg', Done P n0 PR e reg o a r v e' reg' := by
  have hps := RPs.of (fr := fr) (a := a) (fun x => ⟨_, hev x (fun _ => False)⟩) ps.toList
  simp only [opS] at h
  split at h
  · rename_i fs z hu hz
    split at h
    · rename_i hall
      obtain ⟨x, hx, rfl⟩ := val_some h
      rw [Option.map_eq_some_iff] at hx
      obtain ⟨cs, hcs, rfl⟩ := hx
      obtain ⟨zv, hzr, ⟨vs, hv, hr⟩, hka⟩ := zeroT_run (e := e) hz e.w
      obtain ⟨hk2, ws, hw, hrw⟩ := fill_sound hps hcs hka hr
      have hsz : ∀ f ∈ fs.toList, ∃ k, sizeT P f.type = some k := fun f hf => by
        have := (List.all_eq_true.1 hall) f hf
        exact Option.isSome_iff_exists.1 this
      obtain ⟨pl, p1, p2, p3⟩ := mapM_places (w := e.w) hsz
      have hpl : (fun (i : Nat) => (fs[i]?).bind fun (fd : Field) => (sizeT P fd.type).map fun k => (fd.offset, k)) = fun i => (⟨pl⟩ : Array (Nat × Nat))[i]? := by
        funext i
        cases hf : fs[i]? with
        | none =>
          have : pl.length ≤ i := by rw [p2]; simpa using hf
          simp [this]
        | some fd =>
          obtain ⟨k, hk⟩ := hsz fd (by have := Array.mem_of_getElem? hf; simpa using this)
          have := p3 i fd k (by simpa using hf) hk
          simp [hk, this]
      rw [hpl] at hw
      refine done_pure m (sm := Instr.build t (ps.map fun (i, x) => (i, a.eval x))) (gives_of (v := .agg ⟨ws⟩) ?_ fun s => mkAgg_rd hk2 hrw.w) (by simp [execOp, ho])
      have hw' : Instr.fill (fun i => (⟨pl⟩ : Array (Nat × Nat))[i]?) ⟨vs⟩ (ps.map fun (i, x) => (i, a.eval x)).toList = some ⟨ws⟩ := by simpa using hw
      simp only [Instr.build, Sem.run_bind, hzr, Result.andThen_ok, run_underlying hu, hv, Array.mapM_eq_mapM_toList, Sem.run_map, p1]
      rw [show (pl.toArray) = ⟨pl⟩ from rfl, hw']
      rfl
    · cases h
  · rename_i n el z hu hz
    split at h
    · rename_i k hk
      obtain ⟨x, hx, rfl⟩ := val_some h
      rw [Option.map_eq_some_iff] at hx
      obtain ⟨cs, hcs, rfl⟩ := hx
      obtain ⟨zv, hzr, ⟨vs, hv, hr⟩, hka⟩ := zeroT_run (e := e) hz e.w
      obtain ⟨hk2, ws, hw, hrw⟩ := fill_sound hps hcs hka hr
      refine done_pure m (sm := Instr.build t (ps.map fun (i, x) => (i, a.eval x))) (gives_of (v := .agg ⟨ws⟩) ?_ fun s => mkAgg_rd hk2 hrw.w) (by simp [execOp, ho])
      have hw' : Instr.fill (fun i => some (i * k, k)) ⟨vs⟩ (ps.map fun (i, x) => (i, a.eval x)).toList = some ⟨ws⟩ := by simpa using hw
      simp only [Instr.build, Sem.run_bind, hzr, Result.andThen_ok, run_underlying hu, sizeT_run hk, hv, hw', Sem.run_pure]
    · cases h
  · cases h

theorem buildSlice_sound (m : MI n0 PR e reg) (hres : ∀ a, ¬ reg .res a) {o : Oper} {t : TypeId} {n : Nat} {ps : Array (Nat × Operand)} (ho : o.op = .buildSlice t n ps) {a : Act} (hev : ∀ x s, RD e s (ev fr x) (a.eval x)) {c : Site} {r : Out}
    (h : opS P c (.buildSlice t n ps) fr e.st = some r) : ∃ v e' reg', Done P n0 PR e reg o a r v e' reg' := by
  have hps := RPs.of (fr := fr) (a := a) (fun x => ⟨_, hev x (fun _ => False)⟩) ps.toList
  simp only [opS] at h
  split at h
  · rename_i el hu
    split at h
    · rename_i k z hk hz
      split at h
      · cases h
      · rename_i hcond
        obtain ⟨zv, hzr, ⟨zs, hv, hr⟩, hka⟩ := zeroT_run (e := e) hz e.w
        have hzl : zs.length = k := by rw [← hr.length]; omega
        split at h
        · cases h
        · rename_i cs hcs
          obtain ⟨hk2, ws, hw, hrw⟩ := fill_sound hps hcs (replD_all hka n) (replD_rds hr n)
          have hwl : ws.length = n * k := by
            have h1 := hrw.length
            have : cs.length = (replD n z).length := by
              have key : ∀ (ps : List (Nat × DV)) (c0 r : List DV) (pl : Nat → Option (Nat × Nat)), fillD pl c0 ps = some r → r.length = c0.length := fun ps => by
                induction ps with
                | nil => intro c0 r pl hh; simp only [fillD] at hh; cases hh; rfl
                | cons p ps ih =>
                  intro c0 r pl hh
                  obtain ⟨i, d⟩ := p
                  simp only [fillD] at hh
                  split at hh
                  · split at hh
                    · rw [ih _ _ _ hh, setL_len]
                    · cases hh
                  · cases hh
              exact key _ _ _ _ hcs
            rw [← h1, this]
            have h3 := (replD_rds hr n).length
            rw [h3]
            simp [hzl]
          have hrun : (execOp a.eval o).run P e.w = .ok (.value (.slice (some ⟨e.w.heap.size, 0, none⟩) n n)) (e.w.alloc (.cells ⟨ws⟩ el)) := by
            have hw' : Instr.fill (fun i => some (i * k, k)) ⟨(List.replicate n zs).flatten⟩ (ps.map fun (i, x) => (i, a.eval x)).toList = some ⟨ws⟩ := by simpa using hw
            have hle : ¬ (n * k > 2 ^ 24) := by omega
            simp only [execOp, ho, Sem.run_bind, Instr.buildSlice, run_underlying hu, Result.andThen_ok, sizeT_run hk, if_neg hle, Sem.run_pure]
            by_cases h0 : n * k = 0
            · have hws : (List.replicate n zs).flatten = [] := by
                apply List.eq_nil_of_length_eq_zero
                simp [hzl, h0]
              rw [hws] at hw'
              have hz0 : (Array.map (fun x => (#[] : Array Value)[x % (#[] : Array Value).size]!) (Array.range (n * k))) = ⟨[]⟩ := by simp [h0]
              rw [if_pos h0]
              simp only [Sem.run_bind, Sem.run_pure, Result.andThen_ok, hz0, hw']
              simp [newRow]
            · rw [if_neg h0]
              simp only [Sem.run_bind, hzr, Result.andThen_ok, Sem.run_pure, hv, zeros_eq zs k n hzl, hw']
              simp [newRow]
          split at h
          · rw [Option.map_eq_some_iff] at h
            obtain ⟨x, hx, rfl⟩ := h
            obtain ⟨_, hlt, _⟩ := lay_get hx
            exact done_lay m hx hrw hk2 (T := el) hrun (fun e' h1 h2 s => ms_new (by rw [h1]; simpa using hlt) (by rw [h1]; exact set_get hlt) h2 (Nat.le_refl _) (fun _ => rfl) (by omega) s)
          · rw [Option.map_eq_some_iff] at h
            obtain ⟨cv, hcv, rfl⟩ := h
            obtain ⟨h1, h2⟩ := m.imm hres ws el ws.length
            refine ⟨_, { e with w := e.w.alloc (.cells ⟨ws⟩ el), im := fun a => e.im a ∨ ∃ i, i < ws.length ∧ a = ⟨e.w.heap.size, i, none⟩ }, _, .inl hrun, rfl, h1, h2, alloc_keep _ m.n0le m.prlt _, ?_, fun t _ x hx => hx⟩
            have hrc : RCs e.im e.w cv ws := closeL_rds hcv hk2 hrw.w
            have hcell : ∀ (i : Nat) v, ws[i]? = some v → (e.w.alloc (.cells ⟨ws⟩ el)).cell? ⟨e.w.heap.size, 0 + i, none⟩ = some v ∧ (e.im ⟨e.w.heap.size, 0 + i, none⟩ ∨ ∃ i', i' < ws.length ∧ (⟨e.w.heap.size, 0 + i, none⟩ : Addr) = ⟨e.w.heap.size, i', none⟩) := fun i v hv => by
              have hlt : i < ws.length := (List.getElem?_eq_some_iff.1 hv).1
              rw [Nat.zero_add]
              exact ⟨by rw [alloc_cell_new]; exact hv, .inr ⟨i, hlt, rfl⟩⟩
            show RD _ _ (if c.nz.isEmpty = true then _ else _) _
            by_cases hnz : c.nz.isEmpty = true
            · rw [if_pos hnz]
              refine .c (.sl (hrc.mono h2.im h2.cell) (fun i v hv => ?_) (Nat.le_refl _) (fun _ => rfl))
              rw [mk_add]
              exact hcell i v hv
            · rw [if_neg hnz]
              exact .ap (hrc.mono h2.im h2.cell) hcell (Nat.le_refl _) (by rw [hrc.length]; omega) (fun i h1 h2 => by omega)
    · cases h
  · cases h

theorem makeSlice_sound (m : MI n0 PR e reg) (hres : ∀ a, ¬ reg .res a) {o : Oper} {t : TypeId} {l cp : Operand} (ho : o.op = .makeSlice t l cp) {a : Act} (hev : ∀ x s, RD e s (ev fr x) (a.eval x)) {c : Site} {r : Out}
    (h : opS P c (.makeSlice t l cp) fr e.st = some r) : ∃ v e' reg', Done P n0 PR e reg o a r v e' reg' := by
  simp only [opS] at h
  split at h
  · rename_i el hu
    split at h
    · rename_i i z l' cp' hi hz hl hcp
      split at h
      · rename_i hcond
        obtain ⟨c1, c2, c3, c4, c5⟩ := hcond
        obtain ⟨kl, hvl⟩ := intD_some hl (hev l (fun _ => False))
        obtain ⟨kc, hvc⟩ := intD_some hcp (hev cp (fun _ => False))
        obtain ⟨zv, hzr, ⟨zs, hv, hr⟩, hka⟩ := zeroT_run (e := e) hz e.w
        have hzl : zs.length = i.size := by rw [← hr.length]; exact c5
        have hsz : sizeT P el = some i.size := by simp [sizeT, hi]
        have w1 : IntKind.i64.wrap l' = l' := by simp [IntKind.wrap_i64]; omega
        have w2 : IntKind.i64.wrap cp' = cp' := by simp [IntKind.wrap_i64]; omega
        have hrun : (execOp a.eval o).run P e.w = .ok (.value (.slice (some ⟨e.w.heap.size, 0, none⟩) l'.toNat cp'.toNat)) (e.w.alloc (.cells ⟨(List.replicate cp'.toNat zs).flatten⟩ el)) := by
          simp only [execOp, ho, Sem.run_bind, Instr.makeSlice, run_underlying hu, Result.andThen_ok, hvl, hvc, asInt, asIntOf, Sem.run_pure, typeInfo, run_program, hi, w1, w2]
          have t1 : ¬ ((decide (cp' < 0) || decide ((i.bytes : Int) * cp' > 2 ^ 48) || decide (l' < 0) || decide (l' > cp')) = true) := by simp; omega
          rw [if_neg t1]
          simp only [Sem.run_bind, run_askRoom, Result.andThen_ok, sizeT_run hsz]
          by_cases h0 : cp'.toNat * i.size = 0
          · rw [if_pos h0]
            have hws : (List.replicate cp'.toNat zs).flatten = [] := by
              apply List.eq_nil_of_length_eq_zero
              simp [hzl, h0]
            have hz0 : (Array.map (fun x => (#[] : Array Value)[x % (#[] : Array Value).size]!) (Array.range (cp'.toNat * i.size))) = ⟨[]⟩ := by simp [h0]
            simp only [Sem.run_bind, Sem.run_pure, Result.andThen_ok, hz0, hws]
            simp [newRow]
          · rw [if_neg h0]
            simp only [Sem.run_bind, hzr, Result.andThen_ok, Sem.run_pure, hv, zeros_eq zs i.size cp'.toNat hzl]
            simp [newRow]
        have hpre : ∀ (j : Nat) v, (List.replicate l'.toNat zs).flatten[j]? = some v → (List.replicate cp'.toNat zs).flatten[j]? = some v := fun j v hj => by
          have hlt2 : j < l'.toNat * zs.length := by have := (List.getElem?_eq_some_iff.1 hj).1; simpa using this
          rw [flatten_rep zs _ j hlt2] at hj
          rw [flatten_rep zs _ j (Nat.lt_of_lt_of_le hlt2 (Nat.mul_le_mul_right _ (by omega)))]; exact hj
        split at h
        · split at h
          · rename_i hlc
            rw [Option.map_eq_some_iff] at h
            obtain ⟨cv, hcv, rfl⟩ := h
            obtain ⟨g1, g2⟩ := m.imm hres (List.replicate cp'.toNat zs).flatten el (List.replicate cp'.toNat zs).flatten.length
            refine ⟨_, { e with w := e.w.alloc (.cells ⟨(List.replicate cp'.toNat zs).flatten⟩ el), im := fun a => e.im a ∨ ∃ i, i < (List.replicate cp'.toNat zs).flatten.length ∧ a = ⟨e.w.heap.size, i, none⟩ }, _, .inl hrun, rfl, g1, g2, alloc_keep _ m.n0le m.prlt _, ?_, fun t _ x hx => hx⟩
            subst hlc
            have hrc : RCs e.im e.w cv (List.replicate l'.toNat zs).flatten := closeL_rds hcv (replD_all hka _) (replD_rds hr _).w
            refine .c (.sl (hrc.mono g2.im g2.cell) (fun i v hv => ?_) (Nat.le_refl _) (fun _ => rfl))
            rw [mk_add, Nat.zero_add]
            exact ⟨by rw [alloc_cell_new]; exact hv, .inr ⟨i, (List.getElem?_eq_some_iff.1 hv).1, rfl⟩⟩
          · cases h
        rw [Option.map_eq_some_iff] at h
        obtain ⟨x, hx, rfl⟩ := h
        obtain ⟨hx', hlt, o0, ho0, hv0⟩ := lay_get hx
        obtain ⟨g1, g2⟩ := m.objNew (o' := ⟨x.2.ver, replD l'.toNat z⟩) ho0 hv0 (List.replicate cp'.toNat zs).flatten el hpre (replD_rds hr _) (replD_all hka _)
        refine ⟨_, _, _, .inl hrun, (by rw [hx']; rfl), g1, g2, alloc_keep _ m.n0le m.prlt _, ?_, fun t _ x hx => hx⟩
        refine ms_new (ds := replD l'.toNat z) (n := e.w.heap.size) (k := (List.replicate cp'.toNat zs).flatten.length) (by simpa using hlt) (set_get hlt) (updIo_self _ _ _) (by omega) (fun hh => by simp at hh; omega) (by simp [hzl]) _
      · cases h
    · cases h
  · cases h
end
end Go.Abs
