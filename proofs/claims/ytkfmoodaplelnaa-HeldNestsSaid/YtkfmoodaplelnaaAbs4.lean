/-
  Abs4: the operations that only compute or read.
-/
import Derived.Test.YtkfmoodaplelnaaAbs3
namespace Go.Abs
open Go

inductive Own where
  | slot (t : Nat)
  | ob (id : Nat)
  | cell (id i : Nat)
  | res
  deriving DecidableEq

/-- The memory: who has the sole right to what. PR: what others have. -/
structure MI (n0 : Nat) (PR : Addr → Prop) (e : E) (reg : Own → Addr → Prop) : Prop where
  imlt : ∀ a, e.im a → a.block < e.w.heap.size
  impr : ∀ a, e.im a → ¬ PR a
  prlt : ∀ a, PR a → a.block < e.w.heap.size
  n0le : n0 ≤ e.w.heap.size
  ok : ∀ p a, reg p a → n0 ≤ a.block ∧ (∃ v, e.w.cell? a = some v) ∧ e.w.frozen? a = false ∧ ¬ e.im a ∧ ¬ PR a
  disj : ∀ p q a, reg p a → reg q a → p = q
  ext : ∀ (id : Nat) (o : Ob), e.st[id]? = some o → o.cs.length ≤ (e.io id).ext
  own : ∀ (id : Nat) (o : Ob), e.st[id]? = some o → ∀ i, i < (e.io id).ext → reg (.ob id) ((e.io id).at i)
  cell : ∀ (id : Nat) (o : Ob), e.st[id]? = some o → ∀ (i : Nat) (d : DV), o.cs[i]? = some d → cellOk d = true ∧ ∃ v, e.w.cell? ((e.io id).at i) = some v ∧ RD e (reg (.cell id i)) d v

theorem at_add (f : Fp) (i j : Nat) : (f.at i).add j = f.at (i + j) := by
  unfold Addr.add Fp.at
  split
  · rename_i h; subst h; rfl
  · simp [Nat.add_assoc]
theorem mk_add (b off i : Nat) : (⟨b, off, none⟩ : Addr).add i = ⟨b, off + i, none⟩ := at_add ⟨b, off, 0⟩ 0 i |>.trans (by simp [Fp.at])
theorem add_add (a : Addr) (i j : Nat) : (a.add i).add j = a.add (i + j) := by
  by_cases hi : i = 0
  · subst hi; simp [Addr.add]
  · by_cases hj : j = 0
    · subst hj; simp [Addr.add]
    · have h3 : ¬ (i + j = 0) := by omega
      simp only [Addr.add, if_neg hi, if_neg hj, if_neg h3, Nat.add_assoc]
theorem add_zero' (a : Addr) : a.add 0 = a := by simp [Addr.add]

theorem getO_some {st : List Ob} {id ver : Nat} {o : Ob} (h : getO st id ver = some o) : st[id]? = some o ∧ o.ver = ver := by
  unfold getO at h
  split at h
  · rename_i o' ho
    split at h
    · cases h; exact ⟨ho, by assumption⟩
    · cases h
  · cases h

theorem span_some {α : Type} {l : List α} {off k : Nat} {r : List α} (h : span l off k = some r) : r = (l.drop off).take k ∧ off + k ≤ l.length := by
  unfold span at h
  split at h
  · cases h; exact ⟨rfl, by assumption⟩
  · cases h
theorem span_get {α : Type} {l : List α} {off k : Nat} {r : List α} (h : span l off k = some r) {i : Nat} {x : α} (hi : r[i]? = some x) : l[off + i]? = some x ∧ i < k := by
  obtain ⟨rfl, hle⟩ := span_some h
  have hlt : i < ((l.drop off).take k).length := (List.getElem?_eq_some_iff.1 hi).1
  simp at hlt
  rw [List.getElem?_take_of_lt (by omega), List.getElem?_drop] at hi
  exact ⟨hi, by omega⟩
theorem span_len {α : Type} {l : List α} {off k : Nat} {r : List α} (h : span l off k = some r) : r.length = k := by
  obtain ⟨rfl, hle⟩ := span_some h
  simp; omega

section
variable {P : Program} {n0 : Nat} {PR : Addr → Prop} {e : E} {reg : Own → Addr → Prop}

/-- An object's cells from a place on, as the memory has them. -/
theorem MI.cells (m : MI n0 PR e reg) {id : Nat} {o : Ob} (ho : e.st[id]? = some o) {off k : Nat} {ds : List DV} (h : span o.cs off k = some ds) :
    ∃ vs : List Value, vs.length = k ∧ (∀ (i : Nat) v, vs[i]? = some v → e.w.cell? (((e.io id).at off).add i) = some v) ∧ RDw e ds vs ∧ ds.all cellOk = true := by
  have hl := span_len h
  have key : ∀ i, i < k → ∃ v d, ds[i]? = some d ∧ cellOk d = true ∧ e.w.cell? ((e.io id).at (off + i)) = some v ∧ ∃ s, RD e s d v := fun i hi => by
    obtain ⟨d, hd⟩ : ∃ d, ds[i]? = some d := ⟨_, List.getElem?_eq_getElem (by omega)⟩
    obtain ⟨h1, _⟩ := span_get h hd
    obtain ⟨hk, v, hv, hr⟩ := m.cell id o ho _ _ h1
    exact ⟨v, d, hd, hk, hv, _, hr⟩
  let g : Nat → Value := fun i => if h : i < k then (key i h).choose else undef
  have hg : ∀ i (h : i < k), ∃ d, ds[i]? = some d ∧ cellOk d = true ∧ e.w.cell? ((e.io id).at (off + i)) = some (g i) ∧ ∃ s, RD e s d (g i) := fun i h => by
    have := (key i h).choose_spec
    simpa [g, h] using this
  refine ⟨(List.range k).map g, by simp, ?_, ?_, ?_⟩
  · intro i v hv
    have hi : i < k := by have := (List.getElem?_eq_some_iff.1 hv).1; simpa using this
    simp [hi] at hv
    subst hv
    obtain ⟨d, _, _, h3, _⟩ := hg i hi
    rw [at_add]; exact h3
  · refine RDw.of_get (by simp [hl]) fun i c v hc hv => ?_
    have hi : i < k := by have := (List.getElem?_eq_some_iff.1 hv).1; simpa using this
    simp [hi] at hv
    subst hv
    obtain ⟨d, h1, _, _, s, h4⟩ := hg i hi
    rw [hc] at h1; cases h1
    exact ⟨s, h4⟩
  · rw [List.all_eq_true]
    intro d hd
    obtain ⟨i, hi⟩ := List.getElem?_of_mem hd
    have hlt : i < k := by have := (List.getElem?_eq_some_iff.1 hi).1; omega
    obtain ⟨d', h1, h2, _⟩ := hg i hlt
    rw [hi] at h1; cases h1
    exact h2

theorem isAggT_run {t : TypeId} {b : Bool} (h : isAggT P t = some b) (w : World) : (isAgg t).run P w = .ok b w := by
  unfold isAggT at h
  rw [Option.map_eq_some_iff] at h
  obtain ⟨d, hd, hb⟩ := h
  simp only [isAgg, Sem.run_bind, run_underlying hd, Result.andThen_ok]
  cases d <;> simp_all
theorem sizeT_run {t : TypeId} {k : Nat} (h : sizeT P t = some k) (w : World) : (sizeOf t).run P w = .ok k w := by
  unfold sizeT at h
  rw [Option.map_eq_some_iff] at h
  obtain ⟨i, hi, rfl⟩ := h
  simp [sizeOf, typeInfo, hi]

/-- A variable's value out of cells. -/
theorem loadVar_cells {t : TypeId} {a : Addr} {w : World} {k : Nat} {vs : List Value} (h1 : isAggT P t = some true) (h2 : sizeT P t = some k) (hl : vs.length = k)
    (hc : ∀ (i : Nat) v, vs[i]? = some v → w.cell? (a.add i) = some v) : (loadVar t a).run P w = .ok (.agg ⟨vs⟩) w := by
  subst hl
  simp [loadVar, isAggT_run h1, sizeT_run h2, run_loadCells_list w a vs hc]
theorem loadVar_one {t : TypeId} {a : Addr} {w : World} {v : Value} (h1 : isAggT P t = some false) (hc : w.cell? a = some v) : (loadVar t a).run P w = .ok v w := by
  simp [loadVar, isAggT_run h1, hc]

theorem ia_cells {cs : List CV} {vs : List Value} {a : Addr} (h : RCs e.im e.w cs vs) (hc : ∀ i v, vs[i]? = some v → e.w.cell? (a.add i) = some v ∧ e.im (a.add i)) {off k : Nat} {ds : List CV}
    (hs : span cs off k = some ds) : ∃ us : List Value, us.length = k ∧ (∀ (i : Nat) v, us[i]? = some v → e.w.cell? ((a.add off).add i) = some v ∧ e.im ((a.add off).add i)) ∧ RCs e.im e.w ds us := by
  obtain ⟨rfl, hle⟩ := span_some hs
  have hl := h.length
  refine ⟨(vs.drop off).take k, by simp; omega, fun i v hv => ?_, (h.drop off).take k⟩
  have hlt : i < ((vs.drop off).take k).length := (List.getElem?_eq_some_iff.1 hv).1
  simp at hlt
  rw [List.getElem?_take_of_lt (by omega), List.getElem?_drop] at hv
  rw [add_add]; exact hc _ _ hv

theorem partC_load {t : TypeId} {cs : List CV} {vs : List Value} {a : Addr} {off : Nat} {d : DV} {s : Addr → Prop} (h : RCs e.im e.w cs vs)
    (hc : ∀ i v, vs[i]? = some v → e.w.cell? (a.add i) = some v ∧ e.im (a.add i)) (hd : partC P t cs off = some d) : ∃ u, (loadVar t (a.add off)).run P e.w = .ok u e.w ∧ RD e s d u := by
  unfold partC at hd
  split at hd
  · rename_i k h1 h2
    rw [Option.map_eq_some_iff] at hd
    obtain ⟨ds, hds, rfl⟩ := hd
    obtain ⟨us, hl, hcell, hr⟩ := ia_cells h hc hds
    exact ⟨_, loadVar_cells h1 h2 hl fun i v hv => (hcell i v hv).1, .c (.agg hr)⟩
  · rename_i h1
    rw [Option.map_eq_some_iff] at hd
    obtain ⟨c, hcc, rfl⟩ := hd
    obtain ⟨v, hv, hr⟩ := h.get hcc
    exact ⟨v, loadVar_one h1 (hc _ _ hv).1, .c hr⟩
  · cases hd

theorem part1_load (m : MI n0 PR e reg) {t : TypeId} {id off : Nat} {o : Ob} {d : DV} {s : Addr → Prop} (ho : e.st[id]? = some o) (hd : part1 P t o.cs off = some d) :
    ∃ u, (loadVar t ((e.io id).at off)).run P e.w = .ok u e.w ∧ RD e s d u := by
  unfold part1 at hd
  split at hd
  · rename_i k h1 h2
    rw [Option.map_eq_some_iff] at hd
    obtain ⟨ds, hds, rfl⟩ := hd
    obtain ⟨us, hl, hcell, hr, hk⟩ := m.cells ho hds
    exact ⟨_, loadVar_cells h1 h2 hl hcell, mkAgg_rd hk hr⟩
  · rename_i h1
    rw [Option.map_eq_some_iff] at hd
    obtain ⟨c, hcc, rfl⟩ := hd
    obtain ⟨_, v, hv, hr⟩ := m.cell id o ho _ _ hcc
    exact ⟨v, loadVar_one h1 hv, hr.unflag⟩
  · cases hd

theorem load_sound (m : MI n0 PR e reg) {t : TypeId} {x d : DV} {v : Value} {s s' : Addr → Prop} (h : loadD P e.st t x = some d) (r : RD e s x v) :
    ∃ u, (Instr.loadAt t v).run P e.w = .ok u e.w ∧ RD e s' d u := by
  unfold loadD at h
  split at h
  · rename_i id ver off
    split at h
    · rename_i o ho
      obtain ⟨h1, h2⟩ := getO_some ho
      cases r with
      | pt hid hv =>
        obtain ⟨_, ha⟩ := hv o h1
        rw [ha h2.symm]
        simp only [Instr.loadAt, Instr.sureAddr, pure_bind]
        exact part1_load m h1 h
    · cases h
  · cases r with
    | ia hr hc =>
      simp only [Instr.loadAt, Instr.sureAddr, pure_bind]
      exact partC_load hr hc h
  · cases h

theorem ev_rd {fr : Nat → DV} {tm : Array Value} {df : List Deferred} {f : Nat → Addr → Prop} {s : Addr → Prop} (h : ∀ t, RD e (f t) (fr t) (tm.getD t undef)) (x : Operand) : RD e s (ev fr x) ((⟨tm, df⟩ : Act).eval x) := by
  cases x with
  | tmp t => exact (h t).unflag
  | const v => exact ofVal_rd v
  | global g => exact .un
  | func g => exact .fn .nil .nil

/-! ### operators -/
theorem binS_run {op : BinOp} {x y r : Value} (h : binS op x y = some r) (t : TypeId) (w : World) : (binOp op t x y).run P w = .ok r w := by
  cases x with
  | int k a =>
    cases y with
    | int k' b =>
      cases op <;> simp only [binS] at h
      all_goals (split at h)
      all_goals (first | (cases h; done) | skip)
      all_goals (try (rename_i hk; have hk' : k = k' := by simpa using hk; subst hk'))
      all_goals (try (split at h))
      all_goals (first | (cases h; done) | skip)
      all_goals (cases h)
      all_goals simp [binOp, Op.intArith, Op.intDiv, Op.intBits, Op.intCmp, Op.shift, *]
    | _ => cases op <;> simp [binS] at h
  | string a =>
    cases y with
    | string b =>
      cases op <;> simp only [binS] at h
      all_goals (try (split at h))
      all_goals (first | (cases h; done) | skip)
      all_goals (cases h)
      all_goals simp_all [binOp, Op.stringOp]
    | _ => cases op <;> simp [binS] at h
  | _ => cases op <;> simp [binS] at h
end

end Go.Abs
