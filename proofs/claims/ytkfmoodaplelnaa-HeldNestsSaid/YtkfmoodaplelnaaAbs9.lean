/-
  Abs9: aggregates are built; cells are filled; what remains of the operations that only compute.
-/
import Derived.Test.YtkfmoodaplelnaaAbs8
set_option linter.unusedVariables false
set_option linter.unusedSectionVars false
namespace Go.Abs
open Go
variable [Fl]

theorem setL_len {α : Type} : ∀ (l : List α) (off : Nat) (ds : List α), (setL l off ds).length = l.length
  | _, _, [] => rfl
  | l, off, d :: ds => by simp [setL, setL_len]
theorem setL_in {α : Type} : ∀ (l : List α) (off : Nat) (ds : List α) (i : Nat), off + ds.length ≤ l.length → i < ds.length → (setL l off ds)[off + i]? = ds[i]?
  | l, off, [], i, _, h => by simp at h
  | l, off, d :: ds, i, hl, h => by
    have key : ∀ (ds : List α) (l : List α) (off j : Nat), j < off → (setL l off ds)[j]? = l[j]? := fun ds => by
      induction ds with
      | nil => intro l off j _; rfl
      | cons x xs ih => intro l off j hj; simp only [setL]; rw [ih _ _ _ (by omega)]; exact List.getElem?_set_ne (by omega)
    simp only [setL]
    cases i with
    | zero =>
      have hlt : off < l.length := by simp only [List.length_cons] at hl; omega
      rw [Nat.add_zero, key _ _ _ _ (by omega)]
      simp [hlt]
    | succ i =>
      rw [show off + (i + 1) = off + 1 + i by omega, setL_in _ _ _ i (by simp at hl ⊢; omega) (by simpa using h)]
      simp
theorem setL_out {α : Type} : ∀ (l : List α) (off : Nat) (ds : List α) (j : Nat), (j < off ∨ off + ds.length ≤ j) → (setL l off ds)[j]? = l[j]?
  | l, off, [], j, _ => rfl
  | l, off, d :: ds, j, h => by
    simp only [setL]
    rw [setL_out _ _ _ j (by simp at h; omega)]
    have : off ≠ j := by simp at h; omega
    simp [this]
theorem setL_all {l ds : List DV} {off : Nat} (h1 : l.all cellOk = true) (h2 : ds.all cellOk = true) : (setL l off ds).all cellOk = true := by
  induction ds generalizing l off with
  | nil => exact h1
  | cons d ds ih =>
    simp only [List.all_cons, Bool.and_eq_true] at h2
    refine ih ?_ h2.2
    rw [List.all_eq_true] at h1 ⊢
    intro x hx
    rcases List.mem_or_eq_of_mem_set hx with h | h
    · exact h1 x h
    · rw [h]; exact h2.1

section
variable {P : Program} {n0 : Nat} {PR : Addr → Prop} {e : E} {reg : Own → Addr → Prop}

theorem RDs.set {d : DV} {v : Value} (hd : RD e (fun _ => False) d v) : ∀ {l : List DV} {vs : List Value} (i : Nat), RDs e l vs → RDs e (l.set i d) (vs.set i v)
  | _, _, _, .nil => .nil
  | _, _, 0, .cons _ b => .cons hd b
  | _, _, i + 1, .cons a b => .cons a (b.set hd i)
theorem RDs.setL : ∀ {ds : List DV} {us : List Value} {l : List DV} {vs : List Value} (off : Nat), RDs e ds us → RDs e l vs → RDs e (Abs.setL l off ds) (Abs.setL vs off us)
  | _, _, _, _, _, .nil, h => h
  | _, _, _, _, off, .cons a b, h => RDs.setL (off + 1) b (h.set a off)

theorem foldl_setL (us : List Value) : ∀ (k off : Nat) (vs : List Value), (us.zipIdx k).foldl (fun (cs : Array Value) (p : Value × Nat) => cs.setIfInBounds (off + p.2) p.1) ⟨vs⟩ = ⟨setL vs (off + k) us⟩ := by
  induction us with
  | nil => intro k off vs; rfl
  | cons u us ih =>
    intro k off vs
    simp only [List.zipIdx_cons, List.foldl_cons, List.setIfInBounds_toArray, setL]
    rw [show (vs.set (off + k) u).toArray = ⟨vs.set (off + k) u⟩ from rfl, ih (k + 1) off]
    rfl

theorem isSc_one {v : Value} (h : isSc v = true) : v.oneCell' = true := by cases v <;> first | rfl | (simp [isSc] at h)
theorem oneCell_of {s : Addr → Prop} {d : DV} {v : Value} (h : cellOk d = true) (r : RD e s d v) : v.oneCell' = true := by
  cases r with
  | c r =>
    cases r with
    | sc hs => exact isSc_one hs
    | agg => simp [cellOk, cvOk] at h
    | nil => rfl
    | sl => rfl
  | un | agg | tup | ia | er => simp [cellOk] at h
  | _ => rfl
theorem cells_one {v : Value} (h : v.oneCell' = true) : v.cells = #[v] := by cases v <;> first | rfl | (simp [Value.oneCell'] at h)

theorem RCs.one {im : Addr → Prop} {w : World} : ∀ {cs : List CV} {vs : List Value}, RCs im w cs vs → ∀ v ∈ vs, v.oneCell' = true
  | _, _, .nil, v, h => by simp at h
  | _, _, .cons hk a b, v, h => by
    rcases List.mem_cons.1 h with rfl | h
    · cases a with
      | sc h => exact isSc_one h
      | agg => simp [cvOk] at hk
      | nil => rfl
      | sl => rfl
    · exact b.one v h
theorem RDs.one : ∀ {cs : List DV} {vs : List Value}, RDs e cs vs → cs.all cellOk = true → ∀ v ∈ vs, v.oneCell' = true
  | _, _, .nil, _, v, h => by simp at h
  | _, _, .cons a b, hk, v, h => by
    simp only [List.all_cons, Bool.and_eq_true] at hk
    rcases List.mem_cons.1 h with rfl | h
    · exact oneCell_of hk.1 a
    · exact b.one hk.2 v h

/-- The cells of a value that may be stored. -/
theorem cellsOf_rd {s : Addr → Prop} {d : DV} {v : Value} {ds : List DV} (h : cellsOf d = some ds) (r : RD e s d v) :
    ds.all cellOk = true ∧ ((∃ us, v.cells = ⟨us⟩ ∧ RDs e ds us) ∨ (ds = [d] ∧ v.cells = #[v])) := by
  unfold cellsOf at h
  split at h
  · rename_i cs
    split at h
    · rename_i hk
      cases h
      cases r with
      | c r => cases r with
        | agg hr =>
          refine ⟨?_, .inl ⟨_, rfl, hr.map_c⟩⟩
          rw [List.all_eq_true] at hk ⊢
          intro x hx
          obtain ⟨c, hc, rfl⟩ := List.mem_map.1 hx
          exact hk c hc
    · cases h
  · split at h
    · rename_i hk
      cases h
      cases r with
      | agg _ hr => exact ⟨hk, .inl ⟨_, rfl, hr⟩⟩
    · cases h
  · split at h
    · rename_i hk
      cases h
      exact ⟨by simpa using hk, .inr ⟨rfl, cells_one (oneCell_of hk r)⟩⟩
    · cases h
theorem unflag_idem (d : DV) : unflag (unflag d) = unflag d := by cases d <;> rfl
theorem RD.plain {s s' : Addr → Prop} {d : DV} {v : Value} (h : Abs.unflag d = d) (r : RD e s d v) : RD e s' d v := by rw [← h]; exact r.unflag
/-- .. of an operand. -/
theorem cellsOf_ev {s : Addr → Prop} {d : DV} {v : Value} {ds : List DV} (hd : unflag d = d) (h : cellsOf d = some ds) (r : RD e s d v) :
    ds.all cellOk = true ∧ ∃ us, v.cells = ⟨us⟩ ∧ RDs e ds us := by
  obtain ⟨hk, hh | ⟨rfl, hc⟩⟩ := cellsOf_rd h r
  · exact ⟨hk, hh⟩
  · exact ⟨hk, [v], hc, .cons (r.plain hd) .nil⟩
theorem ev_plain (fr : Nat → DV) (x : Operand) : unflag (ev fr x) = ev fr x := by
  cases x with
  | tmp t => exact unflag_idem _
  | const v =>
    simp only [ev, ofVal]
    split
    · split <;> rfl
    · split <;> rfl
  | global g => rfl
  | func f => rfl

/-- Parts and their values. -/
inductive RPs (e : E) : List (Nat × DV) → List (Nat × Value) → Prop
  | nil : RPs e [] []
  | cons {i : Nat} {s : Addr → Prop} {d : DV} {v : Value} {ds : List (Nat × DV)} {vs : List (Nat × Value)} (hp : Abs.unflag d = d) (h : RD e s d v) (hs : RPs e ds vs) : RPs e ((i, d) :: ds) ((i, v) :: vs)

theorem fill_sound {place : Nat → Option (Nat × Nat)} : ∀ {ps : List (Nat × DV)} {us : List (Nat × Value)}, RPs e ps us → ∀ {cs r : List DV} {vs : List Value}, fillD place cs ps = some r → cs.all cellOk = true → RDs e cs vs →
    r.all cellOk = true ∧ ∃ ws, Instr.fill place ⟨vs⟩ us = some ⟨ws⟩ ∧ RDs e r ws
  | _, _, .nil, cs, r, vs, h, hk, hr => by simp only [fillD] at h; cases h; exact ⟨hk, vs, rfl, hr⟩
  | _, _, .cons hp hd hs, cs, r, vs, h, hk, hr => by
    rename_i i s d v ds us
    simp only [fillD] at h
    split at h
    · rename_i off size xs h1 h2
      split at h
      · rename_i hc
        obtain ⟨hk1, ys, hy, hry⟩ := cellsOf_ev hp h2 hd
        obtain ⟨hk2, ws, hw, hrw⟩ := fill_sound hs h (setL_all hk hk1) (RDs.setL off hry hr)
        refine ⟨hk2, ws, ?_, hrw⟩
        have hl1 := hry.length
        have hl2 := hr.length
        simp only [Instr.fill, h1, hy]
        have hcond : ¬ ((decide ((⟨ys⟩ : Array Value).size ≠ size) || decide (off + (⟨ys⟩ : Array Value).size > (⟨vs⟩ : Array Value).size)) = true) := by
          simp; omega
        rw [if_neg hcond]
        have hz : ((⟨ys⟩ : Array Value).zipIdx).foldl (fun (cs : Array Value) (p : Value × Nat) => cs.setIfInBounds (off + p.2) p.1) ⟨vs⟩ = ⟨setL vs off ys⟩ := by
          rw [← Array.foldl_toList, Array.toList_zipIdx]
          exact foldl_setL ys 0 off vs
        rw [hz]; exact hw
      · cases h
    · cases h

theorem zeroT_run {t : TypeId} {ds : List DV} (h : zeroT P t = some ds) (w : World) : ∃ z : Value, (zeroValue t).run P w = .ok z w ∧ (∃ vs, z.cells = ⟨vs⟩ ∧ RDs e ds vs) ∧ ds.all cellOk = true := by
  unfold zeroT at h
  split at h
  · rename_i i hi
    split at h
    · rename_i z hz
      rw [Option.map_eq_some_iff] at h
      obtain ⟨cs, hcs, rfl⟩ := h
      have hr : RCs e.im e.w cs z.cells.toList := ofVs_rcs hcs
      refine ⟨z, by simp [zeroValue, typeInfo, hi, hz], ⟨z.cells.toList, rfl, hr.map_c⟩, ?_⟩
      rw [List.all_eq_true]
      intro x hx
      obtain ⟨c, hc, rfl⟩ := List.mem_map.1 hx
      obtain ⟨_, hj⟩ := List.getElem?_of_mem hc
      exact hr.ok hj
    · cases h
  · cases h

theorem RPs.of {fr : Nat → DV} {a : Act} (h : ∀ x, ∃ s, RD e s (ev fr x) (a.eval x)) : ∀ (ps : List (Nat × Operand)), RPs e (evP fr ps) (ps.map fun (i, x) => (i, a.eval x))
  | [] => .nil
  | (i, x) :: ps => .cons (ev_plain fr x) (h x).choose_spec (RPs.of h ps)

theorem mapM_places {fs : List Field} {w : World} (hsz : ∀ f ∈ fs, ∃ k, sizeT P f.type = some k) :
    ∃ pl : List (Nat × Nat), (fs.mapM (fun f => do pure (f.offset, ← sizeOf f.type) : Field → Sem (Nat × Nat))).run P w = .ok pl w ∧ pl.length = fs.length ∧
      ∀ (i : Nat) f k, fs[i]? = some f → sizeT P f.type = some k → pl[i]? = some (f.offset, k) := by
  induction fs with
  | nil => exact ⟨[], rfl, rfl, by simp⟩
  | cons f fs ih =>
    obtain ⟨pl, h1, h2, h3⟩ := ih fun x hx => hsz x (by simp [hx])
    obtain ⟨k, hk⟩ := hsz f (by simp)
    refine ⟨(f.offset, k) :: pl, ?_, by simp [h2], ?_⟩
    · simp only [List.mapM_cons, Sem.run_bind, sizeT_run hk, Result.andThen_ok, Sem.run_pure, h1]
    · intro i g k' hg hk'
      cases i with
      | zero => simp at hg; subst hg; rw [hk] at hk'; cases hk'; rfl
      | succ i => simpa using h3 i g k' (by simpa using hg) hk'

theorem minmax_go {b : Bool} : ∀ {ds : List DV} {vs : List Value} {x d : DV} {u : Value}, minmax.go b x ds = some d → RDs e ds vs → (∃ s, RD e s x u) →
    ∃ r, (vs.foldlM (if b then Builtin.max2 else Builtin.min2) u).run P e.w = .ok r e.w ∧ ∀ s, RD e s d r
  | [], _, x, d, u, h, .nil, ⟨s, r⟩ => by
    simp only [minmax.go] at h
    split at h
    · cases h
      cases r with
      | c r => cases r; exact ⟨_, rfl, fun s => .c (.sc rfl)⟩
    · cases h
  | y :: ds, _, x, d, u, h, .cons a as, ⟨s, r⟩ => by
    simp only [minmax.go] at h
    split at h
    · cases r with
      | c r => cases a with
        | c a =>
          cases r; cases a
          rename_i k a' _ b' _ _ _
          obtain ⟨r', h1, h2⟩ := minmax_go h as ⟨fun _ => False, .c (.sc rfl)⟩
          refine ⟨r', ?_, h2⟩
          cases b <;> simpa [Builtin.max2, Builtin.min2] using h1
    · cases h
end
end Go.Abs
