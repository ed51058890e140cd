/-
  AbsL: a call that is handed some objects of the store, and works on these alone.
-/
import Derived.Test.YtkfmoodaplelnaaAbs17
set_option linter.unusedVariables false
set_option linter.unusedSimpArgs false
set_option linter.unusedSectionVars false
namespace Go.Abs
open Go
variable [Fl]
variable [Gl]

section
variable {P : Program} {n0 : Nat} {PR : Addr → Prop} {Γ : List (Nat × Ctx)} {e e' : E} {reg reg' : Own → Addr → Prop} {m : M} {r : Option Nat} {k0 nt : Nat} {fr : Nat → DV} {a : Act}

theorem idx_some : ∀ {sel : List Nat} {y j : Nat}, idx sel y = some j → sel[j]? = some y
  | [], y, j, h => by simp [idx] at h
  | x :: xs, y, j, h => by
    simp only [idx] at h
    split at h
    · rename_i hx; cases h; subst hx; rfl
    · rw [Option.map_eq_some_iff] at h
      obtain ⟨i, hi, rfl⟩ := h
      simpa using idx_some hi
theorem idx_none : ∀ {sel : List Nat} {y : Nat}, idx sel y = none → y ∉ sel
  | [], y, h => by simp
  | x :: xs, y, h => by
    simp only [idx] at h
    split at h
    · cases h
    · rename_i hx
      rw [Option.map_eq_none_iff] at h
      simp only [List.mem_cons, not_or]
      exact ⟨fun hh => hx hh.symm, idx_none h⟩
theorem idx_get : ∀ {sel : List Nat} {y j : Nat}, nodupB sel = true → sel[j]? = some y → idx sel y = some j
  | [], y, j, _, h => by simp at h
  | x :: xs, y, 0, _, h => by simp at h; subst h; simp [idx]
  | x :: xs, y, j + 1, hn, h => by
    simp only [nodupB, Bool.and_eq_true, Option.isNone_iff_eq_none] at hn
    have h' : xs[j]? = some y := by simpa using h
    have hne : x ≠ y := fun hh => by
      subst hh
      exact idx_none hn.1 (List.mem_of_getElem? h')
    simp only [idx, if_neg hne, idx_get hn.2 h', Option.map_some]
theorem idx_mem {sel : List Nat} {y : Nat} (h : y ∈ sel) : ∃ j, idx sel y = some j := by
  cases hi : idx sel y with
  | none => exact absurd h (idx_none hi)
  | some j => exact ⟨j, rfl⟩

/-! ### into the call -/
structure Into (sel : List Nat) (e e0 : E) : Prop where
  im : e0.im = e.im
  w : e0.w = e.w
  get : ∀ (j id : Nat), sel[j]? = some id → ∃ o o0, e.st[id]? = some o ∧ e0.st[j]? = some o0 ∧ o0.ver = 1 ∧ e0.io j = e.io id

mutual
theorem RD.into {sel : List Nat} {e e0 : E} (x : Into sel e e0) {s : Addr → Prop} : ∀ {d d' : DV} {v : Value}, locD sel e.st d = some d' → RD e s d v → RD e0 s d' v
  | .un, d', _, h, .un => by simp only [locD] at h; cases h; exact .un
  | .c _, d', _, h, .c r => by simp only [locD] at h; cases h; exact .c (by rw [x.im, x.w]; exact r)
  | .ap .., d', _, h, .apnil => by simp only [locD] at h; cases h; exact .apnil
  | .ap .., d', _, h, .ap h1 h2 h3 h4 h5 => by simp only [locD] at h; cases h; exact .ap (by rw [x.im, x.w]; exact h1) (by rw [x.im, x.w]; exact h2) h3 h4 h5
  | .agg ds, d', _, h, .agg hk hr => by
    simp only [locD, Option.map_eq_some_iff] at h
    obtain ⟨ds', h, rfl⟩ := h
    exact .agg (locL_ok h hk) (RDs.into x h hr)
  | .tup ds, d', _, h, .tup hr => by
    simp only [locD, Option.map_eq_some_iff] at h
    obtain ⟨ds', h, rfl⟩ := h
    exact .tup (RDs.into x h hr)
  | .ms id ver off len esz xx, d', _, h, .ms hid hl hx hv => by
    simp only [locD] at h
    split at h
    · rename_i j o hj ho
      cases h
      obtain ⟨o', o0, g1, g2, g3, g4⟩ := x.get j id (idx_some hj)
      rw [ho] at g1; cases g1
      refine .ms (List.getElem?_eq_some_iff.1 g2).1 hl hx fun q hq => ?_
      rw [g2] at hq; cases hq
      rw [g3, g4]
      split
      · rename_i hver
        exact ⟨Nat.le_refl _, fun _ => (hv o ho).2 hver⟩
      · exact ⟨Nat.zero_le _, fun hh => by cases hh⟩
    · cases h
  | .pt id ver off, d', _, h, .pt hid hv => by
    simp only [locD] at h
    split at h
    · rename_i j o hj ho
      cases h
      obtain ⟨o', o0, g1, g2, g3, g4⟩ := x.get j id (idx_some hj)
      rw [ho] at g1; cases g1
      refine .pt (List.getElem?_eq_some_iff.1 g2).1 fun q hq => ?_
      rw [g2] at hq; cases hq
      rw [g3, g4]
      split
      · rename_i hver
        exact ⟨Nat.le_refl _, fun _ => (hv o ho).2 hver⟩
      · exact ⟨Nat.zero_le _, fun hh => by cases hh⟩
    · cases h
  | .ia .., d', _, h, .ia h1 h2 => by simp only [locD] at h; cases h; exact .ia (by rw [x.im, x.w]; exact h1) (by rw [x.im, x.w]; exact h2)
  | .fn f a b, d', _, h, .fn h1 h2 => by
    simp only [locD] at h
    split at h
    · rename_i a' b' ha hb
      cases h
      exact .fn (RDs.into x ha h1) (RDs.into x hb h2)
    · cases h
  | .yl _, d', _, h, .yl _ => by simp only [locD] at h; cases h
  | .er _, d', _, h, .er k => by simp only [locD] at h; cases h; exact .er k
  | .mp .., d', _, h, .mp .. => by simp only [locD] at h; cases h
  | .mi .., d', _, h, .mi .. => by simp only [locD] at h; cases h
theorem RDs.into {sel : List Nat} {e e0 : E} (x : Into sel e e0) : ∀ {ds ds' : List DV} {vs : List Value}, locL sel e.st ds = some ds' → RDs e ds vs → RDs e0 ds' vs
  | [], ds', _, h, .nil => by simp only [locL] at h; cases h; exact .nil
  | d :: ds, ds', _, h, .cons hd hs => by
    simp only [locL] at h
    split at h
    · rename_i d1 ds1 h1 h2
      cases h
      exact .cons (RD.into x h1 hd) (RDs.into x h2 hs)
    · cases h
theorem locD_ok {sel : List Nat} {st : List Ob} : ∀ {d d' : DV}, locD sel st d = some d' → cellOk d = true → cellOk d' = true
  | .un, d', h, hk => by simp [cellOk] at hk
  | .c _, d', h, hk => by simp only [locD] at h; cases h; exact hk
  | .ap .., d', h, hk => by simp only [locD] at h; cases h; exact hk
  | .agg _, d', h, hk => by simp [cellOk] at hk
  | .tup _, d', h, hk => by simp [cellOk] at hk
  | .ms .., d', h, hk => by
    simp only [locD] at h
    split at h
    · cases h; rfl
    · cases h
  | .pt .., d', h, hk => by
    simp only [locD] at h
    split at h
    · cases h; rfl
    · cases h
  | .ia .., d', h, hk => by simp [cellOk] at hk
  | .fn .., d', h, hk => by
    simp only [locD] at h
    split at h
    · cases h; rfl
    · cases h
  | .yl _, d', h, hk => by simp only [locD] at h; cases h
  | .er _, d', h, hk => by simp [cellOk] at hk
  | .mi .., d', h, hk => by simp [cellOk] at hk
  | .mp .., d', h, hk => by first | (simp only [locD] at h; cases h; done) | (simp only [bkD] at h; cases h; done)
theorem locL_ok {sel : List Nat} {st : List Ob} : ∀ {ds ds' : List DV}, locL sel st ds = some ds' → ds.all cellOk = true → ds'.all cellOk = true
  | [], ds', h, _ => by simp only [locL] at h; cases h; rfl
  | d :: ds, ds', h, hk => by
    simp only [locL] at h
    simp only [List.all_cons, Bool.and_eq_true] at hk
    split at h
    · rename_i d1 ds1 h1 h2
      cases h
      simp only [List.all_cons, Bool.and_eq_true]
      exact ⟨locD_ok h1 hk.1, locL_ok h2 hk.2⟩
    · cases h
end
theorem locL_get {sel : List Nat} {st : List Ob} : ∀ {ds ds' : List DV}, locL sel st ds = some ds' → ds'.length = ds.length ∧ ∀ (i : Nat) d', ds'[i]? = some d' → ∃ d, ds[i]? = some d ∧ locD sel st d = some d'
  | [], ds', h => by simp only [locL] at h; cases h; exact ⟨rfl, by simp⟩
  | d :: ds, ds', h => by
    simp only [locL] at h
    split at h
    · rename_i d1 ds1 h1 h2
      cases h
      obtain ⟨g1, g2⟩ := locL_get h2
      refine ⟨by simp [g1], fun i d' hd => ?_⟩
      cases i with
      | zero => simp at hd; subst hd; exact ⟨d, rfl, h1⟩
      | succ i => simpa using g2 i d' (by simpa using hd)
    · cases h
theorem locS_get {all : List Nat} {st : List Ob} : ∀ {ids : List Nat} {os : List Ob}, locS all st ids = some os → os.length = ids.length ∧ ∀ (j id : Nat), ids[j]? = some id → ∃ o cs, st[id]? = some o ∧ o.ver ≠ 0 ∧ locL all st o.cs = some cs ∧ os[j]? = some ⟨1, cs⟩
  | [], os, h => by simp only [locS] at h; cases h; exact ⟨rfl, by simp⟩
  | id :: ids, os, h => by
    simp only [locS] at h
    split at h
    · rename_i o ho
      split at h
      · cases h
      · rename_i hv
        split at h
        · rename_i cs os' h1 h2
          cases h
          obtain ⟨g1, g2⟩ := locS_get h2
          refine ⟨by simp [g1], fun j id' hj => ?_⟩
          cases j with
          | zero => simp at hj; subst hj; exact ⟨o, cs, ho, hv, h1, rfl⟩
          | succ j => simpa using g2 j id' (by simpa using hj)
        · cases h
    · cases h

/-! ### out of the call -/
structure OutOf (sel vs : List Nat) (e1 e2 : E) : Prop where
  im : ∀ a, e1.im a → e2.im a
  w : e2.w = e1.w
  get : ∀ (j id v : Nat), sel[j]? = some id → vs[j]? = some v → v ≠ 0 ∧ ∃ o1 o2, e1.st[j]? = some o1 ∧ 1 ≤ o1.ver ∧ e2.st[id]? = some o2 ∧ o2.ver = v + (o1.ver - 1) ∧ e2.io id = e1.io j

mutual
theorem RD.outOf {sel vs : List Nat} {e1 e2 : E} (x : OutOf sel vs e1 e2) {s : Addr → Prop} : ∀ {d d' : DV} {v : Value}, bkD sel vs d = some d' → RD e1 s d v → RD e2 s d' v
  | .un, d', _, h, .un => by simp only [bkD] at h; cases h; exact .un
  | .c _, d', _, h, .c r => by simp only [bkD] at h; cases h; exact .c (r.mono x.im fun _ _ => by rw [x.w])
  | .ap .., d', _, h, .apnil => by simp only [bkD] at h; cases h; exact .apnil
  | .ap .., d', _, h, .ap h1 h2 h3 h4 h5 => by simp only [bkD] at h; cases h; exact .ap (h1.mono x.im fun _ _ => by rw [x.w]) (fun i v hv => ⟨by rw [x.w]; exact (h2 i v hv).1, x.im _ (h2 i v hv).2⟩) h3 h4 h5
  | .agg ds, d', _, h, .agg hk hr => by
    simp only [bkD, Option.map_eq_some_iff] at h
    obtain ⟨ds', h, rfl⟩ := h
    exact .agg (bkL_ok h hk) (RDs.outOf x h hr)
  | .tup ds, d', _, h, .tup hr => by
    simp only [bkD, Option.map_eq_some_iff] at h
    obtain ⟨ds', h, rfl⟩ := h
    exact .tup (RDs.outOf x h hr)
  | .ms j ver off len esz xx, d', _, h, .ms hid hl hx hv => by
    simp only [bkD] at h
    split at h
    · rename_i id v hj hvs
      cases h
      obtain ⟨g0, o1, o2, g1, g2, g3, g4, g5⟩ := x.get j id v hj hvs
      obtain ⟨p1, p2⟩ := hv o1 g1
      refine .ms (List.getElem?_eq_some_iff.1 g3).1 hl hx fun q hq => ?_
      rw [g3] at hq; cases hq
      rw [g4, g5]
      split
      · exact ⟨Nat.zero_le _, fun hh => by omega⟩
      · exact ⟨by omega, fun hh => p2 (by omega)⟩
    · cases h
  | .pt j ver off, d', _, h, .pt hid hv => by
    simp only [bkD] at h
    split at h
    · rename_i id v hj hvs
      cases h
      obtain ⟨g0, o1, o2, g1, g2, g3, g4, g5⟩ := x.get j id v hj hvs
      obtain ⟨p1, p2⟩ := hv o1 g1
      refine .pt (List.getElem?_eq_some_iff.1 g3).1 fun q hq => ?_
      rw [g3] at hq; cases hq
      rw [g4, g5]
      split
      · exact ⟨Nat.zero_le _, fun hh => by omega⟩
      · exact ⟨by omega, fun hh => p2 (by omega)⟩
    · cases h
  | .ia .., d', _, h, .ia h1 h2 => by simp only [bkD] at h; cases h; exact .ia (h1.mono x.im fun _ _ => by rw [x.w]) (fun i v hv => ⟨by rw [x.w]; exact (h2 i v hv).1, x.im _ (h2 i v hv).2⟩)
  | .fn f a b, d', _, h, .fn h1 h2 => by
    simp only [bkD] at h
    split at h
    · rename_i a' b' ha hb
      cases h
      exact .fn (RDs.outOf x ha h1) (RDs.outOf x hb h2)
    · cases h
  | .yl _, d', _, h, .yl _ => by simp only [bkD] at h; cases h
  | .er _, d', _, h, .er k => by simp only [bkD] at h; cases h; exact .er k
  | .mp .., d', _, h, .mp .. => by simp only [bkD] at h; cases h
  | .mi .., d', _, h, .mi .. => by simp only [bkD] at h; cases h
theorem RDs.outOf {sel vs : List Nat} {e1 e2 : E} (x : OutOf sel vs e1 e2) : ∀ {ds ds' : List DV} {us : List Value}, bkL sel vs ds = some ds' → RDs e1 ds us → RDs e2 ds' us
  | [], ds', _, h, .nil => by simp only [bkL] at h; cases h; exact .nil
  | d :: ds, ds', _, h, .cons hd hs => by
    simp only [bkL] at h
    split at h
    · rename_i d1 ds1 h1 h2
      cases h
      exact .cons (RD.outOf x h1 hd) (RDs.outOf x h2 hs)
    · cases h
theorem bkD_ok {sel vs : List Nat} : ∀ {d d' : DV}, bkD sel vs d = some d' → cellOk d = true → cellOk d' = true
  | .un, d', h, hk => by simp [cellOk] at hk
  | .c _, d', h, hk => by simp only [bkD] at h; cases h; exact hk
  | .ap .., d', h, hk => by simp only [bkD] at h; cases h; exact hk
  | .agg _, d', h, hk => by simp [cellOk] at hk
  | .tup _, d', h, hk => by simp [cellOk] at hk
  | .ms .., d', h, hk => by
    simp only [bkD] at h
    split at h
    · cases h; rfl
    · cases h
  | .pt .., d', h, hk => by
    simp only [bkD] at h
    split at h
    · cases h; rfl
    · cases h
  | .ia .., d', h, hk => by simp [cellOk] at hk
  | .fn .., d', h, hk => by
    simp only [bkD] at h
    split at h
    · cases h; rfl
    · cases h
  | .yl _, d', h, hk => by simp only [bkD] at h; cases h
  | .er _, d', h, hk => by simp [cellOk] at hk
  | .mi .., d', h, hk => by simp [cellOk] at hk
  | .mp .., d', h, hk => by first | (simp only [locD] at h; cases h; done) | (simp only [bkD] at h; cases h; done)
theorem bkL_ok {sel vs : List Nat} : ∀ {ds ds' : List DV}, bkL sel vs ds = some ds' → ds.all cellOk = true → ds'.all cellOk = true
  | [], ds', h, _ => by simp only [bkL] at h; cases h; rfl
  | d :: ds, ds', h, hk => by
    simp only [bkL] at h
    simp only [List.all_cons, Bool.and_eq_true] at hk
    split at h
    · rename_i d1 ds1 h1 h2
      cases h
      simp only [List.all_cons, Bool.and_eq_true]
      exact ⟨bkD_ok h1 hk.1, bkL_ok h2 hk.2⟩
    · cases h
end
theorem bkL_get {sel vs : List Nat} : ∀ {ds ds' : List DV}, bkL sel vs ds = some ds' → ds'.length = ds.length ∧ ∀ (i : Nat) d', ds'[i]? = some d' → ∃ d, ds[i]? = some d ∧ bkD sel vs d = some d'
  | [], ds', h => by simp only [bkL] at h; cases h; exact ⟨rfl, by simp⟩
  | d :: ds, ds', h => by
    simp only [bkL] at h
    split at h
    · rename_i d1 ds1 h1 h2
      cases h
      obtain ⟨g1, g2⟩ := bkL_get h2
      refine ⟨by simp [g1], fun i d' hd => ?_⟩
      cases i with
      | zero => simp at hd; subst hd; exact ⟨d, rfl, h1⟩
      | succ i => simpa using g2 i d' (by simpa using hd)
    · cases h

theorem versOf_get {st : List Ob} {sel : List Nat} {j id : Nat} {o : Ob} (h : sel[j]? = some id) (ho : st[id]? = some o) : (versOf st sel)[j]? = some o.ver := by
  simp [versOf, h, ho]

/-- The objects are put back. -/
theorem putBack_get {sel vs : List Nat} : ∀ {ids ws : List Nat} {os st st' : List Ob}, putBack sel vs ids ws os st = some st' → nodupB ids = true → (∀ id ∈ ids, id < st.length) →
    st'.length = st.length ∧ (∀ id, id ∉ ids → st'[id]? = st[id]?) ∧ ∀ (j id : Nat), ids[j]? = some id → ∃ v o cs, ws[j]? = some v ∧ os[j]? = some o ∧ bkL sel vs o.cs = some cs ∧ st'[id]? = some ⟨v + (o.ver - 1), cs⟩
  | [], [], os, st, st', h, _, _ => by
    simp only [putBack] at h
    cases h; exact ⟨rfl, fun _ _ => rfl, by simp⟩
  | [], w :: ws, os, st, st', h, _, _ => by simp [putBack] at h
  | id :: ids, [], os, st, st', h, _, _ => by simp [putBack] at h
  | id :: ids, v :: ws, [], st, st', h, _, _ => by simp [putBack] at h
  | id :: ids, v :: ws, o :: os, st, st', h, hn, hlt => by
    simp only [putBack] at h
    split at h
    · rename_i cs hcs
      have hn' := hn
      simp only [nodupB, Bool.and_eq_true, Option.isNone_iff_eq_none] at hn
      obtain ⟨g1, g2, g3⟩ := putBack_get h hn.2 (fun x hx => by simpa using hlt x (by simp [hx]))
      have hni := idx_none hn.1
      refine ⟨by simpa using g1, fun x hx => ?_, fun j x hj => ?_⟩
      · simp only [List.mem_cons, not_or] at hx
        rw [g2 x hx.2, List.getElem?_set_ne (Ne.symm hx.1)]
      · cases j with
        | zero =>
          simp at hj; subst hj
          refine ⟨v, o, cs, rfl, rfl, hcs, ?_⟩
          rw [g2 _ hni]
          simp [hlt id (by simp)]
        | succ j => simpa using g3 j x (by simpa using hj)
    · cases h

/-! ### what goes out, closed, as far as it is the call's own -/
def shutK (k : Nat) (e : E) (reg : Own → Addr → Prop) : Addr → Prop := fun a => e.im a ∨ ∃ id, k ≤ id ∧ reg (.ob id) a

theorem closeK_ok {k : Nat} : ∀ {n : Nat} {st : List Ob} {d : DV} {c : CV}, closeK k n st d = some c → cellOk d = true → cvOk c = true
  | 0, _, _, _, h, _ => by simp [closeK] at h
  | n + 1, st, d, c, h, hk => by
    cases d with
    | c v => simp only [closeK] at h; cases h; exact hk
    | ap nl cs len esz => simp only [closeK] at h; cases h; rfl
    | ms id ver off len esz x =>
      simp only [closeK] at h
      split at h
      · cases h
      · split at h
        · rw [Option.bind_eq_some_iff] at h
          obtain ⟨ds, _, h⟩ := h
          rw [Option.map_eq_some_iff] at h
          obtain ⟨cs, _, rfl⟩ := h
          rfl
        · cases h
    | agg ds => simp [cellOk] at hk
    | _ => simp [closeK] at h

theorem closeK_rd {k : Nat} (mi : MI n0 PR e reg) : ∀ (n : Nat) {d : DV} {c : CV} {v : Value} {s : Addr → Prop}, closeK k n e.st d = some c → RD e s d v → RC (shutK k e reg) e.w c v
  | 0, _, _, _, _, h, _ => by simp [closeK] at h
  | n + 1, d, c, v, s, h, hr => by
    have up : ∀ {c : CV} {v : Value}, RC e.im e.w c v → RC (shutK k e reg) e.w c v := fun h => h.mono (fun _ h => .inl h) (fun _ _ => rfl)
    have go : ∀ {ds : List DV} {cs : List CV} {vs : List Value}, closeList (closeK k n e.st) ds = some cs → ds.all cellOk = true → RDw e ds vs → RCs (shutK k e reg) e.w cs vs := fun {ds} => by
      induction ds with
      | nil => intro cs vs h _ hr; simp only [closeList] at h; cases h; cases hr; exact .nil
      | cons d ds ih =>
        intro cs vs h hk hr
        simp only [closeList] at h
        simp only [List.all_cons, Bool.and_eq_true] at hk
        split at h
        · rename_i c cs' h1 h2
          cases h
          cases hr with
          | cons a b => exact .cons (closeK_ok h1 hk.1) (closeK_rd mi n h1 a) (ih h2 hk.2 b)
        · cases h
    cases d with
    | c v => simp only [closeK] at h; cases h; cases hr with | c hr => exact up hr
    | ap nl cs len esz =>
      simp only [closeK] at h; cases h
      have := hr.unflag (s' := s)
      simp only [Abs.unflag] at this
      cases this with | c hr => exact up hr
    | agg ds =>
      simp only [closeK] at h
      rw [Option.map_eq_some_iff] at h
      obtain ⟨cs, hcs, rfl⟩ := h
      cases hr with
      | agg hk hr => exact .agg (go hcs hk hr.w)
    | ms id ver off len esz x =>
      simp only [closeK] at h
      split at h
      · cases h
      · rename_i hkid
        split at h
        · rename_i o ho
          rw [Option.bind_eq_some_iff] at h
          obtain ⟨ds, hds, h⟩ := h
          rw [Option.map_eq_some_iff] at h
          obtain ⟨cs, hcs, rfl⟩ := h
          obtain ⟨g1, rfl⟩ := getO_some ho
          obtain ⟨vs, hl, hcell, hrw, hk⟩ := mi.cells g1 hds
          cases hr with
          | ms hid hle hx hv =>
            rename_i a cap
            obtain ⟨q1, q2⟩ := (hv o g1).2 rfl
            refine .sl (go hcs hk hrw) (fun i v hi => ?_) hle hx
            have hlt : i < vs.length := (List.getElem?_eq_some_iff.1 hi).1
            have hle2 : len * esz ≤ cap * esz := Nat.mul_le_mul_right _ hle
            rcases q1 with q1 | q1
            · rw [q1] at hle2; omega
            · subst q1
              refine ⟨hcell i v hi, .inr ⟨id, by omega, ?_⟩⟩
              rw [at_add]
              exact mi.own id o g1 _ (by omega)
        · cases h
    | _ => simp [closeK] at h

theorem closeKGo_rd {k : Nat} (mi : MI n0 PR e reg) {n : Nat} : ∀ {ds : List DV} {cs : List CV} {vs : List Value} {e2 : E}, closeList (closeK k n e.st) ds = some cs → RDs e ds vs → e2.im = shutK k e reg → e2.w = e.w → RDs e2 (cs.map .c) vs
  | [], cs, _, e2, h, .nil, _, _ => by simp only [closeList] at h; cases h; exact .nil
  | d :: ds, cs, _, e2, h, .cons a b, h1, h2 => by
    simp only [closeList] at h
    split at h
    · rename_i c cs' hc hcs
      cases h
      refine .cons (.c ?_) (closeKGo_rd mi hcs b h1 h2)
      rw [h1, h2]; exact closeK_rd mi n hc a
    · cases h

theorem closeTopK_rd {k : Nat} (mi : MI n0 PR e reg) {d d' : DV} {v : Value} {s : Addr → Prop} (h : closeTopK k e.st d = some d') (hr : RD e s d v) {e2 : E} (h1 : e2.im = shutK k e reg) (h2 : e2.w = e.w) : RD e2 s d' v := by
  have up : ∀ {c : CV} {v : Value}, RC e.im e.w c v → RC e2.im e2.w c v := fun h => by rw [h1, h2]; exact h.mono (fun _ h => .inl h) (fun _ _ => rfl)
  have ups : ∀ {c : List CV} {v : List Value}, RCs e.im e.w c v → RCs e2.im e2.w c v := fun h => by rw [h1, h2]; exact h.mono (fun _ h => .inl h) (fun _ _ => rfl)
  have other : ∀ {d d' : DV}, (closeK k 9 e.st d).map .c = some d' → RD e s d v → RD e2 s d' v := fun {d d'} h hr => by
    rw [Option.map_eq_some_iff] at h
    obtain ⟨c, hc, rfl⟩ := h
    refine .c ?_
    rw [h1, h2]; exact closeK_rd mi 9 hc hr
  cases d with
  | c v => simp only [closeTopK] at h; cases h; cases hr with | c hr => exact .c (up hr)
  | ap nl cs len esz =>
    simp only [closeTopK] at h; cases h
    cases hr with
    | apnil => exact .apnil
    | ap hr hc hl hn hs => exact .ap (ups hr) (fun i v hv => ⟨by rw [h2]; exact (hc i v hv).1, by rw [h1]; exact .inl (hc i v hv).2⟩) hl hn hs
  | tup ds =>
    simp only [closeTopK] at h
    rw [Option.map_eq_some_iff] at h
    obtain ⟨cs, hcs, rfl⟩ := h
    cases hr with
    | tup hr => exact .tup (closeKGo_rd mi hcs hr h1 h2)
  | _ => exact other (by simpa only [closeTopK] using h) hr

/-- What closeTopK hands back has no address: it goes out as it is. -/
theorem closeTopK_bk {k : Nat} {st : List Ob} {d d1 d2 : DV} {sel vs : List Nat} (h : closeTopK k st d = some d1) (h2 : bkD sel vs d1 = some d2) : d2 = d1 := by
  have hmap : ∀ (cs : List CV) ds', bkL sel vs (cs.map .c) = some ds' → ds' = cs.map .c := fun cs => by
    induction cs with
    | nil => intro ds' h; simp only [List.map_nil, bkL] at h; cases h; rfl
    | cons c cs ih =>
      intro ds' h
      simp only [List.map_cons, bkL, bkD] at h
      split at h
      · rename_i d1 ds1 h1 h2
        cases h1; cases h
        rw [ih _ h2]; rfl
      · cases h
  cases d with
  | c v => simp only [closeTopK] at h; cases h; simp only [bkD] at h2; cases h2; rfl
  | ap nl cs len esz => simp only [closeTopK] at h; cases h; simp only [bkD] at h2; cases h2; rfl
  | tup ds =>
    simp only [closeTopK, Option.map_eq_some_iff] at h
    obtain ⟨cs, hcs, rfl⟩ := h
    simp only [bkD, Option.map_eq_some_iff] at h2
    obtain ⟨ds', h3, rfl⟩ := h2
    rw [hmap _ _ h3]
  | _ =>
    simp only [closeTopK, Option.map_eq_some_iff] at h
    obtain ⟨c, hc, rfl⟩ := h
    simp only [bkD] at h2; cases h2; rfl

/-- A call on some objects of the store. -/
theorem St.onSome (s : St n0 PR Γ e reg m) (hres : NoRes reg) {sel : List Nat} (hnd : nodupB sel = true) {st0 : List Ob} (hst0 : locS sel m.st sel = some st0) :
    let picked : Own → Prop := fun p => match p with | .ob id => id ∈ sel | .cell id _ => id ∈ sel | _ => False
    let PR' : Addr → Prop := fun x => PR x ∨ ∃ p, reg p x ∧ ¬ picked p
    let reg0 : Own → Addr → Prop := fun p x => match p with
      | .ob j => ∃ id, sel[j]? = some id ∧ reg (.ob id) x
      | .cell j i => ∃ id, sel[j]? = some id ∧ reg (.cell id i) x
      | _ => False
    let e0 : E := { e with st := st0, io := fun j => match sel[j]? with | some id => e.io id | none => ⟨0, 0, 0⟩, la := [] }
    Into sel e e0 ∧ St n0 PR' [] e0 reg0 ⟨st0, []⟩ ∧
    (∀ d m1 d1 os d2 m2 en w', endL sel.length d m1.st = some (d1, os) → backL sel m d1 os = some (d2, m2) → Back n0 PR' [] e0 d m1 en w' →
      ∃ v e' reg', en = .returned v ∧ e'.w = w' ∧ St n0 PR Γ e' reg' m2 ∧ To n0 PR Γ e e' ∧ RD e' (reg' .res) d2 v ∧ ∀ t x, reg (.slot t) x → reg' (.slot t) x) := by
  intro picked PR' reg0 e0
  have mi := s.mi
  obtain ⟨hlen0, hget0⟩ := locS_get hst0
  have into : Into sel e e0 := ⟨rfl, rfl, fun j id hj => by
    obtain ⟨o, cs, h1, h2, h3, h4⟩ := hget0 j id hj
    exact ⟨o, ⟨1, cs⟩, by rw [s.st]; exact h1, h4, rfl, by simp only [e0, hj]⟩⟩
  have selj : ∀ j o, st0[j]? = some o → ∃ id, sel[j]? = some id := fun j o h => by
    have : j < sel.length := by rw [← hlen0]; exact (List.getElem?_eq_some_iff.1 h).1
    exact ⟨_, List.getElem?_eq_getElem this⟩
  have inj : ∀ j j' id : Nat, sel[j]? = some id → sel[j']? = some id → j = j' := fun j j' id h h' => by
    have h1 := idx_get hnd h
    rw [idx_get hnd h'] at h1; cases h1; rfl
  have up0 : ∀ p a, reg0 p a → ∃ q, reg q a ∧ picked q := fun p a h => by
    cases p with
    | ob j => obtain ⟨id, h1, h2⟩ := h; exact ⟨_, h2, List.mem_of_getElem? h1⟩
    | cell j i => obtain ⟨id, h1, h2⟩ := h; exact ⟨_, h2, List.mem_of_getElem? h1⟩
    | _ => exact h.elim
  have plain0 : ∀ (id : Nat) (o : Ob), e0.st[id]? = some o → o.mp.k = none := fun j o ho => by
    obtain ⟨id, hj⟩ := selj j o ho
    obtain ⟨o', cs, _, _, _, g4⟩ := hget0 j id hj
    have ho : st0[j]? = some o := ho
    rw [ho] at g4; cases g4; rfl
  refine ⟨into, ⟨rfl, rfl, by simp [e0], ⟨mi.imlt, fun a ha hp => ?_, fun a hp => ?_, mi.n0le, fun p a hp => ?_, fun p q a h1 h2 => ?_, fun j o ho => ?_, fun j o ho i hi => ?_, fun j o ho i d hd => ?_⟩, ⟨⟨s.gi.gl.im, s.gi.gl.ok⟩, MpI.void plain0, by simp, by simp⟩⟩, ?_⟩
  · rcases hp with hp | ⟨t, ht, _⟩
    · exact mi.impr a ha hp
    · exact (mi.ok _ _ ht).2.2.2.1 ha
  · rcases hp with hp | ⟨t, ht, _⟩
    · exact mi.prlt a hp
    · exact mi.old ht
  · obtain ⟨q, hq, hpk⟩ := up0 p a hp
    obtain ⟨h1, h2, h3, h4, h5⟩ := mi.ok q a hq
    refine ⟨h1, h2, h3, h4, fun hh => ?_⟩
    rcases hh with hh | ⟨q', hq', hnp⟩
    · exact h5 hh
    · rw [mi.disj _ _ _ hq' hq] at hnp; exact hnp hpk
  · cases p with
    | ob j =>
      obtain ⟨id, g1, g2⟩ := h1
      cases q with
      | ob j' =>
        obtain ⟨id', g1', g2'⟩ := h2
        have := mi.disj _ _ _ g2 g2'
        injection this with this; subst this
        rw [inj j j' id g1 g1']
      | cell j' i' => obtain ⟨id', g1', g2'⟩ := h2; have := mi.disj _ _ _ g2 g2'; cases this
      | _ => exact h2.elim
    | cell j i =>
      obtain ⟨id, g1, g2⟩ := h1
      cases q with
      | ob j' => obtain ⟨id', g1', g2'⟩ := h2; have := mi.disj _ _ _ g2 g2'; cases this
      | cell j' i' =>
        obtain ⟨id', g1', g2'⟩ := h2
        have := mi.disj _ _ _ g2 g2'
        injection this with this this2; subst this; subst this2
        rw [inj j j' id g1 g1']
      | _ => exact h2.elim
    | _ => exact h1.elim
  · obtain ⟨id, hj⟩ := selj j o ho
    obtain ⟨o', cs, g1, g2, g3, g4⟩ := hget0 j id hj
    have ho : st0[j]? = some o := ho
    rw [ho] at g4; cases g4
    simp only [e0, hj]
    rw [(locL_get g3).1]
    exact mi.ext id o' (by rw [s.st]; exact g1)
  · obtain ⟨id, hj⟩ := selj j o ho
    obtain ⟨o', cs, g1, g2, g3, g4⟩ := hget0 j id hj
    simp only [e0, hj] at hi ⊢
    exact ⟨id, hj, mi.own id o' (by rw [s.st]; exact g1) i hi⟩
  · obtain ⟨id, hj⟩ := selj j o ho
    obtain ⟨o', cs, g1, g2, g3, g4⟩ := hget0 j id hj
    have ho : st0[j]? = some o := ho
    rw [ho] at g4; cases g4
    obtain ⟨d0, hd0, hl⟩ := (locL_get g3).2 i d hd
    obtain ⟨k1, v, k2, k3⟩ := mi.cell id o' (by rw [s.st]; exact g1) i d0 hd0
    refine ⟨locD_ok hl k1, v, by simp only [e0, hj]; exact k2, (RD.into into (by rw [s.st]; exact hl) k3).weak fun a ha => ⟨id, hj, ha⟩⟩
  · intro d m1 d1 os d2 m2 en w' hend hback hb
    cases en with
    | panicked c => exact hb.elim
    | outgrown => exact hb.elim
    | returned v =>
      obtain ⟨e1, reg1, rfl, s1, hns, to, hrd⟩ := hb
      have mi1 := s1.mi
      -- the end
      unfold endL at hend
      split at hend
      case isFalse => cases hend
      rename_i hcond
      simp only [Bool.and_eq_true, decide_eq_true_eq] at hcond
      obtain ⟨hbelow, hk⟩ := hcond
      unfold backL at hback
      split at hback
      case h_2 => cases hback
      rename_i d2' st2 hd2 hput
      cases hback
      have hos : os = m1.st.take sel.length := by
        split at hend
        · cases hend; rfl
        · rw [Option.map_eq_some_iff] at hend
          obtain ⟨_, _, hh⟩ := hend
          cases hh; rfl
      have hlt : ∀ id ∈ sel, id < m.st.length := fun id hid => by
        obtain ⟨j, hj⟩ := List.getElem?_of_mem hid
        obtain ⟨o, cs, g1, _⟩ := hget0 j id hj
        exact (List.getElem?_eq_some_iff.1 g1).1
      obtain ⟨hl2, hother, hput2⟩ := putBack_get hput hnd hlt
      have hX : ∀ r, ¬ (X [] e0.la r ∨ MB e0 r) := fun r h => h.elim (fun h => by obtain ⟨_, _, h, _⟩ := h; simp at h) (fun h => by obtain ⟨id, o, h1, h2, _⟩ := h; exact h2 (plain0 id o h1))
      have keepF : Keep n0 PR (fun _ => False) e.w e1.w := ⟨to.keep.os, to.keep.tape, to.keep.output, to.keep.size, to.keep.old, fun a ha => to.keep.pr a (.inl ha), fun r o h1 h2 h3 => to.keep.obj r o h1 h2 (hX r), to.keep.dr⟩
      have old : ∀ p a, reg p a → ¬ picked p → n0 ≤ a.block ∧ (∃ v, e1.w.cell? a = some v) ∧ e1.w.frozen? a = false ∧ ¬ e1.im a ∧ ¬ PR a := fun t a h hnp => by
        obtain ⟨h1, ⟨v, h2⟩, h3, h4, h5⟩ := mi.ok _ _ h
        obtain ⟨k1, k2⟩ := to.keep.pr a (.inr ⟨t, h, hnp⟩)
        exact ⟨h1, ⟨v, k1.trans h2⟩, k2.trans h3, fun hi => mi1.impr a hi (.inr ⟨t, h, hnp⟩), h5⟩
      have sep : ∀ p q a, reg p a → ¬ picked p → ¬ reg1 q a := fun p q a h1 hnp h2 => (mi1.ok q a h2).2.2.2.2 (.inr ⟨p, h1, hnp⟩)
      let e2 : E := { im := shutK sel.length e1 reg1, w := e1.w, st := st2, io := fun g => match idx sel g with | some j => e1.io j | none => e.io g, la := e.la }
      let reg2 : Own → Addr → Prop := fun p x => match p with
        | .res => reg1 .res x
        | .slot t => reg (.slot t) x
        | .ob g => match idx sel g with | some j => reg1 (.ob j) x | none => reg (.ob g) x
        | .cell g i => match idx sel g with | some j => reg1 (.cell j i) x | none => reg (.cell g i) x
      have hr2 : ∀ p a, reg2 p a → (reg p a ∧ ¬ picked p ∧ p ≠ .res) ∨
          (∃ p', reg1 p' a ∧ ((p = .res ∧ p' = .res) ∨ (∃ g j, p = .ob g ∧ sel[j]? = some g ∧ p' = .ob j) ∨ (∃ g j i, p = .cell g i ∧ sel[j]? = some g ∧ p' = .cell j i))) := fun p a h => by
        cases p with
        | res => exact .inr ⟨_, h, .inl ⟨rfl, rfl⟩⟩
        | slot t => exact .inl ⟨h, fun h => h, by simp⟩
        | ob g =>
          simp only [reg2] at h
          split at h
          · rename_i j hj; exact .inr ⟨_, h, .inr (.inl ⟨g, j, rfl, idx_some hj, rfl⟩)⟩
          · rename_i hj; exact .inl ⟨h, idx_none hj, by simp⟩
        | cell g i =>
          simp only [reg2] at h
          split at h
          · rename_i j hj; exact .inr ⟨_, h, .inr (.inr ⟨g, j, i, rfl, idx_some hj, rfl⟩)⟩
          · rename_i hj; exact .inl ⟨h, idx_none hj, by simp⟩
      -- the objects, in and out
      have pair : ∀ (j id : Nat), sel[j]? = some id → ∃ o o1 cs, e.st[id]? = some o ∧ o.ver ≠ 0 ∧ e1.st[j]? = some o1 ∧ 1 ≤ o1.ver ∧ (o1.ver = 1 → e1.io j = e.io id) ∧ bkL sel (versOf m.st sel) o1.cs = some cs ∧ st2[id]? = some ⟨o.ver + (o1.ver - 1), cs⟩ ∧ (versOf m.st sel)[j]? = some o.ver := fun j id hj => by
        obtain ⟨o, cs0, g1, g2, g3, g4⟩ := hget0 j id hj
        obtain ⟨v, o1, cs, p1, p2, p3, p4⟩ := hput2 j id hj
        have hv := versOf_get hj g1
        rw [hv] at p1; cases p1
        have ho1 : e1.st[j]? = some o1 := by
          rw [hos, List.getElem?_take_of_lt (List.getElem?_eq_some_iff.1 hj).1] at p2
          rw [s1.st]; exact p2
        obtain ⟨q1, q2⟩ := to.ext.ver j ⟨1, cs0⟩ o1 g4 ho1
        refine ⟨o, o1, cs, by rw [s.st]; exact g1, g2, ho1, q1, fun h => ?_, p3, p4, hv⟩
        rw [q2 h.symm]; simp only [e0, hj]
      have hio : ∀ (j id : Nat), sel[j]? = some id → e2.io id = e1.io j := fun j id hj => by simp only [e2, idx_get hnd hj]
      have hion : ∀ id, id ∉ sel → e2.io id = e.io id := fun id hn => by
        cases hi : idx sel id with
        | none => simp only [e2, hi]
        | some j => exact absurd (List.mem_of_getElem? (idx_some hi)) hn
      have hx : Ext e e2 := by
        refine ⟨fun a ha => .inl (to.ext.im a ha), fun a ha => to.ext.cell a ha, by show e.st.length ≤ st2.length; rw [hl2, s.st]; exact Nat.le_refl _, fun id o o' h1 h2 => ?_, fun k l h => h⟩
        have h2 : st2[id]? = some o' := h2
        by_cases hid : id ∈ sel
        · obtain ⟨j, hj⟩ := List.getElem?_of_mem hid
          obtain ⟨o3, o1, cs, p1, p2, p3, p4, p5, p6, p7, p8⟩ := pair j id hj
          rw [h1] at p1; cases p1
          rw [h2] at p7; cases p7
          refine ⟨by simp, fun hv => ?_⟩
          rw [hio j id hj]
          exact p5 (by simp at hv; omega)
        · rw [hother id hid, ← s.st, h1] at h2
          cases h2
          exact ⟨Nat.le_refl _, fun _ => hion id hid⟩
      have sameK : SameK e e2 := fun id o' ho hk => by
        have ho : st2[id]? = some o' := ho
        by_cases hid : id ∈ sel
        · obtain ⟨j, hj⟩ := List.getElem?_of_mem hid
          obtain ⟨o3, o1, cs, p1, p2, p3, p4, p5, p6, p7, p8⟩ := pair j id hj
          rw [ho] at p7; cases p7
          exact absurd rfl hk
        · rw [hother id hid, ← s.st] at ho
          exact ⟨o', ho, rfl, rfl⟩
      have outOf : OutOf sel (versOf m.st sel) e1 e2 := ⟨fun a ha => .inl ha, rfl, fun j id v' hj hv' => by
        obtain ⟨o3, o1, cs, p1, p2, p3, p4, p5, p6, p7, p8⟩ := pair j id hj
        rw [hv'] at p8; cases p8
        exact ⟨p2, o1, _, p3, p4, p7, rfl, hio j id hj⟩⟩
      have hrd2 : RD e2 (reg2 .res) d2 v := by
        split at hend
        · cases hend; exact RD.outOf outOf hd2 hrd
        · rw [Option.map_eq_some_iff] at hend
          obtain ⟨d1', hcl, hh⟩ := hend
          cases hh
          rw [closeTopK_bk hcl hd2]
          exact closeTopK_rd mi1 (by rw [s1.st]; exact hcl) hrd rfl rfl
      refine ⟨v, e2, reg2, rfl, rfl, ⟨rfl, s.la, fun l hl => ⟨(s.lt l hl).1, Nat.lt_of_lt_of_le (s.lt l hl).2 keepF.size⟩, ⟨fun a ha => ?_, fun a ha hp => ?_, fun a hp => mi1.prlt a (.inl hp), mi1.n0le, fun p a hp => ?_, fun p q a h1 h2 => ?_, fun id o ho => ?_, fun id o ho i hi => ?_, fun id o ho i d hd => ?_⟩, s.gi.keep hx keepF sameK⟩,
        To.of_keep hx keepF sameK, hrd2, fun t x h => h⟩
      · rcases ha with ha | ⟨id, _, ha⟩
        · exact mi1.imlt a ha
        · exact mi1.old ha
      · rcases ha with ha | ⟨id, _, ha⟩
        · exact mi1.impr a ha (.inl hp)
        · exact (mi1.ok _ a ha).2.2.2.2 (.inl hp)
      · rcases hr2 p a hp with ⟨h, hnp, _⟩ | ⟨p', h, hp'⟩
        · obtain ⟨h1, h2, h3, h4, h5⟩ := old p a h hnp
          refine ⟨h1, h2, h3, fun hh => ?_, h5⟩
          rcases hh with hh | ⟨id, _, hh⟩
          · exact h4 hh
          · exact sep _ _ _ h hnp hh
        · obtain ⟨h1, h2, h3, h4, h5⟩ := mi1.ok _ a h
          refine ⟨h1, h2, h3, fun hh => ?_, fun hh => h5 (.inl hh)⟩
          rcases hh with hh | ⟨id, hge, hh⟩
          · exact h4 hh
          · have heq := mi1.disj _ _ _ h hh
            subst heq
            rcases hp' with ⟨_, hA⟩ | ⟨g, j, _, hj, hA⟩ | ⟨g, j, i, _, _, hA⟩
            · cases hA
            · injection hA with hA
              have := (List.getElem?_eq_some_iff.1 hj).1
              omega
            · cases hA
      · rcases hr2 p a h1 with ⟨g1, hn1, _⟩ | ⟨p', g1, hp'⟩ <;> rcases hr2 q a h2 with ⟨g2, hn2, _⟩ | ⟨q', g2, hq'⟩
        · exact mi.disj _ _ a g1 g2
        · exact absurd g2 (sep _ _ _ g1 hn1)
        · exact absurd g1 (sep _ _ _ g2 hn2)
        · have heq := mi1.disj _ _ a g1 g2
          subst heq
          rcases hp' with ⟨rfl, hA⟩ | ⟨j, x, rfl, hj, hA⟩ | ⟨j, x, i, rfl, hj, hA⟩ <;> rcases hq' with ⟨rfl, hB⟩ | ⟨j', x', rfl, hj', hB⟩ | ⟨j', x', i', rfl, hj', hB⟩ <;> rw [hA] at hB <;> first | rfl | (cases hB; done) | skip
          · injection hB with hB
            subst hB
            rw [hj] at hj'; cases hj'; rfl
          · injection hB with hB hC
            subst hB; subst hC
            rw [hj] at hj'; cases hj'; rfl
      · have ho : st2[id]? = some o := ho
        by_cases hid : id ∈ sel
        · obtain ⟨j, hj⟩ := List.getElem?_of_mem hid
          obtain ⟨o3, o1, cs, p1, p2, p3, p4, p5, p6, p7, p8⟩ := pair j id hj
          rw [ho] at p7; cases p7
          rw [hio j id hj]
          show cs.length ≤ _
          rw [(bkL_get p6).1]; exact mi1.ext j o1 p3
        · rw [hother id hid, ← s.st] at ho
          rw [hion id hid]; exact mi.ext id o ho
      · have ho : st2[id]? = some o := ho
        by_cases hid : id ∈ sel
        · obtain ⟨j, hj⟩ := List.getElem?_of_mem hid
          obtain ⟨o3, o1, cs, p1, p2, p3, p4, p5, p6, p7, p8⟩ := pair j id hj
          rw [hio j id hj] at hi ⊢
          simp only [reg2, idx_get hnd hj]
          exact mi1.own j o1 p3 i hi
        · rw [hother id hid, ← s.st] at ho
          rw [hion id hid] at hi ⊢
          cases hix : idx sel id with
          | some j => exact absurd (List.mem_of_getElem? (idx_some hix)) hid
          | none => simp only [reg2, hix]; exact mi.own id o ho i hi
      · have ho : st2[id]? = some o := ho
        by_cases hid : id ∈ sel
        · obtain ⟨j, hj⟩ := List.getElem?_of_mem hid
          obtain ⟨o3, o1, cs, p1, p2, p3, p4, p5, p6, p7, p8⟩ := pair j id hj
          rw [ho] at p7; cases p7
          obtain ⟨d0, hd0, hbk⟩ := (bkL_get p6).2 i d hd
          obtain ⟨k1, v, k2, k3⟩ := mi1.cell j o1 p3 i d0 hd0
          rw [hio j id hj]
          exact ⟨bkD_ok hbk k1, v, k2, (RD.outOf outOf hbk k3).weak fun a ha => by simp only [reg2, idx_get hnd hj]; exact ha⟩
        · rw [hother id hid, ← s.st] at ho
          rw [hion id hid]
          obtain ⟨k1, v, k2, k3⟩ := mi.cell id o ho i d hd
          have hlt : i < (e.io id).ext := Nat.lt_of_lt_of_le (List.getElem?_eq_some_iff.1 hd).1 (mi.ext id o ho)
          refine ⟨k1, v, (to.keep.pr _ (.inr ⟨_, mi.own id o ho i hlt, hid⟩)).1.trans k2, k3.mono hx fun a ha => ?_⟩
          cases hix : idx sel id with
          | some j => exact absurd (List.mem_of_getElem? (idx_some hix)) hid
          | none => simp only [reg2, hix]; exact ha
end
end Go.Abs
