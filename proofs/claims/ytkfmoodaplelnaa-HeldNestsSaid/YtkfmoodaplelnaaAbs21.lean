/-
  Abs21: regions.
-/
import Derived.Test.YtkfmoodaplelnaaAbs20
set_option linter.unusedVariables false
set_option linter.unusedSimpArgs false
set_option linter.unusedSectionVars false
namespace Go.Abs
open Go
variable [Fl]
variable [Gl]

section
variable {P : Program} {rec : Rec} {g : Reg} {A : Nat → Option (List (Nat × Bool))} {fin : S}

/-- The operations in this order come to fin; each touches what A says. -/
inductive Good (P : Program) (rec : Rec) (g : Reg) (A : Nat → Option (List (Nat × Bool))) (fin : S) : List Nat → S → Prop
  | nil : Good P rec g A fin [] fin
  | cons {i : Nat} {is : List Nat} {s s' : S} (ha : accD rec g i s.fr = A i) (h : stepD P rec g i s = some s') (t : Good P rec g A fin is s') : Good P rec g A fin (i :: is) s

/-- Two that may come up in either order. -/
structure Lo (rec : Rec) (g : Reg) (A : Nat → Option (List (Nat × Bool))) (j i : Nat) : Prop where
  look : ∀ t ∈ touch g j, t ∉ looks g i
  look' : ∀ t ∈ touch g i, t ∉ looks g j
  dst : ∀ t ∈ touch g j, t ∉ touch g i
  acc : (∀ fr, accD rec g j fr = some []) ∨ (∀ fr, accD rec g i fr = some []) ∨ ∃ X Y, A j = some X ∧ A i = some Y ∧ compat (some X) (some Y) = true

theorem same_trans {ts : List Tmp} {fr : Nat → DV} {dst : Option Tmp} {d : DV} {drop : List Tmp} (h : ∀ t, dst = some t → t ∉ ts) (h2 : ∀ t ∈ drop, t ∉ ts) : Same ts (trans fr dst d drop) fr := fun t ht => by
  rw [trans_at, if_neg (fun hh => h t hh ht), if_neg (fun hh => h2 t hh ht)]
theorem trans_comm {fr : Nat → DV} {x y : Option Tmp} {c d : DV} {p q : List Tmp} {S T : List Tmp} (hx : ∀ t, x = some t → t ∈ S) (hp : ∀ t ∈ p, t ∈ S) (hy : ∀ t, y = some t → t ∈ T) (hq : ∀ t ∈ q, t ∈ T) (hd : ∀ t ∈ S, t ∉ T) :
    trans (trans fr x c p) y d q = trans (trans fr y d q) x c p := by
  funext t
  simp only [trans_at]
  by_cases hS : t ∈ S
  · have hT := hd t hS
    rw [if_neg (fun hh => hT (hy t hh)), if_neg (fun hh => hT (hq t hh)), if_neg (fun hh => hT (hy t hh)), if_neg (fun hh => hT (hq t hh))]
  · rw [if_neg (fun hh => hS (hx t hh)), if_neg (fun hh => hS (hp t hh)), if_neg (fun hh => hS (hx t hh)), if_neg (fun hh => hS (hp t hh))]
theorem setM_get {m : M} {set : Option (Nat × Ob)} {k : Nat} (h : ∀ id o, set = some (id, o) → id ≠ k) : (setM m set).st[k]? = m.st[k]? := by
  cases set with
  | none => rfl
  | some x => obtain ⟨id, o⟩ := x; simp only [setM]; rw [List.getElem?_set_ne (h id o rfl)]
theorem setM_comm {m : M} {x y : Option (Nat × Ob)} (h : ∀ i o j p, x = some (i, o) → y = some (j, p) → i ≠ j) : setM (setM m x) y = setM (setM m y) x := by
  cases x with
  | none => cases y <;> rfl
  | some x =>
    obtain ⟨i, o⟩ := x
    cases y with
    | none => rfl
    | some y => obtain ⟨j, p⟩ := y; simp only [setM]; rw [List.set_comm _ _ (h i o j p rfl rfl)]

theorem setMs_get {k : Nat} : ∀ {set : List (Nat × Ob)} {m : M}, (∀ id o, (id, o) ∈ set → id ≠ k) → (setMs m set).st[k]? = m.st[k]?
  | [], m, _ => rfl
  | (id, o) :: l, m, h => by
    have e := setMs_get (set := l) (m := setM m (some (id, o))) (fun i o' hm => h i o' (List.mem_cons_of_mem _ hm))
    have e2 : (setM m (some (id, o))).st[k]? = m.st[k]? := setM_get fun i o' hs => by cases hs; exact h id o (by simp)
    exact e.trans e2
theorem setMs_one : ∀ {y : List (Nat × Ob)} {m : M} {i : Nat} {o : Ob}, (∀ j p, (j, p) ∈ y → i ≠ j) → setMs (setM m (some (i, o))) y = setM (setMs m y) (some (i, o))
  | [], m, i, o, _ => rfl
  | (j, p) :: l, m, i, o, h => by
    have e : setM (setM m (some (i, o))) (some (j, p)) = setM (setM m (some (j, p))) (some (i, o)) := setM_comm fun a b c d h1 h2 => by cases h1; cases h2; exact h j p (by simp)
    have e2 := setMs_one (y := l) (m := setM m (some (j, p))) (i := i) (o := o) (fun a b hm => h a b (List.mem_cons_of_mem _ hm))
    show setMs (setM (setM m (some (i, o))) (some (j, p))) l = _
    rw [e, e2]; rfl
theorem setMs_comm : ∀ {x y : List (Nat × Ob)} {m : M}, (∀ i o j p, (i, o) ∈ x → (j, p) ∈ y → i ≠ j) → setMs (setMs m x) y = setMs (setMs m y) x
  | [], y, m, _ => rfl
  | (i, o) :: l, y, m, h => by
    have e := setMs_comm (x := l) (y := y) (m := setM m (some (i, o))) (fun a b c d h1 h2 => h a b c d (List.mem_cons_of_mem _ h1) h2)
    have e2 := setMs_one (y := y) (m := m) (i := i) (o := o) (fun j p hm => h i o j p (by simp) hm)
    show setMs (setMs (setM m (some (i, o))) l) y = setMs (setM (setMs m y) (some (i, o))) l
    rw [e, e2]
theorem compat_ne {X Y : List (Nat × Bool)} (h : compat (some X) (some Y) = true) {x y : Nat × Bool} (hx : x ∈ X) (hy : y ∈ Y) (hw : x.2 = true ∨ y.2 = true) : x.1 ≠ y.1 := by
  simp only [compat] at h
  have := (List.all_eq_true.1 ((List.all_eq_true.1 h) x hx)) y hy
  rcases hw with hw | hw <;> simp [hw] at this <;> exact this

theorem Good.swap (hpr : ∀ f p, rec.prim f = some p → PrimOk P f p) {j i : Nat} {β : List Nat} {s : S} (hl : Lo rec g A j i) (h : Good P rec g A fin (j :: i :: β) s) : Good P rec g A fin (i :: j :: β) s := by
  cases h with
  | cons haj hj h =>
    rename_i s1
    cases h with
    | cons hai hi t =>
      rename_i s2
      rw [stepD_eq, Option.map_eq_some_iff] at hj
      obtain ⟨⟨dj, pj, m1⟩, ej, rfl⟩ := hj
      rw [stepD_eq, Option.map_eq_some_iff] at hi
      obtain ⟨⟨di, pi, m2⟩, ei, rfl⟩ := hi
      simp only at hai ei t
      obtain ⟨tj1, tj2⟩ := stepE_touch ej
      obtain ⟨ti1, ti2⟩ := stepE_touch ei
      have hsi : Same (looks g i) (trans s.fr (dstOf g j) dj pj) s.fr := same_trans (fun t ht => hl.look t (tj1 t ht)) (fun t ht => hl.look t (tj2 t ht))
      obtain ⟨q1, q2⟩ := step_same (P := P) (rec := rec) hsi m1
      rw [q1] at ei; rw [q2] at hai
      -- the memories
      have mem : ∃ m1', stepE P rec g i s.fr s.m = some (di, pi, m1') ∧ stepE P rec g j s.fr m1' = some (dj, pj, m2) := by
        rcases hl.acc with hq | hq | ⟨X, Y, hX, hY, hc⟩
        · rcases localAt_of (rec := rec) (P := P) hpr (hq s.fr) s.m with ⟨h0, _⟩ | ⟨d, p, set, h1, h2⟩
          · rw [h0] at ej; cases ej
          · have hset : set = [] := by
              cases set with
              | nil => rfl
              | cons x l => have := h1 x.1 x.2 (by simp); simp at this
            subst hset
            have e1 := h2 s.m (by simp)
            rw [ej] at e1
            injection e1 with e1
            injection e1 with e1 e2
            injection e2 with e2 e3
            have e3' : m1 = s.m := e3
            subst e1; subst e2; subst e3'
            exact ⟨m2, ei, h2 m2 (by simp)⟩
        · rcases localAt_of (rec := rec) (P := P) hpr (hq s.fr) m1 with ⟨h0, _⟩ | ⟨d, p, set, h1, h2⟩
          · rw [h0] at ei; cases ei
          · have hset : set = [] := by
              cases set with
              | nil => rfl
              | cons x l => have := h1 x.1 x.2 (by simp); simp at this
            subst hset
            have e1 := h2 m1 (by simp)
            rw [ei] at e1
            injection e1 with e1
            injection e1 with e1 e2
            injection e2 with e2 e3
            have e3' : m2 = m1 := e3
            subst e1; subst e2; subst e3'
            exact ⟨s.m, h2 s.m (by simp), ej⟩
        · rcases localAt_of (rec := rec) (P := P) hpr (haj.trans hX) s.m with ⟨h0, _⟩ | ⟨d, p, sj, h1, h2⟩
          · rw [h0] at ej; cases ej
          · have e1 := h2 s.m (fun _ _ => rfl)
            rw [ej] at e1
            injection e1 with e1
            injection e1 with e1 e2
            injection e2 with e2 e3
            subst e1; subst e2; subst e3
            rcases localAt_of (rec := rec) (P := P) hpr (hai.trans hY) (setMs s.m sj) with ⟨h0, _⟩ | ⟨d', p', si, h3, h4⟩
            · rw [h0] at ei; cases ei
            · have e3 := h4 (setMs s.m sj) (fun _ _ => rfl)
              rw [ei] at e3
              injection e3 with e3
              injection e3 with e3 e4
              injection e4 with e4 e5
              subst e3; subst e4; subst e5
              have agY : ∀ p ∈ Y, (setMs s.m sj).st[p.1]? = s.m.st[p.1]? := fun p hp => setMs_get fun id o hs => compat_ne hc (h1 id o hs) hp (.inl rfl)
              have agX : ∀ p ∈ X, s.m.st[p.1]? = (setMs s.m si).st[p.1]? := fun p hp => (setMs_get fun id o hs => (compat_ne hc hp (h3 id o hs) (.inr rfl)).symm).symm
              refine ⟨setMs s.m si, h4 s.m agY, ?_⟩
              rw [h2 (setMs s.m si) agX, setMs_comm fun i o j p hi hj => (compat_ne hc (h1 j p hj) (h3 i o hi) (.inl rfl)).symm]
      obtain ⟨m1', f1, f3⟩ := mem
      have hsj : Same (looks g j) (trans s.fr (dstOf g i) di pi) s.fr := same_trans (fun t ht => hl.look' t (ti1 t ht)) (fun t ht => hl.look' t (ti2 t ht))
      obtain ⟨q4, q5⟩ := step_same (P := P) (rec := rec) hsj m1'
      refine .cons hai (s' := ⟨trans s.fr (dstOf g i) di pi, m1'⟩) (by rw [stepD_eq, f1]; rfl) (.cons (by rw [q5]; exact haj) (s' := ⟨trans (trans s.fr (dstOf g i) di pi) (dstOf g j) dj pj, m2⟩) ?_ ?_)
      · rw [stepD_eq]
        show (stepE P rec g j (trans s.fr (dstOf g i) di pi) m1').map _ = _
        rw [q4, f3]; rfl
      · rw [← trans_comm tj1 tj2 ti1 ti2 hl.dst]; exact t

theorem Good.bubble (hpr : ∀ f p, rec.prim f = some p → PrimOk P f p) {i : Nat} {β : List Nat} : ∀ {α : List Nat} {s : S}, (∀ j ∈ α, Lo rec g A j i) → Good P rec g A fin (α ++ i :: β) s → Good P rec g A fin (i :: (α ++ β)) s
  | [], s, _, h => h
  | j :: α, s, hl, h => by
    cases h with
    | cons ha hj t => exact Good.swap hpr (hl j (by simp)) (.cons ha hj (Good.bubble hpr (fun k hk => hl k (by simp [hk])) t))

theorem stepsA_good (is : List Nat) : ∀ (s : S) (as : List (Option (List (Nat × Bool)))), stepsA P rec g is s = some (fin, as) → as.length = is.length ∧ ∀ B, (∀ (k : Nat) i, is[k]? = some i → as[k]? = some (B i)) → Good P rec g B fin is s := by
  induction is with
  | nil => intro s as h; simp only [stepsA] at h; cases h; exact ⟨rfl, fun B _ => .nil⟩
  | cons i is ih =>
    intro s as h
    simp only [stepsA] at h
    split at h
    · skip
      · rename_i s' hs
        rw [Option.map_eq_some_iff] at h
        obtain ⟨⟨r, as'⟩, h1, h2⟩ := h
        cases h2
        obtain ⟨h3, h4⟩ := ih s' as' h1
        refine ⟨by simp [h3], fun B hB => .cons (by have := hB 0 i rfl; simpa using this) hs (h4 B fun k i' hk => by have := hB (k + 1) i' (by simpa using hk); simpa using this)⟩
    · cases h

/-! ### who must come before whom -/
def Down (ops : Array Oper) (L : Nat → Prop) : Prop := ∀ (k : Nat) o, ops[k]? = some o → L k → ∀ e ∈ o.after, Region.binds .any e = true → L e.on

theorem maskOf_bit {acc : List Nat} {j : Nat} : ∀ {es : List Edge}, (maskOf acc es).testBit j = true → ∃ e ∈ es, j = e.on ∨ (acc.getD e.on 0).testBit j = true
  | [], h => by simp [maskOf] at h
  | e :: es, h => by
    simp only [maskOf, Nat.testBit_or, Bool.or_eq_true, Nat.one_shiftLeft, Nat.testBit_two_pow, decide_eq_true_eq] at h
    rcases h with (h | h) | h
    · exact ⟨e, by simp, .inl h.symm⟩
    · exact ⟨e, by simp, .inr h⟩
    · obtain ⟨e', h1, h2⟩ := maskOf_bit h
      exact ⟨e', by simp [h1], h2⟩
theorem preds_spec {ops : Array Oper} {L : Nat → Prop} (hL : Down ops L) : ∀ (i : Nat) (o : Oper), ops[i]? = some o → (∀ e ∈ o.after, Region.binds .any e = true → L e.on) → ∀ j, ((preds ops).getD i 0).testBit j = true → L j := by
  let f : List Nat → Oper → List Nat := fun acc o => acc ++ [maskOf acc (o.after.toList.filter fun e => Region.binds .any e)]
  have key : ∀ (l : List Oper) (acc : List Nat), (∀ k (o : Oper), l[k]? = some o → ops[acc.length + k]? = some o) →
      (∀ k (o : Oper), k < acc.length → ops[k]? = some o → (∀ e ∈ o.after, Region.binds .any e = true → L e.on) → ∀ j, (acc.getD k 0).testBit j = true → L j) →
      (∀ k (o : Oper), k < acc.length + l.length → ops[k]? = some o → (∀ e ∈ o.after, Region.binds .any e = true → L e.on) → ∀ j, ((l.foldl f acc).getD k 0).testBit j = true → L j) := fun l => by
    induction l with
    | nil => intro acc _ h k o hk; exact h k o (by simpa using hk)
    | cons x l ih =>
      intro acc h0 h k o hk
      simp only [List.foldl_cons]
      refine ih (f acc x) (fun k o hk => ?_) (fun k o hk ho hall j hj => ?_) k o (by simp [f] at hk ⊢; omega)
      · have := h0 (k + 1) o (by simpa using hk)
        simp only [f, List.length_append, List.length_cons, List.length_nil]
        rw [show acc.length + (0 + 1) + k = acc.length + (k + 1) by omega]; exact this
      · simp only [f, List.length_append, List.length_cons, List.length_nil] at hk
        rcases Nat.lt_or_ge k acc.length with hlt | hge
        · have : (f acc x).getD k 0 = acc.getD k 0 := by simp [f, List.getElem?_append_left hlt]
          rw [this] at hj
          exact h k o hlt ho hall j hj
        · have hke : k = acc.length := by omega
          subst hke
          have hxo : x = o := by have := h0 0 x rfl; rw [Nat.add_zero, ho] at this; cases this; rfl
          subst hxo
          have : (f acc x).getD acc.length 0 = maskOf acc (x.after.toList.filter fun e => Region.binds .any e) := by simp [f]
          rw [this] at hj
          obtain ⟨e, he, hj⟩ := maskOf_bit hj
          rw [List.mem_filter] at he
          have hLe := hall e (by simpa using he.1) he.2
          rcases hj with rfl | hj
          · exact hLe
          · rcases Nat.lt_or_ge e.on acc.length with h1 | h1
            · have hlt : e.on < ops.size := by
                have := (Array.getElem?_eq_some_iff.1 ho).1
                omega
              have ho' : ops[e.on]? = some ops[e.on] := Array.getElem?_eq_getElem hlt
              exact h e.on _ h1 ho' (hL e.on _ ho' hLe) j hj
            · simp [h1] at hj
  intro i o ho hall j hj
  refine key ops.toList [] (fun k o hk => by simpa using hk) (fun k o hk => by simp at hk) i o ?_ ho hall j hj
  have := (Array.getElem?_eq_some_iff.1 ho).1
  simpa using this

theorem quiet_acc {i : Nat} {o : Oper} (ho : g.ops[i]? = some o) (h : quietOp (g.site i) o.op = true) (fr : Nat → DV) : accD rec g i fr = some [] := by
  unfold accD
  rw [ho]
  simp only
  split
  · have hc : calleeOf fr o.op = none := by
      unfold calleeOf
      split
      · rename_i k hk
        split
        · rename_i gx hg
          rw [hk] at h
          unfold quietOp at h
          split at h <;> simp_all
        · rfl
      · rfl
    rw [hc]
    simp only
    unfold quietOp at h
    split at h <;> simp_all [accS]
  · rfl
end
end Go.Abs
