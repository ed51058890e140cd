/-
  Abs5: the operators, slices' bounds, indexes, fields.
-/
import Derived.Test.YtkfmoodaplelnaaAbs4
import Derived.Laws.StructEq
namespace Go.Abs
open Go

section
variable {P : Program} {n0 : Nat} {PR : Addr → Prop} {e : E} {reg : Own → Addr → Prop}

theorem cut_run {t : TypeId} {cs : Array Value} {off : Nat} {v : Value} (h : eqV.cut P t cs off = some v) (w : World) : (part t cs off).run P w = .ok v w := by
  unfold eqV.cut at h
  split at h
  · rename_i fs hu
    rw [Option.map_eq_some_iff] at h
    obtain ⟨i, hi, rfl⟩ := h
    simp [part, isAgg, run_underlying hu, sizeOf, typeInfo, hi]
  · rename_i n el hu
    rw [Option.map_eq_some_iff] at h
    obtain ⟨i, hi, rfl⟩ := h
    simp [part, isAgg, run_underlying hu, sizeOf, typeInfo, hi]
  · rename_i d h1 h2 hu
    have : (isAgg t).run P w = .ok false w := by
      simp only [isAgg, Sem.run_bind, run_underlying hu, Result.andThen_ok]
      cases d <;> simp_all
    simp [part, this, h]
  · cases h

theorem eqF_run {d : Nat} (ih : ∀ (t : TypeId) (x y : Value) (b : Bool), eqV P d t x y = some b → ∀ w, (Op.equalIn d t x y).run P w = .ok b w) (xs ys : Array Value) :
    ∀ (fs : List Field) (b : Bool), eqFw P (eqV P d) xs ys fs = some b → ∀ w, (Op.eqFields d xs ys fs).run P w = .ok b w
  | [], b, h, w => by simp [eqFw] at h; subst h; rfl
  | f :: fs, b, h, w => by
    unfold eqFw at h
    unfold Op.eqFields
    split at h
    · rename_i hn
      split at h
      · rename_i u v h1 h2
        rw [if_pos hn]
        simp only [Sem.run_bind, cut_run h1, cut_run h2, Result.andThen_ok]
        split at h
        · rename_i h3
          simp only [ih _ _ _ _ h3, Result.andThen_ok, Bool.not_true, Bool.false_eq_true, if_false]
          exact eqF_run ih xs ys fs b h w
        · rename_i h3
          cases b with
          | true => exact absurd h h3
          | false => simp only [ih _ _ _ _ h, Result.andThen_ok, Bool.not_false, if_true, Sem.run_pure]
      · cases h
    · rename_i hn
      rw [if_neg hn]
      exact eqF_run ih xs ys fs b h w
theorem eqA_run {d : Nat} {el size : Nat} (ih : ∀ (t : TypeId) (x y : Value) (b : Bool), eqV P d t x y = some b → ∀ w, (Op.equalIn d t x y).run P w = .ok b w) (xs ys : Array Value) :
    ∀ (l : List Nat) (b : Bool), eqAw P (eqV P d) el size xs ys l = some b → ∀ w,
    (Sem.run P (forIn l ((none, ()) : Option Bool × Unit) fun i _ => (do
        let a ← part el xs (i * size)
        let c ← part el ys (i * size)
        let q ← Op.equalIn d el a c
        if (!q) = true then pure (ForInStep.done (some false, ())) else pure (ForInStep.yield (none, ())) : Sem (ForInStep (Option Bool × Unit)))) w) = .ok (if b then none else some false, ()) w
  | [], b, h, w => by simp [eqAw] at h; subst h; rfl
  | i :: is, b, h, w => by
    unfold eqAw at h
    split at h
    · rename_i u v h1 h2
      simp only [List.forIn_cons, Sem.run_bind, cut_run h1, cut_run h2, Result.andThen_ok]
      split at h
      · rename_i h3
        simp only [ih _ _ _ _ h3, Result.andThen_ok, Bool.not_true, Bool.false_eq_true, if_false, Sem.run_pure]
        exact eqA_run ih xs ys is b h w
      · rename_i h3
        cases b with
        | true => exact absurd h h3
        | false => simp only [ih _ _ _ _ h, Result.andThen_ok, Bool.not_false, if_true, Sem.run_pure, Bool.false_eq_true, if_false]
    · cases h
theorem eqV_run : ∀ (d : Nat) (t : TypeId) (x y : Value) (b : Bool), eqV P d t x y = some b → ∀ w, (Op.equalIn d t x y).run P w = .ok b w
  | 0, _, _, _, _, h, _ => by simp [eqV] at h
  | d + 1, t, x, y, b, h, w => by
    unfold eqV at h
    split at h
    · rename_i hu; cases h; exact run_equalIn_bool' w d t _ _ hu
    · rename_i hu
      split at h
      · rename_i hk; subst hk; cases h; exact run_equalIn_int w d t _ _ _ _ hu
      · cases h
    · rename_i hu; cases h; exact run_equalIn_string w d t _ _ hu
    · rename_i fs xs ys hu
      split at h
      · cases h
      · rename_i hp
        have hf : P.fieldsOf t = fs := by simp [Program.fieldsOf, hu]
        rw [run_equalIn_struct w d t xs ys (by rw [hf]; exact hu) (by simpa using hp), hf]
        exact eqF_run (eqV_run d) xs ys fs.toList b h w
    · rename_i len el xs ys hu
      split at h
      · rename_i i hi
        simp only [Op.equalIn, Sem.run_bind, run_underlying hu, Result.andThen_ok, sizeOf, typeInfo, run_program, hi, Sem.run_pure]
        have := eqA_run (eqV_run d) xs ys (List.range len) b h w
        rw [Std.Legacy.Range.forIn_eq_forIn_range']
        simp only [Std.Legacy.Range.size, Nat.sub_zero, Nat.add_sub_cancel, Nat.div_one]
        rw [← List.range_eq_range']
        erw [this]
        cases b <;> rfl
      · cases h
    · cases h

/-- What an operation hands back that turns nothing: it runs, and what comes of it stands for d. -/
def Gives (P : Program) (e : E) (m : Sem Value) (d : DV) : Prop := ∃ u, m.run P e.w = .ok u e.w ∧ ∀ s, RD e s d u

theorem scs_rcs {im : Addr → Prop} {w : World} : ∀ {cs : List CV} {us vs : List Value}, scs cs = some us → RCs im w cs vs → vs = us
  | [], us, _, h, .nil => by simp [scs] at h; exact h.symm
  | .sc v :: cs, us, _, h, .cons _ a b => by
    simp only [scs, Option.map_eq_some_iff] at h
    obtain ⟨us', h', rfl⟩ := h
    cases a
    rw [scs_rcs h' b]
  | .agg _ :: _, _, _, h, _ => by simp [scs] at h
  | .sl .. :: _, _, _, h, _ => by simp [scs] at h
theorem toV_rc {im : Addr → Prop} {w : World} {c : CV} {u v : Value} (h : toV c = some u) (r : RC im w c v) : v = u := by
  cases c with
  | sc x => simp [toV] at h; subst h; cases r; rfl
  | agg cs =>
    simp only [toV, Option.map_eq_some_iff] at h
    obtain ⟨us, hs, rfl⟩ := h
    cases r with
    | agg hr => rw [scs_rcs hs hr]
  | sl => simp [toV] at h

theorem eqGuard_ok {op : BinOp} {t : TypeId} {x y : Operand} {a b : Value} {w : World} (h : (∃ u v, a = .agg u ∧ b = .agg v) → P.eqGuardType P.depth t = false) (h2 : a ≠ .nilIface ∨ b ≠ .nilIface) :
    (eqGuard op t x y a b).run P w = .ok () w := by
  unfold eqGuard
  by_cases hop : op = .eql ∨ op = .neq
  · have : (!(match op with | .eql | .neq => true | _ => false)) = false := by rcases hop with rfl | rfl <;> rfl
    cases a <;> cases b <;> first
      | (rcases hop with rfl | rfl <;> simp_all; done)
      | (rcases hop with rfl | rfl <;> (have := h ⟨_, _, rfl, rfl⟩; simp [this]); done)
  · have : op ≠ .eql ∧ op ≠ .neq := by simpa [not_or] using hop
    cases op <;> simp_all

theorem eqV_shape {d : Nat} {t : TypeId} {x y : Value} {b : Bool} (h : eqV P d t x y = some b) :
    (∃ a c, x = .bool a ∧ y = .bool c) ∨ (∃ k a k' c, x = .int k a ∧ y = .int k' c) ∨ (∃ a c, x = .string a ∧ y = .string c) ∨ (∃ a c, x = .agg a ∧ y = .agg c) := by
  cases d with
  | zero => simp [eqV] at h
  | succ d =>
    unfold eqV at h
    split at h
    · exact .inl ⟨_, _, rfl, rfl⟩
    · exact .inr (.inl ⟨_, _, _, _, rfl, rfl⟩)
    · exact .inr (.inr (.inl ⟨_, _, rfl, rfl⟩))
    · exact .inr (.inr (.inr ⟨_, _, rfl, rfl⟩))
    · exact .inr (.inr (.inr ⟨_, _, rfl, rfl⟩))
    · cases h

theorem equal_slice1 {t el : TypeId} (hu : P.underlying t = some (.slice el)) (a : Option Addr) (n c : Nat) (w : World) : (Op.equal t (.slice a n c) (.slice none 0 0)).run P w = .ok a.isNone w := by
  have : ∀ d, (Op.equalIn (d + 1) t (.slice a n c) (.slice none 0 0)).run P w = .ok a.isNone w := fun d => by cases a <;> simp [Op.equalIn, run_underlying hu]
  exact this 9999
theorem equal_slice2 {t el : TypeId} (hu : P.underlying t = some (.slice el)) (a : Option Addr) (n c : Nat) (w : World) : (Op.equal t (.slice none 0 0) (.slice a n c)).run P w = .ok a.isNone w := by
  have : ∀ d, (Op.equalIn (d + 1) t (.slice none 0 0) (.slice a n c)).run P w = .ok a.isNone w := fun d => by simp [Op.equalIn, run_underlying hu]
  exact this 9999
theorem equal_ptr1 {t el : TypeId} (hu : P.underlying t = some (.pointer el)) (a : Addr) (w : World) : (Op.equal t (.pointer (some a)) (.pointer none)).run P w = .ok false w := by
  have : ∀ d, (Op.equalIn (d + 1) t (.pointer (some a)) (.pointer none)).run P w = .ok false w := fun d => by simp [Op.equalIn, run_underlying hu]
  exact this 9999
theorem equal_ptr2 {t el : TypeId} (hu : P.underlying t = some (.pointer el)) (a : Addr) (w : World) : (Op.equal t (.pointer none) (.pointer (some a))).run P w = .ok false w := by
  have : ∀ d, (Op.equalIn (d + 1) t (.pointer none) (.pointer (some a))).run P w = .ok false w := fun d => by simp [Op.equalIn, run_underlying hu]
  exact this 9999
theorem sl_isNone {im : Addr → Prop} {w : World} {nl x : Bool} {cs : List CV} {len : Nat} {v : Value} (r : RC im w (.sl nl x cs len) v) : ∃ a n c, v = .slice a n c ∧ a.isNone = nl := by
  cases r with
  | nil => exact ⟨_, _, _, rfl, rfl⟩
  | sl => exact ⟨_, _, _, rfl, rfl⟩
theorem sl_nil {im : Addr → Prop} {w : World} {x : Bool} {cs : List CV} {len : Nat} {v : Value} (r : RC im w (.sl true x cs len) v) : v = .slice none 0 0 ∧ cs = [] ∧ len = 0 := by
  cases r; exact ⟨rfl, rfl, rfl⟩

theorem eqD_run {t : TypeId} {x y : DV} {b : Bool} {u v : Value} {s s' : Addr → Prop} (h : eqD P t x y = some b) (r1 : RD e s x u) (r2 : RD e s' y v)
    (hi : ∀ k a k' c, x = .c (.sc (.int k a)) → y = .c (.sc (.int k' c)) → False) (hs : ∀ a c, x = .c (.sc (.string a)) → y = .c (.sc (.string c)) → False) (op : BinOp) (ox oy : Operand) :
    (eqGuard op t ox oy u v).run P e.w = .ok () e.w ∧ (binOp .eql t u v).run P e.w = .ok (.bool b) e.w ∧ (binOp .neq t u v).run P e.w = .ok (.bool !b) e.w := by
  unfold eqD at h
  split at h
  · split at h
    · rename_i el hu
      cases h
      cases r1 with
      | c r1 => cases r2 with
        | c r2 =>
          obtain ⟨rfl, _, _⟩ := sl_nil r2
          obtain ⟨a, n, c, rfl, rfl⟩ := sl_isNone r1
          exact ⟨eqGuard_ok (by rintro ⟨_, _, h, _⟩; cases h) (.inl (by simp)), by simp [binOp, equal_slice1 hu], by simp [binOp, equal_slice1 hu]⟩
    · cases h
  · split at h
    · rename_i el hu
      cases h
      cases r1 with
      | c r1 => cases r2 with
        | c r2 =>
          obtain ⟨rfl, _, _⟩ := sl_nil r1
          obtain ⟨a, n, c, rfl, rfl⟩ := sl_isNone r2
          exact ⟨eqGuard_ok (by rintro ⟨_, _, h, _⟩; cases h) (.inl (by simp)), by simp [binOp, equal_slice2 hu], by simp [binOp, equal_slice2 hu]⟩
    · cases h
  · split at h
    · rename_i el hu
      cases h
      cases r2 with
      | c r2 =>
        obtain ⟨rfl, _, _⟩ := sl_nil r2
        cases r1 with
        | ms => exact ⟨eqGuard_ok (by rintro ⟨_, _, h, _⟩; cases h) (.inl (by simp)), by simp [binOp, equal_slice1 hu], by simp [binOp, equal_slice1 hu]⟩
    · cases h
  · split at h
    · rename_i el hu
      cases h
      cases r1 with
      | c r1 =>
        obtain ⟨rfl, _, _⟩ := sl_nil r1
        cases r2 with
        | ms => exact ⟨eqGuard_ok (by rintro ⟨_, _, h, _⟩; cases h) (.inl (by simp)), by simp [binOp, equal_slice2 hu], by simp [binOp, equal_slice2 hu]⟩
    · cases h
  · split at h
    · rename_i el hu
      cases h
      cases r2 with
      | c r2 =>
        cases r2
        cases r1 with
        | pt => exact ⟨eqGuard_ok (by rintro ⟨_, _, h, _⟩; cases h) (.inl (by simp)), by simp [binOp, equal_ptr1 hu], by simp [binOp, equal_ptr1 hu]⟩
    · cases h
  · split at h
    · rename_i el hu
      cases h
      cases r1 with
      | c r1 =>
        cases r1
        cases r2 with
        | pt => exact ⟨eqGuard_ok (by rintro ⟨_, _, h, _⟩; cases h) (.inl (by simp)), by simp [binOp, equal_ptr2 hu], by simp [binOp, equal_ptr2 hu]⟩
    · cases h
  · rename_i a c _ _
    split at h
    · rename_i p q hp hq
      split at h
      · cases h
      · rename_i hg
        cases r1 with
        | c r1 => cases r2 with
          | c r2 =>
            rw [toV_rc hp r1, toV_rc hq r2]
            have he : (Op.equal t p q).run P e.w = .ok b e.w := eqV_run 10000 t p q b h e.w
            rcases eqV_shape h with ⟨a', c', rfl, rfl⟩ | ⟨k, a', k', c', rfl, rfl⟩ | ⟨a', c', rfl, rfl⟩ | ⟨a', c', rfl, rfl⟩
            · exact ⟨eqGuard_ok (by rintro ⟨_, _, h, _⟩; cases h) (.inl (by simp)), by simp [binOp, he], by simp [binOp, he]⟩
            · exfalso
              cases a <;> simp [toV] at hp
              cases c <;> simp [toV] at hq
              subst hp; subst hq
              exact hi _ _ _ _ rfl rfl
            · exfalso
              cases a <;> simp [toV] at hp
              cases c <;> simp [toV] at hq
              subst hp; subst hq
              exact hs _ _ rfl rfl
            · exact ⟨eqGuard_ok (fun _ => by simpa using hg) (.inl (by simp)), by simp [binOp, he], by simp [binOp, he]⟩
    · cases h
  · cases h

theorem binS_isSc {op : BinOp} {x y r : Value} (h : binS op x y = some r) : isSc r = true := by
  cases x with
  | int k a =>
    cases y with
    | int k' b =>
      cases op <;> simp only [binS] at h
      all_goals (split at h)
      all_goals (first | (cases h; done) | skip)
      all_goals (try (split at h))
      all_goals (first | (cases h; done) | skip)
      all_goals (cases h; rfl)
    | _ => cases op <;> simp [binS] at h
  | string a =>
    cases y with
    | string b =>
      cases op <;> simp only [binS] at h
      all_goals (try (split at h))
      all_goals (first | (cases h; done) | skip)
      all_goals (cases h; rfl)
    | _ => cases op <;> simp [binS] at h
  | _ => cases op <;> simp [binS] at h

theorem binD_run {op : BinOp} {t : TypeId} {x y d : DV} {u v : Value} {s s' : Addr → Prop} (h : binD P op t x y = some d) (r1 : RD e s x u) (r2 : RD e s' y v) (ox oy : Operand) :
    Gives P e (do eqGuard op t ox oy u v; binOp op t u v) d := by
  have sc : ∀ {p q : Value}, u = p → v = q → (eqGuard op t ox oy p q).run P e.w = .ok () e.w → (binS op p q).map (fun v => DV.c (.sc v)) = some d → Gives P e (do eqGuard op t ox oy u v; binOp op t u v) d := by
    rintro p q rfl rfl hg hd
    rw [Option.map_eq_some_iff] at hd
    obtain ⟨r, hr, rfl⟩ := hd
    exact ⟨r, by simp [hg, binS_run hr], fun s => .c (.sc (binS_isSc hr))⟩
  unfold binD at h
  split at h
  · cases r1 with
    | c r1 => cases r2 with
      | c r2 => cases r1; cases r2; exact sc rfl rfl (eqGuard_ok (by rintro ⟨_, _, h, _⟩; cases h) (.inl (by simp))) h
  · cases r1 with
    | c r1 => cases r2 with
      | c r2 => cases r1; cases r2; exact sc rfl rfl (eqGuard_ok (by rintro ⟨_, _, h, _⟩; cases h) (.inl (by simp))) h
  · rename_i x y h1 h2
    split at h
    · rw [Option.map_eq_some_iff] at h
      obtain ⟨b, hb, rfl⟩ := h
      obtain ⟨g1, g2, g3⟩ := eqD_run hb r1 r2 (fun k a k' c e1 e2 => h1 k a k' c e1 e2) (fun a c e1 e2 => h2 a c e1 e2) .eql ox oy
      exact ⟨.bool b, by simp [g1, g2], fun s => .c (.sc rfl)⟩
    · rw [Option.map_eq_some_iff] at h
      obtain ⟨b, hb, rfl⟩ := h
      obtain ⟨g1, g2, g3⟩ := eqD_run hb r1 r2 (fun k a k' c e1 e2 => h1 k a k' c e1 e2) (fun a c e1 e2 => h2 a c e1 e2) .neq ox oy
      exact ⟨.bool !b, by simp [g1, g3], fun s => .c (.sc rfl)⟩
    · cases h

theorem equal_er {t : TypeId} {ms : Array (String × TypeId)} (hu : P.underlying t = some (.interface ms)) {b : Bool} {u : Value} (h : erV b u) (w : World) : (Op.equal t u .nilIface).run P w = .ok (!b) w := by
  have : ∀ d, (Op.equalIn (d + 1) t u .nilIface).run P w = .ok (!b) w := fun d => by
    cases b with
    | true => obtain ⟨_, _, rfl⟩ := h; simp [Op.equalIn, run_underlying hu]
    | false => cases h; simp [Op.equalIn, run_underlying hu]
  exact this 9999
theorem binO_run {op : BinOp} {t : TypeId} {x y d : DV} {u v : Value} {s s' : Addr → Prop} (ox oy : Operand) (h : binO P op t oy x y = some d) (r1 : RD e s x u) (r2 : RD e s' y v) (hv : oy = .const .nilIface → v = .nilIface) :
    Gives P e (do eqGuard op t ox oy u v; binOp op t u v) d := by
  unfold binO at h
  split at h
  · rename_i b
    have hv := hv rfl
    subst hv
    cases r1 with
    | er r1 =>
      have hg : ∀ op, (eqGuard op t ox (.const .nilIface) u .nilIface).run P e.w = .ok () e.w := fun op => by
        unfold eqGuard
        cases b with
        | true => obtain ⟨_, _, rfl⟩ := r1; cases op <;> simp
        | false => cases r1; cases op <;> simp
      unfold erD at h
      split at h
      · rename_i ms hu
        cases h
        exact ⟨.bool !b, by simp [hg, binOp, equal_er hu r1], fun s => .c (.sc rfl)⟩
      · rename_i ms hu
        cases h
        exact ⟨.bool b, by simp [hg, binOp, equal_er hu r1], fun s => .c (.sc rfl)⟩
      · cases h
  · exact binD_run h r1 r2 ox oy

theorem unD_run {op : UnOp} {x d : DV} {u : Value} {s : Addr → Prop} (h : unD op x = some d) (r : RD e s x u) : Gives P e (Op.unary op u) d := by
  unfold unD at h
  split at h
  · cases h; cases r with
    | c r => cases r; exact ⟨_, by simp only [Op.unary]; rfl, fun s => .c (.sc rfl)⟩
  · cases h; cases r with
    | c r => cases r; exact ⟨_, by simp only [Op.unary, Op.intArith]; rfl, fun s => .c (.sc rfl)⟩
  · cases h

theorem convD_run {a b : TypeId} {x d : DV} {u : Value} {s : Addr → Prop} (h : convD P a b x = some d) (r : RD e s x u) : Gives P e (convert a b u) d := by
  unfold convD at h
  split at h
  · rename_i ta k _ n h1 h2
    cases h; cases r with
    | c r =>
      cases r
      exact ⟨_, by simp only [convert, Sem.run_bind, run_underlying h1, run_underlying h2, Result.andThen_ok]; rfl, fun s => .c (.sc rfl)⟩
  · rename_i st h1 h2
    cases h; cases r with
    | c r =>
      cases r
      exact ⟨_, by simp only [convert, Sem.run_bind, run_underlying h1, run_underlying h2, Result.andThen_ok]; rfl, fun s => .c (.sc rfl)⟩
  · cases h

end
end Go.Abs
