/-
  Abs30: how loops, calls, ranges over functions are put together from their parts; lists as cells.
-/
import Derived.Test.YtclnpjnodmfkcaaAbs29
set_option linter.unusedVariables false
set_option linter.unusedSimpArgs false
namespace Go.Abs
open Go

def sub : Code → List Nat → Code
  | c, [] => c
  | .seq a b, 0 :: p => sub a p
  | .seq a b, _ :: p => sub b p
  | .cond _ a b, 0 :: p => sub a p
  | .cond _ a b, _ :: p => sub b p
  | .block _ a, _ :: p => sub a p
  | .loop a, _ :: p => sub a p
  | .rangeFunc _ _ a b, 0 :: p => sub a p
  | .rangeFunc _ _ a b, 1 :: p => sub b p
  | .rangeFunc _ _ a b, _ :: p => .seq a b
  | c, _ => c

section
variable {X : Sys} {f nt : Nat} {Γ : List (Nat × Ctx)}

theorem Sys.go_seq {a b : Code} {s s1 s2 : S} {ex : Ex} (h1 : X.Go f nt Γ a s .normal s1) (h2 : X.Go f nt Γ b s1 ex s2) : X.Go f nt Γ (.seq a b) s ex s2 :=
  (Ev.and h1 h2).mono fun k h => by simp only [codeD, h.1, h.2]
theorem Sys.go_seq_out {a b : Code} {s s1 : S} {ex : Ex} (h1 : X.Go f nt Γ a s ex s1) (hx : ex ≠ .normal) : X.Go f nt Γ (.seq a b) s ex s1 :=
  Ev.mono h1 fun k h => by
    simp only [codeD, h]
    cases ex <;> first | rfl | exact absurd rfl hx
theorem Sys.go_block {a : Code} {s s1 : S} {ex : Ex} {id : Nat} (h1 : X.Go f nt Γ a s ex s1) : X.Go f nt Γ (.block id a) s (match ex with | .exit j => if j = id then .normal else .exit j | ex => ex) s1 :=
  Ev.mono h1 fun k h => by
    simp only [codeD, h]
    cases ex <;> rfl

/-! ### loops -/
theorem loopD_more {body : S → Option (Ex × S)} {l : Option (List Nat)} {m : Nat} {r : Ex × S} : ∀ {n n' : Nat} {s : S}, loopD body l m n s = some r → n ≤ n' → loopD body l m n' s = some r
  | 0, n', s, h, _ => by simp [loopD] at h
  | n + 1, 0, s, h, hle => by omega
  | n + 1, n' + 1, s, h, hle => by
    simp only [loopD] at h ⊢
    split at h
    · rename_i s' hb
      split at h
      · rename_i s'' hc
        exact loopD_more h (by omega)
      · cases h
    · rename_i hb
      exact h

/-- A loop's rounds from a state on; m: how long the store was at the loop's head. -/
def Sys.Loop (X : Sys) (f nt : Nat) (Γ : List (Nat × Ctx)) (a : Code) (m : Nat) (s : S) (ex : Ex) (s' : S) : Prop :=
  ∃ k0 n0, ∀ k, k0 ≤ k → ∀ n, n0 ≤ n → loopD (codeD X.P (X.ev k) X.an f nt Γ k a) (X.an.cut f (firstR a)) m n s = some (ex, s')
theorem Sys.Loop.go {a : Code} {s s' : S} {ex : Ex} (h : X.Loop f nt Γ a s.m.st.length s ex s') : X.Go f nt Γ (.loop a) s ex s' := by
  obtain ⟨k0, n0, h⟩ := h
  exact ⟨max k0 n0, fun k hk => h k (by omega) k (by omega)⟩
theorem Sys.Loop.step {a : Code} {m : Nat} {s s1 s2 s3 : S} {ex : Ex} (h1 : X.Go f nt Γ a s .normal s1) (hc : cutS (X.an.cut f (firstR a)) m s1 = some s2) (h2 : X.Loop f nt Γ a m s2 ex s3) : X.Loop f nt Γ a m s ex s3 := by
  obtain ⟨k1, h1⟩ := h1
  obtain ⟨k2, n2, h2⟩ := h2
  refine ⟨max k1 k2, n2 + 1, fun k hk n hn => ?_⟩
  cases n with
  | zero => omega
  | succ n =>
    simp only [loopD, h1 k (by omega), hc]
    exact h2 k (by omega) n (by omega)
theorem Sys.Loop.exit {a : Code} {m : Nat} {s s1 : S} {ex : Ex} (h1 : X.Go f nt Γ a s ex s1) (hx : ex ≠ .normal) : X.Loop f nt Γ a m s ex s1 := by
  obtain ⟨k1, h1⟩ := h1
  refine ⟨k1, 1, fun k hk n hn => ?_⟩
  cases n with
  | zero => omega
  | succ n =>
    simp only [loopD, h1 k hk]
    cases ex <;> first | rfl | exact absurd rfl hx

/-- A loop by what holds at its head, and something that grows less. -/
theorem Sys.loop_inv {σ : Type} {a : Code} {m : Nat} (F : σ → S) (I : σ → Prop) (μ : σ → Nat) (Q : Ex → S → Prop)
    (h : ∀ x, I x → (∃ s1 y, X.Go f nt Γ a (F x) .normal s1 ∧ cutS (X.an.cut f (firstR a)) m s1 = some (F y) ∧ I y ∧ μ y < μ x) ∨ (∃ ex s1, X.Go f nt Γ a (F x) ex s1 ∧ ex ≠ .normal ∧ Q ex s1)) :
    ∀ (n : Nat) (x : σ), I x → μ x < n → ∃ ex s', X.Loop f nt Γ a m (F x) ex s' ∧ ex ≠ .normal ∧ Q ex s'
  | 0, x, _, hn => by omega
  | n + 1, x, hx, hn => by
    rcases h x hx with ⟨s1, y, h1, h2, h3, h4⟩ | ⟨ex, s1, h1, h2, h3⟩
    · obtain ⟨ex, s', h5, h6⟩ := Sys.loop_inv F I μ Q h n y h3 (by omega)
      exact ⟨ex, s', .step h1 h2 h5, h6⟩
    · exact ⟨ex, s1, .exit h1 h2, h2, h3⟩
theorem Sys.loop_go {σ : Type} {a : Code} {m : Nat} (F : σ → S) (I : σ → Prop) (μ : σ → Nat) (Q : Ex → S → Prop)
    (h : ∀ x, I x → (∃ s1 y, X.Go f nt Γ a (F x) .normal s1 ∧ cutS (X.an.cut f (firstR a)) m s1 = some (F y) ∧ I y ∧ μ y < μ x) ∨ (∃ ex s1, X.Go f nt Γ a (F x) ex s1 ∧ ex ≠ .normal ∧ Q ex s1))
    (x : σ) (hx : I x) (hm : m = (F x).m.st.length) : ∃ ex s', X.Go f nt Γ (.loop a) (F x) ex s' ∧ ex ≠ .normal ∧ Q ex s' := by
  obtain ⟨ex, s', h1, h2⟩ := Sys.loop_inv F I μ Q h (μ x + 1) x hx (by omega)
  subst hm
  exact ⟨ex, s', h1.go, h2⟩
end

/-! ### calls -/
section
variable {X : Sys} {Γ : List (Nat × Ctx)}
def exN : Ex → Bool
  | .normal => true
  | _ => false
def isExit : Ex → Bool
  | .exit _ => true
  | _ => false
theorem Sys.call {f : FuncId} {fn : Func} {c : Code} {args : List DV} {m m' : M} {ex : Ex} {s : S} {d : DV} (hg : X.Go f fn.ntmps Γ c ⟨argFr args, m⟩ ex s) (hf : X.P.funcs[f]? = some fn) (hb : fn.body = some c) (hx : isExit ex = false)
    (hr : (resD X.P s fn.results.toList).map resOne = some d) (hm : s.m = m') : X.Runs Γ f args m d m' := by
  subst hm
  refine Ev.succ (Ev.mono hg fun k h => ?_)
  show callF X.P X.an (X.ev k) k Γ f args m = _
  simp only [callF, hf, hb, h]
  cases ex with
  | exit _ => cases hx
  | normal =>
    simp only
    rw [Option.map_eq_some_iff] at hr ⊢
    obtain ⟨ds, h1, h2⟩ := hr
    exact ⟨ds, h1, by rw [h2]⟩
  | ret =>
    simp only
    rw [Option.map_eq_some_iff] at hr ⊢
    obtain ⟨ds, h1, h2⟩ := hr
    exact ⟨ds, h1, by rw [h2]⟩
theorem Sys.callC {f : FuncId} {args : List DV} {d d' : DV} {m : M} (h : X.Runs [] f args ⟨[], []⟩ d' m) (hc : closeTop m.st d' = some d) : X.RunsC f args d := ⟨d', m, h, hc⟩

/-- A round of a range over a function. -/
theorem Sys.round {j : Nat} {x : Ctx} {args : List DV} {m m' : M} {ex : Ex} {s : S} {b : Bool} (hc : ctxOf Γ j = some x) (hn : args.length = x.params.size) (hp : m.pd[j]? = some .normal) (ht : (x.params.toList.all fun t => t < x.nt) = true)
    (ha : (match x.assign with | .region _ _ _ => true | .skip => true | _ => false) = true) (hg : X.Go x.f x.nt (without Γ j) (.seq x.assign x.body) ⟨setPs x.fr (x.params.toList.zip args), m⟩ ex s) (hb : exN ex = b) (hm : { s.m with pd := s.m.pd.set j ex } = m') :
    X.Round Γ j args m (dB b) m' := by
  subst hm
  subst hb
  refine Ev.succ (Ev.mono hg fun k h => ?_)
  show roundF X.P X.an (X.ev k) k Γ j args m = _
  simp only [roundF, hc]
  rw [if_neg (by simp only [hn, hp, ht]; simp)]
  simp only [codeD] at h
  have hr : (∃ s1, codeD X.P (X.ev k) X.an x.f x.nt (without Γ j) k x.assign ⟨setPs x.fr (x.params.toList.zip args), m⟩ = some (.normal, s1)) ∨ codeD X.P (X.ev k) X.an x.f x.nt (without Γ j) k x.assign ⟨setPs x.fr (x.params.toList.zip args), m⟩ = none := by
    split at ha
    · rename_i r o d hass
      rw [hass]
      simp only [codeD]
      cases regionD X.P (X.ev k) X.an x.f x.nt (without Γ j) r o d ⟨setPs x.fr (x.params.toList.zip args), m⟩ with
      | none => exact .inr rfl
      | some s1 => exact .inl ⟨s1, rfl⟩
    · rename_i hass
      rw [hass]
      exact .inl ⟨_, rfl⟩
    · cases ha
  rcases hr with ⟨s1, hr⟩ | hr
  · rw [hr] at h
    simp only at h
    simp only [hr, h]
    cases ex <;> rfl
  · rw [hr] at h
    cases h

/-- A range over a function. -/
theorem Sys.range {f nt : Nat} {g : Operand} {ps : Array Tmp} {as body : Code} {s : S} {h : FuncId} {xs ys : List DV} {d : DV} {m' : M} {e : Ex} (hg : Abs.ev s.fr g = .fn h xs ys) (he : enters X.P h = true)
    (hr : X.Runs ((s.m.pd.length, { f, nt, fr := fun t => unflag (s.fr t), params := ps, assign := as, body }) :: Γ) h (xs ++ [.yl s.m.pd.length] ++ ys) { s.m with pd := s.m.pd ++ [.normal] } d m')
    (hp : m'.pd[s.m.pd.length]? = some e) (hc : X.an.cut f (firstR body) = none) : X.Go f nt Γ (.rangeFunc g ps as body) s e ⟨s.fr, m'⟩ := by
  refine Ev.mono hr fun k hk => ?_
  simp only [codeD, hg]
  rw [if_neg (by simp [he])]
  simp only [hk, hp, hc]
end

theorem without_head {j : Nat} {x : Ctx} {Γ : List (Nat × Ctx)} (h : ∀ y ∈ Γ, y.1 ≠ j) : without ((j, x) :: Γ) j = Γ := by
  unfold without
  rw [List.filter_cons, if_neg (by simp)]
  exact List.filter_eq_self.2 fun y hy => by simp [h y hy]
theorem ctxOf_head {j : Nat} {x : Ctx} {Γ : List (Nat × Ctx)} : ctxOf ((j, x) :: Γ) j = some x := by simp [ctxOf]

section
variable {X : Sys} {Γ : List (Nat × Ctx)} {f nt : Nat} {ps : Array Tmp} {asg body : Code} {fr : Nat → DV}
def rctx (f nt : Nat) (fr : Nat → DV) (ps : Array Tmp) (asg body : Code) : Ctx := { f, nt, fr := fun t => unflag (fr t), params := ps, assign := asg, body }
theorem Sys.range1 {c : Code} {g : Operand} {h : FuncId} {xs ys : List DV} {d : DV} {e : Ex} {st st' : List Ob} {pd pd' : List Ex} (hcode : c = .rangeFunc g ps asg body) (hg : Abs.ev fr g = .fn h xs ys) (he : enters X.P h = true)
    (hr : X.Runs ((pd.length, rctx f nt fr ps asg body) :: Γ) h (xs ++ [.yl pd.length] ++ ys) ⟨st, pd ++ [.normal]⟩ d ⟨st', pd'⟩)
    (hp : pd'[pd.length]? = some e) (hc : X.an.cut f (firstR body) = none) : X.Go f nt Γ c ⟨fr, ⟨st, pd⟩⟩ e ⟨fr, ⟨st', pd'⟩⟩ := by
  subst hcode
  exact Sys.range (s := ⟨fr, ⟨st, pd⟩⟩) hg he hr hp hc
theorem Sys.round1 {j : Nat} {args : List DV} {st st' : List Ob} {pd pd' : List Ex} {ex : Ex} {fr' : Nat → DV} {b : Bool} (hΓ : ∀ y ∈ Γ, y.1 ≠ j) (hn : args.length = ps.size) (hp : pd[j]? = some .normal) (ht : (ps.toList.all fun t => t < nt) = true)
    (ha : (match asg with | .region _ _ _ => true | .skip => true | _ => false) = true) (hg : X.Go f nt Γ (.seq asg body) ⟨setPs (fun t => unflag (fr t)) (ps.toList.zip args), ⟨st, pd⟩⟩ ex ⟨fr', ⟨st', pd'⟩⟩) (hb : exN ex = b) :
    X.Round ((j, rctx f nt fr ps asg body) :: Γ) j args ⟨st, pd⟩ (dB b) ⟨st', pd'.set j ex⟩ :=
  Sys.round (x := rctx f nt fr ps asg body) ctxOf_head hn hp ht ha (by rw [without_head hΓ]; exact hg) hb rfl
theorem set_same {α : Type} {l : List α} {j : Nat} {x : α} (h : l[j]? = some x) : l.set j x = l := by
  refine List.ext_getElem? fun i => ?_
  rw [List.getElem?_set]
  split
  · rename_i hij; subst hij
    have := (List.getElem?_eq_some_iff.1 h).1
    rw [if_pos this, h]
  · rfl
end

/-! ### lists as cells -/
class Enc (α : Type) where
  sz : Nat
  enc : α → List CV
  len : ∀ a, (enc a).length = sz
open Enc
def cells {α : Type} [Enc α] (l : List α) : List CV := l.flatMap enc
def dcells {α : Type} [Enc α] (l : List α) : List DV := (cells l).map .c
/-- A slice that nobody writes. -/
structure Sl (α : Type) where
  nl : Bool
  x : Bool
  l : List α
  ok : nl = true → x = true ∧ l = []
def eSl {α : Type} [Enc α] (s : Sl α) : CV := .sl s.nl s.x (cells s.l) s.l.length
instance : Enc Int := ⟨1, fun n => [cInt n], fun _ => rfl⟩
instance : Enc Bool := ⟨1, fun b => [.sc (.bool b)], fun _ => rfl⟩
instance : Enc ByteArray := ⟨1, fun b => [.sc (.string b)], fun _ => rfl⟩
instance {α : Type} [Enc α] : Enc (Sl α) := ⟨1, fun s => [eSl s], fun _ => rfl⟩

section
variable {α : Type} [Enc α]
omit [Enc α] in
theorem Sl.empty (s : Sl α) (h : s.nl = true) : s.l.length = 0 := by rw [(s.ok h).2]; rfl
theorem cells_cons (a : α) (l : List α) : cells (a :: l) = enc a ++ cells l := rfl
theorem cells_append (l l' : List α) : cells (l ++ l') = cells l ++ cells l' := by simp [cells]
theorem cells_length (l : List α) : (cells l).length = l.length * sz α := by
  induction l with
  | nil => simp [cells]
  | cons a l ih => rw [cells_cons, List.length_append, ih, len, List.length_cons]; rw [Nat.add_mul]; omega
theorem dcells_length (l : List α) : (dcells l).length = l.length * sz α := by simp [dcells, cells_length]
theorem cells_drop : ∀ {l : List α} {i : Nat} {a : α}, l[i]? = some a → ∃ r, (cells l).drop (i * sz α) = enc a ++ r
  | [], i, a, h => by simp at h
  | b :: l, 0, a, h => by
    simp at h; subst h
    exact ⟨cells l, by simp [cells_cons]⟩
  | b :: l, i + 1, a, h => by
    obtain ⟨r, hr⟩ := cells_drop (l := l) (i := i) (a := a) (by simpa using h)
    refine ⟨r, ?_⟩
    rw [cells_cons, show (i + 1) * sz α = (enc b).length + i * sz α by rw [len, Nat.add_mul]; omega, ← List.drop_drop, List.drop_left, hr]
theorem cell_at {l : List α} {i : Nat} {a : α} {c : CV} (fo : Nat) (hc : (enc a)[fo]? = some c) (h : l[i]? = some a) : (cells l)[i * sz α + fo]? = some c := by
  obtain ⟨r, hr⟩ := cells_drop h
  rw [← List.getElem?_drop, hr, List.getElem?_append_left ((List.getElem?_eq_some_iff.1 hc).1), hc]
theorem span_at {l : List α} {i : Nat} {a : α} (fo k : Nat) (hk : fo + k ≤ sz α) (h : l[i]? = some a) : span (cells l) (i * sz α + fo) k = some (((enc a).drop fo).take k) := by
  have hi : i < l.length := (List.getElem?_eq_some_iff.1 h).1
  have hle : (i + 1) * sz α ≤ l.length * sz α := Nat.mul_le_mul_right _ hi
  rw [Nat.add_mul] at hle
  obtain ⟨r, hr⟩ := cells_drop h
  unfold span
  rw [if_pos (by rw [cells_length]; omega), ← List.drop_drop, hr, List.drop_append_of_le_length (by rw [len]; omega), List.take_append_of_le_length (by rw [List.length_drop, len]; omega)]
theorem dcell_at {l : List α} {i : Nat} {a : α} {c : CV} (fo : Nat) (hc : (enc a)[fo]? = some c) (h : l[i]? = some a) : (dcells l)[i * sz α + fo]? = some (.c c) := by
  unfold dcells
  rw [List.getElem?_map, cell_at fo hc h]; rfl
theorem span_map {l : List CV} {off k : Nat} {r : List CV} (h : span l off k = some r) : span (l.map DV.c) off k = some (r.map .c) := by
  unfold span at h ⊢
  split at h
  · rename_i hle
    cases h
    rw [if_pos (by simpa using hle)]
    simp
  · cases h
theorem dspan_at {l : List α} {i : Nat} {a : α} (fo k : Nat) (hk : fo + k ≤ sz α) (h : l[i]? = some a) : span (dcells l) (i * sz α + fo) k = some ((((enc a).drop fo).take k).map .c) := span_map (span_at fo k hk h)

theorem setL_length {β : Type} : ∀ (vs l : List β) (off : Nat), (setL l off vs).length = l.length
  | [], l, off => rfl
  | v :: vs, l, off => by simp [setL, setL_length vs]
theorem setL_append_right {β : Type} : ∀ (vs p l : List β) (off : Nat), setL (p ++ l) (p.length + off) vs = p ++ setL l off vs
  | [], p, l, off => rfl
  | v :: vs, p, l, off => by
    simp only [setL]
    have e : (p ++ l).set (p.length + off) v = p ++ l.set off v := by rw [List.set_append, if_neg (by omega), show p.length + off - p.length = off by omega]
    rw [e, show p.length + off + 1 = p.length + (off + 1) by omega, setL_append_right vs]
theorem setL_append_left {β : Type} : ∀ (vs p l : List β) (off : Nat), off + vs.length ≤ p.length → setL (p ++ l) off vs = setL p off vs ++ l
  | [], p, l, off, _ => rfl
  | v :: vs, p, l, off, h => by
    simp only [List.length_cons] at h
    simp only [setL]
    have e : (p ++ l).set off v = p.set off v ++ l := by rw [List.set_append, if_pos (by omega)]
    rw [e, setL_append_left vs _ l (off + 1) (by simp; omega)]
/-- An element's cells are written. -/
theorem dset_at {a a' : α} (fo : Nat) (vs : List DV) (hv : setL ((enc a).map DV.c) fo vs = (enc a').map DV.c) (hl : fo + vs.length ≤ sz α) : ∀ {l : List α} {i : Nat}, l[i]? = some a → setL (dcells l) (i * sz α + fo) vs = dcells (l.set i a')
  | [], i, h => by simp at h
  | b :: l, 0, h => by
    simp at h; subst h
    simp only [dcells, cells_cons, List.map_append, Nat.zero_mul, Nat.zero_add, List.set_cons_zero]
    rw [setL_append_left _ _ _ _ (by simp [len, hl]), hv]
  | b :: l, i + 1, h => by
    have ih := dset_at fo vs hv hl (l := l) (i := i) (by simpa using h)
    simp only [dcells, cells_cons, List.map_append, List.set_cons_succ] at ih ⊢
    rw [show (i + 1) * sz α + fo = ((enc b).map DV.c).length + (i * sz α + fo) by rw [List.length_map, len, Nat.add_mul]; omega, setL_append_right, ih]
theorem replD_cells {a : α} (n : Nat) (z : List DV) (h : z = (enc a).map DV.c) : replD n z = dcells (List.replicate n a) := by
  subst h
  unfold replD dcells cells
  induction n with
  | zero => rfl
  | succ n ih => simp [List.replicate_succ, ih]
theorem dcells_append (l l' : List α) : dcells (l ++ l') = dcells l ++ dcells l' := by simp [dcells, cells_append]
theorem span_pre {β : Type} (l r : List β) : span (l ++ r) 0 l.length = some l := by
  unfold span
  rw [if_pos (by simp)]; simp
theorem closeList_map (n : Nat) (st : List Ob) : ∀ cs : List CV, closeList (closeD (n + 1) st) (cs.map .c) = some cs
  | [] => rfl
  | c :: cs => by simp only [List.map_cons, closeList, closeList_map n st cs, closeD]
/-- A slice of an object of the callee's, handed back. -/
theorem closeTop_ms {st : List Ob} {id ver esz : Nat} {x : Bool} {l : List α} {r : List DV} {o : Ob} (ho : getO st id ver = some o) (hcs : o.cs = dcells l ++ r) (hz : esz = sz α) : closeTop st (.ms id ver 0 l.length esz x) = some (.c (.sl false x (cells l) l.length)) := by
  subst hz
  have hs : span o.cs 0 (l.length * sz α) = some (dcells l) := by rw [hcs, ← dcells_length]; exact span_pre _ _
  simp only [closeTop, closeD, ho, hs, Option.bind_some]
  unfold dcells
  rw [closeList_map]; rfl

theorem closeTop_msn {st : List Ob} {id ver esz n : Nat} {x : Bool} {l : List α} {r : List DV} {o : Ob} (hn : l.length = n) (ho : getO st id ver = some o) (hcs : o.cs = dcells l ++ r) (hz : esz = sz α) : closeTop st (.ms id ver 0 n esz x) = some (.c (.sl false x (cells l) l.length)) := by
  subst hn; exact closeTop_ms ho hcs hz
theorem map_unflag (cs : List CV) : (cs.map DV.c).map unflag = cs.map DV.c := by simp [unflag, Function.comp_def]

def Sl.nil : Sl α := ⟨true, true, [], fun _ => ⟨rfl, rfl⟩⟩
def Sl.of (x : Bool) (l : List α) : Sl α := ⟨false, x, l, fun h => nomatch h⟩

/-! ### what is told, and why it is so -/
omit [Enc α] in
theorem boolOut {b v : Bool} (h : b = v) : (some ({ d := dB b } : Out)) = some { d := dB v } := by rw [h]
theorem noNil {n : Nat} (h : false = true) : n = 0 := nomatch h
theorem cell_atB {l : List α} {i : Nat} {a : α} {b v : Bool} (fo : Nat) (hc : (enc a)[fo]? = some (.sc (.bool b))) (h : l[i]? = some a) (hb : b = v) : (cells l)[i * sz α + fo]? = some (.sc (.bool v)) := by rw [← hb]; exact cell_at fo hc h
/-! objects' elements lie from the object's start on -/
theorem dcell_at' {l : List α} {i : Nat} {a : α} {c : CV} (fo : Nat) (hc : (enc a)[fo]? = some c) (h : l[i]? = some a) : (dcells l)[0 + i * sz α + fo]? = some (.c c) := by rw [Nat.zero_add]; exact dcell_at fo hc h
theorem dcell_atB {l : List α} {i : Nat} {a : α} {b v : Bool} (fo : Nat) (hc : (enc a)[fo]? = some (.sc (.bool b))) (h : l[i]? = some a) (hb : b = v) : (dcells l)[0 + i * sz α + fo]? = some (dB v) := by rw [← hb]; exact dcell_at' fo hc h
theorem dspan_at' {l : List α} {i : Nat} {a : α} (fo k : Nat) (hk : fo + k ≤ sz α) (h : l[i]? = some a) : span (dcells l) (0 + i * sz α + fo) k = some ((((enc a).drop fo).take k).map .c) := by rw [Nat.zero_add]; exact dspan_at fo k hk h
theorem dcell_atr {l : List α} {r : List DV} {i : Nat} {a : α} {c : CV} (fo : Nat) (hc : (enc a)[fo]? = some c) (h : l[i]? = some a) : (dcells l ++ r)[0 + i * sz α + fo]? = some (.c c) := by
  have := dcell_at' fo hc h
  rw [List.getElem?_append_left ((List.getElem?_eq_some_iff.1 this).1)]; exact this
theorem dcell_atBr {l : List α} {r : List DV} {i : Nat} {a : α} {b v : Bool} (fo : Nat) (hc : (enc a)[fo]? = some (.sc (.bool b))) (h : l[i]? = some a) (hb : b = v) : (dcells l ++ r)[0 + i * sz α + fo]? = some (dB v) := by rw [← hb]; exact dcell_atr fo hc h
theorem span_left {β : Type} {l r x : List β} {off k : Nat} (h : span l off k = some x) : span (l ++ r) off k = some x := by
  unfold span at h ⊢
  split at h
  · rename_i hle
    rw [if_pos (by simp; omega), List.drop_append_of_le_length (by omega), List.take_append_of_le_length (by simp; omega)]; exact h
  · cases h
theorem dspan_atr {l : List α} {r : List DV} {i : Nat} {a : α} (fo k : Nat) (hk : fo + k ≤ sz α) (h : l[i]? = some a) : span (dcells l ++ r) (0 + i * sz α + fo) k = some ((((enc a).drop fo).take k).map .c) := span_left (dspan_at' fo k hk h)
theorem in_cells {l : List α} {i fo k : Nat} (h : i < l.length) (hk : fo + k ≤ sz α) : 0 + i * sz α + fo + k ≤ (dcells l).length := by
  rw [dcells_length]
  have : (i + 1) * sz α ≤ l.length * sz α := Nat.mul_le_mul_right _ h
  rw [Nat.add_mul] at this; omega
theorem dst_part {l : List α} {i : Nat} {a : α} (fo : Nat) (vs : List DV) (a' : α) (h : l[i]? = some a) (hv : setL ((enc a).map DV.c) fo vs = (enc a').map DV.c) (hl : fo + vs.length ≤ sz α) :
    0 + i * sz α + fo + vs.length ≤ (dcells l).length ∧ setL (dcells l) (0 + i * sz α + fo) vs = dcells (l.set i a') :=
  ⟨in_cells (List.getElem?_eq_some_iff.1 h).1 hl, by rw [Nat.zero_add]; exact dset_at fo vs hv hl h⟩
theorem dst_partr {l : List α} {i : Nat} {a : α} (fo : Nat) (vs : List DV) (a' : α) (r : List DV) (h : l[i]? = some a) (hv : setL ((enc a).map DV.c) fo vs = (enc a').map DV.c) (hl : fo + vs.length ≤ sz α) :
    0 + i * sz α + fo + vs.length ≤ (dcells l ++ r).length ∧ setL (dcells l ++ r) (0 + i * sz α + fo) vs = dcells (l.set i a') ++ r := by
  obtain ⟨h1, h2⟩ := dst_part fo vs a' h hv hl
  refine ⟨by rw [List.length_append]; omega, ?_⟩
  rw [setL_append_left _ _ _ _ h1, h2]
theorem setL_full {β : Type} : ∀ (l r : List β), r.length = l.length → setL l 0 r = r := by
  have key : ∀ (r p l : List β), r.length = l.length → setL (p ++ l) p.length r = p ++ r := by
    intro r
    induction r with
    | nil => intro p l h; cases l with | nil => rfl | cons _ _ => simp at h
    | cons x r ih =>
      intro p l h
      cases l with
      | nil => simp at h
      | cons y l =>
        simp only [setL]
        have e : (p ++ y :: l).set p.length x = (p ++ [x]) ++ l := by rw [List.set_append, if_neg (by omega)]; simp
        rw [e, show p.length + 1 = (p ++ [x]).length by simp, ih (p ++ [x]) l (by simpa using h)]
        simp
  intro l r h
  exact key r [] l h
theorem dst_all {l : List α} {i : Int} (a' : α) (h : 0 ≤ i ∧ i < (l.length : Int)) : 0 + i.toNat * sz α + ((enc a').map DV.c).length ≤ (dcells l).length ∧ setL (dcells l) (0 + i.toNat * sz α) ((enc a').map DV.c) = dcells (l.set i.toNat a') := by
  have hi : i.toNat < l.length := by omega
  have hg : l[i.toNat]? = some l[i.toNat] := List.getElem?_eq_getElem hi
  have := dst_part 0 ((enc a').map DV.c) a' hg (setL_full _ _ (by simp [len])) (by simp [len])
  exact this
theorem dst_allr {l : List α} {i : Int} (a' : α) (r : List DV) (h : 0 ≤ i ∧ i < (l.length : Int)) : 0 + i.toNat * sz α + ((enc a').map DV.c).length ≤ (dcells l ++ r).length ∧ setL (dcells l ++ r) (0 + i.toNat * sz α) ((enc a').map DV.c) = dcells (l.set i.toNat a') ++ r := by
  have hi : i.toNat < l.length := by omega
  have hg : l[i.toNat]? = some l[i.toNat] := List.getElem?_eq_getElem hi
  have := dst_partr 0 ((enc a').map DV.c) a' r hg (setL_full _ _ (by simp [len])) (by simp [len])
  exact this
omit [Enc α] in
theorem wrap_in {n : Int} (h : -9223372036854775808 ≤ n ∧ n ≤ 9223372036854775807) : IntKind.i64.wrap n = n := by rw [IntKind.wrap_i64]; omega
theorem conv_i64 {n : Int} (h : -9223372036854775808 ≤ n ∧ n ≤ 9223372036854775807) : some ({ d := .c (.sc (.int .i64 (IntKind.i64.wrap n))) } : Out) = some { d := dInt n } := by rw [wrap_in h]; rfl
theorem str_eql_true {a b : ByteArray} (h : a = b) : some ({ d := .c (.sc (.bool (a.toList == b.toList))) } : Out) = some { d := dB true } := by subst h; simp [dB]
theorem bytes_ext {a b : ByteArray} (h : a.toList = b.toList) : a = b := by
  have h' : a.data.toList = b.data.toList := by rw [← ByteArray.toList_eq, ← ByteArray.toList_eq, h]
  cases a; cases b
  simp only [ByteArray.mk.injEq] at h' ⊢
  exact Array.toList_inj.1 h'
theorem str_eql_false {a b : ByteArray} (h : a ≠ b) : some ({ d := .c (.sc (.bool (a.toList == b.toList))) } : Out) = some { d := dB false } := by
  have : (a.toList == b.toList) = false := by
    rw [beq_eq_false_iff_ne]
    exact fun hh => h (bytes_ext hh)
  rw [this]; rfl
theorem str_neq_true {a b : ByteArray} (h : a ≠ b) : some ({ d := .c (.sc (.bool !(a.toList == b.toList))) } : Out) = some { d := dB true } := by
  have : (a.toList == b.toList) = false := by
    rw [beq_eq_false_iff_ne]
    exact fun hh => h (bytes_ext hh)
  rw [this]; rfl
theorem str_neq_false {a b : ByteArray} (h : a = b) : some ({ d := .c (.sc (.bool !(a.toList == b.toList))) } : Out) = some { d := dB false } := by subst h; simp [dB]
theorem mk_ok (z : α) {b n : Nat} (h : b * n ≤ 281474976710656 ∧ n ≤ 9223372036854775807) : (0 ≤ (n : Int) ∧ (n : Int) ≤ (n : Int) ∧ (n : Int) ≤ 9223372036854775807 ∧ (b : Int) * (n : Int) ≤ 281474976710656) ∧ replD n ((enc z).map DV.c) = dcells (List.replicate n z) ∧ ((n : Int) == (n : Int)) = true := by
  refine ⟨⟨by omega, by omega, by omega, ?_⟩, replD_cells n _ rfl, by simp⟩
  have h1 := h.1
  have : ((b * n : Nat) : Int) ≤ 281474976710656 := by omega
  simpa using this
theorem roomy_ok {n b : Nat} (hb : 1 ≤ b) (h : n * b ≤ 140737488355328) : roomy n b = true := by
  have : n * 1 ≤ n * b := Nat.mul_le_mul_left _ hb
  simp [roomy]; omega
theorem app_ok (l l' : List α) {b : Nat} (hb : 1 ≤ b) (h : (l ++ l').length * b ≤ 140737488355328) :
    (((cells l').length = l'.length * sz α ∧ (cells l).length = l.length * sz α) ∧ roomy (l ++ l').length b = true) ∧ cells l ++ cells l' = cells (l ++ l') ∧ l.length + l'.length = (l ++ l').length :=
  ⟨⟨⟨cells_length _, cells_length _⟩, roomy_ok hb h⟩, (cells_append _ _).symm, by simp⟩
theorem app_first (l' : List α) (h0 : l' ≠ []) {b : Nat} (hb : 1 ≤ b) (h : l'.length * b ≤ 140737488355328) :
    l'.length ≠ 0 ∧ (((cells l').length = l'.length * sz α ∧ (cells ([] : List α)).length = ([] : List α).length * sz α) ∧ roomy l'.length b = true) ∧ cells ([] : List α) ++ cells l' = cells l' ∧ ([] : List α).length + l'.length = l'.length := by
  refine ⟨fun hh => h0 (List.length_eq_zero_iff.1 hh), ⟨⟨cells_length _, by simp [cells]⟩, roomy_ok hb h⟩, by simp [cells], by simp⟩
theorem app_none {l : List α} (h : l = []) : cells l = [] ∧ l.length = 0 ∧ roomy 0 8 = true := by subst h; exact ⟨rfl, rfl, by decide⟩
theorem appO_ok (l l' : List α) {b : Nat} (hb : 1 ≤ b) (h0 : l' ≠ []) (h : (l ++ l').length * b ≤ 140737488355328) :
    ((cells l').length = l'.length * sz α ∧ l'.length ≠ 0 ∧ roomy (l ++ l').length b = true) ∧ (span (dcells l) 0 (l.length * sz α)).map (fun old => old ++ (cells l').map DV.c) = some (dcells (l ++ l')) ∧ l.length + l'.length = (l ++ l').length := by
  refine ⟨⟨cells_length _, fun hh => h0 (List.length_eq_zero_iff.1 hh), roomy_ok hb h⟩, ?_, by simp⟩
  have := span_pre (dcells l) []
  rw [List.append_nil, dcells_length] at this
  rw [this, dcells_append]; rfl
theorem appO_okr (l l' : List α) (r : List DV) {b : Nat} (hb : 1 ≤ b) (h0 : l' ≠ []) (h : (l ++ l').length * b ≤ 140737488355328) :
    ((cells l').length = l'.length * sz α ∧ l'.length ≠ 0 ∧ roomy (l ++ l').length b = true) ∧ (span (dcells l ++ r) 0 (l.length * sz α)).map (fun old => old ++ (cells l').map DV.c) = some (dcells (l ++ l')) ∧ l.length + l'.length = (l ++ l').length := by
  refine ⟨⟨cells_length _, fun hh => h0 (List.length_eq_zero_iff.1 hh), roomy_ok hb h⟩, ?_, by simp⟩
  have := span_pre (dcells l) r
  rw [dcells_length] at this
  rw [this, dcells_append]; rfl
omit [Enc α] in
theorem slc_hi {len : Nat} {h : Int} (hh : 0 ≤ h ∧ h ≤ (len : Int)) : boundsD len none (some (dInt h)) none = some (0, h.toNat, none) := by
  simp only [boundsD, intD, dInt, cInt, Option.bind_some, Option.getD_none]
  rw [if_pos hh]; simp
omit [Enc α] in
theorem slc_lo {len : Nat} {l : Int} (hh : 0 ≤ l ∧ l ≤ (len : Int)) : boundsD len (some (dInt l)) none none = some (l.toNat, len, none) := by
  simp only [boundsD, intD, dInt, cInt, Option.bind_some]
  rw [if_pos hh]; simp
omit [Enc α] in
theorem slc_both {len : Nat} {l h : Int} (h1 : 0 ≤ h ∧ h ≤ (len : Int)) (h2 : 0 ≤ l ∧ l ≤ h) : boundsD len (some (dInt l)) (some (dInt h)) none = some (l.toNat, h.toNat, none) := by
  simp only [boundsD, intD, dInt, cInt, Option.bind_some, Option.getD_none]
  rw [if_pos h1]
  simp only
  rw [if_pos (by omega)]; simp
end

theorem load_get {P : Program} {st : List Ob} {t : TypeId} {id ver off : Nat} {o : Ob} {d : DV} (h : getO st id ver = some o) (hd : part1 P t o.cs off = some d) : val (loadD P st t (.pt id ver off)) = some { d := d } := by
  simp only [loadD, h, hd, val, Option.map_some]
theorem below_cells (n : Nat) : ∀ cs : List CV, (cs.map DV.c).all (below n) = true
  | [] => rfl
  | c :: cs => by simp only [List.map_cons, List.all_cons, below_cells n cs, below, Bool.and_true]
theorem below_dcells {α : Type} [Enc α] (n : Nat) (l : List α) : (dcells l).all (below n) = true := below_cells n _
theorem below_dr {α : Type} [Enc α] (n : Nat) (l r : List α) : (dcells l ++ dcells r).all (below n) = true := by rw [List.all_append, below_dcells, below_dcells]; rfl
def AllB (n : Nat) (st : List Ob) : Prop := (st.all fun o => o.cs.all (below n)) = true
theorem AllB.nil (n : Nat) : AllB n [] := rfl
theorem AllB.cons {n ver : Nat} {cs : List DV} {st : List Ob} (h : cs.all (below n) = true) (h' : AllB n st) : AllB n (⟨ver, cs⟩ :: st) := by
  unfold AllB at h' ⊢
  simp only [List.all_cons, h, h', Bool.and_true]
theorem AllB.consR {n : Nat} {o : Ob} {st : List Ob} (h : o.cs.all (below n) = true) (h' : AllB n st) : AllB n (o :: st) := by
  cases o; exact AllB.cons h h'
theorem cut_ok {l : List Nat} {n : Nat} {fr : Nat → DV} {m : M} {st' : List Ob} (h1 : (l.all fun t => below n (fr t)) = true) (h2 : AllB n st') (h3 : m.st.take n = st') : cutS (some l) n ⟨fr, m⟩ = some ⟨restr l fr, ⟨st', m.pd⟩⟩ := by
  unfold AllB at h2
  simp only [cutS, h1, h3, h2, Bool.and_true, if_true]
theorem trim_ok {n : Nat} {d : DV} {m : M} {st' : List Ob} (h1 : below n d = true) (h2 : AllB n st') (h3 : m.st.take n = st') : trimM n d m = some ⟨st', m.pd⟩ := by
  unfold AllB at h2
  simp only [trimM, h1, h3, h2, Bool.and_true, if_true]
/-- A list that grows by append, from nil on. -/
def apv {α : Type} [Enc α] : List α → DV
  | [] => .c (.sl true true [] 0)
  | a :: l => .ap false (cells (a :: l)) (a :: l).length (sz α)
/-- The same, its right lost. -/
def apc {α : Type} [Enc α] : List α → Sl α
  | [] => Sl.nil
  | a :: l => Sl.of false (a :: l)
theorem apc_l {α : Type} [Enc α] (l : List α) : (apc l).l = l := by cases l <;> rfl
theorem unflag_apv {α : Type} [Enc α] (l : List α) : unflag (apv l) = .c (eSl (apc l)) := by cases l <;> rfl

/-! an object whose cells are lists that grow by append -/
section
variable {α : Type} [Enc α]
theorem apv_ne {l : List α} (h : l ≠ []) : apv l = .ap false (cells l) l.length (sz α) := by
  cases l with
  | nil => exact absurd rfl h
  | cons a l => rfl
theorem apv_snoc (l : List α) (a : α) : apv (l ++ [a]) = .ap false (cells (l ++ [a])) (l ++ [a]).length (sz α) := apv_ne (by simp)
theorem la_nil {rows : List (List α)} {i : Nat} (h : rows[i]? = some []) : (rows.map apv)[0 + i * 1]? = some (.c (.sl true true [] 0)) ∧ (rows.map apv).set (0 + i * 1) (unflag (.c (.sl true true [] 0))) = (rows.map apv).set i (.c (.sl true true [] 0)) := by
  rw [Nat.zero_add, Nat.mul_one, List.getElem?_map, h]; exact ⟨rfl, rfl⟩
theorem la_ap {rows : List (List α)} {i : Nat} {row : List α} (h : rows[i]? = some row) (hne : row ≠ []) : (rows.map apv)[0 + i * 1]? = some (.ap false (cells row) row.length (sz α)) ∧ (rows.map apv).set (0 + i * 1) (unflag (.ap false (cells row) row.length (sz α))) = (rows.map apv).set i (.c (eSl (apc row))) := by
  rw [Nat.zero_add, Nat.mul_one, List.getElem?_map, h]
  refine ⟨by simp [apv_ne hne], ?_⟩
  rw [← apv_ne hne, unflag_apv]
omit [Enc α] in
theorem snoc_ne (l : List α) (a : α) : l ++ [a] ≠ [] := by simp
theorem la_st {rows : List (List α)} {i : Nat} {d : DV} {r0 : List α} (row : List α) (hne : row ≠ []) (h : rows[i]? = some r0) : 0 + i * 1 + 1 ≤ ((rows.map apv).set i d).length ∧ setL ((rows.map apv).set i d) (0 + i * 1) [.ap false (cells row) row.length (sz α)] = (rows.set i row).map apv := by
  have hi := (List.getElem?_eq_some_iff.1 h).1
  rw [Nat.zero_add, Nat.mul_one, ← apv_ne hne]
  refine ⟨by simp; omega, ?_⟩
  simp only [setL, List.set_set, List.map_set]
theorem mk_la {b n : Nat} (h : b * n ≤ 281474976710656 ∧ n ≤ 9223372036854775807) : (0 ≤ (n : Int) ∧ (n : Int) ≤ (n : Int) ∧ (n : Int) ≤ 9223372036854775807 ∧ (b : Int) * (n : Int) ≤ 281474976710656) ∧ replD n [.c (.sl true true [] 0)] = (List.replicate n ([] : List α)).map apv ∧ ((n : Int) == (n : Int)) = true := by
  refine ⟨(mk_ok (0 : Int) h).1, ?_, by simp⟩
  unfold replD
  induction n with
  | zero => rfl
  | succ n ih => 
    simp only [List.replicate_succ, List.flatten_cons, List.map_cons]
    rw [ih ⟨by have := h.1; have : b * n ≤ b * (n + 1) := Nat.mul_le_mul_left _ (by omega); omega, by omega⟩]; rfl
theorem closeList_apv (n : Nat) (st : List Ob) : ∀ rows : List (List α), closeList (closeD (n + 1) st) (rows.map apv) = some (cells (rows.map apc))
  | [] => rfl
  | r :: rows => by
    have h : closeD (n + 1) st (apv r) = some (eSl (apc r)) := by cases r <;> rfl
    simp only [List.map_cons, closeList, h, closeList_apv n st rows]
    rfl
theorem closeTop_la {st : List Ob} {id ver n : Nat} {x : Bool} {rows : List (List α)} {o : Ob} (hn : rows.length = n) (ho : getO st id ver = some o) (hcs : o.cs = rows.map apv) : closeTop st (.ms id ver 0 n 1 x) = some (.c (.sl false x (cells (rows.map apc)) (rows.map (apc (α := α))).length)) := by
  subst hn
  have hs : span o.cs 0 (rows.length * 1) = some (rows.map apv) := by
    have := span_pre (rows.map (apv (α := α))) []
    rw [List.append_nil] at this
    rw [hcs, Nat.mul_one]
    simpa using this
  simp only [closeTop, closeD, ho, hs, Option.bind_some, closeList_apv, Option.map_some, List.length_map]
theorem below_la (n : Nat) : ∀ rows : List (List α), (rows.map apv).all (below n) = true
  | [] => rfl
  | r :: rows => by
    have h : below n (apv r) = true := by cases r <;> rfl
    simp only [List.map_cons, List.all_cons, h, below_la n rows, Bool.and_true]
end
/-! an object of closed slices, one of them just being made -/
section
variable {α : Type} [Enc α]
theorem lo_get {outs : List (Sl α)} {i : Nat} {d : DV} (h : i < outs.length) : ((dcells outs).set i d)[0 + i * 1 + 0]? = some d := by
  have hl : (dcells outs).length = outs.length * 1 := dcells_length outs
  rw [Nat.zero_add, Nat.mul_one, Nat.add_zero, List.getElem?_set, if_pos rfl, if_pos (by omega)]
theorem lo_set {outs : List (Sl α)} {i : Nat} {d : DV} (d' : DV) (h : i < outs.length) : 0 + i * 1 + 1 ≤ ((dcells outs).set i d).length ∧ setL ((dcells outs).set i d) (0 + i * 1) [d'] = (dcells outs).set i d' := by
  have hl : (dcells outs).length = outs.length * 1 := dcells_length outs
  rw [Nat.zero_add, Nat.mul_one, List.length_set]
  exact ⟨by omega, by simp only [setL, List.set_set]⟩
theorem dcells_set1 : ∀ (outs : List (Sl α)) (i : Nat) (s : Sl α), (dcells outs).set i (.c (eSl s)) = dcells (outs.set i s)
  | [], _, _ => rfl
  | o :: outs, 0, s => rfl
  | o :: outs, i + 1, s => by
    have := dcells_set1 outs i s
    show (DV.c (eSl o) :: dcells outs).set (i + 1) _ = DV.c (eSl o) :: dcells (outs.set i s)
    rw [List.set_cons_succ, this]
theorem lo_close {outs : List (Sl α)} {i : Nat} {d : DV} (s : Sl α) (h : i < outs.length) : 0 + i * 1 + 1 ≤ ((dcells outs).set i d).length ∧ setL ((dcells outs).set i d) (0 + i * 1) [.c (eSl s)] = dcells (outs.set i s) := by
  obtain ⟨h1, h2⟩ := lo_set (d := d) (.c (eSl s)) h
  exact ⟨h1, by rw [h2, dcells_set1]⟩
theorem lo_open {outs : List (Sl α)} {i : Nat} {s : Sl α} (h : outs[i]? = some s) : dcells outs = (dcells outs).set i (.c (eSl s)) := by
  rw [dcells_set1]
  congr 1
  refine List.ext_getElem? fun j => ?_
  rw [List.getElem?_set]
  split
  · rename_i hij; subst hij
    have := (List.getElem?_eq_some_iff.1 h).1
    rw [if_pos this, h]
  · rfl
theorem below_lo {n : Nat} {d : DV} (h : below n d = true) (outs : List (Sl α)) (i : Nat) : ((dcells outs).set i d).all (below n) = true := by
  rw [List.all_eq_true]
  intro x hx
  rcases List.mem_or_eq_of_mem_set hx with hx | rfl
  · exact List.all_eq_true.1 (below_dcells n outs) x hx
  · exact h
end
theorem cells_ints (l : List Int) : cells l = l.map cInt := by
  induction l with
  | nil => rfl
  | cons a l ih => rw [cells_cons, ih]; rfl
theorem compactP_nil {st : List Ob} {x : Bool} {cs : List CV} {n : Nat} : compactP st [.c (.sl true x cs n)] = some { d := .c (eSl (Sl.nil : Sl Int)) } := rfl
theorem compactP_ms {st : List Ob} {id ver : Nat} {x : Bool} {l : List Int} (h0 : l ≠ [] ∧ l.length < 4611686018427387904) (h : st[id]? = some ⟨ver, dcells l⟩) : compactP st [.ms id ver 0 l.length 1 x] = some { d := .c (eSl (Sl.of false (dedup l))), set := some (id, ⟨ver + 1, []⟩) } := by
  have hs : span (dcells l) 0 l.length = some (dcells l) := by
    have := span_pre (dcells l) []
    rw [List.append_nil] at this
    rw [dcells_length] at this
    simpa [Enc.sz] using this
  obtain ⟨n, hn⟩ : ∃ n, l.length = n + 1 := ⟨l.length - 1, by have := List.length_pos_iff.2 h0.1; omega⟩
  have h1 := h0.2
  have hi : intsOf (dcells l) = some l := by
    clear hs hn h1 h0 h
    induction l with
    | nil => rfl
    | cons a l ih =>
      show (match intOf (dInt a), intsOf (dcells l) with | some n, some l => some (n :: l) | _, _ => none) = _
      rw [ih]; rfl
  rw [hn] at hs ⊢
  simp only [compactP]
  rw [if_neg (by omega)]
  simp only [getO_of h rfl, hs, Option.bind_some, hi, Option.map_some]
  rw [show eSl (Sl.of false (dedup l)) = .sl false false (cells (dedup l)) (dedup l).length from rfl, cells_ints]
theorem compactP_msn {n : Nat} {l : List Int} (hn : l.length = n) {st : List Ob} {id ver : Nat} {x : Bool} (h0 : l ≠ [] ∧ l.length < 4611686018427387904) (h : st[id]? = some ⟨ver, dcells l⟩) : compactP st [.ms id ver 0 n 1 x] = some { d := .c (eSl (Sl.of false (dedup l))), set := some (id, ⟨ver + 1, []⟩) } := by
  subst hn; exact compactP_ms h0 h
/-- A slice of an object of its own that grows: nil, or with its version, what it holds, what lies behind it. -/
structure OSt (α : Type) where
  ver : Nat
  x : Bool
  l : List α
  r : List α
abbrev OS (α : Type) := Option (OSt α)
def OS.dv {α : Type} [Enc α] (id : Nat) : OS α → DV
  | none => .c (.sl true true [] 0)
  | some s => .ms id s.ver 0 s.l.length (sz α) s.x
def OS.ob {α : Type} [Enc α] : OS α → Ob
  | none => ⟨0, []⟩
  | some s => ⟨s.ver, dcells s.l ++ dcells s.r⟩
def OS.l {α : Type} : OS α → List α
  | none => []
  | some s => s.l
theorem OS.below {α : Type} [Enc α] (n : Nat) (o : OS α) : o.ob.cs.all (Abs.below n) = true := by
  cases o with
  | none => rfl
  | some s => exact below_dr n s.l s.r

theorem OS.below_dv {α : Type} [Enc α] {n id : Nat} (h : id < n) (o : OS α) : [o.dv id].all (Abs.below n) = true := by
  cases o with
  | none => rfl
  | some s => simp [OS.dv, Abs.below, h]
/-- A slice of an object of its own that only grows. -/
abbrev OA (α : Type) := Option (Nat × List α)
def OA.dv {α : Type} [Enc α] (id : Nat) : OA α → DV
  | none => .c (.sl true true [] 0)
  | some (w, l) => .ms id w 0 l.length (sz α) false
def OA.ob {α : Type} [Enc α] : OA α → Ob
  | none => ⟨0, []⟩
  | some (w, l) => ⟨w, dcells l⟩
def OA.l {α : Type} : OA α → List α
  | none => []
  | some (_, l) => l
theorem OA.below {α : Type} [Enc α] (n : Nat) (o : OA α) : o.ob.cs.all (Abs.below n) = true := by
  cases o with
  | none => rfl
  | some s => exact below_dcells n s.2
theorem intsOf_dcells (l : List Int) : intsOf (dcells l) = some l := by
  induction l with
  | nil => rfl
  | cons a l ih =>
    show (match intOf (dInt a), intsOf (dcells l) with | some n, some l => some (n :: l) | _, _ => none) = _
    rw [ih]; rfl
theorem ins_length (x : Int) : ∀ l, (ins x l).length = l.length + 1
  | [] => rfl
  | y :: l => by
    simp only [ins]
    split
    · rfl
    · simp [ins_length x l]
theorem isort_length : ∀ l, (isort l).length = l.length
  | [] => rfl
  | x :: l => by rw [isort, ins_length, isort_length l]; rfl
theorem sortP_nil {st : List Ob} {x : Bool} {cs : List CV} {n : Nat} : sortP st [.c (.sl true x cs n)] = some { d := .tup [] } := rfl
theorem sortP_ms {st : List Ob} {id ver : Nat} {x : Bool} {l : List Int} (h0 : l ≠ [] ∧ l.length < 4611686018427387904) (h : st[id]? = some ⟨ver, dcells l⟩) : sortP st [.ms id ver 0 l.length 1 x] = some { d := .tup [], set := some (id, ⟨ver, dcells (isort l)⟩) } := by
  have hs : span (dcells l) 0 l.length = some (dcells l) := by
    have := span_pre (dcells l) []
    rw [List.append_nil] at this
    rw [dcells_length] at this
    simpa [sz] using this
  have e : (isort l).map dInt = dcells (isort l) := by
    induction isort l with
    | nil => rfl
    | cons a l ih => simp only [List.map_cons, ih]; rfl
  obtain ⟨n, hn⟩ : ∃ n, l.length = n + 1 := ⟨l.length - 1, by have := List.length_pos_iff.2 h0.1; omega⟩
  have h1 := h0.2
  rw [hn] at hs ⊢
  simp only [sortP]
  rw [if_neg (by omega)]
  simp only [getO_of h rfl, hs, Option.bind_some, intsOf_dcells, Option.map_some]
  rw [e, setL_full _ _ (by simp [dcells_length, isort_length])]
/-! ### annotations by tables -/
def has2 : List (Nat × Nat) → Nat → Nat → Bool
  | [], _, _ => false
  | (a, b) :: l, r, i => (Nat.beq a r && Nat.beq b i) || has2 l r i
def look2 {α : Type} : List (Nat × α) → Nat → Option α
  | [], _ => none
  | (a, x) :: l, r => bif Nat.beq a r then some x else look2 l r
def look3 : List ((Nat × Nat) × Nat) → Nat → Nat → Nat
  | [], _, _ => 0
  | ((a, b), x) :: l, r, i => bif Nat.beq a r && Nat.beq b i then x else look3 l r i
def anOf (mv fz abs own : Nat → List (Nat × Nat)) (id : Nat → List ((Nat × Nat) × Nat)) (n : Nat → List (Nat × Nat)) (live cut : Nat → List (Nat × List Nat)) : An :=
  { mv := fun f => has2 (mv f), fz := fun f => has2 (fz f), abs := fun f => has2 (abs f), own := fun f => has2 (own f), id := fun f => look3 (id f), n := fun f r => (look2 (n f) r).getD 0, live := fun f => look2 (live f), cut := fun f => look2 (cut f) }
end Go.Abs
