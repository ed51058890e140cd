/-
  Abs30: how loops, calls, ranges over functions are put together from their parts; lists as cells.
-/
import Derived.Test.YtkfmoodaplelnaaAbs29
set_option linter.unusedVariables false
set_option linter.unusedSimpArgs false
set_option linter.unusedSectionVars false
namespace Go.Abs
open Go
variable [Fl]

def sub : Code → List Nat → Code
  | c, [] => c
  | .seq a b, 0 :: p => sub a p
  | .seq a b, _ :: p => sub b p
  | .cond _ a b, 0 :: p => sub a p
  | .cond _ a b, _ :: p => sub b p
  | .block _ a, _ :: p => sub a p
  | .loop a, _ :: p => sub a p
  | .scope a, _ :: p => sub a p
  | .rangeFunc _ _ a b, 0 :: p => sub a p
  | .rangeFunc _ _ a b, 1 :: p => sub b p
  | .rangeFunc _ _ a b, _ :: p => .seq a b
  | c, _ => c

section
variable {X : Sys} {f nt : Nat} {Γ : List (Nat × Ctx)}

theorem Sys.go_seq {a b : Code} {s s1 s2 : S} {ex : Ex} (h1 : X.Go f nt Γ a s .normal s1) (h2 : X.Go f nt Γ b s1 ex s2) : X.Go f nt Γ (.seq a b) s ex s2 :=
  (Ev.and h1 h2).mono fun k h => by simp only [codeD, h.1, h.2]
theorem Sys.go_seq_out {a b : Code} {s s1 : S} {ex : Ex} (h1 : X.Go f nt Γ a s ex s1) (hx : ex ≠ .normal) : X.Go f nt Γ (.seq a b) s ex s1 :=
  Ev.mono h1 fun k h => by
    simp only [codeD, h]
    cases ex <;> first | rfl | exact absurd rfl hx
theorem Sys.go_block {a : Code} {s s1 : S} {ex : Ex} {id : Nat} (h1 : X.Go f nt Γ a s ex s1) : X.Go f nt Γ (.block id a) s (match ex with | .exit j => if j = id then .normal else .exit j | ex => ex) s1 :=
  Ev.mono h1 fun k h => by
    simp only [codeD, h]
    cases ex <;> rfl

/-! ### loops -/
theorem loopD_more {body : S → Option (Ex × S)} {l : Option (List Nat)} {m : Nat} {r : Ex × S} : ∀ {n n' : Nat} {s : S}, loopD body l m n s = some r → n ≤ n' → loopD body l m n' s = some r
  | 0, n', s, h, _ => by simp [loopD] at h
  | n + 1, 0, s, h, hle => by omega
  | n + 1, n' + 1, s, h, hle => by
    simp only [loopD] at h ⊢
    split at h
    · rename_i s' hb
      split at h
      · rename_i s'' hc
        exact loopD_more h (by omega)
      · cases h
    · rename_i hb
      exact h

/-- A loop's rounds from a state on; m: how long the store was at the loop's head. -/
def Sys.Loop (X : Sys) (f nt : Nat) (Γ : List (Nat × Ctx)) (a : Code) (m : Nat) (s : S) (ex : Ex) (s' : S) : Prop :=
  ∃ k0 n0, ∀ k, k0 ≤ k → ∀ n, n0 ≤ n → loopD (fun s => codeD X.P (X.ev k) X.an f nt Γ k a (restrS (X.an.rs f (firstR a)) s)) (X.an.cut f (firstR a)) m n s = some (ex, s')
theorem Sys.Loop.go {a : Code} {s s' : S} {ex : Ex} (h : X.Loop f nt Γ a s.m.st.length s ex s') : X.Go f nt Γ (.loop a) s ex s' := by
  obtain ⟨k0, n0, h⟩ := h
  exact ⟨max k0 n0, fun k hk => h k (by omega) k (by omega)⟩
theorem Sys.Loop.step {a : Code} {m : Nat} {s s0 s1 s2 s3 : S} {ex : Ex} (h0 : restrS (X.an.rs f (firstR a)) s = s0) (h1 : X.Go f nt Γ a s0 .normal s1) (hc : cutS (X.an.cut f (firstR a)) m s1 = some s2) (h2 : X.Loop f nt Γ a m s2 ex s3) : X.Loop f nt Γ a m s ex s3 := by
  obtain ⟨k1, h1⟩ := h1
  obtain ⟨k2, n2, h2⟩ := h2
  refine ⟨max k1 k2, n2 + 1, fun k hk n hn => ?_⟩
  cases n with
  | zero => omega
  | succ n =>
    simp only [loopD, h0, h1 k (by omega), hc]
    exact h2 k (by omega) n (by omega)
theorem Sys.Loop.exit {a : Code} {m : Nat} {s s0 s1 : S} {ex : Ex} (h0 : restrS (X.an.rs f (firstR a)) s = s0) (h1 : X.Go f nt Γ a s0 ex s1) (hx : ex ≠ .normal) : X.Loop f nt Γ a m s ex s1 := by
  obtain ⟨k1, h1⟩ := h1
  refine ⟨k1, 1, fun k hk n hn => ?_⟩
  cases n with
  | zero => omega
  | succ n =>
    simp only [loopD, h0, h1 k hk]
    cases ex <;> first | rfl | exact absurd rfl hx

/-- A loop by what holds at its head, and something that grows less. -/
theorem Sys.loop_inv {σ : Type} {a : Code} {m : Nat} (hrs : X.an.rs f (firstR a) = none) (F : σ → S) (I : σ → Prop) (μ : σ → Nat) (Q : Ex → S → Prop)
    (h : ∀ x, I x → (∃ s1 y, X.Go f nt Γ a (F x) .normal s1 ∧ cutS (X.an.cut f (firstR a)) m s1 = some (F y) ∧ I y ∧ μ y < μ x) ∨ (∃ ex s1, X.Go f nt Γ a (F x) ex s1 ∧ ex ≠ .normal ∧ Q ex s1)) :
    ∀ (n : Nat) (x : σ), I x → μ x < n → ∃ ex s', X.Loop f nt Γ a m (F x) ex s' ∧ ex ≠ .normal ∧ Q ex s'
  | 0, x, _, hn => by omega
  | n + 1, x, hx, hn => by
    rcases h x hx with ⟨s1, y, h1, h2, h3, h4⟩ | ⟨ex, s1, h1, h2, h3⟩
    · obtain ⟨ex, s', h5, h6⟩ := Sys.loop_inv hrs F I μ Q h n y h3 (by omega)
      exact ⟨ex, s', .step (by rw [hrs]; rfl) h1 h2 h5, h6⟩
    · exact ⟨ex, s1, .exit (by rw [hrs]; rfl) h1 h2, h2, h3⟩
theorem Sys.loop_go {σ : Type} {a : Code} {m : Nat} (hrs : X.an.rs f (firstR a) = none) (F : σ → S) (I : σ → Prop) (μ : σ → Nat) (Q : Ex → S → Prop)
    (h : ∀ x, I x → (∃ s1 y, X.Go f nt Γ a (F x) .normal s1 ∧ cutS (X.an.cut f (firstR a)) m s1 = some (F y) ∧ I y ∧ μ y < μ x) ∨ (∃ ex s1, X.Go f nt Γ a (F x) ex s1 ∧ ex ≠ .normal ∧ Q ex s1))
    (x : σ) (hx : I x) (hm : m = (F x).m.st.length) : ∃ ex s', X.Go f nt Γ (.loop a) (F x) ex s' ∧ ex ≠ .normal ∧ Q ex s' := by
  obtain ⟨ex, s', h1, h2⟩ := Sys.loop_inv hrs F I μ Q h (μ x + 1) x hx (by omega)
  subst hm
  exact ⟨ex, s', h1.go, h2⟩
end

/-! ### calls -/
section
variable {X : Sys} {Γ : List (Nat × Ctx)}
def exN : Ex → Bool
  | .normal => true
  | _ => false
def isExit : Ex → Bool
  | .exit _ => true
  | _ => false
theorem Sys.call {f : FuncId} {fn : Func} {c : Code} {args : List DV} {m m' : M} {ex : Ex} {s : S} {d : DV} (hg : X.Go f fn.ntmps Γ c ⟨argFr args, m⟩ ex s) (hf : X.P.funcs[f]? = some fn) (hb : fn.body = some c) (hx : isExit ex = false)
    (hr : (resD X.P s fn.results.toList).map resOne = some d) (hm : s.m = m') : X.Runs Γ f args m d m' := by
  subst hm
  refine Ev.succ (Ev.mono hg fun k h => ?_)
  show callF X.P X.an (X.ev k) k Γ f args m = _
  simp only [callF, hf, hb, h]
  cases ex with
  | exit _ => cases hx
  | normal =>
    simp only
    rw [Option.map_eq_some_iff] at hr ⊢
    obtain ⟨ds, h1, h2⟩ := hr
    exact ⟨ds, h1, by rw [h2]⟩
  | ret =>
    simp only
    rw [Option.map_eq_some_iff] at hr ⊢
    obtain ⟨ds, h1, h2⟩ := hr
    exact ⟨ds, h1, by rw [h2]⟩
theorem Sys.callC {f : FuncId} {args : List DV} {d d' : DV} {m : M} (h : X.Runs [] f args ⟨[], []⟩ d' m) (hc : closeTop m.st d' = some d) : X.RunsC f args d := Ev.mono h fun k hk => ⟨d', m, hk, hc⟩
/-- A run that the kernel reckons, whatever the fuel beyond some. -/
theorem Sys.runC {f : FuncId} {args : List DV} {d : DV} (K : Nat) (h : ∀ k, ((X.ev (k + K)).call [] f args ⟨[], []⟩).bind (fun x => closeTop x.2.st x.1) = some d) : X.RunsC f args d := ⟨K, fun k hk => by
  obtain ⟨j, rfl⟩ : ∃ j, k = j + K := ⟨k - K, by omega⟩
  have := h j
  rw [Option.bind_eq_some_iff] at this
  obtain ⟨⟨d', m'⟩, h1, h2⟩ := this
  exact ⟨d', m', h1, h2⟩⟩

/-- A round of a range over a function. -/
theorem Sys.round {j : Nat} {x : Ctx} {args : List DV} {m m' : M} {ex : Ex} {s : S} {b : Bool} (hc : ctxOf Γ j = some x) (hn : args.length = x.params.size) (hp : m.pd[j]? = some .normal) (ht : (x.params.toList.all fun t => t < x.nt) = true)
    (ha : (match x.assign with | .region _ _ _ => true | .skip => true | _ => false) = true) (hg : X.Go x.f x.nt (without Γ j) (.seq x.assign x.body) ⟨setPs x.fr (x.params.toList.zip args), m⟩ ex s) (hb : exN ex = b) (hm : { s.m with pd := s.m.pd.set j ex } = m') :
    X.Round Γ j args m (dB b) m' := by
  subst hm
  subst hb
  refine Ev.succ (Ev.mono hg fun k h => ?_)
  show roundF X.P X.an (X.ev k) k Γ j args m = _
  simp only [roundF, hc]
  rw [if_neg (by simp only [hn, hp, ht]; simp)]
  simp only [codeD] at h
  have hr : (∃ s1, codeD X.P (X.ev k) X.an x.f x.nt (without Γ j) k x.assign ⟨setPs x.fr (x.params.toList.zip args), m⟩ = some (.normal, s1)) ∨ codeD X.P (X.ev k) X.an x.f x.nt (without Γ j) k x.assign ⟨setPs x.fr (x.params.toList.zip args), m⟩ = none := by
    split at ha
    · rename_i r o d hass
      rw [hass]
      simp only [codeD]
      cases regionD X.P (X.ev k) X.an x.f x.nt (without Γ j) r o d ⟨setPs x.fr (x.params.toList.zip args), m⟩ with
      | none => exact .inr rfl
      | some s1 => exact .inl ⟨s1, rfl⟩
    · rename_i hass
      rw [hass]
      exact .inl ⟨_, rfl⟩
    · cases ha
  rcases hr with ⟨s1, hr⟩ | hr
  · rw [hr] at h
    simp only at h
    simp only [hr, h]
    cases ex <;> rfl
  · rw [hr] at h
    cases h

/-- A range over a function. -/
theorem Sys.range {f nt : Nat} {g : Operand} {ps : Array Tmp} {as body : Code} {s : S} {h : FuncId} {xs ys : List DV} {d : DV} {m' : M} {e : Ex} (hg : Abs.ev s.fr g = .fn h xs ys) (he : enters X.P h = true)
    (hr : X.Runs ((s.m.pd.length, { f, nt, fr := fun t => unflag (s.fr t), params := ps, assign := as, body }) :: Γ) h (xs ++ [.yl s.m.pd.length] ++ ys) { s.m with pd := s.m.pd ++ [.normal] } d m')
    (hp : m'.pd[s.m.pd.length]? = some e) (hc : X.an.cut f (firstR body) = none) : X.Go f nt Γ (.rangeFunc g ps as body) s e ⟨s.fr, m'⟩ := by
  refine Ev.mono hr fun k hk => ?_
  simp only [codeD, hg]
  rw [if_neg (by simp [he])]
  simp only [hk, hp, hc]
end

theorem without_head {j : Nat} {x : Ctx} {Γ : List (Nat × Ctx)} (h : ∀ y ∈ Γ, y.1 ≠ j) : without ((j, x) :: Γ) j = Γ := by
  unfold without
  rw [List.filter_cons, if_neg (by simp)]
  exact List.filter_eq_self.2 fun y hy => by simp [h y hy]
theorem ctxOf_head {j : Nat} {x : Ctx} {Γ : List (Nat × Ctx)} : ctxOf ((j, x) :: Γ) j = some x := by simp [ctxOf]

section
variable {X : Sys} {Γ : List (Nat × Ctx)} {f nt : Nat} {ps : Array Tmp} {asg body : Code} {fr : Nat → DV}
def rctx (f nt : Nat) (fr : Nat → DV) (ps : Array Tmp) (asg body : Code) : Ctx := { f, nt, fr := fun t => unflag (fr t), params := ps, assign := asg, body }
theorem Sys.range1 {c : Code} {g : Operand} {h : FuncId} {xs ys : List DV} {d : DV} {e : Ex} {st st' : List Ob} {pd pd' : List Ex} (hcode : c = .rangeFunc g ps asg body) (hg : Abs.ev fr g = .fn h xs ys) (he : enters X.P h = true)
    (hr : X.Runs ((pd.length, rctx f nt fr ps asg body) :: Γ) h (xs ++ [.yl pd.length] ++ ys) ⟨st, pd ++ [.normal]⟩ d ⟨st', pd'⟩)
    (hp : pd'[pd.length]? = some e) (hc : X.an.cut f (firstR body) = none) : X.Go f nt Γ c ⟨fr, ⟨st, pd⟩⟩ e ⟨fr, ⟨st', pd'⟩⟩ := by
  subst hcode
  exact Sys.range (s := ⟨fr, ⟨st, pd⟩⟩) hg he hr hp hc
theorem Sys.round1 {j : Nat} {args : List DV} {st st' : List Ob} {pd pd' : List Ex} {ex : Ex} {fr' : Nat → DV} {b : Bool} (hΓ : ∀ y ∈ Γ, y.1 ≠ j) (hn : args.length = ps.size) (hp : pd[j]? = some .normal) (ht : (ps.toList.all fun t => t < nt) = true)
    (ha : (match asg with | .region _ _ _ => true | .skip => true | _ => false) = true) (hg : X.Go f nt Γ (.seq asg body) ⟨setPs (fun t => unflag (fr t)) (ps.toList.zip args), ⟨st, pd⟩⟩ ex ⟨fr', ⟨st', pd'⟩⟩) (hb : exN ex = b) :
    X.Round ((j, rctx f nt fr ps asg body) :: Γ) j args ⟨st, pd⟩ (dB b) ⟨st', pd'.set j ex⟩ :=
  Sys.round (x := rctx f nt fr ps asg body) ctxOf_head hn hp ht ha (by rw [without_head hΓ]; exact hg) hb rfl
theorem set_same {α : Type} {l : List α} {j : Nat} {x : α} (h : l[j]? = some x) : l.set j x = l := by
  refine List.ext_getElem? fun i => ?_
  rw [List.getElem?_set]
  split
  · rename_i hij; subst hij
    have := (List.getElem?_eq_some_iff.1 h).1
    rw [if_pos this, h]
  · rfl
end

end Go.Abs
