/-
  Abs26: the arguments of a law, read as closed values; a call of the interpreter's as a contract.
-/
import Derived.Test.YtkfmoodaplelnaaAbs25
import Derived.ProofKit
set_option linter.unusedVariables false
set_option linter.unusedSimpArgs false
set_option linter.unusedSectionVars false
namespace Go.Abs
open Go
variable [Gl]

/-- Whatever lies in the world already. -/
def old (w : World) : Addr → Prop := fun a => a.block < w.heap.size

def IsInt (c : CV) : Prop := ∃ n : Int, c = .sc (.int .i64 n) ∧ (Lit.int .i64 n).wf = true
/-- A slice of what Q says. -/
def SliceOf (Q : CV → Prop) (c : CV) : Prop := ∃ nl x cs, c = .sl nl x cs cs.length ∧ (nl = true → x = true ∧ cs = []) ∧ (∀ c ∈ cs, Q c) ∧ cs.length ≤ maxLen

section
variable {H : Type} {enc : TypeId × Value → H} {P : Program} {w : World} {base : Nat} {sp : Nat → Bool} {held : Bool}

/-- What a type's one cell reads as. -/
def Reads (P : Program) (w : World) (base : Nat) (t : TypeId) (Q : CV → Prop) : Prop :=
  ∀ (H : Type) (enc : TypeId × Value → H) (sp : Nat → Bool) (held : Bool) (fuel : Nat) (vs : List Value) (x : DataW H × List MemPlace), DataW.trod enc P w base sp held fuel t vs = some x → ∃ v c, vs = [v] ∧ RC (old w) w c v ∧ cvOk c = true ∧ Q c

theorem reads_int {t : TypeId} (ht : P.underlying t = some (.int .i64)) : Reads P w base t IsInt := by
  intro H enc sp held fuel vs x h
  cases fuel with
  | zero => simp [DataW.trod] at h
  | succ fuel =>
    unfold DataW.trod at h
    rw [ht] at h
    split at h <;> first | (rename_i hh; cases hh; done) | skip
    all_goals (try (rename_i hh; injection hh with hh; done))
    · rename_i k k' n hk
      injection hk with hk
      injection hk with hk
      subst hk
      split at h
      · rename_i hc
        obtain ⟨rfl, hwf⟩ := hc
        exact ⟨_, _, rfl, .sc rfl, rfl, n, rfl, hwf⟩
      · cases h
    all_goals (first | (cases h; done) | (simp at h; done))

theorem mapM_get {α β : Type} {f : α → Option β} : ∀ (l : List α) (ys : List β), l.mapM f = some ys → ys.length = l.length ∧ ∀ (i : Nat) x, l[i]? = some x → ∃ y, ys[i]? = some y ∧ f x = some y
  | [], ys, h => by simp at h; subst h; exact ⟨rfl, by simp⟩
  | a :: l, ys, h => by
    rw [List.mapM_cons] at h
    simp only [Option.bind_eq_bind, Option.bind_eq_some_iff] at h
    obtain ⟨y, hy, ys', hys, h⟩ := h
    cases h
    obtain ⟨h1, h2⟩ := mapM_get l ys' hys
    refine ⟨by simp [h1], fun i x hx => ?_⟩
    cases i with
    | zero => simp at hx; subst hx; exact ⟨y, rfl, hy⟩
    | succ i => simpa using h2 i x (by simpa using hx)

theorem cells_cell {a : Addr} {n : Nat} {vs : List Value} (h : w.cells? base a n = some vs) : vs.length = n ∧ ∀ (i : Nat) v, vs[i]? = some v → w.cell? (a.add i) = some v := by
  unfold World.cells? at h
  split at h
  · obtain ⟨h1, h2⟩ := mapM_get _ _ h
    refine ⟨by simpa using h1, fun i v hv => ?_⟩
    have hlt : i < n := by have := (List.getElem?_eq_some_iff.1 hv).1; simp at h1; omega
    obtain ⟨y, hy, hc⟩ := h2 i i (by simp [hlt])
    rw [hv] at hy; cases hy
    exact hc
  · cases h

theorem lists_of {p : Nat → Value → CV → Prop} : ∀ (n : Nat), (∀ i, i < n → ∃ v c, p i v c) → ∃ (vs : List Value) (cs : List CV), vs.length = n ∧ cs.length = n ∧ ∀ (i : Nat) v c, vs[i]? = some v → cs[i]? = some c → p i v c
  | 0, _ => ⟨[], [], rfl, rfl, by simp⟩
  | n + 1, h => by
    obtain ⟨vs, cs, h1, h2, h3⟩ := lists_of n fun i hi => h i (by omega)
    obtain ⟨v, c, hp⟩ := h n (by omega)
    refine ⟨vs ++ [v], cs ++ [c], by simp [h1], by simp [h2], fun i v' c' hv hc => ?_⟩
    rcases Nat.lt_or_ge i n with hlt | hge
    · rw [List.getElem?_append_left (by omega)] at hv hc
      exact h3 i v' c' hv hc
    · have hi : i = n := by
        have := (List.getElem?_eq_some_iff.1 hv).1
        simp [h1] at this; omega
      subst hi
      rw [List.getElem?_append_right (by omega)] at hv hc
      simp [h1] at hv
      simp [h2] at hc
      subst hv; subst hc
      exact hp

theorem RCs.of_get {im : Addr → Prop} : ∀ {cs : List CV} {vs : List Value}, cs.length = vs.length → (∀ (i : Nat) c v, cs[i]? = some c → vs[i]? = some v → cvOk c = true ∧ RC im w c v) → RCs im w cs vs
  | [], [], _, _ => .nil
  | c :: cs, v :: vs, hl, h => .cons (h 0 c v rfl rfl).1 (h 0 c v rfl rfl).2 (RCs.of_get (by simpa using hl) fun i c' v' hc hv => h (i + 1) c' v' (by simpa using hc) (by simpa using hv))
  | [], _ :: _, hl, _ => by simp at hl
  | _ :: _, [], hl, _ => by simp at hl

theorem reads_slice {t e : TypeId} {Q : CV → Prop} (ht : P.underlying t = some (.slice e)) (hc : P.cellsOf e = 1) (hq : Reads P w base e Q) : Reads P w base t (SliceOf Q) := by
  intro H enc sp held fuel vs x h
  cases fuel with
  | zero => simp [DataW.trod] at h
  | succ fuel =>
    unfold DataW.trod at h
    rw [ht] at h
    split at h <;> first | (rename_i hh; cases hh; done) | skip
    all_goals (try (rename_i hh; injection hh with hh; done))
    · exact ⟨_, _, rfl, .nil, rfl, true, true, [], rfl, fun _ => ⟨rfl, rfl⟩, by simp, by simp [maxLen]⟩
    · rename_i e' a len cap he
      injection he with he
      injection he with he
      subst he
      simp only [hc, Nat.mul_one] at h
      split at h
      · rename_i hcond
        obtain ⟨_, hle, hcap⟩ := hcond
        rw [Option.bind_eq_some_iff] at h
        obtain ⟨elems, hel, _⟩ := h
        obtain ⟨_, hget⟩ := mapM_get _ _ hel
        have hp : ∀ i, i < len → ∃ v c, w.cell? (a.add i) = some v ∧ RC (old w) w c v ∧ cvOk c = true ∧ Q c := fun i hi => by
          obtain ⟨y, _, hf⟩ := hget i i (by simp [hi])
          rw [Option.bind_eq_some_iff] at hf
          obtain ⟨us, hus, htr⟩ := hf
          obtain ⟨v, c, rfl, h1, h2, h3⟩ := hq H enc sp held fuel us y htr
          have := (cells_cell hus).2 0 v rfl
          rw [add_zero'] at this
          exact ⟨v, c, this, h1, h2, h3⟩
        obtain ⟨vs, cs, hvl, hcl, hall⟩ := lists_of len hp
        have hpair : ∀ (i : Nat) c v, cs[i]? = some c → vs[i]? = some v → cvOk c = true ∧ RC (old w) w c v := fun i c v h1 h2 => ⟨(hall i v c h2 h1).2.2.1, (hall i v c h2 h1).2.1⟩
        refine ⟨_, .sl false (decide (cap = len)) cs cs.length, rfl, ?_, rfl, false, _, cs, rfl, by simp, fun c hcm => ?_, by omega⟩
        · rw [hcl]
          refine .sl (RCs.of_get (by omega) hpair) (fun i v hv => ?_) hle (fun hx => by simpa using hx)
          have hlt : i < cs.length := by have := (List.getElem?_eq_some_iff.1 hv).1; omega
          have hcell := (hall i v cs[i] hv (List.getElem?_eq_getElem hlt)).1
          exact ⟨hcell, World.block_lt_of_cell? _ _ hcell⟩
        · obtain ⟨i, hi⟩ := List.getElem?_of_mem hcm
          have hlt : i < vs.length := by have := (List.getElem?_eq_some_iff.1 hi).1; omega
          exact (hall i vs[i] c (List.getElem?_eq_getElem hlt) hi).2.2.2
      · cases h
    all_goals (first | (cases h; done) | (simp at h; done))

/-- An argument, closed. -/
theorem reads_arg {t : TypeId} {Q : CV → Prop} (hq : Reads P w base t Q) {v : Value} {d : DataW H} {ps : List MemPlace} (h : DataW.Trod enc P w base sp held t v d ps) (hv : v.oneCell' = true) : ∃ c, RC (old w) w c v ∧ Q c := by
  obtain ⟨fuel, hf⟩ := h
  obtain ⟨u, c, h1, h2, _, h3⟩ := hq H enc sp held fuel _ _ hf
  have : v = u := by rw [cells_one hv] at h1; simpa using h1
  subst this
  exact ⟨c, h2, h3⟩

/-- A call on arguments that are closed, in a world of others': what was there is there. -/
theorem call_closed (hgl : (∀ a, Gl.as a → a.block < w.heap.size) ∧ Gl.ok w) (hm : P.follows .mixedOrders = true) (an : An) {pr : Prims} (hp : ∀ f p, pr f = some p → PrimOk P f p) {k f : Nat} {args : List DV} {vs : List Value} {d : DV} {m' : M} (h : (evN P an pr k).call [] f args ⟨[], []⟩ = some (d, m'))
    (hr : RDs ⟨old w, w, [], fun _ => ⟨0, 0, 0⟩, []⟩ args vs) : Calls P f ⟨vs⟩ w fun en w' => ∃ v e' s, en = .returned v ∧ e'.w = w' ∧ RD e' s d v ∧ Keep w.heap.size (fun _ => False) (fun _ => False) w w' := by
  let e : E := ⟨old w, w, [], fun _ => ⟨0, 0, 0⟩, []⟩
  have st : St w.heap.size (fun _ => False) [] e (fun _ _ => False) ⟨[], []⟩ :=
    ⟨rfl, rfl, by simp [e], ⟨fun a ha => ha, fun _ _ h => h, fun _ h => h.elim, Nat.le_refl _, fun _ _ h => h.elim, fun _ _ _ h => h.elim, by simp [e], by simp [e], by simp [e]⟩, ⟨⟨hgl.1, hgl.2⟩, MpI.void (by simp [e]), by simp, by simp⟩⟩
  have hc := (evN_sound hm an hp k).1.call [] f args ⟨[], []⟩ d m' h w.heap.size (fun _ => False) e (fun _ _ => False) vs 0 st (fun _ h => h) (fun _ _ h => h) hr
  refine callsIn_wide.1 (hc.mono fun en w' hb => ?_)
  cases en with
  | returned v =>
    obtain ⟨e', reg', h1, h2, h3, h4, h5⟩ := hb
    exact ⟨v, e', _, rfl, h1, h5, by rw [← h1]; exact h4.keep.weak fun r hr => hr.elim (fun hr => by obtain ⟨_, _, hm, _⟩ := hr; simp at hm) (fun hr => by obtain ⟨_, _, hm, _⟩ := hr; simp [e] at hm)⟩
  | panicked c => exact hb.elim
  | outgrown => exact hb.elim
end
end Go.Abs
