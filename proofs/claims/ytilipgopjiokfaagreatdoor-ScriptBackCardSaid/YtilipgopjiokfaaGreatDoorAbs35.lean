/-
  Abs35: arguments of several cells (structures of numbers, slices of them), texts; a law's call out of a closed run.
-/
import Derived.Test.YtilipgopjiokfaaGreatDoorAbs34
import Derived.Test.YtilipgopjiokfaaGreatDoorAbs27
import Derived.ChangeArms
set_option linter.unusedVariables false
set_option linter.unusedSimpArgs false
set_option linter.unusedSectionVars false
namespace Go.Abs
open Go Go.ChangeShapes Go.WideShapes Go.ChangeAt Go.RowKit

section
variable {H : Type} {enc : TypeId × Value → H} {P : Program} {w : World} {base : Nat} {sp : Nat → Bool} {held : Bool}

def ReadsN (P : Program) (w : World) (base : Nat) (t : TypeId) (n : Nat) (Q : List CV → Prop) : Prop :=
  ∀ (H : Type) (enc : TypeId × Value → H) (sp : Nat → Bool) (held : Bool) (fuel : Nat) (vs : List Value) (x : DataW H × List MemPlace), DataW.trod enc P w base sp held fuel t vs = some x → ∃ cs, RCs (old w) w cs vs ∧ cs.length = n ∧ Q cs
def IsStr (c : CV) : Prop := ∃ s : ByteArray, c = .sc (.string s) ∧ s.size ≤ maxLen
theorem reads_str {t : TypeId} (ht : P.underlying t = some .string) : Reads P w base t IsStr := by
  intro H enc sp held fuel vs x h
  cases fuel with
  | zero => simp [DataW.trod] at h
  | succ fuel =>
    unfold DataW.trod at h
    rw [ht] at h
    split at h <;> first | (rename_i hh; cases hh; done) | skip
    all_goals (try (rename_i hh; injection hh with hh; done))
    · split at h
      · rename_i s _ hc
        exact ⟨_, _, rfl, .sc rfl, rfl, s, rfl, hc⟩
      · cases h
    all_goals (first | (cases h; done) | (simp at h; done))
def fieldsOk (P : Program) : Nat → List Field → Bool
  | _, [] => true
  | i, f :: fs => f.offset == i && P.cellsOf f.type == 1 && (match P.underlying f.type with | some (.int .i64) => true | _ => false) && fieldsOk P (i + 1) fs
theorem fieldsOk_get {P : Program} : ∀ {fs : List Field} {i : Nat}, fieldsOk P i fs = true → ∀ (j : Nat) f, fs[j]? = some f → f.offset = i + j ∧ P.cellsOf f.type = 1 ∧ P.underlying f.type = some (.int .i64)
  | [], _, _, j, f, hf => by simp at hf
  | f0 :: fs, i, h, j, f, hf => by
    simp only [fieldsOk, Bool.and_eq_true, beq_iff_eq] at h
    obtain ⟨⟨⟨h1, h2⟩, h3⟩, h4⟩ := h
    cases j with
    | zero =>
      simp at hf; subst hf
      refine ⟨by omega, h2, ?_⟩
      split at h3
      · assumption
      · cases h3
    | succ j =>
      have := fieldsOk_get h4 j f (by simpa using hf)
      exact ⟨by omega, this.2⟩
theorem readsN_ints {t : TypeId} {n : Nat} {fs : Array Field} (ht : P.underlying t = some (.struct fs)) (hn : P.cellsOf t = n) (hs : fs.size = n) (hf : fieldsOk P 0 fs.toList = true) : ReadsN P w base t n (fun cs => ∀ c ∈ cs, IsInt c) := by
  intro H enc sp held fuel vs x h
  obtain ⟨xs, m, rfl, hx, hl, hxl, hget⟩ := DataW.trod_struct ht h
  have hp : ∀ i, i < n → ∃ v c, vs[i]? = some v ∧ RC (old w) w c v ∧ cvOk c = true ∧ IsInt c := fun i hi => by
    have hfi : fs[i]? = some (fs[i]'(by omega)) := Array.getElem?_eq_getElem _
    have hfi' : fs.toList[i]? = some (fs[i]'(by omega)) := by rw [Array.getElem?_toList]; exact hfi
    obtain ⟨h1, h2, h3⟩ := fieldsOk_get hf i _ hfi'
    have ht' := hget i _ hfi
    obtain ⟨y, hy⟩ : ∃ y, xs[i]? = some y := ⟨xs[i]'(by omega), List.getElem?_eq_getElem (by omega)⟩
    rw [hy] at ht'
    obtain ⟨v, c, e1, e2, e3, e4⟩ := reads_int h3 H enc sp held m _ y ht'
    rw [h1, h2, Nat.zero_add] at e1
    refine ⟨v, c, ?_, e2, e3, e4⟩
    have := congrArg (·[0]?) e1
    simpa [List.getElem?_take, List.getElem?_drop] using this
  obtain ⟨us, cs, hvl, hcl, hall⟩ := lists_of n hp
  have hvs : us = vs := by
    apply List.ext_getElem?
    intro i
    by_cases hi : i < n
    · have h1 : us[i]? = some us[i] := List.getElem?_eq_getElem (by omega)
      have h2 : cs[i]? = some cs[i] := List.getElem?_eq_getElem (by omega)
      rw [h1, (hall i _ _ h1 h2).1]
    · rw [List.getElem?_eq_none (by omega), List.getElem?_eq_none (by omega)]
  subst hvs
  refine ⟨cs, RCs.of_get (by omega) (fun i c v h1 h2 => ⟨(hall i v c h2 h1).2.2.1, (hall i v c h2 h1).2.1⟩), hcl, fun c hcm => ?_⟩
  obtain ⟨i, hi⟩ := List.getElem?_of_mem hcm
  have hlt : i < us.length := by have := (List.getElem?_eq_some_iff.1 hi).1; omega
  exact (hall i us[i] c (List.getElem?_eq_getElem hlt) hi).2.2.2
theorem RCs.append' {im : Addr → Prop} : ∀ {cs cs' : List CV} {vs vs' : List Value}, RCs im w cs vs → RCs im w cs' vs' → RCs im w (cs ++ cs') (vs ++ vs')
  | _, _, _, _, .nil, h => h
  | _, _, _, _, .cons hk h hs, h' => .cons hk h (RCs.append' hs h')
/-- A slice of things of n cells each. -/
def SliceOfN (n : Nat) (Q : List CV → Prop) (c : CV) : Prop := ∃ nl x css, c = .sl nl x css.flatten css.length ∧ (nl = true → x = true ∧ css = []) ∧ (∀ cs ∈ css, cs.length = n ∧ Q cs) ∧ css.length ≤ maxLen
theorem reads_sliceN {t e : TypeId} {n : Nat} {Q : List CV → Prop} (ht : P.underlying t = some (.slice e)) (hc : P.cellsOf e = n) (hq : ReadsN P w base e n Q) : Reads P w base t (SliceOfN n Q) := by
  intro H enc sp held fuel vs x h
  cases fuel with
  | zero => simp [DataW.trod] at h
  | succ fuel =>
    unfold DataW.trod at h
    rw [ht] at h
    split at h <;> first | (rename_i hh; cases hh; done) | skip
    all_goals (try (rename_i hh; injection hh with hh; done))
    · exact ⟨_, _, rfl, .nil, rfl, true, true, [], rfl, fun _ => ⟨rfl, rfl⟩, by simp, by simp [maxLen]⟩
    · rename_i e' a len cap he
      injection he with he
      injection he with he
      subst he
      simp only [hc] at h
      split at h
      · rename_i hcond
        obtain ⟨_, hle, hcap⟩ := hcond
        rw [Option.bind_eq_some_iff] at h
        obtain ⟨elems, hel, _⟩ := h
        obtain ⟨_, hget⟩ := mapM_get _ _ hel
        have hp : ∀ m, m ≤ len → ∃ (css : List (List CV)) (us : List Value), css.length = m ∧ RCs (old w) w css.flatten us ∧ us.length = m * n ∧ (∀ i v, us[i]? = some v → w.cell? (a.add i) = some v) ∧ ∀ cs ∈ css, cs.length = n ∧ Q cs := by
          intro m
          induction m with
          | zero => intro _; exact ⟨[], [], rfl, .nil, by simp, by simp, by simp⟩
          | succ m ih =>
            intro hm
            obtain ⟨css, us, h1, h2, h3, h4, h5⟩ := ih (by omega)
            obtain ⟨y, _, hf⟩ := hget m m (by rw [List.getElem?_range (by omega)])
            rw [Option.bind_eq_some_iff] at hf
            obtain ⟨us', hus, htr⟩ := hf
            obtain ⟨cs, g1, g2, g3⟩ := hq H enc sp held fuel us' y htr
            obtain ⟨l1, l2⟩ := cells_cell hus
            refine ⟨css ++ [cs], us ++ us', by simp [h1], ?_, by simp [h3, l1, Nat.succ_mul], fun i v hv => ?_, fun c hcm => ?_⟩
            · rw [List.flatten_append, List.flatten_singleton]; exact RCs.append' h2 g1
            · rcases Nat.lt_or_ge i us.length with hlt | hge
              · rw [List.getElem?_append_left hlt] at hv; exact h4 i v hv
              · rw [List.getElem?_append_right hge] at hv
                have := l2 _ v hv
                rw [add_add] at this
                have e : m * n + (i - us.length) = i := by omega
                rw [e] at this
                exact this
            · rcases List.mem_append.1 hcm with hcm | hcm
              · exact h5 c hcm
              · simp only [List.mem_singleton] at hcm; subst hcm; exact ⟨g2, g3⟩
        obtain ⟨css, us, h1, h2, h3, h4, h5⟩ := hp len (Nat.le_refl _)
        refine ⟨_, .sl false (decide (cap = len)) css.flatten css.length, rfl, ?_, rfl, false, _, css, rfl, by simp, h5, by omega⟩
        rw [h1]
        exact .sl h2 (fun i v hv => ⟨h4 i v hv, World.block_lt_of_cell? _ _ (h4 i v hv)⟩) hle (fun hx => by simpa using hx)
      · cases h
    all_goals (first | (cases h; done) | (simp at h; done))
end
theorem listN_of {α : Type} [Enc α] {n : Nat} {Q : List CV → Prop} {Pa : α → Prop} (hq : ∀ cs, cs.length = n → Q cs → ∃ a : α, Enc.enc a = cs ∧ Pa a) : ∀ {css : List (List CV)}, (∀ cs ∈ css, cs.length = n ∧ Q cs) → ∃ l : List α, cells l = css.flatten ∧ l.length = css.length ∧ ∀ a ∈ l, Pa a
  | [], _ => ⟨[], rfl, rfl, by simp⟩
  | cs :: css, h => by
    obtain ⟨h1, h2⟩ := h cs (by simp)
    obtain ⟨a, ha, hp⟩ := hq cs h1 h2
    obtain ⟨l, g1, g2, g3⟩ := listN_of hq (css := css) fun c hc => h c (by simp [hc])
    refine ⟨a :: l, ?_, by simp [g2], fun b hb => ?_⟩
    · show (a :: l).flatMap Enc.enc = _
      rw [List.flatMap_cons, ha, List.flatten_cons]
      have : l.flatMap Enc.enc = css.flatten := g1
      rw [this]
    · rcases List.mem_cons.1 hb with rfl | hb
      · exact hp
      · exact g3 b hb
theorem slN_of {α : Type} [Enc α] {n : Nat} {Q : List CV → Prop} {Pa : α → Prop} (hq : ∀ cs, cs.length = n → Q cs → ∃ a : α, Enc.enc a = cs ∧ Pa a) {c : CV} (h : SliceOfN n Q c) : ∃ s : Sl α, c = eSl s ∧ (∀ a ∈ s.l, Pa a) ∧ s.l.length ≤ maxLen := by
  obtain ⟨nl, x, css, rfl, _, h2, h3⟩ := h
  obtain ⟨l, g1, g2, g3⟩ := listN_of hq h2
  refine ⟨⟨nl, x, l⟩, ?_, g3, by show l.length ≤ _; omega⟩
  simp only [eSl, g1, g2]
theorem int_of {c : CV} (h : IsInt c) : ∃ n : Int, c = cInt n ∧ InR n := by
  obtain ⟨n, rfl, hw⟩ := h
  refine ⟨n, rfl, ?_⟩
  simp [Lit.wf, IntKind.min, IntKind.max, IntKind.signed, IntKind.bits] at hw
  unfold InR
  exact hw

/-- A call of the law's that comes to true. -/
theorem law_callsC [Gl] {X : Sys} (hm : X.P.follows .mixedOrders = true) (hp : ∀ f p, X.pr f = some p → PrimOk X.P f p) {f : FuncId} {args : List DV} {vs : List Value} {w : World} (hgl : (∀ a, Gl.as a → a.block < w.heap.size) ∧ Gl.ok w) (h : X.RunsC f args (dB true))
    (hr : RDs ⟨old w, w, [], fun _ => ⟨0, 0, 0⟩, []⟩ args vs) : Calls X.P f ⟨vs⟩ w fun en w' => en = .returned (.bool true) ∧ Keep w.heap.size (fun _ => False) (fun _ => False) w w' := by
  obtain ⟨k, hk⟩ := h
  obtain ⟨d', m', h1, h2⟩ := hk k (Nat.le_refl _)
  refine (call_closed hgl hm X.an hp h1 hr).mono fun en w' ⟨v, e', s, he, _, hd, hkeep⟩ => ?_
  subst he
  refine ⟨?_, hkeep⟩
  have hd' : d' = dB true := by
    cases d' with
    | c v => simp only [closeTop] at h2; exact Option.some.inj h2
    | ap => simp [closeTop, dB] at h2
    | tup ds =>
      simp only [closeTop, Option.map_eq_some_iff] at h2
      obtain ⟨_, _, h2⟩ := h2
      cases h2
    | agg ds =>
      simp only [closeTop, Option.map_eq_some_iff, closeD] at h2
      obtain ⟨a, ⟨b, _, rfl⟩, h2⟩ := h2
      cases h2
    | ms id ver off len esz x =>
      simp only [closeTop, Option.map_eq_some_iff, closeD] at h2
      obtain ⟨a, h1, h2⟩ := h2
      split at h1
      · simp only [Option.map_eq_some_iff, Option.bind_eq_some_iff] at h1
        obtain ⟨_, _, _, _, rfl⟩ := h1
        cases h2
      · cases h1
    | un => simp [closeTop, closeD] at h2
    | pt => simp [closeTop, closeD] at h2
    | ia => simp [closeTop, closeD] at h2
    | fn => simp [closeTop, closeD] at h2
    | yl => simp [closeTop, closeD] at h2
    | er => simp [closeTop, closeD] at h2
  subst hd'
  cases hd with
  | c h => cases h with | sc h => rfl
end Go.Abs
