/-
  Abs45: arguments that are structures of any fields, of recursive types too: every reading is the cells of a Lean value.
-/
import Derived.Test.YtkfmoodaplelnaaAbs35
set_option linter.unusedVariables false
set_option linter.unusedSimpArgs false
set_option linter.unusedSectionVars false
namespace Go.Abs
open Go Go.ChangeShapes Go.WideShapes Go.ChangeAt Go.RowKit
section
variable {P : Program} {w : World} {base : Nat}
/-- Whatever is read of the type, with fuel F at most, is the cells of a value of α. -/
def RdE (P : Program) (w : World) (base : Nat) (F : Nat) (t : TypeId) (α : Type) [Enc α] : Prop :=
  ∀ (H : Type) (enc : TypeId × Value → H) (sp : Nat → Bool) (held : Bool) (fuel : Nat) (vs : List Value) (x : DataW H × List MemPlace), fuel ≤ F → DataW.trod enc P w base sp held fuel t vs = some x → ∃ a : α, RCs (old w) w (Enc.enc a) vs
theorem RdE.le {F F' : Nat} {t : TypeId} {α : Type} [Enc α] (h : RdE P w base F t α) (hl : F' ≤ F) : RdE P w base F' t α := fun H enc sp held fuel vs x hf => h H enc sp held fuel vs x (Nat.le_trans hf hl)
theorem rdE_zero {t : TypeId} {α : Type} [Enc α] : RdE P w base 0 t α := fun H enc sp held fuel vs x hF h => by
  have : fuel = 0 := by omega
  subst this
  simp [DataW.trod] at h
theorem rdE_int {F : Nat} {t : TypeId} (ht : P.underlying t = some (.int .i64)) : RdE P w base F t Int := fun H enc sp held fuel vs x _ h => by
  obtain ⟨v, c, rfl, h1, h2, h3⟩ := reads_int ht H enc sp held fuel vs x h
  obtain ⟨n, rfl, _⟩ := int_of h3
  exact ⟨n, .cons h2 h1 .nil⟩
theorem rdE_str {F : Nat} {t : TypeId} (ht : P.underlying t = some .string) : RdE P w base F t ByteArray := fun H enc sp held fuel vs x _ h => by
  obtain ⟨v, c, rfl, h1, h2, s, rfl, _⟩ := reads_str ht H enc sp held fuel vs x h
  exact ⟨s, .cons h2 h1 .nil⟩
theorem rdE_bool {F : Nat} {t : TypeId} (ht : P.underlying t = some .bool) : RdE P w base F t Bool := fun H enc sp held fuel vs x _ h => by
  cases fuel with
  | zero => simp [DataW.trod] at h
  | succ fuel =>
    unfold DataW.trod at h
    rw [ht] at h
    split at h <;> first | (rename_i hh; cases hh; done) | skip
    all_goals (try (rename_i hh; injection hh with hh; done))
    · exact ⟨_, .cons rfl (.sc rfl) .nil⟩
    all_goals (first | (cases h; done) | (simp at h; done))
theorem RCs.len {im : Addr → Prop} : ∀ {cs : List CV} {vs : List Value}, RCs im w cs vs → cs.length = vs.length
  | _, _, .nil => rfl
  | _, _, .cons _ _ h => by simp [RCs.len h]
theorem rdE_slice {F : Nat} {t e : TypeId} {α : Type} [Enc α] (ht : P.underlying t = some (.slice e)) (hc : P.cellsOf e = Enc.sz α) (hq : RdE P w base F e α) : RdE P w base (F + 1) t (Sl α) := by
  intro H enc sp held fuel vs x hF h
  rcases DataW.trod_slice ht h with ⟨rfl, _⟩ | ⟨a, len, cap, elems, rest, n, rfl, rfl, _, _, hle, hcap, hel, hget, _, _⟩
  · exact ⟨⟨true, true, []⟩, .cons rfl .nil .nil⟩
  · have hp : ∀ m, m ≤ len → ∃ (l : List α) (us : List Value), l.length = m ∧ RCs (old w) w (cells l) us ∧ us.length = m * Enc.sz α ∧ (∀ i v, us[i]? = some v → w.cell? (a.add i) = some v) := by
      intro m
      induction m with
      | zero => intro _; exact ⟨[], [], rfl, .nil, by simp, by simp⟩
      | succ m ih =>
        intro hm
        obtain ⟨l, us, h1, h2, h3, h4⟩ := ih (by omega)
        have hg := hget m (by omega)
        have hlt : m < elems.length := by omega
        rw [List.getElem?_eq_getElem hlt, Option.bind_eq_some_iff] at hg
        obtain ⟨us', hus, htr⟩ := hg
        rw [hc] at hus
        obtain ⟨b, g1⟩ := hq H enc sp held n us' _ (by omega) htr
        obtain ⟨l1, l2⟩ := cells_cell hus
        refine ⟨l ++ [b], us ++ us', by simp [h1], ?_, by simp [h3, l1, Nat.succ_mul], fun i v hv => ?_⟩
        · have : cells (l ++ [b]) = cells l ++ Enc.enc b := by simp [cells]
          rw [this]; exact RCs.append' h2 g1
        · rcases Nat.lt_or_ge i us.length with hlt | hge
          · rw [List.getElem?_append_left hlt] at hv; exact h4 i v hv
          · rw [List.getElem?_append_right hge] at hv
            have := l2 _ v hv
            rw [add_add] at this
            have e : m * Enc.sz α + (i - us.length) = i := by omega
            rw [e] at this
            exact this
    obtain ⟨l, us, h1, h2, h3, h4⟩ := hp len (Nat.le_refl _)
    refine ⟨⟨false, decide (cap = len), l⟩, .cons rfl ?_ .nil⟩
    show RC (old w) w (.sl false (decide (cap = len)) (cells l) l.length) _
    rw [h1]
    exact .sl h2 (fun i v hv => ⟨h4 i v hv, World.block_lt_of_cell? _ _ (h4 i v hv)⟩) hle (fun hx => by simpa using hx)
/-- A structure's fields, one behind the other. -/
def partsOk (P : Program) : Nat → List Field → List (TypeId × Nat) → Bool
  | _, [], [] => true
  | i, f :: fs, (t, n) :: l => f.offset == i && f.type == t && P.cellsOf t == n && partsOk P (i + n) fs l
  | _, _, _ => false
def Parts {H : Type} (enc : TypeId × Value → H) (P : Program) (w : World) (base : Nat) (sp : Nat → Bool) (held : Bool) (m : Nat) : List (TypeId × Nat) → List Value → Prop
  | [], vs => vs = []
  | (t, n) :: l, vs => (∃ x, DataW.trod enc P w base sp held m t (vs.take n) = some x) ∧ Parts enc P w base sp held m l (vs.drop n)
def sumN : List (TypeId × Nat) → Nat
  | [] => 0
  | (_, n) :: l => n + sumN l
theorem parts_of {H : Type} {enc : TypeId × Value → H} {sp : Nat → Bool} {held : Bool} {m : Nat} {vs : List Value} : ∀ {fs : List Field} {l : List (TypeId × Nat)} {i : Nat}, partsOk P i fs l = true → vs.length = i + sumN l →
    (∀ (j : Nat) (f : Field), fs[j]? = some f → ∃ x, DataW.trod enc P w base sp held m f.type ((vs.drop f.offset).take (P.cellsOf f.type)) = some x) → Parts enc P w base sp held m l (vs.drop i)
  | [], [], i, _, hl, _ => by
    show vs.drop i = []
    exact List.drop_eq_nil_of_le (by simp [sumN] at hl; omega)
  | f :: fs, (t, n) :: l, i, h, hl, hg => by
    simp only [partsOk, Bool.and_eq_true, beq_iff_eq] at h
    obtain ⟨⟨⟨h1, h2⟩, h3⟩, h4⟩ := h
    have h0 := hg 0 f rfl
    rw [h1, h2, h3] at h0
    refine ⟨h0, ?_⟩
    rw [List.drop_drop]
    exact parts_of h4 (by simp [sumN] at hl; omega) fun j f hf => hg (j + 1) f (by simpa using hf)
  | [], _ :: _, _, h, _, _ => by simp [partsOk] at h
  | _ :: _, [], _, h, _, _ => by simp [partsOk] at h
theorem struct_parts {H : Type} {enc : TypeId × Value → H} {sp : Nat → Bool} {held : Bool} {fuel : Nat} {t : TypeId} {fs : Array Field} {l : List (TypeId × Nat)} {vs : List Value} {x : DataW H × List MemPlace} (ht : P.underlying t = some (.struct fs)) (hp : partsOk P 0 fs.toList l = true) (hn : P.cellsOf t = sumN l)
    (h : DataW.trod enc P w base sp held fuel t vs = some x) : ∃ m, fuel = m + 1 ∧ Parts enc P w base sp held m l vs := by
  obtain ⟨xs, m, rfl, _, hl, hxl, hget⟩ := DataW.trod_struct ht h
  refine ⟨m, rfl, ?_⟩
  have := parts_of (enc := enc) (w := w) (base := base) (sp := sp) (held := held) (m := m) (vs := vs) hp (by omega) (fun j f hf => by
    have hf' : fs[j]? = some f := by rw [← Array.getElem?_toList]; exact hf
    have hj : j < xs.length := by rw [hxl]; exact (Array.getElem?_eq_some_iff.1 hf').1
    exact ⟨_, (hget j f hf').trans (List.getElem?_eq_getElem hj)⟩)
  simpa using this
theorem RCs.parts {im : Addr → Prop} {n : Nat} {cs cs' : List CV} {vs : List Value} (h : RCs im w cs (vs.take n)) (h' : RCs im w cs' (vs.drop n)) : RCs im w (cs ++ cs') vs := by
  have := RCs.append' h h'
  rwa [List.take_append_drop] at this
theorem RCs.nil' {im : Addr → Prop} {vs : List Value} (h : vs = []) : RCs im w [] vs := by subst h; exact .nil
/-- An argument, closed. -/
theorem rdE_arg {t : TypeId} {α : Type} [Enc α] (hq : ∀ F, RdE P w base F t α) {H : Type} {enc : TypeId × Value → H} {sp : Nat → Bool} {held : Bool} {vs : Array Value} {d : DataW H} {ps : List MemPlace} (h : DataW.Trod enc P w base sp held t (.agg vs) d ps) : ∃ a : α, RC (old w) w (.agg (Enc.enc a)) (.agg vs) := by
  obtain ⟨fuel, hf⟩ := h
  obtain ⟨a, h1⟩ := hq fuel H enc sp held fuel _ _ (Nat.le_refl _) hf
  exact ⟨a, by cases vs; exact .agg h1⟩
theorem rdE_arg1 {t : TypeId} {α : Type} [Enc α] (hs : Enc.sz α = 1) (hq : ∀ F, RdE P w base F t α) {H : Type} {enc : TypeId × Value → H} {sp : Nat → Bool} {held : Bool} {v : Value} {d : DataW H} {ps : List MemPlace} (h : DataW.Trod enc P w base sp held t v d ps) (hv : v.oneCell' = true) : ∃ (a : α) (c : CV), Enc.enc a = [c] ∧ RC (old w) w c v := by
  obtain ⟨fuel, hf⟩ := h
  obtain ⟨a, h1⟩ := hq fuel H enc sp held fuel _ _ (Nat.le_refl _) hf
  rw [cells_one hv] at h1
  have hl : (Enc.enc a).length = 1 := (Enc.len a).trans hs
  obtain ⟨c, hc⟩ := List.length_eq_one_iff.1 hl
  rw [hc] at h1
  cases h1 with
  | cons _ h _ => exact ⟨a, c, hc, h⟩
end
end Go.Abs
