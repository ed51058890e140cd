/-
  Part of the proof: printed by the session's own program out of the program's form, or typed; it states no claim by itself.
-/
import Derived.Test.YtkfmoodaplelnaaAbs34
import Derived.Test.YtkfmoodaplelnaaAbs27
import Derived.ChangeArms
import Derived.Lib.Split
import Derived.Lib.SplitLaws
import Derived.Handed
import Derived.WideShapes
import Derived.Shelf.Vars
/-
  Abs35: arguments of several cells (structures of numbers, slices of them), texts; a law's call out of a closed run.
-/
set_option linter.unusedVariables false
set_option linter.unusedSimpArgs false
set_option linter.unusedSectionVars false
namespace Go.Abs
open Go Go.ChangeShapes Go.WideShapes Go.ChangeAt Go.RowKit
variable [Fl]

section
variable {H : Type} {enc : TypeId × Value → H} {P : Program} {w : World} {base : Nat} {sp : Nat → Bool} {held : Bool}

def ReadsN (P : Program) (w : World) (base : Nat) (t : TypeId) (n : Nat) (Q : List CV → Prop) : Prop :=
  ∀ (H : Type) (enc : TypeId × Value → H) (sp : Nat → Bool) (held : Bool) (fuel : Nat) (vs : List Value) (x : DataW H × List MemPlace), DataW.trod enc P w base sp held fuel t vs = some x → ∃ cs, RCs (old w) w cs vs ∧ cs.length = n ∧ Q cs
def IsStr (c : CV) : Prop := ∃ s : ByteArray, c = .sc (.string s) ∧ s.size ≤ maxLen
theorem reads_str {t : TypeId} (ht : P.underlying t = some .string) : Reads P w base t IsStr := by
  intro H enc sp held fuel vs x h
  cases fuel with
  | zero => simp [DataW.trod] at h
  | succ fuel =>
    unfold DataW.trod at h
    rw [ht] at h
    split at h <;> first | (rename_i hh; cases hh; done) | skip
    all_goals (try (rename_i hh; injection hh with hh; done))
    · split at h
      · rename_i s _ hc
        exact ⟨_, _, rfl, .sc rfl, rfl, s, rfl, hc⟩
      · cases h
    all_goals (first | (cases h; done) | (simp at h; done))
def fieldsOk (P : Program) : Nat → List Field → Bool
  | _, [] => true
  | i, f :: fs => f.offset == i && P.cellsOf f.type == 1 && (match P.underlying f.type with | some (.int .i64) => true | _ => false) && fieldsOk P (i + 1) fs
theorem fieldsOk_get {P : Program} : ∀ {fs : List Field} {i : Nat}, fieldsOk P i fs = true → ∀ (j : Nat) f, fs[j]? = some f → f.offset = i + j ∧ P.cellsOf f.type = 1 ∧ P.underlying f.type = some (.int .i64)
  | [], _, _, j, f, hf => by simp at hf
  | f0 :: fs, i, h, j, f, hf => by
    simp only [fieldsOk, Bool.and_eq_true, beq_iff_eq] at h
    obtain ⟨⟨⟨h1, h2⟩, h3⟩, h4⟩ := h
    cases j with
    | zero =>
      simp at hf; subst hf
      refine ⟨by omega, h2, ?_⟩
      split at h3
      · assumption
      · cases h3
    | succ j =>
      have := fieldsOk_get h4 j f (by simpa using hf)
      exact ⟨by omega, this.2⟩
theorem readsN_ints {t : TypeId} {n : Nat} {fs : Array Field} (ht : P.underlying t = some (.struct fs)) (hn : P.cellsOf t = n) (hs : fs.size = n) (hf : fieldsOk P 0 fs.toList = true) : ReadsN P w base t n (fun cs => ∀ c ∈ cs, IsInt c) := by
  intro H enc sp held fuel vs x h
  obtain ⟨xs, m, rfl, hx, hl, hxl, hget⟩ := DataW.trod_struct ht h
  have hp : ∀ i, i < n → ∃ v c, vs[i]? = some v ∧ RC (old w) w c v ∧ cvOk c = true ∧ IsInt c := fun i hi => by
    have hfi : fs[i]? = some (fs[i]'(by omega)) := Array.getElem?_eq_getElem _
    have hfi' : fs.toList[i]? = some (fs[i]'(by omega)) := by rw [Array.getElem?_toList]; exact hfi
    obtain ⟨h1, h2, h3⟩ := fieldsOk_get hf i _ hfi'
    have ht' := hget i _ hfi
    obtain ⟨y, hy⟩ : ∃ y, xs[i]? = some y := ⟨xs[i]'(by omega), List.getElem?_eq_getElem (by omega)⟩
    rw [hy] at ht'
    obtain ⟨v, c, e1, e2, e3, e4⟩ := reads_int h3 H enc sp held m _ y ht'
    rw [h1, h2, Nat.zero_add] at e1
    refine ⟨v, c, ?_, e2, e3, e4⟩
    have := congrArg (·[0]?) e1
    simpa [List.getElem?_take, List.getElem?_drop] using this
  obtain ⟨us, cs, hvl, hcl, hall⟩ := lists_of n hp
  have hvs : us = vs := by
    apply List.ext_getElem?
    intro i
    by_cases hi : i < n
    · have h1 : us[i]? = some us[i] := List.getElem?_eq_getElem (by omega)
      have h2 : cs[i]? = some cs[i] := List.getElem?_eq_getElem (by omega)
      rw [h1, (hall i _ _ h1 h2).1]
    · rw [List.getElem?_eq_none (by omega), List.getElem?_eq_none (by omega)]
  subst hvs
  refine ⟨cs, RCs.of_get (by omega) (fun i c v h1 h2 => ⟨(hall i v c h2 h1).2.2.1, (hall i v c h2 h1).2.1⟩), hcl, fun c hcm => ?_⟩
  obtain ⟨i, hi⟩ := List.getElem?_of_mem hcm
  have hlt : i < us.length := by have := (List.getElem?_eq_some_iff.1 hi).1; omega
  exact (hall i us[i] c (List.getElem?_eq_getElem hlt) hi).2.2.2
theorem RCs.append' {im : Addr → Prop} : ∀ {cs cs' : List CV} {vs vs' : List Value}, RCs im w cs vs → RCs im w cs' vs' → RCs im w (cs ++ cs') (vs ++ vs')
  | _, _, _, _, .nil, h => h
  | _, _, _, _, .cons hk h hs, h' => .cons hk h (RCs.append' hs h')
/-- A slice of things of n cells each. -/
def SliceOfN (n : Nat) (Q : List CV → Prop) (c : CV) : Prop := ∃ nl x css, c = .sl nl x css.flatten css.length ∧ (nl = true → x = true ∧ css = []) ∧ (∀ cs ∈ css, cs.length = n ∧ Q cs) ∧ css.length ≤ maxLen
theorem reads_sliceN {t e : TypeId} {n : Nat} {Q : List CV → Prop} (ht : P.underlying t = some (.slice e)) (hc : P.cellsOf e = n) (hq : ReadsN P w base e n Q) : Reads P w base t (SliceOfN n Q) := by
  intro H enc sp held fuel vs x h
  cases fuel with
  | zero => simp [DataW.trod] at h
  | succ fuel =>
    unfold DataW.trod at h
    rw [ht] at h
    split at h <;> first | (rename_i hh; cases hh; done) | skip
    all_goals (try (rename_i hh; injection hh with hh; done))
    · exact ⟨_, _, rfl, .nil, rfl, true, true, [], rfl, fun _ => ⟨rfl, rfl⟩, by simp, by simp [maxLen]⟩
    · rename_i e' a len cap he
      injection he with he
      injection he with he
      subst he
      simp only [hc] at h
      split at h
      · rename_i hcond
        obtain ⟨_, hle, hcap⟩ := hcond
        rw [Option.bind_eq_some_iff] at h
        obtain ⟨elems, hel, _⟩ := h
        obtain ⟨_, hget⟩ := mapM_get _ _ hel
        have hp : ∀ m, m ≤ len → ∃ (css : List (List CV)) (us : List Value), css.length = m ∧ RCs (old w) w css.flatten us ∧ us.length = m * n ∧ (∀ i v, us[i]? = some v → w.cell? (a.add i) = some v) ∧ ∀ cs ∈ css, cs.length = n ∧ Q cs := by
          intro m
          induction m with
          | zero => intro _; exact ⟨[], [], rfl, .nil, by simp, by simp, by simp⟩
          | succ m ih =>
            intro hm
            obtain ⟨css, us, h1, h2, h3, h4, h5⟩ := ih (by omega)
            obtain ⟨y, _, hf⟩ := hget m m (by rw [List.getElem?_range (by omega)])
            rw [Option.bind_eq_some_iff] at hf
            obtain ⟨us', hus, htr⟩ := hf
            obtain ⟨cs, g1, g2, g3⟩ := hq H enc sp held fuel us' y htr
            obtain ⟨l1, l2⟩ := cells_cell hus
            refine ⟨css ++ [cs], us ++ us', by simp [h1], ?_, by simp [h3, l1, Nat.succ_mul], fun i v hv => ?_, fun c hcm => ?_⟩
            · rw [List.flatten_append, List.flatten_singleton]; exact RCs.append' h2 g1
            · rcases Nat.lt_or_ge i us.length with hlt | hge
              · rw [List.getElem?_append_left hlt] at hv; exact h4 i v hv
              · rw [List.getElem?_append_right hge] at hv
                have := l2 _ v hv
                rw [add_add] at this
                have e : m * n + (i - us.length) = i := by omega
                rw [e] at this
                exact this
            · rcases List.mem_append.1 hcm with hcm | hcm
              · exact h5 c hcm
              · simp only [List.mem_singleton] at hcm; subst hcm; exact ⟨g2, g3⟩
        obtain ⟨css, us, h1, h2, h3, h4, h5⟩ := hp len (Nat.le_refl _)
        refine ⟨_, .sl false (decide (cap = len)) css.flatten css.length, rfl, ?_, rfl, false, _, css, rfl, by simp, h5, by omega⟩
        rw [h1]
        exact .sl h2 (fun i v hv => ⟨h4 i v hv, World.block_lt_of_cell? _ _ (h4 i v hv)⟩) hle (fun hx => by simpa using hx)
      · cases h
    all_goals (first | (cases h; done) | (simp at h; done))
end
theorem listN_of {α : Type} [Enc α] {n : Nat} {Q : List CV → Prop} {Pa : α → Prop} (hq : ∀ cs, cs.length = n → Q cs → ∃ a : α, Enc.enc a = cs ∧ Pa a) : ∀ {css : List (List CV)}, (∀ cs ∈ css, cs.length = n ∧ Q cs) → ∃ l : List α, cells l = css.flatten ∧ l.length = css.length ∧ ∀ a ∈ l, Pa a
  | [], _ => ⟨[], rfl, rfl, by simp⟩
  | cs :: css, h => by
    obtain ⟨h1, h2⟩ := h cs (by simp)
    obtain ⟨a, ha, hp⟩ := hq cs h1 h2
    obtain ⟨l, g1, g2, g3⟩ := listN_of hq (css := css) fun c hc => h c (by simp [hc])
    refine ⟨a :: l, ?_, by simp [g2], fun b hb => ?_⟩
    · show (a :: l).flatMap Enc.enc = _
      rw [List.flatMap_cons, ha, List.flatten_cons]
      have : l.flatMap Enc.enc = css.flatten := g1
      rw [this]
    · rcases List.mem_cons.1 hb with rfl | hb
      · exact hp
      · exact g3 b hb
theorem slN_of {α : Type} [Enc α] {n : Nat} {Q : List CV → Prop} {Pa : α → Prop} (hq : ∀ cs, cs.length = n → Q cs → ∃ a : α, Enc.enc a = cs ∧ Pa a) {c : CV} (h : SliceOfN n Q c) : ∃ s : Sl α, c = eSl s ∧ (∀ a ∈ s.l, Pa a) ∧ s.l.length ≤ maxLen := by
  obtain ⟨nl, x, css, rfl, _, h2, h3⟩ := h
  obtain ⟨l, g1, g2, g3⟩ := listN_of hq h2
  refine ⟨⟨nl, x, l⟩, ?_, g3, by show l.length ≤ _; omega⟩
  simp only [eSl, g1, g2]
theorem int_of {c : CV} (h : IsInt c) : ∃ n : Int, c = cInt n ∧ InR n := by
  obtain ⟨n, rfl, hw⟩ := h
  refine ⟨n, rfl, ?_⟩
  simp [Lit.wf, IntKind.min, IntKind.max, IntKind.signed, IntKind.bits] at hw
  unfold InR
  exact hw

/-- A call of the law's that comes to true. -/
theorem law_callsC [Gl] {X : Sys} (hm : X.P.follows .mixedOrders = true) (hp : ∀ f p, X.pr f = some p → PrimOk X.P f p) {f : FuncId} {args : List DV} {vs : List Value} {w : World} (hgl : (∀ a, Gl.as a → a.block < w.heap.size) ∧ Gl.ok w) (h : X.RunsC f args (dB true))
    (hr : RDs ⟨old w, w, [], fun _ => ⟨0, 0, 0⟩, []⟩ args vs) : Calls X.P f ⟨vs⟩ w fun en w' => en = .returned (.bool true) ∧ Keep w.heap.size (fun _ => False) (fun _ => False) w w' := by
  obtain ⟨k, hk⟩ := h
  obtain ⟨d', m', h1, h2⟩ := hk k (Nat.le_refl _)
  refine (call_closed hgl hm X.an hp h1 hr).mono fun en w' ⟨v, e', s, he, _, hd, hkeep⟩ => ?_
  subst he
  refine ⟨?_, hkeep⟩
  have hd' : d' = dB true := by
    cases d' with
    | c v => simp only [closeTop] at h2; exact Option.some.inj h2
    | ap => simp [closeTop, dB] at h2
    | tup ds =>
      simp only [closeTop, Option.map_eq_some_iff] at h2
      obtain ⟨_, _, h2⟩ := h2
      cases h2
    | agg ds =>
      simp only [closeTop, Option.map_eq_some_iff, closeD] at h2
      obtain ⟨a, ⟨b, _, rfl⟩, h2⟩ := h2
      cases h2
    | ms id ver off len esz x =>
      simp only [closeTop, Option.map_eq_some_iff, closeD] at h2
      obtain ⟨a, h1, h2⟩ := h2
      split at h1
      · simp only [Option.map_eq_some_iff, Option.bind_eq_some_iff] at h1
        obtain ⟨_, _, _, _, rfl⟩ := h1
        cases h2
      · cases h1
    | un => simp [closeTop, closeD] at h2
    | pt => simp [closeTop, closeD] at h2
    | ia => simp [closeTop, closeD] at h2
    | fn => simp [closeTop, closeD] at h2
    | yl => simp [closeTop, closeD] at h2
    | er => simp [closeTop, closeD] at h2
    | mp => simp [closeTop, closeD] at h2
    | mi => simp [closeTop, closeD] at h2
  subst hd'
  cases hd with
  | c h => cases h with | sc h => rfl
end Go.Abs

/-
  Abs36: functions of the library as one step each: strconv.FormatInt and ParseInt at base 10, strings.Split: what they say.
-/
set_option linter.unusedVariables false
set_option linter.unusedSimpArgs false
set_option linter.unusedSectionVars false
namespace Go.Abs
open Go Go.RowKit

/-! ### strconv.FormatInt(n, 10) -/
def fmtIntP (st : List Ob) : List DV → Option Out
  | [.c (.sc (.int .i64 n)), .c (.sc (.int .i64 b))] => if b = 10 ∧ -9223372036854775808 ≤ n ∧ n ≤ 9223372036854775807 then some { d := .c (.sc (.string (itoaB n))) } else none
  | _ => none
theorem fmtIntP_eq (st : List Ob) {n : Int} (h : InR n) : fmtIntP st [dInt n, dInt 10] = some { d := .c (.sc (.string (itoaB n))) } := by
  have : -9223372036854775808 ≤ n ∧ n ≤ 9223372036854775807 := h
  simp only [fmtIntP, dInt, cInt]
  rw [if_pos ⟨trivial, this⟩]
theorem fmtInt_ok [Gl] {P : Program} {f : FuncId} (hc : ∀ n w, -9223372036854775808 ≤ n → n ≤ 9223372036854775807 → Gl.ok w → Calls P f #[.int .i64 n, .int .i64 10] w fun e w' => e = .returned (.string ⟨(Lib.itoa n).toArray⟩) ∧ Below w.heap.size w w') : PrimOk P f fmtIntP := by
  refine prim_below (fun st args r h => ?_) (fun st st' args => ?_) (fun st args d e vs h hg hr => ?_)
  · unfold fmtIntP at h
    split at h
    · split at h
      · cases h; exact ⟨_, rfl⟩
      · cases h
    · cases h
  · unfold fmtIntP; rfl
  · unfold fmtIntP at h
    split at h
    · split at h
      · rename_i n b hn
        cases h
        obtain ⟨rfl, hn⟩ := hn
        cases hr with
        | cons hd hrs =>
          cases hrs with
          | cons hd2 hrs =>
          cases hrs
          cases hd with
          | c h1 => cases hd2 with
            | c h2 => cases h1 with
              | sc h1 =>
                cases h2 with
                | sc h2 =>
                  refine (hc n e.w hn.1 hn.2 hg.ok).mono fun en w' ⟨he, hb⟩ => ⟨_, he, hb, fun e' _ => ?_⟩
                  rw [← itoaL_eq (show InR n from hn)]
                  exact .c (.sc rfl)
      · cases h
    · cases h

/-! ### strconv.ParseInt(s, 10, 64) -/
def parseIntP (st : List Ob) : List DV → Option Out
  | [.c (.sc (.string s)), .c (.sc (.int .i64 b)), .c (.sc (.int .i64 c))] => if b = 10 ∧ c = 64 ∧ s.size ≤ 281474976710656 then some { d := .tup [dInt (atoiR s).1, .er (atoiR s).2] } else none
  | _ => none
theorem parseIntP_eq (st : List Ob) {s : ByteArray} (h : s.size ≤ 281474976710656) : parseIntP st [.c (.sc (.string s)), dInt 10, dInt 64] = some { d := .tup [dInt (atoiR s).1, .er (atoiR s).2] } := by
  simp only [parseIntP, dInt, cInt]
  rw [if_pos ⟨trivial, trivial, h⟩]
theorem parseInt_ok [Gl] {P : Program} {f : FuncId} (hc : ∀ s w, s.size ≤ 281474976710656 → Gl.ok w → Calls P f #[.string s, .int .i64 10, .int .i64 64] w fun e w' => ∃ v, e = .returned (.tuple #[.int .i64 (atoiR s).1, v]) ∧ erV (atoiR s).2 v ∧ Below w.heap.size w w') : PrimOk P f parseIntP := by
  refine prim_below (fun st args r h => ?_) (fun st st' args => ?_) (fun st args d e vs h hg hr => ?_)
  · unfold parseIntP at h
    split at h
    · split at h
      · cases h; exact ⟨_, rfl⟩
      · cases h
    · cases h
  · unfold parseIntP; rfl
  · unfold parseIntP at h
    split at h
    · split at h
      · rename_i s b c hs
        cases h
        obtain ⟨rfl, rfl, hs⟩ := hs
        cases hr with
        | cons hd hrs =>
          cases hrs with
          | cons hd2 hrs =>
          cases hrs with
          | cons hd3 hrs =>
          cases hrs
          cases hd with
          | c h1 => cases hd2 with
            | c h2 => cases hd3 with
              | c h3 => cases h1 with
                | sc h1 =>
                  cases h2 with
                  | sc h2 =>
                    cases h3 with
                    | sc h3 => exact (hc s e.w hs hg.ok).mono fun en w' ⟨v, he, hv, hb⟩ => ⟨_, he, hb, fun e' _ => .tup (.cons (.c (.sc rfl)) (.cons (.er hv) .nil))⟩
      · cases h
    · cases h

/-! ### strings.Split -/
def splitS (s sep : ByteArray) : List ByteArray := (Lib.split s.data.toList sep.data.toList).map fun l => ⟨l.toArray⟩
theorem splitB_eq (s sep : ByteArray) : Lib.splitB sep 0 (Lib.countB s sep) s = splitS s sep := by
  have h := Lib.splitB_data sep 0 (Lib.countB s sep) s
  unfold splitS Lib.split
  have hc : Lib.countB s sep = Lib.count s.data.toList sep.data.toList := rfl
  rw [← hc, ← h, List.map_map]
  conv => lhs; rw [← List.map_id (Lib.splitB sep 0 (Lib.countB s sep) s)]
  exact List.map_congr_left fun a _ => by simp
def splitP (st : List Ob) : List DV → Option Out
  | [.c (.sc (.string s)), .c (.sc (.string sep))] => if s.size < 4294967281 ∧ 1 ≤ sep.size then some { d := .c (.sl false true (cells (splitS s sep)) (splitS s sep).length) } else none
  | _ => none
theorem splitP_eq (st : List Ob) {s sep : ByteArray} (h : s.size < 4294967281) (h1 : 1 ≤ sep.size) : splitP st [.c (.sc (.string s)), .c (.sc (.string sep))] = some { d := .c (.sl false true (cells (splitS s sep)) (splitS s sep).length) } := by
  simp only [splitP, if_pos (And.intro h h1)]
theorem rcs_strs {im : Addr → Prop} {w : World} : ∀ xs : List ByteArray, RCs im w (cells xs) (xs.map Value.string)
  | [] => .nil
  | _ :: xs => .cons rfl (.sc rfl) (rcs_strs xs)
theorem split_ok [Gl] {P : Program} {f : FuncId} {T : TypeId} (hc : ∀ s sep w, s.size < 4294967281 → 1 ≤ sep.size → Gl.ok w → Calls P f #[.string s, .string sep] w fun e w' =>
    e = .returned (.slice (some ⟨w.heap.size, 0, none⟩) (splitS s sep).length (splitS s sep).length) ∧ w' = w.alloc (.cells ((splitS s sep).map Value.string).toArray T)) : PrimOk P f splitP := by
  refine ⟨fun st args r h => ?_, fun st args r h id o ho => ?_, fun st st' args _ => by unfold splitP; rfl, fun m args r h Γ n0 PR e reg vs n st hres hns hr => ?_⟩
  · unfold splitP at h
    split at h
    · split at h
      · cases h; rfl
      · cases h
    · cases h
  · unfold splitP at h
    split at h
    · split at h
      · cases h; cases ho
      · cases h
    · cases h
  · unfold splitP at h
    split at h
    · rename_i s sep
      split at h
      · rename_i hs
        cases h
        cases hr with
        | cons hd hrs =>
          cases hrs with
          | cons hd2 hrs =>
          cases hrs
          cases hd with
          | c h1 => cases hd2 with
            | c h2 => cases h1 with
              | sc h1 =>
                cases h2 with
                | sc h2 =>
                  refine callsIn_wide.2 ((hc s sep e.w hs.1 hs.2 st.gi.gl.ok).mono fun en w' ⟨he, hw⟩ => ?_)
                  subst he
                  subst hw
                  obtain ⟨mi, xx⟩ := st.mi.imm hres ((splitS s sep).map Value.string) T ((splitS s sep).map Value.string).length
                  have hk := fun X => alloc_keep (n0 := n0) (PR := PR) (X := X) (.cells ((splitS s sep).map Value.string).toArray T) st.mi.n0le st.mi.prlt
                  refine ⟨{ e with w := e.w.alloc (.cells ((splitS s sep).map Value.string).toArray T), im := fun a => e.im a ∨ ∃ i, i < ((splitS s sep).map Value.string).length ∧ a = ⟨e.w.heap.size, i, none⟩ }, _, rfl, ⟨st.st, st.la, fun r hr => ⟨(st.lt r hr).1, Nat.lt_of_lt_of_le (st.lt r hr).2 (hk fun _ => False).size⟩, mi, st.gi.keep xx (hk _) (SameK.of_eq rfl)⟩, ?_, To.of_keep xx (hk _) (SameK.of_eq rfl), ?_⟩
                  · exact fun t a h => hns t a h
                  · refine .c (.sl (rcs_strs _) (fun i v hv => ?_) (Nat.le_refl _) fun _ => rfl)
                    rw [mk_add, Nat.zero_add]
                    exact ⟨by rw [alloc_cell_new]; exact hv, .inr ⟨i, (List.getElem?_eq_some_iff.1 hv).1, rfl⟩⟩
      · cases h
    · cases h
end Go.Abs

/-
  Abs37: runs of closed values that are known, taken as steps of later runs.
-/
set_option linter.unusedVariables false
set_option linter.unusedSimpArgs false
set_option linter.unusedSectionVars false
namespace Go.Abs
open Go Go.RowKit
variable [Fl]

def eqSc : Value → Value → Bool
  | .int k a, .int k' b => decide (k = k') && a == b
  | .bool a, .bool b => a == b
  | .string a, .string b => a.data.toList == b.data.toList
  | .nilFunc, .nilFunc => true
  | .nilIface, .nilIface => true
  | .pointer none, .pointer none => true
  | .map none, .map none => true
  | _, _ => false
theorem eqSc_ok {a b : Value} (h : eqSc a b = true) : a = b := by
  unfold eqSc at h
  split at h
  · simp only [Bool.and_eq_true, decide_eq_true_eq, beq_iff_eq] at h; rw [h.1, h.2]
  · simp only [beq_iff_eq] at h; rw [h]
  · rename_i a b
    simp only [beq_iff_eq] at h
    have : a = b := by
      cases a; cases b
      simp only [ByteArray.mk.injEq]
      exact Array.toList_inj.1 h
    rw [this]
  · rfl
  · rfl
  · rfl
  · rfl
  · cases h
mutual
def eqCV : CV → CV → Bool
  | .sc a, .sc b => eqSc a b
  | .agg a, .agg b => eqCVs a b
  | .sl n x a l, .sl n' x' b l' => n == n' && (x == x' && (l == l' && eqCVs a b))
  | _, _ => false
def eqCVs : List CV → List CV → Bool
  | [], [] => true
  | a :: xs, b :: bs => eqCV a b && eqCVs xs bs
  | _, _ => false
end
mutual
theorem eqCV_ok : ∀ {a b : CV}, eqCV a b = true → a = b
  | .sc a, .sc b, h => congrArg CV.sc (eqSc_ok (by simpa [eqCV] using h))
  | .agg a, .agg b, h => congrArg CV.agg (eqCVs_ok (by simpa [eqCV] using h))
  | .sl n x a l, .sl n' x' b l', h => by
    simp only [eqCV, Bool.and_eq_true, beq_iff_eq] at h
    rw [h.1, h.2.1, h.2.2.1, eqCVs_ok h.2.2.2]
  | .sc _, .agg _, h => by simp [eqCV] at h
  | .sc _, .sl .., h => by simp [eqCV] at h
  | .agg _, .sc _, h => by simp [eqCV] at h
  | .agg _, .sl .., h => by simp [eqCV] at h
  | .sl .., .sc _, h => by simp [eqCV] at h
  | .sl .., .agg _, h => by simp [eqCV] at h
theorem eqCVs_ok : ∀ {a b : List CV}, eqCVs a b = true → a = b
  | [], [], _ => rfl
  | a :: xs, b :: bs, h => by
    simp only [eqCVs, Bool.and_eq_true] at h
    rw [eqCV_ok h.1, eqCVs_ok h.2]
  | [], _ :: _, h => by simp [eqCVs] at h
  | _ :: _, [], h => by simp [eqCVs] at h
end
def cvsOf : List DV → Option (List CV)
  | [] => some []
  | .c v :: ds => (cvsOf ds).map (v :: ·)
  | _ :: _ => none
theorem cvsOf_eq : ∀ {ds : List DV} {cs : List CV}, cvsOf ds = some cs → ds = cs.map .c
  | [], cs, h => by cases h; rfl
  | d :: ds, cs, h => by
    unfold cvsOf at h
    split at h
    · rename_i hh; cases hh
    · rename_i v ds' hh
      cases hh
      rw [Option.map_eq_some_iff] at h
      obtain ⟨l, h1, rfl⟩ := h
      rw [cvsOf_eq h1]; rfl
    · cases h
/-- What is known of a function: its arguments, what it hands back. -/
abbrev Memo := List (List CV × DV)
def Memo.find : Memo → List CV → Option DV
  | [], _ => none
  | (cs, d) :: t, xs => if eqCVs cs xs then some d else Memo.find t xs
theorem Memo.find_mem : ∀ {t : Memo} {xs : List CV} {d : DV}, t.find xs = some d → (xs, d) ∈ t
  | [], xs, d, h => by cases h
  | (cs, d0) :: t, xs, d, h => by
    unfold Memo.find at h
    split at h
    · rename_i he; cases h; rw [eqCVs_ok he]; simp
    · exact List.mem_cons_of_mem _ (Memo.find_mem h)
def memoP (t : Memo) (st : List Ob) (args : List DV) : Option Out := match cvsOf args with
  | some cs => (t.find cs).map fun d => { d }
  | none => none
section
variable [Gl] {P : Program} {n0 : Nat} {PR : Addr → Prop} {e : E} {reg : Own → Addr → Prop} {Γ : List (Nat × Ctx)} {m : M}
theorem St.noslots (s : St n0 PR Γ e reg m) : St n0 PR Γ e (fun p a => match p with | .slot _ => False | p => reg p a) m := by
  have hp : ∀ p a, (match p with | .slot _ => False | p => reg p a) → reg p a := fun p a h => by
    cases p <;> first | exact h | exact h.elim
  exact ⟨s.st, s.la, s.lt, ⟨s.mi.imlt, s.mi.impr, s.mi.prlt, s.mi.n0le, fun p a h => s.mi.ok p a (hp p a h), fun p q a h1 h2 => s.mi.disj p q a (hp p a h1) (hp q a h2), s.mi.ext, s.mi.own, s.mi.cell⟩, s.gi⟩
theorem all_closed (cs : List CV) : (cs.map DV.c).all isClosed = true := by simp [isClosed]
theorem memo_ok {X : Sys} (hm : X.P.follows .mixedOrders = true) (hp : ∀ f p, X.pr f = some p → PrimOk X.P f p) {f : FuncId} {t : Memo} (h : ∀ x ∈ t, X.RunsC f (x.1.map .c) x.2) : PrimOk X.P f (memoP t) := by
  have key : ∀ {st args r}, memoP t st args = some r → ∃ cs d, args = cs.map .c ∧ (cs, d) ∈ t ∧ r = { d } := fun {st args r} hh => by
    unfold memoP at hh
    split at hh
    · rename_i cs hcs
      rw [Option.map_eq_some_iff] at hh
      obtain ⟨d, h1, rfl⟩ := hh
      exact ⟨cs, d, cvsOf_eq hcs, Memo.find_mem h1, rfl⟩
    · cases hh
  refine ⟨fun st args r hh => ?_, fun st args r hh id o ho => ?_, fun st st' args _ => rfl, fun m args r hh Γ n0 PR e reg vs n s hres hns hr => ?_⟩
  · obtain ⟨_, _, _, _, rfl⟩ := key hh; rfl
  · obtain ⟨_, _, _, _, rfl⟩ := key hh; cases ho
  · obtain ⟨cs, d, rfl, hmem, rfl⟩ := key hh
    obtain ⟨k, hk⟩ := h _ hmem
    obtain ⟨d', m', h1, h2⟩ := hk k (Nat.le_refl _)
    obtain ⟨s0, hback⟩ := s.apart hres
    have hcall := (evN_sound hm X.an hp k).1.call [] f _ ⟨[], []⟩ d' m' h1 n0 _ _ _ vs n s0 (fun _ h => h) (fun _ _ h => h) (closed_args (e := e) (e0 := { e with st := [], la := [] }) rfl rfl (all_closed cs) hr)
    refine hcall.mono fun en w' hb => ?_
    obtain ⟨v, e', reg', rfl, hw, st', to, hrd, _⟩ := (hback _ _ _ _ hb).1 _ h2
    exact ⟨e', _, hw, st'.noslots, fun t a h => h, to, hrd⟩
/-- Runs that are known. -/
def Known (X : Sys) : List (Nat × List CV × DV) → Prop
  | [] => True
  | (f, cs, d) :: r => X.RunsC f (cs.map .c) d ∧ Known X r
def memoOf : List (Nat × List CV × DV) → Nat → Memo
  | [], _ => []
  | (g, cs, d) :: r, f => if g = f then (cs, d) :: memoOf r f else memoOf r f
def addM (pr : Prims) (l : List (Nat × List CV × DV)) : Prims := fun f => match memoOf l f with
  | [] => pr f
  | x :: r => some (memoP (x :: r))
/-- A system that takes them as steps. -/
def Sys.more (X : Sys) (l : List (Nat × List CV × DV)) : Sys := ⟨X.P, X.an, addM X.pr l⟩
theorem Known.mem {X : Sys} {f : Nat} : ∀ {l : List (Nat × List CV × DV)}, Known X l → ∀ x ∈ memoOf l f, X.RunsC f (x.1.map .c) x.2
  | [], _, x, hx => by cases hx
  | (g, cs, d) :: r, h, x, hx => by
    unfold memoOf at hx
    split at hx
    · rename_i hg
      subst hg
      rcases List.mem_cons.1 hx with rfl | hx
      · exact h.1
      · exact Known.mem h.2 x hx
    · exact Known.mem h.2 x hx
theorem more_ok {X : Sys} (hm : X.P.follows .mixedOrders = true) (hp : ∀ f p, X.pr f = some p → PrimOk X.P f p) {l : List (Nat × List CV × DV)} (h : Known X l) : ∀ f p, (X.more l).pr f = some p → PrimOk (X.more l).P f p := by
  intro f p hf
  have hf : (match memoOf l f with | [] => X.pr f | x :: r => some (memoP (x :: r))) = some p := hf
  split at hf
  · exact hp f p hf
  · rename_i x r he
    cases hf
    exact memo_ok hm hp (he ▸ h.mem)
end
def eNil : CV := .sl true true [] 0
def eStr (l : List UInt8) : CV := .sc (.string ⟨l.toArray⟩)
end Go.Abs

/-
  Abs38: arguments that are structures of fields of one cell each; a law's claim at a world whose shape is known.
-/
set_option linter.unusedVariables false
set_option linter.unusedSimpArgs false
set_option linter.unusedSectionVars false
namespace Go.Abs
open Go Go.ChangeShapes Go.WideShapes Go.ChangeAt Go.RowKit
variable [Fl]

section
variable {H : Type} {enc : TypeId × Value → H} {P : Program} {w : World} {base : Nat} {sp : Nat → Bool} {held : Bool}
theorem readsN_fields {t : TypeId} {n : Nat} {fs : Array Field} {Qs : Nat → CV → Prop} (ht : P.underlying t = some (.struct fs)) (hn : P.cellsOf t = n) (hs : fs.size = n)
    (hf : ∀ (j : Nat) f, fs[j]? = some f → f.offset = j ∧ P.cellsOf f.type = 1 ∧ Reads P w base f.type (Qs j)) : ReadsN P w base t n (fun cs => ∀ (i : Nat) c, cs[i]? = some c → Qs i c) := by
  intro H enc sp held fuel vs x h
  obtain ⟨xs, m, _, rfl, hl, hxl, hget⟩ := DataW.trod_struct ht h
  have hp : ∀ i, i < n → ∃ v c, vs[i]? = some v ∧ RC (old w) w c v ∧ cvOk c = true ∧ Qs i c := fun i hi => by
    have hfi : fs[i]? = some (fs[i]'(by omega)) := Array.getElem?_eq_getElem _
    obtain ⟨h1, h2, h3⟩ := hf i _ hfi
    have ht' := hget i _ hfi
    obtain ⟨y, hy⟩ : ∃ y, xs[i]? = some y := ⟨xs[i]'(by omega), List.getElem?_eq_getElem (by omega)⟩
    rw [hy] at ht'
    obtain ⟨v, c, e1, e2, e3, e4⟩ := h3 H enc sp held m _ y ht'
    rw [h1, h2] at e1
    refine ⟨v, c, ?_, e2, e3, e4⟩
    have := congrArg (·[0]?) e1
    simpa [List.getElem?_take, List.getElem?_drop] using this
  obtain ⟨us, cs, hvl, hcl, hall⟩ := lists_of n hp
  have hvs : us = vs := by
    apply List.ext_getElem?
    intro i
    by_cases hi : i < n
    · have h1 : us[i]? = some us[i] := List.getElem?_eq_getElem (by omega)
      have h2 : cs[i]? = some cs[i] := List.getElem?_eq_getElem (by omega)
      rw [h1, (hall i _ _ h1 h2).1]
    · rw [List.getElem?_eq_none (by omega), List.getElem?_eq_none (by omega)]
  subst hvs
  refine ⟨cs, RCs.of_get (by omega) (fun i c v h1 h2 => ⟨(hall i v c h2 h1).2.2.1, (hall i v c h2 h1).2.1⟩), hcl, fun i c hi => ?_⟩
  have hlt : i < us.length := by have := (List.getElem?_eq_some_iff.1 hi).1; omega
  exact (hall i us[i] c (List.getElem?_eq_getElem hlt) hi).2.2.2
/-- An argument of several cells, closed. -/
theorem reads_argN {t : TypeId} {n : Nat} {Q : List CV → Prop} (hq : ReadsN P w base t n Q) {vs : Array Value} {d : DataW H} {ps : List MemPlace} (h : DataW.Trod enc P w base sp held t (.agg vs) d ps) : ∃ cs, RC (old w) w (.agg cs) (.agg vs) ∧ cs.length = n ∧ Q cs := by
  obtain ⟨fuel, hf⟩ := h
  obtain ⟨cs, h1, h2, h3⟩ := hq H enc sp held fuel _ _ hf
  exact ⟨cs, by cases vs; exact .agg h1, h2, h3⟩
theorem readsN_one {t : TypeId} {Q : CV → Prop} (h : Reads P w base t Q) : ReadsN P w base t 1 (fun cs => ∃ c, cs = [c] ∧ Q c) := by
  intro H enc sp held fuel vs x hx
  obtain ⟨v, c, rfl, h1, h2, h3⟩ := h H enc sp held fuel vs x hx
  exact ⟨[c], .cons h2 h1 .nil, rfl, c, rfl, h3⟩
end
theorem returnsInHanded_shaped_and {H : Type} {enc : TypeId × Value → H} {a : Assume} {C : Checked} {os : Os} {f : FuncId} {fn : Func} {s : ChangeSpec} {conds : List PathCond} {apart fresh handsOn again : Bool} {X : World → Array Value → Prop}
    (hX : ∀ (w w' : World) (args : Array Value), w.heap = w'.heap → X w args → X w' args)
    (own : ownKnob C.prog.godebug = none) (started : os.Started) (noInit : C.prog.inits.idxOf? f = none) (hfn : C.prog.funcs[f]? = some fn)
    (witness : ∃ (w : World) (tape : Tape) (i : Input), w.os = os ∧ (w.forCall tape i).Shaped C.prog ∧ i.vars = [] ∧ Input.okWide C.prog (w.forCall tape i) .any w.heap.size f i ∧
      ((s.pre enc C.prog fn conds apart (w.forCall tape i).memory i.args ∧ X (w.forCall tape i).memory i.args) ∧ sizedMet enc C.prog fn (OpenSpec.ofChange s) apart (w.forCall tape i).memory i.args) ∧ a.holds C.prog (lone (Frame.enter C.prog f i.args .normal) [] (w.forCall tape i)))
    (contract : ∀ (W : World) (base : Nat) (args : Array Value) (ds gs : List (DataW H)) (before : List MemPlace),
      (∀ (j : Nat) t v, fn.params[j]? = some t → args[j]? = some v → Value.okWide C.prog W .any base t v) →
      DataW.Whole enc C.prog fn.params.toList s.vars apart W args.toList ds gs before →
      conds.all (PathCond.test C.prog ⟨fn.params.toList, ds, s.plain.varTypes C.prog, gs⟩) = true →
      (DataW.weightsEach C.prog (fn.params.toList ++ s.plain.varTypes C.prog) (ds ++ gs)).all (· ≤ reachBytes) = true → X W args →
      W.ShapedOpen C.prog →
      a.holds C.prog (lone (Frame.enter C.prog f args .normal) [] W) →
      Calls C.prog f args W fun e W' => ∃ v, e = .returned v ∧ s.post enc C.prog fn apart fresh handsOn again W args v W') :
    ReturnsInHanded a C os f .any (fun w args => (s.pre enc C.prog fn conds apart w args ∧ X w args) ∧ sizedMet enc C.prog fn (OpenSpec.ofChange s) apart w args) (s.post enc C.prog fn apart fresh handsOn again) := by
  refine returnsInHanded_of_calls own started noInit witness ?_
  intro w tape i _ hsh _ hok hpre hholds
  obtain ⟨_, _, _, fn', hfn', _, _, _, _, hval⟩ := hok
  have e : fn' = fn := Option.some.inj (hfn'.symm.trans hfn)
  subst e
  obtain ⟨⟨⟨ds, gs, before, hw, hc⟩, hx⟩, hz⟩ := hpre
  have hw' := DataW.Whole.of_heap (w' := w.forCall tape i) (by rfl) hw
  refine (contract (w.forCall tape i) w.heap.size i.args ds gs before hval hw' hc (hz.weights hw) (hX _ _ _ (by rfl) hx) hsh hholds).mono fun e W' ⟨v, he, hp⟩ => ?_
  subst he
  exact ChangeSpec.post_blind hp
end Go.Abs
