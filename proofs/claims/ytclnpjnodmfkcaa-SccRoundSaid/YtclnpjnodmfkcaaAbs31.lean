/-
  Abs31: arguments as Lean values; a law's row out of the interpreter's answer.
-/
import Derived.Test.YtclnpjnodmfkcaaAbs30
import Derived.SizedLaws
import Derived.JoinedOf
set_option linter.unusedVariables false
namespace Go.Abs
open Go Go.ChangeShapes Go.WideShapes Go.ChangeAt Go.RowKit

theorem int_of {c : CV} (h : IsInt c) : ∃ n : Int, Enc.enc n = [c] ∧ InR n := by
  obtain ⟨n, rfl, hw⟩ := h
  refine ⟨n, rfl, ?_⟩
  simp [Lit.wf, IntKind.min, IntKind.max, IntKind.signed, IntKind.bits] at hw
  unfold InR
  exact hw
theorem list_of {α : Type} [Enc α] {Q : CV → Prop} {Pa : α → Prop} (hq : ∀ c, Q c → ∃ a : α, Enc.enc a = [c] ∧ Pa a) : ∀ {cs : List CV}, (∀ c ∈ cs, Q c) → ∃ l : List α, cells l = cs ∧ l.length = cs.length ∧ ∀ a ∈ l, Pa a
  | [], _ => ⟨[], rfl, rfl, by simp⟩
  | c :: cs, h => by
    obtain ⟨a, ha, hp⟩ := hq c (h c (by simp))
    obtain ⟨l, h1, h2, h3⟩ := list_of hq (cs := cs) fun c hc => h c (by simp [hc])
    refine ⟨a :: l, by rw [cells_cons, ha, h1]; rfl, by simp [h2], fun b hb => ?_⟩
    rcases List.mem_cons.1 hb with rfl | hb
    · exact hp
    · exact h3 b hb
theorem sl_of {α : Type} [Enc α] {Q : CV → Prop} {Pa : α → Prop} (hq : ∀ c, Q c → ∃ a : α, Enc.enc a = [c] ∧ Pa a) {c : CV} (h : SliceOf Q c) : ∃ s : Sl α, Enc.enc s = [c] ∧ (∀ a ∈ s.l, Pa a) ∧ s.l.length ≤ maxLen := by
  obtain ⟨nl, x, cs, rfl, hn, hc, hl⟩ := h
  obtain ⟨l, h1, h2, h3⟩ := list_of hq hc
  refine ⟨⟨nl, x, l, fun h => ⟨(hn h).1, ?_⟩⟩, ?_, h3, by simpa [h2] using hl⟩
  · have := (hn h).2
    rw [this] at h2
    exact List.length_eq_zero_iff.1 h2
  · show [CV.sl nl x (cells l) l.length] = _
    rw [h1, h2]

/-- A call of the law's that comes to true. -/
theorem law_calls {X : Sys} (hm : X.P.follows .mixedOrders = true) (hp : ∀ f p, X.pr f = some p → PrimOk X.P f p) {f : FuncId} {args : List DV} {vs : List Value} {m' : M} {w : World} (h : X.Runs [] f args ⟨[], []⟩ (dB true) m')
    (hr : RDs ⟨old w, w, [], fun _ => ⟨0, 0, 0⟩, []⟩ args vs) : Calls X.P f ⟨vs⟩ w fun en w' => en = .returned (.bool true) ∧ Keep w.heap.size (fun _ => False) (fun _ => False) w w' := by
  obtain ⟨k, hk⟩ := h
  refine (call_closed hm X.an hp (hk k (Nat.le_refl _)) hr).mono fun en w' ⟨v, e', s, he, _, hd, hkeep⟩ => ?_
  subst he
  refine ⟨?_, hkeep⟩
  cases hd with
  | c h => cases h with | sc h => rfl
end Go.Abs
