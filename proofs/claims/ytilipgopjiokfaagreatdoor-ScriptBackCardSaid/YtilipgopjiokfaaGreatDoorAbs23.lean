/-
  Abs23: code: loops, ranges over functions.
-/
import Derived.Test.YtilipgopjiokfaaGreatDoorAbs22
import Derived.LoopNIn
set_option linter.unusedVariables false
set_option linter.unusedSimpArgs false
set_option linter.unusedSectionVars false
namespace Go.Abs
open Go
variable [Gl]

section
variable {P : Program} {n0 : Nat} {PR : Addr → Prop} {Γ : List (Nat × Ctx)} {e e' : E} {reg reg' : Own → Addr → Prop} {m : M} {r : Option Nat} {k0 nt : Nat} {fr : Nat → DV} {a : Act} {rec : Rec}

/-- A world that differs in blocks of no cells alone. -/
theorem MI.world (mi : MI n0 PR e reg) {w' : World} (hs : e.w.heap.size ≤ w'.heap.size) (hc : ∀ a, a.block < e.w.heap.size → w'.cell? a = e.w.cell? a ∧ w'.frozen? a = e.w.frozen? a) {la' : List Nat} (hla : ∀ (k l : Nat), e.la[k]? = some l → la'[k]? = some l) :
    MI n0 PR { e with w := w', la := la' } reg ∧ Ext e { e with w := w', la := la' } := by
  have hx : Ext e { e with w := w', la := la' } := ⟨fun _ h => h, fun a ha => (hc a (mi.imlt a ha)).1, Nat.le_refl _, fun id o o' h1 h2 => by simp only at h2; rw [h1] at h2; cases h2; exact ⟨Nat.le_refl _, fun _ => rfl⟩, hla⟩
  refine ⟨⟨fun a ha => Nat.lt_of_lt_of_le (mi.imlt a ha) hs, mi.impr, fun a ha => Nat.lt_of_lt_of_le (mi.prlt a ha) hs, Nat.le_trans mi.n0le hs, fun p a hp => ?_, mi.disj, mi.ext, mi.own, fun id o ho i d hd => ?_⟩, hx⟩
  · obtain ⟨h1, ⟨v, h2⟩, h3, h4, h5⟩ := mi.ok p a hp
    obtain ⟨k1, k2⟩ := hc a (mi.old hp)
    exact ⟨h1, ⟨v, k1.trans h2⟩, k2.trans h3, h4, h5⟩
  · obtain ⟨h1, v, h2, h3⟩ := mi.cell id o ho i d hd
    exact ⟨h1, v, (hc _ (World.block_lt_of_cell? _ _ h2)).1.trans h2, h3.mono hx (fun _ h => h)⟩

theorem putObj_cells {w : World} {l : Nat} {o o' : Obj} (h : w.heap[l]? = some o) (h1 : isC o = false) (h2 : isC o' = false) (a : Addr) : (w.putObj l o').cell? a = w.cell? a ∧ (w.putObj l o').frozen? a = w.frozen? a := by
  by_cases hb : a.block = l
  · have hlt : l < w.heap.size := (Array.getElem?_eq_some_iff.1 h).1
    have hn : (w.putObj l o').heap[a.block]? = some o' := by rw [hb]; exact World.putObj_heap_same hlt
    have ho : w.heap[a.block]? = some o := by rw [hb]; exact h
    constructor
    · unfold World.cell?
      rw [hn, ho]
      cases o <;> cases o' <;> first | rfl | (simp [isC] at h1; done) | (simp [isC] at h2; done)
    · unfold World.frozen?
      rw [hn, ho]
      cases o <;> cases o' <;> first | rfl | (simp [isC] at h1; done) | (simp [isC] at h2; done)
  · have := World.putObj_heap_other (w := w) (r := l) (o := o') hb
    exact ⟨World.cell?_of_block this, World.frozen?_of_block this⟩
theorem putObj_keep {w : World} {l : Nat} {o o' : Obj} (h : w.heap[l]? = some o) (h1 : isC o = false) (h2 : isC o' = false) (hn : n0 ≤ l) : Keep n0 PR (fun r => r = l) w (w.putObj l o') :=
  ⟨rfl, rfl, rfl, by simp, fun r hr => World.putObj_heap_other (by omega), fun a _ => putObj_cells h h1 h2 a, fun r x hr _ hx => by rw [World.putObj_heap_other hx]; exact hr⟩

theorem cut_sound {l : Option (List Nat)} {mm : Nat} {s s' : S} {e0 : E} {pd0 : List Ex} (h : cutS l mm s = some s') (st : St n0 PR Γ e reg s.m) (hf : Fr r k0 nt Γ e reg s.fr a) (g0 : GI e0 Γ pd0) (hle : e0.st.length ≤ mm) (to : To n0 PR Γ e0 e) :
    ∃ e', e'.w = e.w ∧ St n0 PR Γ e' reg s'.m ∧ Fr r k0 nt Γ e' reg s'.fr a ∧ To n0 PR Γ e0 e' := by
  unfold cutS at h
  split at h
  · cases h; exact ⟨e, rfl, st, hf, to⟩
  · rename_i l
    split at h
    · rename_i hcond
      cases h
      simp only [Bool.and_eq_true] at hcond
      obtain ⟨h1, h2⟩ := cut_core hcond.2 st g0 hle to
      refine ⟨cutE e mm, rfl, h1, ⟨fun t => ?_, hf.nt, hf.df, hf.ro⟩, h2⟩
      show RD (cutE e mm) _ (restr l s.fr t) _
      rw [restr_at]
      split
      · rename_i ht
        exact (hf.rd t).cut (List.all_eq_true.1 hcond.1 t (by simpa using ht))
      · exact .un
    · cases h

theorem To.size (t : To n0 PR Γ e e') : e.w.heap.size ≤ e'.w.heap.size := t.keep.size

def NextX (n0 : Nat) (PR : Addr → Prop) (Γ : List (Nat × Ctx)) (r : Option Nat) (k0 nt : Nat) (e : E) (ex : Ex) (s' : S) (Q : Exit → Act → World → Prop) : Prop := Next n0 PR Γ r k0 nt e s' (fun a w => Q (exitOf ex) a w)

/-- What a piece of code does is as the interpreter says. -/
def CodeOk (P : Program) (rec : Rec) (an : An) (f nt : Nat) (Γ : List (Nat × Ctx)) (k : Nat) (c : Code) : Prop :=
  ∀ (s s' : S) (ex : Ex), codeD P rec an f nt Γ k c s = some (ex, s') → ∀ n0 PR r k0 e reg a Q n, St n0 PR Γ e reg s.m → NoRes reg → Fr r k0 nt Γ e reg s.fr a → k0 ≤ e.w.heap.size → NextX n0 PR Γ r k0 nt e ex s' Q → c.wpIn (fence r) n P Q a e.w

theorem restrS_fr {s : S} {rs : Option (List Nat)} (hf : Fr r k0 nt Γ e reg s.fr a) : Fr r k0 nt Γ e reg (restrS rs s).fr a := by
  cases rs with
  | none => exact hf
  | some l => exact restr_fr hf
theorem restrS_m {s : S} {rs : Option (List Nat)} : (restrS rs s).m = s.m := by cases rs <;> rfl
theorem loop_sound {an : An} {f k : Nat} {c : Code} (ih : CodeOk P rec an f nt Γ k c) {l : Option (List Nat)} {mm : Nat} {e0 : E} {pd0 : List Ex} (g0 : GI e0 Γ pd0) (hle : e0.st.length ≤ mm) {rs : Option (List Nat)} {ex : Ex} {s' : S} {Q : Exit → Act → World → Prop} (hK : NextX n0 PR Γ r k0 nt e0 ex s' Q) (n : Nat) :
    ∀ (fuel : Nat) (s : S) (a : Act) (e : E) (reg : Own → Addr → Prop), loopD (fun s => codeD P rec an f nt Γ k c (restrS rs s)) l mm fuel s = some (ex, s') → St n0 PR Γ e reg s.m → NoRes reg → Fr r k0 nt Γ e reg s.fr a → k0 ≤ e.w.heap.size → To n0 PR Γ e0 e →
      Code.roundsIn (fence r) n P c Q fuel a e.w
  | 0, s, a, e, reg, h, _, _, _, _, _ => by simp [loopD] at h
  | fuel + 1, s, a, e, reg, h, st, hres, hf, hk0, to => by
    simp only [loopD] at h
    rw [roundsIn_succ]
    split at h
    · rename_i s1 hs1
      split at h
      · rename_i s2 hs2
        refine ih _ s1 .normal hs1 n0 PR r k0 e reg a _ n (by rw [restrS_m]; exact st) hres (restrS_fr hf) hk0 fun a' e1 reg1 st1 hres1 hf1 to1 => ?_
        obtain ⟨e2, hw, st2, hf2, to2⟩ := cut_sound hs2 st1 hf1 g0 hle (to.trans g0 to1)
        show Code.roundsIn (fence r) n P c Q fuel a' e1.w
        rw [← hw]
        exact loop_sound ih g0 hle hK n fuel s2 a' e2 reg1 h st2 hres1 hf2 (by rw [hw]; exact Nat.le_trans hk0 to1.size) to2
      · cases h
    · rename_i hne
      cases ex with
      | normal => exact absurd h (hne s')
      | _ =>
        refine ih _ s' _ h n0 PR r k0 e reg a _ n (by rw [restrS_m]; exact st) hres (restrS_fr hf) hk0 fun a' e1 reg1 st1 hres1 hf1 to1 => ?_
        exact hK a' e1 reg1 st1 hres1 hf1 (to.trans g0 to1)
end
end Go.Abs
