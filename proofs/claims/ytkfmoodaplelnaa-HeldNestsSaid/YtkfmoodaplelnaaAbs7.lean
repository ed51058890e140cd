/-
  Abs7: what is written: worlds that differ in some cells, new blocks.
-/
import Derived.Test.YtkfmoodaplelnaaAbs6
set_option linter.unusedSectionVars false
namespace Go.Abs
open Go

def isC : Obj → Bool
  | .cells .. => true
  | _ => false

theorem heap_alloc (w : World) (o : Obj) (k : Nat) (h : k < w.heap.size) : (w.alloc o).heap[k]? = w.heap[k]? := by
  simp only [World.alloc, Array.getElem?_push]
  rw [if_neg (by omega)]
theorem heap_setCell (w : World) (a : Addr) (u : Value) (k : Nat) (h : k ≠ a.block) : (w.setCell a u).heap[k]? = w.heap[k]? := by
  simp only [World.setCell, Array.getElem?_modify]
  rw [if_neg (fun e => h e.symm)]

/-- Is it told that the tape is asked onward alone? -/
class Fl where
  dr : Prop
instance (priority := low) noFl : Fl := ⟨False⟩
variable [Fl]
/-- What a piece of work leaves as it was. X: blocks of no cells that may turn. -/
structure Keep (n0 : Nat) (PR : Addr → Prop) (X : Nat → Prop) (w w' : World) : Prop where
  os : w'.os = w.os
  tape : w'.tape = w.tape
  output : w'.output = w.output
  size : w.heap.size ≤ w'.heap.size
  old : ∀ r, r < n0 → w'.heap[r]? = w.heap[r]?
  pr : ∀ a, PR a → w'.cell? a = w.cell? a ∧ w'.frozen? a = w.frozen? a
  obj : ∀ (r : Nat) (o : Obj), w.heap[r]? = some o → isC o = false → ¬ X r → w'.heap[r]? = some o
  dr : Fl.dr → w.drawn ≤ w'.drawn

theorem Keep.refl (n0 : Nat) (PR : Addr → Prop) (X : Nat → Prop) (w : World) : Keep n0 PR X w w := ⟨rfl, rfl, rfl, Nat.le_refl _, fun _ _ => rfl, fun _ _ => ⟨rfl, rfl⟩, fun _ _ h _ _ => h, fun _ => Nat.le_refl _⟩
theorem Keep.trans {n0 : Nat} {PR : Addr → Prop} {X : Nat → Prop} {a b c : World} (h : Keep n0 PR X a b) (k : Keep n0 PR X b c) : Keep n0 PR X a c :=
  ⟨k.os.trans h.os, k.tape.trans h.tape, k.output.trans h.output, Nat.le_trans h.size k.size, fun r hr => (k.old r hr).trans (h.old r hr),
   fun x hx => ⟨(k.pr x hx).1.trans (h.pr x hx).1, (k.pr x hx).2.trans (h.pr x hx).2⟩, fun r o ho hc hX => k.obj r o (h.obj r o ho hc hX) hc hX, fun hd => Nat.le_trans (h.dr hd) (k.dr hd)⟩
theorem Keep.weak {n0 : Nat} {PR : Addr → Prop} {X X' : Nat → Prop} {a b : World} (h : Keep n0 PR X a b) (hx : ∀ r, X r → X' r) : Keep n0 PR X' a b :=
  ⟨h.os, h.tape, h.output, h.size, h.old, h.pr, fun r o ho hc hX => h.obj r o ho hc (fun hh => hX (hx r hh)), h.dr⟩

/-- A world that differs from another one in some cells alone. -/
structure Wr (w w' : World) (S : Addr → Prop) : Prop where
  os : w'.os = w.os
  tape : w'.tape = w.tape
  output : w'.output = w.output
  size : w'.heap.size = w.heap.size
  cell : ∀ a, ¬ S a → w'.cell? a = w.cell? a
  frozen : ∀ a, w'.frozen? a = w.frozen? a
  block : ∀ r, (∀ a, S a → a.block ≠ r) → w'.heap[r]? = w.heap[r]?
  obj : ∀ (r : Nat) (o : Obj), w.heap[r]? = some o → isC o = false → w'.heap[r]? = some o
  dr : w'.drawn = w.drawn

theorem Wr.refl (w : World) (S : Addr → Prop) : Wr w w S := ⟨rfl, rfl, rfl, rfl, fun _ _ => rfl, fun _ => rfl, fun _ _ => rfl, fun _ _ h _ => h, rfl⟩
theorem Wr.trans {a b c : World} {S : Addr → Prop} (h : Wr a b S) (k : Wr b c S) : Wr a c S :=
  ⟨k.os.trans h.os, k.tape.trans h.tape, k.output.trans h.output, k.size.trans h.size, fun x hx => (k.cell x hx).trans (h.cell x hx), fun x => (k.frozen x).trans (h.frozen x),
   fun r hr => (k.block r hr).trans (h.block r hr), fun r o ho hc => k.obj r o (h.obj r o ho hc) hc, k.dr.trans h.dr⟩
theorem Wr.set (w : World) (a : Addr) (v : Value) {S : Addr → Prop} (ha : S a) : Wr w (w.setCell a v) S := by
  refine ⟨rfl, rfl, rfl, World.size_setCell .., fun b hb => World.cell?_setCell_other _ _ _ _ ?_, fun b => World.frozen?_setCell .., fun r hr => ?_, fun r o ho hc => ?_, rfl⟩
  · rintro rfl; exact hb ha
  · exact heap_setCell w a v r (fun e => hr a ha e.symm)
  · by_cases hr : r = a.block
    · subst hr
      simp only [World.setCell, Array.getElem?_modify, if_true]
      rw [ho]
      cases o <;> simp_all [isC]
    · rw [heap_setCell w a v r hr]; exact ho

theorem storeCells_run {P : Program} (b o : Nat) : ∀ (vs : List Value) (i : Nat) (w : World), (∀ v ∈ vs, v.oneCell' = true) →
    (∀ j, j < vs.length → (∃ v, w.cell? ⟨b, o + (i + j), none⟩ = some v) ∧ w.frozen? ⟨b, o + (i + j), none⟩ = false) →
    ∃ w', (storeCells ⟨b, o, none⟩ vs i).run P w = .ok () w' ∧ Wr w w' (fun a => ∃ j, j < vs.length ∧ a = ⟨b, o + (i + j), none⟩) ∧
      ∀ (j : Nat) v, vs[j]? = some v → w'.cell? ⟨b, o + (i + j), none⟩ = some v
  | [], i, w, _, _ => ⟨w, rfl, Wr.refl _ _, by simp⟩
  | v :: vs, i, w, h1, h2 => by
    obtain ⟨⟨u, hu⟩, hf⟩ := h2 0 (by simp)
    simp only [Nat.add_zero] at hu hf
    have hst : (store (⟨b, o + i, none⟩ : Addr) v).run P w = .ok () (w.setCell ⟨b, o + i, none⟩ v) := by
      rw [run_store P w _ v _ (h1 v (by simp)), hu, hf]; rfl
    have hne : ∀ j, (⟨b, o + i, none⟩ : Addr) ≠ ⟨b, o + (i + 1 + j), none⟩ := fun j h => by injection h with h1 h2 h3; omega
    obtain ⟨w', r1, r2, r3⟩ := storeCells_run (P := P) b o vs (i + 1) (w.setCell ⟨b, o + i, none⟩ v) (fun x hx => h1 x (by simp [hx])) (fun j hj => by
      obtain ⟨⟨x, hx⟩, hy⟩ := h2 (j + 1) (by simpa using hj)
      rw [show i + (j + 1) = i + 1 + j by omega] at hx hy
      exact ⟨⟨x, by rw [World.cell?_setCell_other _ _ _ _ (hne j)]; exact hx⟩, by rw [World.frozen?_setCell]; exact hy⟩)
    refine ⟨w', ?_, ?_, ?_⟩
    · simp only [storeCells, mk_add, Sem.run_bind, hst, Result.andThen_ok]; exact r1
    · refine Wr.trans (Wr.set w _ v (S := fun a => ∃ j, j < (v :: vs).length ∧ a = ⟨b, o + (i + j), none⟩) ⟨0, by simp, rfl⟩) ?_
      refine ⟨r2.os, r2.tape, r2.output, r2.size, fun a ha => r2.cell a ?_, r2.frozen, fun r hr => r2.block r ?_, r2.obj, r2.dr⟩
      · rintro ⟨j, hj, rfl⟩; exact ha ⟨j + 1, by simpa using hj, by rw [show i + (j + 1) = i + 1 + j by omega]⟩
      · rintro a ⟨j, hj, rfl⟩; exact hr _ ⟨j + 1, by simpa using hj, by rw [show i + (j + 1) = i + 1 + j by omega]⟩
    · intro j x hx
      cases j with
      | zero =>
        simp at hx; subst hx
        rw [Nat.add_zero, r2.cell _ (by rintro ⟨j, _, hj⟩; exact hne j hj)]
        exact World.cell?_setCell_same _ _ _ hu
      | succ j =>
        have := r3 j x (by simpa using hx)
        rw [show i + (j + 1) = i + 1 + j by omega]; exact this

section
variable {P : Program} {n0 : Nat} {PR : Addr → Prop} {e : E} {reg : Own → Addr → Prop}

/-- Cells of owners are written. -/
theorem Wr.keep {w w' : World} {S : Addr → Prop} (h : Wr w w' S) (h1 : ∀ a, S a → n0 ≤ a.block ∧ ¬ PR a) (X : Nat → Prop) : Keep n0 PR X w w' :=
  ⟨h.os, h.tape, h.output, by rw [h.size]; exact Nat.le_refl _, fun r hr => h.block r fun a ha e => by have := (h1 a ha).1; omega, fun a ha => ⟨h.cell a fun hs => (h1 a hs).2 ha, h.frozen a⟩, fun r o ho hc _ => h.obj r o ho hc, fun _ => Nat.le_of_eq h.dr.symm⟩

theorem alloc_cell_new {w : World} (c : List Value) (T : TypeId) (i : Nat) : (w.alloc (.cells ⟨c⟩ T)).cell? ⟨w.heap.size, i, none⟩ = c[i]? := by
  rw [World.cell?_alloc_at ⟨c⟩ T _ i rfl]; simp
theorem alloc_keep {w : World} (o : Obj) (hn : n0 ≤ w.heap.size) (hp : ∀ a, PR a → a.block < w.heap.size) (X : Nat → Prop) : Keep n0 PR X w (w.alloc o) :=
  ⟨rfl, rfl, rfl, by simp, fun r hr => heap_alloc w o r (by omega), fun a ha => ⟨World.cell?_alloc_lt _ _ _ (hp a ha), World.frozen?_alloc_old _ _ _ (by have := hp a ha; omega)⟩,
   fun r x hx _ _ => by rw [heap_alloc w o r (Array.getElem?_eq_some_iff.1 hx).1]; exact hx, fun _ => Nat.le_refl _⟩

/-- A new block, in whoever's hand: what stood stands. -/
theorem MI.alloc (m : MI n0 PR e reg) (c : List Value) (T : TypeId) {im' : Addr → Prop} {reg' : Own → Addr → Prop}
    (him : ∀ a, im' a → e.im a ∨ (a.block = e.w.heap.size ∧ ∀ p, ¬ reg' p a)) (_him2 : ∀ a, e.im a → im' a)
    (hreg : ∀ p a, reg' p a → reg p a ∨ (∃ i, i < c.length ∧ a = ⟨e.w.heap.size, i, none⟩))
    (hdis : ∀ p q a, reg' p a → reg' q a → a.block = e.w.heap.size → p = q) :
    (∀ a, im' a → a.block < (e.w.alloc (.cells ⟨c⟩ T)).heap.size) ∧ (∀ a, im' a → ¬ PR a) ∧
    (∀ p a, reg' p a → n0 ≤ a.block ∧ (∃ v, (e.w.alloc (.cells ⟨c⟩ T)).cell? a = some v) ∧ (e.w.alloc (.cells ⟨c⟩ T)).frozen? a = false ∧ ¬ im' a ∧ ¬ PR a) ∧
    (∀ p q a, reg' p a → reg' q a → p = q) := by
  have old : ∀ p a, reg p a → a.block < e.w.heap.size := fun p a h => by
    obtain ⟨_, ⟨v, hv⟩, _⟩ := m.ok p a h
    exact World.block_lt_of_cell? _ _ hv
  refine ⟨fun a ha => ?_, fun a ha hp => ?_, fun p a hpa => ?_, fun p q a h1 h2 => ?_⟩
  · rw [World.size_alloc]
    rcases him a ha with h | h
    · have := m.imlt a h; omega
    · omega
  · rcases him a ha with h | h
    · exact m.impr a h hp
    · have := m.prlt a hp; omega
  · rcases hreg p a hpa with h | ⟨i, hi, rfl⟩
    · obtain ⟨h1, ⟨v, hv⟩, h3, h4, h5⟩ := m.ok p a h
      have hlt := old p a h
      refine ⟨h1, ⟨v, by rw [World.cell?_alloc_lt _ _ _ hlt]; exact hv⟩, by rw [World.frozen?_alloc_old _ _ _ (by omega)]; exact h3, fun hi => ?_, h5⟩
      rcases him a hi with hh | ⟨_, hh⟩
      · exact h4 hh
      · exact hh p hpa
    · refine ⟨m.n0le, ⟨c[i], by rw [alloc_cell_new]; exact List.getElem?_eq_getElem hi⟩, by rw [World.frozen?_alloc_at _ _ _ _ rfl], fun hi' => ?_, fun hp => by have := m.prlt _ hp; simp at this⟩
      rcases him _ hi' with hh | ⟨_, hh⟩
      · have := m.imlt _ hh; simp at this
      · exact hh p hpa
  · rcases hreg p a h1 with g1 | ⟨i, _, rfl⟩
    · rcases hreg q a h2 with g2 | ⟨i, _, rfl⟩
      · exact m.disj p q a g1 g2
      · have := old p _ g1; simp at this
    · exact hdis p q _ h1 h2 rfl
end
end Go.Abs
