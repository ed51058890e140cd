/-
  Abs20: regions that draw their order of evaluation: in whatever order, the same comes out.
-/
import Derived.Test.YtkfmoodaplelnaaAbs19
set_option linter.unusedVariables false
set_option linter.unusedSimpArgs false
set_option linter.unusedSectionVars false
namespace Go.Abs
open Go
variable [Fl]
variable [Gl]

section
variable {P : Program}

theorem lay_id {st : List Ob} {id : Nat} {cs : List DV} {x : Nat × Ob} (h : lay st id cs = some x) : x.1 = id := by
  rw [(lay_get h).1]
theorem layK_id {st : List Ob} {id : Nat} {k : MK} {x : Nat × Ob} (h : layK st id k = some x) : x.1 = id := by
  unfold layK at h
  split at h
  · cases h; rfl
  · cases h
theorem putK_id {st : List Ob} {t : TypeId} {x i y : DV} {z : Nat × Ob} (h : putK P st t x i y = some z) : z.1 ∈ refsOf x := by
  unfold putK at h
  split at h
  · split at h
    · split at h
      · cases h; simp [refsOf]
      · cases h; simp [refsOf]
      · cases h
    · cases h
  · cases h
theorem freezeD_set {st : List Ob} {x : DV} {r : Out} (h : freezeD st x = some r) {id : Nat} {o : Ob} (hs : r.set = some (id, o)) : (id, true) ∈ (refsOf x).map fun i => (i, true) := by
  unfold freezeD at h
  split at h
  · split at h
    · split at h
      · cases h
        simp only at hs; cases hs
        simp [refsOf]
      · cases h
    · cases h
  · cases h
/-- What an operation turns it is said to turn. -/
theorem nzO_set {nz : List (Nat × Nat)} {r : Out} {id : Nat} {o : Ob} (h : (nzO nz r).set = some (id, o)) : ∃ o', r.set = some (id, o') := by
  unfold nzO at h
  split at h
  · exact ⟨o, h⟩
  · simp only [Option.map_eq_some_iff] at h
    obtain ⟨⟨i, o'⟩, h1, h2⟩ := h
    cases h2
    exact ⟨o', h1⟩
theorem nzO_drop (nz : List (Nat × Nat)) (r : Out) : (nzO nz r).drop = r.drop := by
  unfold nzO
  split <;> rfl
theorem opS_set {c : Site} {op : Op} {fr : Nat → DV} {st : List Ob} {r : Out} (h : opS P c op fr st = some r) {id : Nat} {o : Ob} (hs : r.set = some (id, o)) : (id, true) ∈ accS c op fr := by
  cases op with
  | alloc t =>
    simp only [opS, Option.bind_eq_some_iff, Option.map_eq_some_iff] at h
    obtain ⟨_, _, x, hx, rfl⟩ := h
    simp only at hs; cases hs
    have := lay_id hx; simp only at this; subst this
    simp [accS]
  | box t x =>
    simp only [opS, Option.bind_eq_some_iff, Option.map_eq_some_iff] at h
    obtain ⟨_, _, x, hx, rfl⟩ := h
    simp only at hs; cases hs
    have := lay_id hx; simp only at this; subst this
    simp [accS]
  | makeSlice t x y =>
    simp only [opS] at h
    split at h
    · split at h
      · split at h
        · split at h
          · split at h
            · rw [Option.map_eq_some_iff] at h
              obtain ⟨_, _, rfl⟩ := h
              cases hs
            · cases h
          · rw [Option.map_eq_some_iff] at h
            obtain ⟨x, hx, rfl⟩ := h
            simp only at hs; cases hs
            have := lay_id hx; simp only at this; subst this
            simp [accS]
        · cases h
      · cases h
    · cases h
  | buildSlice t n ps =>
    simp only [opS] at h
    split at h
    · split at h
      · split at h
        · cases h
        · split at h
          · cases h
          · split at h
            · rename_i ho
              rw [Option.map_eq_some_iff] at h
              obtain ⟨x, hx, rfl⟩ := h
              simp only at hs; cases hs
              have := lay_id hx; simp only at this; subst this
              simp [accS, ho]
            · rw [Option.map_eq_some_iff] at h
              obtain ⟨x, hx, rfl⟩ := h
              cases hs
      · cases h
    · cases h
  | load t x =>
    simp only [opS] at h
    split at h
    · rename_i hm
      split at h
      · rename_i id' ver off h1 h2
        split at h
        · rw [Option.map_eq_some_iff] at h
          obtain ⟨y, hy, rfl⟩ := h
          simp only at hs; cases hs
          simp [accS, h1, refsOf, hm]
        · cases h
      · cases h
    · obtain ⟨_, _, rfl⟩ := val_some h
      cases hs
  | store t x y =>
    have key : ∀ {v : DV} {z : Nat × Ob}, storeD P st t (ev fr x) v = some z → (z.1, true) ∈ accS c (.store t x y) fr := fun hz => by
      obtain ⟨id', ver, off, vs, k, o', hx, _, _, _, _, _, _, rfl⟩ := storeD_some hz
      simp [accS, hx, refsOf]
    simp only [opS] at h
    split at h
    · simp only [Option.map_eq_some_iff] at h
      obtain ⟨r0, ⟨z, hz, rfl⟩, rfl⟩ := h
      obtain ⟨o', hs⟩ := nzO_set hs
      simp only at hs; cases hs
      exact key hz
    · simp only [Option.map_eq_some_iff] at h
      obtain ⟨r0, ⟨z, hz, rfl⟩, rfl⟩ := h
      obtain ⟨o', hs⟩ := nzO_set hs
      simp only at hs; cases hs
      exact key hz
  | call k =>
    cases hk : k.callee with
    | builtin b =>
      simp only [opS, hk] at h
      split at h
      · obtain ⟨_, _, rfl⟩ := val_some h; cases hs
      · obtain ⟨_, _, rfl⟩ := val_some h; cases hs
      · obtain ⟨_, _, rfl⟩ := val_some h; cases hs
      · rename_i x y hl
        split at h
        · split at h
          · rename_i ho
            simp only [accS, hk, hl, ho, if_true]
            unfold appendO at h
            split at h
            · split at h
              · cases h
              · split at h
                · cases h
                · split at h
                  · cases h
                  · split at h
                    · split at h
                      · rw [Option.map_eq_some_iff] at h
                        obtain ⟨z, hz, rfl⟩ := h
                        simp only at hs; cases hs
                        have := lay_id hz; simp only at this; subst this
                        simp
                      · cases h
                    · split at h
                      · rename_i id' ver off len esz hx
                        split at h
                        · split at h
                          · rw [Option.map_eq_some_iff] at h
                            obtain ⟨_, _, rfl⟩ := h
                            simp only at hs; cases hs
                            simp [hx, refsOf]
                          · cases h
                        · cases h
                      · split at h
                        · rw [Option.map_eq_some_iff] at h
                          obtain ⟨z, hz, rfl⟩ := h
                          simp only at hs; cases hs
                          have := lay_id hz; simp only at this; subst this
                          simp
                        · cases h
                      · cases h
            · cases h
          · rw [Option.map_eq_some_iff] at h
            obtain ⟨_, _, rfl⟩ := h
            cases hs
        · cases h
      · rename_i x y hl
        split at h
        · simp only [accS, hk, hl]
          unfold copyD at h
          split at h
          · rename_i el id' ver off len esz xx hu hx
            split at h
            · split at h
              · split at h
                · cases h
                  simp only at hs; cases hs
                  simp [hx, refsOf]
                · cases h
              · cases h
            · cases h
          · cases h
        · cases h
      · rename_i x hl
        split at h
        · simp only [accS, hk, hl]
          unfold clearD at h
          split at h
          · rename_i el id' ver off len esz xx hu hx
            split at h
            · split at h
              · cases h
                simp only at hs; cases hs
                simp [hx, refsOf]
              · cases h
            · cases h
          · cases h
        · cases h
      · cases h
    | _ => simp [opS, hk] at h
  | move x =>
    simp only [opS] at h
    split at h
    · cases h; cases hs
    · split at h
      · rename_i hz
        simp only [accS, hz, if_true]
        exact freezeD_set h hs
      · cases h; cases hs
  | assign x =>
    simp only [opS] at h
    split at h
    · cases h; cases hs
    · split at h
      · rename_i hz
        simp only [accS, hz, if_true]
        exact freezeD_set h hs
      · cases h; cases hs
  | pick b x y => simp only [opS] at h; split at h <;> cases h; cases hs
  | nilCheck x => simp only [opS] at h; split at h <;> cases h <;> cases hs
  | makeFunc fn xs ys => cases fn <;> simp [opS] at h; subst h; cases hs
  | build t ps =>
    simp only [opS] at h
    split at h
    · split at h
      · obtain ⟨_, _, rfl⟩ := val_some h; cases hs
      · cases h
    · split at h
      · obtain ⟨_, _, rfl⟩ := val_some h; cases hs
      · cases h
    · cases h
  | extract x i =>
    simp only [opS] at h
    split at h
    · obtain ⟨_, _, rfl⟩ := val_some h; cases hs
    · cases h
  | binOp op t x y u => obtain ⟨_, _, rfl⟩ := val_some h; cases hs
  | unOp op t x => obtain ⟨_, _, rfl⟩ := val_some h; cases hs
  | convert a b x => obtain ⟨_, _, rfl⟩ := val_some h; cases hs
  | slice t x lo hi mx => obtain ⟨_, _, rfl⟩ := val_some h; cases hs
  | fieldAddr t x f => obtain ⟨_, _, rfl⟩ := val_some h; cases hs
  | field t x f => obtain ⟨_, _, rfl⟩ := val_some h; cases hs
  | indexAddr t x y => obtain ⟨_, _, rfl⟩ := val_some h; cases hs
  | index t x y => obtain ⟨_, _, rfl⟩ := val_some h; cases hs
  | makeMap t rs =>
    cases rs with
    | some v => simp [opS] at h
    | none =>
      simp only [opS, Option.map_eq_some_iff] at h
      obtain ⟨x, hx, rfl⟩ := h
      simp only at hs; cases hs
      have := layK_id hx; simp only at this; subst this
      simp [accS]
  | lookup t x i ok => obtain ⟨_, _, rfl⟩ := val_some h; cases hs
  | mapUpdate t x i y =>
    simp only [opS, Option.map_eq_some_iff] at h
    obtain ⟨z, hz, rfl⟩ := h
    simp only at hs; cases hs
    have := putK_id hz
    simp only [accS, List.mem_map]; exact ⟨id, this, rfl⟩
  | insert t x i y =>
    simp only [opS, Option.map_eq_some_iff] at h
    obtain ⟨z, hz, rfl⟩ := h
    simp only at hs; cases hs
    have := putK_id hz
    simp only [accS, List.mem_map]; exact ⟨id, this, rfl⟩
  | range t x =>
    simp only [opS] at h
    unfold iterD at h
    split at h
    · split at h
      · split at h
        · rw [Option.map_eq_some_iff] at h
          obtain ⟨z, hz, rfl⟩ := h
          simp only at hs; cases hs
          have := layK_id hz; simp only at this; subst this
          simp [accS]
        · rw [Option.map_eq_some_iff] at h
          obtain ⟨z, hz, rfl⟩ := h
          simp only at hs; cases hs
          have := layK_id hz; simp only at this; subst this
          simp [accS]
        · cases h
      · cases h
    · cases h
  | next x b =>
    cases b with
    | false => obtain ⟨_, _, rfl⟩ := val_some h; cases hs
    | true => simp [opS] at h
  | entry x => obtain ⟨_, _, rfl⟩ := val_some h; cases hs
  | _ => simp [opS] at h

theorem opS_drop {c : Site} {op : Op} {fr : Nat → DV} {st : List Ob} {r : Out} (h : opS P c op fr st = some r) : ∀ t ∈ r.drop, t ∈ dropsOf c op := by
  have fz : ∀ {x : DV} {r : Out}, freezeD st x = some r → r.drop = [] := fun {x r} h => by
    unfold freezeD at h
    split at h
    · split at h
      · split at h
        · cases h; rfl
        · cases h
      · cases h
    · cases h
  cases op with
  | move x =>
    simp only [opS] at h
    split at h
    · rename_i hm; cases h; simp [dropsOf, hm]
    · split at h
      · rw [fz h]; simp
      · cases h; simp
  | assign x =>
    simp only [opS] at h
    split at h
    · rename_i hm; cases h; simp [dropsOf, hm]
    · split at h
      · rw [fz h]; simp
      · cases h; simp
  | store t x y =>
    simp only [opS] at h
    split at h
    · rename_i hm
      simp only [Option.map_eq_some_iff] at h
      obtain ⟨r0, ⟨z, hz, rfl⟩, rfl⟩ := h
      rw [nzO_drop]
      simp [dropsOf, hm]
    · simp only [Option.map_eq_some_iff] at h
      obtain ⟨r0, ⟨z, hz, rfl⟩, rfl⟩ := h
      rw [nzO_drop]
      simp
  | alloc t =>
    simp only [opS, Option.bind_eq_some_iff, Option.map_eq_some_iff] at h
    obtain ⟨_, _, x, hx, rfl⟩ := h
    simp
  | box t x =>
    simp only [opS, Option.bind_eq_some_iff, Option.map_eq_some_iff] at h
    obtain ⟨_, _, x, hx, rfl⟩ := h
    simp
  | makeSlice t x y =>
    simp only [opS] at h
    split at h
    · split at h
      · split at h
        · split at h
          · split at h
            · rw [Option.map_eq_some_iff] at h
              obtain ⟨_, _, rfl⟩ := h
              simp
            · cases h
          · rw [Option.map_eq_some_iff] at h
            obtain ⟨x, hx, rfl⟩ := h
            simp
        · cases h
      · cases h
    · cases h
  | buildSlice t n ps =>
    simp only [opS] at h
    split at h
    · split at h
      · split at h
        · cases h
        · split at h
          · cases h
          · split at h
            · rw [Option.map_eq_some_iff] at h
              obtain ⟨x, hx, rfl⟩ := h
              simp
            · rw [Option.map_eq_some_iff] at h
              obtain ⟨x, hx, rfl⟩ := h
              simp
      · cases h
    · cases h
  | load t x =>
    simp only [opS] at h
    split at h
    · split at h
      · split at h
        · rw [Option.map_eq_some_iff] at h
          obtain ⟨y, hy, rfl⟩ := h
          simp
        · cases h
      · cases h
    · obtain ⟨_, _, rfl⟩ := val_some h
      simp
  | call k =>
    cases hk : k.callee with
    | builtin b =>
      simp only [opS, hk] at h
      split at h
      · obtain ⟨_, _, rfl⟩ := val_some h; simp
      · obtain ⟨_, _, rfl⟩ := val_some h; simp
      · obtain ⟨_, _, rfl⟩ := val_some h; simp
      · rename_i x y hl
        split at h
        · split at h
          · unfold appendO at h
            split at h
            · split at h
              · cases h
              · split at h
                · cases h
                · split at h
                  · cases h
                  · split at h
                    · split at h
                      · rw [Option.map_eq_some_iff] at h
                        obtain ⟨z, hz, rfl⟩ := h
                        simp
                      · cases h
                    · split at h
                      · split at h
                        · split at h
                          · rw [Option.map_eq_some_iff] at h
                            obtain ⟨_, _, rfl⟩ := h
                            simp
                          · cases h
                        · cases h
                      · split at h
                        · rw [Option.map_eq_some_iff] at h
                          obtain ⟨z, hz, rfl⟩ := h
                          simp
                        · cases h
                      · cases h
            · cases h
          · rename_i ho
            rw [Option.map_eq_some_iff] at h
            obtain ⟨_, _, rfl⟩ := h
            intro t ht
            simp only [dropsOf, hk, hl]
            rw [if_neg ho]
            simp only at ht
            split at ht
            · exact ht
            · simp at ht
        · cases h
      · rename_i x y hl
        split at h
        · unfold copyD at h
          split at h
          · split at h
            · split at h
              · split at h
                · cases h; simp
                · cases h
              · cases h
            · cases h
          · cases h
        · cases h
      · rename_i x hl
        split at h
        · unfold clearD at h
          split at h
          · split at h
            · split at h
              · cases h; simp
              · cases h
            · cases h
          · cases h
        · cases h
      · cases h
    | _ => simp [opS, hk] at h
  | pick b x y => simp only [opS] at h; split at h <;> cases h; simp
  | nilCheck x => simp only [opS] at h; split at h <;> cases h <;> simp
  | makeFunc fn xs ys => cases fn <;> simp [opS] at h; subst h; simp
  | build t ps =>
    simp only [opS] at h
    split at h
    · split at h
      · obtain ⟨_, _, rfl⟩ := val_some h; simp
      · cases h
    · split at h
      · obtain ⟨_, _, rfl⟩ := val_some h; simp
      · cases h
    · cases h
  | extract x i =>
    simp only [opS] at h
    split at h
    · obtain ⟨_, _, rfl⟩ := val_some h; simp
    · cases h
  | binOp op t x y u => obtain ⟨_, _, rfl⟩ := val_some h; simp
  | unOp op t x => obtain ⟨_, _, rfl⟩ := val_some h; simp
  | convert a b x => obtain ⟨_, _, rfl⟩ := val_some h; simp
  | slice t x lo hi mx => obtain ⟨_, _, rfl⟩ := val_some h; simp
  | fieldAddr t x f => obtain ⟨_, _, rfl⟩ := val_some h; simp
  | field t x f => obtain ⟨_, _, rfl⟩ := val_some h; simp
  | indexAddr t x y => obtain ⟨_, _, rfl⟩ := val_some h; simp
  | index t x y => obtain ⟨_, _, rfl⟩ := val_some h; simp
  | makeMap t rs =>
    cases rs with
    | some v => simp [opS] at h
    | none =>
      simp only [opS, Option.map_eq_some_iff] at h
      obtain ⟨x, hx, rfl⟩ := h
      simp
  | lookup t x i ok => obtain ⟨_, _, rfl⟩ := val_some h; simp
  | mapUpdate t x i y =>
    simp only [opS, Option.map_eq_some_iff] at h
    obtain ⟨z, hz, rfl⟩ := h
    simp
  | insert t x i y =>
    simp only [opS, Option.map_eq_some_iff] at h
    obtain ⟨z, hz, rfl⟩ := h
    simp
  | range t x =>
    simp only [opS] at h
    unfold iterD at h
    split at h
    · split at h
      · split at h
        · rw [Option.map_eq_some_iff] at h
          obtain ⟨z, hz, rfl⟩ := h
          simp
        · rw [Option.map_eq_some_iff] at h
          obtain ⟨z, hz, rfl⟩ := h
          simp
        · cases h
      · cases h
    · cases h
  | next x b =>
    cases b with
    | false => obtain ⟨_, _, rfl⟩ := val_some h; simp
    | true => simp [opS] at h
  | entry x => obtain ⟨_, _, rfl⟩ := val_some h; simp
  | _ => simp [opS] at h

/-! ### a step as a value and a new memory -/
def dstOf (g : Reg) (i : Nat) : Option Tmp := (g.ops[i]?).bind (·.dst)
def stepE (P : Program) (rec : Rec) (g : Reg) (i : Nat) (fr : Nat → DV) (m : M) : Option (DV × List Tmp × M) :=
  match g.ops[i]? with
  | none => some (.un, [], m)
  | some o =>
    if !dstOk g.nt o.dst then none else
    match wantedD g.ops o fr with
    | none => none
    | some false => some (.tup [], [], m)
    | some true =>
      match calleeOf fr o.op with
      | some (.fn f xs ys, args) => (callD P rec g.Γ (g.site i).own (g.site i).lc m f (xs ++ args ++ ys)).map fun (d, m) => (d, [], m)
      | some (.yl j, args) => (rec.round g.Γ j args m).map fun (d, m) => (d, [], m)
      | some _ => none
      | none => (opS P (g.site i) o.op fr m.st).map fun r => (r.d, r.drop, setM m r.set)
def trans (fr : Nat → DV) (dst : Option Tmp) (d : DV) (drop : List Tmp) : Nat → DV := put (dropL fr drop) dst d
theorem trans_at {fr : Nat → DV} {dst : Option Tmp} {d : DV} {drop : List Tmp} {t : Nat} : trans fr dst d drop t = if dst = some t then d else if t ∈ drop then unflag (fr t) else fr t := by
  unfold trans
  by_cases h : dst = some t
  · subst h; simp [put, upd]
  · rw [putD_ne h, if_neg h]
    by_cases hm : t ∈ drop
    · rw [dropL_mem hm, if_pos hm]
    · rw [dropL_not hm, if_neg hm]

theorem stepD_eq {rec : Rec} {g : Reg} {i : Nat} {s : S} : stepD P rec g i s = (stepE P rec g i s.fr s.m).map fun (d, drop, m) => ⟨trans s.fr (dstOf g i) d drop, m⟩ := by
  unfold stepD stepE dstOf
  cases ho : g.ops[i]? with
  | none => rfl
  | some o =>
    simp only
    split
    · rfl
    · cases hw : wantedD g.ops o s.fr with
      | none => rfl
      | some b =>
        cases b with
        | false => rfl
        | true =>
          simp only [Option.bind_some]
          cases hc : calleeOf s.fr o.op with
          | some x =>
            obtain ⟨d, args⟩ := x
            cases d <;> first | rfl | (simp only [Option.map_map]; rfl)
          | none => simp only [Option.map_map]; rfl

def looks (g : Reg) (i : Nat) : List Tmp := match g.ops[i]? with | some o => looksOf g.ops o | none => []
def touch (g : Reg) (i : Nat) : List Tmp := match g.ops[i]? with | some o => touches (g.site i) o | none => []

theorem stepE_touch {rec : Rec} {g : Reg} {i : Nat} {fr : Nat → DV} {m m' : M} {d : DV} {drop : List Tmp} (h : stepE P rec g i fr m = some (d, drop, m')) : (∀ t, dstOf g i = some t → t ∈ touch g i) ∧ ∀ t ∈ drop, t ∈ touch g i := by
  unfold stepE at h
  unfold dstOf touch
  cases ho : g.ops[i]? with
  | none => rw [ho] at h; cases h; exact ⟨by simp, by simp⟩
  | some o =>
    rw [ho] at h
    simp only at h ⊢
    refine ⟨fun t ht => by simp at ht; simp [touches, ht], ?_⟩
    split at h
    · cases h
    · split at h
      · cases h
      · cases h; simp
      · split at h
        · rw [Option.map_eq_some_iff] at h
          obtain ⟨x, _, hh⟩ := h
          cases hh; simp
        · rw [Option.map_eq_some_iff] at h
          obtain ⟨x, _, hh⟩ := h
          cases hh; simp
        · cases h
        · rw [Option.map_eq_some_iff] at h
          obtain ⟨x, hx, hh⟩ := h
          cases hh
          intro t ht
          exact List.mem_append_right _ (opS_drop hx t ht)

theorem wantedD_same {ops : Array Oper} {o : Oper} {fr fr' : Nat → DV} (h : Same (looksOf ops o) fr fr') : wantedD ops o fr = wantedD ops o fr' := by
  unfold wantedD
  cases hg : o.guard with
  | none => rfl
  | some p =>
    obtain ⟨j, want⟩ := p
    simp only
    cases hd : (ops[j]?).bind (·.dst) with
    | none => rfl
    | some t =>
      simp only
      rw [h t (by unfold looksOf; rw [hg]; simp [hd])]

theorem step_same {rec : Rec} {g : Reg} {i : Nat} {fr fr' : Nat → DV} (h : Same (looks g i) fr fr') (m : M) : stepE P rec g i fr m = stepE P rec g i fr' m ∧ accD rec g i fr = accD rec g i fr' := by
  unfold looks at h
  unfold stepE accD
  cases ho : g.ops[i]? with
  | none => exact ⟨rfl, rfl⟩
  | some o =>
    rw [ho] at h
    simp only at h ⊢
    have hw := wantedD_same h
    have ho' := fun st => op_same (P := P) (c := g.site i) (op := o.op) (fr := fr) (fr' := fr') (fun t ht => h t (List.mem_append_left _ ht)) st
    rw [hw, (ho' m.st).2.2, (ho' m.st).1, (ho' m.st).2.1]
    exact ⟨rfl, rfl⟩

def setMs (m : M) (l : List (Nat × Ob)) : M := { m with st := l.foldl (fun st x => st.set x.1 x.2) m.st }
theorem setMs_opt (m : M) (o : Option (Nat × Ob)) : setMs m o.toList = setM m o := by
  cases o with
  | none => rfl
  | some x => rfl
/-- A step that touches the objects A alone. -/
def LocalAt (P : Program) (rec : Rec) (g : Reg) (i : Nat) (fr : Nat → DV) (A : List (Nat × Bool)) : Prop :=
  ∀ m : M, (stepE P rec g i fr m = none ∧ ∀ m' : M, (∀ p ∈ A, m.st[p.1]? = m'.st[p.1]?) → stepE P rec g i fr m' = none) ∨
    ∃ d drop set, (∀ id o, (id, o) ∈ set → (id, true) ∈ A) ∧ ∀ m' : M, (∀ p ∈ A, m.st[p.1]? = m'.st[p.1]?) → stepE P rec g i fr m' = some (d, drop, setMs m' set)

theorem callD_own {rec : Rec} {Γ : List (Nat × Ctx)} {lc : Option (List Nat)} {m : M} {f : FuncId} {args : List DV} (hp : rec.prim f = none) (h : args.all isClosed = true) : callD P rec Γ false lc m f args = (if enters P f then (match rec.call [] f args ⟨[], []⟩ with | some (d, m') => closeTop m'.st d | none => none) else none).map fun d => (d, m) := by
  unfold callD
  cases enters P f with
  | false => rfl
  | true =>
    simp only [hp, h, Bool.not_true, Bool.false_eq_true, if_false, if_true]
    cases rec.call [] f args ⟨[], []⟩ with
    | none => rfl
    | some x => rfl

theorem idx_in : ∀ {sel : List Nat} {id j : Nat}, idx sel id = some j → id ∈ sel
  | [], _, _, h => by cases h
  | x :: xs, id, j, h => by
    unfold idx at h
    by_cases hx : x = id
    · simp [hx]
    · rw [if_neg hx] at h
      cases hi : idx xs id with
      | none => rw [hi] at h; cases h
      | some k => exact List.mem_cons_of_mem _ (idx_in hi)
mutual
theorem locD_congr {sel : List Nat} {st st' : List Ob} (h : ∀ id ∈ sel, st[id]? = st'[id]?) : ∀ d : DV, locD sel st d = locD sel st' d
  | .ms id ver off len esz x => by
    unfold locD
    cases hi : idx sel id with
    | none => rfl
    | some j => rw [h id (idx_in hi)]
  | .pt id ver off => by
    unfold locD
    cases hi : idx sel id with
    | none => rfl
    | some j => rw [h id (idx_in hi)]
  | .agg ds => by unfold locD; rw [locL_congr h ds]
  | .tup ds => by unfold locD; rw [locL_congr h ds]
  | .fn f a b => by unfold locD; rw [locL_congr h a, locL_congr h b]
  | .yl _ => by unfold locD; rfl
  | .er _ => by unfold locD; rfl
  | .mp .. => by unfold locD; rfl
  | .mi .. => by unfold locD; rfl
  | .un => by unfold locD; rfl
  | .c v => by unfold locD; rfl
  | .ap nl cs len esz => by unfold locD; rfl
  | .ia cs off => by unfold locD; rfl
theorem locL_congr {sel : List Nat} {st st' : List Ob} (h : ∀ id ∈ sel, st[id]? = st'[id]?) : ∀ ds : List DV, locL sel st ds = locL sel st' ds
  | [] => by unfold locL; rfl
  | d :: ds => by unfold locL; rw [locD_congr h d, locL_congr h ds]
end
theorem locS_congr {sel : List Nat} {st st' : List Ob} (h : ∀ id ∈ sel, st[id]? = st'[id]?) : ∀ ids : List Nat, (∀ id ∈ ids, id ∈ sel) → locS sel st ids = locS sel st' ids
  | [], _ => by unfold locS; rfl
  | id :: ids, hi => by
    unfold locS
    rw [h id (hi id (by simp)), locS_congr h ids (fun x hx => hi x (by simp [hx]))]
    cases st'[id]? with
    | none => rfl
    | some o => simp only [locL_congr h o.cs]
/-- What comes back of the objects. -/
def putL (sel vs : List Nat) : List Nat → List Nat → List Ob → Option (List (Nat × Ob))
  | [], [], _ => some []
  | id :: ids, v :: ws, o :: os => match bkL sel vs o.cs with
    | some cs => (putL sel vs ids ws os).map fun l => (id, ⟨v + (o.ver - 1), cs⟩) :: l
    | none => none
  | _, _, _ => none
theorem putBack_putL {sel vs : List Nat} : ∀ (ids ws : List Nat) (os : List Ob) (st : List Ob), putBack sel vs ids ws os st = (putL sel vs ids ws os).map fun l => l.foldl (fun st x => st.set x.1 x.2) st
  | [], [], _, st => by simp [putBack, putL]
  | [], w :: ws, os, st => by simp [putBack, putL]
  | id :: ids, [], os, st => by simp [putBack, putL]
  | id :: ids, w :: ws, [], st => by simp [putBack, putL]
  | id :: ids, w :: ws, o :: os, st => by
    simp only [putBack, putL]
    cases bkL sel vs o.cs with
    | none => rfl
    | some cs =>
      simp only [putBack_putL ids ws os, Option.map_map]
      rfl
theorem putL_mem {sel vs : List Nat} : ∀ {ids ws : List Nat} {os : List Ob} {l : List (Nat × Ob)}, putL sel vs ids ws os = some l → ∀ id o, (id, o) ∈ l → id ∈ ids
  | [], [], _, l, h, id, o, hm => by simp [putL] at h; subst h; cases hm
  | [], w :: ws, os, l, h, id, o, hm => by simp [putL] at h
  | x :: ids, [], os, l, h, id, o, hm => by simp [putL] at h
  | x :: ids, w :: ws, [], l, h, id, o, hm => by simp [putL] at h
  | x :: ids, w :: ws, y :: os, l, h, id, o, hm => by
    simp only [putL] at h
    cases hb : bkL sel vs y.cs with
    | none => rw [hb] at h; cases h
    | some cs =>
      rw [hb] at h
      simp only [Option.map_eq_some_iff] at h
      obtain ⟨l', h1, rfl⟩ := h
      rcases List.mem_cons.1 hm with hm | hm
      · cases hm; simp
      · exact List.mem_cons_of_mem _ (putL_mem h1 id o hm)
/-- What a call on some objects comes to. -/
def someD (rec : Rec) (sel : List Nat) (f : FuncId) (args : List DV) (m : M) : Option (DV × List (Nat × Ob)) :=
  if !nodupB sel then none else
  match locS sel m.st sel, locL sel m.st args with
  | some st0, some args0 =>
    match rec.call [] f args0 ⟨st0, []⟩ with
    | some (d, m1) => match endL sel.length d m1.st with
      | some (d, os) => match bkD sel (versOf m.st sel) d, putL sel (versOf m.st sel) sel (versOf m.st sel) os with
        | some d, some l => some (d, l)
        | _, _ => none
      | none => none
    | none => none
  | _, _ => none
theorem localD_someD (rec : Rec) (sel : List Nat) (f : FuncId) (args : List DV) (m : M) : localD rec sel m f args = (someD rec sel f args m).map fun x => (x.1, setMs m x.2) := by
  unfold localD someD
  by_cases hn : nodupB sel = true
  case neg => rw [if_pos (by simpa using hn), if_pos (by simpa using hn)]; rfl
  rw [if_neg (by simpa using hn), if_neg (by simpa using hn)]
  cases locS sel m.st sel with
  | none => rfl
  | some st0 =>
    cases locL sel m.st args with
    | none => rfl
    | some args0 =>
      simp only
      cases rec.call [] f args0 ⟨st0, []⟩ with
      | none => rfl
      | some x =>
        obtain ⟨d, m1⟩ := x
        simp only
        cases endL sel.length d m1.st with
        | none => rfl
        | some y =>
          obtain ⟨d2, os⟩ := y
          simp only [backL, putBack_putL]
          cases bkD sel (versOf m.st sel) d2 with
          | none => rfl
          | some d3 =>
            cases putL sel (versOf m.st sel) sel (versOf m.st sel) os with
            | none => rfl
            | some l => rfl
theorem someD_congr (rec : Rec) (sel : List Nat) (f : FuncId) (args : List DV) {m m' : M} (h : ∀ id ∈ sel, m.st[id]? = m'.st[id]?) : someD rec sel f args m = someD rec sel f args m' := by
  unfold someD
  have h2 : versOf m.st sel = versOf m'.st sel := by
    unfold versOf
    exact List.map_congr_left fun id hid => by rw [h id hid]
  rw [locS_congr h sel (fun _ hx => hx), h2, locL_congr h args]
theorem someD_mem {rec : Rec} {sel : List Nat} {f : FuncId} {args : List DV} {m : M} {r : DV × List (Nat × Ob)} (h : someD rec sel f args m = some r) : ∀ id o, (id, o) ∈ r.2 → id ∈ sel := by
  unfold someD at h
  split at h
  · cases h
  split at h
  · split at h
    · split at h
      · split at h
        · rename_i hl
          cases h
          exact putL_mem hl
        · cases h
      · cases h
    · cases h
  · cases h
theorem localAt_of {rec : Rec} (hpr : ∀ f p, rec.prim f = some p → PrimOk P f p) {g : Reg} {i : Nat} {fr : Nat → DV} {A : List (Nat × Bool)} (h : accD rec g i fr = some A) : LocalAt P rec g i fr A := by
  intro m
  unfold accD at h
  unfold stepE
  cases ho : g.ops[i]? with
  | none => exact .inr ⟨.un, [], [], by simp, fun m' _ => rfl⟩
  | some o =>
    rw [ho] at h
    simp only at h ⊢
    by_cases hd : dstOk g.nt o.dst = true
    · simp only [hd, Bool.not_true, Bool.false_eq_true, if_false]
      cases hw : wantedD g.ops o fr with
      | none => exact .inl ⟨rfl, fun m' _ => rfl⟩
      | some b =>
        cases b with
        | false => exact .inr ⟨.tup [], [], [], by simp, fun m' _ => rfl⟩
        | true =>
          rw [hw] at h
          simp only at h ⊢
          cases hc : calleeOf fr o.op with
          | some x =>
            obtain ⟨d, args⟩ := x
            rw [hc] at h
            cases d with
            | fn f xs ys =>
              simp only at h ⊢
              cases hp : rec.prim f with
              | some p =>
                rw [hp] at h
                cases h
                have hpo := hpr f p hp
                simp only [callD, hp]
                cases enters P f with
                | false => exact .inl ⟨rfl, fun m' _ => rfl⟩
                | true =>
                  simp only [Bool.not_true, Bool.false_eq_true, if_false]
                  have hsame : ∀ m' : M, (∀ q ∈ ((xs ++ args ++ ys).flatMap refsOf).map (fun i => (i, true)), m.st[q.1]? = m'.st[q.1]?) → p m.st (xs ++ args ++ ys) = p m'.st (xs ++ args ++ ys) := fun m' hm =>
                    hpo.same _ _ _ fun id hid => hm (id, true) (List.mem_map.2 ⟨id, hid, rfl⟩)
                  cases hr : p m.st (xs ++ args ++ ys) with
                  | none => exact .inl ⟨rfl, fun m' hm => by rw [← hsame m' hm, hr]; rfl⟩
                  | some r =>
                    refine .inr ⟨r.d, [], r.set.toList, fun id o hs => List.mem_map.2 ⟨id, hpo.set _ _ _ hr id o (by simpa using hs), rfl⟩, fun m' hm => ?_⟩
                    rw [← hsame m' hm, hr, setMs_opt]; rfl
              | none =>
                rw [hp] at h
                simp only at h
                split at h
                · rename_i hh
                  cases h
                  have hown : (g.site i).own = false := by simpa using hh.2
                  rw [hown]
                  simp only [callD_own hp hh.1]
                  generalize (if enters P f = true then (match rec.call [] f (xs ++ args ++ ys) ⟨[], []⟩ with | some (d, m') => closeTop m'.st d | none => none) else none) = res
                  cases res with
                  | none => exact .inl ⟨rfl, fun m' _ => rfl⟩
                  | some d => exact .inr ⟨d, [], [], by simp, fun m' _ => by simp [setMs]⟩
                · split at h
                  · rename_i sel hcl hlc
                    cases h
                    have hcd : ∀ m' : M, callD P rec g.Γ (g.site i).own (g.site i).lc m' f (xs ++ args ++ ys) = if enters P f = true then localD rec sel m' f (xs ++ args ++ ys) else none := fun m' => by
                      unfold callD
                      cases enters P f with
                      | false => rfl
                      | true => simp only [hp, hcl, hlc, Bool.not_true, Bool.false_eq_true, if_false, if_true]
                    simp only [hcd]
                    cases enters P f with
                    | false => exact .inl ⟨rfl, fun m' _ => rfl⟩
                    | true =>
                      simp only [if_true, localD_someD]
                      have hag : ∀ m' : M, (∀ p ∈ sel.map (fun id => (id, true)), m.st[p.1]? = m'.st[p.1]?) → ∀ id ∈ sel, m.st[id]? = m'.st[id]? := fun m' hm id hid => hm (id, true) (List.mem_map.2 ⟨id, hid, rfl⟩)
                      cases ho1 : someD rec sel f (xs ++ args ++ ys) m with
                      | none => exact .inl ⟨rfl, fun m' hm => by rw [← someD_congr rec sel f _ (hag m' hm), ho1]; rfl⟩
                      | some r => exact .inr ⟨r.1, [], r.2, fun id' o hs => List.mem_map.2 ⟨id', someD_mem ho1 id' o hs, rfl⟩, fun m' hm => by rw [← someD_congr rec sel f _ (hag m' hm), ho1]; rfl⟩
                  · cases h
            | _ => simp at h
          | none =>
            rw [hc] at h
            cases h
            simp only
            cases hr : opS P (g.site i) o.op fr m.st with
            | none => exact .inl ⟨rfl, fun m' hm => by rw [← opS_local hm, hr]; rfl⟩
            | some r =>
              refine .inr ⟨r.d, r.drop, r.set.toList, fun id o hs => opS_set hr (by simpa using hs), fun m' hm => ?_⟩
              rw [← opS_local hm, hr, setMs_opt]
              simp
    · have hd' : dstOk g.nt o.dst = false := by simpa using hd
      simp only [hd', Bool.not_false, if_true]
      exact .inl (by simp)
end
end Go.Abs
