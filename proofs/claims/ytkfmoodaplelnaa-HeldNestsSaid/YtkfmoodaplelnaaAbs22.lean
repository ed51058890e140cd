/-
  Part of the proof: printed by the session's own program out of the program's form, or typed; it states no claim by itself.
-/
import Derived.Test.YtkfmoodaplelnaaAbs21
import Derived.LoopNIn
/-
  Abs22: a region, whether it draws its order or not.
-/
set_option linter.unusedVariables false
set_option linter.unusedSimpArgs false
set_option linter.unusedSectionVars false
namespace Go.Abs
open Go
variable [Fl]
variable [Gl]

section
variable {P : Program} {n0 : Nat} {PR : Addr → Prop} {Γ : List (Nat × Ctx)} {e e' : E} {reg reg' : Own → Addr → Prop} {m : M} {r : Option Nat} {k0 nt : Nat} {fr : Nat → DV} {a : Act} {rec : Rec} {g : Reg} {A : Nat → Option (List (Nat × Bool))} {fin : S}

theorem lo_of {as : List (Option (List (Nat × Bool)))} (hA : ∀ i, A i = as.getD i none) (h1 : drawStatic g = true) (h2 : (loudPairs g).all (fun (j, i) => compat (as.getD j none) (as.getD i none)) = true) {j i : Nat} {oi oj : Oper} (hi : g.ops[i]? = some oi) (hj : g.ops[j]? = some oj)
    (hji : j < i) (hn : ¬ ((preds g.ops).getD i 0).testBit j = true) : Lo rec g A j i := by
  have hmem : (j, i) ∈ loosePairs g.ops := by
    unfold loosePairs
    refine List.mem_flatMap.2 ⟨i, by have := (Array.getElem?_eq_some_iff.1 hi).1; simpa using this, List.mem_map.2 ⟨j, List.mem_filter.2 ⟨by simpa using hji, ?_⟩, rfl⟩⟩
    simpa using hn
  simp only [drawStatic, drawStaticO, Bool.and_eq_true] at h1
  have hap := List.all_eq_true.1 h1.2 (j, i) hmem
  simp only [hi, hj] at hap
  simp only [apartD, Bool.and_eq_true, touches_site0] at hap
  refine ⟨fun t ht hl => ?_, fun t ht hl => ?_, fun t ht hti => ?_, ?_⟩
  · simp only [touch, hj] at ht
    have := List.all_eq_true.1 hap.1 t ht
    simp only [looks, hi] at hl
    simp [hl] at this
  · simp only [touch, hi] at ht
    have := List.all_eq_true.1 hap.2 t ht
    simp only [looks, hj] at hl
    simp [hl] at this
  · simp only [touch, hj] at ht
    simp only [touch, hi] at hti
    have := List.all_eq_true.1 hap.1 t ht
    simp [hti] at this
  · by_cases qj : quietOp (g.site j) oj.op = true
    · exact .inl fun fr => quiet_acc hj qj fr
    · by_cases qi : quietOp (g.site i) oi.op = true
      · exact .inr (.inl fun fr => quiet_acc hi qi fr)
      · have hloud : (j, i) ∈ loudPairs g := by
          unfold loudPairs loudPairsO
          refine List.mem_filter.2 ⟨hmem, ?_⟩
          simp only [hi, hj]
          simp [qi, qj, quietOp_site0]
        have hc := List.all_eq_true.1 h2 (j, i) hloud
        simp only at hc
        rw [← hA, ← hA] at hc
        cases hX : A j with
        | none => rw [hX] at hc; simp [compat] at hc
        | some X =>
          cases hY : A i with
          | none => rw [hX, hY] at hc; simp [compat] at hc
          | some Y => rw [hX, hY] at hc; exact .inr (.inr ⟨X, Y, rfl, rfl, hc⟩)

theorem getD_false_of {l : Array Bool} {i : Nat} (hi : i < l.size) (h : ¬ l.getD i true = false) : l.getD i false = true := by
  simp [Array.getD_eq_getD_getElem?, hi] at *
  exact h
theorem getD_true_of {l : Array Bool} {i : Nat} (h : l.getD i false = true) : ¬ l.getD i true = false := by
  rcases Nat.lt_or_ge i l.size with hlt | hge
  · simp [Array.getD_eq_getD_getElem?, hlt] at *; exact h
  · simp [Array.getD_eq_getD_getElem?, Array.getElem?_eq_none hge] at *

theorem any_sound (hc : CallOk P rec) (hrd : RoundOk P rec) {as : List (Option (List (Nat × Bool)))} (hA : ∀ i, A i = as.getD i none) (h1 : drawStatic g = true) (h2 : (loudPairs g).all (fun (j, i) => compat (as.getD j none) (as.getD i none)) = true)
    (hΓ : g.Γ = Γ) (hnt : g.nt = nt) (Q : Exit → Act → World → Prop) (n : Nat) : ∀ (fuel : Nat) (ρ : List Nat) (listed : Array Bool) (s : S) (a : Act) (e : E) (reg : Own → Addr → Prop), ρ.length = fuel → ρ.Pairwise (· < ·) → listed.size = g.ops.size →
      (∀ i, listed.getD i true = false ↔ i ∈ ρ) → Down g.ops (fun k => k ∉ ρ) → (∀ i ∈ ρ, i < g.ops.size) → Good P rec g A fin ρ s → St n0 PR Γ e reg s.m → NoRes reg → Fr r k0 nt Γ e reg s.fr a → Next n0 PR Γ r k0 nt e fin (fun a w => Q .normal a w) →
      wpAnyIn (fence r) n P .any g.ops Q fuel listed a e.w := by
  intro fuel
  induction fuel with
  | zero =>
    intro ρ listed s a e reg hl hp hs hli hd hb hg st hres hf hK
    have : ρ = [] := List.eq_nil_of_length_eq_zero hl
    subst this
    refine ⟨?_, ?_⟩
    · rw [List.eq_nil_iff_forall_not_mem]
      intro j hj
      have := (hli j).1 (mem_ready.1 hj).1
      simp at this
    · cases hg
      exact hK a e reg st hres hf (To.refl ..)
  | succ fuel ih =>
    intro ρ listed s a e reg hl hp hs hli hd hb hg st hres hf hK
    refine ⟨fun h0 => ?_, fun i hi => ?_⟩
    · -- the least one is ready
      cases ρ with
      | nil => simp at hl
      | cons i0 ρ =>
        exfalso
        have hlt : i0 < g.ops.size := hb i0 (by simp)
        have ho : g.ops[i0]? = some g.ops[i0] := Array.getElem?_eq_getElem hlt
        have : i0 ∈ Region.ready .any g.ops listed := by
          refine mem_ready.2 ⟨(hli i0).2 (by simp), _, ho, fun ed hed hbd => ?_⟩
          simp only [drawStatic, drawStaticO, Bool.and_eq_true] at h1
          have hz : (g.ops[i0], i0) ∈ g.ops.toList.zipIdx := by
            rw [List.mem_zipIdx_iff_getElem?]
            simp
          have := List.all_eq_true.1 h1.1 _ hz
          simp only at this
          have := List.all_eq_true.1 this ed (by simpa using hed)
          simp only [hbd, Bool.not_true, Bool.false_or, decide_eq_true_eq] at this
          refine getD_false_of (by omega) fun hh => ?_
          have hm := (hli ed.on).1 hh
          rcases List.mem_cons.1 hm with hm | hm
          · omega
          · have := (List.pairwise_cons.1 hp).1 _ hm; omega
        rw [h0] at this
        cases this
    · obtain ⟨hun, o, ho, hall⟩ := mem_ready.1 hi
      have hm : i ∈ ρ := (hli i).1 hun
      obtain ⟨α, β, rfl⟩ := List.append_of_mem hm
      have hpw := hp
      rw [List.pairwise_append] at hp
      obtain ⟨hp1, hp2, hp3⟩ := hp
      rw [List.pairwise_cons] at hp2
      have hαi : ∀ j ∈ α, j < i := fun j hj => hp3 j hj i (by simp)
      have hlo : ∀ j ∈ α, Lo rec g A j i := fun j hj => by
        have hjlt : j < g.ops.size := hb j (by simp [hj])
        have hoj : g.ops[j]? = some g.ops[j] := Array.getElem?_eq_getElem hjlt
        refine lo_of hA h1 h2 ho hoj (hαi j hj) fun hpj => ?_
        have := preds_spec hd i o ho (fun ed hed hbd hmem => getD_true_of (hall ed hed hbd) ((hli _).2 hmem)) j hpj
        exact this (by simp [hj])
      have hb' := Good.bubble hc.prim hlo hg
      cases hb' with
      | cons hac hst t =>
        rename_i s1
        refine step_sound hc hrd hst hΓ hnt st hres hf (K := wpAnyIn (fence r) n P .any g.ops Q fuel (listed.setIfInBounds i true)) (fun a' e' reg' st' hres' hf' to => ?_) Q n
        have hni : ∀ j, j ∈ α ++ β ↔ (j ∈ α ++ i :: β ∧ j ≠ i) := fun j => by
          constructor
          · intro hj
            rcases List.mem_append.1 hj with hj | hj
            · exact ⟨by simp [hj], by have := hαi j hj; omega⟩
            · exact ⟨by simp [hj], by have := hp2.1 j hj; omega⟩
          · rintro ⟨hj, hne⟩
            rcases List.mem_append.1 hj with hj | hj
            · simp [hj]
            · rcases List.mem_cons.1 hj with hj | hj
              · exact absurd hj hne
              · simp [hj]
        have hilt : i < listed.size := by rw [hs]; exact hb i (by simp)
        refine ih (α ++ β) _ s1 a' e' reg' (by simp at hl ⊢; omega) ?_ (by simpa using hs) (fun j => ?_) (fun k ok hok hk ed hed hbd hmem => ?_) (fun j hj => hb j ((hni j).1 hj).1) t st' hres' hf' (fun a2 e2 reg2 x1 x2 x3 x4 => hK a2 e2 reg2 x1 x2 x3 (to.trans st.gi x4))
        · exact List.pairwise_append.2 ⟨hp1, hp2.2, fun x hx y hy => hp3 x hx y (by simp [hy])⟩
        · rw [hni]
          by_cases hji : j = i
          · subst hji
            simp [Array.getD_eq_getD_getElem?, hilt]
          · rw [getD_set_ne true (Ne.symm hji), hli]
            simp [hji]
        · by_cases hki : k = i
          · subst hki
            rw [ho] at hok; cases hok
            exact getD_true_of (hall ed hed hbd) ((hli _).2 ((hni _).1 hmem).1)
          · exact hd k ok hok (fun hh => hk ((hni k).2 ⟨hh, hki⟩)) ed hed hbd ((hni _).1 hmem).1

theorem steps_sound (hc : CallOk P rec) (hrd : RoundOk P rec) (hΓ : g.Γ = Γ) (hnt : g.nt = nt) (Q : Exit → Act → World → Prop) (n : Nat) : ∀ (is : List Nat) (s s' : S) (a : Act) (e : E) (reg : Own → Addr → Prop), stepsD P rec g is s = some s' → St n0 PR Γ e reg s.m → NoRes reg → Fr r k0 nt Γ e reg s.fr a →
    Next n0 PR Γ r k0 nt e s' (fun a w => Q .normal a w) → wpOpsIn (fence r) n P g.ops Q is a e.w
  | [], s, s', a, e, reg, h, st, hres, hf, hK => by
    simp only [stepsD] at h; cases h
    exact hK a e reg st hres hf (To.refl ..)
  | i :: is, s, s', a, e, reg, h, st, hres, hf, hK => by
    simp only [stepsD] at h
    split at h
    · rename_i s1 hs
      rw [wpOpsIn_cons]
      exact step_sound hc hrd hs hΓ hnt st hres hf (fun a' e' reg' st' hres' hf' to => steps_sound hc hrd hΓ hnt Q n is s1 s' a' e' reg' h st' hres' hf' (fun a2 e2 reg2 x1 x2 x3 x4 => hK a2 e2 reg2 x1 x2 x3 (to.trans st.gi x4))) Q n
    · cases h

/-- Places for objects that are not laid yet. -/
theorem enter_sound (st : St n0 PR Γ e reg m) (hres : NoRes reg) (hf : Fr r k0 nt Γ e reg fr a) (k : Nat) : ∃ e', e'.w = e.w ∧ St n0 PR Γ e' reg { m with st := m.st ++ List.replicate k ⟨0, []⟩ } ∧ Fr r k0 nt Γ e' reg fr a ∧ To n0 PR Γ e e' := by
  let e' : E := { e with st := e.st ++ List.replicate k ⟨0, []⟩, io := fun j => if j < e.st.length then e.io j else ⟨0, 0, 0⟩ }
  have hlow : ∀ id, id < e.st.length → e'.st[id]? = e.st[id]? ∧ e'.io id = e.io id := fun id h => ⟨List.getElem?_append_left h, by simp [e', h]⟩
  have hhigh : ∀ id o, e.st.length ≤ id → e'.st[id]? = some o → o = ⟨0, []⟩ ∧ e'.io id = ⟨0, 0, 0⟩ := fun id o h ho => by
    refine ⟨?_, by simp [e', Nat.not_lt.2 h]⟩
    have ho : (e.st ++ List.replicate k (⟨0, []⟩ : Ob))[id]? = some o := ho
    rw [List.getElem?_append_right h] at ho
    exact (List.mem_replicate.1 (List.mem_of_getElem? ho)).2
  have hx : Ext e e' := by
    refine ⟨fun _ h => h, fun _ _ => rfl, by simp [e'], fun id o o' h1 h2 => ?_, fun _ _ h => h⟩
    have hlt := (List.getElem?_eq_some_iff.1 h1).1
    obtain ⟨q1, q2⟩ := hlow id hlt
    rw [q1, h1] at h2
    cases h2
    exact ⟨Nat.le_refl _, fun _ => q2⟩
  have same : SameK e e' := fun id o ho hk => by
    rcases Nat.lt_or_ge id e.st.length with hlt | hge
    · exact ⟨o, by rw [← (hlow id hlt).1]; exact ho, rfl, rfl⟩
    · obtain ⟨rfl, _⟩ := hhigh id o hge ho
      exact absurd rfl hk
  have to : To n0 PR Γ e e' := To.of_keep hx (Keep.refl ..) same
  have mi := st.mi
  refine ⟨e', rfl, ⟨by simp [e', st.st], st.la, st.lt, ⟨mi.imlt, mi.impr, mi.prlt, mi.n0le, mi.ok, mi.disj, ?_, ?_, ?_⟩, st.gi.to hx same (fun _ _ _ h => h) (fun _ _ _ h => h)⟩, ⟨fun t => (hf.rd t).mono hx (fun _ h => h), hf.nt, hf.df, hf.ro⟩, to⟩
  · intro id o ho
    rcases Nat.lt_or_ge id e.st.length with hlt | hge
    · obtain ⟨q1, q2⟩ := hlow id hlt
      rw [q1] at ho; rw [q2]; exact mi.ext id o ho
    · obtain ⟨rfl, q2⟩ := hhigh id o hge ho
      rw [q2]; exact Nat.le_refl _
  · intro id o ho i hi
    rcases Nat.lt_or_ge id e.st.length with hlt | hge
    · obtain ⟨q1, q2⟩ := hlow id hlt
      rw [q1] at ho; rw [q2] at hi ⊢; exact mi.own id o ho i hi
    · obtain ⟨rfl, q2⟩ := hhigh id o hge ho
      rw [q2] at hi; simp at hi
  · intro id o ho i d hd
    rcases Nat.lt_or_ge id e.st.length with hlt | hge
    · obtain ⟨q1, q2⟩ := hlow id hlt
      rw [q1] at ho; rw [q2]
      obtain ⟨k1, v, k2, k3⟩ := mi.cell id o ho i d hd
      exact ⟨k1, v, k2, k3.mono hx (fun _ h => h)⟩
    · obtain ⟨rfl, q2⟩ := hhigh id o hge ho
      simp at hd

theorem restr_fr {l : List Nat} (hf : Fr r k0 nt Γ e reg fr a) : Fr r k0 nt Γ e reg (restr l fr) a :=
  ⟨fun t => by rw [restr_at]; split; exact hf.rd t; exact .un, hf.nt, hf.df, hf.ro⟩
theorem leave_next {K : Act → World → Prop} {s : S} (h : Next n0 PR Γ r k0 nt e (leaveR g s) K) : Next n0 PR Γ r k0 nt e s K := by
  intro a' e' reg' h1 h2 h3 h4
  refine h a' e' reg' ?_ h2 ?_ h4
  · unfold leaveR; split <;> exact h1
  · unfold leaveR; split
    · exact restr_fr h3
    · exact h3

theorem enterR_eq (g : Reg) (s : S) : enterR g s = { s with m := { s.m with st := s.m.st ++ List.replicate (g.an.n g.f g.rid) ⟨0, []⟩ } } := by
  unfold enterR
  cases g.an.n g.f g.rid with
  | zero => simp
  | succ n => rfl

theorem region_sound (hm : P.follows .mixedOrders = true) (hc : CallOk P rec) (hrd : RoundOk P rec) {an : An} {f rid : Nat} {ops : Array Oper} {draw : Bool} {s s' : S} (h : regionD P rec an f nt Γ rid ops draw s = some s') (st : St n0 PR Γ e reg s.m) (hres : NoRes reg) (hf : Fr r k0 nt Γ e reg s.fr a)
    {Q : Exit → Act → World → Prop} (hK : Next n0 PR Γ r k0 nt e s' (fun a w => Q .normal a w)) (n : Nat) : (Code.region rid ops draw).wpIn (fence r) n P Q a e.w := by
  simp only [regionD] at h
  generalize hg : ({ an := an, f := f, nt := nt, rid := rid, ops := ops, base := s.m.st.length, Γ := Γ } : Reg) = g at h
  have hgo : g.ops = ops := by rw [← hg]
  have hgΓ : g.Γ = Γ := by rw [← hg]
  have hgn : g.nt = nt := by rw [← hg]
  obtain ⟨e1, hw1, st1', hf1', to1⟩ := enter_sound st hres hf (g.an.n g.f g.rid)
  have st1 : St n0 PR Γ e1 reg (enterR g s).m := by rw [enterR_eq]; exact st1'
  have hf1 : Fr r k0 nt Γ e1 reg (enterR g s).fr a := by rw [enterR_eq]; exact hf1'
  split at h
  · rename_i hdraw
    subst hdraw
    split at h
    · rename_i hds
      split at h
      · rename_i s1 as hst
        split at h
        · rename_i hcp
          cases h
          refine wpIn_region_any hm ?_
          obtain ⟨hlen, hgood⟩ := stepsA_good _ _ _ hst
          obtain ⟨d1, d2⟩ := st1.mi.drew
          let e2 : E := { e1 with w := e1.w.drew }
          have to2 : To n0 PR Γ e1 e2 := To.of_keep d2 (drew_keep _ _) (SameK.of_eq rfl)
          have st2 : St n0 PR Γ e2 reg (enterR g s).m := ⟨st1.st, st1.la, st1.lt, d1, st1.gi.to d2 (SameK.of_eq rfl) (fun _ _ _ h => h) (fun _ _ _ h => h)⟩
          have hf2 : Fr r k0 nt Γ e2 reg (enterR g s).fr a := ⟨fun t => (hf1.rd t).mono d2 (fun _ h => h), hf1.nt, hf1.df, hf1.ro⟩
          have := any_sound (A := fun i => as.getD i none) (fin := s1) hc hrd (fun _ => rfl) hds hcp hgΓ hgn Q n ops.size (List.range ops.size) (Array.replicate ops.size false) (enterR g s) a e2 reg (by simp) List.pairwise_lt_range (by simp [hgo])
            (fun i => by
              rcases Nat.lt_or_ge i ops.size with hlt | hge
              · simp [Array.getD_eq_getD_getElem?, hlt]
              · simp [Array.getD_eq_getD_getElem?, Nat.not_lt.2 hge])
            (fun k o ho hk => absurd (by have := (Array.getElem?_eq_some_iff.1 ho).1; rw [hgo] at this; simpa using this) hk) (fun i hi => by rw [hgo]; simpa using hi)
            (hgood _ fun k i hk => by
              have hlt : k < (List.range ops.size).length := (List.getElem?_eq_some_iff.1 hk).1
              have hki : k = i := by simp at hlt; simp [hlt] at hk; exact hk
              subst hki
              rw [← hlen] at hlt
              simp [hlt])
            st2 hres hf2 (leave_next (g := g) fun a' e' reg' x1 x2 x3 x4 => hK a' e' reg' x1 x2 x3 ((to1.trans st.gi to2).trans st.gi x4))
          rw [hgo] at this
          rw [← hw1]
          exact this
        · cases h
      · cases h
    · cases h
  · rename_i hdraw
    have hdf : draw = false := by simpa using hdraw
    subst hdf
    rw [Option.map_eq_some_iff] at h
    obtain ⟨s1, hst, rfl⟩ := h
    refine wpIn_region ?_
    have := steps_sound hc hrd hgΓ hgn Q n (List.range ops.size) (enterR g s) s1 a e1 reg hst st1 hres hf1 (leave_next (g := g) fun a' e' reg' x1 x2 x3 x4 => hK a' e' reg' x1 x2 x3 (to1.trans st.gi x4))
    rw [hgo] at this
    rw [← hw1]
    exact this
end
end Go.Abs

/-
  Abs23: code: loops, ranges over functions.
-/
set_option linter.unusedVariables false
set_option linter.unusedSimpArgs false
set_option linter.unusedSectionVars false
namespace Go.Abs
open Go
variable [Fl]
variable [Gl]

section
variable {P : Program} {n0 : Nat} {PR : Addr → Prop} {Γ : List (Nat × Ctx)} {e e' : E} {reg reg' : Own → Addr → Prop} {m : M} {r : Option Nat} {k0 nt : Nat} {fr : Nat → DV} {a : Act} {rec : Rec}

/-- A world that differs in blocks of no cells alone. -/
theorem MI.world (mi : MI n0 PR e reg) {w' : World} (hs : e.w.heap.size ≤ w'.heap.size) (hc : ∀ a, a.block < e.w.heap.size → w'.cell? a = e.w.cell? a ∧ w'.frozen? a = e.w.frozen? a) {la' : List Nat} (hla : ∀ (k l : Nat), e.la[k]? = some l → la'[k]? = some l) :
    MI n0 PR { e with w := w', la := la' } reg ∧ Ext e { e with w := w', la := la' } := by
  have hx : Ext e { e with w := w', la := la' } := ⟨fun _ h => h, fun a ha => (hc a (mi.imlt a ha)).1, Nat.le_refl _, fun id o o' h1 h2 => by simp only at h2; rw [h1] at h2; cases h2; exact ⟨Nat.le_refl _, fun _ => rfl⟩, hla⟩
  refine ⟨⟨fun a ha => Nat.lt_of_lt_of_le (mi.imlt a ha) hs, mi.impr, fun a ha => Nat.lt_of_lt_of_le (mi.prlt a ha) hs, Nat.le_trans mi.n0le hs, fun p a hp => ?_, mi.disj, mi.ext, mi.own, fun id o ho i d hd => ?_⟩, hx⟩
  · obtain ⟨h1, ⟨v, h2⟩, h3, h4, h5⟩ := mi.ok p a hp
    obtain ⟨k1, k2⟩ := hc a (mi.old hp)
    exact ⟨h1, ⟨v, k1.trans h2⟩, k2.trans h3, h4, h5⟩
  · obtain ⟨h1, v, h2, h3⟩ := mi.cell id o ho i d hd
    exact ⟨h1, v, (hc _ (World.block_lt_of_cell? _ _ h2)).1.trans h2, h3.mono hx (fun _ h => h)⟩

theorem cut_sound {l : Option (List Nat)} {mm : Nat} {s s' : S} {e0 : E} {pd0 : List Ex} (h : cutS l mm s = some s') (st : St n0 PR Γ e reg s.m) (hf : Fr r k0 nt Γ e reg s.fr a) (g0 : GI n0 e0 Γ pd0) (hle : e0.st.length ≤ mm) (to : To n0 PR Γ e0 e) :
    ∃ e', e'.w = e.w ∧ St n0 PR Γ e' reg s'.m ∧ Fr r k0 nt Γ e' reg s'.fr a ∧ To n0 PR Γ e0 e' := by
  unfold cutS at h
  split at h
  · cases h; exact ⟨e, rfl, st, hf, to⟩
  · rename_i l
    split at h
    · rename_i hcond
      cases h
      simp only [Bool.and_eq_true] at hcond
      obtain ⟨h1, h2⟩ := cut_core hcond.2 st g0 hle to
      refine ⟨cutE e mm, rfl, h1, ⟨fun t => ?_, hf.nt, hf.df, hf.ro⟩, h2⟩
      show RD (cutE e mm) _ (restr l s.fr t) _
      rw [restr_at]
      split
      · rename_i ht
        exact (hf.rd t).cut (List.all_eq_true.1 hcond.1 t (by simpa using ht))
      · exact .un
    · cases h

theorem To.size (t : To n0 PR Γ e e') : e.w.heap.size ≤ e'.w.heap.size := t.keep.size

def NextX (n0 : Nat) (PR : Addr → Prop) (Γ : List (Nat × Ctx)) (r : Option Nat) (k0 nt : Nat) (e : E) (ex : Ex) (s' : S) (Q : Exit → Act → World → Prop) : Prop := Next n0 PR Γ r k0 nt e s' (fun a w => Q (exitOf ex) a w)

/-- What a piece of code does is as the interpreter says. -/
def CodeOk (P : Program) (rec : Rec) (an : An) (f nt : Nat) (Γ : List (Nat × Ctx)) (k : Nat) (c : Code) : Prop :=
  ∀ (s s' : S) (ex : Ex), codeD P rec an f nt Γ k c s = some (ex, s') → ∀ n0 PR r k0 e reg a Q n, St n0 PR Γ e reg s.m → NoRes reg → Fr r k0 nt Γ e reg s.fr a → k0 ≤ e.w.heap.size → NextX n0 PR Γ r k0 nt e ex s' Q → c.wpIn (fence r) n P Q a e.w

theorem restrS_fr {s : S} {rs : Option (List Nat)} (hf : Fr r k0 nt Γ e reg s.fr a) : Fr r k0 nt Γ e reg (restrS rs s).fr a := by
  cases rs with
  | none => exact hf
  | some l => exact restr_fr hf
theorem restrS_m {s : S} {rs : Option (List Nat)} : (restrS rs s).m = s.m := by cases rs <;> rfl
theorem loop_sound {an : An} {f k : Nat} {c : Code} (ih : CodeOk P rec an f nt Γ k c) {l : Option (List Nat)} {mm : Nat} {e0 : E} {pd0 : List Ex} (g0 : GI n0 e0 Γ pd0) (hle : e0.st.length ≤ mm) {rs : Option (List Nat)} {ex : Ex} {s' : S} {Q : Exit → Act → World → Prop} (hK : NextX n0 PR Γ r k0 nt e0 ex s' Q) (n : Nat) :
    ∀ (fuel : Nat) (s : S) (a : Act) (e : E) (reg : Own → Addr → Prop), loopD (fun s => codeD P rec an f nt Γ k c (restrS rs s)) l mm fuel s = some (ex, s') → St n0 PR Γ e reg s.m → NoRes reg → Fr r k0 nt Γ e reg s.fr a → k0 ≤ e.w.heap.size → To n0 PR Γ e0 e →
      Code.roundsIn (fence r) n P c Q fuel a e.w
  | 0, s, a, e, reg, h, _, _, _, _, _ => by simp [loopD] at h
  | fuel + 1, s, a, e, reg, h, st, hres, hf, hk0, to => by
    simp only [loopD] at h
    rw [roundsIn_succ]
    split at h
    · rename_i s1 hs1
      split at h
      · rename_i s2 hs2
        refine ih _ s1 .normal hs1 n0 PR r k0 e reg a _ n (by rw [restrS_m]; exact st) hres (restrS_fr hf) hk0 fun a' e1 reg1 st1 hres1 hf1 to1 => ?_
        obtain ⟨e2, hw, st2, hf2, to2⟩ := cut_sound hs2 st1 hf1 g0 hle (to.trans g0 to1)
        show Code.roundsIn (fence r) n P c Q fuel a' e1.w
        rw [← hw]
        exact loop_sound ih g0 hle hK n fuel s2 a' e2 reg1 h st2 hres1 hf2 (by rw [hw]; exact Nat.le_trans hk0 to1.size) to2
      · cases h
    · rename_i hne
      cases ex with
      | normal => exact absurd h (hne s')
      | _ =>
        refine ih _ s' _ h n0 PR r k0 e reg a _ n (by rw [restrS_m]; exact st) hres (restrS_fr hf) hk0 fun a' e1 reg1 st1 hres1 hf1 to1 => ?_
        exact hK a' e1 reg1 st1 hres1 hf1 (to.trans g0 to1)
end
end Go.Abs
