/-
  Abs6: slices' bounds, indexes, fields, lengths, aggregates.
-/
import Derived.Test.YtkfmoodaplelnaaAbs5
namespace Go.Abs
open Go

section
variable {P : Program} {n0 : Nat} {PR : Addr → Prop} {e : E} {reg : Own → Addr → Prop}

theorem intD_some {x : DV} {n : Int} {u : Value} {s : Addr → Prop} (h : intD x = some n) (r : RD e s x u) : ∃ k, u = .int k n := by
  unfold intD at h
  split at h
  · cases h; cases r with
    | c r => cases r; exact ⟨_, rfl⟩
  · cases h

/-- An operand that may be absent. -/
def RO (e : E) : Option DV → Option Value → Prop
  | none, none => True
  | some d, some v => ∃ s, RD e s d v
  | _, _ => False

theorem bound_run {d : DV} {v : Value} {s : Addr → Prop} {y r : Nat} {code : BoundsCode} (hd : (intD d).bind (fun h => if 0 ≤ h ∧ h ≤ (y : Int) then some h.toNat else none) = some r) (hr : RD e s d v) {y' : Nat} (hy : y ≤ y') (w : World) :
    (Instr.sliceBound v y' code).run P w = .ok r w ∧ r ≤ y := by
  rw [Option.bind_eq_some_iff] at hd
  obtain ⟨n, hn, hif⟩ := hd
  split at hif
  · rename_i hc
    cases hif
    obtain ⟨k, rfl⟩ := intD_some hn hr
    have : 0 ≤ n ∧ n ≤ (y' : Int) := ⟨hc.1, by omega⟩
    exact ⟨by simp [Instr.sliceBound, asIntOf, this], by omega⟩
  · cases hif

theorem bounds_run {len : Nat} {lo hi mx : Option DV} {vlo vhi vmx : Option Value} {l h : Nat} {m : Option Nat} (hb : boundsD len lo hi mx = some (l, h, m))
    (h1 : RO e lo vlo) (h2 : RO e hi vhi) (h3 : RO e mx vmx) (b : Bool) {cap : Nat} (hc : len ≤ cap) (w : World) :
    (Instr.sliceBounds b len cap vlo vhi vmx).run P w = .ok (l, h, m.getD cap) w ∧ l ≤ h ∧ h ≤ len ∧ (∀ k, m = some k → h ≤ k ∧ k ≤ len) := by
  unfold boundsD at hb
  split at hb
  · cases hb
  · rename_i m' hm
    split at hb
    · cases hb
    · rename_i h' hh
      split at hb
      · cases hb
      · rename_i l' hl
        split at hb
        · cases hb
        · rename_i hno
          cases hb
          have e3 : ∀ code, (∀ v, vmx = some v → (Instr.sliceBound v cap code).run P w = .ok (m.getD cap) w) ∧ (∀ k, m = some k → k ≤ len) ∧ (vmx = none → m = none) ∧ (∀ v, vmx = some v → m.isSome) := fun code => by
            cases mx with
            | none =>
              cases vmx with
              | none => simp at hm; subst hm; exact ⟨by simp, by simp, by simp, by simp⟩
              | some v => exact h3.elim
            | some d =>
              cases vmx with
              | none => exact h3.elim
              | some v =>
                obtain ⟨s, hr⟩ := h3
                simp only [Option.bind_eq_some_iff] at hm
                obtain ⟨n, hn, hif⟩ := hm
                split at hif
                · rename_i hcond
                  cases hif
                  have := bound_run (code := code) (P := P) (y := len) (r := n.toNat) (d := d) (by rw [hn]; simp [hcond]) hr hc w
                  exact ⟨fun v' hv' => by cases hv'; simpa using this.1, fun k hk => by cases hk; omega, by simp, by simp⟩
                · cases hif
          have hmg : m.getD len ≤ m.getD cap := by cases m with | none => simpa using hc | some k => simp
          have hml : m.getD len ≤ len := by cases m with | none => simp | some k => simpa using (e3 .slice3Acap).2.1 k rfl
          have e2 : (∀ v code, vhi = some v → (Instr.sliceBound v (m.getD cap) code).run P w = .ok h w) ∧ h ≤ m.getD len ∧ (vhi = none → h = len) := by
            cases hi with
            | none =>
              cases vhi with
              | none =>
                simp at hh; subst hh
                have hmn : m = none := by
                  cases mx with
                  | none => simp at hm; exact hm.symm
                  | some _ => exact absurd ⟨rfl, rfl⟩ hno
                subst hmn
                exact ⟨by simp, by simp, by simp⟩
              | some v => exact h2.elim
            | some d =>
              cases vhi with
              | none => exact h2.elim
              | some v =>
                obtain ⟨s, hr⟩ := h2
                exact ⟨fun v' code hv' => by cases hv'; exact (bound_run (code := code) (P := P) hh hr hmg w).1, (bound_run (P := P) (code := .sliceB) hh hr hmg w).2, by simp⟩
          have e1 : (∀ v code, vlo = some v → (Instr.sliceBound v h code).run P w = .ok l w) ∧ l ≤ h ∧ (vlo = none → l = 0) := by
            cases lo with
            | none =>
              cases vlo with
              | none => simp at hl; subst hl; exact ⟨by simp, by simp, by simp⟩
              | some v => exact h1.elim
            | some d =>
              cases vlo with
              | none => exact h1.elim
              | some v =>
                obtain ⟨s, hr⟩ := h1
                exact ⟨fun v' code hv' => by cases hv'; exact (bound_run (code := code) (P := P) hl hr (Nat.le_refl _) w).1, (bound_run (P := P) (code := .sliceB) hl hr (Nat.le_refl _) w).2, by simp⟩
          refine ⟨?_, e1.2.1, by have := e2.2.1; omega, fun k hk => ⟨by have := e2.2.1; rw [hk] at this; simpa using this, (e3 .slice3Acap).2.1 k hk⟩⟩
          cases vmx with
          | none =>
            have hmn : m = none := (e3 .slice3Acap).2.2.1 rfl
            subst hmn
            cases vhi with
            | none =>
              have := e2.2.2 rfl
              subst this
              cases vlo with
              | none => have := e1.2.2 rfl; subst this; simp [Instr.sliceBounds]
              | some v => simp [Instr.sliceBounds, e1.1 v _ rfl]
            | some vh =>
              have hvh : ∀ code, (Instr.sliceBound vh cap code).run P w = .ok h w := fun code => e2.1 vh code rfl
              cases vlo with
              | none => have := e1.2.2 rfl; subst this; simp [Instr.sliceBounds, hvh]
              | some v => have hvl := fun code => e1.1 v code rfl; simp [Instr.sliceBounds, hvl, hvh]
          | some vm =>
            have hvm := fun code => (e3 code).1 vm rfl
            cases vhi with
            | none =>
              exfalso
              cases hi with
              | none => cases mx with
                | none => exact h3.elim
                | some _ => exact hno ⟨rfl, rfl⟩
              | some _ => exact h2.elim
            | some vh =>
              have hvh := fun code => e2.1 vh code rfl
              cases vlo with
              | none => have := e1.2.2 rfl; subst this; simp [Instr.sliceBounds, hvm, hvh]
              | some v => have hvl := fun code => e1.1 v code rfl; simp [Instr.sliceBounds, hvm, hvl, hvh]

theorem exact_cap {x : Bool} {len cap h l : Nat} {m : Option Nat} (hx : x = true → cap = len) (he : exactB x len h m = true) : m.getD cap - l = h - l := by
  cases m with
  | none => simp [exactB] at he; have := hx he.1; simp; omega
  | some k => simp [exactB] at he; simp; omega
theorem cap_ge {len cap h l : Nat} {m : Option Nat} (h1 : h ≤ len) (h2 : len ≤ cap) (h3 : ∀ k, m = some k → h ≤ k ∧ k ≤ len) : h - l ≤ m.getD cap - l ∧ m.getD cap ≤ cap := by
  cases m with
  | none => simp; omega
  | some k => have := h3 k rfl; simp; omega

theorem slice_sound (m : MI n0 PR e reg) {t : TypeId} {x d : DV} {u : Value} {s : Addr → Prop} {lo hi mx : Option DV} {vlo vhi vmx : Option Value} (h : sliceD P e.st t x lo hi mx = some d)
    (r : RD e s x u) (h1 : RO e lo vlo) (h2 : RO e hi vhi) (h3 : RO e mx vmx) : Gives P e (Instr.sliceAt t u vlo vhi vmx) d := by
  unfold sliceD at h
  split at h
  · rename_i str hu
    split at h
    · cases h
    · rw [Option.map_eq_some_iff] at h
      obtain ⟨⟨l, hh, m'⟩, hb, rfl⟩ := h
      have hvm : vmx = none := by cases vmx with | none => rfl | some _ => exact h3.elim
      subst hvm
      obtain ⟨b1, _⟩ := bounds_run (P := P) hb h1 h2 h3 false (Nat.le_refl _) e.w
      cases r with
      | c r =>
        cases r
        exact ⟨_, by simp only [Instr.sliceAt, Instr.slice, Sem.run_bind, run_underlying hu, Result.andThen_ok, b1, Option.isSome_none, Bool.false_eq_true, if_false, Sem.run_pure], fun s => .c (.sc rfl)⟩
  · rename_i el nl x cs len hu
    split at h
    · rename_i sz l hh m' hsz hb
      cases r with
      | c r =>
        cases r with
        | nil =>
          obtain ⟨b1, b2, b3, b4⟩ := bounds_run (P := P) hb h1 h2 h3 true (Nat.le_refl 0) e.w
          have e1 : hh = 0 := by omega
          have e2 : l = 0 := by omega
          subst e1; subst e2
          have e3 : m'.getD 0 = 0 := by cases m' with | none => rfl | some k => have := b4 k rfl; simp; omega
          rw [e3] at b1
          rw [Option.map_eq_some_iff] at h
          obtain ⟨ds, hds, rfl⟩ := h
          have hds0 : ds = [] := by have := span_len hds; simpa using this
          subst hds0
          exact ⟨_, by simp only [Instr.sliceAt, Instr.slice, Sem.run_bind, run_underlying hu, Result.andThen_ok, b1, sizeT_run hsz, Sem.run_pure, if_true], fun s => .c .nil⟩
        | sl hr hc hl hx =>
          rename_i vs a cap
          obtain ⟨b1, b2, b3, b4⟩ := bounds_run (P := P) hb h1 h2 h3 true hl e.w
          simp only [Option.map_eq_some_iff] at h
          obtain ⟨ds, hds, rfl⟩ := h
          obtain ⟨us, hul, hcell, hur⟩ := ia_cells hr hc hds
          obtain ⟨hcap, _⟩ := cap_ge (l := l) b3 hl b4
          by_cases hml : m'.getD cap = l
          · refine ⟨_, by simp only [Instr.sliceAt, Instr.slice, Sem.run_bind, run_underlying hu, Result.andThen_ok, b1, sizeT_run hsz, Sem.run_pure, hml, if_true]; rfl, fun s => .c ?_⟩
            have hz : hh - l = 0 := by omega
            rw [hz] at hds hul ⊢
            have hds0 : ds = [] := by have := span_len hds; simpa using this
            subst hds0
            exact .sl (vs := []) .nil (by simp) (by omega) (fun _ => by omega)
          · refine ⟨_, by simp only [Instr.sliceAt, Instr.slice, Sem.run_bind, run_underlying hu, Result.andThen_ok, b1, sizeT_run hsz, Sem.run_pure, hml, if_false, Option.map_some]; rfl, fun s => .c ?_⟩
            exact .sl hur hcell hcap (exact_cap hx)
    · cases h
  · rename_i el id ver off len esz x hu
    split at h
    · rename_i sz l hh m' hsz hb
      split at h
      · rename_i hse
        cases h
        subst hse
        cases r with
        | ms hid hl hx hv =>
          rename_i a cap
          obtain ⟨b1, b2, b3, b4⟩ := bounds_run (P := P) hb h1 h2 h3 true hl e.w
          obtain ⟨hcap, hmc⟩ := cap_ge (l := l) b3 hl b4
          have hmul : off + l * sz + (m'.getD cap - l) * sz ≤ off + cap * sz := by
            have : l + (m'.getD cap - l) ≤ cap := by omega
            have := Nat.mul_le_mul_right sz this
            rw [Nat.add_mul] at this
            omega
          by_cases hml : m'.getD cap = l
          · refine ⟨_, by simp only [Instr.sliceAt, Instr.slice, Sem.run_bind, run_underlying hu, Result.andThen_ok, b1, sizeT_run hsz, Sem.run_pure, hml, if_true]; rfl, fun s => .ms hid (by omega) (fun he => by have := exact_cap (l := l) hx he; omega) fun o ho => ?_⟩
            obtain ⟨p1, p2⟩ := hv o ho
            exact ⟨p1, fun hq => ⟨.inl (by omega), by have := (p2 hq).2; rw [hml] at hmul; omega⟩⟩
          · refine ⟨_, by simp only [Instr.sliceAt, Instr.slice, Sem.run_bind, run_underlying hu, Result.andThen_ok, b1, sizeT_run hsz, Sem.run_pure, hml, if_false, Option.map_some]; rfl, fun s => .ms hid hcap (exact_cap hx) fun o ho => ?_⟩
            obtain ⟨p1, p2⟩ := hv o ho
            refine ⟨p1, fun hq => ?_⟩
            obtain ⟨q1, q2⟩ := p2 hq
            refine ⟨.inr ?_, by omega⟩
            rcases q1 with q1 | q1
            · omega
            · rw [q1, at_add]
      · cases h
    · cases h
  · rename_i n el id ver off hu
    split at h
    · rename_i sz l hh m' o hsz hb ho
      split at h
      · rename_i hle
        cases h
        obtain ⟨ho1, ho2⟩ := getO_some ho
        cases r with
        | pt hid hv =>
          rename_i a
          obtain ⟨b1, b2, b3, b4⟩ := bounds_run (P := P) hb h1 h2 h3 false (Nat.le_refl n) e.w
          obtain ⟨hcap, hmc⟩ := cap_ge (l := l) b3 (Nat.le_refl n) b4
          have hmul : off + l * sz + (m'.getD n - l) * sz ≤ off + n * sz := by
            have : l + (m'.getD n - l) ≤ n := by omega
            have := Nat.mul_le_mul_right sz this
            rw [Nat.add_mul] at this
            omega
          have hext := m.ext id o ho1
          obtain ⟨p1, p2⟩ := hv o ho1
          have ha := p2 ho2.symm
          by_cases hml : m'.getD n = l
          · refine ⟨_, by simp only [Instr.sliceAt, Instr.sureAddr, pure_bind, Sem.run_bind, run_underlying hu, Result.andThen_ok, b1, sizeT_run hsz, Sem.run_pure, hml, if_true]; rfl, fun s => .ms hid (by omega) (fun he => by have := exact_cap (l := l) (cap := n) (x := true) (fun _ => rfl) he; omega) fun o' ho' => ?_⟩
            rw [ho1] at ho'; cases ho'
            exact ⟨p1, fun hq => ⟨.inl (by omega), by rw [hml] at hmul; omega⟩⟩
          · refine ⟨_, by simp only [Instr.sliceAt, Instr.sureAddr, pure_bind, Sem.run_bind, run_underlying hu, Result.andThen_ok, b1, sizeT_run hsz, Sem.run_pure, hml, if_false]; rfl, fun s => .ms hid hcap (exact_cap (cap := n) (fun _ => rfl)) fun o' ho' => ?_⟩
            rw [ho1] at ho'; cases ho'
            exact ⟨p1, fun hq => ⟨.inr (by rw [ha, at_add]), by omega⟩⟩
      · cases h
    · cases h
  · cases h

theorem indexAddr_sound {t : TypeId} {x i d : DV} {u v : Value} {s s' : Addr → Prop} (h : indexAddrD P t x i = some d) (r : RD e s x u) (ri : RD e s' i v) : Gives P e (Instr.indexAt t u v) d := by
  unfold indexAddrD at h
  split at h
  · cases h
  · rename_i i hi
    obtain ⟨k, rfl⟩ := intD_some hi ri
    split at h
    · rename_i el nl x cs len hu
      split at h
      · rename_i sz hsz
        split at h
        · rename_i hc
          cases h
          cases r with
          | c r => cases r with
            | nil => have := hc.1; have := hc.2; simp at *; omega
            | sl hr hcc hl hx =>
              refine ⟨_, by simp only [Instr.indexAt, asIntOf, pure_bind, Sem.run_bind, run_underlying hu, Result.andThen_ok, Sem.run_pure, hc, and_self, if_true, sizeT_run hsz], fun s => .ia hr hcc⟩
        · cases h
      · cases h
    · rename_i el id ver off len esz x hu
      split at h
      · rename_i sz hsz
        split at h
        · rename_i hc
          cases h
          obtain ⟨rfl, hc⟩ := hc
          cases r with
          | ms hid hl hx hv =>
            refine ⟨_, by simp only [Instr.indexAt, asIntOf, pure_bind, Sem.run_bind, run_underlying hu, Result.andThen_ok, Sem.run_pure, hc, and_self, if_true, sizeT_run hsz]; rfl, fun s => .pt hid fun o ho => ?_⟩
            obtain ⟨p1, p2⟩ := hv o ho
            refine ⟨p1, fun hq => ?_⟩
            rcases (p2 hq).1 with q | q
            · omega
            · rw [q, at_add]
        · cases h
      · cases h
    · rename_i n el id ver off hu
      split at h
      · rename_i sz hsz
        split at h
        · rename_i hc
          cases h
          cases r with
          | pt hid hv =>
            refine ⟨_, by simp only [Instr.indexAt, asIntOf, pure_bind, Sem.run_bind, run_underlying hu, Result.andThen_ok, Instr.sureAddr, Sem.run_pure, hc, and_self, if_true, sizeT_run hsz]; rfl, fun s => .pt hid fun o ho => ?_⟩
            obtain ⟨p1, p2⟩ := hv o ho
            exact ⟨p1, fun hq => by rw [p2 hq, at_add]⟩
        · cases h
      · cases h
    · rename_i n el cs off hu
      split at h
      · rename_i sz hsz
        split at h
        · rename_i hc
          cases h
          cases r with
          | ia hr hcc =>
            refine ⟨_, by simp only [Instr.indexAt, asIntOf, pure_bind, Sem.run_bind, run_underlying hu, Result.andThen_ok, Instr.sureAddr, Sem.run_pure, hc, and_self, if_true, sizeT_run hsz]; rfl, fun s => ?_⟩
            rw [add_add]
            exact .ia hr hcc
        · cases h
      · cases h
    · cases h

theorem partC_part {t : TypeId} {cs : List CV} {vs : List Value} {off : Nat} {d : DV} (h : RCs e.im e.w cs vs) (hd : partC P t cs off = some d) : Gives P e (part t ⟨vs⟩ off) d := by
  unfold partC at hd
  split at hd
  · rename_i k h1 h2
    rw [Option.map_eq_some_iff] at hd
    obtain ⟨ds, hds, rfl⟩ := hd
    obtain ⟨rfl, hle⟩ := span_some hds
    refine ⟨.agg ⟨(vs.drop off).take k⟩, ?_, fun s => .c (.agg ((h.drop off).take k))⟩
    simp [part, isAggT_run h1, sizeT_run h2]
  · rename_i h1
    rw [Option.map_eq_some_iff] at hd
    obtain ⟨c, hc, rfl⟩ := hd
    obtain ⟨v, hv, hr⟩ := h.get hc
    refine ⟨v, ?_, fun s => .c hr⟩
    simp [part, isAggT_run h1, hv]
  · cases hd
theorem part1_part {t : TypeId} {ds : List DV} {vs : List Value} {off : Nat} {d : DV} (hk : ds.all cellOk = true) (h : RDs e ds vs) (hd : part1 P t ds off = some d) : Gives P e (part t ⟨vs⟩ off) d := by
  unfold part1 at hd
  split at hd
  · rename_i k h1 h2
    rw [Option.map_eq_some_iff] at hd
    obtain ⟨es, hes, rfl⟩ := hd
    obtain ⟨rfl, hle⟩ := span_some hes
    refine ⟨.agg ⟨(vs.drop off).take k⟩, ?_, fun s => mkAgg_rd ?_ ((h.drop off).take k).w⟩
    · simp [part, isAggT_run h1, sizeT_run h2]
    · rw [List.all_eq_true] at hk ⊢
      exact fun x hx => hk x (List.drop_subset _ _ (List.take_subset _ _ hx))
  · rename_i h1
    rw [Option.map_eq_some_iff] at hd
    obtain ⟨c, hc, rfl⟩ := hd
    obtain ⟨v, hv, hr⟩ := h.get hc
    refine ⟨v, ?_, fun s => hr.unflag⟩
    simp [part, isAggT_run h1, hv]
  · cases hd

theorem index_sound {t : TypeId} {x i d : DV} {u v : Value} {s s' : Addr → Prop} (h : indexD P t x i = some d) (r : RD e s x u) (ri : RD e s' i v) : Gives P e (Instr.index t u v) d := by
  unfold indexD at h
  split at h
  · cases h
  · rename_i i hi
    obtain ⟨k, rfl⟩ := intD_some hi ri
    split at h
    · rename_i n el cs hu
      split at h
      · rename_i sz hsz
        split at h
        · rename_i hc
          cases r with
          | c r => cases r with
            | agg hr =>
              obtain ⟨w, hw, hd⟩ := partC_part hr h
              exact ⟨w, by simp only [Instr.index, asIntOf, pure_bind, Sem.run_bind, run_underlying hu, Result.andThen_ok, hc, and_self, if_true, sizeT_run hsz]; exact hw, hd⟩
        · cases h
      · cases h
    · rename_i n el ds hu
      split at h
      · rename_i sz hsz
        split at h
        · rename_i hc
          cases r with
          | agg hk hr =>
            obtain ⟨w, hw, hd⟩ := part1_part hk hr h
            exact ⟨w, by simp only [Instr.index, asIntOf, pure_bind, Sem.run_bind, run_underlying hu, Result.andThen_ok, hc, and_self, if_true, sizeT_run hsz]; exact hw, hd⟩
        · cases h
      · cases h
    · rename_i str hu
      split at h
      · rename_i hc
        rw [Option.map_eq_some_iff] at h
        obtain ⟨b, hb, rfl⟩ := h
        cases r with
        | c r =>
          cases r
          exact ⟨_, by simp only [Instr.index, asIntOf, pure_bind, Sem.run_bind, run_underlying hu, Result.andThen_ok, hc, if_true, hb, Sem.run_pure], fun s => .c (.sc rfl)⟩
      · cases h
    · cases h

theorem fieldAddr_sound {t : TypeId} {f : Nat} {x d : DV} {u : Value} {s : Addr → Prop} (h : fieldAddrD P t x f = some d) (r : RD e s x u) : Gives P e (Instr.fieldAt t u f) d := by
  unfold fieldAddrD at h
  split at h
  · rename_i fs hu
    split at h
    · rename_i fd hf
      split at h
      · rename_i k hsz
        split at h
        · cases h
          cases r with
          | pt hid hv =>
            refine ⟨_, by simp only [Instr.fieldAt, Sem.run_bind, run_underlying hu, Result.andThen_ok, hf, Instr.sureAddr, Sem.run_pure, fieldPlace, sizeT_run hsz, Nat.add_one_ne_zero, if_false]; rfl, fun s => .pt hid fun o ho => ?_⟩
            obtain ⟨p1, p2⟩ := hv o ho
            exact ⟨p1, fun hq => by rw [p2 hq, at_add]⟩
        · cases h
          cases r with
          | ia hr hcc =>
            refine ⟨_, by simp only [Instr.fieldAt, Sem.run_bind, run_underlying hu, Result.andThen_ok, hf, Instr.sureAddr, Sem.run_pure, fieldPlace, sizeT_run hsz, Nat.add_one_ne_zero, if_false]; rfl, fun s => ?_⟩
            rw [add_add]
            exact .ia hr hcc
        · cases h
      · cases h
    · cases h
  · cases h

theorem field_sound {t : TypeId} {f : Nat} {x d : DV} {u : Value} {s : Addr → Prop} (h : fieldD P t x f = some d) (r : RD e s x u) : Gives P e (Instr.field t u f) d := by
  unfold fieldD at h
  split at h
  · rename_i fs hu
    split at h
    · rename_i fd hf
      split at h
      · cases r with
        | c r => cases r with
          | agg hr =>
            obtain ⟨w, hw, hd⟩ := partC_part hr h
            exact ⟨w, by simp only [Instr.field, Sem.run_bind, run_underlying hu, Result.andThen_ok, hf, asAgg, Sem.run_pure]; exact hw, hd⟩
      · cases r with
        | agg hk hr =>
          obtain ⟨w, hw, hd⟩ := part1_part hk hr h
          exact ⟨w, by simp only [Instr.field, Sem.run_bind, run_underlying hu, Result.andThen_ok, hf, asAgg, Sem.run_pure]; exact hw, hd⟩
      · cases h
    · cases h
  · cases h

theorem len_sound {st : List Ob} {t : TypeId} {x d : DV} {u : Value} {s : Addr → Prop} (h : lenD P st t x = some d) (r : RD e s x u) (ts : Array TypeId) (ht : ts[0]? = some t) (ty : TypeId) : Gives P e (Builtin.len_ ts ty #[u]) d := by
  unfold lenD at h
  split at h
  · rename_i hu; cases h
    cases r with
    | c r => cases r; exact ⟨_, by simp only [Builtin.len_, ht, List.getElem?_toArray, List.getElem?_cons_zero, Sem.run_bind, run_underlying hu, Result.andThen_ok, Sem.run_pure]; rfl, fun s => .c (.sc rfl)⟩
  · rename_i el nl x cs len hu; cases h
    cases r with
    | c r => cases r with
      | nil => exact ⟨_, by simp only [Builtin.len_, ht, List.getElem?_toArray, List.getElem?_cons_zero, Sem.run_bind, run_underlying hu, Result.andThen_ok, Sem.run_pure]; rfl, fun s => .c (.sc rfl)⟩
      | sl => exact ⟨_, by simp only [Builtin.len_, ht, List.getElem?_toArray, List.getElem?_cons_zero, Sem.run_bind, run_underlying hu, Result.andThen_ok, Sem.run_pure]; rfl, fun s => .c (.sc rfl)⟩
  · rename_i el id ver off len esz x hu; cases h
    cases r with
    | ms => exact ⟨_, by simp only [Builtin.len_, ht, List.getElem?_toArray, List.getElem?_cons_zero, Sem.run_bind, run_underlying hu, Result.andThen_ok, Sem.run_pure]; rfl, fun s => .c (.sc rfl)⟩
  · rename_i n el hu; cases h
    exact ⟨_, by simp only [Builtin.len_, ht, List.getElem?_toArray, List.getElem?_cons_zero, Sem.run_bind, run_underlying hu, Result.andThen_ok, Sem.run_pure]; rfl, fun s => .c (.sc rfl)⟩
  · cases h
end
end Go.Abs
