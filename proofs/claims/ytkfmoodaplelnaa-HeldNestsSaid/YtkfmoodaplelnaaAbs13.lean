/-
  Abs13: append and copy, whole.
-/
import Derived.Test.YtkfmoodaplelnaaAbs12
set_option linter.unusedVariables false
set_option linter.unusedSimpArgs false
set_option linter.unusedSectionVars false
namespace Go.Abs
open Go
variable [Fl]

section
variable {P : Program} {n0 : Nat} {PR : Addr → Prop} {e : E} {reg : Own → Addr → Prop} {fr : Nat → DV} {tm : Array Value} {df : List Deferred}

/-- append where there is room. -/
theorem append_place {t t2 el el2 ty : TypeId} {k : Nat} (hu : P.underlying t = some (.slice el)) (hu2 : P.underlying t2 = some (.slice el2)) (hk : sizeT P el = some k) {ts : Array TypeId} (h0 : ts[0]? = some t) (h1 : ts[1]? = some t2)
    {a : Addr} {sLen sCap n : Nat} {x : Value} {news : List Value} {w w' : World} (hn : (Builtin.lenOf x).run P w = .ok n w) (hx : (Builtin.firstCells k n x).run P w = .ok ⟨news⟩ w) (hg : sLen + n ≤ sCap)
    (hs : (storeCells (a.add (sLen * k)) news).run P w = .ok () w') : (Builtin.append_ ts ty #[.slice (some a) sLen sCap, x]).run P w = .ok (.slice (some a) (sLen + n) sCap) w' := by
  simp [Builtin.append_, h0, h1, run_underlying hu, run_underlying hu2, sizeT_run hk, hn, hg, hx, hs]
theorem append_none {t t2 el el2 ty : TypeId} {k : Nat} (hu : P.underlying t = some (.slice el)) (hu2 : P.underlying t2 = some (.slice el2)) (hk : sizeT P el = some k) {ts : Array TypeId} (h0 : ts[0]? = some t) (h1 : ts[1]? = some t2)
    {b : Option Addr} {sLen sCap : Nat} {x : Value} {w : World} (hn : (Builtin.lenOf x).run P w = .ok 0 w) (hx : (Builtin.firstCells k 0 x).run P w = .ok ⟨[]⟩ w) (hg : sLen ≤ sCap) : (Builtin.append_ ts ty #[.slice b sLen sCap, x]).run P w = .ok (.slice b sLen sCap) w := by
  cases b <;> simp [Builtin.append_, h0, h1, run_underlying hu, run_underlying hu2, sizeT_run hk, hn, hg, hx, storeCells]

theorem append_exec {o : Oper} {k : Call} (ho : o.op = .call k) (hb : k.callee = .builtin .append) {x y : Operand} (ha : k.args.toList = [x, y]) (a : Act) {v : Value} {w w' : World}
    (h : (Builtin.append_ k.argTypes o.type #[a.eval x, a.eval y]).run P w = .ok v w') : (execOp a.eval o).run P w = .ok (.value v) w' := by
  have hargs : k.args = #[x, y] := by apply Array.ext'; simpa using ha
  have hm : k.args.map a.eval = #[a.eval x, a.eval y] := by rw [hargs]; simp
  simp [execOp, ho, resolve, hb, invoke, builtin, hm, h]

/-- What a slice that is appended to holds. -/
theorem grow_done (m : MI n0 PR e reg) (hres : ∀ a, ¬ reg .res a) {o : Oper} {k : Call} (ho : o.op = .call k) (hb : k.callee = .builtin .append) {x y : Operand} (ha : k.args.toList = [x, y]) {a : Act} {t t2 el el2 : TypeId} (h0 : k.argTypes[0]? = some t) (h1 : k.argTypes[1]? = some t2)
    (hu : P.underlying t = some (.slice el)) (hu2 : P.underlying t2 = some (.slice el2)) {i : TypeInfo} (hi : P.info? el = some i) (hz : zeroFits i = true) {n : Nat} {ys : List DV} {cys cs : List CV} {s : Addr → Prop}
    (hel : elemsD e.st i.size (ev fr y) = some (n, ys)) (hcl : closeL ys = some cys) (ry : RD e s (ev fr y) (a.eval y)) {base : Option Addr} {sLen sCap : Nat} (hx : a.eval x = .slice base sLen sCap) {olds : List Value} (ro : RCs e.im e.w cs olds)
    (hof : ∀ w : World, (∀ a, w.cell? a = e.w.cell? a) → (Builtin.firstCells i.size sLen (.slice base sLen sCap)).run P w = .ok ⟨olds⟩ w) (hlo : cs.length = sLen * i.size) (hg : sCap < sLen + n) (hr : roomy (sLen + n) i.bytes = true) (drop : List Tmp) :
    ∃ v e' reg', Done P n0 PR e reg o a { d := .ap false (cs ++ cys) (sLen + n) i.size, drop } v e' reg' := by
  obtain ⟨us, hul, hru, hka, hlen, hfc, _⟩ := elems_rd (P := P) m hel ry
  have hlo' : olds.length = sLen * i.size := by rw [← ro.length]; exact hlo
  obtain ⟨cap, rest, hcap, hlr, hrun⟩ := append_grow (P := P) (ty := o.type) hu hu2 hi hz h0 h1 e.w (hlen e.w) (hof e.w.drew fun _ => rfl) (hfc e.w.drew fun _ => rfl) hg hr hlo' hul
  obtain ⟨d1, d2⟩ := m.drew
  have hru' : RCs e.im e.w cys us := closeL_rds hcl hka hru
  have happ : RCs e.im e.w (cs ++ cys) (olds ++ us) := ro.append hru'
  obtain ⟨g1, g2⟩ := d1.imm hres (olds ++ us ++ rest) el ((sLen + n) * i.size)
  refine ⟨_, _, _, .inl (append_exec ho hb ha a (by rw [hx]; exact hrun)), (by rfl), g1, d2.trans g2, (drew_keep _ _).trans (alloc_keep (w := e.w.drew) _ m.n0le m.prlt _), ?_, fun t _ x hx => hx⟩
  have hlen2 : (olds ++ us).length = (sLen + n) * i.size := by simp [hlo', hul, Nat.add_mul]
  refine .ap (happ.mono (d2.trans g2).im (d2.trans g2).cell) (fun j v hv => ?_) hcap (by rw [← hlen2, happ.length]) (fun j h1 h2 => ⟨j, h1, by rw [hlr]; exact h2, by simp⟩)
  have hlt : j < (olds ++ us).length := (List.getElem?_eq_some_iff.1 hv).1
  rw [Nat.zero_add]
  exact ⟨by show (e.w.drew.alloc _).cell? _ = _; rw [show e.w.heap.size = e.w.drew.heap.size from rfl, alloc_cell_new, List.getElem?_append_left hlt]; exact hv, .inr ⟨j, by omega, rfl⟩⟩

theorem appendV_sound (m : MI n0 PR e reg) (hres : ∀ a, ¬ reg .res a) {o : Oper} {k : Call} (ho : o.op = .call k) (hb : k.callee = .builtin .append) {x y : Operand} (ha : k.args.toList = [x, y]) (hf : ∀ t, RD e (reg (.slot t)) (fr t) (tm.getD t undef))
    {t t2 : TypeId} (h0 : k.argTypes[0]? = some t) (h1 : k.argTypes[1]? = some t2) {d : DV} (h : appendV P e.st t t2 (raw fr x) (ev fr y) = some d) :
    ∃ v e' reg', Done P n0 PR e reg o ⟨tm, df⟩ { d, drop := match raw fr x with | .ap .. => tmpOf x | _ => [] } v e' reg' := by
  have hev : ∀ x s, RD e s (ev fr x) ((⟨tm, df⟩ : Act).eval x) := fun x s => ev_rd hf x
  unfold appendV at h
  split at h
  · rename_i el el2 hu hu2
    split at h
    · cases h
    · rename_i i hi
      split at h
      · cases h
      · rename_i hz
        have hz' : zeroFits i = true := by simpa using hz
        have hk : sizeT P el = some i.size := by simp [sizeT, hi]
        split at h
        · cases h
        · rename_i n ys hel
          split at h
          · cases h
          · rename_i cys hcl
            have ry := hev y (fun _ => False)
            obtain ⟨us, hul, hru, hka, hlen, hfc, _⟩ := elems_rd (P := P) m hel ry
            have hru' : RCs e.im e.w cys us := closeL_rds hcl hka hru
            cases hraw : raw fr x with
            | ap nl cs len esz =>
              simp only [hraw] at h
              -- only a slot has such a value
              obtain ⟨tx, rfl⟩ : ∃ tx, x = .tmp tx := by
                cases x with
                | tmp tx => exact ⟨tx, rfl⟩
                | const v => have hh := ev_plain fr (.const v); simp only [raw] at hraw; rw [hraw] at hh; cases hh
                | global v => simp only [raw] at hraw; cases hraw
                | func v => simp only [raw] at hraw; cases hraw
              simp only [raw] at hraw
              have rx := hf tx
              rw [hraw] at rx
              have hxe : (⟨tm, df⟩ : Act).eval (.tmp tx) = tm.getD tx undef := rfl
              generalize hax : tm.getD tx undef = ax at rx
              split at h
              · split at h
                · rename_i hesz hcond
                  obtain ⟨hroom, hcl2⟩ := hcond
                  cases h
                  cases rx with
                  | apnil =>
                    simp only [Nat.zero_add, List.nil_append]
                    by_cases hn : n = 0
                    · subst hn
                      have hus : us = [] := by apply List.eq_nil_of_length_eq_zero; simpa using hul
                      subst hus
                      have hcys : cys = [] := by cases hru'; rfl
                      subst hcys
                      refine ⟨_, e, reg, .inl (append_exec ho hb ha _ (by rw [hxe, hax]; exact append_none (P := P) hu hu2 hk h0 h1 (hlen e.w) (hfc e.w fun _ => rfl) (Nat.le_refl _))), rfl, m, Ext.refl e, Keep.refl .., ?_, fun _ _ _ h => h⟩
                      exact .apnil
                    · have := grow_done (fr := fr) (x := .tmp tx) m hres ho hb ha (a := ⟨tm, df⟩) h0 h1 hu hu2 hi hz' hel hcl ry (base := none) (sLen := 0) (sCap := 0) (by rw [hxe, hax]) (olds := []) (cs := []) .nil (fun w _ => by simp [Builtin.firstCells]) (by simp) (by omega) (by simpa using hroom) (tmpOf (.tmp tx))
                      have hfalse : (n == 0) = false := by simpa using hn
                      simpa [hfalse] using this
                  | ap hr hc hl hn hs =>
                    rename_i vs b off cap
                    have hesz' : esz = i.size := by simpa using hesz
                    subst hesz'
                    have hvl : vs.length = len * i.size := by rw [← hr.length]; exact hn
                    simp only [Bool.false_and]
                    by_cases hg : len + n ≤ cap
                    · -- in place
                      have hok : ∀ j, j < us.length → reg (.slot tx) ⟨b, off + len * i.size + j, none⟩ := fun j hj => by
                        rw [Nat.add_assoc]
                        refine hs (len * i.size + j) (by omega) ?_
                        have : (len + n) * i.size ≤ cap * i.size := Nat.mul_le_mul_right _ hg
                        rw [Nat.add_mul] at this
                        omega
                      obtain ⟨w', r1, r2, r3⟩ := storeCells_run (P := P) b (off + len * i.size) us 0 e.w (by
                          have := hru'.one
                          exact this) (fun j hj => by
                        rw [Nat.zero_add]
                        have := m.ok _ _ (hok j hj)
                        exact ⟨this.2.1, this.2.2.1⟩)
                      simp only [Nat.zero_add] at r2 r3
                      obtain ⟨g1, g2⟩ := m.immAt hres (t := tx) r2 (fun a ⟨j, hj, hh⟩ => by rw [hh]; exact hok j hj)
                      refine ⟨_, _, _, .inl (append_exec ho hb ha _ (by rw [hxe, hax]; exact append_place (P := P) (w' := w') hu hu2 hk h0 h1 (hlen e.w) (hfc e.w fun _ => rfl) hg (by rw [mk_add]; exact r1))), (by rfl), g1, g2, r2.keep (fun a ⟨j, hj, hh⟩ => ?_) _, ?_, ?_⟩
                      · have := m.ok _ _ (hok j hj)
                        rw [hh]; exact ⟨this.1, this.2.2.2.2⟩
                      · have happ : RCs e.im e.w (cs ++ cys) (vs ++ us) := hr.append hru'
                        refine .ap (happ.mono g2.im g2.cell) (fun j v hv => ?_) hg (by rw [happ.length]; simp [hvl, hul, Nat.add_mul]) (fun j hj1 hj2 => ?_)
                        · rcases Nat.lt_or_ge j vs.length with hlt | hge
                          · rw [List.getElem?_append_left hlt] at hv
                            obtain ⟨c1, c2⟩ := hc j v hv
                            exact ⟨(g2.cell _ c2).trans c1, g2.im _ c2⟩
                          · rw [List.getElem?_append_right hge] at hv
                            have hlt : j - vs.length < us.length := (List.getElem?_eq_some_iff.1 hv).1
                            have hc1 := r3 _ v hv
                            rw [show off + len * i.size + (j - vs.length) = off + j by omega] at hc1
                            exact ⟨hc1, .inr ⟨j - vs.length, hlt, by rw [show off + len * i.size + (j - vs.length) = off + j by omega]⟩⟩
                        · rw [Nat.add_mul] at hj1
                          refine ⟨hs j (by omega) hj2, ?_⟩
                          rintro ⟨j', hj', hh⟩
                          injection hh with _ hh _
                          omega
                      · intro u hu' a haa
                        refine ⟨fun hh => hu' ?_, haa⟩
                        simp [raw, hraw, tmpOf, hh]
                    · have := grow_done (fr := fr) (x := .tmp tx) m hres ho hb ha (a := ⟨tm, df⟩) h0 h1 hu hu2 hi hz' hel hcl ry (base := some ⟨b, off, none⟩) (sLen := len) (sCap := cap) (by rw [hxe, hax]) hr
                        (fun w hw => firstCells_run hvl fun j v hj => by rw [hw, mk_add]; exact (hc j v hj).1) hn (by omega) hroom (tmpOf (.tmp tx))
                      exact this
                · cases h
              · cases h
            | c cv =>
              simp only [hraw] at h
              have rx : RD e (fun _ => False) (.c cv) ((⟨tm, df⟩ : Act).eval x) := by
                cases x with
                | tmp tx =>
                  simp only [raw] at hraw
                  have := hf tx
                  rw [hraw] at this
                  exact this.plain rfl
                | _ =>
                  simp only [raw] at hraw
                  rw [← hraw]; exact hev _ _
              generalize hax : (⟨tm, df⟩ : Act).eval x = ax at rx
              cases rx with
              | c rx =>
                cases rx with
                | nil =>
                  rename_i xx
                  cases xx
                  · simp at h
                  · simp only at h
                    split at h
                    · rename_i hcond
                      obtain ⟨hroom, _⟩ := hcond
                      cases h
                      split
                      · rename_i hn
                        subst hn
                        have hus : us = [] := by apply List.eq_nil_of_length_eq_zero; simpa using hul
                        subst hus
                        exact ⟨_, e, reg, .inl (append_exec ho hb ha _ (by rw [hax]; exact append_none (P := P) hu hu2 hk h0 h1 (hlen e.w) (hfc e.w fun _ => rfl) (Nat.le_refl _))), rfl, m, Ext.refl e, Keep.refl .., .c .nil, fun _ _ _ h => h⟩
                      · rename_i hn
                        exact grow_done (fr := fr) (x := x) m hres ho hb ha (a := ⟨tm, df⟩) h0 h1 hu hu2 hi hz' hel hcl ry (base := none) (sLen := 0) (sCap := 0) hax (olds := []) (cs := []) .nil (fun w _ => by simp [Builtin.firstCells]) (by simp) (by omega) hroom []
                    · cases h
                | sl hr hc hl hx =>
                  rename_i xx cs vs b len cap
                  cases xx
                  · simp at h
                  · have hcap : cap = len := hx rfl
                    subst hcap
                    simp only at h
                    split at h
                    · rename_i hcond
                      obtain ⟨hroom, hcl2⟩ := hcond
                      cases h
                      have hvl : vs.length = cap * i.size := by rw [← hr.length]; exact hcl2
                      split
                      · rename_i hn
                        subst hn
                        have hus : us = [] := by apply List.eq_nil_of_length_eq_zero; simpa using hul
                        subst hus
                        exact ⟨_, e, reg, .inl (append_exec ho hb ha _ (by rw [hax]; exact append_none (P := P) hu hu2 hk h0 h1 (hlen e.w) (hfc e.w fun _ => rfl) (Nat.le_refl _))), rfl, m, Ext.refl e, Keep.refl .., .c (.sl hr hc hl hx), fun _ _ _ h => h⟩
                      · rename_i hn
                        exact grow_done (fr := fr) (x := x) m hres ho hb ha (a := ⟨tm, df⟩) h0 h1 hu hu2 hi hz' hel hcl ry (base := some b) (sLen := cap) (sCap := cap) hax hr
                          (fun w hw => firstCells_run hvl fun j v hj => by rw [hw]; exact (hc j v hj).1) hcl2 (by omega) hroom []
                    · cases h
                | sc hs => simp at h
                | agg hs => simp at h
            | _ => simp [hraw] at h
  · cases h
end
end Go.Abs
