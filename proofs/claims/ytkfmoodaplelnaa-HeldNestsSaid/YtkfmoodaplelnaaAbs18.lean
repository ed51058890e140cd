/-
  Abs18: one operation of a region.
-/
import Derived.Test.YtkfmoodaplelnaaAbsM
set_option linter.unusedVariables false
set_option linter.unusedSimpArgs false
set_option linter.unusedSectionVars false
namespace Go.Abs
open Go
variable [Fl]
variable [Gl]

section
variable {P : Program} {n0 : Nat} {PR : Addr → Prop} {Γ : List (Nat × Ctx)} {e e' : E} {reg reg' : Own → Addr → Prop} {m : M} {r : Option Nat} {k0 nt : Nat} {fr : Nat → DV} {a : Act}

theorem wanted_rd {f : Nat → Addr → Prop} (hf : ∀ t, RD e (f t) (fr t) (a.tmps.getD t undef)) {ops : Array Oper} {o : Oper} {b : Bool} (h : wantedD ops o fr = some b) : Region.wanted o (yielded ops a.tmps) = b := by
  unfold wantedD at h
  unfold Region.wanted
  split at h
  · rename_i hg; cases h; rw [hg]
  · rename_i j want hg
    rw [hg]
    simp only
    split at h
    · rename_i hd
      cases h
      unfold yielded
      rw [hd]
      simp
    · rename_i t hd
      unfold yielded
      rw [hd]
      simp only [Option.bind_some]
      have hr := hf t
      split at h
      · rename_i b' hb
        cases h
        rw [hb] at hr
        cases hr with
        | c hr =>
          generalize hv : a.tmps.getD t undef = v at hr
          cases hr
          have : a.tmps[t]? = some (.bool b') := by
            rw [Array.getD_eq_getD_getElem?] at hv
            cases hx : a.tmps[t]? with
            | none => rw [hx] at hv; cases hv
            | some y => rw [hx] at hv; simp at hv; rw [hv]
          rw [this]
          cases b' <;> cases want <;> rfl
      · rename_i hb
        cases h
        rw [hb] at hr
        generalize hv : a.tmps.getD t undef = v at hr
        cases hr with
        | tup hr =>
          cases hr
          cases hx : a.tmps[t]? with
          | none => rfl
          | some y =>
            rw [Array.getD_eq_getD_getElem?, hx] at hv
            simp at hv
            rw [hv]
            cases want <;> rfl
      · cases h

/-- What is owed behind a piece of code: K takes whatever stands as the interpreter says. -/
def Next (n0 : Nat) (PR : Addr → Prop) (Γ : List (Nat × Ctx)) (r : Option Nat) (k0 nt : Nat) (e : E) (s' : S) (K : Act → World → Prop) : Prop :=
  ∀ a' e' reg', St n0 PR Γ e' reg' s'.m → NoRes reg' → Fr r k0 nt Γ e' reg' s'.fr a' → To n0 PR Γ e e' → K a' e'.w

theorem noRes_slotRes (reg : Own → Addr → Prop) (dst : Option Tmp) : NoRes (slotRes reg dst) := fun a h => h

theorem St.slotRes (s : St n0 PR Γ e reg m) (dst : Option Tmp) : St n0 PR Γ e (Abs.slotRes reg dst) m := ⟨s.st, s.la, s.lt, s.mi.slotRes dst, s.gi⟩

/-- A skipped operation. -/
theorem skip_next (s : St n0 PR Γ e reg m) (hf : Fr r k0 nt Γ e reg fr a) (hres : NoRes reg) {dst : Option Tmp} (hd : dstOk nt dst = true) {K : Act → World → Prop}
    (hK : Next n0 PR Γ r k0 nt e ⟨put fr dst (.tup []), m⟩ K) : K (a.put dst undef) e.w :=
  hK _ e (Abs.slotRes reg dst) (s.slotRes dst) (noRes_slotRes _ _) (by
    have := hf.put (m := m) s.gi (To.refl n0 PR Γ e) (drop := []) (dst := dst) (d := .tup []) (v := undef) (reg' := reg) hd (.tup .nil) (fun _ _ _ h => h)
    exact this) (To.refl ..)

theorem call_exec {o : Oper} {k : Call} {g : Operand} (ho : o.op = .call k) (hk : k.callee = .value g) {f : FuncId} {us vs : List Value} (hg : a.eval g = .func (.func f) ⟨us⟩ ⟨vs⟩) (he : enters P f = true) (w : World) :
    (execOp a.eval o).run P w = .ok (.enter f ⟨us ++ k.args.toList.map a.eval ++ vs⟩) w := by
  have henter : ∀ args, (callFunc f args).run P w = .ok (.enter f args) w := fun args => by
    unfold enters at he
    split at he
    · rename_i fn hfn
      simp only [Bool.and_eq_true, Bool.not_eq_true'] at he
      have h1 : ¬ (fn.name = "runtime.NumGoroutine") := by simpa using he.1
      have h2 : ¬ (fn.body = none) := fun hh => by simp [hh] at he
      simp [callFunc, hfn, h1, h2]
    · cases he
  simp only [execOp, ho, resolve, hk, Deferred.ofValue, hg, Sem.run_bind, Sem.run_pure, Result.andThen_ok, invoke, henter]
  congr 2
  apply Array.ext'
  simp

theorem yield_exec {o : Oper} {k : Call} {g : Operand} (ho : o.op = .call k) (hk : k.callee = .value g) {l : Nat} (hg : a.eval g = .func (.yield l) #[] #[]) (w : World) :
    (execOp a.eval o).run P w = (Instr.yield l ⟨k.args.toList.map a.eval⟩).run P w := by
  simp only [execOp, ho, resolve, hk, Deferred.ofValue, hg, Sem.run_bind, Sem.run_pure, Result.andThen_ok, invoke]
  congr 1
  congr 1
  apply Array.ext'
  simp

theorem calleeOf_some {fr : Nat → DV} {op : Op} {d : DV} {args : List DV} (h : calleeOf fr op = some (d, args)) : ∃ k g, op = .call k ∧ k.callee = .value g ∧ d = ev fr g ∧ args = evs fr k.args.toList := by
  unfold calleeOf at h
  split at h
  · rename_i k
    split at h
    · rename_i g hg; cases h; exact ⟨k, g, rfl, hg, rfl, rfl⟩
    · cases h
  · cases h

/-! ### cutting the store back -/
def cutE (e : E) (n : Nat) : E := { e with st := e.st.take n }
mutual
theorem RD.cut {n : Nat} {s : Addr → Prop} {d : DV} {v : Value} (h : below n d = true) : RD e s d v → RD (cutE e n) s d v
  | .un => .un
  | .c h => .c h
  | .apnil => .apnil
  | .ap h1 h2 h3 h4 h5 => .ap h1 h2 h3 h4 h5
  | .agg hk hr => .agg hk (RDs.cut (by simpa [below] using h) hr)
  | .tup hr => .tup (RDs.cut (by simpa [below] using h) hr)
  | .ms (id := id) hid hl hx hv => by
      have hlt : id < n := by simpa [below] using h
      refine .ms (by simp only [cutE, List.length_take]; omega) hl hx fun o ho => ?_
      have ho : (e.st.take n)[id]? = some o := ho
      rw [List.getElem?_take_of_lt hlt] at ho
      exact hv o ho
  | .pt (id := id) hid hv => by
      have hlt : id < n := by simpa [below] using h
      refine .pt (by simp only [cutE, List.length_take]; omega) fun o ho => ?_
      have ho : (e.st.take n)[id]? = some o := ho
      rw [List.getElem?_take_of_lt hlt] at ho
      exact hv o ho
  | .ia h1 h2 => .ia h1 h2
  | .fn h1 h2 => by
      simp only [below, Bool.and_eq_true] at h
      exact .fn (RDs.cut h.1 h1) (RDs.cut h.2 h2)
  | .yl hl => .yl hl
  | .er h => .er h
  | .mp (id := id) hid hv => by
      have hlt : id < n := by simpa [below] using h
      refine .mp (by simp only [cutE, List.length_take]; omega) fun o ho => ?_
      have ho : (e.st.take n)[id]? = some o := ho
      rw [List.getElem?_take_of_lt hlt] at ho
      exact hv o ho
  | .mi (id := id) hid hv => by
      have hlt : id < n := by simp [below] at h; exact h.1
      refine .mi (by simp only [cutE, List.length_take]; omega) fun o ho => ?_
      have ho : (e.st.take n)[id]? = some o := ho
      rw [List.getElem?_take_of_lt hlt] at ho
      exact hv o ho
theorem RDs.cut {n : Nat} {ds : List DV} {vs : List Value} (h : below.go n ds = true) : RDs e ds vs → RDs (cutE e n) ds vs
  | .nil => .nil
  | .cons hd hs => by
      simp only [below.go, Bool.and_eq_true] at h
      exact .cons (hd.cut h.1) (RDs.cut h.2 hs)
end

theorem MR.cut {n : Nat} : ∀ {es : List (DV × DV)} {xs : List MapEntry}, belowE n es = true → MR e es xs → MR (cutE e n) es xs
  | _, _, _, .nil => .nil
  | _, _, h, .cons a b c => by
    simp only [belowE, Bool.and_eq_true] at h
    exact .cons (a.cut h.1.1) (b.cut h.1.2) (c.cut h.2)
theorem MkAt.cut {n b : Nat} : ∀ {o : Ob} {k : MK}, o.mp.k = some k → belowO n o = true → MkAt e b k → MkAt (cutE e n) b k
  | o, .map es, hk, h, ⟨xs, c, h1, h2⟩ => by
    simp only [belowO, hk, Bool.and_eq_true] at h
    exact ⟨xs, c, h1, h2.1.cut h.2, h2.2⟩
  | o, .it id ver k cur left, hk, h, ⟨r, since, seen, stepped, h1, h2, h3⟩ => by
    simp only [belowO, hk, Bool.and_eq_true] at h
    refine ⟨r, since, seen, stepped, h1, h2.cut (by simpa [below] using h.2), fun o' ho' hv hk' => ?_⟩
    have ho' : (e.st.take n)[id]? = some o' := ho'
    have hlt : id < n := by simpa using h.2
    rw [List.getElem?_take_of_lt hlt] at ho'
    exact h3 o' ho' hv hk'
  | o, .iter id ver, hk, h, ⟨r, c, h1, h2⟩ => by
    simp only [belowO, hk, Bool.and_eq_true] at h
    exact ⟨r, c, h1, h2.cut (by simpa [below] using h.2)⟩
theorem cut_core {mm : Nat} {e0 : E} {pd0 : List Ex} (hall : ((m.st.take mm).all fun o => belowO mm o) = true) (st : St n0 PR Γ e reg m) (g0 : GI n0 e0 Γ pd0) (hle : e0.st.length ≤ mm) (to : To n0 PR Γ e0 e) :
    St n0 PR Γ (cutE e mm) reg { m with st := m.st.take mm } ∧ To n0 PR Γ e0 (cutE e mm) := by
  have hx : Ext e0 (cutE e mm) := by
    refine ⟨to.ext.im, to.ext.cell, ?_, fun id o o' h1 h2 => ?_, to.ext.la⟩
    · have := to.ext.len; simp [cutE]; omega
    · have h2 : (e.st.take mm)[id]? = some o' := h2
      have hlt : id < mm := by have := (List.getElem?_eq_some_iff.1 h1).1; omega
      rw [List.getElem?_take_of_lt hlt] at h2
      exact to.ext.ver id o o' h1 h2
  have mi := st.mi
  have get : ∀ id o, (cutE e mm).st[id]? = some o → e.st[id]? = some o ∧ id < mm := fun id o ho => by
    have ho : (e.st.take mm)[id]? = some o := ho
    have hlt : id < mm := by have := (List.getElem?_eq_some_iff.1 ho).1; simp at this; omega
    rw [List.getElem?_take_of_lt hlt] at ho
    exact ⟨ho, hlt⟩
  refine ⟨⟨by simp [cutE, st.st], st.la, st.lt, ⟨mi.imlt, mi.impr, mi.prlt, mi.n0le, mi.ok, mi.disj, fun id o ho => mi.ext id o (get id o ho).1, fun id o ho => mi.own id o (get id o ho).1, fun id o ho i d hd => ?_⟩, ⟨⟨st.gi.gl.im, st.gi.gl.ok⟩, ⟨fun id o k h1 h2 => ?_, fun id id' o o' h1 h2 h3 h4 h5 => st.gi.mp.inj id id' o o' (get id o h1).1 h2 (get id' o' h3).1 h4 h5⟩, fun k x hm => ?_, st.gi.inj⟩⟩, ⟨hx, to.keep, fun r ⟨id, o, h1, h2, h3⟩ => to.maps r ⟨id, o, (get id o h1).1, h2, h3⟩, to.loops⟩⟩
  · obtain ⟨h1, v, h2, h3⟩ := mi.cell id o (get id o ho).1 i d hd
    refine ⟨h1, v, h2, h3.cut ?_⟩
    have hmem : o ∈ m.st.take mm := by
      have ho' : (e.st.take mm)[id]? = some o := ho
      rw [st.st] at ho'
      exact List.mem_of_getElem? ho'
    have := List.all_eq_true.1 hall o hmem
    simp only [belowO, Bool.and_eq_true] at this
    exact List.all_eq_true.1 this.1 d (List.mem_of_getElem? hd)
  · obtain ⟨q1, q2⟩ := st.gi.mp.at_ id o k (get id o h1).1 h2
    have hmem : o ∈ m.st.take mm := by
      have ho' : (e.st.take mm)[id]? = some o := h1
      rw [st.st] at ho'
      exact List.mem_of_getElem? ho'
    exact ⟨q1, q2.cut h2 (List.all_eq_true.1 hall o hmem)⟩
  · obtain ⟨l1, r1, hl1, hat⟩ := st.gi.at_ k x hm
    obtain ⟨l0, r0, hl0, hat0⟩ := g0.at_ k x hm
    have hll := to.ext.la _ _ hl0
    rw [hl1] at hll; cases hll
    obtain ⟨r2, h2, h3⟩ := to.loops l1 r0 ⟨k, x, hm, hl0⟩ hat0.heap
    rw [hat.heap] at h2; cases h2
    exact ⟨l1, r1, hl1, hat.heap, hat.params, hat.assign, hat.body, hat.nt, fun t => by rw [h3]; exact (hat0.rd t).mono hx (fun _ h => h), hat.state⟩

theorem trim_sound {mm : Nat} {d : DV} {m2 : M} {v : Value} {s : Addr → Prop} {e0 : E} {pd0 : List Ex} (h : trimM mm d m = some m2) (st : St n0 PR Γ e reg m) (g0 : GI n0 e0 Γ pd0) (hle : e0.st.length ≤ mm) (to : To n0 PR Γ e0 e) (hr : RD e s d v) :
    ∃ e2, e2.w = e.w ∧ St n0 PR Γ e2 reg m2 ∧ To n0 PR Γ e0 e2 ∧ RD e2 s d v := by
  unfold trimM at h
  split at h
  · rename_i hc
    cases h
    simp only [Bool.and_eq_true] at hc
    obtain ⟨h1, h2⟩ := cut_core hc.2 st g0 hle to
    exact ⟨cutE e mm, rfl, h1, h2, hr.cut hc.1⟩
  · cases h

/-- A call of a function, whichever store it works on. -/
theorem callD_sound {rec : Rec} (hc : CallOk P rec) {keep : Bool} {lc : Option (List Nat)} {f : FuncId} {ds : List DV} {vs : List Value} {d : DV} {m' : M} (h : callD P rec Γ keep lc m f ds = some (d, m')) (s : St n0 PR Γ e reg m) (hres : NoRes reg) (hr : RDs e ds vs) (n : Nat) :
    enters P f = true ∧ CallsIn Fence.wide n P f ⟨vs⟩ e.w (fun en w' => ∃ v e' reg', en = .returned v ∧ e'.w = w' ∧ St n0 PR Γ e' reg' m' ∧ To n0 PR Γ e e' ∧ RD e' (reg' .res) d v ∧ ∀ t x, reg (.slot t) x → reg' (.slot t) x) := by
  unfold callD at h
  split at h
  · cases h
  · rename_i hent
    have hent' : enters P f = true := by simpa using hent
    refine ⟨hent', ?_⟩
    split at h
    · rename_i p hp
      rw [Option.map_eq_some_iff] at h
      obtain ⟨rr, hrr, hh⟩ := h
      cases hh
      obtain ⟨s0, hr0, hs0, hback⟩ := s.hide hres
      exact (CallsIn.mono ((hc.prim f p hp).ok m ds rr hrr Γ n0 _ _ _ vs n s0 hr0 hs0 hr) fun en w' hb => hback _ _ _ _ hb)
    split at h
    · rename_i hcl
      split at h
      · rename_i d1 m1 hrec
        obtain ⟨s0, hback⟩ := s.apart hres
        have hcall := hc.call [] f ds ⟨[], []⟩ d1 m1 hrec n0 _ _ _ vs n s0 (fun _ h => h) (fun _ _ h => h) (closed_args (e := e) (e0 := { e with st := [], la := [] }) rfl rfl hcl hr)
        split at h
        · cases h
          exact hcall.mono fun en w' hb => (hback _ _ _ _ hb).2
        · rw [Option.map_eq_some_iff] at h
          obtain ⟨d', hd', hh⟩ := h
          cases hh
          exact hcall.mono fun en w' hb => (hback _ _ _ _ hb).1 _ hd'
      · cases h
    · split at h
      · rename_i sel
        unfold localD at h
        split at h
        · cases h
        · rename_i hnd
          have hnd' : nodupB sel = true := by simpa using hnd
          split at h
          · rename_i st0 args0 hst0 hargs0
            split at h
            · rename_i d1 m1 hrec
              split at h
              · rename_i d2 os hend
                obtain ⟨into, s0, hback⟩ := s.onSome hres hnd' hst0
                have hcall := hc.call [] f args0 ⟨st0, []⟩ d1 m1 hrec n0 _ _ _ vs n s0 (fun _ h => h) (fun _ _ h => h) (RDs.into into (by rw [s.st]; exact hargs0) hr)
                exact hcall.mono fun en w' hb => hback _ _ _ _ _ _ _ _ hend h hb
              · cases h
            · cases h
          · cases h
      split at h
      · rw [Option.bind_eq_some_iff] at h
        obtain ⟨⟨d1, m1⟩, hrec, h⟩ := h
        rw [Option.map_eq_some_iff] at h
        obtain ⟨m2, htr, hh⟩ := h
        cases hh
        obtain ⟨s0, hr0, hs0, hback⟩ := s.hide hres
        have hcall := hc.call Γ f ds m d m1 hrec n0 _ _ _ vs n s0 hr0 hs0 hr
        refine hcall.mono fun en w' hb => ?_
        obtain ⟨v, e', reg', h1, h2, st', to, hrd, hsl⟩ := hback _ _ _ _ hb
        obtain ⟨e2, hw2, st2, to2, hrd2⟩ := trim_sound htr st' s.gi (by rw [s.st]; exact Nat.le_refl _) to hrd
        exact ⟨v, e2, reg', h1, by rw [hw2]; exact h2, st2, to2, hrd2, hsl⟩
      · obtain ⟨s0, hr0, hs0, hback⟩ := s.hide hres
        have hcall := hc.call Γ f ds m d m' h n0 _ _ _ vs n s0 hr0 hs0 hr
        exact hcall.mono fun en w' hb => hback _ _ _ _ hb

theorem step_sound {rec : Rec} (hc : CallOk P rec) (hrd : RoundOk P rec) {g : Reg} {i : Nat} {s s' : S} (h : stepD P rec g i s = some s') (hΓ : g.Γ = Γ) (hnt : g.nt = nt) (st : St n0 PR Γ e reg s.m) (hres : NoRes reg) (hf : Fr r k0 nt Γ e reg s.fr a)
    {K : Act → World → Prop} (hK : Next n0 PR Γ r k0 nt e s' K) (Q : Exit → Act → World → Prop) (n : Nat) : wpOpIn (fence r) n P g.ops Q i K a e.w := by
  unfold stepD at h
  unfold wpOpIn
  split at h
  · rename_i ho
    cases h
    rw [ho]
    exact hK a e reg st hres hf (To.refl ..)
  · rename_i o ho
    rw [ho]
    simp only
    split at h
    · cases h
    · rename_i hdst
      have hdst' : dstOk nt o.dst = true := by rw [← hnt]; simpa using hdst
      split at h
      · cases h
      · rename_i hw
        cases h
        rw [wanted_rd hf.rd hw]
        exact ⟨fun _ _ => trivial, skip_next st hf hres hdst' hK⟩
      · rename_i hw
        rw [wanted_rd hf.rd hw, if_pos rfl]
        refine ⟨fun _ _ => trivial, ?_⟩
        have hev : ∀ x s, RD e s (ev s'.fr x) ((⟨a.tmps, a.defers⟩ : Act).eval x) → True := fun _ _ _ => trivial
        have hevr : ∀ x s1, RD e s1 (ev s.fr x) (a.eval x) := fun x s1 => ev_rd (tm := a.tmps) (df := a.defers) hf.rd x
        split at h
        · rename_i f xs ys args hcal
          obtain ⟨k, gx, hop, hk, hgx, hargs⟩ := calleeOf_some hcal
          rw [Option.map_eq_some_iff] at h
          obtain ⟨⟨d, m'⟩, hcd, hh⟩ := h
          cases hh
          have hgr := hevr gx (fun _ => False)
          rw [← hgx] at hgr
          generalize hag : a.eval gx = ag at hgr
          cases hgr with
          | fn h1 h2 =>
            rename_i us vs
            have hall : RDs e (xs ++ args ++ ys) (us ++ k.args.toList.map a.eval ++ vs) := by
              rw [hargs]
              exact (h1.append (evs_rds hevr k.args.toList)).append h2
            rw [hΓ] at hcd
            obtain ⟨hent, hcall⟩ := callD_sound hc hcd st hres hall (n - 1)
            rw [Oper.semAt_eq _ _ _ (by simp [hop]), call_exec hop hk hag hent, Oper.uponIn_enter]
            refine ⟨fun hh => by simp [Fence.wide] at hh, CallsIn.fence r (CallsIn.mono hcall fun en w' hb => ?_)⟩
            obtain ⟨v, e', reg', rfl, rfl, st', to, hr', hsl⟩ := hb
            exact hK _ e' (slotRes reg' o.dst) (st'.slotRes _) (noRes_slotRes _ _) (hf.put st.gi to (drop := []) hdst' hr' (fun t _ x hx => hsl t x hx)) to
        · rename_i j args hcal
          obtain ⟨k, gx, hop, hk, hgx, hargs⟩ := calleeOf_some hcal
          rw [Option.map_eq_some_iff] at h
          obtain ⟨⟨d, m'⟩, hcd, hh⟩ := h
          cases hh
          have hgr := hevr gx (fun _ => False)
          rw [← hgx] at hgr
          generalize hag : a.eval gx = ag at hgr
          cases hgr with
          | yl hl =>
            rename_i l
            rw [hΓ] at hcd
            obtain ⟨s0, hr0, hs0, hback⟩ := st.hide hres
            obtain ⟨x, hx, hlen, hround⟩ := hrd Γ j args s.m d m' hcd n0 _ _ _ (k.args.toList.map a.eval) (n - 1) s0 hr0 hs0 (by rw [hargs]; exact evs_rds hevr _) l hl
            rw [Oper.semAt_eq _ _ _ (by simp [hop]), yield_exec hop hk hag, run_yield hx (by simpa using hlen), Oper.uponIn_round]
            refine ⟨fun hh => by simp [Fence.wide] at hh, RoundIn.fence r (RoundIn.mono hround fun en w' hb => ?_)⟩
            obtain ⟨v, e', reg', rfl, rfl, st', to, hr', hsl⟩ := hback _ _ _ _ hb
            exact hK _ e' (slotRes reg' o.dst) (st'.slotRes _) (noRes_slotRes _ _) (hf.put st.gi to (drop := []) hdst' hr' (fun t _ x hx => hsl t x hx)) to
        · cases h
        · rename_i hcal
          rw [Option.map_eq_some_iff] at h
          obtain ⟨rr, hop, hh⟩ := h
          cases hh
          rw [← st.st] at hop
          have hnd : ∀ c, o.op ≠ .defer c := fun c hc => by rw [hc] at hop; simp [opS] at hop
          cases hmo : isMapOp o.op with
          | false =>
            obtain ⟨⟨v, e', reg', dn⟩, hpl⟩ := opS_sound (tm := a.tmps) (df := a.defers) st.mi hres hf.rd hop hmo
            have hla : e'.la = e.la := congrArg Prod.snd dn.st
            have hst : e'.st = stSet e.st rr.set := congrArg Prod.fst dn.st
            have sameK : SameK e e' := by
              cases hs : rr.set with
              | none => rw [hs] at hst; exact SameK.of_eq hst
              | some x => rw [hs] at hst; obtain ⟨xi, xo⟩ := x; exact SameK.of_set hst (hpl xi xo hs)
            have to : To n0 PR Γ e e' := To.of_keep dn.ext dn.keep sameK
            have st' : St n0 PR Γ e' reg' (setM s.m rr.set) := by
              refine ⟨?_, ?_, fun l hl => ?_, dn.mi, ?_⟩
              · rw [hst, st.st]
                cases rr.set with
                | none => rfl
                | some x => rfl
              · rw [hla, st.la]
                cases rr.set with
                | none => rfl
                | some x => rfl
              · rw [hla] at hl
                exact ⟨(st.lt l hl).1, Nat.lt_of_lt_of_le (st.lt l hl).2 dn.keep.size⟩
              · have := st.gi.keep dn.ext dn.keep sameK
                cases rr.set with
                | none => exact this
                | some x => exact this
            have hfin := hK _ e' (slotRes reg' o.dst) (st'.slotRes _) (noRes_slotRes _ _) (hf.put st.gi to (drop := rr.drop) hdst' dn.res dn.slot) to
            rw [Oper.semAt_eq _ _ _ hnd]
            rcases dn.run with hrun | ⟨hrun, rfl⟩
            · rw [show (⟨a.tmps, a.defers⟩ : Act).eval = a.eval from rfl] at hrun
              rw [hrun, Oper.uponIn_value]; exact hfin
            · rw [show (⟨a.tmps, a.defers⟩ : Act).eval = a.eval from rfl] at hrun
              rw [hrun, Oper.uponIn_skip]; exact hfin
          | true =>
            obtain ⟨v, e', dn⟩ := mapS_sound (tm := a.tmps) (df := a.defers) st.mi st.gi.mp hf.rd hop hmo
            have hla : e'.la = e.la := congrArg Prod.snd dn.st
            have hst : e'.st = stSet e.st rr.set := congrArg Prod.fst dn.st
            have hloop : ∀ (l : Nat) (x : Loop), e.w.heap[l]? = some (.loop x) → e'.w.heap[l]? = some (.loop x) := fun l x hx => dn.keep.obj l _ hx rfl (MB.not st.gi hx rfl)
            have to : To n0 PR Γ e e' := ⟨dn.ext, dn.keep.weak fun _ h => .inr h, dn.maps, fun l x _ hx => ⟨x, hloop l x hx, rfl⟩⟩
            have hgi : GI n0 e' Γ s.m.pd := st.gi.to' dn.ext dn.mp fun l x _ hx => hloop l x hx
            have st' : St n0 PR Γ e' reg (setM s.m rr.set) := by
              refine ⟨?_, ?_, fun l hl => ?_, dn.mi, ?_⟩
              · rw [hst, st.st]
                cases rr.set with
                | none => rfl
                | some x => rfl
              · rw [hla, st.la]
                cases rr.set with
                | none => rfl
                | some x => rfl
              · rw [hla] at hl
                exact ⟨(st.lt l hl).1, Nat.lt_of_lt_of_le (st.lt l hl).2 dn.keep.size⟩
              · cases rr.set with
                | none => exact hgi
                | some x => exact hgi
            have hfin := hK _ e' (slotRes reg o.dst) (st'.slotRes _) (noRes_slotRes _ _) (hf.put st.gi to (drop := rr.drop) hdst' (dn.res _) (fun _ _ _ h => h)) to
            rw [Oper.semAt_eq _ _ _ hnd]
            rcases dn.run with hrun | ⟨hrun, rfl⟩
            · rw [show (⟨a.tmps, a.defers⟩ : Act).eval = a.eval from rfl] at hrun
              rw [hrun, Oper.uponIn_value]; exact hfin
            · rw [show (⟨a.tmps, a.defers⟩ : Act).eval = a.eval from rfl] at hrun
              rw [hrun, Oper.uponIn_skip]; exact hfin
end
end Go.Abs
