/-
  Abs25: functions; the interpreter is sound.
-/
import Derived.Test.YtkfmoodaplelnaaAbs24
set_option linter.unusedVariables false
set_option linter.unusedSimpArgs false
set_option linter.unusedSectionVars false
namespace Go.Abs
open Go
variable [Gl]

section
variable {P : Program} {n0 : Nat} {PR : Addr → Prop} {Γ : List (Nat × Ctx)} {e e' : E} {reg reg' : Own → Addr → Prop} {m : M} {r : Option Nat} {k0 nt : Nat} {fr : Nat → DV} {a : Act} {rec : Rec}

theorem argFr_rd {args : List DV} {vs : List Value} (h : RDs e args vs) (k : Nat) (t : Nat) (s : Addr → Prop) : RD e s (argFr args t) ((⟨vs⟩ ++ Array.replicate k undef : Array Value).getD t undef) := by
  unfold argFr
  cases ha : args[t]? with
  | none => exact .un
  | some d =>
    obtain ⟨v, hv, hr⟩ := h.get ha
    have : (⟨vs⟩ ++ Array.replicate k undef : Array Value).getD t undef = v := by
      have hlt : t < vs.length := (List.getElem?_eq_some_iff.1 hv).1
      rw [Array.getD_eq_getD_getElem?, Array.getElem?_append_left (by simpa using hlt)]
      simp [hv]
    rw [this]
    exact hr.weak (fun _ h => h.elim)

/-- Only the rights of objects are kept; what goes out takes a slot's. -/
def outReg (reg : Own → Addr → Prop) (t : Option Nat) : Own → Addr → Prop := fun p a => match p with
  | .res => ∃ u, t = some u ∧ reg (.slot u) a
  | .slot _ => False
  | p => reg p a
theorem outReg_from {t : Option Nat} {p : Own} {a : Addr} (h : outReg reg t p a) : ∃ p', reg p' a ∧ ((p = .res ∧ ∃ u, t = some u ∧ p' = .slot u) ∨ (p' = p ∧ p ≠ .res ∧ ∀ u, p ≠ .slot u)) := by
  cases p with
  | res => obtain ⟨u, hu, h⟩ := h; exact ⟨_, h, .inl ⟨rfl, u, hu, rfl⟩⟩
  | slot u => exact h.elim
  | ob j => exact ⟨_, h, .inr ⟨rfl, by simp, by simp⟩⟩
  | cell j i => exact ⟨_, h, .inr ⟨rfl, by simp, by simp⟩⟩
theorem MI.outReg (mi : MI n0 PR e reg) (t : Option Nat) : MI n0 PR e (Abs.outReg reg t) := by
  refine mi.rereg (fun p a h => let ⟨p', h', _⟩ := outReg_from h; ⟨p', h'⟩) (fun p p' a h1 h2 => ?_) (fun j a h => h) (fun j i a h => h)
  obtain ⟨u, hu, hu1⟩ := outReg_from h1
  obtain ⟨u', hu', hu1'⟩ := outReg_from h2
  have heq := mi.disj _ _ _ hu hu'
  rcases hu1 with ⟨rfl, x, hx, rfl⟩ | ⟨rfl, hn1, hn2⟩ <;> rcases hu1' with ⟨rfl, y, hy, rfl⟩ | ⟨rfl, hn1', hn2'⟩
  · rfl
  · exact absurd heq.symm (hn2' x)
  · exact absurd heq (hn2 y)
  · exact heq
theorem noSlot_outReg (t : Option Nat) : NoSlot (outReg reg t) := fun _ _ h => h

/-- The results, each with the right that it may take along. -/
inductive RRs (e : E) (reg : Own → Addr → Prop) : List DV → List Value → Prop
  | nil : RRs e reg [] []
  | cons {d : DV} {v : Value} {ds : List DV} {vs : List Value} (t : Option Nat) (h : RD e (fun a => ∃ u, t = some u ∧ reg (.slot u) a) d v) (hs : RRs e reg ds vs) : RRs e reg (d :: ds) (v :: vs)
theorem RRs.tup {ds : List DV} {vs : List Value} (h : RRs e reg ds vs) : RDs e (ds.map unflag) vs := by
  induction h with
  | nil => exact .nil
  | cons t h hs ih => exact .cons h.unflag ih

theorem res_run (mi : MI n0 PR e reg) {tm : Array Value} {s : S} (hst : e.st = s.m.st) (hf : ∀ t, RD e (reg (.slot t)) (s.fr t) (tm.getD t undef)) {g : ResultVar → Sem Value} (hg1 : ∀ t, g (.tmp t) = pure (tm.getD t undef)) (hg2 : ∀ a t, g (.cell a t) = do loadVar t (← asAddr (tm.getD a undef))) :
    ∀ {rs : List ResultVar} {ds : List DV}, resD P s rs = some ds → ∃ us, (rs.mapM g).run P e.w = .ok us e.w ∧ RRs e reg ds us
  | [], ds, h => by simp only [resD] at h; cases h; exact ⟨[], rfl, .nil⟩
  | .tmp t :: rs, ds, h => by
    simp only [resD] at h
    rw [Option.map_eq_some_iff] at h
    obtain ⟨ds', h', rfl⟩ := h
    obtain ⟨us, hu, hr⟩ := res_run mi hst hf hg1 hg2 h'
    refine ⟨tm.getD t undef :: us, ?_, .cons (some t) ((hf t).weak fun a ha => ⟨t, rfl, ha⟩) hr⟩
    simp only [List.mapM_cons, Sem.run_bind, hg1, Sem.run_pure, Result.andThen_ok, hu]
  | .cell a t :: rs, ds, h => by
    simp only [resD] at h
    split at h
    · rename_i d ds' h1 h2
      cases h
      obtain ⟨us, hu, hr⟩ := res_run mi hst hf hg1 hg2 h2
      have hrx := (hf a).unflag (s' := fun _ => False)
      rw [← hst] at h1
      obtain ⟨u, hl, hru⟩ := load_sound (P := P) mi (s' := fun _ => False) h1 hrx
      have hptr : ∃ ad, tm.getD a undef = .pointer (some ad) := by
        generalize tm.getD a undef = v at hrx
        generalize unflag (s.fr a) = x at h1 hrx
        unfold loadD at h1
        split at h1
        · cases hrx; exact ⟨_, rfl⟩
        · cases hrx; exact ⟨_, rfl⟩
        · cases h1
      obtain ⟨ad, had⟩ := hptr
      rw [had] at hl
      simp only [Instr.loadAt, Instr.sureAddr, pure_bind] at hl
      refine ⟨u :: us, ?_, .cons none (hru.weak fun _ h => h.elim) hr⟩
      have hcell : (g (.cell a t)).run P e.w = .ok u e.w := by
        rw [hg2, had]
        simp only [asAddr, pure_bind]; exact hl
      simp only [List.mapM_cons, Sem.run_bind, hcell, Sem.run_pure, Result.andThen_ok, hu]
    · cases h

theorem results_run (mi : MI n0 PR e reg) {tm : Array Value} {s : S} (hst : e.st = s.m.st) (hf : ∀ t, RD e (reg (.slot t)) (s.fr t) (tm.getD t undef)) {fn : Func} {ds : List DV} (h : resD P s fn.results.toList = some ds) :
    ∃ v t, (results fn tm).run P e.w = .ok v e.w ∧ RD e (outReg reg t .res) (resOne ds) v := by
  have key : ∀ g : ResultVar → Sem Value, (∀ t, g (.tmp t) = pure (tm.getD t undef)) → (∀ a t, g (.cell a t) = do loadVar t (← asAddr (tm.getD a undef))) →
      ∃ us, (do let vs ← fn.results.mapM g; pure (if h : vs.size = 1 then vs[0] else .tuple vs) : Sem Value).run P e.w = .ok (if h : (⟨us⟩ : Array Value).size = 1 then (⟨us⟩ : Array Value)[0] else .tuple ⟨us⟩) e.w ∧ RRs e reg ds us := fun g hg1 hg2 => by
    obtain ⟨us, hu, hr⟩ := res_run (P := P) mi hst hf hg1 hg2 h
    refine ⟨us, ?_, hr⟩
    rw [Array.mapM_eq_mapM_toList]
    simp only [Sem.run_bind, Sem.run_map, hu, Sem.run_pure, Result.andThen_ok]
  obtain ⟨us, hrun, hr⟩ := key (fun | .tmp t => pure (tm.getD t undef) | .cell a t => do loadVar t (← asAddr (tm.getD a undef))) (fun _ => rfl) (fun _ _ => rfl)
  have hrun' : (results fn tm).run P e.w = _ := hrun
  cases hr with
  | nil => exact ⟨_, none, hrun', by simp [resOne]; exact .tup .nil⟩
  | cons t hd hs =>
    cases hs with
    | nil => exact ⟨_, t, hrun', hd⟩
    | cons t' hd' hs =>
      refine ⟨_, none, hrun', ?_⟩
      have hall := (RRs.cons t hd (.cons t' hd' hs)).tup
      simpa [resOne] using RD.tup (s := outReg reg none .res) hall

/-- A frame's marks are taken in. -/
theorem leaves_sound {fn : Func} {tm : Array Value} {R : Ending → World → Prop} {F : Fence} {n : Nat} {e0 : E} (hn0 : n0 ≤ e0.w.heap.size) : ∀ (rs : List Nat) (e : E) (reg : Own → Addr → Prop), St n0 PR Γ e reg m → To n0 PR Γ e0 e → rs.Nodup →
      (∀ b ∈ rs, e0.w.heap.size ≤ b ∧ e.w.heap[b]? = some (.deferred (some []))) →
      (∀ e', St n0 PR Γ e' reg m → Ext e e' → To n0 PR Γ e0 e' → ∃ v, (results fn tm).run P e'.w = .ok v e'.w ∧ R (.returned v) e'.w) → LeavesInM F n P fn tm R (rs.map mark) .returning e.w
  | [], e, reg, st, to, _, _, h => h e st (Ext.refl e) to
  | b :: rs, e, reg, st, to, hnd, hb, h => by
    obtain ⟨hb0, hb1⟩ := hb b (by simp)
    refine ⟨by simp, .inl ⟨b, _, rfl, run_takeDeferred hb1, ?_⟩⟩
    let w2 := e.w.putObj b (.deferred none)
    obtain ⟨mi2, x2⟩ := st.mi.world (w' := w2) (la' := e.la) (by simp [w2]) (fun a _ => putObj_cells hb1 rfl rfl a) (fun _ _ h => h)
    let e2 : E := { e with w := w2 }
    have hother : ∀ rr, rr ≠ b → w2.heap[rr]? = e.w.heap[rr]? := fun rr hne => World.putObj_heap_other hne
    have kp : Keep n0 PR (fun rr => rr = b) e.w w2 := putObj_keep hb1 rfl rfl (by omega)
    have hnl : ∀ l, X Γ e.la l → l ≠ b := fun l hX hh => by
      obtain ⟨lx, hlx⟩ := X.loop st.gi hX
      subst hh
      rw [hb1] at hlx; cases hlx
    have st2 : St n0 PR Γ e2 reg m := ⟨st.st, st.la, fun l hl => by show n0 ≤ l ∧ l < w2.heap.size; have := st.lt l hl; simpa [w2] using this, mi2, st.gi.to x2 (SameK.of_eq rfl) (fun rr o hb ho => by show w2.heap[rr]? = _; rw [hother rr (fun hh => MB.not st.gi hb1 rfl (hh ▸ hb))]; exact ho) fun l rc hX hr => by show w2.heap[l]? = _; rw [hother l (hnl l hX)]; exact hr⟩
    have to2 : To n0 PR Γ e0 e2 := by
      have k2 := to.keep
      refine ⟨to.ext.trans x2, ⟨kp.os.trans k2.os, kp.tape.trans k2.tape, kp.output.trans k2.output, Nat.le_trans k2.size kp.size, fun rr hr => (kp.old rr hr).trans (k2.old rr hr), fun x hx => ⟨(kp.pr x hx).1.trans (k2.pr x hx).1, (kp.pr x hx).2.trans (k2.pr x hx).2⟩, fun rr o hr hc' hn => ?_⟩, fun r hr => to.maps r hr, fun l rc hX hr => ?_⟩
      · have : rr < e0.w.heap.size := (Array.getElem?_eq_some_iff.1 hr).1
        show w2.heap[rr]? = _
        rw [hother rr (by omega)]; exact k2.obj rr o hr hc' hn
      · have : l < e0.w.heap.size := (Array.getElem?_eq_some_iff.1 hr).1
        show ∃ r' : Loop, w2.heap[l]? = _ ∧ _
        rw [hother l (by omega)]; exact to.loops l rc hX hr
    rw [List.nodup_cons] at hnd
    exact leaves_sound hn0 rs e2 reg st2 to2 hnd.2 (fun b' hb' => ⟨(hb b' (by simp [hb'])).1, by show w2.heap[b']? = _; rw [hother b' (fun hh => hnd.1 (hh ▸ hb'))]; exact (hb b' (by simp [hb'])).2⟩)
      (fun e' h1 h2 h3 => h e' h1 (x2.trans h2) h3)

theorem call_sound (hm : P.follows .mixedOrders = true) (hc : CallOk P rec) (hrd : RoundOk P rec) {an : An} {k : Nat} {f : FuncId} {args : List DV} {d : DV} {m' : M} (h : callF P an rec k Γ f args m = some (d, m')) {vs : List Value} (n : Nat) (st : St n0 PR Γ e reg m) (hres : NoRes reg)
    (hns : NoSlot reg) (hr : RDs e args vs) : CallsIn Fence.wide n P f ⟨vs⟩ e.w (Back n0 PR Γ e d m') := by
  unfold callF at h
  split at h
  · cases h
  · rename_i fn hfn
    split at h
    · cases h
    · rename_i c hbody
      refine callsIn_of_wp_marks hfn hbody trivial ?_
      have main : ∀ (ex : Ex) (s : S), codeD P rec an f fn.ntmps Γ k c ⟨argFr args, m⟩ = some (ex, s) → (∀ id, ex ≠ .exit id) → (resD P s fn.results.toList).map (fun ds => (resOne ds, s.m)) = some (d, m') →
          c.wpIn Fence.wide n P (bodyPostM Fence.wide n P fn (Back n0 PR Γ e d m')) { tmps := ⟨vs⟩ ++ Array.replicate (fn.ntmps - (⟨vs⟩ : Array Value).size) undef, defers := [] } e.w := by
        intro ex s hcode hne hres2
        rw [Option.map_eq_some_iff] at hres2
        obtain ⟨ds, hds, hh⟩ := hres2
        cases hh
        refine code_sound hm hc hrd c ⟨argFr args, m⟩ s ex hcode n0 PR none e.w.heap.size e reg _ _ n st hres ⟨fun t => argFr_rd hr _ t _, by simp; omega, ⟨[], rfl, List.nodup_nil, by simp⟩, by simp⟩ (Nat.le_refl _) fun a' e' reg' st' hres' hf' to => ?_
        obtain ⟨rs, hd1, hd2, hd3⟩ := hf'.df
        have hl : LeavesInM Fence.wide n P fn a'.tmps (Back n0 PR Γ e (resOne ds) s.m) a'.defers .returning e'.w := by
          rw [hd1]
          refine leaves_sound st.mi.n0le rs e' reg' st' to hd2 hd3 fun e2 st2 x2 to2 => ?_
          obtain ⟨v, t, hv, hrv⟩ := results_run (P := P) st2.mi st2.st (fun t => (hf'.rd t).mono x2 (fun _ h => h)) hds
          exact ⟨v, hv, e2, outReg reg' t, rfl, ⟨st2.st, st2.la, st2.lt, st2.mi.outReg t, st2.gi⟩, noSlot_outReg t, to2, hrv⟩
        cases ex with
        | normal => exact hl
        | ret => exact hl
        | exit id => exact absurd rfl (hne id)
      split at h
      · cases h
      · rename_i ex s hne hcode
        exact main ex s hcode (fun id hh => hne id hh) h
      · cases h

theorem ctxOf_mem : ∀ {Γ : List (Nat × Ctx)} {j : Nat} {x : Ctx}, ctxOf Γ j = some x → (j, x) ∈ Γ
  | [], j, x, h => by simp [ctxOf] at h
  | (k, y) :: Γ, j, x, h => by
    simp only [ctxOf] at h
    split at h
    · rename_i hk; cases h; subst hk; simp
    · exact List.mem_cons_of_mem _ (ctxOf_mem h)

theorem setPs_rd : ∀ (ps : List Tmp) (args : List DV) (vs : List Value) (fr : Nat → DV) (tm : Array Value) (nt : Nat), RDs e args vs → ps.length = args.length → (∀ t ∈ ps, t < nt) → nt ≤ tm.size → (∀ t s, RD e s (fr t) (tm.getD t undef)) →
    (∀ t s, RD e s (setPs fr (ps.zip args) t) (((ps.zip vs).foldl (fun tmps (t, a) => tmps.setIfInBounds t a) tm).getD t undef)) ∧ nt ≤ ((ps.zip vs).foldl (fun (tmps : Array Value) (t, a) => tmps.setIfInBounds t a) tm).size
  | [], args, vs, fr, tm, nt, h, hl, hp, hn, hf => by
    cases h with
    | nil => exact ⟨hf, hn⟩
    | cons => simp at hl
  | p :: ps, args, vs, fr, tm, nt, h, hl, hp, hn, hf => by
    cases h with
    | nil => simp at hl
    | cons a b =>
      rename_i d v ds us
      simp only [List.zip_cons_cons, List.foldl_cons, setPs]
      have hlt : p < tm.size := Nat.lt_of_lt_of_le (hp p (by simp)) hn
      refine setPs_rd ps ds us _ _ nt b (by simpa using hl) (fun t ht => hp t (by simp [ht])) (by simpa using hn) fun t s => ?_
      by_cases ht : t = p
      · subst ht
        have h1 : (tm.setIfInBounds t v).getD t undef = v := by simp [Array.getD_eq_getD_getElem?, hlt]
        have h2 : upd fr t d t = d := by simp [upd]
        rw [h1, h2]
        exact a.weak (fun _ h => h.elim)
      · have h1 : (tm.setIfInBounds p v).getD t undef = tm.getD t undef := by simp [Array.getD_eq_getD_getElem?, Array.getElem?_setIfInBounds_ne (Ne.symm ht)]
        have h2 : upd fr p d t = fr t := by simp [upd, ht]
        rw [h1, h2]
        exact hf t s

theorem round_sound (hm : P.follows .mixedOrders = true) (hc : CallOk P rec) (hrd : RoundOk P rec) {an : An} {k j : Nat} {args : List DV} {d : DV} {m' : M} (h : roundF P an rec k Γ j args m = some (d, m')) {vs : List Value} (n : Nat) (st : St n0 PR Γ e reg m) (hres : NoRes reg)
    (hns : NoSlot reg) (hr : RDs e args vs) {l : Nat} (hl : e.la[j]? = some l) :
    ∃ x : Loop, e.w.heap[l]? = some (.loop x) ∧ vs.length = x.params.size ∧ RoundIn Fence.wide n P l x.fn ((x.params.zip ⟨vs⟩).foldl (fun tmps (t, a) => tmps.setIfInBounds t a) x.tmps) x.assign x.body e.w (Back n0 PR Γ e d m') := by
  unfold roundF at h
  split at h
  · cases h
  · rename_i x hx
    split at h
    · cases h
    · rename_i hcond
      have hc1 : args.length = x.params.size := by
        rcases Nat.decEq args.length x.params.size with hh | hh
        · exact absurd (.inl hh) hcond
        · exact hh
      have hc2 : m.pd[j]? = some .normal := Classical.byContradiction fun hh => hcond (.inr (.inl hh))
      have hc3 : ∀ t ∈ x.params.toList, t < x.nt := fun t ht => by
        have : (x.params.toList.all fun t => decide (t < x.nt)) = true := by
          cases hh : (x.params.toList.all fun t => decide (t < x.nt)) with
          | true => rfl
          | false => exact absurd (.inr (.inr (by rw [hh]; rfl))) hcond
        simpa using List.all_eq_true.1 this t ht
      have hmem := ctxOf_mem hx
      obtain ⟨l', rc, hl', hat⟩ := st.gi.at_ j x hmem
      rw [hl] at hl'; cases hl'
      have hstate := hat.state
      rw [hc2] at hstate
      obtain ⟨hready, hpend⟩ := hstate
      refine ⟨rc, hat.heap, by rw [hat.params, ← hr.length]; exact hc1, ?_⟩
      have hsub : ∀ k c, (k, c) ∈ without Γ j → (k, c) ∈ Γ ∧ k ≠ j := fun k c hm => by
        unfold without at hm
        rw [List.mem_filter] at hm
        exact ⟨hm.1, by simpa using hm.2⟩
      have hsup : ∀ k c, (k, c) ∈ Γ → k ≠ j → (k, c) ∈ without Γ j := fun k c hm hk => by
        unfold without
        rw [List.mem_filter]
        exact ⟨hm, by simpa using hk⟩
      have gsub : ∀ {e : E} {pd : List Ex}, GI n0 e Γ pd → GI n0 e (without Γ j) pd := fun g => ⟨g.gl, g.mp, fun k c hm => g.at_ k c (hsub k c hm).1, fun k k' c c' l h1 h2 => g.inj k k' c c' l (hsub k c h1).1 (hsub k' c' h2).1⟩
      have hnX : ¬ X (without Γ j) e.la l := fun ⟨k, c, hm, hk⟩ => (hsub k c hm).2 (st.gi.inj k j c x l (hsub k c hm).1 hmem hk hl)
      have st0 : St n0 PR (without Γ j) e reg m := ⟨st.st, st.la, st.lt, st.mi, gsub st.gi⟩
      have hzip : (rc.params.zip ⟨vs⟩).foldl (fun (tmps : Array Value) (t, a) => tmps.setIfInBounds t a) rc.tmps = (x.params.toList.zip vs).foldl (fun (tmps : Array Value) (t, a) => tmps.setIfInBounds t a) rc.tmps := by
        rw [hat.params, ← Array.foldl_toList, Array.toList_zip]
      obtain ⟨hps1, hps2⟩ := setPs_rd x.params.toList args vs x.fr rc.tmps x.nt hr (by simpa using hc1.symm) hc3 hat.nt (fun t s => (hat.rd t).weak (fun _ h => h.elim))
      have hf0 : Fr (some l) 0 x.nt (without Γ j) e reg (setPs x.fr (x.params.toList.zip args)) { tmps := (rc.params.zip ⟨vs⟩).foldl (fun (tmps : Array Value) (t, a) => tmps.setIfInBounds t a) rc.tmps, defers := [] } :=
        ⟨fun t => by rw [hzip]; exact hps1 t _, by rw [hzip]; exact hps2, ⟨[], rfl, List.nodup_nil, by simp⟩, fun l' hl' => by cases hl'; exact ⟨⟨rc, hat.heap⟩, hnX⟩⟩
      -- the assignment, the round, what it leaves
      have main : ∀ (s1 s2 : S) (ex : Ex), codeD P rec an x.f x.nt (without Γ j) k x.assign ⟨setPs x.fr (x.params.toList.zip args), m⟩ = some (.normal, s1) → codeD P rec an x.f x.nt (without Γ j) k x.body s1 = some (ex, s2) → d = .c (.sc (.bool (ex == .normal))) → m' = { s2.m with pd := s2.m.pd.set j ex } →
          RoundIn Fence.wide n P l rc.fn ((rc.params.zip ⟨vs⟩).foldl (fun tmps (t, a) => tmps.setIfInBounds t a) rc.tmps) rc.assign rc.body e.w (Back n0 PR Γ e d m') := by
        intro s1 s2 ex h1 h2 hd hm'
        refine roundIn_of_wpIn trivial ?_
        rw [hat.assign]
        refine code_sound hm hc hrd x.assign _ s1 .normal h1 n0 PR (some l) 0 e reg _ _ n st0 hres hf0 (Nat.zero_le _) fun a1 e1 reg1 st1 hres1 hf1 to1 => ?_
        have hl1 : e1.w.heap[l]? = some (.loop rc) := to1.obj (gsub st.gi) hat.heap rfl rfl hnX
        refine ⟨_, run_beginRound hl1 hready, ?_⟩
        let rb : Loop := { rc with state := .busy }
        let w2 := e1.w.putObj l (.loop rb)
        obtain ⟨mi2, x2⟩ := st1.mi.world (w' := w2) (la' := e1.la) (by simp [w2]) (fun a _ => putObj_cells hl1 rfl rfl a) (fun _ _ h => h)
        let e2 : E := { e1 with w := w2 }
        have ho2 : ∀ rr, rr ≠ l → w2.heap[rr]? = e1.w.heap[rr]? := fun rr hne => World.putObj_heap_other hne
        have hnX1 : ¬ X (without Γ j) e1.la l := fun hh => hnX (X.back (gsub st.gi) to1.ext hh)
        have hll : e1.la[j]? = some l := to1.ext.la _ _ hl
        have st2 : St n0 PR (without Γ j) e2 reg1 s1.m := ⟨st1.st, st1.la, fun l hl => by show n0 ≤ l ∧ l < w2.heap.size; have := st1.lt l hl; simpa [w2] using this, mi2, st1.gi.to x2 (SameK.of_eq rfl) (fun rr o hb ho => by show w2.heap[rr]? = _; rw [ho2 rr (fun hh => MB.not st1.gi hl1 rfl (hh ▸ hb))]; exact ho) fun l' rc' hX hr' => by
          show w2.heap[l']? = _
          rw [ho2 l' (fun hh => hnX1 (hh ▸ hX))]; exact hr'⟩
        have hl2 : w2.heap[l]? = some (.loop rb) := World.putObj_heap_same (Array.getElem?_eq_some_iff.1 hl1).1
        have hf2 : Fr (some l) 0 x.nt (without Γ j) e2 reg1 s1.fr a1 := by
          refine ⟨fun t => (hf1.rd t).mono x2 (fun _ h => h), hf1.nt, ?_, fun l' hl' => by cases hl'; exact ⟨⟨rb, hl2⟩, hnX1⟩⟩
          obtain ⟨rs, q1, q2, q3⟩ := hf1.df
          refine ⟨rs, q1, q2, fun b hb => ⟨(q3 b hb).1, ?_⟩⟩
          show w2.heap[b]? = _
          rw [ho2 b (fun hh => by have := (q3 b hb).2; rw [hh, hl1] at this; cases this)]
          exact (q3 b hb).2
        show rc.body.wpIn (fence (some l)) n P (roundPost P l (Back n0 PR Γ e d m')) a1 e2.w
        rw [hat.body]
        refine code_sound hm hc hrd x.body s1 s2 ex h2 n0 PR (some l) 0 e2 reg1 a1 _ n st2 hres1 hf2 (Nat.zero_le _) fun a3 e3 reg3 st3 hres3 hf3 to3 => ?_
        have hl3 : e3.w.heap[l]? = some (.loop rb) := to3.obj st2.gi hl2 rfl rfl hnX1
        have fin : ∀ jump : Option Code, StateOk { rb with state := if jump.isNone then .ready else .done, pending := jump } (some ex) → jump.isNone = (ex == .normal) → ∃ v w', (Instr.endRound l jump).run P e3.w = .ok v w' ∧ Back n0 PR Γ e d m' (.returned v) w' := by
          intro jump hsj hjn
          let r4 : Loop := { rb with state := if jump.isNone then .ready else .done, pending := jump }
          let w4 := e3.w.putObj l (.loop r4)
          refine ⟨_, _, run_endRound jump hl3, ?_⟩
          obtain ⟨mi4, x4⟩ := st3.mi.world (w' := w4) (la' := e3.la) (by simp [w4]) (fun a _ => putObj_cells hl3 rfl rfl a) (fun _ _ h => h)
          let e4 : E := { e3 with w := w4 }
          have ho4 : ∀ rr, rr ≠ l → w4.heap[rr]? = e3.w.heap[rr]? := fun rr hne => World.putObj_heap_other hne
          have hx : Ext e e4 := ((to1.ext.trans x2).trans to3.ext).trans x4
          have hl4 : w4.heap[l]? = some (.loop r4) := World.putObj_heap_same (Array.getElem?_eq_some_iff.1 hl3).1
          have hle : n0 ≤ l ∨ True := .inr trivial
          have hlt : l < e.w.heap.size := (Array.getElem?_eq_some_iff.1 hat.heap).1
          have hnl : ∀ rr, rr ≠ l → ¬ X Γ e.la rr → ¬ X (without Γ j) e.la rr := fun rr _ hn hX => by
            obtain ⟨k, c, hm, hk⟩ := hX
            exact hn ⟨k, c, (hsub k c hm).1, hk⟩
          have hXl : ∀ rr, X Γ e.la rr → rr ≠ l → X (without Γ j) e.la rr := fun rr hX hne => by
            obtain ⟨k, c, hm, hk⟩ := hX
            refine ⟨k, c, hsup k c hm (fun hh => ?_), hk⟩
            subst hh
            rw [hl] at hk; cases hk; exact hne rfl
          have to : To n0 PR Γ e e4 := by
            have k1 := to1.keep
            have k3 := to3.keep
            have hc2 : ∀ a : Addr, w2.cell? a = e1.w.cell? a ∧ w2.frozen? a = e1.w.frozen? a := fun a => putObj_cells hl1 rfl rfl a
            have hc4 : ∀ a : Addr, w4.cell? a = e3.w.cell? a ∧ w4.frozen? a = e3.w.frozen? a := fun a => putObj_cells hl3 rfl rfl a
            refine ⟨hx, ⟨k3.os.trans k1.os, k3.tape.trans k1.tape, k3.output.trans k1.output, ?_, fun rr hr => ?_, fun y hy => ?_, fun rr o hr hco hn => ?_⟩, fun rr hr => ?_, fun rr rc' hX hr => ?_⟩
            · have h1 := k1.size
              have h3 := k3.size
              show e.w.heap.size ≤ w4.heap.size
              have h2 : w2.heap.size = e1.w.heap.size := by simp [w2]
              have h4 : w4.heap.size = e3.w.heap.size := by simp [w4]
              have h3' : w2.heap.size ≤ e3.w.heap.size := h3
              omega
            · -- the record was laid behind n0, or nothing turns
              have hl0 : rr ≠ l := fun hh => by
                have := st.lt l (List.mem_of_getElem? hl)
                omega
              show w4.heap[rr]? = _
              rw [ho4 rr hl0, k3.old rr hr]
              show w2.heap[rr]? = _
              rw [ho2 rr hl0]
              exact k1.old rr hr
            · obtain ⟨p1, p2⟩ := k1.pr y hy
              obtain ⟨p3, p4⟩ := k3.pr y hy
              exact ⟨(hc4 y).1.trans (p3.trans ((hc2 y).1.trans p1)), (hc4 y).2.trans (p4.trans ((hc2 y).2.trans p2))⟩
            · have hne : rr ≠ l := fun hh => hn (.inl (hh ▸ ⟨j, x, hmem, hl⟩))
              have hlt : rr < e.w.heap.size := (Array.getElem?_eq_some_iff.1 hr).1
              show w4.heap[rr]? = _
              rw [ho4 rr hne]
              refine k3.obj rr o ?_ hco (fun hh => hh.elim (fun hh => hnl rr hne (fun h => hn (.inl h)) (X.back (gsub st.gi) to1.ext hh)) fun hb => (to1.maps rr hb).elim (fun hb => hn (.inr hb)) fun hle => by omega)
              show w2.heap[rr]? = _
              rw [ho2 rr hne]
              exact k1.obj rr o hr hco (fun hh => hh.elim (hnl rr hne fun h => hn (.inl h)) fun hb => hn (.inr hb))
            · have h2 : w2.heap.size = e1.w.heap.size := by simp [w2]
              rcases to3.maps rr hr with hb | hle
              · exact to1.maps rr hb
              · have hle : w2.heap.size ≤ rr := hle
                exact .inr (by have := k1.size; omega)
            · by_cases hrl : rr = l
              · subst hrl
                rw [hat.heap] at hr; cases hr
                exact ⟨r4, hl4, rfl⟩
              · have hX' := hXl rr hX hrl
                obtain ⟨ra, q1, q2⟩ := to1.loops rr rc' hX' hr
                obtain ⟨k, c, hm, hk⟩ := hX'
                obtain ⟨rb', q3, q4⟩ := to3.loops rr ra ⟨k, c, hm, to1.ext.la _ _ hk⟩ (by show w2.heap[rr]? = _; rw [ho2 rr hrl]; exact q1)
                exact ⟨rb', by show w4.heap[rr]? = _; rw [ho4 rr hrl]; exact q3, q4.trans q2⟩
          have hjl : j < s2.m.pd.length := by
            rw [← st3.la]
            exact (List.getElem?_eq_some_iff.1 (((to1.ext.trans x2).trans to3.ext).la _ _ hl)).1
          have g4 : GI n0 e4 Γ (s2.m.pd.set j ex) := by
            refine ⟨st.gi.gl.to hx, st3.gi.mp.to x4 (SameK.of_eq rfl) (fun rr o hb ho => by show w4.heap[rr]? = _; rw [ho4 rr (fun hh => MB.not st3.gi hl3 rfl (hh ▸ hb))]; exact ho), fun k c hm => ?_, fun k k' c c' lx hm hm' hk hk' => ?_⟩
            · by_cases hkj : k = j
              · subst hkj
                obtain ⟨l0, r0, h0, hat0⟩ := st.gi.at_ k c hm
                rw [hl] at h0; cases h0
                have : r0 = rc := by have := hat0.heap; rw [hat.heap] at this; cases this; rfl
                subst this
                refine ⟨l, r4, hx.la _ _ hl, hl4, hat0.params, hat0.assign, hat0.body, hat0.nt, fun t => (hat0.rd t).mono hx (fun _ h => h), ?_⟩
                rw [List.getElem?_set_self hjl]; exact hsj
              · obtain ⟨l0, r0, h0, hat0⟩ := st3.gi.at_ k c (hsup k c hm hkj)
                have hne : l0 ≠ l := fun hh => by
                  subst hh
                  obtain ⟨l1, _, h1, _⟩ := st.gi.at_ k c hm
                  have h1' := ((to1.ext.trans x2).trans to3.ext).la _ _ h1
                  rw [h0] at h1'; cases h1'
                  exact hkj (st.gi.inj k j c x l0 hm hmem h1 hl)
                refine ⟨l0, r0, h0, by show w4.heap[l0]? = _; rw [ho4 l0 hne]; exact hat0.heap, hat0.params, hat0.assign, hat0.body, hat0.nt, fun t => (hat0.rd t).mono x4 (fun _ h => h), ?_⟩
                rw [List.getElem?_set_ne (Ne.symm hkj)]; exact hat0.state
            · obtain ⟨l1, _, h1, _⟩ := st.gi.at_ k c hm
              obtain ⟨l2, _, h2, _⟩ := st.gi.at_ k' c' hm'
              have e1' := hx.la _ _ h1
              have e2' := hx.la _ _ h2
              rw [hk] at e1'; rw [hk'] at e2'
              cases e1'; cases e2'
              exact st.gi.inj k k' c c' lx hm hm' h1 h2
          refine ⟨e4, outReg reg3 none, rfl, ⟨?_, ?_, fun l hl => ?_, mi4.outReg none, ?_⟩, noSlot_outReg _, to, ?_⟩
          · rw [hm']; exact st3.st
          · rw [hm']; simp only [List.length_set]; exact st3.la
          · show n0 ≤ l ∧ l < w4.heap.size
            have := st3.lt l hl
            simpa [w4] using this
          · rw [hm']; exact g4
          · rw [hd, hjn]; exact .c (.sc rfl)
        cases ex with
        | normal => exact fin none ⟨rfl, rfl⟩ rfl
        | ret => exact fin (some .ret) ⟨rfl, rfl⟩ rfl
        | exit id => exact fin (some (.exit id)) ⟨rfl, rfl⟩ rfl
      split at h
      · rename_i s1 h1
        split at h
        · rename_i s2 h2
          cases h
          exact main s1 s2 .normal h1 h2 rfl rfl
        · rename_i ex s2 hne h2
          cases h
          have : (ex == .normal) = false := by
            cases ex with
            | normal => exact absurd rfl hne
            | _ => rfl
          exact main s1 s2 ex h1 h2 (by rw [this]) rfl
        · cases h
      · cases h

/-- **The interpreter is sound.** -/
theorem evN_sound (hm : P.follows .mixedOrders = true) (an : An) {pr : Prims} (hp : ∀ f p, pr f = some p → PrimOk P f p) : ∀ k, CallOk P (evN P an pr k) ∧ RoundOk P (evN P an pr k)
  | 0 => ⟨⟨fun Γ f args m d m' h => by simp [evN] at h, fun f p h => hp f p h⟩, fun Γ j args m d m' h => by simp [evN] at h⟩
  | k + 1 => by
    obtain ⟨hc, hrd⟩ := evN_sound hm an hp k
    refine ⟨⟨fun Γ f args m d m' h n0 PR e reg vs n st hres hns hr => ?_, fun f p h => hp f p h⟩, fun Γ j args m d m' h n0 PR e reg vs n st hres hns hr l hl => ?_⟩
    · exact call_sound hm hc hrd h n st hres hns hr
    · exact round_sound hm hc hrd h n st hres hns hr hl
end
end Go.Abs
