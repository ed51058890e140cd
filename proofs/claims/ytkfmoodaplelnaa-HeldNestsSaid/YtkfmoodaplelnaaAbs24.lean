/-
  Part of the proof: printed by the session's own program out of the program's form, or typed; it states no claim by itself.
-/
import Derived.Test.YtkfmoodaplelnaaAbs22
import Derived.ProofKit
/-
  Abs24: code, whole.
-/
set_option linter.unusedVariables false
set_option linter.unusedSimpArgs false
set_option linter.unusedSectionVars false
namespace Go.Abs
open Go
variable [Fl]
variable [Gl]

section
variable {P : Program} {n0 : Nat} {PR : Addr → Prop} {Γ : List (Nat × Ctx)} {e e' : E} {reg reg' : Own → Addr → Prop} {m : M} {r : Option Nat} {k0 nt : Nat} {fr : Nat → DV} {a : Act} {rec : Rec}

theorem alloc_other {w : World} {o : Obj} (a : Addr) (h : a.block < w.heap.size) : (w.alloc o).cell? a = w.cell? a ∧ (w.alloc o).frozen? a = w.frozen? a :=
  ⟨World.cell?_alloc_lt _ _ _ h, World.frozen?_alloc_old _ _ _ (by omega)⟩

/-- The loop's record is laid. -/
theorem enterLoop_ok (hf : Fr r k0 nt Γ e reg fr a) (fn : FuncId) (ps : Array Tmp) (as body : Code) (P : Program) :
    ∃ (l : Nat) (mark : List Nat) (w1 : World) (rc : Loop), (Instr.enterLoop fn a.tmps ps as body r).run P e.w = .ok (l, mark.map Abs.mark) w1 ∧ w1.heap[l]? = some (.loop rc) ∧ rc.params = ps ∧ rc.assign = as ∧ rc.body = body ∧ rc.tmps = a.tmps ∧ rc.state = .ready ∧ rc.pending = none ∧
      e.w.heap.size ≤ l ∧ (∀ b ∈ mark, e.w.heap.size ≤ b ∧ b < l ∧ w1.heap[b]? = some (.deferred (some []))) ∧ mark.Nodup ∧ w1.heap.size = l + 1 ∧ w1.os = e.w.os ∧ w1.tape = e.w.tape ∧ w1.output = e.w.output ∧ w1.drawn = e.w.drawn ∧ (∀ i, i < e.w.heap.size → w1.heap[i]? = e.w.heap[i]?) := by
  cases hr : r with
  | none =>
    refine ⟨e.w.heap.size + 1, [e.w.heap.size], _, { state := .ready, pending := none, fn, tmps := a.tmps, params := ps, assign := as, body, defers := e.w.heap.size }, run_enterLoop_outer fn a.tmps ps as body, ?_, rfl, rfl, rfl, rfl, rfl, rfl, by omega, ?_, by simp, by simp, rfl, rfl, rfl, rfl, ?_⟩
    · have := World.alloc_heap_new (e.w.alloc (.deferred (some []))) (.loop { state := .ready, pending := none, fn, tmps := a.tmps, params := ps, assign := as, body, defers := e.w.heap.size })
      rw [World.size_alloc] at this
      exact this
    · intro b hb
      have : b = e.w.heap.size := by simpa using hb
      subst this
      refine ⟨Nat.le_refl _, by omega, ?_⟩
      rw [heap_alloc _ _ _ (by simp)]
      exact World.alloc_heap_new _ _
    · intro i hi
      rw [heap_alloc _ _ _ (by simp; omega), heap_alloc _ _ _ hi]
  | some l0 =>
    obtain ⟨⟨x, hx⟩, _⟩ := hf.ro l0 hr
    refine ⟨e.w.heap.size, [], _, { state := .ready, pending := none, fn, tmps := a.tmps, params := ps, assign := as, body, defers := x.defers }, run_enterLoop_inner hx fn a.tmps ps as body, World.alloc_heap_new _ _, rfl, rfl, rfl, rfl, rfl, rfl, Nat.le_refl _, by simp, by simp, by simp, rfl, rfl, rfl, rfl, fun i hi => heap_alloc _ _ _ hi⟩

theorem cells_of_heap {w w' : World} (h : ∀ i, i < w.heap.size → w'.heap[i]? = w.heap[i]?) (a : Addr) (ha : a.block < w.heap.size) : w'.cell? a = w.cell? a ∧ w'.frozen? a = w.frozen? a :=
  ⟨World.cell?_of_block (h _ ha), World.frozen?_of_block (h _ ha)⟩
theorem keep_of_heap {w w' : World} (h1 : w'.os = w.os) (h2 : w'.tape = w.tape) (h3 : w'.output = w.output) (h5 : w'.drawn = w.drawn) (h4 : w.heap.size ≤ w'.heap.size) (h : ∀ i, i < w.heap.size → w'.heap[i]? = w.heap[i]?) (hn : n0 ≤ w.heap.size) (hp : ∀ a, PR a → a.block < w.heap.size) :
    Keep n0 PR (fun _ => False) w w' :=
  ⟨h1, h2, h3, h4, fun r hr => h r (by omega), fun a ha => cells_of_heap h a (hp a ha), fun r o hr _ _ => by rw [h r (Array.getElem?_eq_some_iff.1 hr).1]; exact hr, fun _ => Nat.le_of_eq h5.symm⟩

theorem invoke_func {f : FuncId} {us vs : List Value} {y : Value} (he : enters P f = true) (w : World) : (invoke (.fn (.func f) ⟨vs⟩) (⟨us⟩ ++ #[y])).run P w = .ok (.enter f ⟨us ++ [y] ++ vs⟩) w := by
  unfold enters at he
  split at he
  · rename_i fn hfn
    simp only [Bool.and_eq_true, Bool.not_eq_true'] at he
    have h1 : ¬ (fn.name = "runtime.NumGoroutine") := by simpa using he.1
    have h2 : ¬ (fn.body = none) := fun hh => by simp [hh] at he
    simp [invoke, callFunc, hfn, h1, h2]
  · cases he

theorem range_sound (hc : CallOk P rec) {an : An} {f k : Nat} {g : Operand} {ps : Array Tmp} {as body : Code} : CodeOk P rec an f nt Γ k (.rangeFunc g ps as body) := by
  intro s s' ex h n0 PR r k0 e reg a Q n st hres hf hk0 hK
  simp only [codeD] at h
  split at h
  · rename_i hid xs ys hg
    split at h
    · cases h
    · rename_i hent
      have hent' : enters P hid = true := by simpa using hent
      split at h
      · rename_i dv m1 hrec
        split at h
        · rename_i ex' hex
          -- what stands behind the call, trimmed or not
          have htrim : ∃ ex2, ex = ex2 ∧ m1.pd[s.m.pd.length]? = some ex2 ∧ s'.fr = s.fr ∧ ((s'.m = m1) ∨ trimM s.m.st.length (.tup []) m1 = some s'.m) := by
            split at h
            · rw [Option.map_eq_some_iff] at h
              obtain ⟨m2, htr, hh⟩ := h
              cases hh
              exact ⟨ex, rfl, hex, rfl, .inr htr⟩
            · cases h
              exact ⟨ex, rfl, hex, rfl, .inl rfl⟩
          obtain ⟨_, rfl, hex, hfr, htrim⟩ := htrim
          have hgr := ev_rd (tm := a.tmps) (df := a.defers) (s := fun _ => False) hf.rd g
          rw [hg] at hgr
          generalize hag : (⟨a.tmps, a.defers⟩ : Act).eval g = ag at hgr
          have hag' : a.eval g = ag := hag
          cases hgr with
          | fn h1 h2 =>
            rename_i us vs
            refine wpIn_rangeFunc fun fn _ => ?_
            obtain ⟨l, mk, w1, rc, hen, hl, hps, has, hbody, htm, hst, hpe, hle, hmk, hnd, hsz, ho1, ho2, ho3, ho5, hheap⟩ := enterLoop_ok hf fn ps as body P
            refine ⟨l, mk.map mark, w1, { target := .fn (.func hid) ⟨vs⟩, args := ⟨us⟩ ++ #[.func (.yield l) #[] #[]] }, w1, hid, ⟨us ++ [.func (.yield l) #[] #[]] ++ vs⟩, w1, hen, ?_, fun _ _ => trivial, invoke_func hent' w1, fun hh => by simp [Fence.wide] at hh, ?_⟩
            · have hm1 : (#[Operand.const (.func (.yield l) #[] #[])] : Array Operand).map a.eval = #[.func (.yield l) #[] #[]] := by simp [Act.eval]
              simp only [resolve, hag', Deferred.ofValue, Sem.run_pure, hm1]
            · -- the state behind the entry
              have keep1 : Keep n0 PR (fun _ => False) e.w w1 := keep_of_heap ho1 ho2 ho3 ho5 (by omega) hheap st.mi.n0le st.mi.prlt
              have hla1 : ∀ (k l' : Nat), e.la[k]? = some l' → (e.la ++ [l])[k]? = some l' := fun k l' hh => by rw [List.getElem?_append_left (List.getElem?_eq_some_iff.1 hh).1]; exact hh
              obtain ⟨mi1, x1⟩ := st.mi.world (w' := w1) (la' := e.la ++ [l]) (by omega) (fun a ha => cells_of_heap hheap a ha) hla1
              let e1 : E := { e with w := w1, la := e.la ++ [l] }
              let cx : Ctx := { f, nt, fr := fun t => unflag (s.fr t), params := ps, assign := as, body }
              have hlp : (e.la ++ [l])[s.m.pd.length]? = some l := by rw [← st.la]; simp
              have hlt0 : ∀ k x, (k, x) ∈ Γ → k < s.m.pd.length := fun k x hm => by
                obtain ⟨l0, _, hl0, _⟩ := st.gi.at_ k x hm
                rw [← st.la]; exact (List.getElem?_eq_some_iff.1 hl0).1
              have g0 : GI n0 e1 Γ s.m.pd := st.gi.keep x1 keep1 (SameK.of_eq rfl)
              have g1 : GI n0 e1 ((s.m.pd.length, cx) :: Γ) (s.m.pd ++ [.normal]) := by
                refine ⟨g0.gl, g0.mp, fun k x hm => ?_, fun k k' x x' l' hm hm' hl1 hl2 => ?_⟩
                · rcases List.mem_cons.1 hm with hm | hm
                  · cases hm
                    refine ⟨l, rc, hlp, hl, hps, has, hbody, by rw [htm]; exact hf.nt, fun t => ?_, ?_⟩
                    · rw [htm]
                      exact ((hf.rd t).mono x1 (fun _ h => h)).unflag
                    · simp only [List.getElem?_append_right (Nat.le_refl _), Nat.sub_self, List.getElem?_cons_zero]
                      exact ⟨hst, hpe⟩
                  · obtain ⟨l0, r0, h0, hat⟩ := g0.at_ k x hm
                    refine ⟨l0, r0, h0, hat.heap, hat.params, hat.assign, hat.body, hat.nt, hat.rd, ?_⟩
                    rw [List.getElem?_append_left (hlt0 k x hm)]; exact hat.state
                · have low : ∀ k x, (k, x) ∈ Γ → (e.la ++ [l])[k]? ≠ some l := fun k x hm hh => by
                    obtain ⟨l0, _, h0, _⟩ := st.gi.at_ k x hm
                    have h0' := hla1 _ _ h0
                    rw [hh] at h0'; cases h0'
                    have := st.lt l (List.mem_of_getElem? h0)
                    omega
                  rcases List.mem_cons.1 hm with hm | hm <;> rcases List.mem_cons.1 hm' with hm' | hm'
                  · cases hm; cases hm'; rfl
                  · cases hm
                    have hl1 : (e.la ++ [l])[s.m.pd.length]? = some l' := hl1
                    rw [hlp] at hl1; cases hl1
                    exact absurd hl2 (low k' x' hm')
                  · cases hm'
                    have hl2 : (e.la ++ [l])[s.m.pd.length]? = some l' := hl2
                    rw [hlp] at hl2; cases hl2
                    exact absurd hl1 (low k x hm)
                  · exact g0.inj k k' x x' l' hm hm' hl1 hl2
              have st1 : St n0 PR ((s.m.pd.length, cx) :: Γ) e1 reg { s.m with pd := s.m.pd ++ [.normal] } := by
                refine ⟨st.st, by simp [e1, st.la], fun l' hl' => ?_, mi1, g1⟩
                show n0 ≤ l' ∧ l' < w1.heap.size
                have hn0 := st.mi.n0le
                rcases List.mem_append.1 hl' with hh | hh
                · have := st.lt l' hh; omega
                · simp at hh; omega
              obtain ⟨sh, hr0, hs0, hback⟩ := st1.hide hres
              have hargs : RDs e1 (xs ++ [.yl s.m.pd.length] ++ ys) (us ++ [.func (.yield l) #[] #[]] ++ vs) :=
                ((h1.mono x1).append (.cons (.yl hlp) .nil)).append (h2.mono x1)
              have hcall := hc.call _ _ _ _ _ _ hrec n0 _ e1 _ _ (n - 1) sh hr0 hs0 hargs
              refine CallsIn.fence r (CallsIn.mono hcall fun en w' hb => ?_)
              obtain ⟨v, e2, reg2, rfl, rfl, st2, to2, _, hsl⟩ := hback _ _ _ _ hb
              obtain ⟨l', r2, hl', hat2⟩ := st2.gi.at_ s.m.pd.length cx (by simp)
              have : l' = l := by have := to2.ext.la _ _ hlp; rw [hl'] at this; cases this; rfl
              subst this
              have hstate := hat2.state
              rw [hex] at hstate
              have hnb : r2.state ≠ .busy := by
                cases ex with
                | normal => obtain ⟨h1, _⟩ := hstate; rw [h1]; simp
                | exit id => obtain ⟨h1, _⟩ := hstate; rw [h1]; simp
                | ret => obtain ⟨h1, _⟩ := hstate; rw [h1]; simp
              have hend := run_endLoop (P := P) hat2.heap hnb
              -- the state behind the statement
              let w4 := e2.w.putObj l' (.loop { r2 with state := .exhausted })
              obtain ⟨mi3, x3⟩ := st2.mi.world (w' := w4) (la' := e2.la) (by simp [w4]) (fun a _ => putObj_cells hat2.heap rfl rfl a) (fun _ _ h => h)
              let e3 : E := { e2 with w := w4 }
              have hx03 : Ext e e3 := (x1.trans to2.ext).trans x3
              have hXne : ∀ rr, X Γ e.la rr → rr < e.w.heap.size := fun rr hX => by
                obtain ⟨k, x, hm, hh⟩ := hX
                exact (st.lt rr (List.mem_of_getElem? hh)).2
              have hXup : ∀ rr, rr < e.w.heap.size → ¬ X Γ e.la rr → ¬ X ((s.m.pd.length, cx) :: Γ) e1.la rr := fun rr hlt hn hX => by
                obtain ⟨k, x, hm, hh⟩ := hX
                rcases List.mem_cons.1 hm with hm | hm
                · cases hm
                  have hh : (e.la ++ [l'])[s.m.pd.length]? = some rr := hh
                  rw [hlp] at hh; cases hh
                  omega
                · obtain ⟨l0, _, h0, _⟩ := st.gi.at_ k x hm
                  have h0' := hla1 _ _ h0
                  have hh : (e.la ++ [l'])[k]? = some rr := hh
                  rw [hh] at h0'; cases h0'
                  exact hn ⟨k, x, hm, h0⟩
              have hput : ∀ rr, rr ≠ l' → w4.heap[rr]? = e2.w.heap[rr]? := fun rr hne => World.putObj_heap_other hne
              have keep3 : Keep n0 PR (fun r => X Γ e.la r ∨ MB e r) e.w w4 := by
                have k2 := to2.keep
                have kp : Keep n0 PR (fun rr => rr = l') e2.w w4 := putObj_keep hat2.heap rfl rfl (by have := st.mi.n0le; omega)
                refine ⟨kp.os.trans (k2.os.trans keep1.os), kp.tape.trans (k2.tape.trans keep1.tape), kp.output.trans (k2.output.trans keep1.output), Nat.le_trans keep1.size (Nat.le_trans k2.size kp.size), fun rr hr => (kp.old rr hr).trans ((k2.old rr hr).trans (keep1.old rr hr)),
                  fun x hx => ⟨(kp.pr x hx).1.trans ((k2.pr x hx).1.trans (keep1.pr x hx).1), (kp.pr x hx).2.trans ((k2.pr x hx).2.trans (keep1.pr x hx).2)⟩, fun rr o hr hc' hn => ?_, fun hd => Nat.le_trans (keep1.dr hd) (Nat.le_trans (k2.dr hd) (kp.dr hd))⟩
                have hlt : rr < e.w.heap.size := (Array.getElem?_eq_some_iff.1 hr).1
                rw [hput rr (by omega)]
                exact k2.obj rr o (keep1.obj rr o hr hc' (fun h => h)) hc' (fun hh => hh.elim (hXup rr hlt fun h => hn (.inl h)) fun hb => hn (.inr hb))
              have to3 : To n0 PR Γ e e3 := by
                refine ⟨hx03, keep3, fun rr hr => (to2.maps rr hr).imp (fun h => h) (fun h => Nat.le_trans keep1.size h), fun rr x hX hh => ?_⟩
                have hlt := hXne rr hX
                obtain ⟨r', h1', h2'⟩ := to2.loops rr x (by
                  obtain ⟨k, c, hm, hk⟩ := hX
                  exact ⟨k, c, by simp [hm], hla1 _ _ hk⟩) (keep1.obj rr _ hh rfl (fun h => h))
                exact ⟨r', by show w4.heap[rr]? = _; rw [hput rr (by omega)]; exact h1', h2'⟩
              have g3 : GI n0 e3 Γ m1.pd := by
                refine ⟨st.gi.gl.to hx03, st2.gi.mp.to x3 (SameK.of_eq rfl) (fun rr o hb ho => by
                  show w4.heap[rr]? = _
                  rw [hput rr (fun hh => MB.not st2.gi hat2.heap rfl (hh ▸ hb))]; exact ho), fun k x hm => ?_, fun k k' x x' lx hm hm' => st2.gi.inj k k' x x' lx (by simp [hm]) (by simp [hm'])⟩
                obtain ⟨lk, rk, hlk, hat⟩ := st2.gi.at_ k x (by simp [hm])
                have hne : lk ≠ l' := fun hh => by
                  subst hh
                  have := st2.gi.inj k s.m.pd.length x cx lk (by simp [hm]) (by simp) hlk hl'
                  have := hlt0 k x hm
                  omega
                exact ⟨lk, rk, hlk, by show w4.heap[lk]? = _; rw [hput lk hne]; exact hat.heap, hat.params, hat.assign, hat.body, hat.nt, fun t => (hat.rd t).mono x3 (fun _ h => h), hat.state⟩
              have st3 : St n0 PR Γ e3 (slotRes reg2 none) m1 := ⟨st2.st, st2.la, fun l hl => by show n0 ≤ l ∧ l < w4.heap.size; have := st2.lt l hl; simpa [w4] using this, mi3.slotRes none, g3⟩
              have hf3 : Fr r k0 nt Γ e3 (slotRes reg2 none) s.fr { a with defers := mk.map mark ++ a.defers } := by
                refine ⟨fun t => (hf.rd t).mono hx03 fun x hx => ?_, hf.nt, ?_, hf.ro_to st.gi to3⟩
                · simp only [slotRes]
                  split
                  · rename_i hh; cases hh
                  · exact hsl t x hx
                · obtain ⟨rs, h1, h2, h3⟩ := hf.df_to st.gi to3
                  refine ⟨mk ++ rs, by simp [h1], List.nodup_append.2 ⟨hnd, h2, fun x hx y hy hxy => ?_⟩, fun b hb => ?_⟩
                  · subst hxy
                    obtain ⟨rs0, h1', _, h3'⟩ := hf.df
                    have hmk := (hmk x hx).1
                    have : mark x ∈ a.defers := by rw [h1]; exact List.mem_map.2 ⟨x, hy, rfl⟩
                    rw [h1'] at this
                    obtain ⟨x', hx', hxx⟩ := List.mem_map.1 this
                    have hxx' : x' = x := by simp [mark] at hxx; exact hxx
                    subst hxx'
                    have := (Array.getElem?_eq_some_iff.1 (h3' x' hx').2).1
                    omega
                  · rcases List.mem_append.1 hb with hb | hb
                    · obtain ⟨q1, q2, q3⟩ := hmk b hb
                      refine ⟨by omega, ?_⟩
                      show w4.heap[b]? = _
                      rw [hput b (by omega)]
                      refine to2.obj g1 q3 rfl rfl fun hX => ?_
                      obtain ⟨lx, hlx⟩ := X.loop g1 hX
                      have hlx : w1.heap[b]? = some (.loop lx) := hlx
                      rw [q3] at hlx; cases hlx
                    · exact h3 b hb
              have hQ : Q (exitOf ex) { a with defers := mk.map mark ++ a.defers } w4 := by
                rcases htrim with htrim | htrim
                · exact hK _ e3 _ (by rw [htrim]; exact st3) (noRes_slotRes _ _) (by rw [hfr]; exact hf3) to3
                · obtain ⟨e4, hw4, st4, to4, _⟩ := trim_sound htrim st3 st.gi (by rw [st.st]; exact Nat.le_refl _) to3 (RD.tup (s := fun _ => False) .nil)
                  have := hK { a with defers := mk.map mark ++ a.defers } e4 _ st4 (noRes_slotRes _ _) (by
                    rw [hfr]
                    refine ⟨fun t => (hf.rd t).mono to4.ext fun x hx => ?_, hf3.nt, by rw [hw4]; exact hf3.df, hf.ro_to st.gi to4⟩
                    simp only [slotRes]
                    split
                    · rename_i hh; cases hh
                    · exact hsl t x hx) to4
                  rw [hw4] at this
                  exact this
              refine ⟨r2.pending, w4, hend, ?_⟩
              cases ex with
              | normal =>
                obtain ⟨_, hp⟩ := hstate
                rw [hp]; exact hQ
              | exit id =>
                obtain ⟨_, hp⟩ := hstate
                rw [hp]; exact wpIn_exit hQ
              | ret =>
                obtain ⟨_, hp⟩ := hstate
                rw [hp]; exact wpIn_ret hQ
        · cases h
      · cases h
  · cases h

theorem stepR_scope {P : Program} {b : Frame} {a : Act} {k : List Item} {cs : List Frame} {w : World} {c : Code} : step P (lone (b.atR a (.code (.scope c) :: k)) cs w) = .next (lone (b.atR a (.code c :: .inScope c :: k)) cs w) :=
  step_lone_go (by simp [stepG, stepG.exec, Frame.atR])
theorem stepR_inScope {P : Program} {b : Frame} {a : Act} {k : List Item} {cs : List Frame} {w : World} {c : Code} : step P (lone (b.atR a (.inScope c :: k)) cs w) = .next (lone (b.atR a k) cs w) :=
  step_lone_go (by simp [stepG, stepG.exec, Frame.atR])
/-- Without a goto. -/
theorem wpIn_scope {F : Fence} {n : Nat} {P : Program} {Q : Exit → Act → World → Prop} {a : Act} {w : World} {c : Code} (h : c.wpIn F n P (fun e a w => match e with | .goto _ => False | e => Q e a w) a w) : (Code.scope c).wpIn F n P Q a w := by
  intro b k cs hro hb hr
  have h0 : (lone (b.atR a (.code (.scope c) :: k)) cs w).fenced P F := fenced_calm hb hr rfl
  obtain ⟨e, a₁, w₁, hq, harr⟩ := h b (.inScope c :: k) cs hro hb hr
  cases e with
  | normal => exact ⟨.normal, a₁, w₁, hq, .head h0 stepR_scope (StepsIn.trans harr (.one (fenced_calm hb hr rfl) stepR_inScope))⟩
  | exit id =>
    have hx : exitTo id (.inScope c :: k) = exitTo id k := by simp [exitTo]
    exact ⟨.exit id, a₁, w₁, hq, fun k' hk => .head h0 stepR_scope (harr.1 k' (by rw [hx]; exact hk)),
      fun hr' hk => let ⟨k₁, h1, h2⟩ := harr.2 hr' (by rw [hx]; exact hk); ⟨k₁, h1, .head h0 stepR_scope h2⟩⟩
  | goto l => exact hq.elim
  | ret => exact ⟨_, a₁, w₁, hq, .of_steps (.one h0 stepR_scope) harr⟩
  | panic ch => exact ⟨_, a₁, w₁, hq, .of_steps (.one h0 stepR_scope) harr⟩
  | outgrown => exact ⟨_, a₁, w₁, hq, .of_steps (.one h0 stepR_scope) harr⟩
theorem code_sound (hm : P.follows .mixedOrders = true) (hc : CallOk P rec) (hrd : RoundOk P rec) {an : An} {f k : Nat} : ∀ c : Code, CodeOk P rec an f nt Γ k c
  | .skip => by
    intro s s' ex h n0 PR r k0 e reg a Q n st hres hf hk0 hK
    simp only [codeD] at h; cases h
    exact wpIn_skip (hK a e reg st hres hf (To.refl ..))
  | .region rid ops draw => by
    intro s s' ex h n0 PR r k0 e reg a Q n st hres hf hk0 hK
    simp only [codeD] at h
    rw [Option.map_eq_some_iff] at h
    obtain ⟨s1, hs, hh⟩ := h
    cases hh
    exact region_sound hm hc hrd hs st hres hf hK n
  | .seq x y => by
    intro s s' ex h n0 PR r k0 e reg a Q n st hres hf hk0 hK
    have ihx := code_sound hm hc hrd (an := an) (f := f) (k := k) x
    have ihy := code_sound hm hc hrd (an := an) (f := f) (k := k) y
    simp only [codeD] at h
    refine wpIn_seq ?_
    split at h
    · rename_i s1 hs1
      refine ihx s s1 .normal hs1 n0 PR r k0 e reg a _ n st hres hf hk0 fun a' e1 reg1 st1 hres1 hf1 to1 => ?_
      exact ihy s1 s' ex h n0 PR r k0 e1 reg1 a' Q n st1 hres1 hf1 (Nat.le_trans hk0 to1.size) fun a2 e2 reg2 st2 hres2 hf2 to2 => hK a2 e2 reg2 st2 hres2 hf2 (to1.trans st.gi to2)
    · rename_i hne
      cases ex with
      | normal => exact absurd h (hne s')
      | _ => exact ihx s s' _ h n0 PR r k0 e reg a _ n st hres hf hk0 fun a' e1 reg1 st1 hres1 hf1 to1 => hK a' e1 reg1 st1 hres1 hf1 to1
  | .cond x y z => by
    intro s s' ex h n0 PR r k0 e reg a Q n st hres hf hk0 hK
    have ihy := code_sound hm hc hrd (an := an) (f := f) (k := k) y
    have ihz := code_sound hm hc hrd (an := an) (f := f) (k := k) z
    simp only [codeD] at h
    have hx := ev_rd (tm := a.tmps) (df := a.defers) (s := fun _ => False) hf.rd x
    split at h
    · rename_i hv
      rw [hv] at hx
      generalize hax : (⟨a.tmps, a.defers⟩ : Act).eval x = ax at hx
      cases hx with
      | c hx =>
        cases hx
        exact wpIn_cond_true hax (ihy s s' ex h n0 PR r k0 e reg a Q n st hres hf hk0 hK)
    · rename_i hv
      rw [hv] at hx
      generalize hax : (⟨a.tmps, a.defers⟩ : Act).eval x = ax at hx
      cases hx with
      | c hx =>
        cases hx
        exact wpIn_cond_false hax (ihz s s' ex h n0 PR r k0 e reg a Q n st hres hf hk0 hK)
    · cases h
  | .block id x => by
    intro s s' ex h n0 PR r k0 e reg a Q n st hres hf hk0 hK
    have ihx := code_sound hm hc hrd (an := an) (f := f) (k := k) x
    simp only [codeD] at h
    refine wpIn_block ?_
    split at h
    · rename_i id' s1 hs1
      cases h
      refine ihx s _ (.exit id') hs1 n0 PR r k0 e reg a _ n st hres hf hk0 fun a' e1 reg1 st1 hres1 hf1 to1 => ?_
      have hQ := hK a' e1 reg1 st1 hres1 hf1 to1
      show (if id' = id then Q .normal a' e1.w else Q (.exit id') a' e1.w)
      split
      · rename_i hh; rw [if_pos hh] at hQ; exact hQ
      · rename_i hh; rw [if_neg hh] at hQ; exact hQ
    · rename_i hne
      cases ex with
      | exit id' => exact absurd h (hne id' s')
      | _ => exact ihx s s' _ h n0 PR r k0 e reg a _ n st hres hf hk0 fun a' e1 reg1 st1 hres1 hf1 to1 => hK a' e1 reg1 st1 hres1 hf1 to1
  | .loop x => by
    intro s s' ex h n0 PR r k0 e reg a Q n st hres hf hk0 hK
    have ihx := code_sound hm hc hrd (an := an) (f := f) (k := k) x
    simp only [codeD] at h
    exact wpIn_loop_rounds k (loop_sound ihx st.gi (by rw [st.st]; exact Nat.le_refl _) hK n k s a e reg h st hres hf hk0 (To.refl ..))
  | .exit id => by
    intro s s' ex h n0 PR r k0 e reg a Q n st hres hf hk0 hK
    simp only [codeD] at h; cases h
    exact wpIn_exit (hK a e reg st hres hf (To.refl ..))
  | .ret => by
    intro s s' ex h n0 PR r k0 e reg a Q n st hres hf hk0 hK
    simp only [codeD] at h; cases h
    exact wpIn_ret (hK a e reg st hres hf (To.refl ..))
  | .rangeFunc g ps as body => range_sound hc
  | .scope x => by
    intro s s' ex h n0 PR r k0 e reg a Q n st hres hf hk0 hK
    have ihx := code_sound hm hc hrd (an := an) (f := f) (k := k) x
    simp only [codeD] at h
    refine wpIn_scope (ihx s s' ex h n0 PR r k0 e reg a _ n st hres hf hk0 fun a' e' reg' st' hres' hf' to => ?_)
    have := hK a' e' reg' st' hres' hf' to
    cases ex <;> exact this
  | .label l => by
    intro s s' ex h n0 PR r k0 e reg a Q n st hres hf hk0 hK
    simp only [codeD] at h; cases h
    exact wpIn_label (hK a e reg st hres hf (To.refl ..))
  | .goto l => by intro s s' ex h; simp [codeD] at h
  | .refuse l => by intro s s' ex h; simp [codeD] at h
end
end Go.Abs

/-
  Abs25: functions; the interpreter is sound.
-/
set_option linter.unusedVariables false
set_option linter.unusedSimpArgs false
set_option linter.unusedSectionVars false
namespace Go.Abs
open Go
variable [Fl]
variable [Gl]

section
variable {P : Program} {n0 : Nat} {PR : Addr → Prop} {Γ : List (Nat × Ctx)} {e e' : E} {reg reg' : Own → Addr → Prop} {m : M} {r : Option Nat} {k0 nt : Nat} {fr : Nat → DV} {a : Act} {rec : Rec}

theorem argFr_rd {args : List DV} {vs : List Value} (h : RDs e args vs) (k : Nat) (t : Nat) (s : Addr → Prop) : RD e s (argFr args t) ((⟨vs⟩ ++ Array.replicate k undef : Array Value).getD t undef) := by
  unfold argFr
  cases ha : args[t]? with
  | none => exact .un
  | some d =>
    obtain ⟨v, hv, hr⟩ := h.get ha
    have : (⟨vs⟩ ++ Array.replicate k undef : Array Value).getD t undef = v := by
      have hlt : t < vs.length := (List.getElem?_eq_some_iff.1 hv).1
      rw [Array.getD_eq_getD_getElem?, Array.getElem?_append_left (by simpa using hlt)]
      simp [hv]
    rw [this]
    exact hr.weak (fun _ h => h.elim)

/-- Only the rights of objects are kept; what goes out takes a slot's. -/
def outReg (reg : Own → Addr → Prop) (t : Option Nat) : Own → Addr → Prop := fun p a => match p with
  | .res => ∃ u, t = some u ∧ reg (.slot u) a
  | .slot _ => False
  | p => reg p a
theorem outReg_from {t : Option Nat} {p : Own} {a : Addr} (h : outReg reg t p a) : ∃ p', reg p' a ∧ ((p = .res ∧ ∃ u, t = some u ∧ p' = .slot u) ∨ (p' = p ∧ p ≠ .res ∧ ∀ u, p ≠ .slot u)) := by
  cases p with
  | res => obtain ⟨u, hu, h⟩ := h; exact ⟨_, h, .inl ⟨rfl, u, hu, rfl⟩⟩
  | slot u => exact h.elim
  | ob j => exact ⟨_, h, .inr ⟨rfl, by simp, by simp⟩⟩
  | cell j i => exact ⟨_, h, .inr ⟨rfl, by simp, by simp⟩⟩
theorem MI.outReg (mi : MI n0 PR e reg) (t : Option Nat) : MI n0 PR e (Abs.outReg reg t) := by
  refine mi.rereg (fun p a h => let ⟨p', h', _⟩ := outReg_from h; ⟨p', h'⟩) (fun p p' a h1 h2 => ?_) (fun j a h => h) (fun j i a h => h)
  obtain ⟨u, hu, hu1⟩ := outReg_from h1
  obtain ⟨u', hu', hu1'⟩ := outReg_from h2
  have heq := mi.disj _ _ _ hu hu'
  rcases hu1 with ⟨rfl, x, hx, rfl⟩ | ⟨rfl, hn1, hn2⟩ <;> rcases hu1' with ⟨rfl, y, hy, rfl⟩ | ⟨rfl, hn1', hn2'⟩
  · rfl
  · exact absurd heq.symm (hn2' x)
  · exact absurd heq (hn2 y)
  · exact heq
theorem noSlot_outReg (t : Option Nat) : NoSlot (outReg reg t) := fun _ _ h => h

/-- The results, each with the right that it may take along. -/
inductive RRs (e : E) (reg : Own → Addr → Prop) : List DV → List Value → Prop
  | nil : RRs e reg [] []
  | cons {d : DV} {v : Value} {ds : List DV} {vs : List Value} (t : Option Nat) (h : RD e (fun a => ∃ u, t = some u ∧ reg (.slot u) a) d v) (hs : RRs e reg ds vs) : RRs e reg (d :: ds) (v :: vs)
theorem RRs.tup {ds : List DV} {vs : List Value} (h : RRs e reg ds vs) : RDs e (ds.map unflag) vs := by
  induction h with
  | nil => exact .nil
  | cons t h hs ih => exact .cons h.unflag ih

theorem res_run (mi : MI n0 PR e reg) {tm : Array Value} {s : S} (hst : e.st = s.m.st) (hf : ∀ t, RD e (reg (.slot t)) (s.fr t) (tm.getD t undef)) {g : ResultVar → Sem Value} (hg1 : ∀ t, g (.tmp t) = pure (tm.getD t undef)) (hg2 : ∀ a t, g (.cell a t) = do loadVar t (← asAddr (tm.getD a undef))) :
    ∀ {rs : List ResultVar} {ds : List DV}, resD P s rs = some ds → ∃ us, (rs.mapM g).run P e.w = .ok us e.w ∧ RRs e reg ds us
  | [], ds, h => by simp only [resD] at h; cases h; exact ⟨[], rfl, .nil⟩
  | .tmp t :: rs, ds, h => by
    simp only [resD] at h
    rw [Option.map_eq_some_iff] at h
    obtain ⟨ds', h', rfl⟩ := h
    obtain ⟨us, hu, hr⟩ := res_run mi hst hf hg1 hg2 h'
    refine ⟨tm.getD t undef :: us, ?_, .cons (some t) ((hf t).weak fun a ha => ⟨t, rfl, ha⟩) hr⟩
    simp only [List.mapM_cons, Sem.run_bind, hg1, Sem.run_pure, Result.andThen_ok, hu]
  | .cell a t :: rs, ds, h => by
    simp only [resD] at h
    split at h
    · rename_i d ds' h1 h2
      cases h
      obtain ⟨us, hu, hr⟩ := res_run mi hst hf hg1 hg2 h2
      have hrx := (hf a).unflag (s' := fun _ => False)
      rw [← hst] at h1
      obtain ⟨u, hl, hru⟩ := load_sound (P := P) mi (s' := fun _ => False) h1 hrx
      have hptr : ∃ ad, tm.getD a undef = .pointer (some ad) := by
        generalize tm.getD a undef = v at hrx
        generalize unflag (s.fr a) = x at h1 hrx
        unfold loadD at h1
        split at h1
        · cases hrx; exact ⟨_, rfl⟩
        · cases hrx; exact ⟨_, rfl⟩
        · cases h1
      obtain ⟨ad, had⟩ := hptr
      rw [had] at hl
      simp only [Instr.loadAt, Instr.sureAddr, pure_bind] at hl
      refine ⟨u :: us, ?_, .cons none (hru.weak fun _ h => h.elim) hr⟩
      have hcell : (g (.cell a t)).run P e.w = .ok u e.w := by
        rw [hg2, had]
        simp only [asAddr, pure_bind]; exact hl
      simp only [List.mapM_cons, Sem.run_bind, hcell, Sem.run_pure, Result.andThen_ok, hu]
    · cases h

theorem results_run (mi : MI n0 PR e reg) {tm : Array Value} {s : S} (hst : e.st = s.m.st) (hf : ∀ t, RD e (reg (.slot t)) (s.fr t) (tm.getD t undef)) {fn : Func} {ds : List DV} (h : resD P s fn.results.toList = some ds) :
    ∃ v t, (results fn tm).run P e.w = .ok v e.w ∧ RD e (outReg reg t .res) (resOne ds) v := by
  have key : ∀ g : ResultVar → Sem Value, (∀ t, g (.tmp t) = pure (tm.getD t undef)) → (∀ a t, g (.cell a t) = do loadVar t (← asAddr (tm.getD a undef))) →
      ∃ us, (do let vs ← fn.results.mapM g; pure (if h : vs.size = 1 then vs[0] else .tuple vs) : Sem Value).run P e.w = .ok (if h : (⟨us⟩ : Array Value).size = 1 then (⟨us⟩ : Array Value)[0] else .tuple ⟨us⟩) e.w ∧ RRs e reg ds us := fun g hg1 hg2 => by
    obtain ⟨us, hu, hr⟩ := res_run (P := P) mi hst hf hg1 hg2 h
    refine ⟨us, ?_, hr⟩
    rw [Array.mapM_eq_mapM_toList]
    simp only [Sem.run_bind, Sem.run_map, hu, Sem.run_pure, Result.andThen_ok]
  obtain ⟨us, hrun, hr⟩ := key (fun | .tmp t => pure (tm.getD t undef) | .cell a t => do loadVar t (← asAddr (tm.getD a undef))) (fun _ => rfl) (fun _ _ => rfl)
  have hrun' : (results fn tm).run P e.w = _ := hrun
  cases hr with
  | nil => exact ⟨_, none, hrun', by simp [resOne]; exact .tup .nil⟩
  | cons t hd hs =>
    cases hs with
    | nil => exact ⟨_, t, hrun', hd⟩
    | cons t' hd' hs =>
      refine ⟨_, none, hrun', ?_⟩
      have hall := (RRs.cons t hd (.cons t' hd' hs)).tup
      simpa [resOne] using RD.tup (s := outReg reg none .res) hall

/-- A frame's marks are taken in. -/
theorem leaves_sound {fn : Func} {tm : Array Value} {R : Ending → World → Prop} {F : Fence} {n : Nat} {e0 : E} (hn0 : n0 ≤ e0.w.heap.size) : ∀ (rs : List Nat) (e : E) (reg : Own → Addr → Prop), St n0 PR Γ e reg m → To n0 PR Γ e0 e → rs.Nodup →
      (∀ b ∈ rs, e0.w.heap.size ≤ b ∧ e.w.heap[b]? = some (.deferred (some []))) →
      (∀ e', St n0 PR Γ e' reg m → Ext e e' → To n0 PR Γ e0 e' → ∃ v, (results fn tm).run P e'.w = .ok v e'.w ∧ R (.returned v) e'.w) → LeavesInM F n P fn tm R (rs.map mark) .returning e.w
  | [], e, reg, st, to, _, _, h => h e st (Ext.refl e) to
  | b :: rs, e, reg, st, to, hnd, hb, h => by
    obtain ⟨hb0, hb1⟩ := hb b (by simp)
    refine ⟨by simp, .inl ⟨b, _, rfl, run_takeDeferred hb1, ?_⟩⟩
    let w2 := e.w.putObj b (.deferred none)
    obtain ⟨mi2, x2⟩ := st.mi.world (w' := w2) (la' := e.la) (by simp [w2]) (fun a _ => putObj_cells hb1 rfl rfl a) (fun _ _ h => h)
    let e2 : E := { e with w := w2 }
    have hother : ∀ rr, rr ≠ b → w2.heap[rr]? = e.w.heap[rr]? := fun rr hne => World.putObj_heap_other hne
    have kp : Keep n0 PR (fun rr => rr = b) e.w w2 := putObj_keep hb1 rfl rfl (by omega)
    have hnl : ∀ l, X Γ e.la l → l ≠ b := fun l hX hh => by
      obtain ⟨lx, hlx⟩ := X.loop st.gi hX
      subst hh
      rw [hb1] at hlx; cases hlx
    have st2 : St n0 PR Γ e2 reg m := ⟨st.st, st.la, fun l hl => by show n0 ≤ l ∧ l < w2.heap.size; have := st.lt l hl; simpa [w2] using this, mi2, st.gi.to x2 (SameK.of_eq rfl) (fun rr o hb ho => by show w2.heap[rr]? = _; rw [hother rr (fun hh => MB.not st.gi hb1 rfl (hh ▸ hb))]; exact ho) fun l rc hX hr => by show w2.heap[l]? = _; rw [hother l (hnl l hX)]; exact hr⟩
    have to2 : To n0 PR Γ e0 e2 := by
      have k2 := to.keep
      refine ⟨to.ext.trans x2, ⟨kp.os.trans k2.os, kp.tape.trans k2.tape, kp.output.trans k2.output, Nat.le_trans k2.size kp.size, fun rr hr => (kp.old rr hr).trans (k2.old rr hr), fun x hx => ⟨(kp.pr x hx).1.trans (k2.pr x hx).1, (kp.pr x hx).2.trans (k2.pr x hx).2⟩, fun rr o hr hc' hn => ?_, fun hd => Nat.le_trans (k2.dr hd) (kp.dr hd)⟩, fun r hr => to.maps r hr, fun l rc hX hr => ?_⟩
      · have : rr < e0.w.heap.size := (Array.getElem?_eq_some_iff.1 hr).1
        show w2.heap[rr]? = _
        rw [hother rr (by omega)]; exact k2.obj rr o hr hc' hn
      · have : l < e0.w.heap.size := (Array.getElem?_eq_some_iff.1 hr).1
        show ∃ r' : Loop, w2.heap[l]? = _ ∧ _
        rw [hother l (by omega)]; exact to.loops l rc hX hr
    rw [List.nodup_cons] at hnd
    exact leaves_sound hn0 rs e2 reg st2 to2 hnd.2 (fun b' hb' => ⟨(hb b' (by simp [hb'])).1, by show w2.heap[b']? = _; rw [hother b' (fun hh => hnd.1 (hh ▸ hb'))]; exact (hb b' (by simp [hb'])).2⟩)
      (fun e' h1 h2 h3 => h e' h1 (x2.trans h2) h3)

theorem call_sound (hm : P.follows .mixedOrders = true) (hc : CallOk P rec) (hrd : RoundOk P rec) {an : An} {k : Nat} {f : FuncId} {args : List DV} {d : DV} {m' : M} (h : callF P an rec k Γ f args m = some (d, m')) {vs : List Value} (n : Nat) (st : St n0 PR Γ e reg m) (hres : NoRes reg)
    (hns : NoSlot reg) (hr : RDs e args vs) : CallsIn Fence.wide n P f ⟨vs⟩ e.w (Back n0 PR Γ e d m') := by
  unfold callF at h
  split at h
  · cases h
  · rename_i fn hfn
    split at h
    · cases h
    · rename_i c hbody
      refine callsIn_of_wp_marks hfn hbody trivial ?_
      have main : ∀ (ex : Ex) (s : S), codeD P rec an f fn.ntmps Γ k c ⟨argFr args, m⟩ = some (ex, s) → (∀ id, ex ≠ .exit id) → (resD P s fn.results.toList).map (fun ds => (resOne ds, s.m)) = some (d, m') →
          c.wpIn Fence.wide n P (bodyPostM Fence.wide n P fn (Back n0 PR Γ e d m')) { tmps := ⟨vs⟩ ++ Array.replicate (fn.ntmps - (⟨vs⟩ : Array Value).size) undef, defers := [] } e.w := by
        intro ex s hcode hne hres2
        rw [Option.map_eq_some_iff] at hres2
        obtain ⟨ds, hds, hh⟩ := hres2
        cases hh
        refine code_sound hm hc hrd c ⟨argFr args, m⟩ s ex hcode n0 PR none e.w.heap.size e reg _ _ n st hres ⟨fun t => argFr_rd hr _ t _, by simp; omega, ⟨[], rfl, List.nodup_nil, by simp⟩, by simp⟩ (Nat.le_refl _) fun a' e' reg' st' hres' hf' to => ?_
        obtain ⟨rs, hd1, hd2, hd3⟩ := hf'.df
        have hl : LeavesInM Fence.wide n P fn a'.tmps (Back n0 PR Γ e (resOne ds) s.m) a'.defers .returning e'.w := by
          rw [hd1]
          refine leaves_sound st.mi.n0le rs e' reg' st' to hd2 hd3 fun e2 st2 x2 to2 => ?_
          obtain ⟨v, t, hv, hrv⟩ := results_run (P := P) st2.mi st2.st (fun t => (hf'.rd t).mono x2 (fun _ h => h)) hds
          exact ⟨v, hv, e2, outReg reg' t, rfl, ⟨st2.st, st2.la, st2.lt, st2.mi.outReg t, st2.gi⟩, noSlot_outReg t, to2, hrv⟩
        cases ex with
        | normal => exact hl
        | ret => exact hl
        | exit id => exact absurd rfl (hne id)
      split at h
      · cases h
      · rename_i ex s hne hcode
        exact main ex s hcode (fun id hh => hne id hh) h
      · cases h

theorem ctxOf_mem : ∀ {Γ : List (Nat × Ctx)} {j : Nat} {x : Ctx}, ctxOf Γ j = some x → (j, x) ∈ Γ
  | [], j, x, h => by simp [ctxOf] at h
  | (k, y) :: Γ, j, x, h => by
    simp only [ctxOf] at h
    split at h
    · rename_i hk; cases h; subst hk; simp
    · exact List.mem_cons_of_mem _ (ctxOf_mem h)

theorem setPs_rd : ∀ (ps : List Tmp) (args : List DV) (vs : List Value) (fr : Nat → DV) (tm : Array Value) (nt : Nat), RDs e args vs → ps.length = args.length → (∀ t ∈ ps, t < nt) → nt ≤ tm.size → (∀ t s, RD e s (fr t) (tm.getD t undef)) →
    (∀ t s, RD e s (setPs fr (ps.zip args) t) (((ps.zip vs).foldl (fun tmps (t, a) => tmps.setIfInBounds t a) tm).getD t undef)) ∧ nt ≤ ((ps.zip vs).foldl (fun (tmps : Array Value) (t, a) => tmps.setIfInBounds t a) tm).size
  | [], args, vs, fr, tm, nt, h, hl, hp, hn, hf => by
    cases h with
    | nil => exact ⟨hf, hn⟩
    | cons => simp at hl
  | p :: ps, args, vs, fr, tm, nt, h, hl, hp, hn, hf => by
    cases h with
    | nil => simp at hl
    | cons a b =>
      rename_i d v ds us
      simp only [List.zip_cons_cons, List.foldl_cons, setPs]
      have hlt : p < tm.size := Nat.lt_of_lt_of_le (hp p (by simp)) hn
      refine setPs_rd ps ds us _ _ nt b (by simpa using hl) (fun t ht => hp t (by simp [ht])) (by simpa using hn) fun t s => ?_
      by_cases ht : t = p
      · subst ht
        have h1 : (tm.setIfInBounds t v).getD t undef = v := by simp [Array.getD_eq_getD_getElem?, hlt]
        have h2 : upd fr t d t = d := by simp [upd]
        rw [h1, h2]
        exact a.weak (fun _ h => h.elim)
      · have h1 : (tm.setIfInBounds p v).getD t undef = tm.getD t undef := by simp [Array.getD_eq_getD_getElem?, Array.getElem?_setIfInBounds_ne (Ne.symm ht)]
        have h2 : upd fr p d t = fr t := by simp [upd, ht]
        rw [h1, h2]
        exact hf t s

theorem round_sound (hm : P.follows .mixedOrders = true) (hc : CallOk P rec) (hrd : RoundOk P rec) {an : An} {k j : Nat} {args : List DV} {d : DV} {m' : M} (h : roundF P an rec k Γ j args m = some (d, m')) {vs : List Value} (n : Nat) (st : St n0 PR Γ e reg m) (hres : NoRes reg)
    (hns : NoSlot reg) (hr : RDs e args vs) {l : Nat} (hl : e.la[j]? = some l) :
    ∃ x : Loop, e.w.heap[l]? = some (.loop x) ∧ vs.length = x.params.size ∧ RoundIn Fence.wide n P l x.fn ((x.params.zip ⟨vs⟩).foldl (fun tmps (t, a) => tmps.setIfInBounds t a) x.tmps) x.assign x.body e.w (Back n0 PR Γ e d m') := by
  unfold roundF at h
  split at h
  · cases h
  · rename_i x hx
    split at h
    · cases h
    · rename_i hcond
      have hc1 : args.length = x.params.size := by
        rcases Nat.decEq args.length x.params.size with hh | hh
        · exact absurd (.inl hh) hcond
        · exact hh
      have hc2 : m.pd[j]? = some .normal := Classical.byContradiction fun hh => hcond (.inr (.inl hh))
      have hc3 : ∀ t ∈ x.params.toList, t < x.nt := fun t ht => by
        have : (x.params.toList.all fun t => decide (t < x.nt)) = true := by
          cases hh : (x.params.toList.all fun t => decide (t < x.nt)) with
          | true => rfl
          | false => exact absurd (.inr (.inr (by rw [hh]; rfl))) hcond
        simpa using List.all_eq_true.1 this t ht
      have hmem := ctxOf_mem hx
      obtain ⟨l', rc, hl', hat⟩ := st.gi.at_ j x hmem
      rw [hl] at hl'; cases hl'
      have hstate := hat.state
      rw [hc2] at hstate
      obtain ⟨hready, hpend⟩ := hstate
      refine ⟨rc, hat.heap, by rw [hat.params, ← hr.length]; exact hc1, ?_⟩
      have hsub : ∀ k c, (k, c) ∈ without Γ j → (k, c) ∈ Γ ∧ k ≠ j := fun k c hm => by
        unfold without at hm
        rw [List.mem_filter] at hm
        exact ⟨hm.1, by simpa using hm.2⟩
      have hsup : ∀ k c, (k, c) ∈ Γ → k ≠ j → (k, c) ∈ without Γ j := fun k c hm hk => by
        unfold without
        rw [List.mem_filter]
        exact ⟨hm, by simpa using hk⟩
      have gsub : ∀ {e : E} {pd : List Ex}, GI n0 e Γ pd → GI n0 e (without Γ j) pd := fun g => ⟨g.gl, g.mp, fun k c hm => g.at_ k c (hsub k c hm).1, fun k k' c c' l h1 h2 => g.inj k k' c c' l (hsub k c h1).1 (hsub k' c' h2).1⟩
      have hnX : ¬ X (without Γ j) e.la l := fun ⟨k, c, hm, hk⟩ => (hsub k c hm).2 (st.gi.inj k j c x l (hsub k c hm).1 hmem hk hl)
      have st0 : St n0 PR (without Γ j) e reg m := ⟨st.st, st.la, st.lt, st.mi, gsub st.gi⟩
      have hzip : (rc.params.zip ⟨vs⟩).foldl (fun (tmps : Array Value) (t, a) => tmps.setIfInBounds t a) rc.tmps = (x.params.toList.zip vs).foldl (fun (tmps : Array Value) (t, a) => tmps.setIfInBounds t a) rc.tmps := by
        rw [hat.params, ← Array.foldl_toList, Array.toList_zip]
      obtain ⟨hps1, hps2⟩ := setPs_rd x.params.toList args vs x.fr rc.tmps x.nt hr (by simpa using hc1.symm) hc3 hat.nt (fun t s => (hat.rd t).weak (fun _ h => h.elim))
      have hf0 : Fr (some l) 0 x.nt (without Γ j) e reg (setPs x.fr (x.params.toList.zip args)) { tmps := (rc.params.zip ⟨vs⟩).foldl (fun (tmps : Array Value) (t, a) => tmps.setIfInBounds t a) rc.tmps, defers := [] } :=
        ⟨fun t => by rw [hzip]; exact hps1 t _, by rw [hzip]; exact hps2, ⟨[], rfl, List.nodup_nil, by simp⟩, fun l' hl' => by cases hl'; exact ⟨⟨rc, hat.heap⟩, hnX⟩⟩
      -- the assignment, the round, what it leaves
      have main : ∀ (s1 s2 : S) (ex : Ex), codeD P rec an x.f x.nt (without Γ j) k x.assign ⟨setPs x.fr (x.params.toList.zip args), m⟩ = some (.normal, s1) → codeD P rec an x.f x.nt (without Γ j) k x.body s1 = some (ex, s2) → d = .c (.sc (.bool (ex == .normal))) → m' = { s2.m with pd := s2.m.pd.set j ex } →
          RoundIn Fence.wide n P l rc.fn ((rc.params.zip ⟨vs⟩).foldl (fun tmps (t, a) => tmps.setIfInBounds t a) rc.tmps) rc.assign rc.body e.w (Back n0 PR Γ e d m') := by
        intro s1 s2 ex h1 h2 hd hm'
        refine roundIn_of_wpIn trivial ?_
        rw [hat.assign]
        refine code_sound hm hc hrd x.assign _ s1 .normal h1 n0 PR (some l) 0 e reg _ _ n st0 hres hf0 (Nat.zero_le _) fun a1 e1 reg1 st1 hres1 hf1 to1 => ?_
        have hl1 : e1.w.heap[l]? = some (.loop rc) := to1.obj (gsub st.gi) hat.heap rfl rfl hnX
        refine ⟨_, run_beginRound hl1 hready, ?_⟩
        let rb : Loop := { rc with state := .busy }
        let w2 := e1.w.putObj l (.loop rb)
        obtain ⟨mi2, x2⟩ := st1.mi.world (w' := w2) (la' := e1.la) (by simp [w2]) (fun a _ => putObj_cells hl1 rfl rfl a) (fun _ _ h => h)
        let e2 : E := { e1 with w := w2 }
        have ho2 : ∀ rr, rr ≠ l → w2.heap[rr]? = e1.w.heap[rr]? := fun rr hne => World.putObj_heap_other hne
        have hnX1 : ¬ X (without Γ j) e1.la l := fun hh => hnX (X.back (gsub st.gi) to1.ext hh)
        have hll : e1.la[j]? = some l := to1.ext.la _ _ hl
        have st2 : St n0 PR (without Γ j) e2 reg1 s1.m := ⟨st1.st, st1.la, fun l hl => by show n0 ≤ l ∧ l < w2.heap.size; have := st1.lt l hl; simpa [w2] using this, mi2, st1.gi.to x2 (SameK.of_eq rfl) (fun rr o hb ho => by show w2.heap[rr]? = _; rw [ho2 rr (fun hh => MB.not st1.gi hl1 rfl (hh ▸ hb))]; exact ho) fun l' rc' hX hr' => by
          show w2.heap[l']? = _
          rw [ho2 l' (fun hh => hnX1 (hh ▸ hX))]; exact hr'⟩
        have hl2 : w2.heap[l]? = some (.loop rb) := World.putObj_heap_same (Array.getElem?_eq_some_iff.1 hl1).1
        have hf2 : Fr (some l) 0 x.nt (without Γ j) e2 reg1 s1.fr a1 := by
          refine ⟨fun t => (hf1.rd t).mono x2 (fun _ h => h), hf1.nt, ?_, fun l' hl' => by cases hl'; exact ⟨⟨rb, hl2⟩, hnX1⟩⟩
          obtain ⟨rs, q1, q2, q3⟩ := hf1.df
          refine ⟨rs, q1, q2, fun b hb => ⟨(q3 b hb).1, ?_⟩⟩
          show w2.heap[b]? = _
          rw [ho2 b (fun hh => by have := (q3 b hb).2; rw [hh, hl1] at this; cases this)]
          exact (q3 b hb).2
        show rc.body.wpIn (fence (some l)) n P (roundPost P l (Back n0 PR Γ e d m')) a1 e2.w
        rw [hat.body]
        refine code_sound hm hc hrd x.body s1 s2 ex h2 n0 PR (some l) 0 e2 reg1 a1 _ n st2 hres1 hf2 (Nat.zero_le _) fun a3 e3 reg3 st3 hres3 hf3 to3 => ?_
        have hl3 : e3.w.heap[l]? = some (.loop rb) := to3.obj st2.gi hl2 rfl rfl hnX1
        have fin : ∀ jump : Option Code, StateOk { rb with state := if jump.isNone then .ready else .done, pending := jump } (some ex) → jump.isNone = (ex == .normal) → ∃ v w', (Instr.endRound l jump).run P e3.w = .ok v w' ∧ Back n0 PR Γ e d m' (.returned v) w' := by
          intro jump hsj hjn
          let r4 : Loop := { rb with state := if jump.isNone then .ready else .done, pending := jump }
          let w4 := e3.w.putObj l (.loop r4)
          refine ⟨_, _, run_endRound jump hl3, ?_⟩
          obtain ⟨mi4, x4⟩ := st3.mi.world (w' := w4) (la' := e3.la) (by simp [w4]) (fun a _ => putObj_cells hl3 rfl rfl a) (fun _ _ h => h)
          let e4 : E := { e3 with w := w4 }
          have ho4 : ∀ rr, rr ≠ l → w4.heap[rr]? = e3.w.heap[rr]? := fun rr hne => World.putObj_heap_other hne
          have hx : Ext e e4 := ((to1.ext.trans x2).trans to3.ext).trans x4
          have hl4 : w4.heap[l]? = some (.loop r4) := World.putObj_heap_same (Array.getElem?_eq_some_iff.1 hl3).1
          have hle : n0 ≤ l ∨ True := .inr trivial
          have hlt : l < e.w.heap.size := (Array.getElem?_eq_some_iff.1 hat.heap).1
          have hnl : ∀ rr, rr ≠ l → ¬ X Γ e.la rr → ¬ X (without Γ j) e.la rr := fun rr _ hn hX => by
            obtain ⟨k, c, hm, hk⟩ := hX
            exact hn ⟨k, c, (hsub k c hm).1, hk⟩
          have hXl : ∀ rr, X Γ e.la rr → rr ≠ l → X (without Γ j) e.la rr := fun rr hX hne => by
            obtain ⟨k, c, hm, hk⟩ := hX
            refine ⟨k, c, hsup k c hm (fun hh => ?_), hk⟩
            subst hh
            rw [hl] at hk; cases hk; exact hne rfl
          have to : To n0 PR Γ e e4 := by
            have k1 := to1.keep
            have k3 := to3.keep
            have hc2 : ∀ a : Addr, w2.cell? a = e1.w.cell? a ∧ w2.frozen? a = e1.w.frozen? a := fun a => putObj_cells hl1 rfl rfl a
            have hc4 : ∀ a : Addr, w4.cell? a = e3.w.cell? a ∧ w4.frozen? a = e3.w.frozen? a := fun a => putObj_cells hl3 rfl rfl a
            refine ⟨hx, ⟨k3.os.trans k1.os, k3.tape.trans k1.tape, k3.output.trans k1.output, ?_, fun rr hr => ?_, fun y hy => ?_, fun rr o hr hco hn => ?_, fun hd => Nat.le_trans (k1.dr hd) (k3.dr hd)⟩, fun rr hr => ?_, fun rr rc' hX hr => ?_⟩
            · have h1 := k1.size
              have h3 := k3.size
              show e.w.heap.size ≤ w4.heap.size
              have h2 : w2.heap.size = e1.w.heap.size := by simp [w2]
              have h4 : w4.heap.size = e3.w.heap.size := by simp [w4]
              have h3' : w2.heap.size ≤ e3.w.heap.size := h3
              omega
            · -- the record was laid behind n0, or nothing turns
              have hl0 : rr ≠ l := fun hh => by
                have := st.lt l (List.mem_of_getElem? hl)
                omega
              show w4.heap[rr]? = _
              rw [ho4 rr hl0, k3.old rr hr]
              show w2.heap[rr]? = _
              rw [ho2 rr hl0]
              exact k1.old rr hr
            · obtain ⟨p1, p2⟩ := k1.pr y hy
              obtain ⟨p3, p4⟩ := k3.pr y hy
              exact ⟨(hc4 y).1.trans (p3.trans ((hc2 y).1.trans p1)), (hc4 y).2.trans (p4.trans ((hc2 y).2.trans p2))⟩
            · have hne : rr ≠ l := fun hh => hn (.inl (hh ▸ ⟨j, x, hmem, hl⟩))
              have hlt : rr < e.w.heap.size := (Array.getElem?_eq_some_iff.1 hr).1
              show w4.heap[rr]? = _
              rw [ho4 rr hne]
              refine k3.obj rr o ?_ hco (fun hh => hh.elim (fun hh => hnl rr hne (fun h => hn (.inl h)) (X.back (gsub st.gi) to1.ext hh)) fun hb => (to1.maps rr hb).elim (fun hb => hn (.inr hb)) fun hle => by omega)
              show w2.heap[rr]? = _
              rw [ho2 rr hne]
              exact k1.obj rr o hr hco (fun hh => hh.elim (hnl rr hne fun h => hn (.inl h)) fun hb => hn (.inr hb))
            · have h2 : w2.heap.size = e1.w.heap.size := by simp [w2]
              rcases to3.maps rr hr with hb | hle
              · exact to1.maps rr hb
              · have hle : w2.heap.size ≤ rr := hle
                exact .inr (by have := k1.size; omega)
            · by_cases hrl : rr = l
              · subst hrl
                rw [hat.heap] at hr; cases hr
                exact ⟨r4, hl4, rfl⟩
              · have hX' := hXl rr hX hrl
                obtain ⟨ra, q1, q2⟩ := to1.loops rr rc' hX' hr
                obtain ⟨k, c, hm, hk⟩ := hX'
                obtain ⟨rb', q3, q4⟩ := to3.loops rr ra ⟨k, c, hm, to1.ext.la _ _ hk⟩ (by show w2.heap[rr]? = _; rw [ho2 rr hrl]; exact q1)
                exact ⟨rb', by show w4.heap[rr]? = _; rw [ho4 rr hrl]; exact q3, q4.trans q2⟩
          have hjl : j < s2.m.pd.length := by
            rw [← st3.la]
            exact (List.getElem?_eq_some_iff.1 (((to1.ext.trans x2).trans to3.ext).la _ _ hl)).1
          have g4 : GI n0 e4 Γ (s2.m.pd.set j ex) := by
            refine ⟨st.gi.gl.to hx, st3.gi.mp.to x4 (SameK.of_eq rfl) (fun rr o hb ho => by show w4.heap[rr]? = _; rw [ho4 rr (fun hh => MB.not st3.gi hl3 rfl (hh ▸ hb))]; exact ho), fun k c hm => ?_, fun k k' c c' lx hm hm' hk hk' => ?_⟩
            · by_cases hkj : k = j
              · subst hkj
                obtain ⟨l0, r0, h0, hat0⟩ := st.gi.at_ k c hm
                rw [hl] at h0; cases h0
                have : r0 = rc := by have := hat0.heap; rw [hat.heap] at this; cases this; rfl
                subst this
                refine ⟨l, r4, hx.la _ _ hl, hl4, hat0.params, hat0.assign, hat0.body, hat0.nt, fun t => (hat0.rd t).mono hx (fun _ h => h), ?_⟩
                rw [List.getElem?_set_self hjl]; exact hsj
              · obtain ⟨l0, r0, h0, hat0⟩ := st3.gi.at_ k c (hsup k c hm hkj)
                have hne : l0 ≠ l := fun hh => by
                  subst hh
                  obtain ⟨l1, _, h1, _⟩ := st.gi.at_ k c hm
                  have h1' := ((to1.ext.trans x2).trans to3.ext).la _ _ h1
                  rw [h0] at h1'; cases h1'
                  exact hkj (st.gi.inj k j c x l0 hm hmem h1 hl)
                refine ⟨l0, r0, h0, by show w4.heap[l0]? = _; rw [ho4 l0 hne]; exact hat0.heap, hat0.params, hat0.assign, hat0.body, hat0.nt, fun t => (hat0.rd t).mono x4 (fun _ h => h), ?_⟩
                rw [List.getElem?_set_ne (Ne.symm hkj)]; exact hat0.state
            · obtain ⟨l1, _, h1, _⟩ := st.gi.at_ k c hm
              obtain ⟨l2, _, h2, _⟩ := st.gi.at_ k' c' hm'
              have e1' := hx.la _ _ h1
              have e2' := hx.la _ _ h2
              rw [hk] at e1'; rw [hk'] at e2'
              cases e1'; cases e2'
              exact st.gi.inj k k' c c' lx hm hm' h1 h2
          refine ⟨e4, outReg reg3 none, rfl, ⟨?_, ?_, fun l hl => ?_, mi4.outReg none, ?_⟩, noSlot_outReg _, to, ?_⟩
          · rw [hm']; exact st3.st
          · rw [hm']; simp only [List.length_set]; exact st3.la
          · show n0 ≤ l ∧ l < w4.heap.size
            have := st3.lt l hl
            simpa [w4] using this
          · rw [hm']; exact g4
          · rw [hd, hjn]; exact .c (.sc rfl)
        cases ex with
        | normal => exact fin none ⟨rfl, rfl⟩ rfl
        | ret => exact fin (some .ret) ⟨rfl, rfl⟩ rfl
        | exit id => exact fin (some (.exit id)) ⟨rfl, rfl⟩ rfl
      split at h
      · rename_i s1 h1
        split at h
        · rename_i s2 h2
          cases h
          exact main s1 s2 .normal h1 h2 rfl rfl
        · rename_i ex s2 hne h2
          cases h
          have : (ex == .normal) = false := by
            cases ex with
            | normal => exact absurd rfl hne
            | _ => rfl
          exact main s1 s2 ex h1 h2 (by rw [this]) rfl
        · cases h
      · cases h

/-- **The interpreter is sound.** -/
theorem evN_sound (hm : P.follows .mixedOrders = true) (an : An) {pr : Prims} (hp : ∀ f p, pr f = some p → PrimOk P f p) : ∀ k, CallOk P (evN P an pr k) ∧ RoundOk P (evN P an pr k)
  | 0 => ⟨⟨fun Γ f args m d m' h => by simp [evN] at h, fun f p h => hp f p h⟩, fun Γ j args m d m' h => by simp [evN] at h⟩
  | k + 1 => by
    obtain ⟨hc, hrd⟩ := evN_sound hm an hp k
    refine ⟨⟨fun Γ f args m d m' h n0 PR e reg vs n st hres hns hr => ?_, fun f p h => hp f p h⟩, fun Γ j args m d m' h n0 PR e reg vs n st hres hns hr l hl => ?_⟩
    · exact call_sound hm hc hrd h n st hres hns hr
    · exact round_sound hm hc hrd h n st hres hns hr hl
end
end Go.Abs

/-
  Abs26: the arguments of a law, read as closed values; a call of the interpreter's as a contract.
-/
set_option linter.unusedVariables false
set_option linter.unusedSimpArgs false
set_option linter.unusedSectionVars false
namespace Go.Abs
open Go
variable [Fl]
variable [Gl]

/-- Whatever lies in the world already. -/
def old (w : World) : Addr → Prop := fun a => a.block < w.heap.size

def IsInt (c : CV) : Prop := ∃ n : Int, c = .sc (.int .i64 n) ∧ (Lit.int .i64 n).wf = true
/-- A slice of what Q says. -/
def SliceOf (Q : CV → Prop) (c : CV) : Prop := ∃ nl x cs, c = .sl nl x cs cs.length ∧ (nl = true → x = true ∧ cs = []) ∧ (∀ c ∈ cs, Q c) ∧ cs.length ≤ maxLen

section
variable {H : Type} {enc : TypeId × Value → H} {P : Program} {w : World} {base : Nat} {sp : Nat → Bool} {held : Bool}

/-- What a type's one cell reads as. -/
def Reads (P : Program) (w : World) (base : Nat) (t : TypeId) (Q : CV → Prop) : Prop :=
  ∀ (H : Type) (enc : TypeId × Value → H) (sp : Nat → Bool) (held : Bool) (fuel : Nat) (vs : List Value) (x : DataW H × List MemPlace), DataW.trod enc P w base sp held fuel t vs = some x → ∃ v c, vs = [v] ∧ RC (old w) w c v ∧ cvOk c = true ∧ Q c

theorem reads_int {t : TypeId} (ht : P.underlying t = some (.int .i64)) : Reads P w base t IsInt := by
  intro H enc sp held fuel vs x h
  cases fuel with
  | zero => simp [DataW.trod] at h
  | succ fuel =>
    unfold DataW.trod at h
    rw [ht] at h
    split at h <;> first | (rename_i hh; cases hh; done) | skip
    all_goals (try (rename_i hh; injection hh with hh; done))
    · rename_i k k' n hk
      injection hk with hk
      injection hk with hk
      subst hk
      split at h
      · rename_i hc
        obtain ⟨rfl, hwf⟩ := hc
        exact ⟨_, _, rfl, .sc rfl, rfl, n, rfl, hwf⟩
      · cases h
    all_goals (first | (cases h; done) | (simp at h; done))

theorem mapM_get {α β : Type} {f : α → Option β} : ∀ (l : List α) (ys : List β), l.mapM f = some ys → ys.length = l.length ∧ ∀ (i : Nat) x, l[i]? = some x → ∃ y, ys[i]? = some y ∧ f x = some y
  | [], ys, h => by simp at h; subst h; exact ⟨rfl, by simp⟩
  | a :: l, ys, h => by
    rw [List.mapM_cons] at h
    simp only [Option.bind_eq_bind, Option.bind_eq_some_iff] at h
    obtain ⟨y, hy, ys', hys, h⟩ := h
    cases h
    obtain ⟨h1, h2⟩ := mapM_get l ys' hys
    refine ⟨by simp [h1], fun i x hx => ?_⟩
    cases i with
    | zero => simp at hx; subst hx; exact ⟨y, rfl, hy⟩
    | succ i => simpa using h2 i x (by simpa using hx)

theorem cells_cell {a : Addr} {n : Nat} {vs : List Value} (h : w.cells? base a n = some vs) : vs.length = n ∧ ∀ (i : Nat) v, vs[i]? = some v → w.cell? (a.add i) = some v := by
  unfold World.cells? at h
  split at h
  · obtain ⟨h1, h2⟩ := mapM_get _ _ h
    refine ⟨by simpa using h1, fun i v hv => ?_⟩
    have hlt : i < n := by have := (List.getElem?_eq_some_iff.1 hv).1; simp at h1; omega
    obtain ⟨y, hy, hc⟩ := h2 i i (by simp [hlt])
    rw [hv] at hy; cases hy
    exact hc
  · cases h

theorem lists_of {p : Nat → Value → CV → Prop} : ∀ (n : Nat), (∀ i, i < n → ∃ v c, p i v c) → ∃ (vs : List Value) (cs : List CV), vs.length = n ∧ cs.length = n ∧ ∀ (i : Nat) v c, vs[i]? = some v → cs[i]? = some c → p i v c
  | 0, _ => ⟨[], [], rfl, rfl, by simp⟩
  | n + 1, h => by
    obtain ⟨vs, cs, h1, h2, h3⟩ := lists_of n fun i hi => h i (by omega)
    obtain ⟨v, c, hp⟩ := h n (by omega)
    refine ⟨vs ++ [v], cs ++ [c], by simp [h1], by simp [h2], fun i v' c' hv hc => ?_⟩
    rcases Nat.lt_or_ge i n with hlt | hge
    · rw [List.getElem?_append_left (by omega)] at hv hc
      exact h3 i v' c' hv hc
    · have hi : i = n := by
        have := (List.getElem?_eq_some_iff.1 hv).1
        simp [h1] at this; omega
      subst hi
      rw [List.getElem?_append_right (by omega)] at hv hc
      simp [h1] at hv
      simp [h2] at hc
      subst hv; subst hc
      exact hp

theorem RCs.of_get {im : Addr → Prop} : ∀ {cs : List CV} {vs : List Value}, cs.length = vs.length → (∀ (i : Nat) c v, cs[i]? = some c → vs[i]? = some v → cvOk c = true ∧ RC im w c v) → RCs im w cs vs
  | [], [], _, _ => .nil
  | c :: cs, v :: vs, hl, h => .cons (h 0 c v rfl rfl).1 (h 0 c v rfl rfl).2 (RCs.of_get (by simpa using hl) fun i c' v' hc hv => h (i + 1) c' v' (by simpa using hc) (by simpa using hv))
  | [], _ :: _, hl, _ => by simp at hl
  | _ :: _, [], hl, _ => by simp at hl

theorem reads_slice {t e : TypeId} {Q : CV → Prop} (ht : P.underlying t = some (.slice e)) (hc : P.cellsOf e = 1) (hq : Reads P w base e Q) : Reads P w base t (SliceOf Q) := by
  intro H enc sp held fuel vs x h
  cases fuel with
  | zero => simp [DataW.trod] at h
  | succ fuel =>
    unfold DataW.trod at h
    rw [ht] at h
    split at h <;> first | (rename_i hh; cases hh; done) | skip
    all_goals (try (rename_i hh; injection hh with hh; done))
    · exact ⟨_, _, rfl, .nil, rfl, true, true, [], rfl, fun _ => ⟨rfl, rfl⟩, by simp, by simp [maxLen]⟩
    · rename_i e' a len cap he
      injection he with he
      injection he with he
      subst he
      simp only [hc, Nat.mul_one] at h
      split at h
      · rename_i hcond
        obtain ⟨_, hle, hcap⟩ := hcond
        rw [Option.bind_eq_some_iff] at h
        obtain ⟨elems, hel, _⟩ := h
        obtain ⟨_, hget⟩ := mapM_get _ _ hel
        have hp : ∀ i, i < len → ∃ v c, w.cell? (a.add i) = some v ∧ RC (old w) w c v ∧ cvOk c = true ∧ Q c := fun i hi => by
          obtain ⟨y, _, hf⟩ := hget i i (by simp [hi])
          rw [Option.bind_eq_some_iff] at hf
          obtain ⟨us, hus, htr⟩ := hf
          obtain ⟨v, c, rfl, h1, h2, h3⟩ := hq H enc sp held fuel us y htr
          have := (cells_cell hus).2 0 v rfl
          rw [add_zero'] at this
          exact ⟨v, c, this, h1, h2, h3⟩
        obtain ⟨vs, cs, hvl, hcl, hall⟩ := lists_of len hp
        have hpair : ∀ (i : Nat) c v, cs[i]? = some c → vs[i]? = some v → cvOk c = true ∧ RC (old w) w c v := fun i c v h1 h2 => ⟨(hall i v c h2 h1).2.2.1, (hall i v c h2 h1).2.1⟩
        refine ⟨_, .sl false (decide (cap = len)) cs cs.length, rfl, ?_, rfl, false, _, cs, rfl, by simp, fun c hcm => ?_, by omega⟩
        · rw [hcl]
          refine .sl (RCs.of_get (by omega) hpair) (fun i v hv => ?_) hle (fun hx => by simpa using hx)
          have hlt : i < cs.length := by have := (List.getElem?_eq_some_iff.1 hv).1; omega
          have hcell := (hall i v cs[i] hv (List.getElem?_eq_getElem hlt)).1
          exact ⟨hcell, World.block_lt_of_cell? _ _ hcell⟩
        · obtain ⟨i, hi⟩ := List.getElem?_of_mem hcm
          have hlt : i < vs.length := by have := (List.getElem?_eq_some_iff.1 hi).1; omega
          exact (hall i vs[i] c (List.getElem?_eq_getElem hlt) hi).2.2.2
      · cases h
    all_goals (first | (cases h; done) | (simp at h; done))

/-- An argument, closed. -/
theorem reads_arg {t : TypeId} {Q : CV → Prop} (hq : Reads P w base t Q) {v : Value} {d : DataW H} {ps : List MemPlace} (h : DataW.Trod enc P w base sp held t v d ps) (hv : v.oneCell' = true) : ∃ c, RC (old w) w c v ∧ Q c := by
  obtain ⟨fuel, hf⟩ := h
  obtain ⟨u, c, h1, h2, _, h3⟩ := hq H enc sp held fuel _ _ hf
  have : v = u := by rw [cells_one hv] at h1; simpa using h1
  subst this
  exact ⟨c, h2, h3⟩

/-- A call on arguments that are closed, in a world of others': what was there is there. -/
theorem call_closed (hgl : (∀ a, Gl.as a → a.block < w.heap.size) ∧ Gl.ok w) (hm : P.follows .mixedOrders = true) (an : An) {pr : Prims} (hp : ∀ f p, pr f = some p → PrimOk P f p) {k f : Nat} {args : List DV} {vs : List Value} {d : DV} {m' : M} (h : (evN P an pr k).call [] f args ⟨[], []⟩ = some (d, m'))
    (hr : RDs ⟨old w, w, [], fun _ => ⟨0, 0, 0⟩, []⟩ args vs) : Calls P f ⟨vs⟩ w fun en w' => ∃ v e' s, en = .returned v ∧ e'.w = w' ∧ RD e' s d v ∧ Keep w.heap.size (fun _ => False) (fun _ => False) w w' := by
  let e : E := ⟨old w, w, [], fun _ => ⟨0, 0, 0⟩, []⟩
  have st : St w.heap.size (fun _ => False) [] e (fun _ _ => False) ⟨[], []⟩ :=
    ⟨rfl, rfl, by simp [e], ⟨fun a ha => ha, fun _ _ h => h, fun _ h => h.elim, Nat.le_refl _, fun _ _ h => h.elim, fun _ _ _ h => h.elim, by simp [e], by simp [e], by simp [e]⟩, ⟨⟨hgl.1, hgl.2⟩, MpI.void (by simp [e]), by simp, by simp⟩⟩
  have hc := (evN_sound hm an hp k).1.call [] f args ⟨[], []⟩ d m' h w.heap.size (fun _ => False) e (fun _ _ => False) vs 0 st (fun _ h => h) (fun _ _ h => h) hr
  refine callsIn_wide.1 (hc.mono fun en w' hb => ?_)
  cases en with
  | returned v =>
    obtain ⟨e', reg', h1, h2, h3, h4, h5⟩ := hb
    exact ⟨v, e', _, rfl, h1, h5, by rw [← h1]; exact h4.keep.weak fun r hr => hr.elim (fun hr => by obtain ⟨_, _, hm, _⟩ := hr; simp at hm) (fun hr => by obtain ⟨_, _, hm, _⟩ := hr; simp [e] at hm)⟩
  | panicked c => exact hb.elim
  | outgrown => exact hb.elim
end
end Go.Abs
