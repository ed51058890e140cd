/-
  Abs24: code, whole.
-/
import Derived.Test.YtkfmoodaplelnaaAbs22
set_option linter.unusedVariables false
set_option linter.unusedSimpArgs false
set_option linter.unusedSectionVars false
namespace Go.Abs
open Go
variable [Gl]

section
variable {P : Program} {n0 : Nat} {PR : Addr → Prop} {Γ : List (Nat × Ctx)} {e e' : E} {reg reg' : Own → Addr → Prop} {m : M} {r : Option Nat} {k0 nt : Nat} {fr : Nat → DV} {a : Act} {rec : Rec}

theorem alloc_other {w : World} {o : Obj} (a : Addr) (h : a.block < w.heap.size) : (w.alloc o).cell? a = w.cell? a ∧ (w.alloc o).frozen? a = w.frozen? a :=
  ⟨World.cell?_alloc_lt _ _ _ h, World.frozen?_alloc_old _ _ _ (by omega)⟩

/-- The loop's record is laid. -/
theorem enterLoop_ok (hf : Fr r k0 nt Γ e reg fr a) (fn : FuncId) (ps : Array Tmp) (as body : Code) (P : Program) :
    ∃ (l : Nat) (mark : List Nat) (w1 : World) (rc : Loop), (Instr.enterLoop fn a.tmps ps as body r).run P e.w = .ok (l, mark.map Abs.mark) w1 ∧ w1.heap[l]? = some (.loop rc) ∧ rc.params = ps ∧ rc.assign = as ∧ rc.body = body ∧ rc.tmps = a.tmps ∧ rc.state = .ready ∧ rc.pending = none ∧
      e.w.heap.size ≤ l ∧ (∀ b ∈ mark, e.w.heap.size ≤ b ∧ b < l ∧ w1.heap[b]? = some (.deferred (some []))) ∧ mark.Nodup ∧ w1.heap.size = l + 1 ∧ w1.os = e.w.os ∧ w1.tape = e.w.tape ∧ w1.output = e.w.output ∧ (∀ i, i < e.w.heap.size → w1.heap[i]? = e.w.heap[i]?) := by
  cases hr : r with
  | none =>
    refine ⟨e.w.heap.size + 1, [e.w.heap.size], _, { state := .ready, pending := none, fn, tmps := a.tmps, params := ps, assign := as, body, defers := e.w.heap.size }, run_enterLoop_outer fn a.tmps ps as body, ?_, rfl, rfl, rfl, rfl, rfl, rfl, by omega, ?_, by simp, by simp, rfl, rfl, rfl, ?_⟩
    · have := World.alloc_heap_new (e.w.alloc (.deferred (some []))) (.loop { state := .ready, pending := none, fn, tmps := a.tmps, params := ps, assign := as, body, defers := e.w.heap.size })
      rw [World.size_alloc] at this
      exact this
    · intro b hb
      have : b = e.w.heap.size := by simpa using hb
      subst this
      refine ⟨Nat.le_refl _, by omega, ?_⟩
      rw [heap_alloc _ _ _ (by simp)]
      exact World.alloc_heap_new _ _
    · intro i hi
      rw [heap_alloc _ _ _ (by simp; omega), heap_alloc _ _ _ hi]
  | some l0 =>
    obtain ⟨⟨x, hx⟩, _⟩ := hf.ro l0 hr
    refine ⟨e.w.heap.size, [], _, { state := .ready, pending := none, fn, tmps := a.tmps, params := ps, assign := as, body, defers := x.defers }, run_enterLoop_inner hx fn a.tmps ps as body, World.alloc_heap_new _ _, rfl, rfl, rfl, rfl, rfl, rfl, Nat.le_refl _, by simp, by simp, by simp, rfl, rfl, rfl, fun i hi => heap_alloc _ _ _ hi⟩

theorem cells_of_heap {w w' : World} (h : ∀ i, i < w.heap.size → w'.heap[i]? = w.heap[i]?) (a : Addr) (ha : a.block < w.heap.size) : w'.cell? a = w.cell? a ∧ w'.frozen? a = w.frozen? a :=
  ⟨World.cell?_of_block (h _ ha), World.frozen?_of_block (h _ ha)⟩
theorem keep_of_heap {w w' : World} (h1 : w'.os = w.os) (h2 : w'.tape = w.tape) (h3 : w'.output = w.output) (h4 : w.heap.size ≤ w'.heap.size) (h : ∀ i, i < w.heap.size → w'.heap[i]? = w.heap[i]?) (hn : n0 ≤ w.heap.size) (hp : ∀ a, PR a → a.block < w.heap.size) :
    Keep n0 PR (fun _ => False) w w' :=
  ⟨h1, h2, h3, h4, fun r hr => h r (by omega), fun a ha => cells_of_heap h a (hp a ha), fun r o hr _ _ => by rw [h r (Array.getElem?_eq_some_iff.1 hr).1]; exact hr⟩

theorem invoke_func {f : FuncId} {us vs : List Value} {y : Value} (he : enters P f = true) (w : World) : (invoke (.fn (.func f) ⟨vs⟩) (⟨us⟩ ++ #[y])).run P w = .ok (.enter f ⟨us ++ [y] ++ vs⟩) w := by
  unfold enters at he
  split at he
  · rename_i fn hfn
    simp only [Bool.and_eq_true, Bool.not_eq_true'] at he
    have h1 : ¬ (fn.name = "runtime.NumGoroutine") := by simpa using he.1
    have h2 : ¬ (fn.body = none) := fun hh => by simp [hh] at he
    simp [invoke, callFunc, hfn, h1, h2]
  · cases he

theorem range_sound (hc : CallOk P rec) {an : An} {f k : Nat} {g : Operand} {ps : Array Tmp} {as body : Code} : CodeOk P rec an f nt Γ k (.rangeFunc g ps as body) := by
  intro s s' ex h n0 PR r k0 e reg a Q n st hres hf hk0 hK
  simp only [codeD] at h
  split at h
  · rename_i hid xs ys hg
    split at h
    · cases h
    · rename_i hent
      have hent' : enters P hid = true := by simpa using hent
      split at h
      · rename_i dv m1 hrec
        split at h
        · rename_i ex' hex
          -- what stands behind the call, trimmed or not
          have htrim : ∃ ex2, ex = ex2 ∧ m1.pd[s.m.pd.length]? = some ex2 ∧ s'.fr = s.fr ∧ ((s'.m = m1) ∨ trimM s.m.st.length (.tup []) m1 = some s'.m) := by
            split at h
            · rw [Option.map_eq_some_iff] at h
              obtain ⟨m2, htr, hh⟩ := h
              cases hh
              exact ⟨ex, rfl, hex, rfl, .inr htr⟩
            · cases h
              exact ⟨ex, rfl, hex, rfl, .inl rfl⟩
          obtain ⟨_, rfl, hex, hfr, htrim⟩ := htrim
          have hgr := ev_rd (tm := a.tmps) (df := a.defers) (s := fun _ => False) hf.rd g
          rw [hg] at hgr
          generalize hag : (⟨a.tmps, a.defers⟩ : Act).eval g = ag at hgr
          have hag' : a.eval g = ag := hag
          cases hgr with
          | fn h1 h2 =>
            rename_i us vs
            refine wpIn_rangeFunc fun fn _ => ?_
            obtain ⟨l, mk, w1, rc, hen, hl, hps, has, hbody, htm, hst, hpe, hle, hmk, hnd, hsz, ho1, ho2, ho3, hheap⟩ := enterLoop_ok hf fn ps as body P
            refine ⟨l, mk.map mark, w1, { target := .fn (.func hid) ⟨vs⟩, args := ⟨us⟩ ++ #[.func (.yield l) #[] #[]] }, w1, hid, ⟨us ++ [.func (.yield l) #[] #[]] ++ vs⟩, w1, hen, ?_, fun _ _ => trivial, invoke_func hent' w1, fun hh => by simp [Fence.wide] at hh, ?_⟩
            · have hm1 : (#[Operand.const (.func (.yield l) #[] #[])] : Array Operand).map a.eval = #[.func (.yield l) #[] #[]] := by simp [Act.eval]
              simp only [resolve, hag', Deferred.ofValue, Sem.run_pure, hm1]
            · -- the state behind the entry
              have keep1 : Keep n0 PR (fun _ => False) e.w w1 := keep_of_heap ho1 ho2 ho3 (by omega) hheap st.mi.n0le st.mi.prlt
              have hla1 : ∀ (k l' : Nat), e.la[k]? = some l' → (e.la ++ [l])[k]? = some l' := fun k l' hh => by rw [List.getElem?_append_left (List.getElem?_eq_some_iff.1 hh).1]; exact hh
              obtain ⟨mi1, x1⟩ := st.mi.world (w' := w1) (la' := e.la ++ [l]) (by omega) (fun a ha => cells_of_heap hheap a ha) hla1
              let e1 : E := { e with w := w1, la := e.la ++ [l] }
              let cx : Ctx := { f, nt, fr := fun t => unflag (s.fr t), params := ps, assign := as, body }
              have hlp : (e.la ++ [l])[s.m.pd.length]? = some l := by rw [← st.la]; simp
              have hlt0 : ∀ k x, (k, x) ∈ Γ → k < s.m.pd.length := fun k x hm => by
                obtain ⟨l0, _, hl0, _⟩ := st.gi.at_ k x hm
                rw [← st.la]; exact (List.getElem?_eq_some_iff.1 hl0).1
              have g0 : GI n0 e1 Γ s.m.pd := st.gi.keep x1 keep1 (SameK.of_eq rfl)
              have g1 : GI n0 e1 ((s.m.pd.length, cx) :: Γ) (s.m.pd ++ [.normal]) := by
                refine ⟨g0.gl, g0.mp, fun k x hm => ?_, fun k k' x x' l' hm hm' hl1 hl2 => ?_⟩
                · rcases List.mem_cons.1 hm with hm | hm
                  · cases hm
                    refine ⟨l, rc, hlp, hl, hps, has, hbody, by rw [htm]; exact hf.nt, fun t => ?_, ?_⟩
                    · rw [htm]
                      exact ((hf.rd t).mono x1 (fun _ h => h)).unflag
                    · simp only [List.getElem?_append_right (Nat.le_refl _), Nat.sub_self, List.getElem?_cons_zero]
                      exact ⟨hst, hpe⟩
                  · obtain ⟨l0, r0, h0, hat⟩ := g0.at_ k x hm
                    refine ⟨l0, r0, h0, hat.heap, hat.params, hat.assign, hat.body, hat.nt, hat.rd, ?_⟩
                    rw [List.getElem?_append_left (hlt0 k x hm)]; exact hat.state
                · have low : ∀ k x, (k, x) ∈ Γ → (e.la ++ [l])[k]? ≠ some l := fun k x hm hh => by
                    obtain ⟨l0, _, h0, _⟩ := st.gi.at_ k x hm
                    have h0' := hla1 _ _ h0
                    rw [hh] at h0'; cases h0'
                    have := st.lt l (List.mem_of_getElem? h0)
                    omega
                  rcases List.mem_cons.1 hm with hm | hm <;> rcases List.mem_cons.1 hm' with hm' | hm'
                  · cases hm; cases hm'; rfl
                  · cases hm
                    have hl1 : (e.la ++ [l])[s.m.pd.length]? = some l' := hl1
                    rw [hlp] at hl1; cases hl1
                    exact absurd hl2 (low k' x' hm')
                  · cases hm'
                    have hl2 : (e.la ++ [l])[s.m.pd.length]? = some l' := hl2
                    rw [hlp] at hl2; cases hl2
                    exact absurd hl1 (low k x hm)
                  · exact g0.inj k k' x x' l' hm hm' hl1 hl2
              have st1 : St n0 PR ((s.m.pd.length, cx) :: Γ) e1 reg { s.m with pd := s.m.pd ++ [.normal] } := by
                refine ⟨st.st, by simp [e1, st.la], fun l' hl' => ?_, mi1, g1⟩
                show n0 ≤ l' ∧ l' < w1.heap.size
                have hn0 := st.mi.n0le
                rcases List.mem_append.1 hl' with hh | hh
                · have := st.lt l' hh; omega
                · simp at hh; omega
              obtain ⟨sh, hr0, hs0, hback⟩ := st1.hide hres
              have hargs : RDs e1 (xs ++ [.yl s.m.pd.length] ++ ys) (us ++ [.func (.yield l) #[] #[]] ++ vs) :=
                ((h1.mono x1).append (.cons (.yl hlp) .nil)).append (h2.mono x1)
              have hcall := hc.call _ _ _ _ _ _ hrec n0 _ e1 _ _ (n - 1) sh hr0 hs0 hargs
              refine CallsIn.fence r (CallsIn.mono hcall fun en w' hb => ?_)
              obtain ⟨v, e2, reg2, rfl, rfl, st2, to2, _, hsl⟩ := hback _ _ _ _ hb
              obtain ⟨l', r2, hl', hat2⟩ := st2.gi.at_ s.m.pd.length cx (by simp)
              have : l' = l := by have := to2.ext.la _ _ hlp; rw [hl'] at this; cases this; rfl
              subst this
              have hstate := hat2.state
              rw [hex] at hstate
              have hnb : r2.state ≠ .busy := by
                cases ex with
                | normal => obtain ⟨h1, _⟩ := hstate; rw [h1]; simp
                | exit id => obtain ⟨h1, _⟩ := hstate; rw [h1]; simp
                | ret => obtain ⟨h1, _⟩ := hstate; rw [h1]; simp
              have hend := run_endLoop (P := P) hat2.heap hnb
              -- the state behind the statement
              let w4 := e2.w.putObj l' (.loop { r2 with state := .exhausted })
              obtain ⟨mi3, x3⟩ := st2.mi.world (w' := w4) (la' := e2.la) (by simp [w4]) (fun a _ => putObj_cells hat2.heap rfl rfl a) (fun _ _ h => h)
              let e3 : E := { e2 with w := w4 }
              have hx03 : Ext e e3 := (x1.trans to2.ext).trans x3
              have hXne : ∀ rr, X Γ e.la rr → rr < e.w.heap.size := fun rr hX => by
                obtain ⟨k, x, hm, hh⟩ := hX
                exact (st.lt rr (List.mem_of_getElem? hh)).2
              have hXup : ∀ rr, rr < e.w.heap.size → ¬ X Γ e.la rr → ¬ X ((s.m.pd.length, cx) :: Γ) e1.la rr := fun rr hlt hn hX => by
                obtain ⟨k, x, hm, hh⟩ := hX
                rcases List.mem_cons.1 hm with hm | hm
                · cases hm
                  have hh : (e.la ++ [l'])[s.m.pd.length]? = some rr := hh
                  rw [hlp] at hh; cases hh
                  omega
                · obtain ⟨l0, _, h0, _⟩ := st.gi.at_ k x hm
                  have h0' := hla1 _ _ h0
                  have hh : (e.la ++ [l'])[k]? = some rr := hh
                  rw [hh] at h0'; cases h0'
                  exact hn ⟨k, x, hm, h0⟩
              have hput : ∀ rr, rr ≠ l' → w4.heap[rr]? = e2.w.heap[rr]? := fun rr hne => World.putObj_heap_other hne
              have keep3 : Keep n0 PR (fun r => X Γ e.la r ∨ MB e r) e.w w4 := by
                have k2 := to2.keep
                have kp : Keep n0 PR (fun rr => rr = l') e2.w w4 := putObj_keep hat2.heap rfl rfl (by have := st.mi.n0le; omega)
                refine ⟨kp.os.trans (k2.os.trans keep1.os), kp.tape.trans (k2.tape.trans keep1.tape), kp.output.trans (k2.output.trans keep1.output), Nat.le_trans keep1.size (Nat.le_trans k2.size kp.size), fun rr hr => (kp.old rr hr).trans ((k2.old rr hr).trans (keep1.old rr hr)),
                  fun x hx => ⟨(kp.pr x hx).1.trans ((k2.pr x hx).1.trans (keep1.pr x hx).1), (kp.pr x hx).2.trans ((k2.pr x hx).2.trans (keep1.pr x hx).2)⟩, fun rr o hr hc' hn => ?_⟩
                have hlt : rr < e.w.heap.size := (Array.getElem?_eq_some_iff.1 hr).1
                rw [hput rr (by omega)]
                exact k2.obj rr o (keep1.obj rr o hr hc' (fun h => h)) hc' (fun hh => hh.elim (hXup rr hlt fun h => hn (.inl h)) fun hb => hn (.inr hb))
              have to3 : To n0 PR Γ e e3 := by
                refine ⟨hx03, keep3, fun rr hr => (to2.maps rr hr).imp (fun h => h) (fun h => Nat.le_trans keep1.size h), fun rr x hX hh => ?_⟩
                have hlt := hXne rr hX
                obtain ⟨r', h1', h2'⟩ := to2.loops rr x (by
                  obtain ⟨k, c, hm, hk⟩ := hX
                  exact ⟨k, c, by simp [hm], hla1 _ _ hk⟩) (keep1.obj rr _ hh rfl (fun h => h))
                exact ⟨r', by show w4.heap[rr]? = _; rw [hput rr (by omega)]; exact h1', h2'⟩
              have g3 : GI n0 e3 Γ m1.pd := by
                refine ⟨st.gi.gl.to hx03, st2.gi.mp.to x3 (SameK.of_eq rfl) (fun rr o hb ho => by
                  show w4.heap[rr]? = _
                  rw [hput rr (fun hh => MB.not st2.gi hat2.heap rfl (hh ▸ hb))]; exact ho), fun k x hm => ?_, fun k k' x x' lx hm hm' => st2.gi.inj k k' x x' lx (by simp [hm]) (by simp [hm'])⟩
                obtain ⟨lk, rk, hlk, hat⟩ := st2.gi.at_ k x (by simp [hm])
                have hne : lk ≠ l' := fun hh => by
                  subst hh
                  have := st2.gi.inj k s.m.pd.length x cx lk (by simp [hm]) (by simp) hlk hl'
                  have := hlt0 k x hm
                  omega
                exact ⟨lk, rk, hlk, by show w4.heap[lk]? = _; rw [hput lk hne]; exact hat.heap, hat.params, hat.assign, hat.body, hat.nt, fun t => (hat.rd t).mono x3 (fun _ h => h), hat.state⟩
              have st3 : St n0 PR Γ e3 (slotRes reg2 none) m1 := ⟨st2.st, st2.la, fun l hl => by show n0 ≤ l ∧ l < w4.heap.size; have := st2.lt l hl; simpa [w4] using this, mi3.slotRes none, g3⟩
              have hf3 : Fr r k0 nt Γ e3 (slotRes reg2 none) s.fr { a with defers := mk.map mark ++ a.defers } := by
                refine ⟨fun t => (hf.rd t).mono hx03 fun x hx => ?_, hf.nt, ?_, hf.ro_to st.gi to3⟩
                · simp only [slotRes]
                  split
                  · rename_i hh; cases hh
                  · exact hsl t x hx
                · obtain ⟨rs, h1, h2, h3⟩ := hf.df_to st.gi to3
                  refine ⟨mk ++ rs, by simp [h1], List.nodup_append.2 ⟨hnd, h2, fun x hx y hy hxy => ?_⟩, fun b hb => ?_⟩
                  · subst hxy
                    obtain ⟨rs0, h1', _, h3'⟩ := hf.df
                    have hmk := (hmk x hx).1
                    have : mark x ∈ a.defers := by rw [h1]; exact List.mem_map.2 ⟨x, hy, rfl⟩
                    rw [h1'] at this
                    obtain ⟨x', hx', hxx⟩ := List.mem_map.1 this
                    have hxx' : x' = x := by simp [mark] at hxx; exact hxx
                    subst hxx'
                    have := (Array.getElem?_eq_some_iff.1 (h3' x' hx').2).1
                    omega
                  · rcases List.mem_append.1 hb with hb | hb
                    · obtain ⟨q1, q2, q3⟩ := hmk b hb
                      refine ⟨by omega, ?_⟩
                      show w4.heap[b]? = _
                      rw [hput b (by omega)]
                      refine to2.obj g1 q3 rfl rfl fun hX => ?_
                      obtain ⟨lx, hlx⟩ := X.loop g1 hX
                      have hlx : w1.heap[b]? = some (.loop lx) := hlx
                      rw [q3] at hlx; cases hlx
                    · exact h3 b hb
              have hQ : Q (exitOf ex) { a with defers := mk.map mark ++ a.defers } w4 := by
                rcases htrim with htrim | htrim
                · exact hK _ e3 _ (by rw [htrim]; exact st3) (noRes_slotRes _ _) (by rw [hfr]; exact hf3) to3
                · obtain ⟨e4, hw4, st4, to4, _⟩ := trim_sound htrim st3 st.gi (by rw [st.st]; exact Nat.le_refl _) to3 (RD.tup (s := fun _ => False) .nil)
                  have := hK { a with defers := mk.map mark ++ a.defers } e4 _ st4 (noRes_slotRes _ _) (by
                    rw [hfr]
                    refine ⟨fun t => (hf.rd t).mono to4.ext fun x hx => ?_, hf3.nt, by rw [hw4]; exact hf3.df, hf.ro_to st.gi to4⟩
                    simp only [slotRes]
                    split
                    · rename_i hh; cases hh
                    · exact hsl t x hx) to4
                  rw [hw4] at this
                  exact this
              refine ⟨r2.pending, w4, hend, ?_⟩
              cases ex with
              | normal =>
                obtain ⟨_, hp⟩ := hstate
                rw [hp]; exact hQ
              | exit id =>
                obtain ⟨_, hp⟩ := hstate
                rw [hp]; exact wpIn_exit hQ
              | ret =>
                obtain ⟨_, hp⟩ := hstate
                rw [hp]; exact wpIn_ret hQ
        · cases h
      · cases h
  · cases h

theorem stepR_scope {P : Program} {b : Frame} {a : Act} {k : List Item} {cs : List Frame} {w : World} {c : Code} : step P (lone (b.atR a (.code (.scope c) :: k)) cs w) = .next (lone (b.atR a (.code c :: .inScope c :: k)) cs w) :=
  step_lone_go (by simp [stepG, stepG.exec, Frame.atR])
theorem stepR_inScope {P : Program} {b : Frame} {a : Act} {k : List Item} {cs : List Frame} {w : World} {c : Code} : step P (lone (b.atR a (.inScope c :: k)) cs w) = .next (lone (b.atR a k) cs w) :=
  step_lone_go (by simp [stepG, stepG.exec, Frame.atR])
/-- Without a goto. -/
theorem wpIn_scope {F : Fence} {n : Nat} {P : Program} {Q : Exit → Act → World → Prop} {a : Act} {w : World} {c : Code} (h : c.wpIn F n P (fun e a w => match e with | .goto _ => False | e => Q e a w) a w) : (Code.scope c).wpIn F n P Q a w := by
  intro b k cs hro hb hr
  have h0 : (lone (b.atR a (.code (.scope c) :: k)) cs w).fenced P F := fenced_calm hb hr rfl
  obtain ⟨e, a₁, w₁, hq, harr⟩ := h b (.inScope c :: k) cs hro hb hr
  cases e with
  | normal => exact ⟨.normal, a₁, w₁, hq, .head h0 stepR_scope (StepsIn.trans harr (.one (fenced_calm hb hr rfl) stepR_inScope))⟩
  | exit id =>
    have hx : exitTo id (.inScope c :: k) = exitTo id k := by simp [exitTo]
    exact ⟨.exit id, a₁, w₁, hq, fun k' hk => .head h0 stepR_scope (harr.1 k' (by rw [hx]; exact hk)),
      fun hr' hk => let ⟨k₁, h1, h2⟩ := harr.2 hr' (by rw [hx]; exact hk); ⟨k₁, h1, .head h0 stepR_scope h2⟩⟩
  | goto l => exact hq.elim
  | ret => exact ⟨_, a₁, w₁, hq, .of_steps (.one h0 stepR_scope) harr⟩
  | panic ch => exact ⟨_, a₁, w₁, hq, .of_steps (.one h0 stepR_scope) harr⟩
  | outgrown => exact ⟨_, a₁, w₁, hq, .of_steps (.one h0 stepR_scope) harr⟩
theorem code_sound (hm : P.follows .mixedOrders = true) (hc : CallOk P rec) (hrd : RoundOk P rec) {an : An} {f k : Nat} : ∀ c : Code, CodeOk P rec an f nt Γ k c
  | .skip => by
    intro s s' ex h n0 PR r k0 e reg a Q n st hres hf hk0 hK
    simp only [codeD] at h; cases h
    exact wpIn_skip (hK a e reg st hres hf (To.refl ..))
  | .region rid ops draw => by
    intro s s' ex h n0 PR r k0 e reg a Q n st hres hf hk0 hK
    simp only [codeD] at h
    rw [Option.map_eq_some_iff] at h
    obtain ⟨s1, hs, hh⟩ := h
    cases hh
    exact region_sound hm hc hrd hs st hres hf hK n
  | .seq x y => by
    intro s s' ex h n0 PR r k0 e reg a Q n st hres hf hk0 hK
    have ihx := code_sound hm hc hrd (an := an) (f := f) (k := k) x
    have ihy := code_sound hm hc hrd (an := an) (f := f) (k := k) y
    simp only [codeD] at h
    refine wpIn_seq ?_
    split at h
    · rename_i s1 hs1
      refine ihx s s1 .normal hs1 n0 PR r k0 e reg a _ n st hres hf hk0 fun a' e1 reg1 st1 hres1 hf1 to1 => ?_
      exact ihy s1 s' ex h n0 PR r k0 e1 reg1 a' Q n st1 hres1 hf1 (Nat.le_trans hk0 to1.size) fun a2 e2 reg2 st2 hres2 hf2 to2 => hK a2 e2 reg2 st2 hres2 hf2 (to1.trans st.gi to2)
    · rename_i hne
      cases ex with
      | normal => exact absurd h (hne s')
      | _ => exact ihx s s' _ h n0 PR r k0 e reg a _ n st hres hf hk0 fun a' e1 reg1 st1 hres1 hf1 to1 => hK a' e1 reg1 st1 hres1 hf1 to1
  | .cond x y z => by
    intro s s' ex h n0 PR r k0 e reg a Q n st hres hf hk0 hK
    have ihy := code_sound hm hc hrd (an := an) (f := f) (k := k) y
    have ihz := code_sound hm hc hrd (an := an) (f := f) (k := k) z
    simp only [codeD] at h
    have hx := ev_rd (tm := a.tmps) (df := a.defers) (s := fun _ => False) hf.rd x
    split at h
    · rename_i hv
      rw [hv] at hx
      generalize hax : (⟨a.tmps, a.defers⟩ : Act).eval x = ax at hx
      cases hx with
      | c hx =>
        cases hx
        exact wpIn_cond_true hax (ihy s s' ex h n0 PR r k0 e reg a Q n st hres hf hk0 hK)
    · rename_i hv
      rw [hv] at hx
      generalize hax : (⟨a.tmps, a.defers⟩ : Act).eval x = ax at hx
      cases hx with
      | c hx =>
        cases hx
        exact wpIn_cond_false hax (ihz s s' ex h n0 PR r k0 e reg a Q n st hres hf hk0 hK)
    · cases h
  | .block id x => by
    intro s s' ex h n0 PR r k0 e reg a Q n st hres hf hk0 hK
    have ihx := code_sound hm hc hrd (an := an) (f := f) (k := k) x
    simp only [codeD] at h
    refine wpIn_block ?_
    split at h
    · rename_i id' s1 hs1
      cases h
      refine ihx s _ (.exit id') hs1 n0 PR r k0 e reg a _ n st hres hf hk0 fun a' e1 reg1 st1 hres1 hf1 to1 => ?_
      have hQ := hK a' e1 reg1 st1 hres1 hf1 to1
      show (if id' = id then Q .normal a' e1.w else Q (.exit id') a' e1.w)
      split
      · rename_i hh; rw [if_pos hh] at hQ; exact hQ
      · rename_i hh; rw [if_neg hh] at hQ; exact hQ
    · rename_i hne
      cases ex with
      | exit id' => exact absurd h (hne id' s')
      | _ => exact ihx s s' _ h n0 PR r k0 e reg a _ n st hres hf hk0 fun a' e1 reg1 st1 hres1 hf1 to1 => hK a' e1 reg1 st1 hres1 hf1 to1
  | .loop x => by
    intro s s' ex h n0 PR r k0 e reg a Q n st hres hf hk0 hK
    have ihx := code_sound hm hc hrd (an := an) (f := f) (k := k) x
    simp only [codeD] at h
    exact wpIn_loop_rounds k (loop_sound ihx st.gi (by rw [st.st]; exact Nat.le_refl _) hK n k s a e reg h st hres hf hk0 (To.refl ..))
  | .exit id => by
    intro s s' ex h n0 PR r k0 e reg a Q n st hres hf hk0 hK
    simp only [codeD] at h; cases h
    exact wpIn_exit (hK a e reg st hres hf (To.refl ..))
  | .ret => by
    intro s s' ex h n0 PR r k0 e reg a Q n st hres hf hk0 hK
    simp only [codeD] at h; cases h
    exact wpIn_ret (hK a e reg st hres hf (To.refl ..))
  | .rangeFunc g ps as body => range_sound hc
  | .scope x => by
    intro s s' ex h n0 PR r k0 e reg a Q n st hres hf hk0 hK
    have ihx := code_sound hm hc hrd (an := an) (f := f) (k := k) x
    simp only [codeD] at h
    refine wpIn_scope (ihx s s' ex h n0 PR r k0 e reg a _ n st hres hf hk0 fun a' e' reg' st' hres' hf' to => ?_)
    have := hK a' e' reg' st' hres' hf' to
    cases ex <;> exact this
  | .label l => by
    intro s s' ex h n0 PR r k0 e reg a Q n st hres hf hk0 hK
    simp only [codeD] at h; cases h
    exact wpIn_label (hK a e reg st hres hf (To.refl ..))
  | .goto l => by intro s s' ex h; simp [codeD] at h
  | .refuse l => by intro s s' ex h; simp [codeD] at h
end
end Go.Abs
