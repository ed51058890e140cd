/-
  Part of the proof: printed by the session's own program out of the program's form, or typed; it states no claim by itself.
-/
import Derived.Test.YtkfmoodaplelnaaAbs35
/-
  Abs39: what a piece of code may come to, where the model leaves it open: triples over the interpreter's states.
-/
set_option linter.unusedVariables false
set_option linter.unusedSimpArgs false
set_option linter.unusedSectionVars false
namespace Go.Abs
open Go Go.RowKit
variable [Fl]
section
variable [Gl] {P : Program} {Γ : List (Nat × Ctx)} {nt : Nat}
/-- From a state on a piece of code is left in a state of R, whatever the model chooses. -/
def Tri (P : Program) (nt : Nat) (Γ : List (Nat × Ctx)) (c : Code) (s : S) (R : Ex → S → Prop) : Prop :=
  ∀ n0 PR r k0 e reg a Q n, St n0 PR Γ e reg s.m → NoRes reg → Fr r k0 nt Γ e reg s.fr a → k0 ≤ e.w.heap.size → (∀ ex s', R ex s' → NextX n0 PR Γ r k0 nt e ex s' Q) → c.wpIn (fence r) n P Q a e.w
theorem Tri.mono {c : Code} {s : S} {R R' : Ex → S → Prop} (h : Tri P nt Γ c s R) (hR : ∀ ex s', R ex s' → R' ex s') : Tri P nt Γ c s R' :=
  fun n0 PR r k0 e reg a Q n st hres hf hk hK => h n0 PR r k0 e reg a Q n st hres hf hk fun ex s' hr => hK ex s' (hR ex s' hr)
theorem Tri.of_code (hm : P.follows .mixedOrders = true) {rec : Rec} (hc : CallOk P rec) (hrd : RoundOk P rec) {an : An} {f k : Nat} {c : Code} {s s' : S} {ex : Ex} (h : codeD P rec an f nt Γ k c s = some (ex, s')) : Tri P nt Γ c s fun x y => x = ex ∧ y = s' :=
  fun n0 PR r k0 e reg a Q n st hres hf hk hK => code_sound hm hc hrd c s s' ex h n0 PR r k0 e reg a Q n st hres hf hk (hK ex s' ⟨rfl, rfl⟩)
theorem Tri.of_go {X : Sys} (hm : X.P.follows .mixedOrders = true) (hp : ∀ f p, X.pr f = some p → PrimOk X.P f p) {f : Nat} {c : Code} {s s' : S} {ex : Ex} (h : X.Go f nt Γ c s ex s') : Tri X.P nt Γ c s fun x y => x = ex ∧ y = s' := by
  obtain ⟨k, hk⟩ := h
  obtain ⟨h1, h2⟩ := evN_sound hm X.an hp k
  exact Tri.of_code hm h1 h2 (hk k (Nat.le_refl _))
theorem Tri.skip {s : S} : Tri P nt Γ .skip s fun x y => x = .normal ∧ y = s :=
  fun n0 PR r k0 e reg a Q n st hres hf hk hK => wpIn_skip (hK .normal s ⟨rfl, rfl⟩ a e reg st hres hf (To.refl ..))
theorem Tri.exit {s : S} {id : Nat} : Tri P nt Γ (.exit id) s fun x y => x = .exit id ∧ y = s :=
  fun n0 PR r k0 e reg a Q n st hres hf hk hK => wpIn_exit (hK (.exit id) s ⟨rfl, rfl⟩ a e reg st hres hf (To.refl ..))
theorem Tri.ret {s : S} : Tri P nt Γ .ret s fun x y => x = .ret ∧ y = s :=
  fun n0 PR r k0 e reg a Q n st hres hf hk hK => wpIn_ret (hK .ret s ⟨rfl, rfl⟩ a e reg st hres hf (To.refl ..))
theorem Tri.seq {x y : Code} {s : S} {R1 R : Ex → S → Prop} (h1 : Tri P nt Γ x s R1) (h2 : ∀ s1, R1 .normal s1 → Tri P nt Γ y s1 R) (h3 : ∀ ex s1, R1 ex s1 → ex ≠ .normal → R ex s1) : Tri P nt Γ (.seq x y) s R := by
  intro n0 PR r k0 e reg a Q n st hres hf hk hK
  refine wpIn_seq (h1 n0 PR r k0 e reg a _ n st hres hf hk fun ex s1 hr a' e1 reg1 st1 hres1 hf1 to1 => ?_)
  cases ex with
  | normal => exact h2 s1 hr n0 PR r k0 e1 reg1 a' Q n st1 hres1 hf1 (Nat.le_trans hk to1.size) fun ex s2 hr2 a2 e2 reg2 st2 hres2 hf2 to2 => hK ex s2 hr2 a2 e2 reg2 st2 hres2 hf2 (to1.trans st.gi to2)
  | _ => exact hK _ s1 (h3 _ s1 hr (by simp)) a' e1 reg1 st1 hres1 hf1 to1
theorem Tri.cond_true {x : Operand} {y z : Code} {s : S} {R : Ex → S → Prop} (hv : ev s.fr x = .c (.sc (.bool true))) (h : Tri P nt Γ y s R) : Tri P nt Γ (.cond x y z) s R := by
  intro n0 PR r k0 e reg a Q n st hres hf hk hK
  have hx := ev_rd (tm := a.tmps) (df := a.defers) (s := fun _ => False) hf.rd x
  rw [hv] at hx
  generalize hax : (⟨a.tmps, a.defers⟩ : Act).eval x = ax at hx
  cases hx with
  | c hx =>
    cases hx
    exact wpIn_cond_true hax (h n0 PR r k0 e reg a Q n st hres hf hk hK)
theorem Tri.cond_false {x : Operand} {y z : Code} {s : S} {R : Ex → S → Prop} (hv : ev s.fr x = .c (.sc (.bool false))) (h : Tri P nt Γ z s R) : Tri P nt Γ (.cond x y z) s R := by
  intro n0 PR r k0 e reg a Q n st hres hf hk hK
  have hx := ev_rd (tm := a.tmps) (df := a.defers) (s := fun _ => False) hf.rd x
  rw [hv] at hx
  generalize hax : (⟨a.tmps, a.defers⟩ : Act).eval x = ax at hx
  cases hx with
  | c hx =>
    cases hx
    exact wpIn_cond_false hax (h n0 PR r k0 e reg a Q n st hres hf hk hK)
def outOf (id : Nat) : Ex → Ex
  | .exit id' => if id' = id then .normal else .exit id'
  | ex => ex
theorem Tri.block {id : Nat} {x : Code} {s : S} {R : Ex → S → Prop} (h : Tri P nt Γ x s fun ex s' => R (outOf id ex) s') : Tri P nt Γ (.block id x) s R := by
  intro n0 PR r k0 e reg a Q n st hres hf hk hK
  refine wpIn_block (h n0 PR r k0 e reg a _ n st hres hf hk fun ex s1 hr a' e1 reg1 st1 hres1 hf1 to1 => ?_)
  have hQ := hK _ s1 hr a' e1 reg1 st1 hres1 hf1 to1
  cases ex with
  | exit id' =>
    show (if id' = id then Q .normal a' e1.w else Q (.exit id') a' e1.w)
    unfold outOf at hQ
    split
    · rename_i hh; simp only [if_pos hh] at hQ; exact hQ
    · rename_i hh; simp only [if_neg hh] at hQ; exact hQ
  | _ => exact hQ
theorem Tri.scope {x : Code} {s : S} {R : Ex → S → Prop} (h : Tri P nt Γ x s R) : Tri P nt Γ (.scope x) s R := by
  intro n0 PR r k0 e reg a Q n st hres hf hk hK
  refine wpIn_scope (h n0 PR r k0 e reg a _ n st hres hf hk fun ex s1 hr a' e1 reg1 st1 hres1 hf1 to1 => ?_)
  have := hK ex s1 hr a' e1 reg1 st1 hres1 hf1 to1
  cases ex <;> exact this
/-- A loop, by an invariant and a measure. -/
theorem Tri.loop {x : Code} {I : Nat → S → Prop} {R : Ex → S → Prop} (h : ∀ j s, I j s → Tri P nt Γ x s fun ex s' => (ex = .normal ∧ ∃ j', j' < j ∧ I j' s') ∨ (ex ≠ .normal ∧ R ex s')) {j : Nat} {s : S} (hi : I j s) : Tri P nt Γ (.loop x) s R := by
  intro n0 PR r k0 e reg a Q n st hres hf hk hK
  have key : ∀ (fuel j : Nat) (s : S) (a : Act) (e' : E) (reg' : Own → Addr → Prop), j < fuel → I j s → St n0 PR Γ e' reg' s.m → NoRes reg' → Fr r k0 nt Γ e' reg' s.fr a → k0 ≤ e'.w.heap.size → To n0 PR Γ e e' → Code.roundsIn (fence r) n P x Q fuel a e'.w := by
    intro fuel
    induction fuel with
    | zero => intro j s a e' reg' hj; omega
    | succ fuel ih =>
      intro j s a e' reg' hj hi st' hres' hf' hk' to
      rw [roundsIn_succ]
      refine h j s hi n0 PR r k0 e' reg' a _ n st' hres' hf' hk' fun ex s1 hr a1 e1 reg1 st1 hres1 hf1 to1 => ?_
      rcases hr with ⟨rfl, j', hj', hi'⟩ | ⟨hne, hr⟩
      · exact ih j' s1 a1 e1 reg1 (by omega) hi' st1 hres1 hf1 (Nat.le_trans hk' to1.size) (to.trans st.gi to1)
      · have := hK ex s1 hr a1 e1 reg1 st1 hres1 hf1 (to.trans st.gi to1)
        cases ex with
        | normal => exact absurd rfl hne
        | _ => exact this
  exact wpIn_loop_rounds (j + 1) (key (j + 1) j s a e reg (by omega) hi st hres hf hk (To.refl ..))
/-- What a function comes to. -/
theorem Tri.call {f : FuncId} {fn : Func} {c : Code} (hfn : P.funcs[f]? = some fn) (hbody : fn.body = some c) {args : List DV} {m : M} {R : Ex → S → Prop} (h : Tri P fn.ntmps Γ c ⟨argFr args, m⟩ R) {d : DV} {m' : M}
    (hR : ∀ ex s, R ex s → (∀ id, ex ≠ .exit id) ∧ (resD P s fn.results.toList).map (fun ds => (resOne ds, s.m)) = some (d, m')) {n0 : Nat} {PR : Addr → Prop} {e : E} {reg : Own → Addr → Prop} {vs : List Value} (n : Nat) (st : St n0 PR Γ e reg m) (hres : NoRes reg) (hns : NoSlot reg) (hr : RDs e args vs) :
    CallsIn Fence.wide n P f ⟨vs⟩ e.w (Back n0 PR Γ e d m') := by
  refine callsIn_of_wp_marks hfn hbody trivial ?_
  refine h n0 PR none e.w.heap.size e reg _ _ n st hres ⟨fun t => argFr_rd hr _ t _, by simp; omega, ⟨[], rfl, List.nodup_nil, by simp⟩, by simp⟩ (Nat.le_refl _) fun ex s hRs a' e' reg' st' hres' hf' to => ?_
  obtain ⟨hne, hres2⟩ := hR ex s hRs
  rw [Option.map_eq_some_iff] at hres2
  obtain ⟨ds, hds, hh⟩ := hres2
  cases hh
  obtain ⟨rs, hd1, hd2, hd3⟩ := hf'.df
  have hl : LeavesInM Fence.wide n P fn a'.tmps (Back n0 PR Γ e (resOne ds) s.m) a'.defers .returning e'.w := by
    rw [hd1]
    refine leaves_sound st.mi.n0le rs e' reg' st' to hd2 hd3 fun e2 st2 x2 to2 => ?_
    obtain ⟨v, t, hv, hrv⟩ := results_run (P := P) st2.mi st2.st (fun t => (hf'.rd t).mono x2 (fun _ h => h)) hds
    exact ⟨v, hv, e2, outReg reg' t, rfl, ⟨st2.st, st2.la, st2.lt, st2.mi.outReg t, st2.gi⟩, noSlot_outReg t, to2, hrv⟩
  cases ex with
  | normal => exact hl
  | ret => exact hl
  | exit id => exact absurd rfl (hne id)
end
end Go.Abs

/-
  Abs40: the step of a range over a map that holds something: whichever entry the model hands out.
-/
set_option linter.unusedVariables false
set_option linter.unusedSimpArgs false
set_option linter.unusedSectionVars false
namespace Go.Abs
open Go Go.RowKit Go.MapKept
variable [Fl]
section
variable [Gl] {P : Program} {n0 : Nat} {PR : Addr → Prop} {Γ : List (Nat × Ctx)} {e e' : E} {reg reg' : Own → Addr → Prop} {fr : Nat → DV} {tm : Array Value} {df : List Deferred}
/-- Something is left: an entry that was not handed out is. -/
theorem run_next_pick {w : World} {ty : TypeId} {b r since stepped c : Nat} {seen : Array Nat} {xs : List MapEntry} (hb : w.heap[b]? = some (.mapIter (some r) since seen stepped)) (hr : w.heap[r]? = some (.map ⟨xs⟩ c)) (hold : ∀ x ∈ xs, x.born < since) (hsc : since ≤ stepped)
    (hsome : ∃ x ∈ xs, seen.contains x.born = false) : ∃ x ∈ xs, seen.contains x.born = false ∧ ∃ w1, (w1 = w ∨ w1 = w.drew) ∧ (Instr.next (.pointer (some ⟨b, 0, none⟩)) false ty).run P w = .ok (.tuple #[.bool true, x.key, x.val]) (w1.putObj b (.mapIter (some r) since (seen.push x.born) c)) := by
  have hgi : (getObj b).run P w = .ok (.mapIter (some r) since seen stepped) w := by simp [getObj, Sem.run, hb]
  simp only [Instr.next, Sem.run_bind, hgi, Result.andThen_ok, MapKept.run_getObj_map hr, next_test_false seen ⟨xs⟩ since stepped (by simpa using hold) hsc, Bool.false_eq_true, if_false]
  have hmem : ∀ x ∈ ((⟨xs⟩ : Array MapEntry).filter fun e => !seen.contains e.born).toList, x ∈ xs ∧ seen.contains x.born = false := fun x hx => by
    have := Array.mem_filter.1 (Array.mem_toList_iff.1 hx)
    refine ⟨by simpa using this.1, ?_⟩
    cases hc : seen.contains x.born with
    | false => rfl
    | true => rw [hc] at this; exact absurd this.2 (by decide)
  have hne0 : ((⟨xs⟩ : Array MapEntry).filter fun e => !seen.contains e.born).size ≠ 0 := fun h0 => by
    obtain ⟨x, hx, hs⟩ := hsome
    have : x ∈ (⟨xs⟩ : Array MapEntry).filter fun e => !seen.contains e.born := Array.mem_filter.2 ⟨by simpa using hx, by rw [hs]; rfl⟩
    rw [Array.eq_empty_of_size_eq_zero h0] at this
    simp at this
  generalize (⟨xs⟩ : Array MapEntry).filter (fun e => !seen.contains e.born) = L at hmem hne0
  have e1 : L.filter (fun x => decide (x.born < since)) = L := Array.filter_eq_self.2 (fun x hx => by simpa using hold x (hmem x (by simpa using hx)).1)
  have e2 : L.filter (fun x => decide (x.born ≥ since)) = #[] := by
    rw [Array.filter_eq_empty_iff]
    intro x hx
    have := hold x (hmem x (by simpa using hx)).1
    simp
    omega
  simp only [e1, e2, Array.append_empty]
  have hne : L.isEmpty = false := by simp [Array.isEmpty, hne0]
  simp only [hne, Bool.false_eq_true, if_false, Array.empty_append, Array.size_map]
  have hch : ∃ (j : Nat) (w1 : World), j < L.size ∧ (w1 = w ∨ w1 = w.drew) ∧ (choose (Question.mapNext L.size)).run P w = .ok j w1 := by
    by_cases hf : L.size ≤ 1
    · exact ⟨0, w, by omega, .inl rfl, by simp [choose, Sem.run, Question.forced, hf]⟩
    · exact ⟨_, w.drew, Nat.mod_lt _ (by omega), .inr rfl, by
        simp only [choose, Sem.run, Question.forced, decide_eq_true_eq, hf, if_false, Question.cut]
        rfl⟩
  obtain ⟨j, w1, hj, hal, hrun⟩ := hch
  obtain ⟨g1, g2⟩ := hmem L[j] (by simp)
  refine ⟨L[j], g1, g2, w1, hal, ?_⟩
  have hb1 : w1.heap[b]? = some (.mapIter (some r) since seen stepped) := by rcases hal with rfl | rfl <;> exact hb
  have hset : ∀ (o' : Obj), (setObj b o').run P w1 = .ok () (w1.putObj b o') := fun o' => by
    simp [setObj, Sem.run, hb1, World.putObj]
  simp only [hrun, Array.getElem?_map, Array.getElem?_eq_getElem hj, Option.map_some, Sem.run_bind, hset, Result.andThen_ok]
  rfl
theorem ItOk.pick {xs : List MapEntry} {c since stepped : Nat} {seen : Array Nat} {cur : Option Nat} {left : List Nat} (ok : ItOk xs c since stepped seen cur left) (hn : (xs.map (·.born)).Nodup) {j : Nat} {x : MapEntry} (hx : xs[j]? = some x) : ItOk xs c since c (seen.push x.born) (some j) (left.erase j) := by
  refine ⟨ok.since, rfl, fun i y hy => ?_, fun i hi => ok.lt i (List.mem_of_mem_erase hi), ok.nodup.erase j, fun i hi => ?_⟩
  · rw [contains_push, ok.nodup.mem_erase_iff]
    have h1 := ok.left_ i y hy
    by_cases hij : i = j
    · subst hij
      rw [hx] at hy; cases hy
      simp
    · have hne : (y.born == x.born) = false := by
        cases hc : y.born == x.born with
        | false => rfl
        | true =>
          have hb := beq_iff_eq.1 hc
          have hi' : (xs.map (·.born))[i]? = some y.born := by rw [List.getElem?_map, hy]; rfl
          have hj' : (xs.map (·.born))[j]? = some y.born := by rw [List.getElem?_map, hx, hb]; rfl
          exact absurd ((List.getElem?_inj (List.getElem?_eq_some_iff.1 hi').1 hn).1 (hi'.trans hj'.symm)) hij
      rw [hne, Bool.or_false]
      exact h1.trans ⟨fun h => ⟨hij, h⟩, fun h => h.2⟩
  · cases hi
    exact ⟨x, hx, by simp⟩
/-- The step, as the interpreter's state has it. -/
theorem next_done (m : MI n0 PR e reg) (mp : MpI n0 e) {o : Oper} {a : Act} {x : Operand} (ho : o.op = .next x false) {id ver mid mver n : Nat} {cur : Option Nat} {left : List Nat} {es : List (DV × DV)} (hx : RD e (fun _ => False) (.mi id ver mid mver) (a.eval x))
    (hg1 : getK e.st id ver = some (.it mid mver n cur left)) (hg2 : getK e.st mid mver = some (.map es)) (hn : es.length = n) (hl : left ≠ []) :
    ∃ j k v, j ∈ left ∧ es[j]? = some (k, v) ∧ ∃ u e', DoneM P n0 PR e reg o a { d := .tup [dB true, k, v], set := some (id, mkOb ver (.it mid mver n (some j) (left.erase j))) } u e' := by
  obtain ⟨o1, h1, h2, h3⟩ := getK_some hg1
  obtain ⟨o2, g1, g2, g3⟩ := getK_some hg2
  obtain ⟨hn0, r, since, seen, stepped, hb, hr, hit⟩ := mp.at_ id o1 _ h1 h3
  have hr2 := hr.mp_at g1 g2
  cases hr2
  obtain ⟨_, xs, cl2, hb2, hr3, hbn⟩ := mp.at_ mid o2 _ g1 g3
  obtain ⟨ys, d, k1, k2, k3⟩ := hit o2 g1 g2 (by rw [g3]; simp)
  rw [hb2] at k1; cases k1
  have hlen := hr3.length
  have ok := k3 (by omega)
  obtain ⟨j0, hj0⟩ := List.exists_mem_of_ne_nil left hl
  have hj0' := ok.lt j0 hj0
  obtain ⟨y, hy, hs, w1, hw1, hrun⟩ := run_next_pick (P := P) (ty := o.type) hb hb2 (fun x hx => by rw [ok.since]; exact hbn.1 x hx) (by rw [ok.since, ok.stepped]; exact Nat.le_refl _) ⟨_, List.getElem_mem hj0', (ok.left_ j0 _ (List.getElem?_eq_getElem hj0')).2 hj0⟩
  obtain ⟨j, hj⟩ := List.getElem?_of_mem hy
  have hjl : j < es.length := by rw [hlen]; exact (List.getElem?_eq_some_iff.1 hj).1
  obtain ⟨⟨k, v⟩, hkv⟩ : ∃ p, es[j]? = some p := ⟨es[j], List.getElem?_eq_getElem hjl⟩
  obtain ⟨y', hy', hk, hv⟩ := hr3.get hkv
  rw [hj] at hy'; cases hy'
  refine ⟨j, k, v, (ok.left_ j y hj).1 hs, hkv, ?_⟩
  have hheap : w1.heap = e.w.heap := by rcases hw1 with rfl | rfl <;> rfl
  have hb1 : w1.heap[(e.io id).b]? = some (.mapIter (some (e.io mid).b) since seen stepped) := by rw [hheap]; exact hb
  have hlt : (e.io id).b < w1.heap.size := (Array.getElem?_eq_some_iff.1 hb1).1
  have hcell : ∀ a, w1.cell? a = e.w.cell? a ∧ w1.frozen? a = e.w.frozen? a := fun a => by rcases hw1 with rfl | rfl <;> exact ⟨rfl, rfl⟩
  have hne : (e.io mid).b ≠ (e.io id).b := fun hh => by
    rw [hh, hb] at hb2; cases hb2
  obtain ⟨m2, x2⟩ := m.mk' (ob' := mkOb ver (.it mid mver n (some j) (left.erase j))) (f' := e.io id) (w' := w1.putObj (e.io id).b (.mapIter (some (e.io mid).b) since (seen.push y.born) cl2)) h1 rfl (.inr rfl) (by simp [hheap])
    (fun a _ => by obtain ⟨q1, q2⟩ := putObj_cells (o' := .mapIter (some (e.io mid).b) since (seen.push y.born) cl2) hb1 rfl rfl a; obtain ⟨q3, q4⟩ := hcell a; exact ⟨q1.trans q3, q2.trans q4⟩) ⟨by rw [h2]; exact Nat.le_refl _, fun _ => rfl⟩
  have hk1 : Keep n0 PR (MB e) e.w w1 := by
    rcases hw1 with rfl | rfl
    · exact Keep.refl ..
    · exact drew_keep _ _
  refine ⟨.tuple #[.bool true, y.key, y.val], _, .inl ?_, rfl, m2, ?_, x2, hk1.trans ((putObj_keep hb1 rfl rfl hn0).weak fun r hr => ⟨id, o1, h1, by rw [h3]; simp, hr.symm⟩), fun r hr => ?_, fun s => .tup (.cons (.c (.sc rfl)) (.cons (hk.mono x2 fun _ h => h) (.cons (hv.mono x2 fun _ h => h) .nil))), rfl⟩
  · generalize hax : a.eval x = ax at hx
    cases hx with
    | mi _ hvv =>
      have := (hvv o1 h1).2 h2.symm
      subst this
      simp [execOp, ho, hax, hrun]
  · refine mp.mk' h1 x2 (k := .it mid mver n (some j) (left.erase j)) rfl hn0 ⟨(e.io mid).b, since, seen.push y.born, cl2, World.putObj_heap_same hlt, hr.mono x2 fun _ h => h, fun o' ho' hv' hk' => ?_⟩ (fun i o3 hi q1 q2 hh => hi (mp.inj i id o3 o1 q1 q2 h1 (by rw [h3]; simp) hh)) (fun r o3 hr' q => by rw [World.putObj_heap_other hr', hheap]; exact q)
      (fun _ => ⟨by rw [h3]; simp, fun ys d hh => by rw [hb] at hh; cases hh⟩) (by rw [h2]; exact Nat.le_refl _)
    refine ⟨xs, cl2, ?_, by omega, fun _ => ok.pick hbn.2 hj⟩
    show (w1.putObj _ _).heap[_]? = _
    rw [World.putObj_heap_other hne, hheap]; exact hb2
  · rcases MB.mk' h1 hr with h | h
    · exact .inl h
    · exact .inl ⟨id, o1, h1, by rw [h3]; simp, h.symm⟩
/-- The first operation of a range's round: some entry that is left comes; the region's other operations follow. -/
theorem Tri.next {nt : Nat} {rec : Rec} (hc : CallOk P rec) (hrd : RoundOk P rec) {an : An} {f rid base : Nat} {ops : Array Oper} {o : Oper} {x : Operand} {s : S} {R : Ex → S → Prop} (h0 : ops[0]? = some o) (ho : o.op = .next x false) (hgd : o.guard = none) (hdst : dstOk nt o.dst = true)
    {id ver mid mver n : Nat} {cur : Option Nat} {left : List Nat} {es : List (DV × DV)} (hx : ev s.fr x = .mi id ver mid mver) (hg1 : getK s.m.st id ver = some (.it mid mver n cur left)) (hg2 : getK s.m.st mid mver = some (.map es)) (hn : es.length = n) (hl : left ≠ [])
    (hrest : ∀ j k v, j ∈ left → es[j]? = some (k, v) → ∃ s', stepsD P rec { an, f, nt, rid, ops, base, Γ } (List.range' 1 (ops.size - 1)) ⟨put s.fr o.dst (.tup [dB true, k, v]), setM s.m (some (id, mkOb ver (.it mid mver n (some j) (left.erase j))))⟩ = some s' ∧ R .normal s') :
    Tri P nt Γ (.region rid ops false) s R := by
  intro n0 PR r k0 e reg a Q nn st hres hf hk hK
  refine wpIn_region ?_
  have hsz : 0 < ops.size := (Array.getElem?_eq_some_iff.1 h0).1
  have hr : List.range ops.size = 0 :: List.range' 1 (ops.size - 1) := by
    rw [List.range_eq_range']
    obtain ⟨k, hk⟩ : ∃ k, ops.size = k + 1 := ⟨ops.size - 1, by omega⟩
    rw [hk, List.range'_succ]; rfl
  rw [hr, wpOpsIn_cons]
  unfold wpOpIn
  rw [h0]
  simp only
  have hw : wantedD ops o s.fr = some true := by unfold wantedD; rw [hgd]
  rw [wanted_rd hf.rd hw, if_pos rfl]
  refine ⟨fun _ _ => trivial, ?_⟩
  have hev : RD e (fun _ => False) (.mi id ver mid mver) (a.eval x) := by
    have := ev_rd (tm := a.tmps) (df := a.defers) (s := fun _ => False) hf.rd x
    rw [hx] at this; exact this
  obtain ⟨j, k, v, hj, hkv, u, e', dn⟩ := next_done (P := P) st.mi st.gi.mp ho hev (by rw [st.st]; exact hg1) (by rw [st.st]; exact hg2) hn hl
  obtain ⟨s', hs', hR⟩ := hrest j k v hj hkv
  have hla : e'.la = e.la := congrArg Prod.snd dn.st
  have hst : e'.st = stSet e.st (some (id, mkOb ver (.it mid mver n (some j) (left.erase j)))) := congrArg Prod.fst dn.st
  have hloop : ∀ (l : Nat) (x : Loop), e.w.heap[l]? = some (.loop x) → e'.w.heap[l]? = some (.loop x) := fun l x hx => dn.keep.obj l _ hx rfl (MB.not st.gi hx rfl)
  have to : To n0 PR Γ e e' := ⟨dn.ext, dn.keep.weak fun _ h => .inr h, dn.maps, fun l x _ hx => ⟨x, hloop l x hx, rfl⟩⟩
  have hgi : GI n0 e' Γ s.m.pd := st.gi.to' dn.ext dn.mp fun l x _ hx => hloop l x hx
  have st' : St n0 PR Γ e' reg (setM s.m (some (id, mkOb ver (.it mid mver n (some j) (left.erase j))))) := by
    refine ⟨?_, ?_, fun l hl => ?_, dn.mi, hgi⟩
    · rw [hst, st.st]; rfl
    · rw [hla, st.la]; rfl
    · rw [hla] at hl
      exact ⟨(st.lt l hl).1, Nat.lt_of_lt_of_le (st.lt l hl).2 dn.keep.size⟩
  have hK' : Next n0 PR Γ r k0 nt e ⟨put s.fr o.dst (.tup [dB true, k, v]), setM s.m (some (id, mkOb ver (.it mid mver n (some j) (left.erase j))))⟩ (wpOpsIn (fence r) nn P ops Q (List.range' 1 (ops.size - 1))) := fun a' e2 reg2 st2 hres2 hf2 to2 =>
    steps_sound (g := { an, f, nt, rid, ops, base, Γ }) hc hrd rfl rfl Q nn _ _ s' a' e2 reg2 hs' st2 hres2 hf2 fun a3 e3 reg3 st3 hres3 hf3 to3 => hK .normal s' hR a3 e3 reg3 st3 hres3 hf3 (to2.trans st.gi to3)
  have hfin := hK' _ e' (slotRes reg o.dst) (st'.slotRes _) (noRes_slotRes _ _) (hf.put st.gi to (drop := []) hdst (dn.res _) (fun _ _ _ h => h)) to
  have hnd : ∀ c, o.op ≠ .defer c := fun c hc => by rw [ho] at hc; cases hc
  rw [Oper.semAt_eq _ _ _ hnd]
  rcases dn.run with hrun | ⟨hrun, rfl⟩
  · rw [show (⟨a.tmps, a.defers⟩ : Act).eval = a.eval from rfl] at hrun
    rw [hrun, Oper.uponIn_value]; exact hfin
  · rw [show (⟨a.tmps, a.defers⟩ : Act).eval = a.eval from rfl] at hrun
    rw [hrun, Oper.uponIn_skip]; exact hfin
end
end Go.Abs

/-
  Abs41: a slice of zeros that nobody writes, made with a length that is not known.
-/
set_option linter.unusedVariables false
set_option linter.unusedSimpArgs false
set_option linter.unusedSectionVars false
namespace Go.Abs
open Go Go.RowKit
variable [Fl]
def makeC (P : Program) (t : TypeId) (x y : DV) : Option Out := match P.underlying t with
  | some (.slice e) => match P.info? e, zeroT P e, intD x, intD y with
    | some i, some z, some l, some cp =>
      if 0 ≤ l ∧ l ≤ cp ∧ cp ≤ 9223372036854775807 ∧ i.bytes * cp ≤ 281474976710656 ∧ z.length = i.size then
        (if l = cp then (closeL (replD l.toNat z)).map fun cs => { d := .c (.sl false true cs l.toNat) } else none)
      else none
    | _, _, _, _ => none
  | _ => none
theorem makeC_ok {P : Program} {t e : TypeId} {α : Type} [Enc α] [EncX α] (z : α) {b s : Nat} {n : Int} (ht : P.underlying t = some (.slice e)) (hi : (P.info? e).map (fun i => (i.bytes, i.size)) = some (b, s)) (hz : zeroT P e = some ((EncX.encX z).map DV.c)) (hs : (EncX.encX z).length = s)
    (h0 : 0 ≤ n) (h : Mk b n.toNat) : makeC P t (dInt n) (dInt n) = some { d := .c (.sl false true (cells (List.replicate n.toNat z)) (List.replicate n.toNat z).length) } := by
  unfold makeC
  rw [ht]
  simp only
  cases hh : P.info? e with
  | none => rw [hh] at hi; cases hi
  | some i =>
    rw [hh] at hi
    simp only [Option.map_some, Option.some.injEq, Prod.mk.injEq] at hi
    obtain ⟨h1, h2⟩ := hi
    obtain ⟨⟨g1, g2, g3, g4⟩, g5, _⟩ := mk_okI z h0 h
    rw [hz]
    simp only [intD, dInt, cInt]
    rw [if_pos ⟨g1, g2, g3, by rw [h1]; exact g4, by rw [List.length_map, hs, h2]⟩, g5]
    simp only [dcells, closeL_mapc, if_true, Option.map_some, List.length_replicate]
end Go.Abs

/-
  Abs42: maps as lists of pairs (keys that are ints), lists of lists that are grown one by one, arrays; calls on the whole store.
-/
set_option linter.unusedVariables false
set_option linter.unusedSimpArgs false
set_option linter.unusedSectionVars false
namespace Go.Abs
open Go Go.RowKit
variable [Fl]
class EncD (α : Type) where
  cv : α → CV
def EncD.dv {α : Type} [EncD α] (a : α) : DV := .c (EncD.cv a)
instance : EncD Int := ⟨cInt⟩
instance : EncD Bool := ⟨fun b => .sc (.bool b)⟩
instance : EncD ByteArray := ⟨fun s => .sc (.string s)⟩
instance {α : Type} [Enc α] : EncD (Sl α) := ⟨eSl⟩
variable {κ α : Type}
def encM [EncD κ] [EncD α] (l : List (κ × α)) : List (DV × DV) := l.map fun p => (EncD.dv p.1, EncD.dv p.2)
def getM [DecidableEq κ] : List (κ × α) → κ → Option α
  | [], _ => none
  | (a, b) :: l, k => if a = k then some b else getM l k
def hasM [DecidableEq κ] (l : List (κ × α)) (k : κ) : Bool := (getM l k).isSome
def lookM [DecidableEq κ] (z : α) (l : List (κ × α)) (k : κ) : α := (getM l k).getD z
def putM [DecidableEq κ] : List (κ × α) → κ → α → List (κ × α)
  | [], k, v => [(k, v)]
  | (a, b) :: l, k, v => if a = k then (a, v) :: l else (a, b) :: putM l k v
def posM [DecidableEq κ] : List (κ × α) → κ → Option Nat
  | [], _ => none
  | (a, b) :: l, k => if a = k then some 0 else (posM l k).map (· + 1)
theorem findK_int [EncD α] (k : Int) : ∀ (l : List (Int × α)) (i : Nat), findK (.int .i64) (.int .i64 k) (encM l) i = some (match posM l k, getM l k with | some j, some v => some (i + j, EncD.dv v) | _, _ => none)
  | [], i => rfl
  | (a, b) :: l, i => by
    show findK (.int .i64) (.int .i64 k) ((.c (.sc (.int .i64 a)), EncD.dv b) :: encM l) i = _
    simp only [findK, sameK, if_true]
    by_cases h : a = k
    · subst h
      simp [posM, getM]
    · have h2 : (k == a) = false := by simp only [beq_eq_false_iff_ne]; exact fun hh => h hh.symm
      rw [h2]
      simp only [findK_int k l (i + 1), posM, getM, if_neg h]
      cases h3 : posM l k with
      | none => rfl
      | some j =>
        cases h4 : getM l k with
        | none => rfl
        | some v => simp only [Option.map_some]; congr 3; omega
theorem pos_get [DecidableEq κ] (k : κ) : ∀ l : List (κ × α), (posM l k).isSome = (getM l k).isSome
  | [] => rfl
  | (a, b) :: l => by
    simp only [posM, getM]
    by_cases h : a = k
    · simp [h]
    · simp only [if_neg h, Option.isSome_map]; exact pos_get k l
theorem put_enc [EncD α] (k : Int) (v : α) : ∀ l : List (Int × α), encM (putM l k v) = match posM l k with | some j => (encM l).set j (dInt k, EncD.dv v) | none => encM l ++ [(dInt k, EncD.dv v)]
  | [] => rfl
  | (a, b) :: l => by
    simp only [putM, posM]
    by_cases h : a = k
    · subst h; simp only [if_true]; rfl
    · simp only [if_neg h]
      have ih := put_enc k v l
      show (dInt a, EncD.dv b) :: encM (putM l k v) = _
      rw [ih]
      cases posM l k with
      | none => rfl
      | some j => rfl
section
variable {P : Program} {st : List Ob} {t et : TypeId} {id ver : Nat} [EncD α]
theorem mapT_int {k : Int} (h : (match P.underlying t with | some (.map kt e) => (match P.underlying kt with | some d => some (d, e) | none => none) | _ => none) = some (.int .i64, et)) : mapT P t (dInt k) = some (.int .i64, et, .int .i64 k) := by
  unfold mapT
  cases h1 : P.underlying t with
  | none => rw [h1] at h; cases h
  | some d =>
    rw [h1] at h
    cases d <;> try (cases h; done)
    rename_i kt e
    simp only at h
    cases h2 : P.underlying kt with
    | none => rw [h2] at h; cases h
    | some d' =>
      rw [h2] at h
      simp only [Option.some.injEq, Prod.mk.injEq] at h
      obtain ⟨rfl, rfl⟩ := h
      simp [dInt, cInt, h2, okKey]
theorem look2M_ok {l : List (Int × α)} {k : Int} {z : α} {b : Bool} (ht : (match P.underlying t with | some (.map kt e) => (match P.underlying kt with | some d => some (d, e) | none => none) | _ => none) = some (.int .i64, et)) (hz : zeroV P et = some (EncD.dv z)) (hg : getK st id ver = some (.map (encM l))) (hb : hasM l k = b) :
    val (lookD P st t (.mp id ver) (dInt k) true) = some { d := .tup [EncD.dv (lookM z l k), dB b] } := by
  subst hb
  simp only [lookD, mapT_int ht, hg, findK_int]
  have hp := pos_get k l
  cases h3 : posM l k <;> cases h4 : getM l k <;> rw [h3, h4] at hp <;> simp_all [val, lookM, hasM, dB]
theorem lookM_ok {l : List (Int × α)} {k : Int} {z : α} (ht : (match P.underlying t with | some (.map kt e) => (match P.underlying kt with | some d => some (d, e) | none => none) | _ => none) = some (.int .i64, et)) (hz : zeroV P et = some (EncD.dv z)) (hg : getK st id ver = some (.map (encM l))) :
    val (lookD P st t (.mp id ver) (dInt k) false) = some { d := EncD.dv (lookM z l k) } := by
  simp only [lookD, mapT_int ht, hg, findK_int]
  have hp := pos_get k l
  cases h3 : posM l k <;> cases h4 : getM l k <;> rw [h3, h4] at hp <;> simp_all [val, lookM, hasM, dB]
theorem putM_ok {l : List (Int × α)} {k : Int} {v : α} (ht : (match P.underlying t with | some (.map kt e) => (match P.underlying kt with | some d => some (d, e) | none => none) | _ => none) = some (.int .i64, et)) (hg : getK st id ver = some (.map (encM l))) :
    (putK P st t (.mp id ver) (dInt k) (EncD.dv v)).map (fun e => ({ d := .un, set := some e } : Out)) = some { d := .un, set := some (id, mkOb ver (.map (encM (putM l k v)))) } := by
  simp only [putK, mapT_int ht, hg, findK_int]
  have hp := pos_get k l
  rw [put_enc]
  cases h3 : posM l k <;> cases h4 : getM l k <;> rw [h3, h4] at hp <;> simp_all <;> rfl
end
theorem below_encM [EncD κ] [EncD α] (n : Nat) : ∀ l : List (κ × α), belowE n (encM l) = true
  | [] => rfl
  | p :: l => by
    show (below n (EncD.dv p.1) && below n (EncD.dv p.2) && belowE n (encM l)) = true
    rw [below_encM n l]; rfl
theorem shift_encM [EncD κ] [EncD α] (n p : Nat) : ∀ l : List (κ × α), shiftE n p (encM l) = encM l
  | [] => rfl
  | a :: l => by
    show (shift n p (EncD.dv a.1), shift n p (EncD.dv a.2)) :: shiftE n p (encM l) = _
    rw [shift_encM n p l]; rfl
theorem AllB.consM [EncD κ] [EncD α] {n ver : Nat} {l : List (κ × α)} {st : List Ob} (h' : AllB n st) : AllB n (mkOb ver (.map (encM l)) :: st) := by
  unfold AllB at h' ⊢
  have h2 : belowO n (mkOb ver (.map (encM l))) = true := by
    show (([] : List DV).all (below n) && belowE n (encM l)) = true
    rw [below_encM]; rfl
  simp only [List.all_cons, h2, h', Bool.and_true]
theorem shifts_consM [EncD κ] [EncD α] {n p ver : Nat} {l : List (κ × α)} {st st' : List Ob} (h2 : (st.map fun o => shiftO n p o) = st') : ((mkOb ver (.map (encM l)) :: st).map fun o => shiftO n p o) = mkOb ver (.map (encM l)) :: st' := by
  simp only [List.map_cons, h2]
  have : shiftO n p (mkOb ver (.map (encM l))) = mkOb ver (.map (encM l)) := by
    show ({ ver := ver, cs := [], mp := ⟨some (.map (shiftE n p (encM l)))⟩ } : Ob) = _
    rw [shift_encM]; rfl
  rw [this]
/-! ### slices that are grown: at their capacity (k), or with the right to what lies behind -/
structure Rs (α : Type) where
  k : Bool
  l : List α
variable [Enc α]
def rsl (s : Rs α) : DV := bif s.k then .c (.sl s.l.isEmpty true (cells s.l) s.l.length) else .ap false (cells s.l) s.l.length (Enc.sz α)
def Rs.sl (s : Rs α) : Sl α := ⟨s.k && s.l.isEmpty, s.k, s.l⟩
def Rs.nil : Rs α := ⟨true, []⟩
def rcells (L : List (Rs α)) : List DV := L.map rsl
theorem rsl_unflag (s : Rs α) : unflag (rsl s) = .c (eSl s.sl) := by
  obtain ⟨k, l⟩ := s; cases k <;> rfl
theorem rsl_t {s : Rs α} (h : s.k = true) : rsl s = .c (.sl s.l.isEmpty true (cells s.l) s.l.length) := by unfold rsl; rw [h]; rfl
theorem rsl_f {s : Rs α} (h : ¬ s.k = true) : rsl s = .ap false (cells s.l) s.l.length (Enc.sz α) := by unfold rsl; rw [eq_false_of_ne_true h]; rfl
theorem rcells_make (n : Nat) : replD n [DV.c (.sl true true [] 0)] = rcells (List.replicate n (Rs.nil : Rs α)) := by
  simp only [replD, rcells, List.map_replicate]
  induction n with
  | zero => rfl
  | succ n ih => rw [List.replicate_succ, List.replicate_succ, List.flatten_cons, ih]; rfl
theorem rcells_at {L : List (Rs α)} {i : Nat} {s : Rs α} (h : L[i]? = some s) : (rcells L)[i]? = some (rsl s) := by simp [rcells, h]
theorem shift_rsl (n p : Nat) (s : Rs α) : shift n p (rsl s) = rsl s := by obtain ⟨k, l⟩ := s; cases k <;> rfl
theorem below_rsl (n : Nat) (s : Rs α) : below n (rsl s) = true := by obtain ⟨k, l⟩ := s; cases k <;> rfl
theorem shift_rcells (n p : Nat) (L : List (Rs α)) : shiftL n p (rcells L) = rcells L := by
  induction L with
  | nil => rfl
  | cons l L ih =>
    show shift n p (rsl l) :: shiftL n p (rcells L) = rsl l :: rcells L
    rw [ih, shift_rsl]
theorem below_rcells (n : Nat) (L : List (Rs α)) : (rcells L).all (below n) = true := by
  simp [rcells, below_rsl]
theorem allc_nil (n : Nat) : ([] : List DV).all (below n) = true := rfl
theorem allc_cons {n : Nat} {d : DV} {ds : List DV} (h : below n d = true) (h' : ds.all (below n) = true) : (d :: ds).all (below n) = true := by simp only [List.all_cons, h, h', Bool.and_true]
theorem shl_nil (n p : Nat) : shiftL n p [] = [] := rfl
theorem shl_cons {n p : Nat} {d d' : DV} {ds ds' : List DV} (h : shift n p d = d') (h' : shiftL n p ds = ds') : shiftL n p (d :: ds) = d' :: ds' := by
  show shift n p d :: shiftL n p ds = _
  rw [h, h']
theorem mk_okG {b : Nat} {n : Int} (h0 : 0 ≤ n) (h : Mk b n.toNat) : (0 ≤ n ∧ n ≤ n ∧ n ≤ 9223372036854775807 ∧ (b : Int) * n ≤ 281474976710656) ∧ replD n.toNat [DV.c (.sl true true [] 0)] = rcells (List.replicate n.toNat (Rs.nil : Rs α)) ∧ (n == n) = true :=
  ⟨(mk_okI (0 : Int) h0 h).1, rcells_make _, by simp⟩
/-- A slice of these is read. -/
theorem loadR_ok {P : Program} {st : List Ob} {t : TypeId} {id ver off : Nat} {o : Ob} {s : Rs α} (ht : isAggT P t = some false) (h : st[id]? = some o) (hv : o.ver = ver) (hc : o.cs[off]? = some (rsl s)) : val (loadD P st t (.pt id ver off)) = some { d := .c (eSl s.sl) } := by
  refine load_get (o := o) (getO_of h hv) ?_
  simp only [part1, ht, hc, Option.map_some, rsl_unflag]
theorem rcell_at {L : List (Rs α)} {i : Nat} {s : Rs α} (h : L[i]? = some s) : (rcells L)[0 + i * 1 + 0]? = some (rsl s) := by
  rw [show 0 + i * 1 + 0 = i by omega]; exact rcells_at h
/-- One is moved out of a list of them, and back in when it was grown. -/
theorem lmv_t {L : List (Rs α)} {s : Rs α} {i : Nat} (h : L[i]? = some s) (hk : s.k = true) : (rcells L)[0 + i * 1 + 0]? = some (.c (.sl s.l.isEmpty true (cells s.l) s.l.length)) ∧ (rcells L).set (0 + i * 1 + 0) (.c (.sl s.l.isEmpty true (cells s.l) s.l.length)) = rcells L := by
  have h1 := rcell_at h
  rw [rsl_t hk] at h1
  exact ⟨h1, set_same h1⟩
theorem lmv_f {L : List (Rs α)} {s : Rs α} {i : Nat} (h : L[i]? = some s) (hk : ¬ s.k = true) : (rcells L)[0 + i * 1 + 0]? = some (.ap false (cells s.l) s.l.length (Enc.sz α)) ∧ (rcells L).set (0 + i * 1 + 0) (.c (.sl false false (cells s.l) s.l.length)) = (rcells L).set i (.c (.sl false false (cells s.l) s.l.length)) := by
  have h1 := rcell_at h
  rw [rsl_f hk] at h1
  exact ⟨h1, by rw [show 0 + i * 1 + 0 = i by omega]⟩
theorem rst_1 {L : List (Rs α)} {s : Rs α} {i : Nat} (h : L[i]? = some s) (l' : List α) : (0 + i * 1 + 0) + 1 ≤ (rcells L).length ∧ setL (rcells L) (0 + i * 1 + 0) [.ap false (cells l') l'.length (Enc.sz α)] = rcells (L.set i ⟨false, l'⟩) := by
  rw [show 0 + i * 1 + 0 = i by omega]
  have hl : i < L.length := (List.getElem?_eq_some_iff.1 h).1
  refine ⟨by simp [rcells]; omega, ?_⟩
  show (rcells L).set i _ = _
  simp only [rcells, List.map_set]; rfl
theorem rst_2 {L : List (Rs α)} {s : Rs α} {i : Nat} (h : L[i]? = some s) (d : DV) (l' : List α) : (0 + i * 1 + 0) + 1 ≤ ((rcells L).set i d).length ∧ setL ((rcells L).set i d) (0 + i * 1 + 0) [.ap false (cells l') l'.length (Enc.sz α)] = rcells (L.set i ⟨false, l'⟩) := by
  rw [show 0 + i * 1 + 0 = i by omega]
  have hl : i < L.length := (List.getElem?_eq_some_iff.1 h).1
  refine ⟨by simp [rcells]; omega, ?_⟩
  show ((rcells L).set i d).set i _ = _
  rw [List.set_set]
  simp only [rcells, List.map_set]; rfl
/-- A call on the whole store. -/
def Sys.RunsW (X : Sys) (f : FuncId) (args : List DV) (st : List Ob) (d : DV) (os : List Ob) : Prop := ∃ m1, X.Runs [] f args ⟨st, []⟩ d m1 ∧ trimM st.length d m1 = some ⟨os, []⟩
def FinW (X : Sys) (fn : Func) (k : Nat) (d : DV) (os : List Ob) (ex : Ex) (s : S) : Prop := isExit ex = false ∧ (resD X.P s fn.results.toList).map resOne = some d ∧ trimM k d s.m = some ⟨os, []⟩
theorem Sys.callW' {X : Sys} {f : FuncId} {fn : Func} {b : Code} {args : List DV} {st : List Ob} {k : Nat} {d : DV} {os : List Ob} (hf : X.P.funcs[f]? = some fn) (hb : fn.body = some b) (hk : st.length = k) (h : X.GoAt f fn.ntmps b (.at []) ⟨argFr args, ⟨st, []⟩⟩ (FinW X fn k d os)) : X.RunsW f args st d os := by
  obtain ⟨ex, s', hg, hx, hr, ht⟩ := Sys.goQ h
  subst hk
  exact ⟨s'.m, Sys.call hg hf hb hx hr rfl, ht⟩
/-! ### '==' of arrays of scalars -/
def flatL (P : Program) (e : TypeId) : List Value → List Value → Bool
  | [], [] => true
  | x :: xs, y :: ys => scKind P e x && scKind P e y && flatL P e xs ys
  | _, _ => false
theorem eqA_flat {P : Program} {d : Nat} {e : TypeId} : ∀ (m k : Nat) (ax ay xs ys : List Value), flatL P e xs ys = true → xs.length = m → ax.drop k = xs → ay.drop k = ys → eqAw P (eqV P (d + 1)) e 1 ⟨ax⟩ ⟨ay⟩ (List.range' k m) = some (scEqs xs ys)
  | 0, k, ax, ay, xs, ys, h, hm, h1, h2 => by
    have : xs = [] := List.length_eq_zero_iff.1 hm
    subst this
    cases ys with
    | nil => rfl
    | cons => cases h
  | m + 1, k, ax, ay, xs, ys, h, hm, h1, h2 => by
    cases xs with
    | nil => cases hm
    | cons x xs =>
      cases ys with
      | nil => cases h
      | cons y ys =>
        simp only [flatL, Bool.and_eq_true] at h
        obtain ⟨⟨hx, hy⟩, hr⟩ := h
        have gx : ax[k]? = some x := by have h0 := congrArg (·[0]?) h1; simpa using h0
        have gy : ay[k]? = some y := by have h0 := congrArg (·[0]?) h2; simpa using h0
        have tx : ax.drop (k + 1) = xs := by rw [← List.drop_drop, h1]; rfl
        have ty : ay.drop (k + 1) = ys := by rw [← List.drop_drop, h2]; rfl
        rw [List.range'_succ, eqAw, scKind_cut hx, scKind_cut hx]
        simp only [Nat.mul_one, List.getElem?_toArray, gx, gy, eqV_sc hx hy, scEqs]
        cases hq : scEq x y with
        | true => simp only [Bool.true_and]; exact eqA_flat m (k + 1) ax ay xs ys hr (by simpa using hm) tx ty
        | false => simp
def flatA (P : Program) (t : TypeId) (xs ys : List Value) : Bool := match P.underlying t with
  | some (.array n e) => !P.eqGuardType P.depth t && decide (xs.length = n) && (P.info? e).isSome && ((P.info? e).map (·.size) == some 1) && flatL P e xs ys
  | _ => false
theorem eqD_flatA {P : Program} {t : TypeId} {cx cy : List CV} {xs ys : List Value} (hx : scs cx = some xs) (hy : scs cy = some ys) (hf : flatA P t xs ys = true) :
    eqD P t (.c (.agg cx)) (.c (.agg cy)) = some (scEqs xs ys) := by
  unfold flatA at hf
  split at hf
  · rename_i n e hu
    simp only [Bool.and_eq_true, Bool.not_eq_true', decide_eq_true_eq] at hf
    obtain ⟨⟨⟨⟨hg, hl⟩, hi⟩, hs⟩, hf⟩ := hf
    obtain ⟨i, hi⟩ := Option.isSome_iff_exists.1 hi
    rw [hi] at hs
    have hs : i.size = 1 := by simpa using hs
    simp only [eqD, toV, hx, hy, Option.map_some, hg]
    rw [if_neg (by simp)]
    show eqV P (9998 + 1 + 1) t _ _ = _
    unfold eqV
    simp only [hu, hi, hs, List.range_eq_range']
    exact eqA_flat n 0 _ _ _ _ hf hl rfl rfl
  · cases hf
end Go.Abs
