/-
  Part of the proof: printed by the session's own program out of the program's form, or typed; it states no claim by itself.
-/
import Derived.Test.YtkfmoodaplelnaaAbs42
/-
  Abs43: loops that keep of the store what lay before; a function of closed values whose code the model leaves open, as one step.
-/
set_option linter.unusedVariables false
set_option linter.unusedSimpArgs false
set_option linter.unusedSectionVars false
namespace Go.Abs
open Go Go.RowKit
section
variable [Gl] {P : Program} {Γ : List (Nat × Ctx)} {nt : Nat}
/-- A loop, by an invariant and a measure; behind each round the store is cut. -/
theorem Tri.loopC {x : Code} {m0 : Nat} (l : List Nat) {I : Nat → S → Prop} {R : Ex → S → Prop}
    (h : ∀ j s, I j s → Tri P nt Γ x s fun ex s' => (ex = .normal ∧ ∃ j' s2, j' < j ∧ cutS (some l) m0 s' = some s2 ∧ I j' s2) ∨ (ex ≠ .normal ∧ R ex s')) {j : Nat} {s : S} (hi : I j s) (hm : s.m.st.length ≤ m0) : Tri P nt Γ (.loop x) s R := by
  intro n0 PR r k0 e reg a Q n st hres hf hk hK
  have hle : e.st.length ≤ m0 := by rw [st.st]; exact hm
  have key : ∀ (fuel j : Nat) (s : S) (a : Act) (e' : E) (reg' : Own → Addr → Prop), j < fuel → I j s → St n0 PR Γ e' reg' s.m → NoRes reg' → Fr r k0 nt Γ e' reg' s.fr a → k0 ≤ e'.w.heap.size → To n0 PR Γ e e' → Code.roundsIn (fence r) n P x Q fuel a e'.w := by
    intro fuel
    induction fuel with
    | zero => intro j s a e' reg' hj; omega
    | succ fuel ih =>
      intro j s a e' reg' hj hi st' hres' hf' hk' to
      rw [roundsIn_succ]
      refine h j s hi n0 PR r k0 e' reg' a _ n st' hres' hf' hk' fun ex s1 hr a1 e1 reg1 st1 hres1 hf1 to1 => ?_
      rcases hr with ⟨rfl, j', s2, hj', hc, hi'⟩ | ⟨hne, hr⟩
      · obtain ⟨e2, hw, st2, hf2, to2⟩ := cut_sound hc st1 hf1 st.gi hle (to.trans st.gi to1)
        show Code.roundsIn (fence r) n P x Q fuel a1 e1.w
        rw [← hw]
        exact ih j' s2 a1 e2 reg1 (by omega) hi' st2 hres1 hf2 (by rw [hw]; exact Nat.le_trans hk' to1.size) to2
      · have := hK ex s1 hr a1 e1 reg1 st1 hres1 hf1 (to.trans st.gi to1)
        cases ex with
        | normal => exact absurd rfl hne
        | _ => exact this
  exact wpIn_loop_rounds (j + 1) (key (j + 1) j s a e reg (by omega) hi st hres hf hk (To.refl ..))
/-- What a function comes to: one of several things. -/
theorem Tri.callE {f : FuncId} {fn : Func} {c : Code} (hfn : P.funcs[f]? = some fn) (hbody : fn.body = some c) {args : List DV} {m : M} {R : Ex → S → Prop} (h : Tri P fn.ntmps Γ c ⟨argFr args, m⟩ R) {n0 : Nat} {PR : Addr → Prop} {e : E} {reg : Own → Addr → Prop} {vs : List Value} {Q : Ending → World → Prop}
    (hR : ∀ ex s, R ex s → (∀ id, ex ≠ .exit id) ∧ ∃ d, (resD P s fn.results.toList).map resOne = some d ∧ ∀ en w', Back n0 PR Γ e d s.m en w' → Q en w') (n : Nat) (st : St n0 PR Γ e reg m) (hres : NoRes reg) (hns : NoSlot reg) (hr : RDs e args vs) :
    CallsIn Fence.wide n P f ⟨vs⟩ e.w Q := by
  refine callsIn_of_wp_marks hfn hbody trivial ?_
  refine h n0 PR none e.w.heap.size e reg _ _ n st hres ⟨fun t => argFr_rd hr _ t _, by simp; omega, ⟨[], rfl, List.nodup_nil, by simp⟩, by simp⟩ (Nat.le_refl _) fun ex s hRs a' e' reg' st' hres' hf' to => ?_
  obtain ⟨hne, d, hres2, hQ⟩ := hR ex s hRs
  rw [Option.map_eq_some_iff] at hres2
  obtain ⟨ds, hds, rfl⟩ := hres2
  obtain ⟨rs, hd1, hd2, hd3⟩ := hf'.df
  have hl : LeavesInM Fence.wide n P fn a'.tmps Q a'.defers .returning e'.w := by
    rw [hd1]
    refine leaves_sound st.mi.n0le rs e' reg' st' to hd2 hd3 fun e2 st2 x2 to2 => ?_
    obtain ⟨v, t, hv, hrv⟩ := results_run (P := P) st2.mi st2.st (fun t => (hf'.rd t).mono x2 (fun _ h => h)) hds
    exact ⟨v, hv, hQ _ _ ⟨e2, outReg reg' t, rfl, ⟨st2.st, st2.la, st2.lt, st2.mi.outReg t, st2.gi⟩, noSlot_outReg t, to2, hrv⟩⟩
  cases ex with
  | normal => exact hl
  | ret => exact hl
  | exit id => exact absurd rfl (hne id)
/-- A function of closed values, as one step. -/
theorem prim_closed {f : FuncId} {fn : Func} {c : Code} (hfn : P.funcs[f]? = some fn) (hbody : fn.body = some c) {p : List DV → Option DV}
    (hcl : ∀ args d, p args = some d → args.all isClosed = true)
    (h : ∀ args d, p args = some d → Tri P fn.ntmps [] c ⟨argFr args, ⟨[], []⟩⟩ fun ex s => (∀ id, ex ≠ .exit id) ∧ ∃ d', (resD P s fn.results.toList).map resOne = some d' ∧ closeTop s.m.st d' = some d) :
    PrimOk P f (fun _ args => (p args).map fun d => { d }) := by
  refine ⟨fun st args r hh => ?_, fun st args r hh id o ho => ?_, fun st st' args _ => rfl, fun m args r hh Γ n0 PR e reg vs n s hres hns hr => ?_⟩
  · rw [Option.map_eq_some_iff] at hh
    obtain ⟨d, _, rfl⟩ := hh; rfl
  · rw [Option.map_eq_some_iff] at hh
    obtain ⟨d, _, rfl⟩ := hh; cases ho
  · rw [Option.map_eq_some_iff] at hh
    obtain ⟨d, hd, rfl⟩ := hh
    obtain ⟨s0, hback⟩ := s.apart hres
    refine Tri.callE (e := { e with st := [], la := [] }) hfn hbody (h args d hd) (fun ex s1 hs1 => ?_) n s0 (fun _ h => h) (fun _ _ h => h) (closed_args (e := e) (e0 := { e with st := [], la := [] }) rfl rfl (hcl args d hd) hr)
    obtain ⟨hne, d', h1, h2⟩ := hs1
    refine ⟨hne, d', h1, fun en w' hb => ?_⟩
    obtain ⟨v, e', reg', rfl, hw, st', to, hrd, _⟩ := (hback _ _ _ _ hb).1 _ h2
    exact ⟨e', _, hw, st'.noslots, fun t a h => h, to, hrd⟩
end
end Go.Abs

/-
  Abs44: told runs around a loop that the model leaves open.
-/
set_option linter.unusedVariables false
set_option linter.unusedSimpArgs false
set_option linter.unusedSectionVars false
namespace Go.Abs
open Go Go.RowKit
section
variable [Gl] {X : Sys} {f nt : Nat}
/-- What lies behind a place comes to what R says. -/
def TK (X : Sys) (nt : Nat) (R : Ex → S → Prop) : List K → Ex → S → Prop
  | [], ex, s => R ex s
  | .seq b :: ks, .normal, s => Tri X.P nt [] b s (TK X nt R ks)
  | .seq _ :: ks, ex, s => TK X nt R ks ex s
  | .blk id :: ks, ex, s => TK X nt R ks (outOf id ex) s
def TriP (X : Sys) (nt : Nat) (R : Ex → S → Prop) : Code → List K → S → Prop
  | .skip, ks, s => TK X nt R ks .normal s
  | .exit id, ks, s => TK X nt R ks (.exit id) s
  | .ret, ks, s => TK X nt R ks .ret s
  | c, ks, s => Tri X.P nt [] c s (TK X nt R ks)
theorem TriP.tri {R : Ex → S → Prop} {c : Code} {ks : List K} {s : S} (h : TriP X nt R c ks s) : Tri X.P nt [] c s (TK X nt R ks) := by
  cases c with
  | skip => exact Tri.skip.mono fun ex s' hh => by obtain ⟨rfl, rfl⟩ := hh; exact h
  | exit id => exact Tri.exit.mono fun ex s' hh => by obtain ⟨rfl, rfl⟩ := hh; exact h
  | ret => exact Tri.ret.mono fun ex s' hh => by obtain ⟨rfl, rfl⟩ := hh; exact h
  | _ => exact h
theorem TK.ret {R : Ex → S → Prop} {s : S} (h : R .ret s) : ∀ ks : List K, TK X nt R ks .ret s
  | [] => h
  | .seq _ :: ks => TK.ret h ks
  | .blk id :: ks => TK.ret h ks
theorem TK.ne {R : Ex → S → Prop} {s : S} {b : Code} {ks : List K} {ex : Ex} (hx : ex ≠ .normal) (h : TK X nt R (.seq b :: ks) ex s) : TK X nt R ks ex s := by
  cases ex with
  | normal => exact absurd rfl hx
  | _ => exact h
theorem TriP.of_ex {R : Ex → S → Prop} {ks : List K} {ex : Ex} {s : S} (h : TriP X nt R (exCode ex) ks s) : TK X nt R ks ex s := by cases ex <;> exact h
theorem TriP.to_ex {R : Ex → S → Prop} {ks : List K} {ex : Ex} {s : S} (h : TK X nt R ks ex s) : TriP X nt R (exCode ex) ks s := by cases ex <;> exact h
theorem tRun_tri (hm : X.P.follows .mixedOrders = true) (hpr : ∀ f p, X.pr f = some p → PrimOk X.P f p) {T : Told} {stop : Nat} {R : Ex → S → Prop} : ∀ (n : Nat) (fst : Bool) (c : Code) (ks : List K) (s : S) {c' : Code} {ks' : List K} {s' : S} {ps : List Prop}, tRun X f nt [] T stop n fst c ks s = some (c', ks', s', ps) → AllP ps → TriP X nt R c' ks' s' → TriP X nt R c ks s
  | 0, fst, c, ks, s, _, _, _, _, h, _, _ => by simp [tRun] at h
  | n + 1, fst, c, ks, s, c', ks', s', ps, h, hp, q => by
    have ih := fun fst c ks s {c' ks' s' ps} => tRun_tri hm hpr (T := T) (stop := stop) (R := R) n fst c ks s (c' := c') (ks' := ks') (s' := s') (ps := ps)
    unfold tRun at h
    split at h
    · cases h; exact q
    cases c with
    | seq a b =>
      dsimp only at h
      exact Tri.seq (ih fst a (.seq b :: ks) s h hp q).tri (fun s1 h1 => h1) (fun ex s1 h1 hx => TK.ne hx h1)
    | block id a => dsimp only at h; exact Tri.block (ih fst a (.blk id :: ks) s h hp q).tri
    | scope a => dsimp only at h; exact Tri.scope (ih _ _ _ _ h hp q).tri
    | label l =>
      dsimp only at h
      exact (Tri.of_go hm hpr (c := .label l) (f := f) (s' := s) (ex := .normal) (Ev.of fun k => rfl)).mono fun ex s' hh => by obtain ⟨rfl, rfl⟩ := hh; exact ih _ _ _ _ h hp q
    | skip =>
      cases ks with
      | nil => dsimp only at h; cases h; exact q
      | cons k0 ks =>
        cases k0 with
        | seq b => dsimp only at h; exact (ih _ _ _ _ h hp q).tri
        | blk id => dsimp only at h; exact ih _ .skip ks s h hp q
    | exit id =>
      cases ks with
      | nil => dsimp only at h; cases h; exact q
      | cons k0 ks =>
        cases k0 with
        | seq b => dsimp only at h; exact ih _ (.exit id) ks s h hp q
        | blk id' =>
          dsimp only at h
          show TK X nt R ks (outOf id' (.exit id)) s
          split at h
          · rename_i hid
            subst hid
            have : outOf id (.exit id) = .normal := by simp [outOf]
            rw [this]
            exact ih _ .skip ks s h hp q
          · rename_i hid
            have : outOf id' (.exit id) = .exit id := by simp [outOf, hid]
            rw [this]
            exact ih _ (.exit id) ks s h hp q
    | ret => dsimp only at h; cases h; exact TK.ret q ks
    | cond x a b =>
      dsimp only at h
      split at h
      · rename_i hx; exact Tri.cond_true hx (ih _ _ _ _ h hp q).tri
      · rename_i hx; exact Tri.cond_false hx (ih _ _ _ _ h hp q).tri
      · cases h
    | region rid ops draw =>
      dsimp only at h
      split at h
      · cases h; exact q
      · split at h
        · rename_i s1 ps1 h1
          split at h
          · rename_i c2 ks2 s2 qs h2
            cases h
            obtain ⟨hp1, hp2⟩ := hp.append
            exact (Tri.of_go hm hpr (c := .region rid ops draw) (f := f) (s' := s1) (ex := .normal) ((tRegion_sound h1 hp1).mono fun k hk => by simp only [codeD, hk, Option.map_some])).mono fun ex s' hh => by obtain ⟨rfl, rfl⟩ := hh; exact ih _ .skip ks _ h2 hp2 q
          · cases h
        · cases h
    | loop a =>
      dsimp only at h
      split at h
      · cases h; exact q
      · split at h
        · rename_i ex s1 h1
          split at h
          · rename_i c2 ks2 s2 qs h2
            cases h
            obtain ⟨hp1, hp2⟩ := AllP.cons hp
            exact (Tri.of_go hm hpr hp1).mono fun ex' s' hh => by obtain ⟨rfl, rfl⟩ := hh; exact (ih _ _ ks _ h2 hp2 q).of_ex
          · cases h
        · cases h
    | rangeFunc g ps as_ body =>
      dsimp only at h
      split at h
      · cases h; exact q
      · split at h
        · rename_i ex s1 h1
          split at h
          · rename_i c2 ks2 s2 qs h2
            cases h
            obtain ⟨hp1, hp2⟩ := AllP.cons hp
            exact (Tri.of_go hm hpr hp1).mono fun ex' s' hh => by obtain ⟨rfl, rfl⟩ := hh; exact (ih _ _ ks _ h2 hp2 q).of_ex
          · cases h
        · cases h
    | _ => dsimp only at h; cases h
/-- From a place on it comes to what R says, whatever the model chooses. -/
def TriAt (X : Sys) (nt : Nat) (b : Code) (pos : Pos) (s : S) (R : Ex → S → Prop) : Prop := ∃ c ks, resolve b pos = some (c, ks) ∧ TriP X nt R c ks s
theorem TriAt.to (hm : X.P.follows .mixedOrders = true) (hpr : ∀ f p, X.pr f = some p → PrimOk X.P f p) {b : Code} {R : Ex → S → Prop} {pos : Pos} {s : S} (T : Told) (stop : Nat) (pos' : Pos) (s' : S) {p : Prop} (h : p) (e : tTo X f nt T stop b pos s = (some (resolve b pos', s'), p)) (g : TriAt X nt b pos' s' R) : TriAt X nt b pos s R := by
  unfold tTo at e
  split at e
  · rename_i c ks hr
    split at e
    · rename_i c' ks' s1 ps ht
      simp only [Prod.mk.injEq, Option.some.injEq] at e
      obtain ⟨⟨h1, rfl⟩, rfl⟩ := e
      obtain ⟨c2, ks2, h2, hq⟩ := g
      rw [← h1] at h2; cases h2
      exact ⟨c, ks, hr, tRun_tri hm hpr _ _ _ _ _ ht h hq⟩
    · simp at e
  · simp at e
theorem TriAt.fin {b : Code} {R : Ex → S → Prop} {ex : Ex} {s : S} (h : R ex s) : TriAt X nt b (.fin ex) s R := ⟨_, _, rfl, TriP.to_ex h⟩
theorem TriAt.tri {b : Code} {R : Ex → S → Prop} {s : S} (h : TriAt X nt b (.at []) s R) : Tri X.P nt [] b s R := by
  obtain ⟨c, ks, h1, h2⟩ := h
  have : c = b ∧ ks = [] := by
    cases b <;> (simp only [resolve, posK, Option.some.injEq, Prod.mk.injEq] at h1; exact ⟨h1.1.symm, h1.2.symm⟩)
  obtain ⟨rfl, rfl⟩ := this
  exact h2.tri
def openAt (b : Code) (p : List Nat) : Bool := match posK b p [] with
  | some (.skip, _) => false
  | some (.exit _, _) => false
  | some (.ret, _) => false
  | some _ => true
  | none => false
/-- Over a part of which it is known what it may come to. -/
theorem TriAt.over {b : Code} {p : List Nat} {R R1 : Ex → S → Prop} {s : S} (hb : openAt b p = true) (h : Tri X.P nt [] (sub b p) s R1) (g : ∀ ex s1, R1 ex s1 → TriAt X nt b (.ex p ex) s1 R) : TriAt X nt b (.at p) s R := by
  cases hq : posK b p [] with
  | none => rw [openAt, hq] at hb; cases hb
  | some r =>
    obtain ⟨c, ks⟩ := r
    have hc := posK_sub b p [] hq
    subst hc
    refine ⟨_, ks, hq, ?_⟩
    have h2 : Tri X.P nt [] (sub b p) s (TK X nt R ks) := h.mono fun ex s1 h1 => by
      obtain ⟨c2, ks2, g1, g2⟩ := g ex s1 h1
      simp only [resolve, hq, Option.map_some, Option.some.injEq, Prod.mk.injEq] at g1
      obtain ⟨rfl, rfl⟩ := g1
      exact g2.of_ex
    rw [openAt, hq] at hb
    revert hb h2
    cases sub b p <;> intro hb h2 <;> first | exact h2 | cases hb
end
/-- An end of a call on some objects that the kernel finds by itself. -/
def tEndL (X : Sys) (f : Nat) (fn : Func) (nt : Nat) (T : Told) (b : Code) (k : Nat) (pos : Pos) (s : S) : Option ((DV × List Ob) × Prop) :=
  match tEnd X f nt T b pos s with
  | some ((ex, s'), p) => if isExit ex then none else match (resD X.P s' fn.results.toList).map resOne with
    | some d' => match endL k d' s'.m.st with
      | some r => some (r, p)
      | none => none
    | none => none
  | none => none
theorem Sys.endL' {X : Sys} {f nt : Nat} {fn : Func} {b : Code} {pos : Pos} {s : S} {k : Nat} {d : DV} {os : List Ob} (T : Told) {p : Prop} (h : p) (e : tEndL X f fn nt T b k pos s = some ((d, os), p)) : X.GoAt f nt b pos s (FinL X fn k d os) := by
  unfold tEndL at e
  split at e
  · rename_i ex s' p' he
    split at e
    · cases e
    · rename_i hx
      split at e
      · rename_i d' hr
        split at e
        · rename_i r hc
          cases e
          exact tEnd_go h he ⟨by simpa using hx, d', hr, hc⟩
        · cases e
      · cases e
  · cases e
end Go.Abs
