/-
  Part of the proof: printed by the session's own program out of the program's form, or typed; it states no claim by itself.
-/
import Derived.Test.YtkfmoodaplelnaaAbs39
import Derived.Test.YtkfmoodaplelnaaAbs35
import Derived.Sort.Grow
import Derived.Shelf.GgSortFunc.InsertionK
/-
  Abs43: loops that keep of the store what lay before; a function of closed values whose code the model leaves open, as one step.
-/
set_option linter.unusedVariables false
set_option linter.unusedSimpArgs false
set_option linter.unusedSectionVars false
namespace Go.Abs
open Go Go.RowKit
variable [Fl]
section
variable [Gl] {P : Program} {Γ : List (Nat × Ctx)} {nt : Nat}
/-- A loop, by an invariant and a measure; behind each round the store is cut. -/
theorem Tri.loopC {x : Code} {m0 : Nat} (l : List Nat) {I : Nat → S → Prop} {R : Ex → S → Prop}
    (h : ∀ j s, I j s → Tri P nt Γ x s fun ex s' => (ex = .normal ∧ ∃ j' s2, j' < j ∧ cutS (some l) m0 s' = some s2 ∧ I j' s2) ∨ (ex ≠ .normal ∧ R ex s')) {j : Nat} {s : S} (hi : I j s) (hm : s.m.st.length ≤ m0) : Tri P nt Γ (.loop x) s R := by
  intro n0 PR r k0 e reg a Q n st hres hf hk hK
  have hle : e.st.length ≤ m0 := by rw [st.st]; exact hm
  have key : ∀ (fuel j : Nat) (s : S) (a : Act) (e' : E) (reg' : Own → Addr → Prop), j < fuel → I j s → St n0 PR Γ e' reg' s.m → NoRes reg' → Fr r k0 nt Γ e' reg' s.fr a → k0 ≤ e'.w.heap.size → To n0 PR Γ e e' → Code.roundsIn (fence r) n P x Q fuel a e'.w := by
    intro fuel
    induction fuel with
    | zero => intro j s a e' reg' hj; omega
    | succ fuel ih =>
      intro j s a e' reg' hj hi st' hres' hf' hk' to
      rw [roundsIn_succ]
      refine h j s hi n0 PR r k0 e' reg' a _ n st' hres' hf' hk' fun ex s1 hr a1 e1 reg1 st1 hres1 hf1 to1 => ?_
      rcases hr with ⟨rfl, j', s2, hj', hc, hi'⟩ | ⟨hne, hr⟩
      · obtain ⟨e2, hw, st2, hf2, to2⟩ := cut_sound hc st1 hf1 st.gi hle (to.trans st.gi to1)
        show Code.roundsIn (fence r) n P x Q fuel a1 e1.w
        rw [← hw]
        exact ih j' s2 a1 e2 reg1 (by omega) hi' st2 hres1 hf2 (by rw [hw]; exact Nat.le_trans hk' to1.size) to2
      · have := hK ex s1 hr a1 e1 reg1 st1 hres1 hf1 (to.trans st.gi to1)
        cases ex with
        | normal => exact absurd rfl hne
        | _ => exact this
  exact wpIn_loop_rounds (j + 1) (key (j + 1) j s a e reg (by omega) hi st hres hf hk (To.refl ..))
/-- What a function comes to: one of several things. -/
theorem Tri.callE {f : FuncId} {fn : Func} {c : Code} (hfn : P.funcs[f]? = some fn) (hbody : fn.body = some c) {args : List DV} {m : M} {R : Ex → S → Prop} (h : Tri P fn.ntmps Γ c ⟨argFr args, m⟩ R) {n0 : Nat} {PR : Addr → Prop} {e : E} {reg : Own → Addr → Prop} {vs : List Value} {Q : Ending → World → Prop}
    (hR : ∀ ex s, R ex s → (∀ id, ex ≠ .exit id) ∧ ∃ d, (resD P s fn.results.toList).map resOne = some d ∧ ∀ en w', Back n0 PR Γ e d s.m en w' → Q en w') (n : Nat) (st : St n0 PR Γ e reg m) (hres : NoRes reg) (hns : NoSlot reg) (hr : RDs e args vs) :
    CallsIn Fence.wide n P f ⟨vs⟩ e.w Q := by
  refine callsIn_of_wp_marks hfn hbody trivial ?_
  refine h n0 PR none e.w.heap.size e reg _ _ n st hres ⟨fun t => argFr_rd hr _ t _, by simp; omega, ⟨[], rfl, List.nodup_nil, by simp⟩, by simp⟩ (Nat.le_refl _) fun ex s hRs a' e' reg' st' hres' hf' to => ?_
  obtain ⟨hne, d, hres2, hQ⟩ := hR ex s hRs
  rw [Option.map_eq_some_iff] at hres2
  obtain ⟨ds, hds, rfl⟩ := hres2
  obtain ⟨rs, hd1, hd2, hd3⟩ := hf'.df
  have hl : LeavesInM Fence.wide n P fn a'.tmps Q a'.defers .returning e'.w := by
    rw [hd1]
    refine leaves_sound st.mi.n0le rs e' reg' st' to hd2 hd3 fun e2 st2 x2 to2 => ?_
    obtain ⟨v, t, hv, hrv⟩ := results_run (P := P) st2.mi st2.st (fun t => (hf'.rd t).mono x2 (fun _ h => h)) hds
    exact ⟨v, hv, hQ _ _ ⟨e2, outReg reg' t, rfl, ⟨st2.st, st2.la, st2.lt, st2.mi.outReg t, st2.gi⟩, noSlot_outReg t, to2, hrv⟩⟩
  cases ex with
  | normal => exact hl
  | ret => exact hl
  | exit id => exact absurd rfl (hne id)
/-- A function of closed values, as one step. -/
theorem prim_closed {f : FuncId} {fn : Func} {c : Code} (hfn : P.funcs[f]? = some fn) (hbody : fn.body = some c) {p : List DV → Option DV}
    (hcl : ∀ args d, p args = some d → args.all isClosed = true)
    (h : ∀ args d, p args = some d → Tri P fn.ntmps [] c ⟨argFr args, ⟨[], []⟩⟩ fun ex s => (∀ id, ex ≠ .exit id) ∧ ∃ d', (resD P s fn.results.toList).map resOne = some d' ∧ closeTop s.m.st d' = some d) :
    PrimOk P f (fun _ args => (p args).map fun d => { d }) := by
  refine ⟨fun st args r hh => ?_, fun st args r hh id o ho => ?_, fun st st' args _ => rfl, fun m args r hh Γ n0 PR e reg vs n s hres hns hr => ?_⟩
  · rw [Option.map_eq_some_iff] at hh
    obtain ⟨d, _, rfl⟩ := hh; rfl
  · rw [Option.map_eq_some_iff] at hh
    obtain ⟨d, _, rfl⟩ := hh; cases ho
  · rw [Option.map_eq_some_iff] at hh
    obtain ⟨d, hd, rfl⟩ := hh
    obtain ⟨s0, hback⟩ := s.apart hres
    refine Tri.callE (e := { e with st := [], la := [] }) hfn hbody (h args d hd) (fun ex s1 hs1 => ?_) n s0 (fun _ h => h) (fun _ _ h => h) (closed_args (e := e) (e0 := { e with st := [], la := [] }) rfl rfl (hcl args d hd) hr)
    obtain ⟨hne, d', h1, h2⟩ := hs1
    refine ⟨hne, d', h1, fun en w' hb => ?_⟩
    obtain ⟨v, e', reg', rfl, hw, st', to, hrd, _⟩ := (hback _ _ _ _ hb).1 _ h2
    exact ⟨e', _, hw, st'.noslots, fun t a h => h, to, hrd⟩
end
end Go.Abs

/-
  Abs44: told runs around a loop that the model leaves open.
-/
set_option linter.unusedVariables false
set_option linter.unusedSimpArgs false
set_option linter.unusedSectionVars false
namespace Go.Abs
open Go Go.RowKit
variable [Fl]
section
variable [Gl] {X : Sys} {f nt : Nat}
/-- What lies behind a place comes to what R says. -/
def TK (X : Sys) (nt : Nat) (R : Ex → S → Prop) : List K → Ex → S → Prop
  | [], ex, s => R ex s
  | .seq b :: ks, .normal, s => Tri X.P nt [] b s (TK X nt R ks)
  | .seq _ :: ks, ex, s => TK X nt R ks ex s
  | .blk id :: ks, ex, s => TK X nt R ks (outOf id ex) s
def TriP (X : Sys) (nt : Nat) (R : Ex → S → Prop) : Code → List K → S → Prop
  | .skip, ks, s => TK X nt R ks .normal s
  | .exit id, ks, s => TK X nt R ks (.exit id) s
  | .ret, ks, s => TK X nt R ks .ret s
  | c, ks, s => Tri X.P nt [] c s (TK X nt R ks)
theorem TriP.tri {R : Ex → S → Prop} {c : Code} {ks : List K} {s : S} (h : TriP X nt R c ks s) : Tri X.P nt [] c s (TK X nt R ks) := by
  cases c with
  | skip => exact Tri.skip.mono fun ex s' hh => by obtain ⟨rfl, rfl⟩ := hh; exact h
  | exit id => exact Tri.exit.mono fun ex s' hh => by obtain ⟨rfl, rfl⟩ := hh; exact h
  | ret => exact Tri.ret.mono fun ex s' hh => by obtain ⟨rfl, rfl⟩ := hh; exact h
  | _ => exact h
theorem TK.ret {R : Ex → S → Prop} {s : S} (h : R .ret s) : ∀ ks : List K, TK X nt R ks .ret s
  | [] => h
  | .seq _ :: ks => TK.ret h ks
  | .blk id :: ks => TK.ret h ks
theorem TK.ne {R : Ex → S → Prop} {s : S} {b : Code} {ks : List K} {ex : Ex} (hx : ex ≠ .normal) (h : TK X nt R (.seq b :: ks) ex s) : TK X nt R ks ex s := by
  cases ex with
  | normal => exact absurd rfl hx
  | _ => exact h
theorem TriP.of_ex {R : Ex → S → Prop} {ks : List K} {ex : Ex} {s : S} (h : TriP X nt R (exCode ex) ks s) : TK X nt R ks ex s := by cases ex <;> exact h
theorem TriP.to_ex {R : Ex → S → Prop} {ks : List K} {ex : Ex} {s : S} (h : TK X nt R ks ex s) : TriP X nt R (exCode ex) ks s := by cases ex <;> exact h
theorem tRun_tri (hm : X.P.follows .mixedOrders = true) (hpr : ∀ f p, X.pr f = some p → PrimOk X.P f p) {T : Told} {stop : Nat} {R : Ex → S → Prop} : ∀ (n : Nat) (fst : Bool) (c : Code) (ks : List K) (s : S) {c' : Code} {ks' : List K} {s' : S} {ps : List Prop}, tRun X f nt [] T stop n fst c ks s = some (c', ks', s', ps) → AllP ps → TriP X nt R c' ks' s' → TriP X nt R c ks s
  | 0, fst, c, ks, s, _, _, _, _, h, _, _ => by simp [tRun] at h
  | n + 1, fst, c, ks, s, c', ks', s', ps, h, hp, q => by
    have ih := fun fst c ks s {c' ks' s' ps} => tRun_tri hm hpr (T := T) (stop := stop) (R := R) n fst c ks s (c' := c') (ks' := ks') (s' := s') (ps := ps)
    unfold tRun at h
    split at h
    · cases h; exact q
    cases c with
    | seq a b =>
      dsimp only at h
      exact Tri.seq (ih fst a (.seq b :: ks) s h hp q).tri (fun s1 h1 => h1) (fun ex s1 h1 hx => TK.ne hx h1)
    | block id a => dsimp only at h; exact Tri.block (ih fst a (.blk id :: ks) s h hp q).tri
    | scope a => dsimp only at h; exact Tri.scope (ih _ _ _ _ h hp q).tri
    | label l =>
      dsimp only at h
      exact (Tri.of_go hm hpr (c := .label l) (f := f) (s' := s) (ex := .normal) (Ev.of fun k => rfl)).mono fun ex s' hh => by obtain ⟨rfl, rfl⟩ := hh; exact ih _ _ _ _ h hp q
    | skip =>
      cases ks with
      | nil => dsimp only at h; cases h; exact q
      | cons k0 ks =>
        cases k0 with
        | seq b => dsimp only at h; exact (ih _ _ _ _ h hp q).tri
        | blk id => dsimp only at h; exact ih _ .skip ks s h hp q
    | exit id =>
      cases ks with
      | nil => dsimp only at h; cases h; exact q
      | cons k0 ks =>
        cases k0 with
        | seq b => dsimp only at h; exact ih _ (.exit id) ks s h hp q
        | blk id' =>
          dsimp only at h
          show TK X nt R ks (outOf id' (.exit id)) s
          split at h
          · rename_i hid
            subst hid
            have : outOf id (.exit id) = .normal := by simp [outOf]
            rw [this]
            exact ih _ .skip ks s h hp q
          · rename_i hid
            have : outOf id' (.exit id) = .exit id := by simp [outOf, hid]
            rw [this]
            exact ih _ (.exit id) ks s h hp q
    | ret => dsimp only at h; cases h; exact TK.ret q ks
    | cond x a b =>
      dsimp only at h
      split at h
      · rename_i hx; exact Tri.cond_true hx (ih _ _ _ _ h hp q).tri
      · rename_i hx; exact Tri.cond_false hx (ih _ _ _ _ h hp q).tri
      · cases h
    | region rid ops draw =>
      dsimp only at h
      split at h
      · cases h; exact q
      · split at h
        · rename_i s1 ps1 h1
          split at h
          · rename_i c2 ks2 s2 qs h2
            cases h
            obtain ⟨hp1, hp2⟩ := hp.append
            exact (Tri.of_go hm hpr (c := .region rid ops draw) (f := f) (s' := s1) (ex := .normal) ((tRegion_sound h1 hp1).mono fun k hk => by simp only [codeD, hk, Option.map_some])).mono fun ex s' hh => by obtain ⟨rfl, rfl⟩ := hh; exact ih _ .skip ks _ h2 hp2 q
          · cases h
        · cases h
    | loop a =>
      dsimp only at h
      split at h
      · cases h; exact q
      · split at h
        · rename_i ex s1 h1
          split at h
          · rename_i c2 ks2 s2 qs h2
            cases h
            obtain ⟨hp1, hp2⟩ := AllP.cons hp
            exact (Tri.of_go hm hpr hp1).mono fun ex' s' hh => by obtain ⟨rfl, rfl⟩ := hh; exact (ih _ _ ks _ h2 hp2 q).of_ex
          · cases h
        · cases h
    | rangeFunc g ps as_ body =>
      dsimp only at h
      split at h
      · cases h; exact q
      · split at h
        · rename_i ex s1 h1
          split at h
          · rename_i c2 ks2 s2 qs h2
            cases h
            obtain ⟨hp1, hp2⟩ := AllP.cons hp
            exact (Tri.of_go hm hpr hp1).mono fun ex' s' hh => by obtain ⟨rfl, rfl⟩ := hh; exact (ih _ _ ks _ h2 hp2 q).of_ex
          · cases h
        · cases h
    | _ => dsimp only at h; cases h
/-- From a place on it comes to what R says, whatever the model chooses. -/
def TriAt (X : Sys) (nt : Nat) (b : Code) (pos : Pos) (s : S) (R : Ex → S → Prop) : Prop := ∃ c ks, resolve b pos = some (c, ks) ∧ TriP X nt R c ks s
theorem TriAt.to (hm : X.P.follows .mixedOrders = true) (hpr : ∀ f p, X.pr f = some p → PrimOk X.P f p) {b : Code} {R : Ex → S → Prop} {pos : Pos} {s : S} (T : Told) (stop : Nat) (pos' : Pos) (s' : S) {p : Prop} (h : p) (e : tTo X f nt T stop b pos s = (some (resolve b pos', s'), p)) (g : TriAt X nt b pos' s' R) : TriAt X nt b pos s R := by
  unfold tTo at e
  split at e
  · rename_i c ks hr
    split at e
    · rename_i c' ks' s1 ps ht
      simp only [Prod.mk.injEq, Option.some.injEq] at e
      obtain ⟨⟨h1, rfl⟩, rfl⟩ := e
      obtain ⟨c2, ks2, h2, hq⟩ := g
      rw [← h1] at h2; cases h2
      exact ⟨c, ks, hr, tRun_tri hm hpr _ _ _ _ _ ht h hq⟩
    · simp at e
  · simp at e
theorem TriAt.fin {b : Code} {R : Ex → S → Prop} {ex : Ex} {s : S} (h : R ex s) : TriAt X nt b (.fin ex) s R := ⟨_, _, rfl, TriP.to_ex h⟩
theorem TriAt.tri {b : Code} {R : Ex → S → Prop} {s : S} (h : TriAt X nt b (.at []) s R) : Tri X.P nt [] b s R := by
  obtain ⟨c, ks, h1, h2⟩ := h
  have : c = b ∧ ks = [] := by
    cases b <;> (simp only [resolve, posK, Option.some.injEq, Prod.mk.injEq] at h1; exact ⟨h1.1.symm, h1.2.symm⟩)
  obtain ⟨rfl, rfl⟩ := this
  exact h2.tri
def openAt (b : Code) (p : List Nat) : Bool := match posK b p [] with
  | some (.skip, _) => false
  | some (.exit _, _) => false
  | some (.ret, _) => false
  | some _ => true
  | none => false
/-- Over a part of which it is known what it may come to. -/
theorem TriAt.over {b : Code} {p : List Nat} {R R1 : Ex → S → Prop} {s : S} (hb : openAt b p = true) (h : Tri X.P nt [] (sub b p) s R1) (g : ∀ ex s1, R1 ex s1 → TriAt X nt b (.ex p ex) s1 R) : TriAt X nt b (.at p) s R := by
  cases hq : posK b p [] with
  | none => rw [openAt, hq] at hb; cases hb
  | some r =>
    obtain ⟨c, ks⟩ := r
    have hc := posK_sub b p [] hq
    subst hc
    refine ⟨_, ks, hq, ?_⟩
    have h2 : Tri X.P nt [] (sub b p) s (TK X nt R ks) := h.mono fun ex s1 h1 => by
      obtain ⟨c2, ks2, g1, g2⟩ := g ex s1 h1
      simp only [resolve, hq, Option.map_some, Option.some.injEq, Prod.mk.injEq] at g1
      obtain ⟨rfl, rfl⟩ := g1
      exact g2.of_ex
    rw [openAt, hq] at hb
    revert hb h2
    cases sub b p <;> intro hb h2 <;> first | exact h2 | cases hb
end
/-- An end of a call on some objects that the kernel finds by itself. -/
def tEndL (X : Sys) (f : Nat) (fn : Func) (nt : Nat) (T : Told) (b : Code) (k : Nat) (pos : Pos) (s : S) : Option ((DV × List Ob) × Prop) :=
  match tEnd X f nt T b pos s with
  | some ((ex, s'), p) => if isExit ex then none else match (resD X.P s' fn.results.toList).map resOne with
    | some d' => match endL k d' s'.m.st with
      | some r => some (r, p)
      | none => none
    | none => none
  | none => none
theorem Sys.endL' {X : Sys} {f nt : Nat} {fn : Func} {b : Code} {pos : Pos} {s : S} {k : Nat} {d : DV} {os : List Ob} (T : Told) {p : Prop} (h : p) (e : tEndL X f fn nt T b k pos s = some ((d, os), p)) : X.GoAt f nt b pos s (FinL X fn k d os) := by
  unfold tEndL at e
  split at e
  · rename_i ex s' p' he
    split at e
    · cases e
    · rename_i hx
      split at e
      · rename_i d' hr
        split at e
        · rename_i r hc
          cases e
          exact tEnd_go h he ⟨by simpa using hx, d', hr, hc⟩
        · cases e
      · cases e
  · cases e
end Go.Abs

/-
  Abs45: arguments that are structures of any fields, of recursive types too: every reading is the cells of a Lean value.
-/
set_option linter.unusedVariables false
set_option linter.unusedSimpArgs false
set_option linter.unusedSectionVars false
namespace Go.Abs
open Go Go.ChangeShapes Go.WideShapes Go.ChangeAt Go.RowKit
variable [Fl]
section
variable {P : Program} {w : World} {base : Nat}
/-- Whatever is read of the type, with fuel F at most, is the cells of a value of α. -/
def RdE (P : Program) (w : World) (base : Nat) (F : Nat) (t : TypeId) (α : Type) [Enc α] : Prop :=
  ∀ (H : Type) (enc : TypeId × Value → H) (sp : Nat → Bool) (held : Bool) (fuel : Nat) (vs : List Value) (x : DataW H × List MemPlace), fuel ≤ F → DataW.trod enc P w base sp held fuel t vs = some x → ∃ a : α, RCs (old w) w (Enc.enc a) vs
theorem RdE.le {F F' : Nat} {t : TypeId} {α : Type} [Enc α] (h : RdE P w base F t α) (hl : F' ≤ F) : RdE P w base F' t α := fun H enc sp held fuel vs x hf => h H enc sp held fuel vs x (Nat.le_trans hf hl)
theorem rdE_zero {t : TypeId} {α : Type} [Enc α] : RdE P w base 0 t α := fun H enc sp held fuel vs x hF h => by
  have : fuel = 0 := by omega
  subst this
  simp [DataW.trod] at h
theorem rdE_int {F : Nat} {t : TypeId} (ht : P.underlying t = some (.int .i64)) : RdE P w base F t Int := fun H enc sp held fuel vs x _ h => by
  obtain ⟨v, c, rfl, h1, h2, h3⟩ := reads_int ht H enc sp held fuel vs x h
  obtain ⟨n, rfl, _⟩ := int_of h3
  exact ⟨n, .cons h2 h1 .nil⟩
theorem rdE_str {F : Nat} {t : TypeId} (ht : P.underlying t = some .string) : RdE P w base F t ByteArray := fun H enc sp held fuel vs x _ h => by
  obtain ⟨v, c, rfl, h1, h2, s, rfl, _⟩ := reads_str ht H enc sp held fuel vs x h
  exact ⟨s, .cons h2 h1 .nil⟩
theorem rdE_bool {F : Nat} {t : TypeId} (ht : P.underlying t = some .bool) : RdE P w base F t Bool := fun H enc sp held fuel vs x _ h => by
  cases fuel with
  | zero => simp [DataW.trod] at h
  | succ fuel =>
    unfold DataW.trod at h
    rw [ht] at h
    split at h <;> first | (rename_i hh; cases hh; done) | skip
    all_goals (try (rename_i hh; injection hh with hh; done))
    · exact ⟨_, .cons rfl (.sc rfl) .nil⟩
    all_goals (first | (cases h; done) | (simp at h; done))
theorem RCs.len {im : Addr → Prop} : ∀ {cs : List CV} {vs : List Value}, RCs im w cs vs → cs.length = vs.length
  | _, _, .nil => rfl
  | _, _, .cons _ _ h => by simp [RCs.len h]
theorem rdE_slice {F : Nat} {t e : TypeId} {α : Type} [Enc α] (ht : P.underlying t = some (.slice e)) (hc : P.cellsOf e = Enc.sz α) (hq : RdE P w base F e α) : RdE P w base (F + 1) t (Sl α) := by
  intro H enc sp held fuel vs x hF h
  rcases DataW.trod_slice ht h with ⟨rfl, _⟩ | ⟨a, len, cap, elems, rest, n, rfl, rfl, _, _, hle, hcap, hel, hget, _, _⟩
  · exact ⟨⟨true, true, []⟩, .cons rfl .nil .nil⟩
  · have hp : ∀ m, m ≤ len → ∃ (l : List α) (us : List Value), l.length = m ∧ RCs (old w) w (cells l) us ∧ us.length = m * Enc.sz α ∧ (∀ i v, us[i]? = some v → w.cell? (a.add i) = some v) := by
      intro m
      induction m with
      | zero => intro _; exact ⟨[], [], rfl, .nil, by simp, by simp⟩
      | succ m ih =>
        intro hm
        obtain ⟨l, us, h1, h2, h3, h4⟩ := ih (by omega)
        have hg := hget m (by omega)
        have hlt : m < elems.length := by omega
        rw [List.getElem?_eq_getElem hlt, Option.bind_eq_some_iff] at hg
        obtain ⟨us', hus, htr⟩ := hg
        rw [hc] at hus
        obtain ⟨b, g1⟩ := hq H enc sp held n us' _ (by omega) htr
        obtain ⟨l1, l2⟩ := cells_cell hus
        refine ⟨l ++ [b], us ++ us', by simp [h1], ?_, by simp [h3, l1, Nat.succ_mul], fun i v hv => ?_⟩
        · have : cells (l ++ [b]) = cells l ++ Enc.enc b := by simp [cells]
          rw [this]; exact RCs.append' h2 g1
        · rcases Nat.lt_or_ge i us.length with hlt | hge
          · rw [List.getElem?_append_left hlt] at hv; exact h4 i v hv
          · rw [List.getElem?_append_right hge] at hv
            have := l2 _ v hv
            rw [add_add] at this
            have e : m * Enc.sz α + (i - us.length) = i := by omega
            rw [e] at this
            exact this
    obtain ⟨l, us, h1, h2, h3, h4⟩ := hp len (Nat.le_refl _)
    refine ⟨⟨false, decide (cap = len), l⟩, .cons rfl ?_ .nil⟩
    show RC (old w) w (.sl false (decide (cap = len)) (cells l) l.length) _
    rw [h1]
    exact .sl h2 (fun i v hv => ⟨h4 i v hv, World.block_lt_of_cell? _ _ (h4 i v hv)⟩) hle (fun hx => by simpa using hx)
/-- A structure's fields, one behind the other. -/
def partsOk (P : Program) : Nat → List Field → List (TypeId × Nat) → Bool
  | _, [], [] => true
  | i, f :: fs, (t, n) :: l => f.offset == i && f.type == t && P.cellsOf t == n && partsOk P (i + n) fs l
  | _, _, _ => false
def Parts {H : Type} (enc : TypeId × Value → H) (P : Program) (w : World) (base : Nat) (sp : Nat → Bool) (held : Bool) (m : Nat) : List (TypeId × Nat) → List Value → Prop
  | [], vs => vs = []
  | (t, n) :: l, vs => (∃ x, DataW.trod enc P w base sp held m t (vs.take n) = some x) ∧ Parts enc P w base sp held m l (vs.drop n)
def sumN : List (TypeId × Nat) → Nat
  | [] => 0
  | (_, n) :: l => n + sumN l
theorem parts_of {H : Type} {enc : TypeId × Value → H} {sp : Nat → Bool} {held : Bool} {m : Nat} {vs : List Value} : ∀ {fs : List Field} {l : List (TypeId × Nat)} {i : Nat}, partsOk P i fs l = true → vs.length = i + sumN l →
    (∀ (j : Nat) (f : Field), fs[j]? = some f → ∃ x, DataW.trod enc P w base sp held m f.type ((vs.drop f.offset).take (P.cellsOf f.type)) = some x) → Parts enc P w base sp held m l (vs.drop i)
  | [], [], i, _, hl, _ => by
    show vs.drop i = []
    exact List.drop_eq_nil_of_le (by simp [sumN] at hl; omega)
  | f :: fs, (t, n) :: l, i, h, hl, hg => by
    simp only [partsOk, Bool.and_eq_true, beq_iff_eq] at h
    obtain ⟨⟨⟨h1, h2⟩, h3⟩, h4⟩ := h
    have h0 := hg 0 f rfl
    rw [h1, h2, h3] at h0
    refine ⟨h0, ?_⟩
    rw [List.drop_drop]
    exact parts_of h4 (by simp [sumN] at hl; omega) fun j f hf => hg (j + 1) f (by simpa using hf)
  | [], _ :: _, _, h, _, _ => by simp [partsOk] at h
  | _ :: _, [], _, h, _, _ => by simp [partsOk] at h
theorem struct_parts {H : Type} {enc : TypeId × Value → H} {sp : Nat → Bool} {held : Bool} {fuel : Nat} {t : TypeId} {fs : Array Field} {l : List (TypeId × Nat)} {vs : List Value} {x : DataW H × List MemPlace} (ht : P.underlying t = some (.struct fs)) (hp : partsOk P 0 fs.toList l = true) (hn : P.cellsOf t = sumN l)
    (h : DataW.trod enc P w base sp held fuel t vs = some x) : ∃ m, fuel = m + 1 ∧ Parts enc P w base sp held m l vs := by
  obtain ⟨xs, m, rfl, _, hl, hxl, hget⟩ := DataW.trod_struct ht h
  refine ⟨m, rfl, ?_⟩
  have := parts_of (enc := enc) (w := w) (base := base) (sp := sp) (held := held) (m := m) (vs := vs) hp (by omega) (fun j f hf => by
    have hf' : fs[j]? = some f := by rw [← Array.getElem?_toList]; exact hf
    have hj : j < xs.length := by rw [hxl]; exact (Array.getElem?_eq_some_iff.1 hf').1
    exact ⟨_, (hget j f hf').trans (List.getElem?_eq_getElem hj)⟩)
  simpa using this
theorem RCs.parts {im : Addr → Prop} {n : Nat} {cs cs' : List CV} {vs : List Value} (h : RCs im w cs (vs.take n)) (h' : RCs im w cs' (vs.drop n)) : RCs im w (cs ++ cs') vs := by
  have := RCs.append' h h'
  rwa [List.take_append_drop] at this
theorem RCs.nil' {im : Addr → Prop} {vs : List Value} (h : vs = []) : RCs im w [] vs := by subst h; exact .nil
/-- An argument, closed. -/
theorem rdE_arg {t : TypeId} {α : Type} [Enc α] (hq : ∀ F, RdE P w base F t α) {H : Type} {enc : TypeId × Value → H} {sp : Nat → Bool} {held : Bool} {vs : Array Value} {d : DataW H} {ps : List MemPlace} (h : DataW.Trod enc P w base sp held t (.agg vs) d ps) : ∃ a : α, RC (old w) w (.agg (Enc.enc a)) (.agg vs) := by
  obtain ⟨fuel, hf⟩ := h
  obtain ⟨a, h1⟩ := hq fuel H enc sp held fuel _ _ (Nat.le_refl _) hf
  exact ⟨a, by cases vs; exact .agg h1⟩
theorem rdE_arg1 {t : TypeId} {α : Type} [Enc α] (hs : Enc.sz α = 1) (hq : ∀ F, RdE P w base F t α) {H : Type} {enc : TypeId × Value → H} {sp : Nat → Bool} {held : Bool} {v : Value} {d : DataW H} {ps : List MemPlace} (h : DataW.Trod enc P w base sp held t v d ps) (hv : v.oneCell' = true) : ∃ (a : α) (c : CV), Enc.enc a = [c] ∧ RC (old w) w c v := by
  obtain ⟨fuel, hf⟩ := h
  obtain ⟨a, h1⟩ := hq fuel H enc sp held fuel _ _ (Nat.le_refl _) hf
  rw [cells_one hv] at h1
  have hl : (Enc.enc a).length = 1 := (Enc.len a).trans hs
  obtain ⟨c, hc⟩ := List.length_eq_one_iff.1 hl
  rw [hc] at h1
  cases h1 with
  | cons _ h _ => exact ⟨a, c, hc, h⟩
end
end Go.Abs

/-
  Abs46: the library's sort of pairs, as one step on an object: its contract; a closure's call that turns nothing.
-/
set_option linter.unusedVariables false
set_option linter.unusedSimpArgs false
set_option linter.unusedSectionVars false
namespace Go.Abs
open Go
variable [Fl]
section
variable [Gl] {P : Program} {n0 : Nat} {PR : Addr → Prop} {e : E} {reg : Own → Addr → Prop} {Γ : List (Nat × Ctx)} {m : M}
/-- New blocks, draws: what stood stands. -/
theorem MI.grow (m : MI n0 PR e reg) (os : Array Obj) (n : Nat) : MI n0 PR { e with w := Sort.grow (Sort.ahead e.w n) os } reg ∧ Ext e { e with w := Sort.grow (Sort.ahead e.w n) os } ∧ ∀ X, Keep n0 PR X e.w (Sort.grow (Sort.ahead e.w n) os) := by
  have hc : ∀ a, a.block < e.w.heap.size → (Sort.grow (Sort.ahead e.w n) os).cell? a = e.w.cell? a := fun a h => Sort.cell?_grow (Sort.ahead e.w n) os a h
  have hf : ∀ a, a.block < e.w.heap.size → (Sort.grow (Sort.ahead e.w n) os).frozen? a = e.w.frozen? a := fun a h => Sort.frozen?_grow (Sort.ahead e.w n) os a h
  have hsz : (Sort.grow (Sort.ahead e.w n) os).heap.size = e.w.heap.size + os.size := Sort.size_grow _ _
  have hx : Ext e { e with w := Sort.grow (Sort.ahead e.w n) os } := ⟨fun _ h => h, fun a ha => hc a (m.imlt a ha), Nat.le_refl _, fun j a b ha hb => by simp only at hb; rw [ha] at hb; cases hb; exact ⟨Nat.le_refl _, fun _ => rfl⟩, fun _ _ h => h⟩
  refine ⟨⟨fun a ha => ?_, m.impr, fun a ha => ?_, ?_, fun p a hp => ?_, m.disj, m.ext, m.own, fun j x hj i d hd => ?_⟩, hx, fun X => ⟨rfl, rfl, rfl, by rw [hsz]; omega, fun r hr => Sort.heap_grow_old (Sort.ahead e.w n) os (Nat.lt_of_lt_of_le hr m.n0le), fun a ha => ⟨hc a (m.prlt a ha), hf a (m.prlt a ha)⟩,
    fun r o ho _ _ => by rw [Sort.heap_grow_old (Sort.ahead e.w n) os (Array.getElem?_eq_some_iff.1 ho).1]; exact ho, fun _ => Nat.le_add_right _ _⟩⟩
  · show a.block < (Sort.grow (Sort.ahead e.w n) os).heap.size
    rw [hsz]; have := m.imlt a ha; omega
  · show a.block < (Sort.grow (Sort.ahead e.w n) os).heap.size
    rw [hsz]; have := m.prlt a ha; omega
  · show n0 ≤ (Sort.grow (Sort.ahead e.w n) os).heap.size
    rw [hsz]; have := m.n0le; omega
  · obtain ⟨h1, ⟨v, h2⟩, h3, h4, h5⟩ := m.ok p a hp
    have hlt := World.block_lt_of_cell? _ _ h2
    exact ⟨h1, ⟨v, (hc a hlt).trans h2⟩, (hf a hlt).trans h3, h4, h5⟩
  · obtain ⟨h1, v, h2, h3⟩ := m.cell j x hj i d hd
    exact ⟨h1, v, (hc _ (World.block_lt_of_cell? _ _ h2)).trans h2, h3.mono hx fun _ h => h⟩

theorem cell_spot {w : World} {a : Addr} {s : Nat} (h : a.spot = some s) : w.cell? a = none := by
  unfold World.cell?
  cases w.heap[a.block]? with
  | none => rfl
  | some o => cases o <;> simp [h]
theorem wr_putRow {α : Type} [Inhabited α] (enc : α → Value) (w : World) (blk off : Nat) (d0 d : Array α) (h0 : Sort.Holds enc w blk off d0) (hs : d.size = d0.size) (hpos : 0 < d.size) : Wr w (Sort.putRow enc w blk off d) (fun a => ∃ j, j < d.size ∧ a = ⟨blk, off + j, none⟩) := by
  have hheap : (Sort.putRow enc w blk off d).heap = w.heap.modify blk (Sort.onCells (Sort.putCells enc off d)) := rfl
  refine ⟨rfl, rfl, rfl, by rw [hheap]; simp, fun a ha => ?_, fun a => Sort.frozen?_mapBlock w blk _ a, fun r hr => ?_, fun r o ho hc => ?_, rfl⟩
  · by_cases hb : a.block ≠ blk ∨ a.off < off ∨ off + d.size ≤ a.off
    · exact Sort.cell?_putRow_other enc w blk off d a hb
    · cases hsp : a.spot with
      | none =>
        refine absurd ⟨a.off - off, by omega, ?_⟩ ha
        cases a with
        | mk b o s =>
          simp only at hb hsp ⊢
          subst hsp
          congr 1 <;> omega
      | some s => rw [cell_spot hsp, cell_spot hsp]
  · rw [hheap, Array.getElem?_modify]
    rw [if_neg]
    exact hr ⟨blk, off + 0, none⟩ ⟨0, hpos, rfl⟩
  · rw [hheap, Array.getElem?_modify]
    split
    · rw [ho]
      cases o <;> first | (simp [isC] at hc; done) | rfl
    · exact ho

/-- A part of an object is turned where it lies: what the world was, what it is. -/
theorem turn_cells {α : Type} [Inhabited α] (enc : α → Value) (mi : MI n0 PR e reg) {id off : Nat} {o : Ob} {d0 d1 : Array α} (ho : e.st[id]? = some o) (hH : Sort.Holds enc e.w (e.io id).b ((e.io id).off + off) d0) (hle : off + d0.size ≤ o.cs.length) (hpos : 0 < d0.size)
    (hsz : d1.size = d0.size) (ds : List DV) (hds : ds.length = d1.size) (hrd : ∀ (j : Nat) (d : DV), ds[j]? = some d → cellOk d = true ∧ RD e (fun _ => False) d (enc d1[j]!)) (n : Nat) (os : Array Obj) :
    let e' : E := { e with w := Sort.grow (Sort.putRow enc (Sort.ahead e.w n) (e.io id).b ((e.io id).off + off) d1) os, st := e.st.set id ⟨o.ver, setL o.cs off ds⟩ }
    MI n0 PR e' reg ∧ Ext e e' ∧ Keep n0 PR (fun _ => False) e.w e'.w := by
  intro e'
  have hpos' : 0 < d1.size := by omega
  have hw := wr_putRow enc e.w (e.io id).b ((e.io id).off + off) d0 d1 hH hsz hpos'
  have hext := mi.ext id o ho
  have hS : ∀ a, (∃ j, j < d1.size ∧ a = (⟨(e.io id).b, (e.io id).off + off + j, none⟩ : Addr)) → reg (.ob id) a := fun a ⟨j, hj, ha⟩ => by
    subst ha
    have := mi.own id o ho (off + j) (by omega)
    simpa [Fp.at, Nat.add_assoc] using this
  have hnew : ∀ j, j < d1.size → (Sort.putRow enc e.w (e.io id).b ((e.io id).off + off) d1).cell? ⟨(e.io id).b, (e.io id).off + off + j, none⟩ = some (enc d1[j]!) := fun j hj => Sort.cell?_putRow enc e.w _ _ d0 d1 hH hsz j hj
  obtain ⟨mi1, x1⟩ := mi.obj (o' := ⟨o.ver, setL o.cs off ds⟩) ho (f' := e.io id) hw hS (fun a ⟨j, hj, ha⟩ => by subst ha; exact ⟨_, hnew j hj⟩)
    (q := reg) (fun p a h => ⟨p, h⟩) (fun p q a h1 h2 => mi.disj p q a h1 h2) (fun j _ a h => h) (fun j _ i a h => h) (fun i hi => mi.own id o ho i hi) (by rw [setL_len]; exact hext) ⟨Nat.le_refl _, fun _ => rfl⟩
    (fun i d hd => by
      by_cases hin : off ≤ i ∧ i < off + ds.length
      · obtain ⟨j, rfl⟩ : ∃ j, i = off + j := ⟨i - off, by omega⟩
        have hj : j < ds.length := by omega
        rw [setL_in _ _ _ _ (by omega) hj] at hd
        obtain ⟨h1, h2⟩ := hrd j d hd
        refine ⟨h1, _, ?_, h2.weak fun _ h => h.elim⟩
        have := hnew j (by omega)
        simp [Fp.at, Nat.add_assoc]
      · rw [setL_out _ _ _ _ (by omega)] at hd
        obtain ⟨h1, v, h2, h3⟩ := mi.cell id o ho i d hd
        refine ⟨h1, v, ?_, h3⟩
        have hno : ¬ ∃ j, j < d1.size ∧ (e.io id).at i = (⟨(e.io id).b, (e.io id).off + off + j, none⟩ : Addr) := by
          rintro ⟨j, hj, ha⟩
          simp only [Fp.at, Addr.mk.injEq] at ha
          omega
        rw [hw.cell _ hno]
        exact h2)
  have hio : updIo e.io id (e.io id) = e.io := by
    funext j; unfold updIo; split
    · rename_i h; rw [h]
    · rfl
  rw [hio] at mi1 x1
  obtain ⟨mi2, x2, k2⟩ := mi1.grow os n
  have hn0 : ∀ a, (∃ j, j < d1.size ∧ a = (⟨(e.io id).b, (e.io id).off + off + j, none⟩ : Addr)) → n0 ≤ a.block ∧ ¬ PR a := fun a ha => by
    have := mi.ok _ a (hS a ha)
    exact ⟨this.1, this.2.2.2.2⟩
  exact ⟨mi2, x1.trans x2, (hw.keep hn0 _).trans (k2 _)⟩


/-- Pairs, as cells. -/
def pairsOf : List DV → Option (List (Int × Int))
  | [] => some []
  | .c (.sc (.int .i64 a)) :: .c (.sc (.int .i64 b)) :: r => (pairsOf r).map ((a, b) :: ·)
  | _ => none
def flatP : List (Int × Int) → List DV
  | [] => []
  | p :: l => dInt p.1 :: dInt p.2 :: flatP l
theorem pairsOf_eq : ∀ {ds : List DV} {l : List (Int × Int)}, pairsOf ds = some l → ds = flatP l
  | [], l, h => by simp only [pairsOf] at h; cases h; rfl
  | [x], l, h => by
    unfold pairsOf at h
    split at h
    · rename_i hh; cases hh
    · rename_i hh; cases hh
    · cases h
  | x :: y :: r, l, h => by
    unfold pairsOf at h
    split at h
    · rename_i hh; cases hh
    · rename_i a b r' hh
      cases hh
      obtain ⟨l', h1, rfl⟩ := Option.map_eq_some_iff.1 h
      rw [pairsOf_eq h1]; rfl
    · cases h
theorem flatP_length : ∀ l : List (Int × Int), (flatP l).length = l.length * 2
  | [] => rfl
  | p :: l => by simp only [flatP, List.length_cons, flatP_length l]; omega
def encP (p : Int × Int) : List Value := [.int .i64 p.1, .int .i64 p.2]
theorem flatP_get : ∀ (l : List (Int × Int)) (t : Nat), t < l.length * 2 → ∃ n, (flatP l)[t]? = some (dInt n) ∧ (encP (l[t / 2]!))[t % 2]! = .int .i64 n
  | [], t, h => by simp at h
  | p :: l, 0, h => ⟨p.1, rfl, rfl⟩
  | p :: l, 1, h => ⟨p.2, rfl, rfl⟩
  | p :: l, t + 2, h => by
    obtain ⟨n, h1, h2⟩ := flatP_get l t (by simp at h; omega)
    refine ⟨n, by simpa [flatP] using h1, ?_⟩
    rw [show (t + 2) / 2 = t / 2 + 1 by omega, show (t + 2) % 2 = t % 2 by omega]
    simpa using h2
theorem flatK_get (l : List (Int × Int)) (t : Nat) (h : t < l.length * 2) : ∃ n, (flatP l)[t]? = some (dInt n) ∧ (Sort.flatK encP 2 l.toArray)[t]! = .int .i64 n := by
  obtain ⟨n, h1, h2⟩ := flatP_get l t h
  refine ⟨n, h1, ?_⟩
  rw [Sort.get_flatK _ _ _ _ (by simpa using h)]
  simpa using h2
/-- slices.SortFunc of pairs by a closure whose order is known. -/
def sort2P (cmp : FuncId) (srt : List (Int × Int) → List (Int × Int)) (st : List Ob) : List DV → Option Out
  | [.c (.sl true _ _ _), _] => some { d := .tup [] }
  | [.ms id ver off (len + 1) 2 _, .fn f [] []] => if f = cmp ∧ len < 4611686018427387903 then match getO st id ver with
    | some o => ((span o.cs off ((len + 1) * 2)).bind pairsOf).map fun l => { d := .tup [], set := some (id, ⟨ver, setL o.cs off (flatP (srt l))⟩) }
    | none => none else none
  | _ => none
theorem sort2P_ways {cmp : FuncId} {srt : List (Int × Int) → List (Int × Int)} {st : List Ob} {args : List DV} {r : Out} (h : sort2P cmp srt st args = some r) : (∃ x cs n g, args = [.c (.sl true x cs n), g] ∧ r = { d := .tup [] }) ∨
    ∃ (id ver off len : Nat) (x : Bool) (o : Ob) (ds : List DV) (l : List (Int × Int)), args = [.ms id ver off (len + 1) 2 x, .fn cmp [] []] ∧ len + 1 < 4611686018427387904 ∧ st[id]? = some o ∧ o.ver = ver ∧ span o.cs off ((len + 1) * 2) = some ds ∧ pairsOf ds = some l ∧ r = { d := .tup [], set := some (id, ⟨ver, setL o.cs off (flatP (srt l))⟩) } := by
  unfold sort2P at h
  split at h
  · cases h; exact .inl ⟨_, _, _, _, rfl, rfl⟩
  · rename_i id ver off len x f
    split at h
    · rename_i hc
      obtain ⟨rfl, hlen⟩ := hc
      split at h
      · rename_i o ho
        obtain ⟨l, h1, rfl⟩ := Option.map_eq_some_iff.1 h
        obtain ⟨ds, h3, h4⟩ := Option.bind_eq_some_iff.1 h1
        obtain ⟨h5, h6⟩ := getO_some ho
        exact .inr ⟨id, ver, off, len, x, o, ds, l, rfl, by omega, h5, h6, h3, h4, rfl⟩
      · cases h
    · cases h
  · cases h
theorem sort2_ok {f cmp : FuncId} {srt : List (Int × Int) → List (Int × Int)} (hlen : ∀ l, (srt l).length = l.length) (hnil : ∀ w fv, Calls P f #[.slice none 0 0, fv] w fun e w' => e = .returned (.tuple #[]) ∧ w' = w)
    (hcon : ∀ (blk off cap : Nat) (l : List (Int × Int)) (w : World), Sort.HoldsK encP 2 w blk off l.toArray → blk < w.heap.size → l.length < 4611686018427387904 →
      Calls P f #[.slice (some ⟨blk, off, none⟩) l.length cap, .func (.func cmp) #[] #[]] w fun e w' => e = .returned (.tuple #[]) ∧ ∃ n os, w' = Go.Proofs.sortWorldK encP 2 w blk off n (srt l).toArray os) : PrimOk P f (sort2P cmp srt) := by
  refine ⟨fun st args r h => ?_, fun st args r h id o ho => ?_, fun st st' args hs => ?_, fun m args r h Γ n0 PR e reg vs n st hres hns hr => ?_⟩
  · rcases sort2P_ways h with ⟨_, _, _, _, _, rfl⟩ | ⟨_, _, _, _, _, _, _, _, _, _, _, _, _, _, rfl⟩ <;> rfl
  · rcases sort2P_ways h with ⟨_, _, _, _, _, rfl⟩ | ⟨id', ver, off, len, x, o', ds, l, rfl, _, _, _, _, _, rfl⟩
    · cases ho
    · simp only [Option.some.injEq, Prod.mk.injEq] at ho
      obtain ⟨rfl, _⟩ := ho
      simp [refsOf]
  · unfold sort2P
    split
    · rfl
    · rename_i id ver off len x f
      have := hs id (by simp [refsOf])
      simp only [getO, this]
    · rfl
  · rcases sort2P_ways h with ⟨x, cs, k, g, rfl, rfl⟩ | ⟨id, ver, off, len, x, o, ds, l, rfl, hlt, ho, hv, hsp, hin, rfl⟩
    · cases hr with
      | cons hd hrs =>
        cases hrs with
        | cons hg hrs =>
          cases hrs
          cases hd with
          | c hc =>
            obtain ⟨rfl, _, _⟩ := sl_nil hc
            refine callsIn_wide.2 ((hnil e.w _).mono fun en w' ⟨he, hw⟩ => ?_)
            subst he; subst hw
            exact ⟨e, reg, rfl, st, hns, To.refl _ _ _ _, .tup .nil⟩
    · cases hr with
      | cons hd hrs =>
        cases hrs with
        | cons hg hrs =>
          cases hrs
          have ho' : e.st[id]? = some o := by rw [st.st]; exact ho
          cases hg with
          | fn hg1 hg2 =>
            cases hg1; cases hg2
            cases hd with
            | ms hid hl hx hv' =>
              rename_i a cap
              obtain ⟨_, h2⟩ := hv' o ho'
              obtain ⟨h3, h4⟩ := h2 hv.symm
              have ha : a = (e.io id).at off := h3.resolve_left (by omega)
              subst ha
              have hds := pairsOf_eq hin
              have hdl := span_len hsp
              have hll : l.length = len + 1 := by rw [hds, flatP_length] at hdl; omega
              have hspan := (span_some hsp).2
              have hext := st.mi.ext id o ho'
              have hcell : ∀ t, t < l.length * 2 → ∃ n, e.w.cell? ((e.io id).at (off + t)) = some (.int .i64 n) ∧ (Sort.flatK encP 2 l.toArray)[t]! = .int .i64 n := fun t ht => by
                obtain ⟨n, g1, g2⟩ := flatK_get l t ht
                rw [← hds] at g1
                obtain ⟨_, v, k2, k3⟩ := st.mi.cell id o ho' (off + t) _ (span_get hsp g1).1
                have hvv : v = .int .i64 n := by
                  cases k3 with
                  | c h => cases h with | sc h => rfl
                subst hvv
                exact ⟨n, k2, g2⟩
              have hH : Sort.HoldsK encP 2 e.w (e.io id).b ((e.io id).off + off) l.toArray := fun t ht => by
                have ht' : t < l.length * 2 := by simpa using ht
                obtain ⟨n, k1, k2⟩ := hcell t ht'
                have h2 := (st.mi.ok _ _ (st.mi.own id o ho' (off + t) (by omega))).2.2.1
                simp only [Fp.at, ← Nat.add_assoc] at k1 h2
                exact ⟨by rw [k1, k2]; rfl, h2⟩
              have hb : (e.io id).b < e.w.heap.size := World.block_lt_of_cell? _ _ (hH 0 (by simp; omega)).1
              have hcall := hcon (e.io id).b ((e.io id).off + off) cap l e.w hH hb (by omega)
              rw [hll] at hcall
              refine callsIn_wide.2 (hcall.mono fun en w' ⟨he, k, os, hw⟩ => ?_)
              subst he; subst hw; subst hv
              have hsl : (srt l).length = l.length := hlen l
              obtain ⟨h5, h6, h7⟩ := turn_cells (α := Value) (fun v => v) st.mi ho' (d0 := Sort.flatK encP 2 l.toArray) hH (by rw [Sort.size_flatK]; simp only [List.size_toArray]; omega) (by rw [Sort.size_flatK]; simp only [List.size_toArray]; omega) (d1 := Sort.flatK encP 2 (srt l).toArray) (by simp [hsl]) (flatP (srt l)) (by simp [flatP_length]) (fun j d hj => by
                have hjl : j < (srt l).length * 2 := by have := (List.getElem?_eq_some_iff.1 hj).1; rwa [flatP_length] at this
                obtain ⟨n, q1, q2⟩ := flatK_get (srt l) j hjl
                rw [q1] at hj; cases hj
                rw [q2]
                exact ⟨rfl, .c (.sc rfl)⟩) k os
              refine ⟨{ e with w := Go.Proofs.sortWorldK encP 2 e.w (e.io id).b ((e.io id).off + off) k (srt l).toArray os, st := e.st.set id ⟨o.ver, setL o.cs off (flatP (srt l))⟩ }, reg, rfl, ⟨?_, st.la, fun r hr => ⟨(st.lt r hr).1, Nat.lt_of_lt_of_le (st.lt r hr).2 h7.size⟩, h5, st.gi.keep h6 h7 (SameK.of_set rfl rfl)⟩, hns, To.of_keep h6 h7 (SameK.of_set rfl rfl), .tup .nil⟩
              simp only [st.st]; rfl
end
/-- A closure's call on closed values, as the sort asks it: what it hands back; the world has grown, the tape was asked onward. -/
theorem call_grown [Gl] (hfl : Fl.dr) {X : Sys} (hm : X.P.follows .mixedOrders = true) (hp : ∀ f p, X.pr f = some p → PrimOk X.P f p) {f : FuncId} {args : List DV} {n : Int} {vs : List Value} {w : World} (hgl : (∀ a, Gl.as a → a.block < w.heap.size) ∧ Gl.ok w) (h : X.RunsC f args (dInt n))
    (hr : RDs ⟨old w, w, [], fun _ => ⟨0, 0, 0⟩, []⟩ args vs) : Calls X.P f ⟨vs⟩ w fun en w' => en = .returned (.int .i64 n) ∧ ∃ q os, w' = Sort.grow (w.drewN q) os := by
  obtain ⟨k, hk⟩ := h
  obtain ⟨d', m', h1, h2⟩ := hk k (Nat.le_refl _)
  refine (call_closed hgl hm X.an hp h1 hr).mono fun en w' ⟨v, e', s, he, _, hd, hkeep⟩ => ?_
  subst he
  have hd' : d' = dInt n := by
    cases d' with
    | c v => simp only [closeTop] at h2; exact Option.some.inj h2
    | ap => simp [closeTop, dInt] at h2
    | tup ds =>
      simp only [closeTop, Option.map_eq_some_iff] at h2
      obtain ⟨_, _, h2⟩ := h2
      cases h2
    | agg ds =>
      simp only [closeTop, Option.map_eq_some_iff, closeD] at h2
      obtain ⟨a, ⟨b, _, rfl⟩, h2⟩ := h2
      cases h2
    | ms id ver off len esz x =>
      simp only [closeTop, Option.map_eq_some_iff, closeD] at h2
      obtain ⟨a, h1, h2⟩ := h2
      split at h1
      · simp only [Option.map_eq_some_iff, Option.bind_eq_some_iff] at h1
        obtain ⟨_, _, _, _, rfl⟩ := h1
        cases h2
      · cases h1
    | un => simp [closeTop, closeD] at h2
    | pt => simp [closeTop, closeD] at h2
    | ia => simp [closeTop, closeD] at h2
    | fn => simp [closeTop, closeD] at h2
    | yl => simp [closeTop, closeD] at h2
    | er => simp [closeTop, closeD] at h2
    | mp => simp [closeTop, closeD] at h2
    | mi => simp [closeTop, closeD] at h2
  subst hd'
  refine ⟨by cases hd with | c h => cases h with | sc h => rfl, w'.drawn - w.drawn, w'.heap.extract w.heap.size w'.heap.size, ?_⟩
  have hdr := hkeep.dr hfl
  have h1 := hkeep.os
  have h2 := hkeep.tape
  have h3 := hkeep.output
  have h4 := hkeep.size
  have h5 : w'.heap = w.heap ++ w'.heap.extract w.heap.size w'.heap.size := by
    apply Array.ext_getElem?
    intro i
    by_cases hi : i < w.heap.size
    · rw [Array.getElem?_append_left hi]; exact hkeep.old i hi
    · rw [Array.getElem?_append_right (by omega), Array.getElem?_extract]
      by_cases hi' : i < w'.heap.size
      · rw [if_pos (by omega)]; congr 1; omega
      · rw [if_neg (by omega)]; exact Array.getElem?_eq_none (by omega)
  cases w' with
  | mk heap tape drawn os output =>
    simp only at h1 h2 h3 h4 h5 hdr
    subst h1; subst h2; subst h3
    simp only [Sort.grow, World.drewN, World.mk.injEq, true_and, and_true]
    exact ⟨h5, by omega⟩
end Go.Abs
