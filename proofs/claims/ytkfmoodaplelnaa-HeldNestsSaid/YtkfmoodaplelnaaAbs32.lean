/-
  Abs32: runs by segments: from a place in the code to a later one, what is told between, and how runs by segments make calls and loops.
-/
import Derived.Test.YtkfmoodaplelnaaAbs31
set_option linter.unusedVariables false
set_option linter.unusedSimpArgs false
set_option linter.unusedSectionVars false
namespace Go.Abs
open Go
variable [Fl]

inductive K where
  | seq (b : Code)
  | blk (id : Nat)
def plug : Code → List K → Code
  | c, [] => c
  | c, .seq b :: ks => plug (.seq c b) ks
  | c, .blk id :: ks => plug (.block id c) ks
def exCode : Ex → Code
  | .normal => .skip
  | .exit id => .exit id
  | .ret => .ret
/-- From two states two pieces of code come to the same. -/
def Sys.Eqv (X : Sys) (f nt : Nat) (Γ : List (Nat × Ctx)) (c1 : Code) (s1 : S) (c2 : Code) (s2 : S) : Prop :=
  Ev fun k => codeD X.P (X.ev k) X.an f nt Γ k c1 s1 = codeD X.P (X.ev k) X.an f nt Γ k c2 s2
section
variable {X : Sys} {f nt : Nat} {Γ : List (Nat × Ctx)}
theorem Sys.Eqv.refl (c : Code) (s : S) : X.Eqv f nt Γ c s c s := Ev.of fun _ => rfl
theorem Sys.Eqv.trans {a b c : Code} {s t u : S} (h : X.Eqv f nt Γ a s b t) (h' : X.Eqv f nt Γ b t c u) : X.Eqv f nt Γ a s c u := (Ev.and h h').mono fun _ hh => hh.1.trans hh.2
theorem Sys.Eqv.go {a b : Code} {s t s' : S} {ex : Ex} (h : X.Eqv f nt Γ a s b t) (g : X.Go f nt Γ b t ex s') : X.Go f nt Γ a s ex s' := (Ev.and h g).mono fun _ hh => hh.1.trans hh.2
theorem Sys.Eqv.plug : ∀ (ks : List K) {a b : Code} {s t : S}, X.Eqv f nt Γ a s b t → X.Eqv f nt Γ (Abs.plug a ks) s (Abs.plug b ks) t
  | [], _, _, _, _, h => h
  | .seq c :: ks, a, b, s, t, h => Sys.Eqv.plug ks (a := .seq a c) (b := .seq b c) (h.mono fun k hk => by simp only [codeD, hk])
  | .blk id :: ks, a, b, s, t, h => Sys.Eqv.plug ks (a := .block id a) (b := .block id b) (h.mono fun k hk => by simp only [codeD, hk])
theorem Sys.Eqv.ret : ∀ (ks : List K) (s : S), X.Eqv f nt Γ (Abs.plug .ret ks) s .ret s
  | [], s => .refl _ _
  | .seq c :: ks, s => (Sys.Eqv.plug ks (a := .seq .ret c) (b := .ret) (Ev.of fun k => rfl)).trans (Sys.Eqv.ret ks s)
  | .blk id :: ks, s => (Sys.Eqv.plug ks (a := .block id .ret) (b := .ret) (Ev.of fun k => rfl)).trans (Sys.Eqv.ret ks s)
theorem Sys.Eqv.of_go {a : Code} {s s' : S} {ex : Ex} (h : X.Go f nt Γ a s ex s') : X.Eqv f nt Γ a s (exCode ex) s' := h.mono fun k hk => by
  rw [hk]
  cases ex <;> rfl
end

/-- The number of a part at which a run may stop. -/
def partNo (c : Code) (d : Nat) : Nat := match c with
  | .seq .. => firstR c * 1000 + d + 200000
  | .block .. => firstR c * 1000 + d + 200000
  | .scope .. => firstR c * 1000 + d + 200250
  | .cond .. => firstR c * 1000 + d + 200500
  | _ => 0
/-- A run by what is told, up to a region (stop; a loop that begins with region r: r + 100000), or to the end. -/
def tRun (X : Sys) (f nt : Nat) (Γ : List (Nat × Ctx)) (T : Told) (stop : Nat) : Nat → Bool → Code → List K → S → Option (Code × List K × S × List Prop)
  | 0, _, _, _, _ => none
  | n + 1, fst, c, ks, s => if !fst && (partNo c ks.length == stop) then some (c, ks, s, []) else match c with
    | .seq a b => tRun X f nt Γ T stop n fst a (.seq b :: ks) s
    | .block id a => tRun X f nt Γ T stop n fst a (.blk id :: ks) s
    | .scope a => tRun X f nt Γ T stop n fst a ks s
    | .label _ => tRun X f nt Γ T stop n fst .skip ks s
    | .skip => match ks with
      | [] => some (.skip, [], s, [])
      | .seq b :: ks => tRun X f nt Γ T stop n fst b ks s
      | .blk _ :: ks => tRun X f nt Γ T stop n fst .skip ks s
    | .exit id => match ks with
      | [] => some (.exit id, [], s, [])
      | .seq _ :: ks => tRun X f nt Γ T stop n fst (.exit id) ks s
      | .blk id' :: ks => if id = id' then tRun X f nt Γ T stop n fst .skip ks s else tRun X f nt Γ T stop n fst (.exit id) ks s
    | .ret => some (.ret, [], s, [])
    | .cond x a b => match ev s.fr x with
      | .c (.sc (.bool true)) => tRun X f nt Γ T stop n fst a ks s
      | .c (.sc (.bool false)) => tRun X f nt Γ T stop n fst b ks s
      | _ => none
    | .region rid ops draw =>
      if !fst && rid == stop then some (.region rid ops draw, ks, s, []) else
      match tRegion X f nt Γ rid ops draw T s with
      | some (s', ps) => match tRun X f nt Γ T stop n false .skip ks s' with
        | some (c', ks', s'', qs) => some (c', ks', s'', ps ++ qs)
        | none => none
      | none => none
    | .loop a =>
      if !fst && (firstR a + 100000) == stop then some (.loop a, ks, s, []) else
      match told T (firstR a) 1000 with
      | some (.code ex s') => match tRun X f nt Γ T stop n false (exCode ex) ks s' with
        | some (c', ks', s'', qs) => some (c', ks', s'', X.Go f nt Γ (.loop a) s ex s' :: qs)
        | none => none
      | _ => none
    | .rangeFunc g ps as body =>
      if !fst && (firstR body + 100000) == stop then some (.rangeFunc g ps as body, ks, s, []) else
      match told T (firstR body) 1000 with
      | some (.code ex s') => match tRun X f nt Γ T stop n false (exCode ex) ks s' with
        | some (c', ks', s'', qs) => some (c', ks', s'', X.Go f nt Γ (.rangeFunc g ps as body) s ex s' :: qs)
        | none => none
      | _ => none
    | _ => none
theorem tRun_sound {X : Sys} {f nt : Nat} {Γ : List (Nat × Ctx)} {T : Told} {stop : Nat} : ∀ (n : Nat) (fst : Bool) (c : Code) (ks : List K) (s : S) {c' : Code} {ks' : List K} {s' : S} {ps : List Prop}, tRun X f nt Γ T stop n fst c ks s = some (c', ks', s', ps) → AllP ps → X.Eqv f nt Γ (plug c ks) s (plug c' ks') s'
  | 0, fst, c, ks, s, _, _, _, _, h, _ => by simp [tRun] at h
  | n + 1, fst, c, ks, s, c', ks', s', ps, h, hp => by
    have ih := fun fst c ks s {c' ks' s' ps} => tRun_sound (X := X) (f := f) (nt := nt) (Γ := Γ) (T := T) (stop := stop) n fst c ks s (c' := c') (ks' := ks') (s' := s') (ps := ps)
    unfold tRun at h
    split at h
    · cases h; exact .refl _ _
    cases c with
    | seq a b => dsimp only at h; exact ih fst a (.seq b :: ks) s h hp
    | block id a => dsimp only at h; exact ih fst a (.blk id :: ks) s h hp
    | scope a => dsimp only at h; exact (Sys.Eqv.plug ks (a := .scope a) (b := a) (Ev.of fun k => rfl)).trans (ih _ _ _ _ h hp)
    | label l => dsimp only at h; exact (Sys.Eqv.plug ks (a := .label l) (b := .skip) (Ev.of fun k => rfl)).trans (ih _ _ _ _ h hp)
    | skip =>
      cases ks with
      | nil => dsimp only at h; cases h; exact .refl _ _
      | cons k0 ks =>
        cases k0 with
        | seq b => dsimp only at h; exact (Sys.Eqv.plug ks (a := .seq .skip b) (b := b) (Ev.of fun k => rfl)).trans (ih _ _ _ _ h hp)
        | blk id => dsimp only at h; exact (Sys.Eqv.plug ks (a := .block id .skip) (b := .skip) (Ev.of fun k => rfl)).trans (ih _ _ _ _ h hp)
    | exit id =>
      cases ks with
      | nil => dsimp only at h; cases h; exact .refl _ _
      | cons k0 ks =>
        cases k0 with
        | seq b => dsimp only at h; exact (Sys.Eqv.plug ks (a := .seq (.exit id) b) (b := .exit id) (Ev.of fun k => rfl)).trans (ih _ _ _ _ h hp)
        | blk id' =>
          dsimp only at h
          split at h
          · rename_i hid
            subst hid
            exact (Sys.Eqv.plug ks (a := .block id (.exit id)) (b := .skip) (Ev.of fun k => by simp [codeD])).trans (ih _ _ _ _ h hp)
          · rename_i hid
            exact (Sys.Eqv.plug ks (a := .block id' (.exit id)) (b := .exit id) (Ev.of fun k => by simp [codeD, hid])).trans (ih _ _ _ _ h hp)
    | ret => dsimp only at h; cases h; exact Sys.Eqv.ret ks s
    | cond x a b =>
      dsimp only at h
      split at h
      · rename_i hx
        exact (Sys.Eqv.plug ks (a := .cond x a b) (b := a) (Ev.of fun k => by simp only [codeD, hx])).trans (ih _ _ _ _ h hp)
      · rename_i hx
        exact (Sys.Eqv.plug ks (a := .cond x a b) (b := b) (Ev.of fun k => by simp only [codeD, hx])).trans (ih _ _ _ _ h hp)
      · cases h
    | region rid ops draw =>
      dsimp only at h
      split at h
      · cases h; exact .refl _ _
      · split at h
        · rename_i s1 ps1 h1
          split at h
          · rename_i c2 ks2 s2 qs h2
            cases h
            obtain ⟨hp1, hp2⟩ := hp.append
            exact (Sys.Eqv.plug ks (a := .region rid ops draw) (b := .skip) ((tRegion_sound h1 hp1).mono fun k hk => by simp only [codeD, hk, Option.map_some])).trans (ih _ _ _ _ h2 hp2)
          · cases h
        · cases h
    | loop a =>
      dsimp only at h
      split at h
      · cases h; exact .refl _ _
      · split at h
        · rename_i ex s1 h1
          split at h
          · rename_i c2 ks2 s2 qs h2
            cases h
            obtain ⟨hp1, hp2⟩ := AllP.cons hp
            exact (Sys.Eqv.plug ks (a := .loop a) (b := exCode ex) (Sys.Eqv.of_go hp1)).trans (ih _ _ _ _ h2 hp2)
          · cases h
        · cases h
    | rangeFunc g ps as body =>
      dsimp only at h
      split at h
      · cases h; exact .refl _ _
      · split at h
        · rename_i ex s1 h1
          split at h
          · rename_i c2 ks2 s2 qs h2
            cases h
            obtain ⟨hp1, hp2⟩ := AllP.cons hp
            exact (Sys.Eqv.plug ks (a := .rangeFunc g ps as body) (b := exCode ex) (Sys.Eqv.of_go hp1)).trans (ih _ _ _ _ h2 hp2)
          · cases h
        · cases h
    | _ => dsimp only at h; cases h

def posK : Code → List Nat → List K → Option (Code × List K)
  | c, [], ks => some (c, ks)
  | .seq a b, 0 :: p, ks => posK a p (.seq b :: ks)
  | .seq a b, _ :: p, ks => posK b p ks
  | .cond _ a b, 0 :: p, ks => posK a p ks
  | .cond _ a b, _ :: p, ks => posK b p ks
  | .block id a, _ :: p, ks => posK a p (.blk id :: ks)
  | .scope a, _ :: p, ks => posK a p ks
  | _, _ :: _, _ => none
inductive Pos where
  | at (p : List Nat)
  | ex (p : List Nat) (ex : Ex)
  | fin (ex : Ex)
def Pos.isAt : Pos → Bool
  | .at _ => true
  | _ => false
def resolve (b : Code) : Pos → Option (Code × List K)
  | .at p => posK b p []
  | .ex p ex => (posK b p []).map fun x => (exCode ex, x.2)
  | .fin ex => some (exCode ex, [])
/-- From a place on it comes to what Q says. -/
def Sys.GoAt (X : Sys) (f nt : Nat) (b : Code) (pos : Pos) (s : S) (Q : Ex → S → Prop) : Prop := ∃ c ks, resolve b pos = some (c, ks) ∧ ∃ ex s', X.Go f nt [] (plug c ks) s ex s' ∧ Q ex s'
def tTo (X : Sys) (f nt : Nat) (T : Told) (stop : Nat) (b : Code) (pos : Pos) (s : S) : Option (Option (Code × List K) × S) × Prop :=
  match resolve b pos with
  | some (c, ks) => match tRun X f nt [] T stop 5000 pos.isAt c ks s with
    | some (c', ks', s', ps) => (some (some (c', ks'), s'), AllP ps)
    | none => (none, False)
  | none => (none, False)
section
variable {X : Sys} {f nt : Nat} {b : Code} {Q : Ex → S → Prop}
theorem Sys.to {pos : Pos} {s : S} (T : Told) (stop : Nat) (pos' : Pos) (s' : S) {p : Prop} (h : p) (e : tTo X f nt T stop b pos s = (some (resolve b pos', s'), p)) (g : X.GoAt f nt b pos' s' Q) : X.GoAt f nt b pos s Q := by
  unfold tTo at e
  split at e
  · rename_i c ks hr
    split at e
    · rename_i c' ks' s1 ps ht
      simp only [Prod.mk.injEq, Option.some.injEq] at e
      obtain ⟨⟨h1, rfl⟩, rfl⟩ := e
      obtain ⟨c2, ks2, h2, ex, s2, hg, hq⟩ := g
      rw [← h1] at h2; cases h2
      exact ⟨c, ks, hr, ex, s2, (tRun_sound _ _ _ _ _ ht h).go hg, hq⟩
    · simp at e
  · simp at e
theorem posK_sub : ∀ (b : Code) (p : List Nat) (ks : List K) {c : Code} {ks' : List K}, posK b p ks = some (c, ks') → c = sub b p
  | b, [], ks, c, ks', h => by
    have h : some (b, ks) = some (c, ks') := by cases b <;> exact h
    cases h
    cases b <;> rfl
  | .seq a b, x :: p, ks, c, ks', h => by
    cases x with
    | zero => exact (posK_sub a p (.seq b :: ks) (by simpa [posK] using h)).trans (by simp [sub])
    | succ x => exact (posK_sub b p ks (by simpa [posK] using h)).trans (by simp [sub])
  | .cond y a b, x :: p, ks, c, ks', h => by
    cases x with
    | zero => exact (posK_sub a p ks (by simpa [posK] using h)).trans (by simp [sub])
    | succ x => exact (posK_sub b p ks (by simpa [posK] using h)).trans (by simp [sub])
  | .block id a, x :: p, ks, c, ks', h => (posK_sub a p (.blk id :: ks) (by simpa [posK] using h)).trans (by simp [sub])
  | .scope a, x :: p, ks, c, ks', h => (posK_sub a p ks (by simpa [posK] using h)).trans (by simp [sub])
  | .skip, _ :: _, ks, c, ks', h => by simp [posK] at h
  | .region .., _ :: _, ks, c, ks', h => by simp [posK] at h
  | .loop _, _ :: _, ks, c, ks', h => by simp [posK] at h
  | .exit _, _ :: _, ks, c, ks', h => by simp [posK] at h
  | .ret, _ :: _, ks, c, ks', h => by simp [posK] at h
  | .rangeFunc .., _ :: _, ks, c, ks', h => by simp [posK] at h
  | .label _, _ :: _, ks, c, ks', h => by simp [posK] at h
  | .goto _, _ :: _, ks, c, ks', h => by simp [posK] at h
  | .refuse _, _ :: _, ks, c, ks', h => by simp [posK] at h
/-- Over a part whose run is known. -/
theorem Sys.over {p : List Nat} {s s1 : S} {ex : Ex} (hg : X.Go f nt [] (sub b p) s ex s1) (g : X.GoAt f nt b (.ex p ex) s1 Q) : X.GoAt f nt b (.at p) s Q := by
  obtain ⟨c, ks, h1, ex', s', h2, h3⟩ := g
  simp only [resolve, Option.map_eq_some_iff] at h1
  obtain ⟨⟨c0, ks0⟩, h4, h5⟩ := h1
  cases h5
  have := posK_sub b p [] h4
  subst this
  exact ⟨_, _, h4, ex', s', (Sys.Eqv.plug ks0 (Sys.Eqv.of_go hg)).go h2, h3⟩
theorem Sys.fin {ex : Ex} {s : S} (h : Q ex s) : X.GoAt f nt b (.fin ex) s Q := ⟨_, _, rfl, ex, s, Ev.of fun k => by cases ex <;> rfl, h⟩
theorem Sys.goQ {s : S} (h : X.GoAt f nt b (.at []) s Q) : ∃ ex s', X.Go f nt [] b s ex s' ∧ Q ex s' := by
  obtain ⟨c, ks, h1, ex, s', h2, h3⟩ := h
  have : c = b ∧ ks = [] := by
    cases b <;> (simp only [resolve, posK, Option.some.injEq, Prod.mk.injEq] at h1; exact ⟨h1.1.symm, h1.2.symm⟩)
  obtain ⟨rfl, rfl⟩ := this
  exact ⟨ex, s', h2, h3⟩
end
theorem Sys.goE {X : Sys} {f nt : Nat} {b : Code} {s ST : S} {EX : Ex} (h : X.GoAt f nt b (.at []) s (fun ex s' => ex = EX ∧ s' = ST)) : X.Go f nt [] b s EX ST := by
  obtain ⟨ex, s', h1, rfl, rfl⟩ := Sys.goQ h
  exact h1
def FinC (X : Sys) (fn : Func) (d : DV) (ex : Ex) (s : S) : Prop := isExit ex = false ∧ ∃ d', (resD X.P s fn.results.toList).map resOne = some d' ∧ closeTop s.m.st d' = some d
def FinL (X : Sys) (fn : Func) (k : Nat) (d : DV) (os : List Ob) (ex : Ex) (s : S) : Prop := isExit ex = false ∧ ∃ d', (resD X.P s fn.results.toList).map resOne = some d' ∧ endL k d' s.m.st = some (d, os)
def FinK (X : Sys) (fn : Func) (d : DV) (m : M) (ex : Ex) (s : S) : Prop := isExit ex = false ∧ (resD X.P s fn.results.toList).map resOne = some d ∧ s.m = m
theorem Sys.callC' {X : Sys} {f : FuncId} {fn : Func} {b : Code} {args : List DV} {d : DV} (hf : X.P.funcs[f]? = some fn) (hb : fn.body = some b) (h : X.GoAt f fn.ntmps b (.at []) ⟨argFr args, ⟨[], []⟩⟩ (FinC X fn d)) : X.RunsC f args d := by
  obtain ⟨ex, s', hg, h1, d', h2, h3⟩ := Sys.goQ h
  exact Sys.callC (Sys.call hg hf hb h1 h2 rfl) h3
theorem Sys.callL' {X : Sys} {f : FuncId} {fn : Func} {b : Code} {args : List DV} {st : List Ob} {k : Nat} {d : DV} {os : List Ob} (hf : X.P.funcs[f]? = some fn) (hb : fn.body = some b) (hk : st.length = k) (h : X.GoAt f fn.ntmps b (.at []) ⟨argFr args, ⟨st, []⟩⟩ (FinL X fn k d os)) : X.RunsL f args st d os := by
  obtain ⟨ex, s', hg, h1, d', h2, h3⟩ := Sys.goQ h
  subst hk
  exact Sys.runsL (Sys.call hg hf hb h1 h2 rfl) h3
theorem Sys.callK' {X : Sys} {f : FuncId} {fn : Func} {b : Code} {args : List DV} {d : DV} {m : M} (hf : X.P.funcs[f]? = some fn) (hb : fn.body = some b) (h : X.GoAt f fn.ntmps b (.at []) ⟨argFr args, ⟨[], []⟩⟩ (FinK X fn d m)) : X.Runs [] f args ⟨[], []⟩ d m := by
  obtain ⟨ex, s', hg, h1, h2, h3⟩ := Sys.goQ h
  exact Sys.call hg hf hb h1 h2 h3
/-! ### ends that the kernel finds by itself -/
def exOf : Code → List K → Option Ex
  | .ret, [] => some .ret
  | .skip, [] => some .normal
  | .exit id, [] => some (.exit id)
  | _, _ => none
theorem exOf_eq {c : Code} {ks : List K} {ex : Ex} (h : exOf c ks = some ex) : c = exCode ex ∧ ks = [] := by
  unfold exOf at h
  split at h <;> first | (cases h; exact ⟨rfl, rfl⟩) | cases h
def tEnd (X : Sys) (f nt : Nat) (T : Told) (b : Code) (pos : Pos) (s : S) : Option ((Ex × S) × Prop) :=
  match resolve b pos with
  | some (c, ks) => match tRun X f nt [] T 999999 5000 pos.isAt c ks s with
    | some (c', ks', s', ps) => match exOf c' ks' with
      | some ex => some ((ex, s'), AllP ps)
      | none => none
    | none => none
  | none => none
theorem tEnd_go {X : Sys} {f nt : Nat} {b : Code} {Q : Ex → S → Prop} {T : Told} {pos : Pos} {s s' : S} {ex : Ex} {p : Prop} (h : p) (e : tEnd X f nt T b pos s = some ((ex, s'), p)) (q : Q ex s') : X.GoAt f nt b pos s Q := by
  unfold tEnd at e
  split at e
  · rename_i c ks hr
    split at e
    · rename_i c' ks' s1 ps ht
      split at e
      · rename_i ex1 hx
        obtain ⟨rfl, rfl⟩ := exOf_eq hx
        cases e
        exact Sys.to T 999999 (.fin ex) s' h (by unfold tTo; rw [hr]; simp only [ht]; rfl) (Sys.fin q)
      · cases e
    · cases e
  · cases e
theorem Sys.endJ {X : Sys} {f nt : Nat} {b : Code} {pos : Pos} {s ST : S} {EX : Ex} (T : Told) {p : Prop} (h : p) (e : tEnd X f nt T b pos s = some ((EX, ST), p)) : X.GoAt f nt b pos s (fun ex s' => ex = EX ∧ s' = ST) := tEnd_go h e ⟨rfl, rfl⟩
def tEndC (X : Sys) (f : Nat) (fn : Func) (nt : Nat) (T : Told) (b : Code) (pos : Pos) (s : S) : Option (DV × Prop) :=
  match tEnd X f nt T b pos s with
  | some ((ex, s'), p) => if isExit ex then none else match (resD X.P s' fn.results.toList).map resOne with
    | some d' => match closeTop s'.m.st d' with
      | some d => some (d, p)
      | none => none
    | none => none
  | none => none
theorem Sys.endC {X : Sys} {f nt : Nat} {fn : Func} {b : Code} {pos : Pos} {s : S} {d : DV} (T : Told) {p : Prop} (h : p) (e : tEndC X f fn nt T b pos s = some (d, p)) : X.GoAt f nt b pos s (FinC X fn d) := by
  unfold tEndC at e
  split at e
  · rename_i ex s' p' he
    split at e
    · cases e
    · rename_i hx
      split at e
      · rename_i d' hr
        split at e
        · rename_i d2 hc
          cases e
          exact tEnd_go h he ⟨by simpa using hx, d', hr, hc⟩
        · cases e
      · cases e
  · cases e
def tEndK (X : Sys) (f : Nat) (fn : Func) (nt : Nat) (T : Told) (b : Code) (pos : Pos) (s : S) : Option ((DV × M) × Prop) :=
  match tEnd X f nt T b pos s with
  | some ((ex, s'), p) => if isExit ex then none else match (resD X.P s' fn.results.toList).map resOne with
    | some d' => some ((d', s'.m), p)
    | none => none
  | none => none
theorem Sys.endK {X : Sys} {f nt : Nat} {fn : Func} {b : Code} {pos : Pos} {s : S} {d : DV} {m : M} (T : Told) {p : Prop} (h : p) (e : tEndK X f fn nt T b pos s = some ((d, m), p)) : X.GoAt f nt b pos s (FinK X fn d m) := by
  unfold tEndK at e
  split at e
  · rename_i ex s' p' he
    split at e
    · cases e
    · rename_i hx
      split at e
      · rename_i d' hr
        cases e
        exact tEnd_go h he ⟨by simpa using hx, hr, rfl⟩
      · cases e
  · cases e
def LoopQ (X : Sys) (f nt : Nat) (a : Code) (m : Nat) (EX : Ex) (ST : S) (ex : Ex) (s1 : S) : Prop :=
  (ex = .normal ∧ ∃ s2, cutS (X.an.cut f (firstR a)) m s1 = some s2 ∧ X.Loop f nt [] a m s2 EX ST) ∨ (exN ex = false ∧ ex = EX ∧ s1 = ST)
theorem Sys.endX {X : Sys} {f nt : Nat} {a b : Code} {m : Nat} {pos : Pos} {s ST : S} {EX : Ex} (T : Told) {p : Prop} (h : p) (hx : exN EX = false) (e : tEnd X f nt T b pos s = some ((EX, ST), p)) : X.GoAt f nt b pos s (LoopQ X f nt a m EX ST) := tEnd_go h e (.inr ⟨hx, rfl, rfl⟩)
theorem Sys.loopQ {X : Sys} {f nt : Nat} {a : Code} {m : Nat} {EX : Ex} {ST s s0 : S} (hs : restrS (X.an.rs f (firstR a)) s = s0) (h : X.GoAt f nt a (.at []) s0 (LoopQ X f nt a m EX ST)) : X.Loop f nt [] a m s EX ST := by
  obtain ⟨ex, s1, hg, hq⟩ := Sys.goQ h
  rcases hq with ⟨rfl, s2, h1, h2⟩ | ⟨h1, rfl, rfl⟩
  · exact .step hs hg h1 h2
  · exact .exit hs hg fun hh => by subst hh; simp [exN] at h1
end Go.Abs
