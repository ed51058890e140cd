/-
  Abs16: a frame's state in the memory; ranges over functions that are under way; one operation's step.
-/
import Derived.Test.YtkfmoodaplelnaaAbs15
import Derived.RangeFuncCalls
import Derived.RangeFuncNested
import Derived.OrdersIn
set_option linter.unusedVariables false
set_option linter.unusedSimpArgs false
set_option linter.unusedSectionVars false
namespace Go.Abs
open Go
variable [Fl]

/-- What is known of memory that nobody writes (package-level variables): where it lies; what is known. -/
class Gl where
  as : Addr → Prop
  ok : World → Prop
  keep : ∀ w w' : World, (∀ a, as a → w'.cell? a = w.cell? a) → ok w → ok w'
variable [Gl]

abbrev fence (r : Option Nat) : Fence := { Fence.wide with round := r }
theorem fence_in (r : Option Nat) (l : Nat) : (fence r).inRound l = fence (some l) := rfl
theorem CallsIn.fence {P : Program} {n : Nat} {f : FuncId} {args : Array Value} {w : World} {R : Ending → World → Prop} (r : Option Nat) (h : CallsIn Fence.wide n P f args w R) : CallsIn (fence r) n P f args w R := h
theorem RoundIn.fence {P : Program} {n l : Nat} {f : FuncId} {tmps : Array Value} {assign body : Code} {w : World} {R : Ending → World → Prop} (r : Option Nat) (h : RoundIn Fence.wide n P l f tmps assign body w R) : RoundIn (fence r) n P l f tmps assign body w R := h

/-- The blocks of the records of ranges that are under way. -/
def X (Γ : List (Nat × Ctx)) (la : List Nat) (r : Nat) : Prop := ∃ k x, (k, x) ∈ Γ ∧ la[k]? = some r
def codeOf : Ex → Code
  | .ret => .ret
  | .exit id => .exit id
  | .normal => .skip
def exitOf : Ex → Exit
  | .normal => .normal
  | .exit id => .exit id
  | .ret => .ret
def StateOk (r : Loop) : Option Ex → Prop
  | none => False
  | some .normal => r.state = .ready ∧ r.pending = none
  | some e => r.state = .done ∧ r.pending = some (codeOf e)
structure LoopAt (e : E) (x : Ctx) (l : Nat) (ex : Option Ex) (r : Loop) : Prop where
  heap : e.w.heap[l]? = some (.loop r)
  params : r.params = x.params
  assign : r.assign = x.assign
  body : r.body = x.body
  nt : x.nt ≤ r.tmps.size
  rd : ∀ t, RD e (fun _ => False) (x.fr t) (r.tmps.getD t undef)
  state : StateOk r ex
structure GlAt (e : E) : Prop where
  im : ∀ a, Gl.as a → e.im a
  ok : Gl.ok e.w
theorem GlAt.to {e e' : E} (g : GlAt e) (x : Ext e e') : GlAt e' := ⟨fun a h => x.im a (g.im a h), Gl.keep _ _ (fun a h => x.cell a (g.im a h)) g.ok⟩
/-- The blocks of the store's maps. -/
def MB (e : E) (r : Nat) : Prop := ∃ id o, e.st[id]? = some o ∧ o.mp.k ≠ none ∧ (e.io id).b = r
inductive MR (e : E) : List (DV × DV) → List MapEntry → Prop
  | nil : MR e [] []
  | cons {k v : DV} {x : MapEntry} {es : List (DV × DV)} {xs : List MapEntry} (hk : RD e (fun _ => False) k x.key) (hv : RD e (fun _ => False) v x.val) (hs : MR e es xs) : MR e ((k, v) :: es) (x :: xs)
theorem MR.mono {e e' : E} (x : Ext e e') : ∀ {es : List (DV × DV)} {xs : List MapEntry}, MR e es xs → MR e' es xs
  | _, _, .nil => .nil
  | _, _, .cons a b c => .cons (a.mono x fun _ h => h) (b.mono x fun _ h => h) (c.mono x)
/-- A map's stamps. -/
def Born (xs : List MapEntry) (c : Nat) : Prop := (∀ x ∈ xs, x.born < c) ∧ (xs.map (·.born)).Nodup
/-- An iterator over a map that has not grown: what was handed out, what is left. -/
structure ItOk (xs : List MapEntry) (c since stepped : Nat) (seen : Array Nat) (cur : Option Nat) (left : List Nat) : Prop where
  since : since = c
  stepped : stepped = c
  left_ : ∀ (j : Nat) x, xs[j]? = some x → (seen.contains x.born = false ↔ j ∈ left)
  lt : ∀ j ∈ left, j < xs.length
  nodup : left.Nodup
  cur_ : ∀ j, cur = some j → ∃ x, xs[j]? = some x ∧ seen.back? = some x.born
/-- How a map lies in the memory. -/
def MkAt (e : E) (b : Nat) : MK → Prop
  | .map es => ∃ xs c, e.w.heap[b]? = some (.map ⟨xs⟩ c) ∧ MR e es xs ∧ Born xs c
  | .iter id ver => ∃ r c, e.w.heap[b]? = some (.mapIter (some r) c #[] c) ∧ RD e (fun _ => False) (.mp id ver) (.map (some r))
  | .it id ver n cur left => ∃ r since seen stepped, e.w.heap[b]? = some (.mapIter (some r) since seen stepped) ∧ RD e (fun _ => False) (.mp id ver) (.map (some r)) ∧
      ∀ o, e.st[id]? = some o → o.ver = ver → o.mp.k ≠ none → ∃ xs c, e.w.heap[r]? = some (.map ⟨xs⟩ c) ∧ n ≤ xs.length ∧ (xs.length = n → ItOk xs c since stepped seen cur left)
def isM : Obj → Bool
  | .map .. | .mapIter .. => true
  | _ => false
theorem MkAt.obj {e : E} {b : Nat} : ∀ {k : MK}, MkAt e b k → ∃ o, e.w.heap[b]? = some o ∧ isM o = true
  | .map _, ⟨_, _, h, _⟩ => ⟨_, h, rfl⟩
  | .iter .., ⟨_, _, h, _⟩ => ⟨_, h, rfl⟩
  | .it .., ⟨_, _, _, _, h, _⟩ => ⟨_, h, rfl⟩
/-- What the map that an iterator goes over becomes. -/
def Later (xs : List MapEntry) (c : Nat) (xs' : List MapEntry) (c' : Nat) : Prop := (xs'.map (·.born) = xs.map (·.born) ∧ c' = c) ∨ xs.length < xs'.length
theorem Later.refl (xs : List MapEntry) (c : Nat) : Later xs c xs c := .inl ⟨rfl, rfl⟩
theorem ItOk.later {xs xs' : List MapEntry} {c c' since stepped : Nat} {seen : Array Nat} {cur : Option Nat} {left : List Nat} (h1 : xs'.map (·.born) = xs.map (·.born)) (h2 : c' = c) (h : ItOk xs c since stepped seen cur left) : ItOk xs' c' since stepped seen cur left := by
  have hl : xs'.length = xs.length := by have := congrArg List.length h1; simpa using this
  have hg : ∀ (j : Nat) x, xs'[j]? = some x → ∃ y, xs[j]? = some y ∧ y.born = x.born := fun j x hx => by
    have := congrArg (·[j]?) h1
    simp only [List.getElem?_map, hx, Option.map_some] at this
    cases hy : xs[j]? with
    | none => rw [hy] at this; cases this
    | some y => rw [hy] at this; exact ⟨y, rfl, by simpa using this.symm⟩
  refine ⟨h.since.trans h2.symm, h.stepped.trans h2.symm, fun j x hx => ?_, fun j hj => by rw [hl]; exact h.lt j hj, h.nodup, fun j hj => ?_⟩
  · obtain ⟨y, hy, hb⟩ := hg j x hx
    rw [← hb]; exact h.left_ j y hy
  · obtain ⟨x, hx, hs⟩ := h.cur_ j hj
    have hlt : j < xs'.length := by rw [hl]; exact (List.getElem?_eq_some_iff.1 hx).1
    obtain ⟨y, hy, hb⟩ := hg j _ (List.getElem?_eq_getElem hlt)
    rw [hx] at hy; cases hy
    exact ⟨_, List.getElem?_eq_getElem hlt, by rw [← hb]; exact hs⟩
theorem MkAt.to {e e' : E} (x : Ext e e') {b b' : Nat} (hb : b' = b) (h : ∀ o, e.w.heap[b]? = some o → e'.w.heap[b]? = some o) : ∀ {k : MK}, MkAt e b k →
    (∀ id ver n cur left, k = .it id ver n cur left → ∀ r, RD e (fun _ => False) (.mp id ver) (.map (some r)) → ∀ o', e'.st[id]? = some o' → o'.ver = ver → o'.mp.k ≠ none →
      ∃ o, e.st[id]? = some o ∧ o.ver = ver ∧ o.mp.k ≠ none ∧ ∀ xs c, e.w.heap[r]? = some (.map ⟨xs⟩ c) → ∃ xs' c', e'.w.heap[r]? = some (.map ⟨xs'⟩ c') ∧ Later xs c xs' c') → MkAt e' b' k
  | .map _, ⟨xs, c, h1, h2⟩, _ => by subst hb; exact ⟨xs, c, h _ h1, h2.1.mono x, h2.2⟩
  | .iter .., ⟨r, c, h1, h2⟩, _ => by subst hb; exact ⟨r, c, h _ h1, h2.mono x fun _ h => h⟩
  | .it id ver n cur left, ⟨r, since, seen, stepped, h1, h2, h3⟩, hi => by
    subst hb
    refine ⟨r, since, seen, stepped, h _ h1, h2.mono x fun _ h => h, fun o' ho' hv hk => ?_⟩
    obtain ⟨o, g1, g2, g3, g4⟩ := hi id ver n cur left rfl r h2 o' ho' hv hk
    obtain ⟨xs, c, k1, k2, k3⟩ := h3 o g1 g2 g3
    obtain ⟨xs', c', k4, hl⟩ := g4 xs c k1
    refine ⟨xs', c', k4, ?_, fun hn => ?_⟩
    · rcases hl with ⟨hl, _⟩ | hl
      · have := congrArg List.length hl
        simp at this; omega
      · omega
    · rcases hl with ⟨hl, hc⟩ | hl
      · have hlen := congrArg List.length hl
        simp at hlen
        exact (k3 (by omega)).later hl hc
      · omega
theorem RD.mp_b {e : E} {s : Addr → Prop} {id ver r : Nat} {o : Ob} (h : RD e s (.mp id ver) (.map (some r))) (ho : e.st[id]? = some o) (hv : o.ver = ver) : r = (e.io id).b := by
  cases h with
  | mp _ hh => exact (hh o ho).2 hv.symm
/-- The maps of the store, as they lie. -/
structure MpI (n0 : Nat) (e : E) : Prop where
  at_ : ∀ id o k, e.st[id]? = some o → o.mp.k = some k → n0 ≤ (e.io id).b ∧ MkAt e (e.io id).b k
  inj : ∀ id id' o o', e.st[id]? = some o → o.mp.k ≠ none → e.st[id']? = some o' → o'.mp.k ≠ none → (e.io id).b = (e.io id').b → id = id'
/-- The later store's maps are the elder one's. -/
def SameK (e e' : E) : Prop := ∀ (id : Nat) o', e'.st[id]? = some o' → o'.mp.k ≠ none → ∃ o, e.st[id]? = some o ∧ o.mp.k = o'.mp.k ∧ o.ver = o'.ver
theorem SameK.of_eq {e e' : E} (h : e'.st = e.st) : SameK e e' := fun id o' ho _ => ⟨o', by rw [← h]; exact ho, rfl, rfl⟩
theorem SameK.of_set {e e' : E} {id : Nat} {ob : Ob} (h : e'.st = e.st.set id ob) (hp : ob.mp.k = none) : SameK e e' := fun j o' ho hk => by
  rw [h] at ho
  by_cases hj : id = j
  · subst hj
    by_cases hl : id < e.st.length
    · rw [List.getElem?_set_self hl] at ho; cases ho; exact absurd hp hk
    · have := (List.getElem?_eq_some_iff.1 ho).1; simp at this; omega
  · rw [List.getElem?_set_ne hj] at ho; exact ⟨o', ho, rfl, rfl⟩
theorem MB.back {e e' : E} (x : Ext e e') (hs : SameK e e') {r : Nat} (h : MB e' r) : MB e r := by
  obtain ⟨id, o', h1, h2, h3⟩ := h
  obtain ⟨o, g1, g2, g3⟩ := hs id o' h1 h2
  exact ⟨id, o, g1, by rw [g2]; exact h2, by rw [← (x.ver id o o' g1 h1).2 g3]; exact h3⟩
theorem MpI.to {n0 : Nat} {e e' : E} (m : MpI n0 e) (x : Ext e e') (hs : SameK e e') (hh : ∀ r o, MB e r → e.w.heap[r]? = some o → e'.w.heap[r]? = some o) : MpI n0 e' := by
  refine ⟨fun id o' k h1 h2 => ?_, fun id id' o o' h1 h2 h3 h4 h5 => ?_⟩
  · obtain ⟨o, g1, g2, g3⟩ := hs id o' h1 (by rw [h2]; simp)
    have hio := (x.ver id o o' g1 h1).2 g3
    obtain ⟨p1, p2⟩ := m.at_ id o k g1 (by rw [g2]; exact h2)
    rw [hio]
    refine ⟨p1, p2.to x rfl (fun o2 ho2 => hh _ _ ⟨id, o, g1, by rw [g2, h2]; simp, rfl⟩ ho2) fun mid mver n cur left _ r hr u' hu' hv hk => ?_⟩
    obtain ⟨u, q1, q2, q3⟩ := hs mid u' hu' hk
    have hr' := hr.mp_b q1 (q3.trans hv)
    exact ⟨u, q1, q3.trans hv, by rw [q2]; exact hk, fun xs c hx => ⟨xs, c, hh _ _ ⟨mid, u, q1, by rw [q2]; exact hk, hr'.symm⟩ hx, Later.refl ..⟩⟩
  · obtain ⟨u, g1, g2, g3⟩ := hs id o h1 h2
    obtain ⟨u', g1', g2', g3'⟩ := hs id' o' h3 h4
    rw [(x.ver id u o g1 h1).2 g3, (x.ver id' u' o' g1' h3).2 g3'] at h5
    exact m.inj id id' u u' g1 (by rw [g2]; exact h2) g1' (by rw [g2']; exact h4) h5
theorem MpI.void {n0 : Nat} {e : E} (h : ∀ (id : Nat) (o : Ob), e.st[id]? = some o → o.mp.k = none) : MpI n0 e :=
  ⟨fun id o k h1 h2 => (by rw [h id o h1] at h2; cases h2), fun id _ o _ h1 h2 => absurd (h id o h1) h2⟩
theorem MpI.obj {n0 : Nat} {e : E} (m : MpI n0 e) {r : Nat} (h : MB e r) : n0 ≤ r ∧ ∃ o, e.w.heap[r]? = some o ∧ isM o = true := by
  obtain ⟨id, o, h1, h2, h3⟩ := h
  cases hk : o.mp.k with
  | none => exact absurd hk h2
  | some k =>
    obtain ⟨p1, p2⟩ := m.at_ id o k h1 hk
    rw [← h3]; exact ⟨p1, p2.obj⟩
structure GI (n0 : Nat) (e : E) (Γ : List (Nat × Ctx)) (pd : List Ex) : Prop where
  gl : GlAt e
  mp : MpI n0 e
  at_ : ∀ k x, (k, x) ∈ Γ → ∃ l r, e.la[k]? = some l ∧ LoopAt e x l pd[k]? r
  inj : ∀ k k' x x' l, (k, x) ∈ Γ → (k', x') ∈ Γ → e.la[k]? = some l → e.la[k']? = some l → k = k'

def NoRes (reg : Own → Addr → Prop) : Prop := ∀ a, ¬ reg .res a
def NoSlot (reg : Own → Addr → Prop) : Prop := ∀ t a, ¬ reg (.slot t) a

/-- The state of the interpreter's memory in the model's. -/
structure St (n0 : Nat) (PR : Addr → Prop) (Γ : List (Nat × Ctx)) (e : E) (reg : Own → Addr → Prop) (m : M) : Prop where
  st : e.st = m.st
  la : e.la.length = m.pd.length
  lt : ∀ l ∈ e.la, n0 ≤ l ∧ l < e.w.heap.size
  mi : MI n0 PR e reg
  gi : GI n0 e Γ m.pd

structure To (n0 : Nat) (PR : Addr → Prop) (Γ : List (Nat × Ctx)) (e e' : E) : Prop where
  ext : Ext e e'
  keep : Keep n0 PR (fun r => X Γ e.la r ∨ MB e r) e.w e'.w
  maps : ∀ r, MB e' r → MB e r ∨ e.w.heap.size ≤ r
  loops : ∀ l (r : Loop), X Γ e.la l → e.w.heap[l]? = some (.loop r) → ∃ r' : Loop, e'.w.heap[l]? = some (.loop r') ∧ r'.tmps = r.tmps

theorem To.refl (n0 : Nat) (PR : Addr → Prop) (Γ : List (Nat × Ctx)) (e : E) : To n0 PR Γ e e := ⟨Ext.refl e, Keep.refl .., fun _ h => .inl h, fun _ r _ h => ⟨r, h, rfl⟩⟩
theorem To.of_keep {n0 : Nat} {PR : Addr → Prop} {Γ : List (Nat × Ctx)} {e e' : E} (x : Ext e e') (k : Keep n0 PR (fun _ => False) e.w e'.w) (hs : SameK e e') : To n0 PR Γ e e' :=
  ⟨x, k.weak (fun _ h => h.elim), fun r hr => .inl (MB.back x hs hr), fun l r _ h => ⟨r, k.obj _ _ h rfl (fun h => h), rfl⟩⟩
theorem X.back {n0 : Nat} {e e' : E} {Γ : List (Nat × Ctx)} {pd : List Ex} (g : GI n0 e Γ pd) (x : Ext e e') {r : Nat} (h : X Γ e'.la r) : X Γ e.la r := by
  obtain ⟨k, c, hm, hr⟩ := h
  obtain ⟨l, _, hl, _⟩ := g.at_ k c hm
  have := x.la _ _ hl
  rw [hr] at this; cases this
  exact ⟨k, c, hm, hl⟩
theorem To.trans {n0 : Nat} {PR : Addr → Prop} {Γ : List (Nat × Ctx)} {a b c : E} {pd : List Ex} (g : GI n0 a Γ pd) (h : To n0 PR Γ a b) (k : To n0 PR Γ b c) : To n0 PR Γ a c :=
  ⟨h.ext.trans k.ext, ⟨k.keep.os.trans h.keep.os, k.keep.tape.trans h.keep.tape, k.keep.output.trans h.keep.output, Nat.le_trans h.keep.size k.keep.size, fun r hr => (k.keep.old r hr).trans (h.keep.old r hr),
    fun x hx => ⟨(k.keep.pr x hx).1.trans (h.keep.pr x hx).1, (k.keep.pr x hx).2.trans (h.keep.pr x hx).2⟩, fun r o ho hc hn => k.keep.obj r o (h.keep.obj r o ho hc hn) hc fun hh => hh.elim (fun hx => hn (.inl (X.back g h.ext hx))) fun hb => (h.maps r hb).elim (fun hb => hn (.inr hb)) fun hle => by
      have := (Array.getElem?_eq_some_iff.1 ho).1; omega, fun hd => Nat.le_trans (h.keep.dr hd) (k.keep.dr hd)⟩, fun r hr => (k.maps r hr).elim (fun hb => h.maps r hb) fun hle => .inr (Nat.le_trans h.keep.size hle), fun l r hx hr => by
    obtain ⟨r1, h1, h2⟩ := h.loops l r hx hr
    obtain ⟨r2, h3, h4⟩ := k.loops l r1 (let ⟨i, c, hm, hi⟩ := hx; ⟨i, c, hm, h.ext.la _ _ hi⟩) h1
    exact ⟨r2, h3, h4.trans h2⟩⟩
theorem X.loop {n0 : Nat} {e : E} {Γ : List (Nat × Ctx)} {pd : List Ex} (g : GI n0 e Γ pd) {r : Nat} (h : X Γ e.la r) : ∃ l, e.w.heap[r]? = some (.loop l) := by
  obtain ⟨k, c, hm, hr⟩ := h
  obtain ⟨l, rc, hl, hat⟩ := g.at_ k c hm
  rw [hr] at hl; cases hl
  exact ⟨_, hat.heap⟩

theorem MB.not {n0 : Nat} {e : E} {Γ : List (Nat × Ctx)} {pd : List Ex} (g : GI n0 e Γ pd) {r : Nat} {o : Obj} (ho : e.w.heap[r]? = some o) (hm : isM o = false) : ¬ MB e r := fun hb => by
  obtain ⟨_, o', h1, h2⟩ := g.mp.obj hb
  rw [ho] at h1; cases h1; rw [hm] at h2; cases h2
theorem To.obj {n0 : Nat} {PR : Addr → Prop} {Γ Γ0 : List (Nat × Ctx)} {e e' : E} {pd : List Ex} (t : To n0 PR Γ e e') (g : GI n0 e Γ0 pd) {r : Nat} {o : Obj} (ho : e.w.heap[r]? = some o) (hc : isC o = false) (hm : isM o = false) (hn : ¬ X Γ e.la r) : e'.w.heap[r]? = some o :=
  t.keep.obj r o ho hc fun hh => hh.elim hn (MB.not g ho hm)
theorem GI.to' {n0 : Nat} {e e' : E} {Γ : List (Nat × Ctx)} {pd : List Ex} (g : GI n0 e Γ pd) (x : Ext e e') (hmp : MpI n0 e') (h : ∀ l (r : Loop), X Γ e.la l → e.w.heap[l]? = some (.loop r) → e'.w.heap[l]? = some (.loop r)) : GI n0 e' Γ pd := by
  refine ⟨g.gl.to x, hmp, fun k c hm => ?_, fun k k' c c' l hm hm' hl hl' => ?_⟩
  · obtain ⟨l, r, hl, hat⟩ := g.at_ k c hm
    exact ⟨l, r, x.la _ _ hl, h l r ⟨k, c, hm, hl⟩ hat.heap, hat.params, hat.assign, hat.body, hat.nt, fun t => (hat.rd t).mono x (fun _ h => h), hat.state⟩
  · obtain ⟨l1, _, h1, _⟩ := g.at_ k c hm
    obtain ⟨l2, _, h2, _⟩ := g.at_ k' c' hm'
    have e1 := x.la _ _ h1
    have e2 := x.la _ _ h2
    rw [hl] at e1; rw [hl'] at e2
    cases e1; cases e2
    exact g.inj k k' c c' l hm hm' h1 h2
theorem GI.to {n0 : Nat} {e e' : E} {Γ : List (Nat × Ctx)} {pd : List Ex} (g : GI n0 e Γ pd) (x : Ext e e') (hs : SameK e e') (hh : ∀ r o, MB e r → e.w.heap[r]? = some o → e'.w.heap[r]? = some o) (h : ∀ l (r : Loop), X Γ e.la l → e.w.heap[l]? = some (.loop r) → e'.w.heap[l]? = some (.loop r)) : GI n0 e' Γ pd :=
  g.to' x (g.mp.to x hs hh) h
theorem MpI.keep {n0 : Nat} {PR : Addr → Prop} {e e' : E} (m : MpI n0 e) (x : Ext e e') (k : Keep n0 PR (fun _ => False) e.w e'.w) (hs : SameK e e') : MpI n0 e' :=
  m.to x hs fun r o hb ho => k.obj r o ho (by
    obtain ⟨_, o', h1, h2⟩ := m.obj hb
    rw [ho] at h1; cases h1
    cases o <;> first | rfl | (cases h2; done)) (fun h => h)
theorem GI.keep {n0 : Nat} {PR : Addr → Prop} {e e' : E} {Γ : List (Nat × Ctx)} {pd : List Ex} (g : GI n0 e Γ pd) (x : Ext e e') (k : Keep n0 PR (fun _ => False) e.w e'.w) (hs : SameK e e') : GI n0 e' Γ pd :=
  g.to x hs (fun r o hb ho => k.obj r o ho (by
    obtain ⟨_, o', h1, h2⟩ := g.mp.obj hb
    rw [ho] at h1; cases h1
    cases o <;> first | rfl | (cases h2; done)) (fun h => h)) fun l r _ hr => k.obj l _ hr rfl (fun h => h)

def mark (r : Nat) : Deferred := { target := .collected r, args := #[] }

/-- A frame's slots, its deferred calls; in which loop's round it stands. -/
structure Fr (r : Option Nat) (k0 nt : Nat) (Γ : List (Nat × Ctx)) (e : E) (reg : Own → Addr → Prop) (fr : Nat → DV) (a : Act) : Prop where
  rd : ∀ t, RD e (reg (.slot t)) (fr t) (a.tmps.getD t undef)
  nt : nt ≤ a.tmps.size
  df : ∃ rs : List Nat, a.defers = rs.map mark ∧ rs.Nodup ∧ ∀ b ∈ rs, k0 ≤ b ∧ e.w.heap[b]? = some (.deferred (some []))
  ro : ∀ l, r = some l → (∃ x : Loop, e.w.heap[l]? = some (.loop x)) ∧ ¬ X Γ e.la l

section
variable {P : Program} {n0 : Nat} {PR : Addr → Prop} {Γ : List (Nat × Ctx)} {e e' : E} {reg reg' : Own → Addr → Prop} {m : M} {r : Option Nat} {k0 nt : Nat} {fr : Nat → DV} {a : Act}

theorem Fr.df_to (h : Fr r k0 nt Γ e reg fr a) (g : GI n0 e Γ m.pd) (t : To n0 PR Γ e e') : ∃ rs : List Nat, a.defers = rs.map mark ∧ rs.Nodup ∧ ∀ b ∈ rs, k0 ≤ b ∧ e'.w.heap[b]? = some (.deferred (some [])) := by
  obtain ⟨rs, h1, h2, h3⟩ := h.df
  refine ⟨rs, h1, h2, fun b hb => ⟨(h3 b hb).1, t.obj g (h3 b hb).2 rfl rfl fun hx => ?_⟩⟩
  obtain ⟨l, hl⟩ := X.loop g hx
  rw [(h3 b hb).2] at hl; cases hl
theorem Fr.ro_to (h : Fr r k0 nt Γ e reg fr a) (g : GI n0 e Γ m.pd) (t : To n0 PR Γ e e') : ∀ l, r = some l → (∃ x : Loop, e'.w.heap[l]? = some (.loop x)) ∧ ¬ X Γ e'.la l := fun l hl => by
  obtain ⟨⟨x, hx⟩, hn⟩ := h.ro l hl
  exact ⟨⟨x, t.obj g hx rfl rfl hn⟩, fun hh => hn (X.back g t.ext hh)⟩

theorem putD_ne {fr : Nat → DV} {dst : Option Tmp} {d : DV} {t : Nat} (h : dst ≠ some t) : put fr dst d t = fr t := by
  unfold put upd
  split
  · rename_i u
    rw [if_neg (fun e => h (by rw [e]))]
  · rfl
theorem act_put_ne {a : Act} {dst : Option Tmp} {v : Value} {t : Nat} (h : dst ≠ some t) : (a.put dst v).tmps.getD t undef = a.tmps.getD t undef := by
  unfold Act.put
  split
  · rename_i u
    have : u ≠ t := fun e => h (by rw [e])
    simp [Array.getD_eq_getD_getElem?, Array.getElem?_setIfInBounds_ne this]
  · rfl
theorem act_put_self {a : Act} {v : Value} {t : Nat} (h : t < a.tmps.size) : (a.put (some t) v).tmps.getD t undef = v := by
  simp [Act.put, Array.getD_eq_getD_getElem?, h]
theorem act_put_size {a : Act} {dst : Option Tmp} {v : Value} : (a.put dst v).tmps.size = a.tmps.size := by
  unfold Act.put; split <;> simp
theorem act_put_defers {a : Act} {dst : Option Tmp} {v : Value} : (a.put dst v).defers = a.defers := by
  unfold Act.put; split <;> rfl

theorem dropL_mem {fr : Nat → DV} {ts : List Tmp} {t : Nat} (h : t ∈ ts) : dropL fr ts t = unflag (fr t) := by
  induction ts generalizing fr with
  | nil => simp at h
  | cons u us ih =>
    simp only [dropL]
    by_cases hm : t ∈ us
    · rw [ih hm]
      unfold upd
      split
      · rename_i hh; subst hh; exact unflag_idem _
      · rfl
    · have : t = u := by simpa [hm] using h
      subst this
      have key : ∀ (us : List Tmp) (fr : Nat → DV), t ∉ us → dropL fr us t = fr t := fun us => by
        induction us with
        | nil => intro fr _; rfl
        | cons x xs ih => intro fr hn; simp only [dropL]; rw [ih _ (by simp at hn; exact hn.2)]; unfold upd; rw [if_neg (by simp at hn; exact hn.1)]
      rw [key us _ hm]; simp [upd]
theorem dropL_not {ts : List Tmp} {fr : Nat → DV} {t : Nat} (h : t ∉ ts) : dropL fr ts t = fr t := by
  induction ts generalizing fr with
  | nil => rfl
  | cons x xs ih => simp only [dropL]; rw [ih (by simp at h; exact h.2)]; unfold upd; rw [if_neg (by simp at h; exact h.1)]

/-- The right to what is put goes to the slot. -/
def slotRes (reg : Own → Addr → Prop) (dst : Option Tmp) : Own → Addr → Prop := fun p a => match p with
  | .res => False
  | .slot u => if dst = some u then reg .res a else reg (.slot u) a
  | p => reg p a
theorem slotRes_from {reg : Own → Addr → Prop} {dst : Option Tmp} {p : Own} {a : Addr} (h : slotRes reg dst p a) : ∃ p', reg p' a ∧ ((p' = .res ∧ ∃ u, dst = some u ∧ p = .slot u) ∨ (p' = p ∧ p ≠ .res)) := by
  cases p with
  | res => exact h.elim
  | slot u =>
    simp only [slotRes] at h
    split at h
    · rename_i hd; exact ⟨.res, h, .inl ⟨rfl, u, hd, rfl⟩⟩
    · exact ⟨_, h, .inr ⟨rfl, by simp⟩⟩
  | ob j => exact ⟨_, h, .inr ⟨rfl, by simp⟩⟩
  | cell j i => exact ⟨_, h, .inr ⟨rfl, by simp⟩⟩
theorem MI.slotRes (mi : MI n0 PR e reg) (dst : Option Tmp) : MI n0 PR e (Abs.slotRes reg dst) := by
  refine mi.rereg (fun p a h => let ⟨p', h', _⟩ := slotRes_from h; ⟨p', h'⟩) (fun p p' a h1 h2 => ?_) (fun j a h => h) (fun j i a h => h)
  obtain ⟨u, hu, hu1⟩ := slotRes_from h1
  obtain ⟨u', hu', hu1'⟩ := slotRes_from h2
  have heq := mi.disj _ _ _ hu hu'
  rcases hu1 with ⟨rfl, x, hx, rfl⟩ | ⟨rfl, hn⟩ <;> rcases hu1' with ⟨rfl, y, hy, rfl⟩ | ⟨rfl, hn'⟩
  · rw [hx] at hy; cases hy; rfl
  · exact absurd heq.symm hn'
  · exact absurd heq hn
  · exact heq

/-- What an operation's end makes of a frame. -/
theorem Fr.put (h : Fr r k0 nt Γ e reg fr a) (g : GI n0 e Γ m.pd) (t : To n0 PR Γ e e') {drop : List Tmp} {dst : Option Tmp} {d : DV} {v : Value} (hd : dstOk nt dst = true) (hres : RD e' (reg' .res) d v)
    (hslot : ∀ t, t ∉ drop → ∀ x, reg (.slot t) x → reg' (.slot t) x) : Fr r k0 nt Γ e' (slotRes reg' dst) (Abs.put (dropL fr drop) dst d) (a.put dst v) := by
  refine ⟨fun u => ?_, by rw [act_put_size]; exact h.nt, ?_, h.ro_to g t⟩
  · by_cases hu : dst = some u
    · subst hu
      have hlt : u < a.tmps.size := Nat.lt_of_lt_of_le (by simpa [dstOk] using hd) h.nt
      rw [act_put_self hlt]
      have : Abs.put (dropL fr drop) (some u) d u = d := by simp [Abs.put, upd]
      rw [this]
      exact hres.weak fun x hx => by simp [slotRes]; exact hx
    · rw [putD_ne hu, act_put_ne hu]
      by_cases hm : u ∈ drop
      · rw [dropL_mem hm]
        exact ((h.rd u).mono t.ext (fun _ h => h)).unflag
      · rw [dropL_not hm]
        exact (h.rd u).mono t.ext fun x hx => by simp only [slotRes, if_neg hu]; exact hslot u hm x hx
  · rw [act_put_defers]; exact h.df_to g t

/-- What a call hands back. -/
def Back (n0 : Nat) (PR : Addr → Prop) (Γ : List (Nat × Ctx)) (e : E) (d : DV) (m' : M) : Ending → World → Prop
  | .returned v, w' => ∃ e' reg', e'.w = w' ∧ St n0 PR Γ e' reg' m' ∧ NoSlot reg' ∧ To n0 PR Γ e e' ∧ RD e' (reg' .res) d v
  | _, _ => False

/-- A contract that is known: what it says of the objects that are handed over, and that it holds. -/
structure PrimOk (P : Program) (f : FuncId) (p : List Ob → List DV → Option Out) : Prop where
  drop : ∀ st args r, p st args = some r → r.drop = []
  set : ∀ st args r, p st args = some r → ∀ id o, r.set = some (id, o) → id ∈ args.flatMap refsOf
  same : ∀ st st' args, (∀ id ∈ args.flatMap refsOf, st[id]? = st'[id]?) → p st args = p st' args
  ok : ∀ m args r, p m.st args = some r → ∀ Γ n0 PR e reg vs n, St n0 PR Γ e reg m → NoRes reg → NoSlot reg → RDs e args vs → CallsIn Fence.wide n P f ⟨vs⟩ e.w (Back n0 PR Γ e r.d (setM m r.set))

structure CallOk (P : Program) (rec : Rec) : Prop where
  call : ∀ Γ f args m d m', rec.call Γ f args m = some (d, m') → ∀ n0 PR e reg vs n, St n0 PR Γ e reg m → NoRes reg → NoSlot reg → RDs e args vs → CallsIn Fence.wide n P f ⟨vs⟩ e.w (Back n0 PR Γ e d m')
  prim : ∀ f p, rec.prim f = some p → PrimOk P f p
def RoundOk (P : Program) (rec : Rec) : Prop := ∀ Γ j args m d m', rec.round Γ j args m = some (d, m') → ∀ n0 PR e reg vs n, St n0 PR Γ e reg m → NoRes reg → NoSlot reg → RDs e args vs → ∀ l, e.la[j]? = some l →
  ∃ x : Loop, e.w.heap[l]? = some (.loop x) ∧ vs.length = x.params.size ∧ RoundIn Fence.wide n P l x.fn ((x.params.zip ⟨vs⟩).foldl (fun tmps (t, a) => tmps.setIfInBounds t a) x.tmps) x.assign x.body e.w (Back n0 PR Γ e d m')

/-- The rights of the frame itself are put by for the time of a call on the same store. -/
theorem St.hide (s : St n0 PR Γ e reg m) (hres : NoRes reg) :
    let PR' : Addr → Prop := fun x => PR x ∨ ∃ t, reg (.slot t) x
    let reg0 : Own → Addr → Prop := fun p x => match p with | .slot _ => False | p => reg p x
    St n0 PR' Γ e reg0 m ∧ NoRes reg0 ∧ NoSlot reg0 ∧
    (∀ d m' en w', Back n0 PR' Γ e d m' en w' → ∃ v e' reg', en = .returned v ∧ e'.w = w' ∧ St n0 PR Γ e' reg' m' ∧ To n0 PR Γ e e' ∧ RD e' (reg' .res) d v ∧ ∀ t x, reg (.slot t) x → reg' (.slot t) x) := by
  intro PR' reg0
  have mi := s.mi
  have hr0 : ∀ p a, reg0 p a → reg p a ∧ ∀ t, p ≠ .slot t := fun p a h => by cases p <;> first | exact h.elim | exact ⟨h, by simp⟩
  refine ⟨⟨s.st, s.la, s.lt, ⟨mi.imlt, fun a ha hp => ?_, fun a hp => ?_, mi.n0le, fun p a hp => ?_, fun p q a h1 h2 => mi.disj p q a (hr0 p a h1).1 (hr0 q a h2).1, mi.ext, fun id o ho i hi => mi.own id o ho i hi, fun id o ho i d hd => mi.cell id o ho i d hd⟩, s.gi⟩, hres, fun _ _ h => h, ?_⟩
  · rcases hp with hp | ⟨t, ht⟩
    · exact mi.impr a ha hp
    · exact (mi.ok _ _ ht).2.2.2.1 ha
  · rcases hp with hp | ⟨t, ht⟩
    · exact mi.prlt a hp
    · exact mi.old ht
  · obtain ⟨h0, hns⟩ := hr0 p a hp
    obtain ⟨h1, h2, h3, h4, h5⟩ := mi.ok p a h0
    refine ⟨h1, h2, h3, h4, fun hh => ?_⟩
    rcases hh with hh | ⟨t, ht⟩
    · exact h5 hh
    · exact hns t (mi.disj _ _ _ h0 ht)
  · intro d m' en w' hb
    cases en with
    | returned v =>
      obtain ⟨e', reg1, rfl, s1, hns, to, hrd⟩ := hb
      have mi1 := s1.mi
      let reg2 : Own → Addr → Prop := fun p x => match p with | .slot t => reg (.slot t) x | p => reg1 p x
      have hr2 : ∀ p a, reg2 p a → (∃ t, p = .slot t ∧ reg (.slot t) a) ∨ (reg1 p a ∧ ∀ t, p ≠ .slot t) := fun p a h => by
        cases p with
        | slot t => exact .inl ⟨t, rfl, h⟩
        | _ => exact .inr ⟨h, by simp⟩
      have old : ∀ t a, reg (.slot t) a → n0 ≤ a.block ∧ (∃ v, e'.w.cell? a = some v) ∧ e'.w.frozen? a = false ∧ ¬ e'.im a ∧ ¬ PR a := fun t a h => by
        obtain ⟨h1, ⟨v, h2⟩, h3, h4, h5⟩ := mi.ok _ _ h
        obtain ⟨k1, k2⟩ := to.keep.pr a (.inr ⟨t, h⟩)
        exact ⟨h1, ⟨v, k1.trans h2⟩, k2.trans h3, fun hi => mi1.impr a hi (.inr ⟨t, h⟩), h5⟩
      refine ⟨v, e', reg2, rfl, rfl, ⟨s1.st, s1.la, s1.lt, ⟨mi1.imlt, fun a ha hp => mi1.impr a ha (.inl hp), fun a hp => mi1.prlt a (.inl hp), mi1.n0le, fun p a hp => ?_, fun p q a h1 h2 => ?_, mi1.ext, fun id o ho i hi => mi1.own id o ho i hi, fun id o ho i d hd => mi1.cell id o ho i d hd⟩, s1.gi⟩, ⟨to.ext, ⟨to.keep.os, to.keep.tape, to.keep.output, to.keep.size, to.keep.old, fun a ha => to.keep.pr a (.inl ha), to.keep.obj, to.keep.dr⟩, to.maps, to.loops⟩, hrd, fun t x h => h⟩
      · rcases hr2 p a hp with ⟨t, rfl, h⟩ | ⟨h, _⟩
        · exact old t a h
        · obtain ⟨h1, h2, h3, h4, h5⟩ := mi1.ok p a h
          exact ⟨h1, h2, h3, h4, fun hh => h5 (.inl hh)⟩
      · rcases hr2 p a h1 with ⟨t, rfl, g1⟩ | ⟨g1, _⟩ <;> rcases hr2 q a h2 with ⟨t', rfl, g2⟩ | ⟨g2, _⟩
        · exact mi.disj _ _ a g1 g2
        · exact absurd (.inr ⟨t, g1⟩) (mi1.ok q a g2).2.2.2.2
        · exact absurd (.inr ⟨t', g2⟩) (mi1.ok p a g1).2.2.2.2
        · exact mi1.disj _ _ a g1 g2
    | panicked c => exact hb.elim
    | outgrown => exact hb.elim
end
end Go.Abs
