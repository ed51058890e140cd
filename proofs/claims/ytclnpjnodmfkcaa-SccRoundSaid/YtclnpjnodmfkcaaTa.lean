/-
  Part of the proof: printed by the session's own program out of the program's form, or typed; it states no claim by itself.
-/
import Derived.Test.YtclnpjnodmfkcaaMa
import Derived.Test.YtclnpjnodmfkcaaAbs30
import Derived.Test.YtclnpjnodmfkcaaPa
import Derived.Test.YtclnpjnodmfkcaaMb
/-
  Plain: the search for components, step by step, and what it finds.
-/
set_option linter.unusedVariables false
set_option linter.unusedSimpArgs false
namespace Go.Proofs.Scc
open Go Go.Abs

structure TS where
  idx : Int → Int
  low : Int → Int
  stk : List Int
  cnt : Int
  outs : List (List Int)
def fset (f : Int → Int) (x v : Int) : Int → Int := fun y => if y = x then v else f y
theorem fset_same {f : Int → Int} {x v : Int} : fset f x v x = v := by simp [fset]
theorem fset_ne {f : Int → Int} {x v y : Int} (h : y ≠ x) : fset f x v y = f y := by simp [fset, h]
def TS.push (S : TS) (n : Int) : TS := { S with idx := fset S.idx n (S.cnt + 1), low := fset S.low n (S.cnt + 1), stk := S.stk ++ [n], cnt := S.cnt + 1 }
def TS.lower (S : TS) (n v : Int) : TS := { S with low := fset S.low n (if v < S.low n then v else S.low n) }
/-- Where one stands. -/
def posOf (n : Int) : List Int → Nat
  | [] => 0
  | x :: l => if n = x then 0 else posOf n l + 1
def TS.close (S : TS) (n : Int) : TS := { S with stk := S.stk.take (posOf n S.stk), outs := S.outs ++ [isort (S.stk.drop (posOf n S.stk))] }
def TS.fin (S : TS) (n : Int) : TS := if S.low n = S.idx n then S.close n else S
structure Bnd (A : Adj) (S : TS) : Prop where
  cnt : 0 ≤ S.cnt ∧ S.cnt ≤ 1000000
  stk : S.stk.length ≤ 1000000
  outs : S.outs.length ≤ 1000000
  nod : ∀ x ∈ S.stk, Nod A x
  dup : S.stk.Nodup
/-- The steps of a visit (none), of what is left of a node's arcs (some). -/
inductive Run (A : Adj) : TS → Int → Option (List Int) → TS → Prop
  | visit {S S1 : TS} {n : Int} {row : Sl Int} : Nod A n → A[n.toNat]? = some row → Bnd A S → Run A (S.push n) n (some row.l) S1 → Bnd A S1 → n ∈ S1.stk → Run A S n none (S1.fin n)
  | nil {S : TS} {n : Int} : Run A S n (some []) S
  | skip {S S' : TS} {n y : Int} {ys : List Int} : ¬ Nod A y → Run A S n (some ys) S' → Run A S n (some (y :: ys)) S'
  | new {S S1 S' : TS} {n y : Int} {ys : List Int} : Nod A y → S.idx y = 0 → Run A S y none S1 → Run A (S1.lower n (S1.low y)) n (some ys) S' → Run A S n (some (y :: ys)) S'
  | on {S S' : TS} {n y : Int} {ys : List Int} : Nod A y → S.idx y ≠ 0 → y ∈ S.stk → Run A (S.lower n (S.idx y)) n (some ys) S' → Run A S n (some (y :: ys)) S'
  | off {S S' : TS} {n y : Int} {ys : List Int} : Nod A y → S.idx y ≠ 0 → y ∉ S.stk → Run A S n (some ys) S' → Run A S n (some (y :: ys)) S'

/-! ### what holds all the time -/
def InOut (S : TS) (x : Int) : Prop := ∃ o ∈ S.outs, x ∈ o
def Mutual (A : Adj) (x y : Int) : Prop := Way A x y ∧ Way A y x
structure Inv (A : Adj) (S : TS) (G : List Int) : Prop where
  seen : ∀ x, Nod A x → (S.idx x ≠ 0 ↔ x ∈ S.stk ∨ InOut S x)
  rng : ∀ x, Nod A x → 0 ≤ S.idx x ∧ S.idx x ≤ S.cnt
  cnt : 0 ≤ S.cnt
  nod : ∀ x, x ∈ S.stk ∨ InOut S x → Nod A x
  sorted : S.stk.Pairwise (fun x y => S.idx x < S.idx y)
  apart : ∀ x ∈ S.stk, ¬ InOut S x
  comp : ∀ o ∈ S.outs, ∀ x ∈ o, ∀ y, y ∈ o ↔ Mutual A x y
  rise : ∀ o ∈ S.outs, o ≠ [] ∧ o.Pairwise (· < ·)
  once : S.outs.Pairwise (fun o o' => ∀ x ∈ o, x ∉ o')
  shut : ∀ x, InOut S x → ∀ y, Arc A x y → InOut S y
  gray : ∀ g ∈ G, g ∈ S.stk
  black : ∀ x ∈ S.stk, x ∉ G → ∀ y, Arc A x y → S.idx y ≠ 0
  up : ∀ x ∈ S.stk, ∀ y ∈ S.stk, S.idx x ≤ S.idx y → Way A x y
  down : ∀ y ∈ S.stk, ∃ g ∈ G, S.idx g ≤ S.idx y ∧ Way A y g

/-- What a visit does. -/
structure Post (A : Adj) (S : TS) (n : Int) (S' : TS) : Prop where
  stk : ∃ new, S'.stk = S.stk ++ new ∧ ∀ x ∈ new, ∀ y ∈ S.stk, Arc A x y → S'.low n ≤ S.idx y
  idx : ∀ x, S.idx x ≠ 0 → S'.idx x = S.idx x
  low : ∀ x, S.idx x ≠ 0 → S'.low x = S.low x
  seen : S'.idx n ≠ 0
  cnt : S.cnt ≤ S'.cnt
  goal : (n ∉ S'.stk ∧ S'.low n = S'.idx n) ∨ ∃ z ∈ S.stk, S.idx z = S'.low n ∧ Way A n z
  later : S.cnt < S'.idx n
theorem Arc.way {A : Adj} {x y : Int} (h : Arc A x y) : Way A x y := .step (.refl h.src) h
theorem posOf_le {n : Int} : ∀ {l : List Int}, n ∈ l → posOf n l < l.length
  | [], h => by simp at h
  | x :: l, h => by
    unfold posOf
    split
    · simp
    · rename_i hne
      have := posOf_le ((List.mem_cons.1 h).resolve_left hne)
      simp only [List.length_cons]; omega
theorem posOf_split {n : Int} {l r : List Int} (h : n ∉ l) : posOf n (l ++ n :: r) = l.length := by
  induction l with
  | nil => simp [posOf]
  | cons x l ih =>
    have h1 : n ≠ x := fun e => h (e ▸ List.mem_cons_self)
    have h2 : n ∉ l := fun e => h (List.mem_cons_of_mem _ e)
    show (if n = x then 0 else posOf n (l ++ n :: r) + 1) = _
    rw [if_neg h1, ih h2]; rfl

/-- A visit begins. -/
theorem Inv.push {A : Adj} {S : TS} {G : List Int} (h : Inv A S G) {n : Int} (hn : Nod A n) (h0 : S.idx n = 0) (hw : ∀ x ∈ S.stk, Way A x n) : Inv A (S.push n) (G ++ [n]) := by
  have hns : n ∉ S.stk := fun hm => (h.seen n hn).2 (.inl hm) h0
  have hno : ¬ InOut S n := fun hm => (h.seen n hn).2 (.inr hm) h0
  have ne : ∀ x ∈ S.stk, x ≠ n := fun x hx e => hns (e ▸ hx)
  have hc := h.cnt
  have ix : ∀ x ∈ S.stk, (S.push n).idx x = S.idx x := fun x hx => fset_ne (ne x hx)
  have ixn : (S.push n).idx n = S.cnt + 1 := fset_same
  refine ⟨?_, ?_, by show 0 ≤ S.cnt + 1; omega, ?_, ?_, ?_, h.comp, h.rise, h.once, h.shut, ?_, ?_, ?_, ?_⟩
  · intro x hx
    show fset S.idx n (S.cnt + 1) x ≠ 0 ↔ x ∈ S.stk ++ [n] ∨ InOut S x
    by_cases hxn : x = n
    · subst hxn; rw [fset_same]; simp; omega
    · rw [fset_ne hxn, h.seen x hx]; simp [hxn]
  · intro x hx
    show 0 ≤ fset S.idx n (S.cnt + 1) x ∧ fset S.idx n (S.cnt + 1) x ≤ S.cnt + 1
    by_cases hxn : x = n
    · subst hxn; rw [fset_same]; omega
    · rw [fset_ne hxn]; have := h.rng x hx; omega
  · rintro x (hx | hx)
    · rcases List.mem_append.1 hx with hx | hx
      · exact h.nod x (.inl hx)
      · rw [List.mem_singleton] at hx; exact hx ▸ hn
    · exact h.nod x (.inr hx)
  · show (S.stk ++ [n]).Pairwise _
    rw [List.pairwise_append]
    refine ⟨?_, by simp, fun x hx y hy => ?_⟩
    · exact h.sorted.imp_of_mem fun {x y} hx hy hlt => by rw [ix x hx, ix y hy]; exact hlt
    · rw [List.mem_singleton] at hy
      subst hy
      rw [ix x hx, ixn]
      have := h.rng x (h.nod x (.inl hx)); omega
  · intro x hx
    rcases List.mem_append.1 hx with hx | hx
    · exact h.apart x hx
    · rw [List.mem_singleton] at hx; exact hx ▸ hno
  · intro g hg
    show g ∈ S.stk ++ [n]
    rcases List.mem_append.1 hg with hg | hg
    · exact List.mem_append_left _ (h.gray g hg)
    · exact List.mem_append_right _ hg
  · intro x hx hxG y ha
    rw [List.mem_append, List.mem_singleton, not_or] at hxG
    have hxs : x ∈ S.stk := by
      rcases List.mem_append.1 hx with hx | hx
      · exact hx
      · exact absurd (List.mem_singleton.1 hx) hxG.2
    have := h.black x hxs hxG.1 y ha
    show fset S.idx n (S.cnt + 1) y ≠ 0
    by_cases hyn : y = n
    · subst hyn; rw [fset_same]; omega
    · rw [fset_ne hyn]; exact this
  · intro x hx y hy hle
    rcases List.mem_append.1 hx with h1 | h1 <;> rcases List.mem_append.1 hy with h2 | h2
    · rw [ix x h1, ix y h2] at hle; exact h.up x h1 y h2 hle
    · rw [List.mem_singleton] at h2; exact h2 ▸ hw x h1
    · rw [List.mem_singleton] at h1
      rw [h1, ixn, ix y h2] at hle
      have := h.rng y (h.nod y (.inl h2)); omega
    · rw [List.mem_singleton] at h1 h2
      rw [h1, h2]; exact .refl hn
  · intro y hy
    rcases List.mem_append.1 hy with hy | hy
    · obtain ⟨g, hg, h1, h2⟩ := h.down y hy
      exact ⟨g, List.mem_append_left _ hg, by rw [ix g (h.gray g hg), ix y hy]; exact h1, h2⟩
    · rw [List.mem_singleton] at hy
      subst hy
      exact ⟨y, by simp, Int.le_refl _, .refl hn⟩
theorem Inv.lower {A : Adj} {S : TS} {G : List Int} (h : Inv A S G) (n v : Int) : Inv A (S.lower n v) G := ⟨h.seen, h.rng, h.cnt, h.nod, h.sorted, h.apart, h.comp, h.rise, h.once, h.shut, h.gray, h.black, h.up, h.down⟩
/-- All on the stack lead to where the last gray one leads. -/
theorem Inv.to_last {A : Adj} {S : TS} {G : List Int} {n : Int} (h : Inv A S (G ++ [n])) (hlast : ∀ g ∈ G, S.idx g ≤ S.idx n) : ∀ x ∈ S.stk, Way A x n := fun x hx => by
  obtain ⟨g, hg, _, h2⟩ := h.down x hx
  have hgs := h.gray g hg
  have hns := h.gray n (by simp)
  rcases List.mem_append.1 hg with hg | hg
  · exact h2.trans (h.up g hgs n hns (hlast g hg))
  · rw [List.mem_singleton] at hg; exact hg ▸ h2

/-- What holds between a node's arcs: those in done are gone along. -/
structure Mid (A : Adj) (S0 : TS) (G : List Int) (n : Int) (done : Int → Prop) (S : TS) : Prop where
  inv : Inv A S (G ++ [n])
  idx : ∀ x, S0.idx x ≠ 0 → S.idx x = S0.idx x
  low : ∀ x, S0.idx x ≠ 0 → S.low x = S0.low x
  cnt : S0.cnt < S.cnt
  ixn : S.idx n = S0.cnt + 1
  stk : ∃ new, S.stk = S0.stk ++ n :: new ∧ ∀ x ∈ new, ∀ y ∈ S0.stk, Arc A x y → S.low n ≤ S0.idx y
  le : S.low n ≤ S.idx n
  wit : ∃ z ∈ S.stk, S.idx z = S.low n ∧ Way A n z
  arcs : ∀ y, done y → Nod A y → S.idx y ≠ 0 ∧ (y ∈ S0.stk → S.low n ≤ S0.idx y)
theorem Mid.begin {A : Adj} {S0 : TS} {G : List Int} (h : Inv A S0 G) {n : Int} (hn : Nod A n) (h0 : S0.idx n = 0) (hw : ∀ x ∈ S0.stk, Way A x n) : Mid A S0 G n (fun _ => False) (S0.push n) := by
  have ne : ∀ x, S0.idx x ≠ 0 → x ≠ n := fun x hx e => hx (e ▸ h0)
  have hln : (S0.push n).low n = S0.cnt + 1 := fset_same
  have hin : (S0.push n).idx n = S0.cnt + 1 := fset_same
  refine ⟨h.push hn h0 hw, fun x hx => fset_ne (ne x hx), fun x hx => fset_ne (ne x hx), by show S0.cnt < S0.cnt + 1; omega, hin, ⟨[], rfl, by simp⟩, by rw [hln, hin]; exact Int.le_refl _, ⟨n, ?_, by rw [hln, hin], .refl hn⟩, fun y hy => hy.elim⟩
  show n ∈ S0.stk ++ [n]; simp
theorem Mid.idx_old {A : Adj} {S0 S : TS} {G : List Int} {n : Int} {done : Int → Prop} (m : Mid A S0 G n done S) (h : Inv A S0 G) {x : Int} (hx : x ∈ S0.stk) : S.idx x = S0.idx x ∧ S0.idx x ≤ S0.cnt := by
  have hn := h.nod x (.inl hx)
  exact ⟨m.idx x ((h.seen x hn).2 (.inl hx)), (h.rng x hn).2⟩
theorem Mid.last {A : Adj} {S0 S : TS} {G : List Int} {n : Int} {done : Int → Prop} (m : Mid A S0 G n done S) (h : Inv A S0 G) : ∀ g ∈ G, S.idx g ≤ S.idx n := fun g hg => by
  obtain ⟨h1, h2⟩ := m.idx_old h (h.gray g hg)
  rw [h1, m.ixn]; omega
theorem Mid.more {A : Adj} {S0 S : TS} {G : List Int} {n : Int} {done done' : Int → Prop} (m : Mid A S0 G n done S) (hd : ∀ y, done' y → Nod A y → done y ∨ (S.idx y ≠ 0 ∧ (y ∈ S0.stk → S.low n ≤ S0.idx y))) : Mid A S0 G n done' S :=
  ⟨m.inv, m.idx, m.low, m.cnt, m.ixn, m.stk, m.le, m.wit, fun y hy hn => (hd y hy hn).elim (fun h => m.arcs y h hn) id⟩
/-- The low number goes down to that of one on the stack to which a way leads. -/
theorem Mid.lower {A : Adj} {S0 S : TS} {G : List Int} {n : Int} {done : Int → Prop} (m : Mid A S0 G n done S) (h0 : S0.idx n = 0) {v : Int} (hv : S.low n ≤ v ∨ ∃ z ∈ S.stk, S.idx z = v ∧ Way A n z) : Mid A S0 G n done (S.lower n v) := by
  have hl : (S.lower n v).low n = if v < S.low n then v else S.low n := fset_same
  have hle : (S.lower n v).low n ≤ S.low n := by rw [hl]; split <;> omega
  obtain ⟨new, h1, h2⟩ := m.stk
  refine ⟨m.inv.lower n v, m.idx, fun x hx => ?_, m.cnt, m.ixn, ⟨new, h1, fun x hx y hy ha => Int.le_trans hle (h2 x hx y hy ha)⟩, Int.le_trans hle m.le, ?_, fun y hy hn => ?_⟩
  · rw [← m.low x hx]
    have hxn : x ≠ n := fun e => hx (by rw [e]; exact h0)
    exact fset_ne hxn
  · by_cases hlt : v < S.low n
    · rcases hv with hv | ⟨z, hz, h3, h4⟩
      · omega
      · exact ⟨z, hz, by rw [hl, if_pos hlt]; exact h3, h4⟩
    · obtain ⟨z, hz, h3, h4⟩ := m.wit
      exact ⟨z, hz, by rw [hl, if_neg hlt]; exact h3, h4⟩
  · obtain ⟨h3, h4⟩ := m.arcs y hy hn
    exact ⟨h3, fun hs => Int.le_trans hle (h4 hs)⟩
/-- A visit from the node, then the low number. -/
theorem Mid.visited {A : Adj} {S0 S S1 : TS} {G : List Int} {n y : Int} {done : Int → Prop} (h : Inv A S0 G) (m : Mid A S0 G n done S) (h0 : S0.idx n = 0) (hy : S.idx y = 0) (hny : Nod A y) (ha : Arc A n y) (hi : Inv A S1 (G ++ [n])) (p : Post A S y S1) : Mid A S0 G n (fun z => done z ∨ z = y) (S1.lower n (S1.low y)) := by
  have hn0 : S.idx n ≠ 0 := by rw [m.ixn]; have := h.cnt; omega
  have old : ∀ x, S0.idx x ≠ 0 → S.idx x ≠ 0 := fun x hx => by rw [m.idx x hx]; exact hx
  obtain ⟨new, h1, h2⟩ := m.stk
  obtain ⟨new2, g1, g2⟩ := p.stk
  have hlow := p.low n hn0
  have hidx := p.idx n hn0
  have hyn : y ≠ n := fun e => hn0 (e ▸ hy)
  have hl : (S1.lower n (S1.low y)).low n = if S1.low y < S1.low n then S1.low y else S1.low n := fset_same
  have hle : (S1.lower n (S1.low y)).low n ≤ S.low n := by rw [hl, hlow]; split <;> omega
  have hle2 : (S1.lower n (S1.low y)).low n ≤ S1.low y := by rw [hl]; split <;> omega
  have sub : ∀ x ∈ S.stk, x ∈ S1.stk := fun x hx => by rw [g1]; exact List.mem_append_left _ hx
  have ixs : ∀ x ∈ S.stk, S1.idx x = S.idx x := fun x hx => p.idx x ((m.inv.seen x (m.inv.nod x (.inl hx))).2 (.inl hx))
  have old_sub : ∀ x ∈ S0.stk, x ∈ S.stk := fun x hx => by rw [h1]; exact List.mem_append_left _ hx
  refine ⟨hi.lower _ _, fun x hx => (p.idx x (old x hx)).trans (m.idx x hx), fun x hx => ?_, by have := m.cnt; have := p.cnt; show S0.cnt < S1.cnt; omega, hidx.trans m.ixn, ⟨new ++ new2, ?_, fun x hx z hz haz => ?_⟩, ?_, ?_, fun z hz hnz => ?_⟩
  · show fset S1.low n _ x = S0.low x
    have hxn : x ≠ n := fun e => hx (by rw [e]; exact h0)
    rw [fset_ne hxn, p.low x (old x hx), m.low x hx]
  · show S1.stk = _
    rw [g1, h1]; simp
  · rcases List.mem_append.1 hx with hx | hx
    · exact Int.le_trans hle (h2 x hx z hz haz)
    · have := g2 x hx z (old_sub z hz) haz
      rw [(m.idx_old h hz).1] at this
      exact Int.le_trans hle2 this
  · show _ ≤ S1.idx n
    rw [hidx]; exact Int.le_trans hle m.le
  · by_cases hlt : S1.low y < S1.low n
    · rw [hl, if_pos hlt]
      rcases p.goal with ⟨_, e⟩ | ⟨z, hz, e, hw⟩
      · have h3 := p.later
        have h4 := m.le
        have h5 := (m.inv.rng n (m.inv.nod n (.inl (m.inv.gray n (by simp))))).2
        rw [hlow, e] at hlt
        omega
      · exact ⟨z, sub z hz, by show S1.idx z = _; rw [ixs z hz]; exact e, ha.way.trans hw⟩
    · rw [hl, if_neg hlt, hlow]
      obtain ⟨z, hz, e, hw⟩ := m.wit
      exact ⟨z, sub z hz, by show S1.idx z = _; rw [ixs z hz]; exact e, hw⟩
  · rcases hz with hz | rfl
    · obtain ⟨h3, h4⟩ := m.arcs z hz hnz
      exact ⟨by show S1.idx z ≠ 0; rw [p.idx z h3]; exact h3, fun hs => Int.le_trans hle (h4 hs)⟩
    · refine ⟨p.seen, fun hs => ?_⟩
      have := (m.inv.seen z hnz).2 (.inl (old_sub z hs))
      exact absurd hy this
end Go.Proofs.Scc

/-
  Plain: the search for components ends a visit.
-/
set_option linter.unusedVariables false
set_option linter.unusedSimpArgs false
namespace Go.Proofs.Scc
open Go Go.Abs Go.Proofs.Ytclnpjnodmfkcaa

theorem Mid.fin {A : Adj} {S0 S : TS} {G : List Int} {n : Int} {done : Int → Prop} (h : Inv A S0 G) (m : Mid A S0 G n done S) (hn : Nod A n) (h0 : S0.idx n = 0) (hd : ∀ y, Arc A n y → done y) : Inv A (S.fin n) G ∧ Post A S0 n (S.fin n) := by
  obtain ⟨new, hstk, hnew⟩ := m.stk
  have hi := m.inv
  have hns0 : n ∉ S0.stk := fun hm => (h.seen n hn).2 (.inl hm) h0
  have hsort := hi.sorted
  rw [hstk, List.pairwise_append] at hsort
  obtain ⟨hsA, hsB, hsC⟩ := hsort
  rw [List.pairwise_cons] at hsB
  have old : ∀ x ∈ S0.stk, S.idx x = S0.idx x ∧ S0.idx x ≤ S0.cnt := fun x hx => m.idx_old h hx
  have sub0 : ∀ x ∈ S0.stk, x ∈ S.stk := fun x hx => by rw [hstk]; exact List.mem_append_left _ hx
  have subc : ∀ x ∈ n :: new, x ∈ S.stk := fun x hx => by rw [hstk]; exact List.mem_append_right _ hx
  have hge : ∀ x ∈ n :: new, S.idx n ≤ S.idx x := fun x hx => by
    rcases List.mem_cons.1 hx with rfl | hx
    · exact Int.le_refl _
    · have := hsB.1 x hx; omega
  have apart0 : ∀ x ∈ n :: new, x ∉ S0.stk := fun x hx hx0 => by
    have h1 := hge x hx
    have h2 := old x hx0
    rw [m.ixn] at h1; omega
  have arcn : ∀ y, Arc A n y → S.idx y ≠ 0 ∧ (y ∈ S0.stk → S.low n ≤ S0.idx y) := fun y ha => m.arcs y (hd y ha) ha.2.2
  have hnS : n ∈ S.stk := subc n (by simp)
  by_cases heq : S.low n = S.idx n
  · -- a component ends
    have hpos : posOf n S.stk = S0.stk.length := by rw [hstk]; exact posOf_split hns0
    have htake : S.stk.take (posOf n S.stk) = S0.stk := by rw [hpos, hstk, List.take_left]
    have hdrop : S.stk.drop (posOf n S.stk) = n :: new := by rw [hpos, hstk, List.drop_left]
    have hfin : S.fin n = { S with stk := S0.stk, outs := S.outs ++ [isort (n :: new)] } := by
      unfold TS.fin TS.close
      rw [if_pos heq, htake, hdrop]
    have memc : ∀ x, x ∈ isort (n :: new) ↔ x ∈ n :: new := fun x => (isort_perm _).mem_iff
    have hio : ∀ x, InOut (S.fin n) x ↔ InOut S x ∨ x ∈ n :: new := fun x => by
      rw [hfin]
      constructor
      · rintro ⟨o, ho, hx⟩
        rcases List.mem_append.1 ho with ho | ho
        · exact .inl ⟨o, ho, hx⟩
        · rw [List.mem_singleton] at ho
          exact .inr ((memc x).1 (ho ▸ hx))
      · rintro (⟨o, ho, hx⟩ | hx)
        · exact ⟨o, List.mem_append_left _ ho, hx⟩
        · exact ⟨_, List.mem_append_right _ (List.mem_singleton.2 rfl), (memc x).2 hx⟩
    have hvis : ∀ y, Nod A y → S.idx y ≠ 0 → (y ∈ S0.stk → S.low n ≤ S0.idx y) → y ∈ n :: new ∨ InOut S y := fun y hy h1 h2 => by
      rcases (hi.seen y hy).1 h1 with h3 | h3
      · rw [hstk] at h3
        rcases List.mem_append.1 h3 with h3 | h3
        · have h4 := h2 h3
          have h5 := old y h3
          rw [heq, m.ixn] at h4; omega
        · exact .inl h3
      · exact .inr h3
    have shutc : ∀ x ∈ n :: new, ∀ y, Arc A x y → y ∈ n :: new ∨ InOut S y := fun x hx y ha => by
      rcases List.mem_cons.1 hx with rfl | hx'
      · exact hvis y ha.2.2 (arcn y ha).1 (arcn y ha).2
      · have hxG : x ∉ G ++ [n] := fun hg => by
          rcases List.mem_append.1 hg with hg | hg
          · exact apart0 x hx (h.gray x hg)
          · rw [List.mem_singleton] at hg
            have := hsB.1 x hx'; rw [hg] at this; omega
        exact hvis y ha.2.2 (hi.black x (subc x hx) hxG y ha) (fun hs => hnew x hx' y hs ha)
    have shutw : ∀ x y, Way A x y → (x ∈ n :: new ∨ InOut S x) → y ∈ n :: new ∨ InOut S y := fun x y hw => by
      induction hw with
      | refl _ => exact id
      | step _ ha ih => intro hx; exact (ih hx).elim (fun h1 => shutc _ h1 _ ha) fun h1 => .inr (hi.shut _ h1 _ ha)
    have shuto : ∀ x y, Way A x y → InOut S x → InOut S y := fun x y hw => by
      induction hw with
      | refl _ => exact id
      | step _ ha ih => intro hx; exact hi.shut _ (ih hx) _ ha
    have toN : ∀ x ∈ n :: new, Way A x n := fun x hx => by
      obtain ⟨g, hg, _, hw⟩ := hi.down x (subc x hx)
      rcases List.mem_append.1 hg with hg | hg
      · exfalso
        have hgs := h.gray g hg
        rcases shutw x g hw (.inl hx) with h1 | h1
        · exact apart0 g h1 hgs
        · exact hi.apart g (sub0 g hgs) h1
      · rw [List.mem_singleton] at hg; exact hg ▸ hw
    have frN : ∀ x ∈ n :: new, Way A n x := fun x hx => hi.up n hnS x (subc x hx) (hge x hx)
    have nodup : (n :: new).Nodup := by
      rw [List.nodup_cons]
      refine ⟨fun hx => by have := hsB.1 n hx; omega, ?_⟩
      exact hsB.2.imp fun {x y} hlt e => by rw [e] at hlt; omega
    refine ⟨?_, ?_⟩
    · refine ⟨fun x hx => ?_, fun x hx => ?_, ?_, fun x hx => ?_, ?_, fun x hx => ?_, fun o ho => ?_, fun o ho => ?_, ?_, fun x hx y ha => ?_, fun g hg => ?_, fun x hx hxG y ha => ?_, fun x hx y hy hle => ?_, fun y hy => ?_⟩
      · rw [hio x, hfin]
        show S.idx x ≠ 0 ↔ x ∈ S0.stk ∨ InOut S x ∨ x ∈ n :: new
        rw [hi.seen x hx, hstk, List.mem_append]
        constructor
        · rintro ((h1 | h1) | h1)
          · exact .inl h1
          · exact .inr (.inr h1)
          · exact .inr (.inl h1)
        · rintro (h1 | h1 | h1)
          · exact .inl (.inl h1)
          · exact .inr h1
          · exact .inl (.inr h1)
      · rw [hfin]; exact hi.rng x hx
      · rw [hfin]; exact hi.cnt
      · rcases hx with hx | hx
        · rw [hfin] at hx; exact h.nod x (.inl hx)
        · rcases (hio x).1 hx with hx | hx
          · exact hi.nod x (.inr hx)
          · exact hi.nod x (.inl (subc x hx))
      · rw [hfin]; exact hsA
      · rw [hio x]
        rw [hfin] at hx
        rintro (h1 | h1)
        · exact hi.apart x (sub0 x hx) h1
        · exact apart0 x h1 hx
      · rw [hfin] at ho
        rcases List.mem_append.1 ho with ho | ho
        · exact hi.comp o ho
        · rw [List.mem_singleton] at ho
          subst ho
          intro x hx y
          rw [memc] at hx ⊢
          constructor
          · exact fun hy => ⟨(toN x hx).trans (frN y hy), (toN y hy).trans (frN x hx)⟩
          · rintro ⟨h1, h2⟩
            rcases shutw x y h1 (.inl hx) with h3 | h3
            · exact h3
            · exact absurd (shuto y x h2 h3) (hi.apart x (subc x hx))
      · rw [hfin] at ho
        rcases List.mem_append.1 ho with ho | ho
        · exact hi.rise o ho
        · rw [List.mem_singleton] at ho
          subst ho
          refine ⟨fun e => ?_, isort_rising nodup⟩
          have := (memc n).2 (by simp)
          rw [e] at this; simp at this
      · rw [hfin]
        show (S.outs ++ [isort (n :: new)]).Pairwise _
        rw [List.pairwise_append]
        refine ⟨hi.once, by simp, fun o ho o' ho' x hx hx' => ?_⟩
        rw [List.mem_singleton] at ho'
        subst ho'
        exact hi.apart x (subc x ((memc x).1 hx')) ⟨o, ho, hx⟩
      · rw [hio] at hx ⊢
        rcases hx with hx | hx
        · exact .inl (hi.shut x hx y ha)
        · exact (shutc x hx y ha).symm
      · rw [hfin]; exact h.gray g hg
      · rw [hfin] at hx ⊢
        have hxn : x ≠ n := fun e => hns0 (e ▸ hx)
        exact hi.black x (sub0 x hx) (fun hg => (List.mem_append.1 hg).elim hxG (fun h1 => hxn (List.mem_singleton.1 h1))) y ha
      · rw [hfin] at hx hy hle
        exact hi.up x (sub0 x hx) y (sub0 y hy) hle
      · rw [hfin] at hy ⊢
        obtain ⟨g, hg, h1, h2⟩ := hi.down y (sub0 y hy)
        rcases List.mem_append.1 hg with hg | hg
        · exact ⟨g, hg, h1, h2⟩
        · rw [List.mem_singleton] at hg
          have h3 := old y hy
          rw [hg, m.ixn] at h1; omega
    · rw [hfin]
      refine ⟨⟨[], by simp, by simp⟩, m.idx, m.low, ?_, by have := m.cnt; show S0.cnt ≤ S.cnt; omega, .inl ⟨hns0, heq⟩, ?_⟩
      · show S.idx n ≠ 0
        rw [m.ixn]; have := h.cnt; omega
      · show S0.cnt < S.idx n
        rw [m.ixn]; omega
  · -- it goes on further down
    have hfin : S.fin n = S := by unfold TS.fin; rw [if_neg heq]
    have hlt : S.low n < S.idx n := by have := m.le; omega
    obtain ⟨z, hz, hz1, hz2⟩ := m.wit
    have hz0 : z ∈ S0.stk := by
      rw [hstk] at hz
      rcases List.mem_append.1 hz with hz | hz
      · exact hz
      · have := hge z hz; omega
    rw [hfin]
    refine ⟨⟨hi.seen, hi.rng, hi.cnt, hi.nod, hi.sorted, hi.apart, hi.comp, hi.rise, hi.once, hi.shut, fun g hg => hi.gray g (by simp [hg]), fun x hx hxG y ha => ?_, hi.up, fun y hy => ?_⟩, ⟨⟨n :: new, hstk, fun x hx y hy ha => ?_⟩, m.idx, m.low, ?_, by have := m.cnt; omega, .inr ⟨z, hz0, by rw [← (old z hz0).1]; exact hz1, hz2⟩, by rw [m.ixn]; omega⟩⟩
    · by_cases hxn : x = n
      · subst hxn; exact (arcn y ha).1
      · exact hi.black x hx (by simp [hxG, hxn]) y ha
    · obtain ⟨g, hg, h1, h2⟩ := hi.down y hy
      rcases List.mem_append.1 hg with hg | hg
      · exact ⟨g, hg, h1, h2⟩
      · rw [List.mem_singleton] at hg
        obtain ⟨g', hg', h3, h4⟩ := hi.down z hz
        rcases List.mem_append.1 hg' with hg' | hg'
        · refine ⟨g', hg', ?_, ?_⟩
          · rw [hg] at h1; omega
          · rw [hg] at h2; exact (h2.trans hz2).trans h4
        · rw [List.mem_singleton] at hg'
          rw [hg'] at h3; omega
    · rcases List.mem_cons.1 hx with rfl | hx
      · exact (arcn y ha).2 hy
      · exact hnew x hx y hy ha
    · rw [m.ixn]; have := h.cnt; omega
end Go.Proofs.Scc

/-
  Plain: every visit can be done, and does what it should.
-/
set_option linter.unusedVariables false
set_option linter.unusedSimpArgs false
namespace Go.Proofs.Scc
open Go Go.Abs Go.Proofs.Ytclnpjnodmfkcaa

def unv (A : Adj) (S : TS) : Nat := ((List.range A.length).filter fun k : Nat => S.idx k == 0).length
theorem unv_le {A : Adj} {S S' : TS} (h : ∀ x, S.idx x ≠ 0 → S'.idx x ≠ 0) : unv A S' ≤ unv A S := by
  unfold unv
  generalize List.range A.length = l
  induction l with
  | nil => simp
  | cons a l ih =>
    simp only [List.filter_cons]
    by_cases h1 : S'.idx a = 0
    · have h2 : S.idx a = 0 := Classical.byContradiction fun hne => h a hne h1
      simp [h1, h2]; exact ih
    · by_cases h2 : S.idx a = 0
      · simp [h1, h2]; omega
      · simp [h1, h2]; exact ih
theorem filter_lt {l : List Nat} {p q : Nat → Bool} (h : ∀ x, q x = true → p x = true) {a : Nat} (ha : a ∈ l) (hp : p a = true) (hq : q a = false) : (l.filter q).length < (l.filter p).length := by
  induction l with
  | nil => simp at ha
  | cons b l ih =>
    have hle : (l.filter q).length ≤ (l.filter p).length := by
      clear ih ha
      induction l with
      | nil => simp
      | cons c l ih =>
        simp only [List.filter_cons]
        by_cases h1 : q c = true
        · simp [h1, h c h1]; exact ih
        · by_cases h2 : p c = true
          · simp [h1, h2]; omega
          · simp [h1, h2]; exact ih
    simp only [List.filter_cons]
    by_cases hab : a = b
    · subst hab
      simp [hp, hq]; omega
    · have := ih ((List.mem_cons.1 ha).resolve_left hab)
      by_cases h1 : q b = true
      · simp [h1, h b h1]; exact this
      · by_cases h2 : p b = true
        · simp [h1, h2]; omega
        · simp [h1, h2]; exact this
theorem unv_push {A : Adj} {S : TS} {n : Int} (hn : Nod A n) (h0 : S.idx n = 0) (hc : 0 ≤ S.cnt) : unv A (S.push n) < unv A S := by
  have h1 := hn.1; have h2 := hn.2
  unfold unv
  refine filter_lt (a := n.toNat) (fun x hx => ?_) (List.mem_range.2 (by omega)) ?_ ?_
  · simp only [beq_iff_eq] at hx ⊢
    by_cases hxn : (x : Int) = n
    · rw [hxn]; exact h0
    · rw [← hx]; exact (fset_ne hxn).symm
  · rw [show ((n.toNat : Nat) : Int) = n by omega, h0]; rfl
  · rw [show ((n.toNat : Nat) : Int) = n by omega]
    have : (S.push n).idx n = S.cnt + 1 := fset_same
    rw [this]
    simp; omega
theorem Inv.nodup {A : Adj} {S : TS} {G : List Int} (h : Inv A S G) : S.stk.Nodup := h.sorted.imp fun {x y} hlt e => by rw [e] at hlt; omega
theorem outs_len {A : Adj} : ∀ {l : List (List Int)}, (∀ o ∈ l, o ≠ []) → l.Pairwise (fun o o' => ∀ x ∈ o, x ∉ o') → (∀ o ∈ l, ∀ x ∈ o, Nod A x) → l.length ≤ A.length := by
  intro l h1 h2 h3
  have hh : ∀ o ∈ l, o.headD 0 ∈ o := fun o ho => by
    cases o with
    | nil => exact absurd rfl (h1 _ ho)
    | cons a o => simp
  have hnd : (l.map fun o => o.headD 0).Nodup := by
    rw [List.Nodup, List.pairwise_map]
    refine h2.imp_of_mem fun {o o'} ho ho' hap e => ?_
    have := hap _ (hh o ho)
    rw [e] at this
    exact this (hh o' ho')
  have := nodes_le (n := A.length) hnd fun x hx => by
    obtain ⟨o, ho, rfl⟩ := List.mem_map.1 hx
    exact h3 o ho _ (hh o ho)
  simpa using this
theorem Inv.bnd {A : Adj} {S : TS} {G : List Int} (h : Inv A S G) (hA : A.length ≤ 1000000) (hc : S.cnt + unv A S ≤ A.length) : Bnd A S := by
  refine ⟨⟨h.cnt, by omega⟩, ?_, ?_, fun x hx => h.nod x (.inl hx), h.nodup⟩
  · have := nodes_le h.nodup fun x hx => h.nod x (.inl hx)
    omega
  · have := outs_len (fun o ho => (h.rise o ho).1) h.once fun o ho x hx => h.nod x (.inr ⟨o, ho, hx⟩)
    omega

theorem visit_ex {A : Adj} (hA : A.length ≤ 1000000) : ∀ (k : Nat) (S : TS) (G : List Int) (n : Int), unv A S ≤ k → Inv A S G → S.cnt + unv A S ≤ A.length → Nod A n → S.idx n = 0 → (∀ x ∈ S.stk, Way A x n) →
    ∃ S', Run A S n none S' ∧ Inv A S' G ∧ Post A S n S' ∧ S'.cnt + unv A S' ≤ A.length := by
  intro k
  induction k with
  | zero =>
    intro S G n hk hi _ hn h0 _
    have := unv_push hn h0 hi.cnt
    omega
  | succ k ih =>
    intro S0 G n hk hi hc hn h0 hw
    obtain ⟨row, hrow⟩ := get_int (l := A) (i := n) hn
    have hp := unv_push hn h0 hi.cnt
    have loop : ∀ (ys : List Int) (done : Int → Prop) (S : TS), Mid A S0 G n done S → (∀ y ∈ ys, y ∈ row.l) → S.cnt + unv A S ≤ A.length → unv A S ≤ k →
        ∃ S' done', Run A S n (some ys) S' ∧ Mid A S0 G n done' S' ∧ S'.cnt + unv A S' ≤ A.length ∧ (∀ y, done y → done' y) ∧ ∀ y ∈ ys, Nod A y → done' y := by
      intro ys
      induction ys with
      | nil => exact fun done S m _ h1 _ => ⟨S, done, .nil, m, h1, fun _ h => h, by simp⟩
      | cons y ys ihy =>
        intro done S m hmem h1 h2
        have hyr := hmem y (by simp)
        have hys : ∀ z ∈ ys, z ∈ row.l := fun z hz => hmem z (by simp [hz])
        by_cases hny : Nod A y
        · have ha : Arc A n y := ⟨hn.1, ⟨row, hrow, hyr⟩, hny⟩
          by_cases hy0 : S.idx y = 0
          · obtain ⟨S1, r1, i1, p1, c1⟩ := ih S (G ++ [n]) y h2 m.inv h1 hny hy0 (fun x hx => (m.inv.to_last (m.last hi) x hx).trans ha.way)
            have m1 := Mid.visited hi m h0 hy0 hny ha i1 p1
            have hle : unv A S1 ≤ unv A S := unv_le fun x hx => by rw [p1.idx x hx]; exact hx
            obtain ⟨S', d', r2, m2, c2, e1, e2⟩ := ihy _ _ m1 hys c1 (by show unv A S1 ≤ k; omega)
            refine ⟨S', d', .new hny hy0 r1 r2, m2, c2, fun z hz => e1 z (.inl hz), fun z hz hnz => ?_⟩
            rcases List.mem_cons.1 hz with rfl | hz
            · exact e1 _ (.inr rfl)
            · exact e2 z hz hnz
          · by_cases hon : y ∈ S.stk
            · have m1 := m.lower h0 (v := S.idx y) (.inr ⟨y, hon, rfl, ha.way⟩)
              have hl : (S.lower n (S.idx y)).low n = if S.idx y < S.low n then S.idx y else S.low n := fset_same
              have m2 := m1.more (done' := fun z => done z ∨ z = y) fun z hz hnz => by
                rcases hz with hz | rfl
                · exact .inl hz
                · refine .inr ⟨hy0, fun hs => ?_⟩
                  rw [hl, ← (m.idx_old hi hs).1]
                  split <;> omega
              obtain ⟨S', d', r2, m3, c2, e1, e2⟩ := ihy _ _ m2 hys h1 h2
              refine ⟨S', d', .on hny hy0 hon r2, m3, c2, fun z hz => e1 z (.inl hz), fun z hz hnz => ?_⟩
              rcases List.mem_cons.1 hz with rfl | hz
              · exact e1 _ (.inr rfl)
              · exact e2 z hz hnz
            · have m2 := m.more (done' := fun z => done z ∨ z = y) fun z hz hnz => by
                rcases hz with hz | rfl
                · exact .inl hz
                · refine .inr ⟨hy0, fun hs => ?_⟩
                  obtain ⟨new, h3, _⟩ := m.stk
                  exact absurd (by rw [h3]; exact List.mem_append_left _ hs) hon
              obtain ⟨S', d', r2, m3, c2, e1, e2⟩ := ihy _ _ m2 hys h1 h2
              refine ⟨S', d', .off hny hy0 hon r2, m3, c2, fun z hz => e1 z (.inl hz), fun z hz hnz => ?_⟩
              rcases List.mem_cons.1 hz with rfl | hz
              · exact e1 _ (.inr rfl)
              · exact e2 z hz hnz
        · obtain ⟨S', d', r2, m3, c2, e1, e2⟩ := ihy done S m hys h1 h2
          refine ⟨S', d', .skip hny r2, m3, c2, e1, fun z hz hnz => ?_⟩
          rcases List.mem_cons.1 hz with rfl | hz
          · exact absurd hnz hny
          · exact e2 z hz hnz
    have m0 := Mid.begin hi hn h0 hw
    obtain ⟨S1, d1, r1, m1, c1, _, e2⟩ := loop row.l _ _ m0 (fun _ h => h) (by show S0.cnt + 1 + (unv A (S0.push n) : Int) ≤ A.length; omega) (by omega)
    obtain ⟨i2, p2⟩ := m1.fin hi hn h0 fun y ha => by
      obtain ⟨_, ⟨row', hr', hy⟩, hny⟩ := ha
      rw [hrow] at hr'; cases hr'
      exact e2 y hy hny
    have hfi : (S1.fin n).cnt = S1.cnt ∧ unv A (S1.fin n) = unv A S1 := by
      unfold TS.fin
      split
      · exact ⟨rfl, rfl⟩
      · exact ⟨rfl, rfl⟩
    exact ⟨S1.fin n, .visit hn hrow (hi.bnd hA hc) r1 (m1.inv.bnd hA c1) (m1.inv.gray n (by simp)), i2, p2, by rw [hfi.1, hfi.2]; exact c1⟩
end Go.Proofs.Scc
