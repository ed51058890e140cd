/-
  Part of the proof: printed by the session's own program out of the program's form, or typed; it states no claim by itself.
-/
import Derived.Test.YtclnpjnodmfkcaaAbs30
/-
  Graphs, as plain lists: who is reached.
-/
set_option linter.unusedVariables false
namespace Go.Proofs.Scc
open Go Go.Abs

abbrev Adj := List (Sl Int)
def Nod (A : Adj) (x : Int) : Prop := 0 ≤ x ∧ x < (A.length : Int)
def Arc (A : Adj) (x y : Int) : Prop := 0 ≤ x ∧ (∃ row, A[x.toNat]? = some row ∧ y ∈ row.l) ∧ Nod A y
inductive Way (A : Adj) : Int → Int → Prop
  | refl {x : Int} : Nod A x → Way A x x
  | step {x y z : Int} : Way A x y → Arc A y z → Way A x z
def Reached (A : Adj) (fr : List Int) (x : Int) : Prop := ∃ s, s ∈ fr ∧ Way A s x

theorem Arc.src {A : Adj} {x y : Int} (h : Arc A x y) : Nod A x := by
  obtain ⟨h0, ⟨row, h1, _⟩, _⟩ := h
  have := (List.getElem?_eq_some_iff.1 h1).1
  exact ⟨h0, by omega⟩
theorem Way.src {A : Adj} {x y : Int} (h : Way A x y) : Nod A x := by
  induction h with
  | refl h => exact h
  | step _ _ ih => exact ih
theorem Way.dst {A : Adj} {x y : Int} (h : Way A x y) : Nod A y := by
  cases h with
  | refl h => exact h
  | step _ h => exact h.2.2
theorem Way.trans {A : Adj} {x y z : Int} (h : Way A x y) (h' : Way A y z) : Way A x z := by
  induction h' with
  | refl _ => exact h
  | step _ ha ih => exact .step ih ha

theorem length_le_of_subset {α : Type} [DecidableEq α] : ∀ {l l' : List α}, l.Nodup → (∀ x ∈ l, x ∈ l') → l.length ≤ l'.length
  | [], _, _, _ => by simp
  | a :: l, l', hn, hs => by
    rw [List.nodup_cons] at hn
    have ha : a ∈ l' := hs a (by simp)
    have := length_le_of_subset (l := l) (l' := l'.erase a) hn.2 fun x hx => by
      have hne : x ≠ a := fun h => hn.1 (h ▸ hx)
      exact (List.mem_erase_of_ne hne).2 (hs x (by simp [hx]))
    rw [List.length_erase_of_mem ha] at this
    have hpos : 0 < l'.length := List.length_pos_of_mem ha
    simp only [List.length_cons]; omega
theorem nodes_le {l : List Int} {n : Nat} (hn : l.Nodup) (h : ∀ x ∈ l, 0 ≤ x ∧ x < (n : Int)) : l.length ≤ n := by
  have := length_le_of_subset (l' := (List.range n).map fun k : Nat => (k : Int)) hn fun x hx => by
    obtain ⟨h1, h2⟩ := h x hx
    exact List.mem_map.2 ⟨x.toNat, List.mem_range.2 (by omega), by omega⟩
  simpa using this

/-- Who was noted: as marks, as a list. -/
structure Noted (A : Adj) (S : Int → Prop) (seen : List Bool) (list : List Int) : Prop where
  len : seen.length = A.length
  mem : ∀ x, x ∈ list ↔ (0 ≤ x ∧ seen[x.toNat]? = some true)
  nodup : list.Nodup
  ok : ∀ x ∈ list, S x
theorem Noted.node {A : Adj} {S : Int → Prop} {seen : List Bool} {list : List Int} (h : Noted A S seen list) {x : Int} (hx : x ∈ list) : Nod A x := by
  obtain ⟨h1, h2⟩ := (h.mem x).1 hx
  have := (List.getElem?_eq_some_iff.1 h2).1
  rw [h.len] at this
  exact ⟨h1, by omega⟩
theorem Noted.le {A : Adj} {S : Int → Prop} {seen : List Bool} {list : List Int} (h : Noted A S seen list) : list.length ≤ A.length := nodes_le h.nodup fun x hx => h.node hx
theorem Noted.start (A : Adj) (S : Int → Prop) : Noted A S (List.replicate A.length false) [] :=
  ⟨by simp, fun x => by simp [List.getElem?_replicate], by simp, by simp⟩
theorem Noted.fresh {A : Adj} {S : Int → Prop} {seen : List Bool} {list : List Int} (h : Noted A S seen list) {x : Int} (hx : seen[x.toNat]? = some false) : x ∉ list := fun hm => by
  obtain ⟨_, h2⟩ := (h.mem x).1 hm
  rw [hx] at h2; cases h2
theorem Noted.add {A : Adj} {S : Int → Prop} {seen : List Bool} {list : List Int} (h : Noted A S seen list) {x : Int} (h0 : 0 ≤ x) (hx : seen[x.toNat]? = some false) (hS : S x) : Noted A S (seen.set x.toNat true) (list ++ [x]) := by
  have hlt := (List.getElem?_eq_some_iff.1 hx).1
  refine ⟨by simp [h.len], fun y => ?_, ?_, ?_⟩
  · rw [List.mem_append, List.mem_singleton, List.getElem?_set]
    by_cases hyx : y = x
    · subst hyx; simp [h0, hlt]
    · rw [h.mem y]
      by_cases h0y : 0 ≤ y
      · rw [if_neg (by omega)]; simp [hyx]
      · simp [h0y, hyx]
  · rw [List.nodup_append]
    refine ⟨h.nodup, by simp, fun a ha b hb => ?_⟩
    rw [List.mem_singleton] at hb
    subst hb
    exact fun hab => h.fresh hx (hab ▸ ha)
  · intro y hy
    rw [List.mem_append, List.mem_singleton] at hy
    rcases hy with hy | rfl
    · exact h.ok y hy
    · exact hS
theorem Noted.perm {A : Adj} {S : Int → Prop} {seen : List Bool} {list list' : List Int} (h : Noted A S seen list) (hp : list'.Perm list) : Noted A S seen list' :=
  ⟨h.len, fun x => by rw [hp.mem_iff]; exact h.mem x, hp.nodup_iff.2 h.nodup, fun x hx => h.ok x (hp.mem_iff.1 hx)⟩
/-- If all arcs of the noted ones lead to noted ones, who is reached from a noted one is noted. -/
theorem closed_way {A : Adj} {list : List Int} (hc : ∀ x ∈ list, ∀ y, Arc A x y → y ∈ list) {x y : Int} (hx : x ∈ list) (hw : Way A x y) : y ∈ list := by
  induction hw with
  | refl _ => exact hx
  | step _ ha ih => exact hc _ (ih) _ ha
theorem get_nat {α : Type} {l : List α} {i : Nat} (h : (i : Int) < (l.length : Int)) : ∃ r, l[(i : Int).toNat]? = some r := ⟨l[i]'(by omega), by simp⟩
theorem get_int {α : Type} {l : List α} {i : Int} (h : 0 ≤ i ∧ i < (l.length : Int)) : ∃ r, l[i.toNat]? = some r := ⟨l[i.toNat]'(by omega), by simp⟩
end Go.Proofs.Scc

/-
  Plain: how far a node is from a goal.
-/
set_option linter.unusedVariables false
set_option linter.unusedSimpArgs false
namespace Go.Proofs.Scc
open Go Go.Abs

/-- Ways of so many arcs to a goal. -/
inductive WayN (A : Adj) (to : Int) : Nat → Int → Prop
  | zero : Nod A to → WayN A to 0 to
  | step {x y : Int} {n : Nat} : Arc A x y → WayN A to n y → WayN A to (n + 1) x
def Dist (A : Adj) (to : Int) (k : Nat) (x : Int) : Prop := WayN A to k x ∧ ∀ m, m < k → ¬ WayN A to m x
theorem WayN.nod {A : Adj} {to : Int} {n : Nat} {x : Int} (h : WayN A to n x) : Nod A x := by
  cases h with
  | zero h => exact h
  | step h _ => exact h.src
theorem Dist.nod {A : Adj} {to : Int} {n : Nat} {x : Int} (h : Dist A to n x) : Nod A x := h.1.nod
theorem Dist.uniq {A : Adj} {to : Int} {j k : Nat} {x : Int} (h : Dist A to j x) (h' : Dist A to k x) : j = k := by
  rcases Nat.lt_trichotomy j k with hl | hl | hl
  · exact absurd h.1 (h'.2 j hl)
  · exact hl
  · exact absurd h'.1 (h.2 k hl)
theorem WayN.dist {A : Adj} {to : Int} {x : Int} : ∀ {n : Nat}, WayN A to n x → ∃ k, k ≤ n ∧ Dist A to k x := by
  intro n
  induction n using Nat.strongRecOn with
  | ind n ih =>
    intro h
    by_cases hm : ∃ m, m < n ∧ WayN A to m x
    · obtain ⟨m, hlt, hw⟩ := hm
      obtain ⟨k, hk, hd⟩ := ih m hlt hw
      exact ⟨k, by omega, hd⟩
    · exact ⟨n, Nat.le_refl _, h, fun m hlt hw => hm ⟨m, hlt, hw⟩⟩
theorem Dist.zero {A : Adj} {to : Int} (h : Nod A to) : Dist A to 0 to := ⟨.zero h, fun m hm => absurd hm (by omega)⟩
theorem Dist.eq_to {A : Adj} {to : Int} {x : Int} (h : Dist A to 0 x) : x = to := by
  cases h.1; rfl
theorem Dist.pred {A : Adj} {to : Int} {n : Nat} {x : Int} (h : Dist A to (n + 1) x) : ∃ y, Arc A x y ∧ Dist A to n y := by
  obtain ⟨hw, hmin⟩ := h
  cases hw with
  | step ha hw' => exact ⟨_, ha, hw', fun m hm hwm => hmin (m + 1) (by omega) (.step ha hwm)⟩
/-- One who is k away: there are k + 1 nodes. -/
theorem Dist.lt {A : Adj} {to : Int} : ∀ {k : Nat} {x : Int}, Dist A to k x → k < A.length := by
  have key : ∀ (k : Nat) (x : Int), Dist A to k x → ∃ l : List Int, l.length = k + 1 ∧ l.Nodup ∧ (∀ y ∈ l, Nod A y) ∧ ∀ y ∈ l, ∃ j, j ≤ k ∧ Dist A to j y := by
    intro k
    induction k with
    | zero => intro x h; exact ⟨[x], rfl, by simp, by simp [h.nod], by simp [h]⟩
    | succ k ih =>
      intro x h
      obtain ⟨y, ha, hy⟩ := h.pred
      obtain ⟨l, h1, h2, h3, h4⟩ := ih y hy
      refine ⟨x :: l, by simp [h1], List.nodup_cons.2 ⟨fun hx => ?_, h2⟩, ?_, ?_⟩
      · obtain ⟨j, hj, hd⟩ := h4 x hx
        have := hd.uniq h; omega
      · intro z hz
        rcases List.mem_cons.1 hz with rfl | hz
        · exact h.nod
        · exact h3 z hz
      · intro z hz
        rcases List.mem_cons.1 hz with rfl | hz
        · exact ⟨k + 1, Nat.le_refl _, h⟩
        · obtain ⟨j, hj, hd⟩ := h4 z hz; exact ⟨j, by omega, hd⟩
  intro k x h
  obtain ⟨l, h1, h2, h3, _⟩ := key k x h
  have := nodes_le h2 h3
  omega

/-- A list of how far each node is. -/
structure IsDist (A : Adj) (to : Int) (d : List Int) : Prop where
  len : d.length = A.length
  val : ∀ x, Nod A x → ∀ v, d[x.toNat]? = some v → (v = -1 ∧ ∀ n, ¬ WayN A to n x) ∨ ∃ k : Nat, v = k ∧ Dist A to k x
theorem IsDist.ext {A : Adj} {to : Int} {d d' : List Int} (h : IsDist A to d) (h' : IsDist A to d') : d = d' := by
  refine List.ext_getElem? fun i => ?_
  by_cases hi : i < A.length
  · have hx : Nod A (i : Int) := ⟨by omega, by omega⟩
    have h1 : i < d.length := by rw [h.len]; exact hi
    have h2 : i < d'.length := by rw [h'.len]; exact hi
    rw [List.getElem?_eq_getElem h1, List.getElem?_eq_getElem h2]
    have a := h.val i hx d[i] (by simp)
    have b := h'.val i hx d'[i] (by simp)
    rcases a with ⟨a1, a2⟩ | ⟨j, a1, a2⟩ <;> rcases b with ⟨b1, b2⟩ | ⟨k, b1, b2⟩
    · rw [a1, b1]
    · exact absurd b2.1 (a2 k)
    · exact absurd a2.1 (b2 j)
    · rw [a1, b1, a2.uniq b2]
  · rw [List.getElem?_eq_none (by rw [h.len]; omega), List.getElem?_eq_none (by rw [h'.len]; omega)]

/-! ### level by level -/
def Lev (A : Adj) (to : Int) (n : Nat) (x v : Int) : Prop := (v = -1 ∧ ∀ m, m ≤ n → ¬ WayN A to m x) ∨ ∃ k : Nat, k ≤ n ∧ v = k ∧ Dist A to k x
theorem Lev.start {A : Adj} {to x v : Int} (ht : Nod A to) (hx : Nod A x) (h : ((List.replicate A.length (-1 : Int)).set to.toNat 0)[x.toNat]? = some v) : Lev A to 0 x v := by
  have h1 := hx.1; have h2 := hx.2; have h3 := ht.1; have h4 := ht.2
  rw [List.getElem?_set] at h
  by_cases hxt : to = x
  · subst hxt
    rw [if_pos rfl, if_pos (by simp; omega)] at h
    cases h
    exact .inr ⟨0, Nat.le_refl _, rfl, .zero ht⟩
  · rw [if_neg (by omega), List.getElem?_replicate, if_pos (by omega)] at h
    cases h
    refine .inl ⟨rfl, fun m hm hw => ?_⟩
    obtain rfl : m = 0 := by omega
    cases hw; exact hxt rfl
/-- The next level: one who was not found yet. -/
theorem Lev.next {A : Adj} {to : Int} {n : Nat} {x v : Int} (hx : Nod A x) (h : Lev A to n x (-1)) (hv : v = -1 ∨ v = (n : Int) + 1) (hs : v = (n : Int) + 1 ↔ ∃ y, Arc A x y ∧ Dist A to n y) : Lev A to (n + 1) x v := by
  rcases h with ⟨_, h⟩ | ⟨k, _, hk, _⟩
  · by_cases hv1 : v = (n : Int) + 1
    · obtain ⟨y, ha, hd⟩ := hs.1 hv1
      exact .inr ⟨n + 1, Nat.le_refl _, by omega, .step ha hd.1, fun m hm => h m (by omega)⟩
    · refine .inl ⟨hv.resolve_right hv1, fun m hm hw => ?_⟩
      by_cases hmn : m ≤ n
      · exact h m hmn hw
      · obtain rfl : m = n + 1 := by omega
        have hd : Dist A to (n + 1) x := ⟨hw, fun j hj => h j (by omega)⟩
        exact hv1 (hs.2 hd.pred)
  · omega
theorem Lev.keep {A : Adj} {to : Int} {n : Nat} {x v : Int} (h : Lev A to n x v) (hv : v ≠ -1) : Lev A to (n + 1) x v := by
  rcases h with ⟨h, _⟩ | ⟨k, hk, h1, h2⟩
  · exact absurd h hv
  · exact .inr ⟨k, by omega, h1, h2⟩
theorem Lev.eqn {A : Adj} {to : Int} {N n : Nat} {x : Int} (h : Lev A to N x n) : Dist A to n x := by
  rcases h with ⟨h, _⟩ | ⟨k, hk, h1, h2⟩
  · omega
  · obtain rfl : k = n := by omega
    exact h2
theorem Lev.eq {A : Adj} {to : Int} {n : Nat} {x : Int} (h : Lev A to n x n) : Dist A to n x := by
  rcases h with ⟨h, _⟩ | ⟨k, hk, h1, h2⟩
  · omega
  · obtain rfl : k = n := by omega
    exact h2
theorem Lev.eq' {A : Adj} {to : Int} {n : Nat} {x v : Int} (h : Lev A to n x v ∨ Lev A to (n + 1) x v) (hd : Dist A to n x) : v = n := by
  rcases h with h | h
  · rcases h with ⟨_, h⟩ | ⟨k, hk, h1, h2⟩
    · exact absurd hd.1 (h n (Nat.le_refl _))
    · rw [h1, h2.uniq hd]
  · rcases h with ⟨_, h⟩ | ⟨k, hk, h1, h2⟩
    · exact absurd hd.1 (h n (by omega))
    · rw [h1, h2.uniq hd]
theorem Lev.done {A : Adj} {to : Int} {d : List Int} (hl : d.length = A.length) (h : ∀ x, Nod A x → ∀ v, d[x.toNat]? = some v → Lev A to A.length x v) : IsDist A to d :=
  ⟨hl, fun x hx v hv => by
    rcases h x hx v hv with ⟨h1, h2⟩ | ⟨k, _, h1, h2⟩
    · refine .inl ⟨h1, fun n hw => ?_⟩
      obtain ⟨k, hk, hd⟩ := hw.dist
      exact h2 k (Nat.le_of_lt hd.lt) hd.1
    · exact .inr ⟨k, h1, h2⟩⟩

/-! ### in rising order of how far -/
structure Bfs (A : Adj) (to : Int) (d P todo : List Int) : Prop where
  len : d.length = A.length
  mem : ∀ x, Nod A x → ∀ v, d[x.toNat]? = some v → (v = -1 ∧ x ∉ P ++ todo) ∨ (x ∈ P ++ todo ∧ ∃ k : Nat, v = k ∧ Dist A to k x)
  nod : ∀ x ∈ P ++ todo, Nod A x
  nodup : (P ++ todo).Nodup
  back : ∀ x ∈ P, ∀ y, Arc A y x → y ∈ P ++ todo
  start : to ∈ P ++ todo
  sorted : todo.Pairwise fun x y => ∀ j k, Dist A to j x → Dist A to k y → j ≤ k
  near : ∀ h, todo.head? = some h → ∀ x ∈ todo, ∀ j k, Dist A to j h → Dist A to k x → k ≤ j + 1
theorem Bfs.begin {A : Adj} {to : Int} (ht : Nod A to) : Bfs A to ((List.replicate A.length (-1 : Int)).set to.toNat 0) [] [to] := by
  refine ⟨by simp, fun x hx v hv => ?_, by simp [ht], by simp, by simp, by simp, by simp, ?_⟩
  · rcases Lev.start ht hx hv with ⟨h1, h2⟩ | ⟨k, hk, h1, h2⟩
    · refine .inl ⟨h1, fun hm => ?_⟩
      obtain rfl : x = to := by simpa using hm
      exact h2 0 (Nat.le_refl _) (.zero ht)
    · obtain rfl : k = 0 := by omega
      exact .inr ⟨by simp [h2.eq_to], 0, h1, h2⟩
  · intro h hh x hx j k hj hk
    simp only [List.head?_cons, Option.some.injEq] at hh
    obtain rfl : x = to := by simpa using hx
    subst hh
    have := hj.uniq hk; omega
/-- All who are as near as the first are found. -/
theorem Bfs.found {A : Adj} {to : Int} {d P todo : List Int} (b : Bfs A to d P todo) (D : Nat) (hD : ∀ x ∈ todo, ∀ k, Dist A to k x → D ≤ k) : ∀ (k : Nat), k ≤ D → ∀ x, Dist A to k x → x ∈ P ++ todo
  | 0, _, x, h => by rw [h.eq_to]; exact b.start
  | k + 1, hk, x, h => by
    obtain ⟨y, ha, hy⟩ := h.pred
    have hf := b.found D hD k (by omega) y hy
    have hP : y ∈ P := by
      rcases List.mem_append.1 hf with hf | hf
      · exact hf
      · have := hD y hf k hy; omega
    exact b.back y hP x ha
theorem Bfs.add {A : Adj} {to : Int} {d P rest : List Int} {h y v : Int} {D : Nat} (b : Bfs A to d P (h :: rest)) (hD : Dist A to D h) (ha : Arc A y h) (hv : d[y.toNat]? = some v) (hneg : v < 0) : Bfs A to (d.set y.toNat ((D : Int) + 1)) P (h :: rest ++ [y]) := by
  have hy := ha.src
  have hny : y ∉ P ++ h :: rest := by
    rcases b.mem y hy v hv with ⟨_, h1⟩ | ⟨_, k, h1, _⟩
    · exact h1
    · omega
  have hmin : ∀ x ∈ h :: rest, ∀ k, Dist A to k x → D ≤ k := fun x hx k hk => by
    rcases List.mem_cons.1 hx with rfl | hx
    · have := hk.uniq hD; omega
    · exact (List.pairwise_cons.1 b.sorted).1 x hx D k hD hk
  have hdy : Dist A to (D + 1) y := ⟨.step ha hD.1, fun m hm hw => by
    obtain ⟨k, hk, hd⟩ := hw.dist
    exact hny (b.found D hmin k (by omega) y hd)⟩
  have hlt : y.toNat < d.length := (List.getElem?_eq_some_iff.1 hv).1
  have happ : P ++ (h :: rest ++ [y]) = (P ++ h :: rest) ++ [y] := by simp
  refine ⟨by simp [b.len], fun x hx w hw => ?_, ?_, ?_, ?_, ?_, ?_, ?_⟩
  · rw [happ, List.mem_append, List.mem_singleton]
    rw [List.getElem?_set] at hw
    have h1 := hx.1; have h2 := hy.1
    by_cases hxy : x = y
    · subst hxy
      rw [if_pos rfl, if_pos hlt] at hw
      cases hw
      exact .inr ⟨.inr rfl, D + 1, by omega, hdy⟩
    · rw [if_neg (by omega)] at hw
      rcases b.mem x hx w hw with ⟨e1, e2⟩ | ⟨e1, e2⟩
      · exact .inl ⟨e1, by simp only [hxy, or_false]; exact e2⟩
      · exact .inr ⟨.inl e1, e2⟩
  · intro x hx
    rw [happ, List.mem_append, List.mem_singleton] at hx
    rcases hx with hx | rfl
    · exact b.nod x hx
    · exact hy
  · rw [happ, List.nodup_append]
    refine ⟨b.nodup, by simp, fun a ham c hc => ?_⟩
    rw [List.mem_singleton] at hc
    subst hc
    exact fun e => hny (e ▸ ham)
  · intro x hx z hz
    rw [happ]
    exact List.mem_append_left _ (b.back x hx z hz)
  · rw [happ]; exact List.mem_append_left _ b.start
  · rw [List.pairwise_append]
    refine ⟨b.sorted, by simp, fun x hx z hz j k hj hk => ?_⟩
    rw [List.mem_singleton] at hz
    subst hz
    have h1 := hk.uniq hdy
    have h2 := b.near h rfl x hx D j hD hj
    omega
  · intro g hg x hx j k hj hk
    simp only [List.cons_append, List.head?_cons, Option.some.injEq] at hg
    subst hg
    rcases List.mem_append.1 hx with hx | hx
    · exact b.near h rfl x hx j k hj hk
    · rw [List.mem_singleton] at hx
      subst hx
      have h1 := hk.uniq hdy
      have h2 := hj.uniq hD
      omega
theorem Bfs.pop {A : Adj} {to : Int} {d P rest : List Int} {h : Int} (b : Bfs A to d P (h :: rest)) (ha : ∀ y, Arc A y h → y ∈ P ++ h :: rest) : Bfs A to d (P ++ [h]) rest := by
  have happ : (P ++ [h]) ++ rest = P ++ h :: rest := by simp
  refine ⟨b.len, by rw [happ]; exact b.mem, by rw [happ]; exact b.nod, by rw [happ]; exact b.nodup, ?_, by rw [happ]; exact b.start, (List.pairwise_cons.1 b.sorted).2, ?_⟩
  · intro x hx y hy
    rw [happ]
    rcases List.mem_append.1 hx with hx | hx
    · exact b.back x hx y hy
    · rw [List.mem_singleton] at hx
      subst hx; exact ha y hy
  · intro g hg x hx j k hj hk
    have hgm : g ∈ rest := by
      cases rest with
      | nil => simp at hg
      | cons a r => simp only [List.head?_cons, Option.some.injEq] at hg; subst hg; simp
    have hn := b.nod h (by simp)
    obtain ⟨v, hv⟩ := get_int (l := d) (i := h) (by rw [b.len]; exact hn)
    rcases b.mem h hn v hv with ⟨_, h1⟩ | ⟨_, D, _, hD⟩
    · exact absurd (by simp) h1
    · have h1 := b.near h rfl x (by simp [hx]) D k hD hk
      have h2 := (List.pairwise_cons.1 b.sorted).1 g hgm D j hD hj
      omega
theorem Bfs.done {A : Adj} {to : Int} {d P : List Int} (b : Bfs A to d P []) : IsDist A to d :=
  ⟨b.len, fun x hx v hv => by
    rcases b.mem x hx v hv with ⟨h1, h2⟩ | ⟨_, h1⟩
    · refine .inl ⟨h1, fun n hw => ?_⟩
      obtain ⟨k, hk, hd⟩ := hw.dist
      exact h2 (b.found k (by simp) k (Nat.le_refl _) x hd)
    · exact .inr h1⟩

/-! ### the nearest way -/
theorem reverseRec' {α : Type} {m : List α → Prop} (nil : m []) (snoc : ∀ l a, m l → m (l ++ [a])) : ∀ l, m l := by
  intro l
  rw [← List.reverse_reverse l]
  induction l.reverse with
  | nil => exact nil
  | cons a l ih => rw [List.reverse_cons]; exact snoc _ _ ih
def stepP (p : Int → Bool) (b y : Int) : Int := if p y = true ∧ (b < 0 ∨ y < b) then y else b
theorem pick_ok {p : Int → Bool} (hp : ∀ y, p y = true → 0 ≤ y) : ∀ (l : List Int), (l.foldl (stepP p) (-1) = -1 ∧ ∀ y ∈ l, ¬ p y = true) ∨ (l.foldl (stepP p) (-1) ∈ l ∧ p (l.foldl (stepP p) (-1)) = true) := by
  intro l
  induction l using reverseRec' with
  | nil => exact .inl ⟨rfl, by simp⟩
  | snoc l a ih =>
    rw [List.foldl_append]
    simp only [List.foldl_cons, List.foldl_nil]
    generalize hb : l.foldl (stepP p) (-1) = b at ih
    unfold stepP
    by_cases hpa : p a = true
    · by_cases hc : b < 0 ∨ a < b
      · rw [if_pos ⟨hpa, hc⟩]; exact .inr ⟨by simp, hpa⟩
      · rw [if_neg (fun h => hc h.2)]
        rcases ih with ⟨h1, _⟩ | ⟨h1, h2⟩
        · omega
        · exact .inr ⟨by simp [h1], h2⟩
    · rw [if_neg (fun h => hpa h.1)]
      rcases ih with ⟨h1, h2⟩ | ⟨h1, h2⟩
      · refine .inl ⟨h1, fun y hy => ?_⟩
        rcases List.mem_append.1 hy with hy | hy
        · exact h2 y hy
        · rw [List.mem_singleton] at hy; subst hy; exact hpa
      · exact .inr ⟨by simp [h1], h2⟩
def nearP (d : List Int) (v : Int) (y : Int) : Bool := decide (0 ≤ y ∧ d[y.toNat]? = some (v - 1))
def nxt (A : Adj) (d : List Int) (a v : Int) : Int := match A[a.toNat]? with
  | some row => row.l.foldl (stepP (nearP d v)) (-1)
  | none => -1
def pathL (A : Adj) (d : List Int) : Nat → Int → List Int
  | 0, _ => []
  | n + 1, a => nxt A d a (n + 1 : Nat) :: pathL A d n (nxt A d a (n + 1 : Nat))
theorem pathL_length (A : Adj) (d : List Int) : ∀ (n : Nat) (a : Int), (pathL A d n a).length = n
  | 0, _ => rfl
  | n + 1, a => by simp [pathL, pathL_length A d n]
theorem IsDist.get {A : Adj} {to : Int} {d : List Int} (h : IsDist A to d) {k : Nat} {x : Int} (hd : Dist A to k x) : d[x.toNat]? = some (k : Int) := by
  obtain ⟨v, hv⟩ := get_int (l := d) (i := x) (by rw [h.len]; exact hd.nod)
  rcases h.val x hd.nod v hv with ⟨_, h2⟩ | ⟨j, h1, h2⟩
  · exact absurd hd.1 (h2 k)
  · rw [hv, h1, h2.uniq hd]
theorem IsDist.of_get {A : Adj} {to : Int} {d : List Int} (h : IsDist A to d) {k : Nat} {x : Int} (h0 : 0 ≤ x) (hv : d[x.toNat]? = some (k : Int)) : Dist A to k x := by
  have hlt := (List.getElem?_eq_some_iff.1 hv).1
  have hx : Nod A x := ⟨h0, by rw [h.len] at hlt; omega⟩
  rcases h.val x hx _ hv with ⟨h1, _⟩ | ⟨j, h1, h2⟩
  · omega
  · obtain rfl : k = j := by omega
    exact h2
theorem nxt_ok {A : Adj} {to : Int} {d : List Int} (h : IsDist A to d) {n : Nat} {a : Int} (hd : Dist A to (n + 1) a) : Dist A to n (nxt A d a (n + 1 : Nat)) := by
  obtain ⟨y, ha, hy⟩ := hd.pred
  obtain ⟨h0, ⟨row, hrow, hym⟩, hyn⟩ := ha
  have hn : ((n + 1 : Nat) : Int) - 1 = (n : Int) := by omega
  have hpy : nearP d (n + 1 : Nat) y = true := by
    simp only [nearP, decide_eq_true_eq, hn]
    exact ⟨hyn.1, h.get hy⟩
  simp only [nxt, hrow]
  rcases pick_ok (p := nearP d (n + 1 : Nat)) (fun y hy => by simp only [nearP, decide_eq_true_eq] at hy; exact hy.1) row.l with ⟨_, h2⟩ | ⟨_, h2⟩
  · exact absurd hpy (h2 y hym)
  · simp only [nearP, decide_eq_true_eq, hn] at h2
    exact h.of_get h2.1 h2.2
/-- What Path answers. -/
def PathIs (A : Adj) (fr to : Int) (r : List Int) (b : Bool) : Prop :=
  (b = false ∧ r = [] ∧ ¬ (Nod A fr ∧ Nod A to ∧ ∃ n, Dist A to n fr)) ∨ (b = true ∧ ∃ n d, IsDist A to d ∧ Nod A fr ∧ Nod A to ∧ Dist A to n fr ∧ r = fr :: pathL A d n fr)
theorem PathIs.ext {A : Adj} {fr to : Int} {r r' : List Int} {b b' : Bool} (h : PathIs A fr to r b) (h' : PathIs A fr to r' b') : r = r' ∧ b = b' := by
  rcases h with ⟨rfl, rfl, h⟩ | ⟨rfl, n, d, h1, h2, h3, h4, rfl⟩ <;> rcases h' with ⟨rfl, rfl, h'⟩ | ⟨rfl, n', d', h1', h2', h3', h4', rfl⟩
  · exact ⟨rfl, rfl⟩
  · exact absurd ⟨h2', h3', n', h4'⟩ h
  · exact absurd ⟨h2, h3, n, h4⟩ h'
  · rw [h1.ext h1', h4.uniq h4']; exact ⟨rfl, rfl⟩
theorem PathIs.le {A : Adj} {fr to : Int} {r : List Int} {b : Bool} (h : PathIs A fr to r b) : r.length ≤ A.length + 1 := by
  rcases h with ⟨_, rfl, _⟩ | ⟨_, n, d, _, _, _, h4, rfl⟩
  · simp
  · rw [List.length_cons, pathL_length]
    have := h4.lt; omega
end Go.Proofs.Scc
