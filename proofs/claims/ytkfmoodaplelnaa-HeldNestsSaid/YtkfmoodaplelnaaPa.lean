/-
  Part of the proof: printed by the session's own program out of the program's form, or typed; it states no claim by itself.
-/
import Derived.Test.YtkfmoodaplelnaaFd
/-
  What is owned, as plain functions: vectors, edges, states; and that the program's small functions are these.
-/
set_option linter.unusedVariables false
set_option linter.unusedSimpArgs false
set_option linter.unusedSectionVars false
set_option maxRecDepth 100000
namespace Go.Proofs.Ytkfmoodaplelnaa
open Go Go.Abs Go.Proofs
/-! ### fuel -/
theorem inr_of {n : Int} (h0 : -1000000 ≤ n) (h : n ≤ 1000000) : InR n := by unfold InR; omega
theorem atI_of {α : Type} {l : List α} {i : Int} {a : α} (h0 : 0 ≤ i) (h : l[i.toNat]? = some a) : atI l i = some a := by unfold atI; rw [if_pos h0, h]
/-! ### vectors -/
abbrev O0 : Held_owned := { a0 := 0, a1 := 0, a2 := 0, a3 := 0, a4 := 0, a5 := 0, a6 := 0, a7 := 0 }
def vec (o : Held_owned) : List Int := [o.a0, o.a1, o.a2, o.a3, o.a4, o.a5, o.a6, o.a7]
theorem vec_get (o : Held_owned) {j : Nat} (h : j < 8) : (vec o)[j]? = some (o.get j) := by
  match j, h with
  | 0, _ => rfl
  | 1, _ => rfl
  | 2, _ => rfl
  | 3, _ => rfl
  | 4, _ => rfl
  | 5, _ => rfl
  | 6, _ => rfl
  | 7, _ => rfl
  | j + 8, h => omega
theorem vec_upd (o : Held_owned) {j : Nat} (h : j < 8) (x : Int) : vec (o.upd j x) = (vec o).set j x := by
  match j, h with
  | 0, _ => rfl
  | 1, _ => rfl
  | 2, _ => rfl
  | 3, _ => rfl
  | 4, _ => rfl
  | 5, _ => rfl
  | 6, _ => rfl
  | 7, _ => rfl
  | j + 8, h => omega
theorem vec_inj {a b : Held_owned} (h : vec a = vec b) : a = b := by
  cases a; cases b
  simp only [vec, List.cons.injEq, and_true] at h
  simp only [Held_owned.mk.injEq]
  exact h
theorem get_far (o : Held_owned) {j : Nat} (h : 8 ≤ j) : o.get j = 0 := by
  match j, h with
  | j + 8, _ => rfl
theorem get_upd (o : Held_owned) {i j : Nat} (h : j < 8) (x : Int) : (o.upd j x).get i = if i = j then x else o.get i := by
  by_cases hi : i < 8
  · have h1 := vec_get (o.upd j x) hi
    rw [vec_upd o h, List.getElem?_set] at h1
    have h2 := vec_get o hi
    by_cases hij : j = i
    · subst hij
      rw [if_pos rfl, if_pos (by simp [vec]; omega)] at h1
      rw [if_pos rfl]; exact (Option.some.inj h1).symm
    · rw [if_neg hij, h2] at h1
      rw [if_neg (Ne.symm hij)]; exact (Option.some.inj h1).symm
  · rw [get_far _ (by omega), if_neg (by omega), get_far _ (by omega)]
/-- The first m of them. -/
def vecm (m : Nat) (o : Held_owned) : List Int := (vec o).take m
theorem vecm_len {m : Nat} (hm : m ≤ 8) (o : Held_owned) : (vecm m o).length = m := by simp [vecm, vec]; omega
theorem vecm_get {m : Nat} (hm : m ≤ 8) (o : Held_owned) {j : Nat} (h : j < m) : (vecm m o)[j]? = some (o.get j) := by
  rw [vecm, List.getElem?_take, if_pos h, vec_get o (by omega)]
theorem vecm_upd {m : Nat} (hm : m ≤ 8) (o : Held_owned) {j : Nat} (h : j < m) (x : Int) : (vecm m o).set j x = vecm m (o.upd j x) := by
  rw [vecm, vecm, vec_upd o (by omega), List.take_set]
theorem vecm_eq {m : Nat} (hm : m ≤ 8) {a b : Held_owned} (ha : ∀ i, m ≤ i → a.get i = 0) (hb : ∀ i, m ≤ i → b.get i = 0) : vecm m a = vecm m b ↔ a = b := by
  refine ⟨fun h => vec_inj (List.ext_getElem? fun i => ?_), fun h => by rw [h]⟩
  by_cases hi : i < m
  · have h1 := vecm_get hm a hi
    rw [h, vecm_get hm b hi] at h1
    rw [vec_get a (by omega), vec_get b (by omega)]; exact h1.symm
  · by_cases h8 : i < 8
    · rw [vec_get a h8, vec_get b h8, ha i (by omega), hb i (by omega)]
    · rw [List.getElem?_eq_none (by simp [vec]; omega), List.getElem?_eq_none (by simp [vec]; omega)]
/-! ### lists that are the same -/
theorem same2_loop (p1 : Sl Int) (o0 : List Int) (N : Nat) (hl : o0.length = p1.l.length) (hs : o0.length ≤ 100000) : ∀ (k v : Nat), v ≤ o0.length → o0.length + 1 ≤ v + k →
    (∃ u, vigilref13_same_2_L4 p1 o0 N k (v : Int) = some (.e0 u) ∧ o0.drop v = p1.l.drop v) ∨ (vigilref13_same_2_L4 p1 o0 N k (v : Int) = some .r ∧ o0.drop v ≠ p1.l.drop v)
  | 0, v, hv, hk => by omega
  | k + 1, v, hv, hk => by
    unfold vigilref13_same_2_L4
    by_cases h : (v : Int) < (o0.length : Int)
    · rw [if_pos h]
      have h0 : v < o0.length := by omega
      have h1 : v < p1.l.length := by omega
      simp only [atI_nat, List.getElem?_eq_getElem h0, List.getElem?_eq_getElem h1, Option.bind_some, Option.bind_eq_bind]
      rw [List.drop_eq_getElem_cons h0, List.drop_eq_getElem_cons h1]
      by_cases hne : o0[v] ≠ p1.l[v]
      · rw [if_pos hne]
        exact .inr ⟨rfl, fun hh => hne (List.cons.inj hh).1⟩
      · rw [if_neg hne, if_pos (inr_of (by omega) (by omega))]
        have heq : o0[v] = p1.l[v] := Classical.not_not.1 hne
        rcases same2_loop p1 o0 N hl hs k (v + 1) (by omega) (by omega) with ⟨u, h2, h3⟩ | ⟨h2, h3⟩
        · exact .inl ⟨u, h2, by rw [heq, h3]⟩
        · exact .inr ⟨h2, fun hh => h3 (List.cons.inj hh).2⟩
    · rw [if_neg h]
      exact .inl ⟨_, rfl, by rw [List.drop_eq_nil_of_le (by omega), List.drop_eq_nil_of_le (by omega)]⟩
theorem same2_ok (p1 : Sl Int) (o0 : List Int) {N : Nat} (hs : o0.length ≤ 100000) (hN : o0.length + 1 ≤ N) : vigilref13_same_2 N p1 o0 = some (decide (o0 = p1.l)) := by
  unfold vigilref13_same_2
  by_cases hl : (o0.length : Int) ≠ (p1.l.length : Int)
  · rw [if_pos hl]
    have : o0 ≠ p1.l := fun hh => hl (by rw [hh])
    simp [this]
  · rw [if_neg hl]
    have hl' : o0.length = p1.l.length := by omega
    rcases same2_loop p1 o0 N hl' hs N 0 (by omega) (by omega) with ⟨u, h2, h3⟩ | ⟨h2, h3⟩
    · have h2' : vigilref13_same_2_L4 p1 o0 N N 0 = some (.e0 u) := h2
      rw [h2']
      simp only [List.drop_zero] at h3
      simp [h3]
    · have h2' : vigilref13_same_2_L4 p1 o0 N N 0 = some .r := h2
      rw [h2']
      simp only [List.drop_zero] at h3
      simp [h3]
theorem same1_loop (p1 : Sl Int) (o0 : List Int) (N : Nat) (hl : o0.length = p1.l.length) (hs : o0.length ≤ 100000) : ∀ (k v : Nat), v ≤ o0.length → o0.length + 1 ≤ v + k →
    (∃ u, vigilref13_same_L4 p1 o0 o0.length N k (v : Int) = some (.e0 u) ∧ o0.drop v = p1.l.drop v) ∨ (vigilref13_same_L4 p1 o0 o0.length N k (v : Int) = some .r ∧ o0.drop v ≠ p1.l.drop v)
  | 0, v, hv, hk => by omega
  | k + 1, v, hv, hk => by
    unfold vigilref13_same_L4
    by_cases h : (v : Int) < (o0.length : Int)
    · rw [if_pos h, if_pos (show 0 ≤ (v : Int) ∧ (v : Int) < (o0.length : Int) from ⟨by omega, h⟩)]
      have h0 : v < o0.length := by omega
      have h1 : v < p1.l.length := by omega
      simp only [atI_nat, List.getElem?_eq_getElem h0, List.getElem?_eq_getElem h1, Option.bind_some, Option.bind_eq_bind]
      rw [List.drop_eq_getElem_cons h0, List.drop_eq_getElem_cons h1]
      by_cases hne : o0[v] ≠ p1.l[v]
      · rw [if_pos hne]
        exact .inr ⟨rfl, fun hh => hne (List.cons.inj hh).1⟩
      · rw [if_neg hne, if_pos (inr_of (by omega) (by omega))]
        have heq : o0[v] = p1.l[v] := Classical.not_not.1 hne
        rcases same1_loop p1 o0 N hl hs k (v + 1) (by omega) (by omega) with ⟨u, h2, h3⟩ | ⟨h2, h3⟩
        · exact .inl ⟨u, h2, by rw [heq, h3]⟩
        · exact .inr ⟨h2, fun hh => h3 (List.cons.inj hh).2⟩
    · rw [if_neg h]
      exact .inl ⟨_, rfl, by rw [List.drop_eq_nil_of_le (by omega), List.drop_eq_nil_of_le (by omega)]⟩
theorem same1_ok (p1 : Sl Int) (o0 : List Int) {N : Nat} (hs : o0.length ≤ 100000) (hN : o0.length + 1 ≤ N) : vigilref13_same N p1 o0 o0.length = some (decide (o0 = p1.l)) := by
  unfold vigilref13_same
  by_cases hl : (o0.length : Int) ≠ (p1.l.length : Int)
  · rw [if_pos hl]
    have : o0 ≠ p1.l := fun hh => hl (by rw [hh])
    simp [this]
  · rw [if_neg hl]
    have hl' : o0.length = p1.l.length := by omega
    rcases same1_loop p1 o0 N hl' hs N 0 (by omega) (by omega) with ⟨u, h2, h3⟩ | ⟨h2, h3⟩
    · have h2' : vigilref13_same_L4 p1 o0 o0.length N N 0 = some (.e0 u) := h2
      rw [h2']
      simp only [List.drop_zero] at h3
      simp [h3]
    · have h2' : vigilref13_same_L4 p1 o0 o0.length N N 0 = some .r := h2
      rw [h2']
      simp only [List.drop_zero] at h3
      simp [h3]
end Go.Proofs.Ytkfmoodaplelnaa

/-
  Lists of lists that are the same; flows whose places and monitors are there.
-/
set_option linter.unusedVariables false
set_option linter.unusedSimpArgs false
set_option linter.unusedSectionVars false
set_option maxRecDepth 100000
namespace Go.Proofs.Ytkfmoodaplelnaa
open Go Go.Abs Go.Proofs
/-! ### shaped -/
def edgeOk (locs m : Int) (e : GEdge) : Prop := (0 ≤ e.from_ ∧ e.from_ < locs) ∧ (0 ≤ e.to_ ∧ e.to_ < locs) ∧ (4 ≤ e.kind ∧ e.kind ≤ 8 → 0 ≤ e.mon ∧ e.mon < m)
instance (locs m : Int) (e : GEdge) : Decidable (edgeOk locs m e) := inferInstanceAs (Decidable (_ ∧ _))
def Shaped (f : GFlow) (m : Int) : Prop := (1 ≤ f.locs ∧ f.locs ≤ 600 ∧ 0 ≤ m ∧ m ≤ 8) ∧ ∀ e ∈ f.edges.l, edgeOk f.locs m e
instance (f : GFlow) (m : Int) : Decidable (Shaped f m) := inferInstanceAs (Decidable (_ ∧ _))
theorem bad_ok (N : Nat) (e : GEdge) (f : GFlow) (m : Int) : held_isShaped_1 N e f.name f.star f.locs f.edges f.guards m = some (!decide (edgeOk f.locs m e)) := by
  have h1 : ∀ n : Int, held_isShaped_1_1 N n f.name f.star f.locs f.edges f.guards = some (decide (0 ≤ n ∧ n < f.locs)) := fun n => by
    unfold held_isShaped_1_1
    by_cases h : n ≥ 0
    · by_cases h' : n < f.locs
      · rw [if_pos h, if_pos h', decide_eq_true ⟨h, h'⟩]
      · rw [if_pos h, if_neg h', decide_eq_false (fun hh => h' hh.2)]
    · rw [if_neg h, decide_eq_false (fun hh => h hh.1)]
  unfold held_isShaped_1
  simp only [h1, Option.bind_some]
  have hA : ∀ c : Option Bool, (bif decide (0 ≤ e.from_ ∧ e.from_ < f.locs) then (bif decide (0 ≤ e.to_ ∧ e.to_ < f.locs) then c else some true) else some true) = if (0 ≤ e.from_ ∧ e.from_ < f.locs) ∧ (0 ≤ e.to_ ∧ e.to_ < f.locs) then c else some true := fun c => by
    by_cases ha : 0 ≤ e.from_ ∧ e.from_ < f.locs
    · by_cases hb : 0 ≤ e.to_ ∧ e.to_ < f.locs
      · rw [decide_eq_true ha, decide_eq_true hb, if_pos ⟨ha, hb⟩]; rfl
      · rw [decide_eq_true ha, decide_eq_false hb, if_neg (fun hh => hb hh.2)]; rfl
    · rw [decide_eq_false ha, if_neg (fun hh => ha hh.1)]; rfl
  simp only [hA]
  have hbad : ∀ {p : Prop} [Decidable p] {c : Option Bool}, ((p → c = some (!decide (edgeOk f.locs m e)))) → (¬ p → ¬ edgeOk f.locs m e) → (if p then c else some true) = some (!decide (edgeOk f.locs m e)) := fun {p} _ {c} h2 h3 => by
    by_cases hp : p
    · rw [if_pos hp]; exact h2 hp
    · rw [if_neg hp, decide_eq_false (h3 hp)]; rfl
  have hno : ¬ ((0 ≤ e.from_ ∧ e.from_ < f.locs) ∧ (0 ≤ e.to_ ∧ e.to_ < f.locs)) → ¬ edgeOk f.locs m e := fun h2 h3 => h2 ⟨h3.1, h3.2.1⟩
  by_cases hc : e.kind ≥ 4
  · rw [if_pos hc]
    by_cases hd : e.kind ≤ 8
    · rw [if_pos hd]
      refine hbad (fun h2 => ?_) hno
      by_cases he : e.mon < 0
      · rw [if_pos he, decide_eq_false (fun hh : edgeOk f.locs m e => by have := hh.2.2 ⟨hc, hd⟩; omega)]; rfl
      rw [if_neg he]
      by_cases hf : e.mon ≥ m
      · rw [if_pos hf, decide_eq_false (fun hh : edgeOk f.locs m e => by have := hh.2.2 ⟨hc, hd⟩; omega)]; rfl
      rw [if_neg hf, decide_eq_true (show edgeOk f.locs m e from ⟨h2.1, h2.2, fun _ => by omega⟩)]; rfl
    · rw [if_neg hd]
      exact hbad (fun h2 => by rw [decide_eq_true (show edgeOk f.locs m e from ⟨h2.1, h2.2, fun hh => by omega⟩)]; rfl) hno
  · rw [if_neg hc]
    exact hbad (fun h2 => by rw [decide_eq_true (show edgeOk f.locs m e from ⟨h2.1, h2.2, fun hh => by omega⟩)]; rfl) hno
theorem index_loop (f : GFlow) (m : Int) (N : Nat) (hs : f.edges.l.length ≤ 100000) : ∀ (k v : Nat) (i : Int), i = (v : Int) → v ≤ f.edges.l.length → f.edges.l.length + 1 ≤ v + k →
    (∃ u, slices_IndexFunc_L2 f.edges f.name f.star f.locs f.edges f.guards m N k i = some (.e0 u) ∧ ∀ e ∈ f.edges.l.drop v, edgeOk f.locs m e) ∨ (∃ u : Int, 0 ≤ u ∧ slices_IndexFunc_L2 f.edges f.name f.star f.locs f.edges f.guards m N k i = some (.r u) ∧ ¬ ∀ e ∈ f.edges.l.drop v, edgeOk f.locs m e)
  | 0, v, i, hi0, hv, hk => by omega
  | k + 1, v, i, hi0, hv, hk => by
    unfold slices_IndexFunc_L2
    by_cases h : i < (f.edges.l.length : Int)
    · rw [if_pos h]
      have h0 : v < f.edges.l.length := by omega
      simp only [show atI f.edges.l i = f.edges.l[v]? by rw [hi0, atI_nat], List.getElem?_eq_getElem h0, Option.bind_some, bad_ok]
      rw [List.drop_eq_getElem_cons h0]
      by_cases hok : edgeOk f.locs m f.edges.l[v]
      · simp only [hok, decide_true, Bool.not_true, cond_false]
        rw [if_pos (inr_of (by omega) (by omega))]
        rcases index_loop f m N hs k (v + 1) (i + 1) (by omega) (by omega) (by omega) with ⟨u, h2, h3⟩ | ⟨u, hu, h2, h3⟩
        · exact .inl ⟨u, h2, fun e he => Or.elim (List.mem_cons.1 he) (fun h5 => by rw [h5]; exact hok) (fun h5 => h3 e h5)⟩
        · exact .inr ⟨u, hu, h2, fun hh => h3 fun e he => hh e (List.mem_cons_of_mem _ he)⟩
      · simp only [hok, decide_false, Bool.not_false, cond_true]
        exact .inr ⟨_, by omega, rfl, fun hh => hok (hh _ (List.mem_cons_self ..))⟩
    · rw [if_neg h]
      exact .inl ⟨_, rfl, by rw [List.drop_eq_nil_of_le (by omega)]; simp⟩
theorem held_shaped (f : GFlow) (m : Int) {N : Nat} (hN : f.edges.l.length + 1 ≤ N) (hs : f.edges.l.length ≤ 100000) : held_isShaped N f m = some (decide (Shaped f m)) := by
  unfold held_isShaped held_isShaped_J1
  by_cases h1 : f.locs < 1
  · rw [if_pos h1, decide_eq_false (fun hh => by have := hh.1; omega)]; rfl
  rw [if_neg h1]
  by_cases h2 : f.locs > 600
  · rw [if_pos h2, decide_eq_false (fun hh => by have := hh.1; omega)]; rfl
  rw [if_neg h2]
  by_cases h3 : m < 0
  · rw [if_pos h3, decide_eq_false (fun hh => by have := hh.1; omega)]; rfl
  rw [if_neg h3]
  by_cases h4 : m > 8
  · rw [if_pos h4, decide_eq_false (fun hh => by have := hh.1; omega)]; rfl
  rw [if_neg h4]
  simp only [Option.bind_some, slices_ContainsFunc, slices_IndexFunc]
  rcases index_loop f m N hs N 0 0 rfl (by omega) (by omega) with ⟨u, g2, g3⟩ | ⟨u, hu, g2, g3⟩
  · have g2' : slices_IndexFunc_L2 f.edges f.name f.star f.locs f.edges f.guards m N N 0 = some (.e0 u) := g2
    rw [g2']
    simp only [List.drop_zero] at g3
    rw [decide_eq_true (show Shaped f m from ⟨by omega, g3⟩)]; rfl
  · have g2' : slices_IndexFunc_L2 f.edges f.name f.star f.locs f.edges f.guards m N N 0 = some (.r u) := g2
    rw [g2']
    simp only [List.drop_zero] at g3
    rw [decide_eq_false (fun hh : Shaped f m => g3 hh.2)]
    simp only [Option.bind_some, ge_iff_le, hu, if_true, cond_true]
theorem refshape_loop (f : GFlow) (m : Int) (N : Nat) (hs : f.edges.l.length ≤ 100000) : ∀ (k v : Nat) (i : Int), i = (v : Int) → v ≤ f.edges.l.length → f.edges.l.length + 1 ≤ v + k →
    ((vigilref13_shaped_L4 f m N k i).bind fun o => match o with | .r .. => some false | .e0 _ => some true) = some ((f.edges.l.drop v).all fun e => decide (edgeOk f.locs m e))
  | 0, v, i, hi0, hv, hk => by omega
  | k + 1, v, i, hi0, hv, hk => by
    unfold vigilref13_shaped_L4 vigilref13_shaped_J7_2
    by_cases h : i < (f.edges.l.length : Int)
    · rw [if_pos h]
      have h0 : v < f.edges.l.length := by omega
      simp only [show atI f.edges.l i = f.edges.l[v]? by rw [hi0, atI_nat], List.getElem?_eq_getElem h0, Option.bind_some]
      rw [List.drop_eq_getElem_cons h0]
      have ih := refshape_loop f m N hs k (v + 1) (i + 1) (by omega) (by omega) (by omega)
      have hiR : InR (i + 1) := inr_of (by omega) (by omega)
      generalize f.edges.l[v] = e
      rw [List.all_cons]
      have ih' : ((vigilref13_shaped_L4 f m N k (i + 1)).bind fun o => match o with | .r .. => some false | .e0 _ => some true) = some ((f.edges.l.drop (v + 1)).all fun e => decide (edgeOk f.locs m e)) := ih
      by_cases ha : e.from_ < 0
      · rw [if_pos ha, decide_eq_false (fun hh : edgeOk f.locs m e => by have := hh.1; omega)]; rfl
      rw [if_neg ha]
      by_cases hb : e.from_ ≥ f.locs
      · rw [if_pos hb, decide_eq_false (fun hh : edgeOk f.locs m e => by have := hh.1; omega)]; rfl
      rw [if_neg hb]
      by_cases hc : e.to_ < 0
      · rw [if_pos hc, decide_eq_false (fun hh : edgeOk f.locs m e => by have := hh.2.1; omega)]; rfl
      rw [if_neg hc]
      by_cases hd : e.to_ ≥ f.locs
      · rw [if_pos hd, decide_eq_false (fun hh : edgeOk f.locs m e => by have := hh.2.1; omega)]; rfl
      rw [if_neg hd]
      simp only [Option.bind_some]
      by_cases hk4 : e.kind ≥ 4
      · rw [if_pos hk4]
        by_cases hk8 : e.kind ≤ 8
        · rw [if_pos hk8]
          by_cases hm : e.mon < 0
          · rw [if_pos hm, decide_eq_false (fun hh : edgeOk f.locs m e => by have := hh.2.2 ⟨hk4, hk8⟩; omega)]; rfl
          rw [if_neg hm]
          by_cases hm2 : e.mon ≥ m
          · rw [if_pos hm2, decide_eq_false (fun hh : edgeOk f.locs m e => by have := hh.2.2 ⟨hk4, hk8⟩; omega)]; rfl
          rw [if_neg hm2, if_pos hiR, ih', decide_eq_true (show edgeOk f.locs m e from ⟨by omega, by omega, fun _ => by omega⟩), Bool.true_and]
        · rw [if_neg hk8, if_pos hiR, ih', decide_eq_true (show edgeOk f.locs m e from ⟨by omega, by omega, fun hh => by omega⟩), Bool.true_and]
      · rw [if_neg hk4, if_pos hiR, ih', decide_eq_true (show edgeOk f.locs m e from ⟨by omega, by omega, fun hh => by omega⟩), Bool.true_and]
    · rw [if_neg h, List.drop_eq_nil_of_le (by omega)]
      simp
theorem ref_shaped (f : GFlow) (m : Int) {N : Nat} (hN : f.edges.l.length + 1 ≤ N) (hs : f.edges.l.length ≤ 100000) : vigilref13_shaped N f m = some (decide (Shaped f m)) := by
  unfold vigilref13_shaped vigilref13_shaped_J1
  by_cases h1 : f.locs < 1
  · rw [if_pos h1, decide_eq_false (fun hh => by have := hh.1; omega)]; rfl
  rw [if_neg h1]
  by_cases h2 : f.locs > 600
  · rw [if_pos h2, decide_eq_false (fun hh => by have := hh.1; omega)]; rfl
  rw [if_neg h2]
  by_cases h3 : m < 0
  · rw [if_pos h3, decide_eq_false (fun hh => by have := hh.1; omega)]; rfl
  rw [if_neg h3]
  by_cases h4 : m > 8
  · rw [if_pos h4, decide_eq_false (fun hh => by have := hh.1; omega)]; rfl
  rw [if_neg h4]
  have h5 := refshape_loop f m N hs N 0 0 rfl (by omega) (by omega)
  simp only [List.drop_zero] at h5
  simp only [Option.bind_some]
  refine (h5 : _).trans ?_
  congr 1
  rw [Bool.eq_iff_iff, List.all_eq_true, decide_eq_true_iff]
  exact ⟨fun hh => ⟨by omega, fun e he => of_decide_eq_true (hh e he)⟩, fun hh e he => decide_eq_true (hh.2 e he)⟩
end Go.Proofs.Ytkfmoodaplelnaa

/-
  The search for what is owned, plain: states are lists of places with what is owned there, in the order in which they were reached.
-/
set_option linter.unusedVariables false
set_option linter.unusedSimpArgs false
set_option linter.unusedSectionVars false
set_option maxRecDepth 100000
namespace Go.Proofs.Ytkfmoodaplelnaa
open Go Go.Abs Go.Proofs
abbrev Sg := List (Int × Held_owned)
def alongP (o : Held_owned) (e : GEdge) : Option Held_owned :=
  if e.kind = 4 then some (o.upd e.mon.toNat (o.get e.mon.toNat + 1))
  else if e.kind = 5 then (if o.get e.mon.toNat - 1 < 0 then none else some (o.upd e.mon.toNat (o.get e.mon.toNat - 1)))
  else some o
def at0 (σ : Sg) (a : Int) : Held_owned := lookM O0 σ a
def stepE (σ : Sg) (e : GEdge) : Option Sg :=
  (alongP (at0 σ e.from_) e).bind fun o => if hasM σ e.to_ = true then (if at0 σ e.to_ = o then some σ else none) else some (σ ++ [(e.to_, o)])
def stepL : List GEdge → Sg → Option Sg
  | [], σ => some σ
  | e :: es, σ => (stepE σ e).bind (stepL es)
def fromE (es : List GEdge) (a : Int) : List GEdge := es.filter fun e => decide (e.from_ = a)
def runP (es : List GEdge) : Nat → Nat → Sg → Option Sg
  | 0, _, _ => none
  | k + 1, i, σ => match σ[i]? with
    | none => some σ
    | some p => (stepL (fromE es p.1) σ).bind (runP es k (i + 1))
/-! ### maps -/
section
variable {α : Type}
theorem getM_none {k : Int} : ∀ {l : List (Int × α)}, getM l k = none ↔ k ∉ l.map Prod.fst
  | [] => by simp [getM]
  | (a, b) :: l => by
    simp only [getM, List.map_cons, List.mem_cons, not_or]
    by_cases h : a = k
    · rw [if_pos h]; simp [h]
    · rw [if_neg h, getM_none]; simp [Ne.symm h]
theorem hasM_iff {k : Int} {l : List (Int × α)} : hasM l k = true ↔ k ∈ l.map Prod.fst := by
  unfold hasM
  cases h : getM l k with
  | none => simp; exact fun x hx => (getM_none.1 h) (List.mem_map.2 ⟨_, hx, rfl⟩)
  | some v => simp; exact Classical.byContradiction fun hn => by rw [getM_none.2 (fun hh => hn (by simpa using hh))] at h; cases h
theorem getM_in {k : Int} {v : α} : ∀ {es : List (Int × α)}, getM es k = some v → (k, v) ∈ es
  | [], h => by cases h
  | (a, b) :: es, h => by
    unfold getM at h
    split at h
    · rename_i hh; cases h; subst hh; simp
    · exact List.mem_cons_of_mem _ (getM_in h)
theorem putM_new {k : Int} {v : α} : ∀ {l : List (Int × α)}, k ∉ l.map Prod.fst → putM l k v = l ++ [(k, v)]
  | [], _ => rfl
  | (a, b) :: l, h => by
    simp only [List.map_cons, List.mem_cons, not_or] at h
    simp only [putM, if_neg (Ne.symm h.1), putM_new h.2, List.cons_append]
theorem getM_append {k : Int} {l l' : List (Int × α)} : getM (l ++ l') k = (getM l k).or (getM l' k) := by
  induction l with
  | nil => simp [getM]
  | cons p l ih =>
    obtain ⟨a, b⟩ := p
    simp only [List.cons_append, getM]
    split
    · rfl
    · exact ih
end
/-! ### the invariant -/
structure Iv (f : GFlow) (m : Nat) (σ : Sg) : Prop where
  ne : σ ≠ []
  nd : (σ.map Prod.fst).Nodup
  rg : ∀ p ∈ σ, 0 ≤ p.1 ∧ p.1 < f.locs
  bd : ∀ p ∈ σ, ∀ i, 0 ≤ p.2.get i ∧ p.2.get i ≤ (σ.length : Int)
  tl : ∀ p ∈ σ, ∀ i, m ≤ i → p.2.get i = 0
theorem O0_get (i : Nat) : O0.get i = 0 := by
  by_cases h : i < 8
  · match i, h with
    | 0, _ => rfl
    | 1, _ => rfl
    | 2, _ => rfl
    | 3, _ => rfl
    | 4, _ => rfl
    | 5, _ => rfl
    | 6, _ => rfl
    | 7, _ => rfl
    | i + 8, h => omega
  · exact get_far _ (by omega)
theorem at0_cases (σ : Sg) (a : Int) : (at0 σ a = O0 ∧ a ∉ σ.map Prod.fst) ∨ (a, at0 σ a) ∈ σ := by
  unfold at0 lookM
  cases h : getM σ a with
  | none => exact .inl ⟨rfl, getM_none.1 h⟩
  | some o => exact .inr (getM_in h)
theorem Iv.at_bd {f : GFlow} {m : Nat} {σ : Sg} (iv : Iv f m σ) (a : Int) (i : Nat) : 0 ≤ (at0 σ a).get i ∧ (at0 σ a).get i ≤ (σ.length : Int) := by
  rcases at0_cases σ a with ⟨h, _⟩ | h
  · rw [h, O0_get]; omega
  · exact iv.bd _ h i
theorem Iv.at_tl {f : GFlow} {m : Nat} {σ : Sg} (iv : Iv f m σ) (a : Int) (i : Nat) (hi : m ≤ i) : (at0 σ a).get i = 0 := by
  rcases at0_cases σ a with ⟨h, _⟩ | h
  · rw [h, O0_get]
  · exact iv.tl _ h i hi
theorem alongP_bd {m : Nat} (hm : m ≤ 8) {o o' : Held_owned} {e : GEdge} {B : Int} (h : alongP o e = some o') (hb : ∀ i, 0 ≤ o.get i ∧ o.get i ≤ B) (he : 4 ≤ e.kind ∧ e.kind ≤ 8 → 0 ≤ e.mon ∧ e.mon < (m : Int)) : ∀ i, 0 ≤ o'.get i ∧ o'.get i ≤ B + 1 := by
  intro i
  have hi := hb i
  unfold alongP at h
  split at h
  · rename_i hk
    have := he (by omega)
    cases h
    rw [get_upd _ (by omega)]
    have := hb e.mon.toNat
    split <;> omega
  · split at h
    · rename_i hk
      have := he (by omega)
      split at h
      · cases h
      · cases h
        rw [get_upd _ (by omega)]
        have := hb e.mon.toNat
        split <;> omega
    · cases h; omega
theorem alongP_tl {m : Nat} (hm : m ≤ 8) {o o' : Held_owned} {e : GEdge} (h : alongP o e = some o') (ht : ∀ i, m ≤ i → o.get i = 0) (he : 4 ≤ e.kind ∧ e.kind ≤ 8 → 0 ≤ e.mon ∧ e.mon < (m : Int)) : ∀ i, m ≤ i → o'.get i = 0 := by
  intro i hi
  have hi' := ht i hi
  unfold alongP at h
  split at h
  · rename_i hk
    have := he (by omega)
    cases h
    rw [get_upd _ (by omega), if_neg (by omega)]; exact hi'
  · split at h
    · rename_i hk
      have := he (by omega)
      split at h
      · cases h
      · cases h
        rw [get_upd _ (by omega), if_neg (by omega)]; exact hi'
    · cases h; exact hi'
theorem Iv.step {f : GFlow} {m : Nat} (hm : m ≤ 8) {σ σ' : Sg} {e : GEdge} (iv : Iv f m σ) (he : edgeOk f.locs m e) (h : stepE σ e = some σ') : Iv f m σ' ∧ (σ' = σ ∨ ∃ o, e.to_ ∉ σ.map Prod.fst ∧ σ' = σ ++ [(e.to_, o)]) := by
  unfold stepE at h
  cases ha : alongP (at0 σ e.from_) e with
  | none => rw [ha] at h; cases h
  | some o =>
    rw [ha] at h
    simp only [Option.bind_some] at h
    split at h
    · split at h
      · cases h; exact ⟨iv, .inl rfl⟩
      · cases h
    · rename_i hn
      cases h
      have hn' : e.to_ ∉ σ.map Prod.fst := fun hh => hn (hasM_iff.2 hh)
      refine ⟨⟨by simp, ?_, fun p hp => ?_, fun p hp i => ?_, fun p hp i hi => ?_⟩, .inr ⟨o, hn', rfl⟩⟩
      · rw [List.map_append, List.nodup_append]
        refine ⟨iv.nd, by simp, fun a ha b hb => ?_⟩
        simp only [List.map_cons, List.map_nil, List.mem_singleton] at hb
        rintro rfl
        exact hn' (hb ▸ ha)
      · rcases List.mem_append.1 hp with hp | hp
        · exact iv.rg p hp
        · simp only [List.mem_singleton] at hp; subst hp; exact he.2.1
      · rw [List.length_append]
        rcases List.mem_append.1 hp with hp | hp
        · have := iv.bd p hp i; simp only [List.length_singleton]; omega
        · simp only [List.mem_singleton] at hp; subst hp
          have := alongP_bd hm ha (iv.at_bd e.from_) he.2.2 i
          simp only [List.length_singleton]; omega
      · rcases List.mem_append.1 hp with hp | hp
        · exact iv.tl p hp i hi
        · simp only [List.mem_singleton] at hp; subst hp
          exact alongP_tl hm ha (fun i hi => iv.at_tl e.from_ i hi) he.2.2 i hi
theorem Iv.steps {f : GFlow} {m : Nat} (hm : m ≤ 8) : ∀ {es : List GEdge} {σ σ' : Sg}, Iv f m σ → (∀ e ∈ es, edgeOk f.locs m e) → stepL es σ = some σ' → Iv f m σ' ∧ ∃ τ, σ' = σ ++ τ
  | [], σ, σ', iv, he, h => by cases h; exact ⟨iv, [], by simp⟩
  | e :: es, σ, σ', iv, he, h => by
    unfold stepL at h
    obtain ⟨σ1, h1, h2⟩ := Option.bind_eq_some_iff.1 h
    obtain ⟨iv1, h3⟩ := iv.step hm (he e (List.mem_cons_self ..)) h1
    obtain ⟨iv2, τ, h4⟩ := Iv.steps hm iv1 (fun x hx => he x (List.mem_cons_of_mem _ hx)) h2
    refine ⟨iv2, ?_⟩
    rcases h3 with rfl | ⟨o, _, rfl⟩
    · exact ⟨τ, h4⟩
    · exact ⟨[(e.to_, o)] ++ τ, by rw [h4, List.append_assoc]⟩
theorem nodup_le : ∀ (n : Nat) (l : List Nat), l.Nodup → (∀ x ∈ l, x < n) → l.length ≤ n
  | 0, l, _, h => by
    cases l with
    | nil => simp
    | cons a l => exact absurd (h a (List.mem_cons_self ..)) (by omega)
  | n + 1, l, hd, h => by
    by_cases hn : n ∈ l
    · have h1 := nodup_le n (l.erase n) (hd.erase n) fun x hx => by
        have h2 := h x (List.mem_of_mem_erase hx)
        have h3 : x ≠ n := ((hd.mem_erase_iff).1 hx).1
        omega
      rw [List.length_erase_of_mem hn] at h1
      omega
    · have h1 := nodup_le n l hd fun x hx => by
        have h2 := h x hx
        have h3 : x ≠ n := fun hh => hn (hh ▸ hx)
        omega
      omega
theorem Iv.len {f : GFlow} {m : Nat} {σ : Sg} (iv : Iv f m σ) : σ.length ≤ f.locs.toNat := by
  have h := nodup_le f.locs.toNat ((σ.map Prod.fst).map Int.toNat) ?_ ?_
  · simpa using h
  · refine List.Pairwise.map _ (R := fun a b => a ≠ b ∧ 0 ≤ a ∧ 0 ≤ b) (fun a b hh => by omega) ?_
    have h1 : ∀ a ∈ σ.map Prod.fst, 0 ≤ a := fun a ha => by
      obtain ⟨p, hp, rfl⟩ := List.mem_map.1 ha
      exact (iv.rg p hp).1
    exact (iv.nd.imp_of_mem fun {a b} ha hb hab => ⟨hab, h1 a ha, h1 b hb⟩)
  · intro x hx
    obtain ⟨a, ha, rfl⟩ := List.mem_map.1 hx
    obtain ⟨p, hp, rfl⟩ := List.mem_map.1 ha
    have := iv.rg p hp
    omega
end Go.Proofs.Ytkfmoodaplelnaa

/-
  held.find comes to what the plain search comes to.
-/
set_option linter.unusedVariables false
set_option linter.unusedSimpArgs false
set_option linter.unusedSectionVars false
set_option maxRecDepth 100000
namespace Go.Proofs.Ytkfmoodaplelnaa
open Go Go.Abs Go.Proofs
theorem along_ok (N : Nat) {m : Nat} (hm : m ≤ 8) (o : Held_owned) (e : GEdge) (he : 4 ≤ e.kind ∧ e.kind ≤ 8 → 0 ≤ e.mon ∧ e.mon < (m : Int)) (hb : ∀ i, 0 ≤ o.get i ∧ o.get i ≤ 100000) :
    (∃ o', alongP o e = some o' ∧ held_owned_along N o e = some (o', true)) ∨ (alongP o e = none ∧ ∃ o', held_owned_along N o e = some (o', false)) := by
  unfold alongP held_owned_along
  have h0 := hb e.mon.toNat
  by_cases h4 : e.kind = 4
  · have := he (by omega)
    rw [if_pos h4, if_pos h4, if_pos (show 0 ≤ e.mon ∧ e.mon < (8 : Int) by omega), if_pos (inr_of (by omega) (by omega))]
    exact .inl ⟨_, rfl, rfl⟩
  · rw [if_neg h4, if_neg h4]
    by_cases h5 : e.kind = 5
    · have := he (by omega)
      rw [if_pos h5, if_pos h5, if_pos (show 0 ≤ e.mon ∧ e.mon < (8 : Int) by omega), if_pos (inr_of (by omega) (by omega)), get_upd _ (by omega), if_pos rfl]
      by_cases hn : o.get e.mon.toNat - 1 < 0
      · rw [if_pos hn, if_neg (by omega)]
        exact .inr ⟨rfl, _, rfl⟩
      · rw [if_neg hn, if_pos (by omega)]
        exact .inl ⟨_, rfl, rfl⟩
    · rw [if_neg h5, if_neg h5]
      exact .inl ⟨_, rfl, rfl⟩
section
variable {f : GFlow} {m : Nat} (hm : m ≤ 8) (hL : f.locs ≤ 600)
include hm hL
theorem reach_ok (N : Nat) {e : GEdge} {σ : Sg} {w : Rs Int} {o1 : List (Rs Int)} {c0 d0 : ByteArray} {c1 d1 : Bool} {c2 d2 : Int} {c3 d3 : Sl GEdge} {c4 d4 : Sl GGuard} {c5 : Nat} (iv : Iv f m σ) (he : edgeOk f.locs m e) (hw : w.l = σ.map Prod.fst) :
    (∃ σ' w', stepE σ e = some σ' ∧ w'.l = σ'.map Prod.fst ∧ held_finder_reach N e c0 c1 c2 c3 c4 o1 σ d0 d1 d2 d3 d4 w c5 = some (true, σ', w')) ∨ (stepE σ e = none ∧ ∃ a b, held_finder_reach N e c0 c1 c2 c3 c4 o1 σ d0 d1 d2 d3 d4 w c5 = some (false, a, b)) := by
  have hlen := iv.len
  have hroom : Room 8 (w.l ++ ([e.to_] : List Int)).length := by
    unfold Room
    rw [hw]; simp; omega
  unfold stepE held_finder_reach
  rcases along_ok N hm (at0 σ e.from_) e he.2.2 (fun i => by have := iv.at_bd e.from_ i; omega) with ⟨o', h1, h2⟩ | ⟨h1, o', h2⟩
  · have h2' : held_owned_along N (lookM (({ a0 := 0, a1 := 0, a2 := 0, a3 := 0, a4 := 0, a5 := 0, a6 := 0, a7 := 0 } : Held_owned) : Held_owned) σ e.from_) e = some (o', true) := h2
    rw [h1, h2']
    simp only [Option.bind_some, cond_true]
    by_cases hh : hasM σ e.to_ = true
    · rw [if_pos hh, if_pos hh]
      by_cases hq : at0 σ e.to_ = o'
      · have hq' : (lookM (({ a0 := 0, a1 := 0, a2 := 0, a3 := 0, a4 := 0, a5 := 0, a6 := 0, a7 := 0 } : Held_owned) : Held_owned) σ e.to_) = o' := hq
        rw [if_pos hq, if_pos hq']
        exact .inl ⟨σ, w, rfl, hw, rfl⟩
      · have hq' : ¬ (lookM (({ a0 := 0, a1 := 0, a2 := 0, a3 := 0, a4 := 0, a5 := 0, a6 := 0, a7 := 0 } : Held_owned) : Held_owned) σ e.to_) = o' := hq
        rw [if_neg hq, if_neg hq']
        exact .inr ⟨rfl, _, _, rfl⟩
    · rw [if_neg hh, if_neg hh]
      have hn : e.to_ ∉ σ.map Prod.fst := fun h => hh (hasM_iff.2 h)
      rw [putM_new hn]
      by_cases hk : w.k = true
      · rw [if_pos hk, if_pos hroom]
        exact .inl ⟨_, _, rfl, by simp [hw], rfl⟩
      · rw [if_neg hk, if_pos hroom]
        exact .inl ⟨_, _, rfl, by simp [hw], rfl⟩
  · have h2' : held_owned_along N (lookM (({ a0 := 0, a1 := 0, a2 := 0, a3 := 0, a4 := 0, a5 := 0, a6 := 0, a7 := 0 } : Held_owned) : Held_owned) σ e.from_) e = some (o', false) := h2
    rw [h1, h2']
    exact .inr ⟨rfl, _, _, rfl⟩
/-- All edges of a place. -/
theorem inner_ok {N : Nat} {o1 : List (Rs Int)} {v9 : Int} {w1 : Rs Int} {E : List GEdge} (hE : w1.l.map (fun j : Int => f.edges.l[j.toNat]?) = E.map some) (h0 : ∀ j ∈ w1.l, 0 ≤ j) (hEo : ∀ e ∈ E, edgeOk f.locs m e) (hlen : w1.l.length ≤ 100000) : ∀ (k v : Nat) (i : Int) (σ : Sg) (w : Rs Int), i = (v : Int) → v ≤ w1.l.length → w1.l.length + 1 ≤ v + k → Iv f m σ → w.l = σ.map Prod.fst →
    (∃ σ' w' u, stepL (E.drop v) σ = some σ' ∧ w'.l = σ'.map Prod.fst ∧ held_find_L13_2 f o1 v9 w1 N k i σ w = some (.e4 u σ' w')) ∨ (stepL (E.drop v) σ = none ∧ ∃ a b, held_find_L13_2 f o1 v9 w1 N k i σ w = some (.r a b))
  | 0, v, i, σ, w, hi, hv, hk, iv, hw => by omega
  | k + 1, v, i, σ, w, hi, hv, hk, iv, hw => by
    have hEl : E.length = w1.l.length := by have := congrArg List.length hE; simpa using this.symm
    unfold held_find_L13_2
    have hsl : (Rs.sl w1).l = w1.l := rfl
    rw [hsl]
    by_cases h : i < (w1.l.length : Int)
    · rw [if_pos h]
      have hv' : v < w1.l.length := by omega
      have hve : v < E.length := by omega
      have hj : 0 ≤ w1.l[v] := h0 _ (List.getElem_mem hv')
      have he : f.edges.l[(w1.l[v]).toNat]? = some E[v] := by
        have := congrArg (·[v]?) hE
        simp only [List.getElem?_map, List.getElem?_eq_getElem hv', List.getElem?_eq_getElem hve, Option.map_some] at this
        exact Option.some.inj this
      rw [List.drop_eq_getElem_cons hve]
      simp only [show atI w1.l i = w1.l[v]? by rw [hi, atI_nat], List.getElem?_eq_getElem hv', Option.bind_some, atI_of hj he]
      rcases reach_ok hm hL N (e := E[v]) (o1 := o1) (c0 := f.name) (c1 := f.star) (c2 := f.locs) (c3 := f.edges) (c4 := f.guards) (d0 := f.name) (d1 := f.star) (d2 := f.locs) (d3 := f.edges) (d4 := f.guards) (c5 := f.locs.toNat) iv (hEo _ (List.getElem_mem hve)) hw with ⟨σ', w', h1, h2, h3⟩ | ⟨h1, a, b, h3⟩
      · rw [h3]
        simp only [Option.bind_some, cond_true]
        rw [if_pos (inr_of (by omega) (by omega))]
        obtain ⟨iv', _⟩ := iv.step hm (hEo _ (List.getElem_mem hve)) h1
        have hst : stepL (E[v] :: E.drop (v + 1)) σ = stepL (E.drop (v + 1)) σ' := by
          simp only [stepL, h1, Option.bind_some]
        rw [hst]
        exact inner_ok hE h0 hEo hlen k (v + 1) (i + 1) σ' w' (by omega) (by omega) (by omega) iv' h2
      · rw [h3]
        refine .inr ⟨?_, _, _, rfl⟩
        simp only [stepL, h1, Option.bind_none]
    · rw [if_neg h, List.drop_eq_nil_of_le (by omega)]
      exact .inl ⟨σ, w, _, rfl, hw, rfl⟩
/-- The lists of edges that lead from each place. -/
def OutOk (f : GFlow) (o1 : List (Rs Int)) (es : List GEdge) : Prop := o1.length = f.locs.toNat ∧ ∀ (a : Nat) (w : Rs Int), o1[a]? = some w → w.l.length ≤ es.length ∧ (∀ j ∈ w.l, 0 ≤ j) ∧ w.l.map (fun j : Int => f.edges.l[j.toNat]?) = (fromE es (a : Int)).map some
omit hm hL in
theorem out_loop (hes : ∀ e ∈ f.edges.l, edgeOk f.locs m e) (hlen : f.edges.l.length ≤ 100000) {N : Nat} : ∀ (k v : Nat) (i : Int) (o1 : List (Rs Int)), i = (v : Int) → v ≤ f.edges.l.length → f.edges.l.length + 1 ≤ v + k → OutOk f o1 (f.edges.l.take v) →
    ∃ u o1', held_find_L5 f N k i o1 = some (.e0 u o1') ∧ OutOk f o1' f.edges.l
  | 0, v, i, o1, hi, hv, hk, ok => by omega
  | k + 1, v, i, o1, hi, hv, hk, ok => by
    unfold held_find_L5
    by_cases h : i < (f.edges.l.length : Int)
    · rw [if_pos h]
      have hv' : v < f.edges.l.length := by omega
      have he := hes _ (List.getElem_mem hv')
      have hr := he.1
      have hb : (f.edges.l[v].from_).toNat < o1.length := by rw [ok.1]; omega
      have hat : atI o1 f.edges.l[v].from_ = some o1[(f.edges.l[v].from_).toNat] := atI_of (by omega) (List.getElem?_eq_getElem hb)
      simp only [show atI f.edges.l i = f.edges.l[v]? by rw [hi, atI_nat], List.getElem?_eq_getElem hv', Option.bind_some]
      rw [if_pos (show 0 ≤ f.edges.l[v].from_ ∧ f.edges.l[v].from_ < (f.locs.toNat : Int) by omega), hat]
      simp only [Option.bind_some]
      have hok := ok.2 _ _ (List.getElem?_eq_getElem hb)
      have hok' : OutOk f (o1.set (f.edges.l[v].from_).toNat ⟨false, o1[(f.edges.l[v].from_).toNat].l ++ ([i] : List Int)⟩) (f.edges.l.take (v + 1)) := by
        refine ⟨by simp [ok.1], fun a w hw => ?_⟩
        rw [List.take_succ_eq_append_getElem hv']
        rw [List.getElem?_set] at hw
        split at hw
        · rename_i hae
          subst hae
          first
            | rw [if_pos hb] at hw
            | skip
          cases hw
          refine ⟨by have := hok.1; simp only [List.length_append, List.length_singleton] at this ⊢; omega, fun j hj => ?_, ?_⟩
          · rcases List.mem_append.1 hj with hj | hj
            · exact hok.2.1 j hj
            · simp only [List.mem_singleton] at hj; omega
          · have hd : f.edges.l[v].from_ = (((f.edges.l[v].from_).toNat : Nat) : Int) := by omega
            rw [List.map_append, hok.2.2, fromE, fromE, List.filter_append, List.map_append]
            congr 1
            rw [List.filter_cons_of_pos (by rw [← hd]; simp), hi]
            simp [hv']
        · rename_i hae
          have := ok.2 a w hw
          refine ⟨by have := this.1; simp only [List.length_append, List.length_singleton]; omega, this.2.1, ?_⟩
          rw [this.2.2, fromE, fromE, List.filter_append, List.map_append, List.filter_cons_of_neg (by simp; omega)]
          simp
      have hroom : Room 8 (o1[(f.edges.l[v].from_).toNat].l ++ ([i] : List Int)).length := by
        unfold Room
        have := hok.1
        simp only [List.length_append, List.length_singleton, List.length_take] at this ⊢
        omega
      by_cases hkk : o1[(f.edges.l[v].from_).toNat].k = true
      · rw [if_pos hkk, if_pos hroom, if_pos (inr_of (by omega) (by omega))]
        exact out_loop hes hlen k (v + 1) (i + 1) _ (by omega) (by omega) (by omega) hok'
      · rw [if_neg hkk, if_pos hroom, if_pos (inr_of (by omega) (by omega))]
        exact out_loop hes hlen k (v + 1) (i + 1) _ (by omega) (by omega) (by omega) hok'
    · rw [if_neg h]
      have : v = f.edges.l.length := by omega
      subst this
      rw [List.take_length] at ok
      exact ⟨_, _, rfl, ok⟩
theorem outer_ok (hes : ∀ e ∈ f.edges.l, edgeOk f.locs m e) (hlen : f.edges.l.length ≤ 100000) {N : Nat} (hN : f.edges.l.length + 1 ≤ N) {o1 : List (Rs Int)} (ok : OutOk f o1 f.edges.l) : ∀ (k v : Nat) (i : Int) (σ : Sg) (w : Rs Int), i = (v : Int) → v ≤ σ.length → f.locs.toNat + 1 ≤ v + k → Iv f m σ → w.l = σ.map Prod.fst →
    (∃ σ' w' u, runP f.edges.l k v σ = some σ' ∧ Iv f m σ' ∧ held_find_L10 f o1 N k i σ w = some (.e2 u σ' w')) ∨ (runP f.edges.l k v σ = none ∧ ∃ a b, held_find_L10 f o1 N k i σ w = some (.r a b))
  | 0, v, i, σ, w, hi, hv, hk, iv, hw => by have := iv.len; omega
  | k + 1, v, i, σ, w, hi, hv, hk, iv, hw => by
    have hlen' := iv.len
    unfold held_find_L10 runP
    have hsl : (Rs.sl w).l = w.l := rfl
    rw [hsl, hw]
    by_cases h : i < ((σ.map Prod.fst).length : Int)
    · rw [if_pos h]
      have hv' : v < σ.length := by simp at h; omega
      have hr := iv.rg _ (List.getElem_mem hv')
      have hb : (σ[v].1).toNat < o1.length := by rw [ok.1]; omega
      have hat : atI o1 σ[v].1 = some o1[(σ[v].1).toNat] := atI_of hr.1 (List.getElem?_eq_getElem hb)
      have hok := ok.2 _ _ (List.getElem?_eq_getElem hb)
      have hd : (((σ[v].1).toNat : Nat) : Int) = σ[v].1 := by omega
      rw [hd] at hok
      simp only [show atI (σ.map Prod.fst) i = (σ.map Prod.fst)[v]? by rw [hi, atI_nat], List.getElem?_map, List.getElem?_eq_getElem hv', Option.bind_some, Option.map_some]
      rw [if_pos (show 0 ≤ σ[v].1 ∧ σ[v].1 < (f.locs.toNat : Int) by omega), hat]
      simp only [Option.bind_some]
      have hfe : ∀ e ∈ fromE f.edges.l σ[v].1, edgeOk f.locs m e := fun e he => hes e (List.mem_filter.1 he).1
      rcases inner_ok hm hL (N := N) (o1 := o1) (v9 := i) hok.2.2 hok.2.1 hfe (by omega) N 0 0 σ w rfl (by omega) (by omega) iv hw with ⟨σ', w', u, h1, h2, h3⟩ | ⟨h1, a, b, h3⟩
      · rw [List.drop_zero] at h1
        rw [h3, h1]
        simp only [Option.bind_some]
        rw [if_pos (inr_of (by omega) (by omega))]
        obtain ⟨iv', τ, hτ⟩ := iv.steps hm hfe h1
        exact outer_ok hes hlen hN ok k (v + 1) (i + 1) σ' w' (by omega) (by rw [hτ, List.length_append]; omega) (by omega) iv' h2
      · rw [List.drop_zero] at h1
        rw [h3, h1]
        exact .inr ⟨rfl, _, _, rfl⟩
    · rw [if_neg h]
      have hv' : σ[v]? = none := List.getElem?_eq_none (by simp at h; omega)
      rw [hv']
      exact .inl ⟨σ, w, _, rfl, iv, rfl⟩
end
def σ0 : Sg := [(0, O0)]
theorem iv0 {f : GFlow} {m : Nat} (hL : 1 ≤ f.locs) : Iv f m σ0 := by
  refine ⟨by simp [σ0], by simp [σ0], fun p hp => ?_, fun p hp i => ?_, fun p hp i hi => ?_⟩
  · simp only [σ0, List.mem_singleton] at hp; subst hp; exact ⟨by simp, by simp; omega⟩
  · simp only [σ0, List.mem_singleton] at hp; subst hp; rw [O0_get]; simp [σ0]
  · simp only [σ0, List.mem_singleton] at hp; subst hp; exact O0_get i
/-- What held.find comes to. -/
theorem find_ok {f : GFlow} {m : Int} {N : Nat} (hlen : f.edges.l.length ≤ 100000) (hN : f.edges.l.length + 1 ≤ N) (hN2 : 601 ≤ N) :
    (¬ Shaped f m ∧ held_find N f m = some .r_2) ∨ (Shaped f m ∧ ((∃ o1 σ w, runP f.edges.l N 0 σ0 = some σ ∧ Iv f m.toNat σ ∧ held_find N f m = some (.r_1 o1 σ w)) ∨ (runP f.edges.l N 0 σ0 = none ∧ ∃ o1 o2 o3, held_find N f m = some (.r o1 o2 o3)))) := by
  unfold held_find
  rw [held_shaped f m hN hlen]
  by_cases hs : Shaped f m
  · refine .inr ⟨hs, ?_⟩
    obtain ⟨hb, hes⟩ := hs
    have hm : (m.toNat : Int) = m := by omega
    have hes' : ∀ e ∈ f.edges.l, edgeOk f.locs (m.toNat : Int) e := by rw [hm]; exact hes
    rw [decide_eq_true (show Shaped f m from ⟨hb, hes⟩)]
    simp only [Option.bind_some, cond_true]
    rw [if_pos (by omega), if_pos (show Mk 24 f.locs.toNat by unfold Mk; omega)]
    obtain ⟨u, o1, h1, h2⟩ := out_loop (m := m.toNat) hes' hlen (N := N) N 0 0 (List.replicate f.locs.toNat (Rs.nil : Rs Int)) rfl (by omega) (by omega) ⟨by simp, fun a w hw => by
      rw [List.getElem?_replicate] at hw
      split at hw
      · cases hw; simp [Rs.nil, fromE]
      · cases hw⟩
    rw [h1]
    simp only [Option.bind_some]
    rcases outer_ok (f := f) (m := m.toNat) (by omega) (by omega) hes' hlen hN h2 N 0 0 σ0 ⟨true, [0]⟩ rfl (by simp [σ0]) (by omega) (iv0 hb.1) rfl with ⟨σ', w', u, g1, g2, g3⟩ | ⟨g1, a, b, g3⟩
    · have g3' : held_find_L10 f o1 N N 0 (putM ([] : List (Int × Held_owned)) (0 : Int) ({ a0 := 0, a1 := 0, a2 := 0, a3 := 0, a4 := 0, a5 := 0, a6 := 0, a7 := 0 } : Held_owned)) (⟨true, ([0] : List Int)⟩ : Rs Int) = some (.e2 u σ' w') := g3
      rw [g3']
      exact .inl ⟨_, _, _, g1, g2, rfl⟩
    · have g3' : held_find_L10 f o1 N N 0 (putM ([] : List (Int × Held_owned)) (0 : Int) ({ a0 := 0, a1 := 0, a2 := 0, a3 := 0, a4 := 0, a5 := 0, a6 := 0, a7 := 0 } : Held_owned)) (⟨true, ([0] : List Int)⟩ : Rs Int) = some (.r a b) := g3
      rw [g3']
      exact .inr ⟨g1, _, _, _, rfl⟩
  · refine .inl ⟨hs, ?_⟩
    rw [decide_eq_false hs]; rfl
end Go.Proofs.Ytkfmoodaplelnaa
