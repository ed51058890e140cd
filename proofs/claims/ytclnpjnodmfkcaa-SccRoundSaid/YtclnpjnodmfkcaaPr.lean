/-
  slices.Sort, slices.Compact, slices.SortFunc at this dump, as the interpreter takes them.
-/
import Derived.Test.YtclnpjnodmfkcaaLays
import Derived.Test.YtclnpjnodmfkcaaAbs32
import Derived.Test.YtclnpjnodmfkcaaAn
import Derived.WalkKit
import Derived.Deep.RegionWith
set_option linter.unusedVariables false
set_option linter.unusedSimpArgs false
namespace Go.Proofs.Ytclnpjnodmfkcaa
open Go Go.Abs Go.Proofs Go.RowKit

theorem sorted_perm : ∀ {l l' : List Int}, l.Perm l' → l.Pairwise (· ≤ ·) → l'.Pairwise (· ≤ ·) → l = l'
  | [], l', hp, _, _ => by rw [List.nil_perm.1 hp]
  | a :: l, [], hp, _, _ => absurd hp.length_eq (by simp)
  | a :: l, b :: l', hp, h1, h2 => by
    have hab : a = b := by
      rw [List.pairwise_cons] at h1 h2
      rcases List.mem_cons.1 (hp.mem_iff.1 (List.mem_cons_self (a := a) (l := l))) with e | e
      · exact e
      · rcases List.mem_cons.1 (hp.mem_iff.2 (List.mem_cons_self (a := b) (l := l'))) with e' | e'
        · exact e'.symm
        · have h3 := h1.1 b e'
          have h4 := h2.1 a e
          omega
    subst hab
    rw [sorted_perm (List.perm_cons a |>.1 hp) (List.pairwise_cons.1 h1).2 (List.pairwise_cons.1 h2).2]
theorem ins_perm' (x : Int) : ∀ l, (ins x l).Perm (x :: l)
  | [] => .refl _
  | y :: l => by
    simp only [ins]
    split
    · exact .refl _
    · exact ((ins_perm' x l).cons y).trans (.swap x y l)
theorem isort_perm' : ∀ l, (isort l).Perm l
  | [] => .refl _
  | x :: l => (ins_perm' x _).trans ((isort_perm' l).cons x)
theorem ins_sorted' (x : Int) : ∀ {l : List Int}, l.Pairwise (· ≤ ·) → (ins x l).Pairwise (· ≤ ·)
  | [], _ => by simp [ins]
  | y :: l, h => by
    rw [List.pairwise_cons] at h
    simp only [ins]
    split
    · rename_i hxy
      rw [List.pairwise_cons]
      refine ⟨fun z hz => ?_, List.pairwise_cons.2 h⟩
      rcases List.mem_cons.1 hz with rfl | hz
      · exact hxy
      · have := h.1 z hz; omega
    · rename_i hxy
      rw [List.pairwise_cons]
      refine ⟨fun z hz => ?_, ins_sorted' x h.2⟩
      rcases List.mem_cons.1 ((ins_perm' x l).mem_iff.1 hz) with rfl | hz
      · omega
      · exact h.1 z hz
theorem isort_sorted' : ∀ l : List Int, (isort l).Pairwise (· ≤ ·)
  | [] => .nil
  | x :: l => ins_sorted' x (isort_sorted' l)
theorem mergeSort_isort (l : List Int) : (l.mergeSort fun x y => decide (x ≤ y)) = isort l := by
  refine sorted_perm ((List.mergeSort_perm l _).trans (isort_perm' l).symm) ?_ (isort_sorted' l)
  have := List.pairwise_mergeSort (le := fun (x y : Int) => decide (x ≤ y)) (by intro a b c; simp; omega) (by intro a b; simp; omega) l
  exact this.imp fun h => by simpa using h

/-- Of a run the first one stays. -/
def dd : Option Int → List Int → List Int
  | _, [] => []
  | p, x :: l => if p = some x then dd p l else x :: dd (some x) l
theorem dedup_dd : ∀ (x : Int) (l : List Int), dedup (x :: l) = x :: dd (some x) l
  | x, [] => rfl
  | x, y :: l => by
    simp only [dedup, dd]
    by_cases h : x = y
    · subst h; simp [dedup_dd x l]
    · rw [if_neg h, if_neg (by simpa using h), dedup_dd y l]
theorem dedup_dd' (l : List Int) : dedup l = dd none l := by
  cases l with
  | nil => rfl
  | cons x l => rw [dedup_dd]; simp [dd]
theorem dd_snoc (x : Int) : ∀ (p : Option Int) (l : List Int), dd p (l ++ [x]) = dd p l ++ if (l.getLast?.or p) = some x then [] else [x]
  | p, [] => by simp [dd]; split <;> simp_all
  | p, y :: l => by
    simp only [List.cons_append, dd]
    split
    · rename_i h
      rw [dd_snoc x p l, List.getLast?_cons]
      cases hl : l.getLast? <;> simp [h]
    · rw [dd_snoc x (some y) l, List.getLast?_cons]
      cases hl : l.getLast? <;> simp
theorem compact_dedup (zs : List Int) : Lib.compact zs = dedup zs := by
  have key : ∀ m, m ≤ zs.length → Lib.compactUpTo zs.toArray m = dd none (zs.take m) := by
    intro m
    induction m with
    | zero => intro _; rfl
    | succ m ih =>
      intro hm
      have hg : zs[m]? = some zs[m] := List.getElem?_eq_getElem (by omega)
      rw [Lib.compactUpTo_succ, ih (by omega), List.take_add_one, hg]
      simp only [Option.toList_some]
      rw [dd_snoc]
      congr 1
      have h1 : zs.toArray[m]! = zs[m] := by rw [getElem!_pos _ m (by simp; omega)]; simp
      by_cases h0 : m = 0
      · subst h0; simp [Lib.keeps, h1]
      · have h2 : (zs.take m).getLast? = some zs[m - 1] := by
          rw [List.getLast?_eq_getElem?, List.length_take, Nat.min_eq_left (by omega), List.getElem?_take_of_lt (by omega)]
          exact List.getElem?_eq_getElem (by omega)
        have h3 : zs.toArray[m - 1]! = zs[m - 1] := by rw [getElem!_pos _ (m - 1) (by simp; omega)]; simp
        rw [h2]
        simp only [Lib.keeps, h0, h1, h3, false_or, Option.or_some, Option.some.injEq]
        by_cases he : zs[m] = zs[m - 1]
        · simp [he]
        · have he' : ¬ zs[m - 1] = zs[m] := fun h => he h.symm
          simp [he, he']
  have := key zs.length (Nat.le_refl _)
  rw [List.take_length] at this
  rw [dedup_dd', ← this]; rfl

theorem sort_prim : PrimOk Try.prog 24 sortP := sort_ok (fun w => Try.slices_Sort_int_none none 0 w) fun blk off cap zs w hH hb hl => by
  have := Try.slices_Sort_int blk off cap zs w hH hb hl
  rw [mergeSort_isort] at this
  exact this
theorem compact_prim : PrimOk Try.prog 33 compactP := compact_ok (fun w => Try.slices_Compact_int_empty none 0 w) fun blk off cap zs w hH hl hc => by
  have := Try.slices_Compact_int blk off cap zs w hH hl hc
  rw [compact_dedup] at this
  exact this

set_option maxHeartbeats 1000000 in
/-- The closure of Comps: lists by their first numbers. -/
theorem closure31 (a b : Addr) (n m c d : Nat) (x y : Int) (W : World) (hn : 0 < n) (hm : 0 < m) (ha : W.cell? a = some (.int .i64 x)) (hb : W.cell? b = some (.int .i64 y)) :
    Calls Try.prog 31 #[.slice (some a) n c, .slice (some b) m d] W fun e w' => e = .returned (.int .i64 (Lib.compareInt x y)) ∧ ∃ q, w' = W.drewN q := by
  have hcon := fun w => Try.cmp_Compare_int x y w
  generalize Lib.compareInt x y = r at hcon ⊢
  go_enter Try.func31, Try.ntmps31
  go_wp2
  go_region_with (go_at_call 32; refine (hcon _).mono ?_; rintro e w' ⟨rfl, rfl⟩)
  all_goals (go_wp2; go_ret; exact ⟨rfl, 1, rfl⟩)

open Go.Sort Go.Lib in
theorem ltInt (x y : Int) : decide (Lib.compareInt x y < 0) = decide (x < y) := by
  unfold Lib.compareInt
  by_cases h1 : x < y
  · simp [h1]
  · by_cases h2 : y < x <;> simp [h1, h2]

open Go.Sort Go.Lib Go.Shelf in
theorem sortFunc_prim : PrimOk Try.prog 30 (sortFuncP 31) := sortFunc_ok (fun w fv => Try.slices_SortFunc_none (α := Int) none 0 fv w) fun n enc hd blk off cap w h1 hinj hcell hH hb hl => by
  have hlt : ∀ i j, ltOf (fun i j : Fin (n + 1) => Lib.compareInt (hd i) (hd j)) i j = decide (hd i < hd j) := fun i j => ltInt _ _
  have hO : SWO (ltOf (fun i j : Fin (n + 1) => Lib.compareInt (hd i) (hd j))) := {
    irrefl := fun x => by rw [hlt]; simp
    trans := fun x y z a b => by rw [hlt] at *; simp at *; omega
    ntrans := fun x y z a b => by rw [hlt] at *; simp at *; omega }
  have hT : ∀ x y, ltOf (fun i j : Fin (n + 1) => Lib.compareInt (hd i) (hd j)) x y = false → ltOf (fun i j : Fin (n + 1) => Lib.compareInt (hd i) (hd j)) y x = false → x = y := fun x y a b => by
    rw [hlt] at a b; simp at a b; exact hinj x y (by omega)
  have hcmp : CmpLays1 Try.prog 31 #[] enc (fun i j : Fin (n + 1) => Lib.compareInt (hd i) (hd j)) blk off (List.finRange (n + 1)).toArray.size w := fun m os dk hdk x y => by
    have hc : ∀ i, ∃ a ln cp, enc i = .slice (some a) ln cp ∧ 0 < ln ∧ (sortWorld enc w blk off m dk os).cell? a = some (.int .i64 (hd i)) := fun i => by
      obtain ⟨a, ln, cp, g1, g2, g3, g4⟩ := hcell i
      refine ⟨a, ln, cp, g1, g2, ?_⟩
      have hblk := World.block_lt_of_cell? _ _ g3
      have hsp : a.spot = none := by
        cases h : a.spot with
        | none => rfl
        | some s => rw [cell_spot h] at g3; cases g3
      show (Sort.grow (Sort.putRow enc (Sort.ahead w m) blk off dk) os).cell? a = _
      rw [cell?_grow _ _ _ (show a.block < (Sort.putRow enc (Sort.ahead w m) blk off dk).heap.size by show a.block < (w.heap.modify blk _).size; simpa using hblk), putRow_ahead, cell?_ahead, cell?_putRow_other]
      · exact g3
      · simp only [List.size_toArray, List.length_finRange] at hdk
        by_cases hx : a.block ≠ blk ∨ a.off < off ∨ off + dk.size ≤ a.off
        · exact hx
        · refine absurd ?_ (g4 (a.off - off) (by omega))
          cases a with
          | mk b o s =>
            simp only at hx hsp ⊢
            subst hsp
            congr 1 <;> omega
    obtain ⟨a, ln, cp, g1, g2, g3⟩ := hc x
    obtain ⟨b, ln', cp', k1, k2, k3⟩ := hc y
    rw [g1, k1]
    refine (closure31 a b ln ln' cp cp' (hd x) (hd y) _ g2 k2 g3 k3).mono fun e w' ⟨he, q, hw⟩ => ⟨he, q, #[], by rw [hw, grow_empty]⟩
  have eg : ∀ args w, (callFunc 31 args).run Try.prog w = .ok (.enter 31 args) w := enters_of Try.func31 (by kernel_rfl) rfl
  have := Try.slices_SortFunc enc h1 (fun i j : Fin (n + 1) => Lib.compareInt (hd i) (hd j)) hO 31 #[] blk off cap (List.finRange (n + 1)).toArray w eg hcmp hH hb (by simpa using hl)
  simp only [List.size_toArray, List.length_finRange] at this
  refine this.mono fun e w' ⟨he, d', m, os, hp, hs, hw⟩ => ⟨he, ?_⟩
  have hd' := sorted_unique_holds hO hT (List.finRange (n + 1)).toArray d' (by simpa using hp) (by simpa using hs)
  simp only [List.toList_toArray] at hd'
  refine ⟨(List.finRange (n + 1)).mergeSort fun x y => !(ltOf (fun i j : Fin (n + 1) => Lib.compareInt (hd i) (hd j)) y x), m, os, List.mergeSort_perm _ _, ?_, ?_⟩
  · have := List.pairwise_mergeSort (le := fun x y => !(ltOf (fun i j : Fin (n + 1) => Lib.compareInt (hd i) (hd j)) y x)) (by intro a b c; simp only [hlt]; simp; omega) (by intro a b; simp only [hlt]; simp; omega) (List.finRange (n + 1))
    exact this.imp fun h => by simp only [hlt] at h; simpa using h
  · rw [← hd', Array.toArray_toList, hw]; rfl

theorem prims_ok : ∀ f p, prims f = some p → PrimOk Try.prog f p := fun f p h => by
  unfold prims at h
  split at h <;> cases h
  · exact sort_prim
  · exact compact_prim
  · exact sortFunc_prim
end Go.Proofs.Ytclnpjnodmfkcaa
