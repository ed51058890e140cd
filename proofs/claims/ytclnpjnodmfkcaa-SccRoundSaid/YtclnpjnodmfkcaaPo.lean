/-
  Part of the proof: printed by the session's own program out of the program's form, or typed; it states no claim by itself.
-/
import Derived.Test.YtclnpjnodmfkcaaAbs32
import Derived.Test.YtclnpjnodmfkcaaAn
set_option linter.unusedVariables false
namespace Go.Abs
open Go
theorem po_get {pre todo : List Int} {i : Nat} {a : Int} (h : todo[i]? = some a) : (dcells (pre ++ todo))[pre.length + i * 1]? = some (.c (cInt a)) := by
  have : (pre ++ todo)[pre.length + i]? = some a := by rw [List.getElem?_append_right (by omega), Nat.add_sub_cancel_left]; exact h
  have h2 := dcell_at (l := pre ++ todo) (c := cInt a) 0 rfl this
  have e : (pre.length + i) * Enc.sz Int + 0 = pre.length + i * 1 := by show (pre.length + i) * 1 + 0 = _; omega
  rw [e] at h2; exact h2
theorem appO_po (pre l l' : List Int) {b : Nat} (hb : 1 ≤ b) (h0 : l' ≠ []) (h : (l ++ l').length * b ≤ 140737488355328) :
    ((cells l').length = l'.length * 1 ∧ l'.length ≠ 0 ∧ roomy (l ++ l').length b = true) ∧ (span (dcells (pre ++ l)) pre.length (l.length * 1)).map (fun old => old ++ (cells l').map DV.c) = some (dcells (l ++ l')) ∧ l.length + l'.length = (l ++ l').length := by
  refine ⟨⟨cells_length _, fun hh => h0 (List.length_eq_zero_iff.1 hh), roomy_ok hb h⟩, ?_, by simp⟩
  have e : span (dcells (pre ++ l)) pre.length (l.length * 1) = some (dcells l) := by
    have h1 : (dcells pre).length = pre.length := by rw [dcells_length]; exact Nat.mul_one _
    have h2 : (dcells l).length = l.length := by rw [dcells_length]; exact Nat.mul_one _
    unfold span
    rw [dcells_append, if_pos (by rw [List.length_append]; omega), ← h1, List.drop_left, ← h2, Nat.mul_one, List.take_length]
  rw [e]
  show some (dcells l ++ dcells l') = _
  rw [dcells_append]
theorem shiftL_cells (n p : Nat) : ∀ cs : List CV, shiftL n p (cs.map DV.c) = cs.map DV.c
  | [] => rfl
  | c :: cs => by
    show shift n p (.c c) :: shiftL n p (cs.map DV.c) = .c c :: cs.map DV.c
    rw [shiftL_cells n p cs]; rfl
theorem shiftL_dcells {α : Type} [Enc α] (n p : Nat) (l : List α) : shiftL n p (dcells l) = dcells l := shiftL_cells n p _
theorem Sys.seq {X : Sys} {f nt : Nat} {Γ : List (Nat × Ctx)} {a b : Code} {s s1 s2 : S} {ex : Ex} (h1 : X.Go f nt Γ a s .normal s1) (h2 : X.Go f nt Γ b s1 ex s2) : X.Go f nt Γ (.seq a b) s ex s2 :=
  Ev.mono (Ev.and h1 h2) fun k h => by
    show (match codeD X.P (X.ev k) X.an f nt Γ k a s with | _ => _) = _
    simp only [codeD, h.1, h.2]
theorem eqD_bool {P : Program} {t : TypeId} (a b : Bool) (hg : P.eqGuardType P.depth t = false) (hu : P.underlying t = some .bool) : eqD P t (dB a) (dB b) = some (a == b) := by
  show (if P.eqGuardType P.depth t then none else eqV P 10000 t (.bool a) (.bool b)) = _
  rw [hg, if_neg (by simp), eqV]
  exact hu
theorem bool_eql {P : Program} {t : TypeId} (a b : Bool) (hg : P.eqGuardType P.depth t = false) (hu : P.underlying t = some .bool) : val ((eqD P t (dB a) (dB b)).map fun b => .c (.sc (.bool b))) = some { d := dB (a == b) } := by
  rw [eqD_bool a b hg hu]; rfl
theorem bool_neq {P : Program} {t : TypeId} (a b : Bool) (hg : P.eqGuardType P.depth t = false) (hu : P.underlying t = some .bool) : val ((eqD P t (dB a) (dB b)).map fun b => .c (.sc (.bool !b))) = some { d := dB (!(a == b)) } := by
  rw [eqD_bool a b hg hu]; rfl
theorem getO_left {t s : List Ob} {i v : Nat} {o : Ob} (h : getO t i v = some o) : getO (t ++ s) i v = some o := by
  unfold getO at h ⊢
  cases ht : t[i]? with
  | none => rw [ht] at h; cases h
  | some p =>
    rw [ht] at h
    rw [List.getElem?_append_left (List.getElem?_eq_some_iff.1 ht).1, ht]; exact h
theorem load_tl {P : Program} {t : TypeId} {front tl : List Ob} {j ver off : Nat} {o : Ob} {d : DV} (h : getO tl j ver = some o) (hd : part1 P t o.cs off = some d) : val (loadD P (front ++ tl) t (.pt (j + front.length) ver off)) = some { d := d } := by
  refine load_get (o := o) ?_ hd
  unfold getO at h ⊢
  rw [List.getElem?_append_right (by omega), Nat.add_sub_cancel]; exact h
theorem dcells_ints_drop : ∀ (l : List Int) (i : Nat), dcells (l.drop i) = (dcells l).drop i
  | [], i => by rw [List.drop_nil]; exact (List.drop_nil).symm
  | a :: l, 0 => rfl
  | a :: l, i + 1 => dcells_ints_drop l i
theorem clone_ok {P : Program} {t : TypeId} {st : List Ob} {id0 id ver i : Nat} {x : Bool} {l r : List Int} {o0 : Ob} (hs : st[id]? = some ⟨ver, dcells l ++ dcells r⟩) (h0 : st[id0]? = some o0)
    (hp : (match P.underlying t with | some (.slice e) => (P.info? e).map fun i => (zeroFits i, i.size, i.bytes) | _ => none) = some (true, 1, 8)) (h : l.drop i ≠ [] ∧ (l.drop i).length * 8 ≤ 140737488355328) :
    appendO P st id0 t t (.c (.sl false true (cells ([] : List Int)) 0)) (.ms id ver (0 + i * 1) (l.length - i) 1 x) = some { d := .ms id0 (o0.ver + 1) 0 (l.drop i).length 1 false, set := some (id0, ⟨o0.ver + 1, dcells (l.drop i)⟩) } := by
  unfold appendO
  split at hp
  · rename_i e hu
    simp only [hu]
    cases hi : P.info? e with
    | none => rw [hi] at hp; cases hp
    | some inf =>
      rw [hi] at hp
      simp only [Option.map_some, Option.some.injEq, Prod.mk.injEq] at hp
      obtain ⟨hz, hsz, hby⟩ := hp
      have hl : (dcells l).length = l.length := by rw [dcells_length]; exact Nat.mul_one _
      have hdl : (l.drop i).length = l.length - i := by simp
      have hpos : 0 < (l.drop i).length := List.length_pos_iff.2 h.1
      have hd : dcells (l.drop i) = (dcells l).drop i := dcells_ints_drop l i
      have hspan : span (dcells l ++ dcells r) (0 + i * 1) ((l.length - i) * 1) = some (dcells (l.drop i)) := by
        unfold span
        rw [Nat.zero_add, Nat.mul_one, Nat.mul_one, if_pos (by rw [List.length_append]; omega), List.drop_append_of_le_length (by omega), List.take_append_of_le_length (by rw [List.length_drop]; omega), ← hd, List.take_of_length_le]
        rw [dcells_length]; show (l.drop i).length * 1 ≤ _; omega
      have hg : getO st id ver = some ⟨ver, dcells l ++ dcells r⟩ := by simp [getO, hs]
      have hel : elemsD st inf.size (.ms id ver (0 + i * 1) (l.length - i) 1 x) = some (l.length - i, dcells (l.drop i)) := by
        simp only [elemsD, hg, hsz, if_true, hspan, Option.map_some]
      have hun : (dcells (l.drop i)).map unflag = dcells (l.drop i) := by
        unfold dcells
        rw [List.map_map]; rfl
      have hroom : roomy (0 + (l.length - i)) inf.bytes = true := by
        rw [hby, Nat.zero_add, ← hdl]; exact roomy_ok (by omega) h.2
      simp only [hz, hel, Bool.not_true, Bool.false_eq_true, if_false]
      rw [if_neg (by omega), if_pos ⟨hroom, by simp [cells]⟩]
      simp only [lay, h0, Option.map_some, hun, hsz]
      have e4 : 0 + (l.length - i) = (l.drop i).length := by omega
      rw [e4]; rfl
  · cases hp
theorem closeL_dcells {α : Type} [Enc α] (l : List α) : closeL (dcells l) = some (cells l) := by
  unfold dcells
  generalize cells l = cs
  induction cs with
  | nil => rfl
  | cons c cs ih =>
    show (match some c, closeL (cs.map DV.c) with | some a, some b => some (a :: b) | _, _ => none) = _
    rw [ih]
theorem freeze_ok {st : List Ob} {id ver n : Nat} {x : Bool} {l : List Int} (h : st[id]? = some ⟨ver, dcells l⟩) (hn : l.length = n) : freezeD st (.ms id ver 0 n 1 x) = some { d := .c (.sl false x (cells l) l.length), set := some (id, ⟨ver + 1, []⟩) } := by
  subst hn
  have hg : getO st id ver = some ⟨ver, dcells l⟩ := by simp [getO, h]
  have hl : (dcells l).length = l.length * 1 := dcells_length l
  have hs : span (dcells l) 0 (l.length * 1) = some (dcells l) := by
    have := span_pre (dcells l) []
    rw [List.append_nil, hl] at this
    exact this
  simp only [freezeD, hg, hs, Option.bind_some, closeL_dcells]
end Go.Abs

set_option maxRecDepth 100000
namespace Go.Proofs.Ytclnpjnodmfkcaa
open Go Go.Abs Go.Proofs
def RepEv (k n : Nat) : Prop := (X.ev (k + 60)).call [] 38 [.c (.sl false true (cells ([(-1)] : List Int)) 1), dInt (n : Int)] ⟨[], []⟩ = some (.ms 0 1 0 n 1 true, ⟨[⟨1, dcells (List.replicate n (-1 : Int))⟩], []⟩)
theorem rep0 (k : Nat) : RepEv k 0 := by unfold RepEv; kernel_rfl
theorem rep1 (k : Nat) : RepEv k 1 := by unfold RepEv; kernel_rfl
theorem rep2 (k : Nat) : RepEv k 2 := by unfold RepEv; kernel_rfl
theorem rep3 (k : Nat) : RepEv k 3 := by unfold RepEv; kernel_rfl
theorem rep4 (k : Nat) : RepEv k 4 := by unfold RepEv; kernel_rfl
theorem rep5 (k : Nat) : RepEv k 5 := by unfold RepEv; kernel_rfl
theorem rep6 (k : Nat) : RepEv k 6 := by unfold RepEv; kernel_rfl
theorem rep7 (k : Nat) : RepEv k 7 := by unfold RepEv; kernel_rfl
theorem rep8 (k : Nat) : RepEv k 8 := by unfold RepEv; kernel_rfl
theorem rep9 (k : Nat) : RepEv k 9 := by unfold RepEv; kernel_rfl
theorem rep10 (k : Nat) : RepEv k 10 := by unfold RepEv; kernel_rfl
theorem rep11 (k : Nat) : RepEv k 11 := by unfold RepEv; kernel_rfl
theorem rep12 (k : Nat) : RepEv k 12 := by unfold RepEv; kernel_rfl
theorem rep13 (k : Nat) : RepEv k 13 := by unfold RepEv; kernel_rfl
theorem rep14 (k : Nat) : RepEv k 14 := by unfold RepEv; kernel_rfl
theorem rep15 (k : Nat) : RepEv k 15 := by unfold RepEv; kernel_rfl
theorem rep16 (k : Nat) : RepEv k 16 := by unfold RepEv; kernel_rfl
theorem rep17 (k : Nat) : RepEv k 17 := by unfold RepEv; kernel_rfl
theorem rep18 (k : Nat) : RepEv k 18 := by unfold RepEv; kernel_rfl
theorem rep19 (k : Nat) : RepEv k 19 := by unfold RepEv; kernel_rfl
theorem rep20 (k : Nat) : RepEv k 20 := by unfold RepEv; kernel_rfl
theorem rep21 (k : Nat) : RepEv k 21 := by unfold RepEv; kernel_rfl
theorem rep22 (k : Nat) : RepEv k 22 := by unfold RepEv; kernel_rfl
theorem rep23 (k : Nat) : RepEv k 23 := by unfold RepEv; kernel_rfl
theorem rep24 (k : Nat) : RepEv k 24 := by unfold RepEv; kernel_rfl
theorem rep25 (k : Nat) : RepEv k 25 := by unfold RepEv; kernel_rfl
theorem rep26 (k : Nat) : RepEv k 26 := by unfold RepEv; kernel_rfl
theorem rep27 (k : Nat) : RepEv k 27 := by unfold RepEv; kernel_rfl
theorem rep28 (k : Nat) : RepEv k 28 := by unfold RepEv; kernel_rfl
theorem rep29 (k : Nat) : RepEv k 29 := by unfold RepEv; kernel_rfl
theorem rep30 (k : Nat) : RepEv k 30 := by unfold RepEv; kernel_rfl
theorem rep31 (k : Nat) : RepEv k 31 := by unfold RepEv; kernel_rfl
theorem rep32 (k : Nat) : RepEv k 32 := by unfold RepEv; kernel_rfl
theorem rep33 (k : Nat) : RepEv k 33 := by unfold RepEv; kernel_rfl
theorem rep34 (k : Nat) : RepEv k 34 := by unfold RepEv; kernel_rfl
theorem rep35 (k : Nat) : RepEv k 35 := by unfold RepEv; kernel_rfl
theorem rep36 (k : Nat) : RepEv k 36 := by unfold RepEv; kernel_rfl
theorem rep37 (k : Nat) : RepEv k 37 := by unfold RepEv; kernel_rfl
theorem rep38 (k : Nat) : RepEv k 38 := by unfold RepEv; kernel_rfl
theorem rep39 (k : Nat) : RepEv k 39 := by unfold RepEv; kernel_rfl
theorem rep40 (k : Nat) : RepEv k 40 := by unfold RepEv; kernel_rfl
theorem rep_ev (k : Nat) : ∀ n, n ≤ 40 → RepEv k n
  | 0, _ => rep0 k
  | 1, _ => rep1 k
  | 2, _ => rep2 k
  | 3, _ => rep3 k
  | 4, _ => rep4 k
  | 5, _ => rep5 k
  | 6, _ => rep6 k
  | 7, _ => rep7 k
  | 8, _ => rep8 k
  | 9, _ => rep9 k
  | 10, _ => rep10 k
  | 11, _ => rep11 k
  | 12, _ => rep12 k
  | 13, _ => rep13 k
  | 14, _ => rep14 k
  | 15, _ => rep15 k
  | 16, _ => rep16 k
  | 17, _ => rep17 k
  | 18, _ => rep18 k
  | 19, _ => rep19 k
  | 20, _ => rep20 k
  | 21, _ => rep21 k
  | 22, _ => rep22 k
  | 23, _ => rep23 k
  | 24, _ => rep24 k
  | 25, _ => rep25 k
  | 26, _ => rep26 k
  | 27, _ => rep27 k
  | 28, _ => rep28 k
  | 29, _ => rep29 k
  | 30, _ => rep30 k
  | 31, _ => rep31 k
  | 32, _ => rep32 k
  | 33, _ => rep33 k
  | 34, _ => rep34 k
  | 35, _ => rep35 k
  | 36, _ => rep36 k
  | 37, _ => rep37 k
  | 38, _ => rep38 k
  | 39, _ => rep39 k
  | 40, _ => rep40 k
  | n + 41, h => absurd h (by omega)
theorem rep_runs {n : Nat} (h : n ≤ 40) : X.Runs [] 38 [.c (.sl false true (cells ([(-1)] : List Int)) 1), dInt (n : Int)] ⟨[], []⟩ (.ms 0 1 0 n 1 true) ⟨[⟨1, dcells (List.replicate n (-1 : Int))⟩], []⟩ :=
  ⟨60, fun k hk => by
    obtain ⟨j, rfl⟩ : ∃ j, k = j + 60 := ⟨k - 60, by omega⟩
    exact rep_ev j n h⟩
end Go.Proofs.Ytclnpjnodmfkcaa
