/-
  Abs42: maps as lists of pairs (keys that are ints), lists of lists that are grown one by one, arrays; calls on the whole store.
-/
import Derived.Test.YtkfmoodaplelnaaAbs39
set_option linter.unusedVariables false
set_option linter.unusedSimpArgs false
set_option linter.unusedSectionVars false
namespace Go.Abs
open Go Go.RowKit
class EncD (α : Type) where
  cv : α → CV
def EncD.dv {α : Type} [EncD α] (a : α) : DV := .c (EncD.cv a)
instance : EncD Int := ⟨cInt⟩
instance : EncD Bool := ⟨fun b => .sc (.bool b)⟩
instance : EncD ByteArray := ⟨fun s => .sc (.string s)⟩
instance {α : Type} [Enc α] : EncD (Sl α) := ⟨eSl⟩
variable {κ α : Type}
def encM [EncD κ] [EncD α] (l : List (κ × α)) : List (DV × DV) := l.map fun p => (EncD.dv p.1, EncD.dv p.2)
def getM [DecidableEq κ] : List (κ × α) → κ → Option α
  | [], _ => none
  | (a, b) :: l, k => if a = k then some b else getM l k
def hasM [DecidableEq κ] (l : List (κ × α)) (k : κ) : Bool := (getM l k).isSome
def lookM [DecidableEq κ] (z : α) (l : List (κ × α)) (k : κ) : α := (getM l k).getD z
def putM [DecidableEq κ] : List (κ × α) → κ → α → List (κ × α)
  | [], k, v => [(k, v)]
  | (a, b) :: l, k, v => if a = k then (a, v) :: l else (a, b) :: putM l k v
def posM [DecidableEq κ] : List (κ × α) → κ → Option Nat
  | [], _ => none
  | (a, b) :: l, k => if a = k then some 0 else (posM l k).map (· + 1)
theorem findK_int [EncD α] (k : Int) : ∀ (l : List (Int × α)) (i : Nat), findK (.int .i64) (.int .i64 k) (encM l) i = some (match posM l k, getM l k with | some j, some v => some (i + j, EncD.dv v) | _, _ => none)
  | [], i => rfl
  | (a, b) :: l, i => by
    show findK (.int .i64) (.int .i64 k) ((.c (.sc (.int .i64 a)), EncD.dv b) :: encM l) i = _
    simp only [findK, sameK, if_true]
    by_cases h : a = k
    · subst h
      simp [posM, getM]
    · have h2 : (k == a) = false := by simp only [beq_eq_false_iff_ne]; exact fun hh => h hh.symm
      rw [h2]
      simp only [findK_int k l (i + 1), posM, getM, if_neg h]
      cases h3 : posM l k with
      | none => rfl
      | some j =>
        cases h4 : getM l k with
        | none => rfl
        | some v => simp only [Option.map_some]; congr 3; omega
theorem pos_get [DecidableEq κ] (k : κ) : ∀ l : List (κ × α), (posM l k).isSome = (getM l k).isSome
  | [] => rfl
  | (a, b) :: l => by
    simp only [posM, getM]
    by_cases h : a = k
    · simp [h]
    · simp only [if_neg h, Option.isSome_map]; exact pos_get k l
theorem put_enc [EncD α] (k : Int) (v : α) : ∀ l : List (Int × α), encM (putM l k v) = match posM l k with | some j => (encM l).set j (dInt k, EncD.dv v) | none => encM l ++ [(dInt k, EncD.dv v)]
  | [] => rfl
  | (a, b) :: l => by
    simp only [putM, posM]
    by_cases h : a = k
    · subst h; simp only [if_true]; rfl
    · simp only [if_neg h]
      have ih := put_enc k v l
      show (dInt a, EncD.dv b) :: encM (putM l k v) = _
      rw [ih]
      cases posM l k with
      | none => rfl
      | some j => rfl
section
variable {P : Program} {st : List Ob} {t et : TypeId} {id ver : Nat} [EncD α]
theorem mapT_int {k : Int} (h : (match P.underlying t with | some (.map kt e) => (match P.underlying kt with | some d => some (d, e) | none => none) | _ => none) = some (.int .i64, et)) : mapT P t (dInt k) = some (.int .i64, et, .int .i64 k) := by
  unfold mapT
  cases h1 : P.underlying t with
  | none => rw [h1] at h; cases h
  | some d =>
    rw [h1] at h
    cases d <;> try (cases h; done)
    rename_i kt e
    simp only at h
    cases h2 : P.underlying kt with
    | none => rw [h2] at h; cases h
    | some d' =>
      rw [h2] at h
      simp only [Option.some.injEq, Prod.mk.injEq] at h
      obtain ⟨rfl, rfl⟩ := h
      simp [dInt, cInt, h2, okKey]
theorem look2M_ok {l : List (Int × α)} {k : Int} {z : α} {b : Bool} (ht : (match P.underlying t with | some (.map kt e) => (match P.underlying kt with | some d => some (d, e) | none => none) | _ => none) = some (.int .i64, et)) (hz : zeroV P et = some (EncD.dv z)) (hg : getK st id ver = some (.map (encM l))) (hb : hasM l k = b) :
    val (lookD P st t (.mp id ver) (dInt k) true) = some { d := .tup [EncD.dv (lookM z l k), dB b] } := by
  subst hb
  simp only [lookD, mapT_int ht, hg, findK_int]
  have hp := pos_get k l
  cases h3 : posM l k <;> cases h4 : getM l k <;> rw [h3, h4] at hp <;> simp_all [val, lookM, hasM, dB]
theorem lookM_ok {l : List (Int × α)} {k : Int} {z : α} (ht : (match P.underlying t with | some (.map kt e) => (match P.underlying kt with | some d => some (d, e) | none => none) | _ => none) = some (.int .i64, et)) (hz : zeroV P et = some (EncD.dv z)) (hg : getK st id ver = some (.map (encM l))) :
    val (lookD P st t (.mp id ver) (dInt k) false) = some { d := EncD.dv (lookM z l k) } := by
  simp only [lookD, mapT_int ht, hg, findK_int]
  have hp := pos_get k l
  cases h3 : posM l k <;> cases h4 : getM l k <;> rw [h3, h4] at hp <;> simp_all [val, lookM, hasM, dB]
theorem putM_ok {l : List (Int × α)} {k : Int} {v : α} (ht : (match P.underlying t with | some (.map kt e) => (match P.underlying kt with | some d => some (d, e) | none => none) | _ => none) = some (.int .i64, et)) (hg : getK st id ver = some (.map (encM l))) :
    (putK P st t (.mp id ver) (dInt k) (EncD.dv v)).map (fun e => ({ d := .un, set := some e } : Out)) = some { d := .un, set := some (id, mkOb ver (.map (encM (putM l k v)))) } := by
  simp only [putK, mapT_int ht, hg, findK_int]
  have hp := pos_get k l
  rw [put_enc]
  cases h3 : posM l k <;> cases h4 : getM l k <;> rw [h3, h4] at hp <;> simp_all <;> rfl
end
theorem below_encM [EncD κ] [EncD α] (n : Nat) : ∀ l : List (κ × α), belowE n (encM l) = true
  | [] => rfl
  | p :: l => by
    show (below n (EncD.dv p.1) && below n (EncD.dv p.2) && belowE n (encM l)) = true
    rw [below_encM n l]; rfl
theorem shift_encM [EncD κ] [EncD α] (n p : Nat) : ∀ l : List (κ × α), shiftE n p (encM l) = encM l
  | [] => rfl
  | a :: l => by
    show (shift n p (EncD.dv a.1), shift n p (EncD.dv a.2)) :: shiftE n p (encM l) = _
    rw [shift_encM n p l]; rfl
theorem AllB.consM [EncD κ] [EncD α] {n ver : Nat} {l : List (κ × α)} {st : List Ob} (h' : AllB n st) : AllB n (mkOb ver (.map (encM l)) :: st) := by
  unfold AllB at h' ⊢
  have h2 : belowO n (mkOb ver (.map (encM l))) = true := by
    show (([] : List DV).all (below n) && belowE n (encM l)) = true
    rw [below_encM]; rfl
  simp only [List.all_cons, h2, h', Bool.and_true]
theorem shifts_consM [EncD κ] [EncD α] {n p ver : Nat} {l : List (κ × α)} {st st' : List Ob} (h2 : (st.map fun o => shiftO n p o) = st') : ((mkOb ver (.map (encM l)) :: st).map fun o => shiftO n p o) = mkOb ver (.map (encM l)) :: st' := by
  simp only [List.map_cons, h2]
  have : shiftO n p (mkOb ver (.map (encM l))) = mkOb ver (.map (encM l)) := by
    show ({ ver := ver, cs := [], mp := ⟨some (.map (shiftE n p (encM l)))⟩ } : Ob) = _
    rw [shift_encM]; rfl
  rw [this]
/-! ### slices that are grown: at their capacity (k), or with the right to what lies behind -/
structure Rs (α : Type) where
  k : Bool
  l : List α
variable [Enc α]
def rsl (s : Rs α) : DV := bif s.k then .c (.sl s.l.isEmpty true (cells s.l) s.l.length) else .ap false (cells s.l) s.l.length (Enc.sz α)
def Rs.sl (s : Rs α) : Sl α := ⟨s.k && s.l.isEmpty, s.k, s.l⟩
def Rs.nil : Rs α := ⟨true, []⟩
def rcells (L : List (Rs α)) : List DV := L.map rsl
theorem rsl_unflag (s : Rs α) : unflag (rsl s) = .c (eSl s.sl) := by
  obtain ⟨k, l⟩ := s; cases k <;> rfl
theorem rsl_t {s : Rs α} (h : s.k = true) : rsl s = .c (.sl s.l.isEmpty true (cells s.l) s.l.length) := by unfold rsl; rw [h]; rfl
theorem rsl_f {s : Rs α} (h : ¬ s.k = true) : rsl s = .ap false (cells s.l) s.l.length (Enc.sz α) := by unfold rsl; rw [eq_false_of_ne_true h]; rfl
theorem rcells_make (n : Nat) : replD n [DV.c (.sl true true [] 0)] = rcells (List.replicate n (Rs.nil : Rs α)) := by
  simp only [replD, rcells, List.map_replicate]
  induction n with
  | zero => rfl
  | succ n ih => rw [List.replicate_succ, List.replicate_succ, List.flatten_cons, ih]; rfl
theorem rcells_at {L : List (Rs α)} {i : Nat} {s : Rs α} (h : L[i]? = some s) : (rcells L)[i]? = some (rsl s) := by simp [rcells, h]
theorem shift_rsl (n p : Nat) (s : Rs α) : shift n p (rsl s) = rsl s := by obtain ⟨k, l⟩ := s; cases k <;> rfl
theorem below_rsl (n : Nat) (s : Rs α) : below n (rsl s) = true := by obtain ⟨k, l⟩ := s; cases k <;> rfl
theorem shift_rcells (n p : Nat) (L : List (Rs α)) : shiftL n p (rcells L) = rcells L := by
  induction L with
  | nil => rfl
  | cons l L ih =>
    show shift n p (rsl l) :: shiftL n p (rcells L) = rsl l :: rcells L
    rw [ih, shift_rsl]
theorem below_rcells (n : Nat) (L : List (Rs α)) : (rcells L).all (below n) = true := by
  simp [rcells, below_rsl]
theorem allc_nil (n : Nat) : ([] : List DV).all (below n) = true := rfl
theorem allc_cons {n : Nat} {d : DV} {ds : List DV} (h : below n d = true) (h' : ds.all (below n) = true) : (d :: ds).all (below n) = true := by simp only [List.all_cons, h, h', Bool.and_true]
theorem shl_nil (n p : Nat) : shiftL n p [] = [] := rfl
theorem shl_cons {n p : Nat} {d d' : DV} {ds ds' : List DV} (h : shift n p d = d') (h' : shiftL n p ds = ds') : shiftL n p (d :: ds) = d' :: ds' := by
  show shift n p d :: shiftL n p ds = _
  rw [h, h']
theorem mk_okG {b : Nat} {n : Int} (h0 : 0 ≤ n) (h : Mk b n.toNat) : (0 ≤ n ∧ n ≤ n ∧ n ≤ 9223372036854775807 ∧ (b : Int) * n ≤ 281474976710656) ∧ replD n.toNat [DV.c (.sl true true [] 0)] = rcells (List.replicate n.toNat (Rs.nil : Rs α)) ∧ (n == n) = true :=
  ⟨(mk_okI (0 : Int) h0 h).1, rcells_make _, by simp⟩
/-- A slice of these is read. -/
theorem loadR_ok {P : Program} {st : List Ob} {t : TypeId} {id ver off : Nat} {o : Ob} {s : Rs α} (ht : isAggT P t = some false) (h : st[id]? = some o) (hv : o.ver = ver) (hc : o.cs[off]? = some (rsl s)) : val (loadD P st t (.pt id ver off)) = some { d := .c (eSl s.sl) } := by
  refine load_get (o := o) (getO_of h hv) ?_
  simp only [part1, ht, hc, Option.map_some, rsl_unflag]
theorem rcell_at {L : List (Rs α)} {i : Nat} {s : Rs α} (h : L[i]? = some s) : (rcells L)[0 + i * 1 + 0]? = some (rsl s) := by
  rw [show 0 + i * 1 + 0 = i by omega]; exact rcells_at h
/-- One is moved out of a list of them, and back in when it was grown. -/
theorem lmv_t {L : List (Rs α)} {s : Rs α} {i : Nat} (h : L[i]? = some s) (hk : s.k = true) : (rcells L)[0 + i * 1 + 0]? = some (.c (.sl s.l.isEmpty true (cells s.l) s.l.length)) ∧ (rcells L).set (0 + i * 1 + 0) (.c (.sl s.l.isEmpty true (cells s.l) s.l.length)) = rcells L := by
  have h1 := rcell_at h
  rw [rsl_t hk] at h1
  exact ⟨h1, set_same h1⟩
theorem lmv_f {L : List (Rs α)} {s : Rs α} {i : Nat} (h : L[i]? = some s) (hk : ¬ s.k = true) : (rcells L)[0 + i * 1 + 0]? = some (.ap false (cells s.l) s.l.length (Enc.sz α)) ∧ (rcells L).set (0 + i * 1 + 0) (.c (.sl false false (cells s.l) s.l.length)) = (rcells L).set i (.c (.sl false false (cells s.l) s.l.length)) := by
  have h1 := rcell_at h
  rw [rsl_f hk] at h1
  exact ⟨h1, by rw [show 0 + i * 1 + 0 = i by omega]⟩
theorem rst_1 {L : List (Rs α)} {s : Rs α} {i : Nat} (h : L[i]? = some s) (l' : List α) : (0 + i * 1 + 0) + 1 ≤ (rcells L).length ∧ setL (rcells L) (0 + i * 1 + 0) [.ap false (cells l') l'.length (Enc.sz α)] = rcells (L.set i ⟨false, l'⟩) := by
  rw [show 0 + i * 1 + 0 = i by omega]
  have hl : i < L.length := (List.getElem?_eq_some_iff.1 h).1
  refine ⟨by simp [rcells]; omega, ?_⟩
  show (rcells L).set i _ = _
  simp only [rcells, List.map_set]; rfl
theorem rst_2 {L : List (Rs α)} {s : Rs α} {i : Nat} (h : L[i]? = some s) (d : DV) (l' : List α) : (0 + i * 1 + 0) + 1 ≤ ((rcells L).set i d).length ∧ setL ((rcells L).set i d) (0 + i * 1 + 0) [.ap false (cells l') l'.length (Enc.sz α)] = rcells (L.set i ⟨false, l'⟩) := by
  rw [show 0 + i * 1 + 0 = i by omega]
  have hl : i < L.length := (List.getElem?_eq_some_iff.1 h).1
  refine ⟨by simp [rcells]; omega, ?_⟩
  show ((rcells L).set i d).set i _ = _
  rw [List.set_set]
  simp only [rcells, List.map_set]; rfl
/-- A call on the whole store. -/
def Sys.RunsW (X : Sys) (f : FuncId) (args : List DV) (st : List Ob) (d : DV) (os : List Ob) : Prop := ∃ m1, X.Runs [] f args ⟨st, []⟩ d m1 ∧ trimM st.length d m1 = some ⟨os, []⟩
def FinW (X : Sys) (fn : Func) (k : Nat) (d : DV) (os : List Ob) (ex : Ex) (s : S) : Prop := isExit ex = false ∧ (resD X.P s fn.results.toList).map resOne = some d ∧ trimM k d s.m = some ⟨os, []⟩
theorem Sys.callW' {X : Sys} {f : FuncId} {fn : Func} {b : Code} {args : List DV} {st : List Ob} {k : Nat} {d : DV} {os : List Ob} (hf : X.P.funcs[f]? = some fn) (hb : fn.body = some b) (hk : st.length = k) (h : X.GoAt f fn.ntmps b (.at []) ⟨argFr args, ⟨st, []⟩⟩ (FinW X fn k d os)) : X.RunsW f args st d os := by
  obtain ⟨ex, s', hg, hx, hr, ht⟩ := Sys.goQ h
  subst hk
  exact ⟨s'.m, Sys.call hg hf hb hx hr rfl, ht⟩
/-! ### '==' of arrays of scalars -/
def flatL (P : Program) (e : TypeId) : List Value → List Value → Bool
  | [], [] => true
  | x :: xs, y :: ys => scKind P e x && scKind P e y && flatL P e xs ys
  | _, _ => false
theorem eqA_flat {P : Program} {d : Nat} {e : TypeId} : ∀ (m k : Nat) (ax ay xs ys : List Value), flatL P e xs ys = true → xs.length = m → ax.drop k = xs → ay.drop k = ys → eqAw P (eqV P (d + 1)) e 1 ⟨ax⟩ ⟨ay⟩ (List.range' k m) = some (scEqs xs ys)
  | 0, k, ax, ay, xs, ys, h, hm, h1, h2 => by
    have : xs = [] := List.length_eq_zero_iff.1 hm
    subst this
    cases ys with
    | nil => rfl
    | cons => cases h
  | m + 1, k, ax, ay, xs, ys, h, hm, h1, h2 => by
    cases xs with
    | nil => cases hm
    | cons x xs =>
      cases ys with
      | nil => cases h
      | cons y ys =>
        simp only [flatL, Bool.and_eq_true] at h
        obtain ⟨⟨hx, hy⟩, hr⟩ := h
        have gx : ax[k]? = some x := by have h0 := congrArg (·[0]?) h1; simpa using h0
        have gy : ay[k]? = some y := by have h0 := congrArg (·[0]?) h2; simpa using h0
        have tx : ax.drop (k + 1) = xs := by rw [← List.drop_drop, h1]; rfl
        have ty : ay.drop (k + 1) = ys := by rw [← List.drop_drop, h2]; rfl
        rw [List.range'_succ, eqAw, scKind_cut hx, scKind_cut hx]
        simp only [Nat.mul_one, List.getElem?_toArray, gx, gy, eqV_sc hx hy, scEqs]
        cases hq : scEq x y with
        | true => simp only [Bool.true_and]; exact eqA_flat m (k + 1) ax ay xs ys hr (by simpa using hm) tx ty
        | false => simp
def flatA (P : Program) (t : TypeId) (xs ys : List Value) : Bool := match P.underlying t with
  | some (.array n e) => !P.eqGuardType P.depth t && decide (xs.length = n) && (P.info? e).isSome && ((P.info? e).map (·.size) == some 1) && flatL P e xs ys
  | _ => false
theorem eqD_flatA {P : Program} {t : TypeId} {cx cy : List CV} {xs ys : List Value} (hx : scs cx = some xs) (hy : scs cy = some ys) (hf : flatA P t xs ys = true) :
    eqD P t (.c (.agg cx)) (.c (.agg cy)) = some (scEqs xs ys) := by
  unfold flatA at hf
  split at hf
  · rename_i n e hu
    simp only [Bool.and_eq_true, Bool.not_eq_true', decide_eq_true_eq] at hf
    obtain ⟨⟨⟨⟨hg, hl⟩, hi⟩, hs⟩, hf⟩ := hf
    obtain ⟨i, hi⟩ := Option.isSome_iff_exists.1 hi
    rw [hi] at hs
    have hs : i.size = 1 := by simpa using hs
    simp only [eqD, toV, hx, hy, Option.map_some, hg]
    rw [if_neg (by simp)]
    show eqV P (9998 + 1 + 1) t _ _ = _
    unfold eqV
    simp only [hu, hi, hs, List.range_eq_range']
    exact eqA_flat n 0 _ _ _ _ hf hl rfl rfl
  · cases hf
end Go.Abs
