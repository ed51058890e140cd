/-
  Abs31: lists and structures as cells; what is told of operations on them, and why it is so.
-/
import Derived.Test.YtkfmoodaplelnaaAbs30
set_option linter.unusedVariables false
set_option linter.unusedSimpArgs false
set_option linter.unusedSectionVars false
namespace Go.Abs
open Go
variable [Fl]


/-- Values as cells; the same, as it unfolds. -/
class Enc (α : Type) where
  sz : Nat
  enc : α → List CV
  len : ∀ a, (enc a).length = sz
class EncX (α : Type) [Enc α] where
  encX : α → List CV
  eq : ∀ a, encX a = Enc.enc a
open Enc EncX
def cells {α : Type} [Enc α] (l : List α) : List CV := l.flatMap enc
def cellsX {α : Type} [Enc α] [EncX α] (l : List α) : List CV := l.flatMap encX
def dcells {α : Type} [Enc α] (l : List α) : List DV := (cells l).map .c
/-- A slice that nobody writes. -/
structure Sl (α : Type) where
  nl : Bool
  x : Bool
  l : List α
def eSl {α : Type} [Enc α] (s : Sl α) : CV := .sl s.nl s.x (cells s.l) s.l.length
def eSlX {α : Type} [Enc α] [EncX α] (s : Sl α) : CV := .sl s.nl s.x (cellsX s.l) s.l.length
def Sl.nil {α : Type} : Sl α := ⟨true, true, []⟩
def Sl.of {α : Type} (x : Bool) (l : List α) : Sl α := ⟨false, x, l⟩
/-- A list that was grown from nil on. -/
def Sl.gr {α : Type} (l : List α) : Sl α := ⟨l.isEmpty, l.isEmpty, l⟩
instance {α : Type} : Inhabited (Sl α) := ⟨Sl.nil⟩
instance : Enc Int := ⟨1, fun n => [cInt n], fun _ => rfl⟩
instance : EncX Int := ⟨fun n => [cInt n], fun _ => rfl⟩
instance : Enc Bool := ⟨1, fun b => [.sc (.bool b)], fun _ => rfl⟩
instance : EncX Bool := ⟨fun b => [.sc (.bool b)], fun _ => rfl⟩
instance : Enc ByteArray := ⟨1, fun b => [.sc (.string b)], fun _ => rfl⟩
instance : EncX ByteArray := ⟨fun b => [.sc (.string b)], fun _ => rfl⟩
instance {α : Type} [Enc α] : Enc (Sl α) := ⟨1, fun s => [eSl s], fun _ => rfl⟩
instance {α : Type} [Enc α] : EncX (Sl α) := ⟨fun s => [eSl s], fun _ => rfl⟩
/-- A list that grows by append, from nil on. -/
def apl {α : Type} [Enc α] (l : List α) : DV := .ap l.isEmpty (cells l) l.length (sz α)
/-- A list that grows by append, not nil. -/
def apf {α : Type} [Enc α] (l : List α) : DV := .ap false (cells l) l.length (sz α)

section
variable {α : Type} [Enc α] [EncX α]
theorem cellsX_eq (l : List α) : cellsX l = cells l := by
  unfold cellsX cells
  congr 1
  funext a; exact EncX.eq a
theorem eSlX_eq (s : Sl α) : eSlX s = eSl s := by simp only [eSlX, eSl, cellsX_eq]
theorem lenX (a : α) : (encX a).length = sz α := by rw [EncX.eq, len]
theorem cells_cons (a : α) (l : List α) : cells (a :: l) = enc a ++ cells l := rfl
theorem cells_append (l l' : List α) : cells (l ++ l') = cells l ++ cells l' := by simp [cells]
theorem cells_length (l : List α) : (cells l).length = l.length * sz α := by
  induction l with
  | nil => simp [cells]
  | cons a l ih => rw [cells_cons, List.length_append, ih, len, List.length_cons]; rw [Nat.add_mul]; omega
theorem dcells_length (l : List α) : (dcells l).length = l.length * sz α := by simp [dcells, cells_length]
theorem cells_drop : ∀ {l : List α} {i : Nat} {a : α}, l[i]? = some a → ∃ r, (cells l).drop (i * sz α) = enc a ++ r
  | [], i, a, h => by simp at h
  | b :: l, 0, a, h => by
    simp at h; subst h
    exact ⟨cells l, by simp [cells_cons]⟩
  | b :: l, i + 1, a, h => by
    obtain ⟨r, hr⟩ := cells_drop (l := l) (i := i) (a := a) (by simpa using h)
    refine ⟨r, ?_⟩
    rw [cells_cons, show (i + 1) * sz α = (enc b).length + i * sz α by rw [len, Nat.add_mul]; omega, ← List.drop_drop, List.drop_left, hr]
theorem cell_at {l : List α} {i : Nat} {a : α} {c : CV} (fo : Nat) (hc : (encX a)[fo]? = some c) (h : l[i]? = some a) : (cells l)[i * sz α + fo]? = some c := by
  obtain ⟨r, hr⟩ := cells_drop h
  rw [EncX.eq] at hc
  rw [← List.getElem?_drop, hr, List.getElem?_append_left ((List.getElem?_eq_some_iff.1 hc).1), hc]
theorem span_at {l : List α} {i : Nat} {a : α} (fo k : Nat) (hk : fo + k ≤ sz α) (h : l[i]? = some a) : span (cells l) (i * sz α + fo) k = some (((encX a).drop fo).take k) := by
  have hi : i < l.length := (List.getElem?_eq_some_iff.1 h).1
  have hle : (i + 1) * sz α ≤ l.length * sz α := Nat.mul_le_mul_right _ hi
  rw [Nat.add_mul] at hle
  obtain ⟨r, hr⟩ := cells_drop h
  unfold span
  rw [EncX.eq, if_pos (by rw [cells_length]; omega), ← List.drop_drop, hr, List.drop_append_of_le_length (by rw [len]; omega), List.take_append_of_le_length (by rw [List.length_drop, len]; omega)]
theorem dcell_at {l : List α} {i : Nat} {a : α} {c : CV} (fo : Nat) (hc : (encX a)[fo]? = some c) (h : l[i]? = some a) : (dcells l)[i * sz α + fo]? = some (.c c) := by
  unfold dcells
  rw [List.getElem?_map, cell_at fo hc h]; rfl
theorem span_map {l : List CV} {off k : Nat} {r : List CV} (h : span l off k = some r) : span (l.map DV.c) off k = some (r.map .c) := by
  unfold span at h ⊢
  split at h
  · rename_i hle
    cases h
    rw [if_pos (by simpa using hle)]
    simp
  · cases h
theorem dspan_at {l : List α} {i : Nat} {a : α} (fo k : Nat) (hk : fo + k ≤ sz α) (h : l[i]? = some a) : span (dcells l) (i * sz α + fo) k = some ((((encX a).drop fo).take k).map .c) := span_map (span_at fo k hk h)

theorem setL_length {β : Type} : ∀ (vs l : List β) (off : Nat), (setL l off vs).length = l.length
  | [], l, off => rfl
  | v :: vs, l, off => by simp [setL, setL_length vs]
theorem setL_append_right {β : Type} : ∀ (vs p l : List β) (off : Nat), setL (p ++ l) (p.length + off) vs = p ++ setL l off vs
  | [], p, l, off => rfl
  | v :: vs, p, l, off => by
    simp only [setL]
    have e : (p ++ l).set (p.length + off) v = p ++ l.set off v := by rw [List.set_append, if_neg (by omega), show p.length + off - p.length = off by omega]
    rw [e, show p.length + off + 1 = p.length + (off + 1) by omega, setL_append_right vs]
theorem setL_append_left {β : Type} : ∀ (vs p l : List β) (off : Nat), off + vs.length ≤ p.length → setL (p ++ l) off vs = setL p off vs ++ l
  | [], p, l, off, _ => rfl
  | v :: vs, p, l, off, h => by
    simp only [List.length_cons] at h
    simp only [setL]
    have e : (p ++ l).set off v = p.set off v ++ l := by rw [List.set_append, if_pos (by omega)]
    rw [e, setL_append_left vs _ l (off + 1) (by simp; omega)]
/-- An element's cells are written. -/
theorem dset_at {a a' : α} (fo : Nat) (vs : List DV) (hv : setL ((encX a).map DV.c) fo vs = (encX a').map DV.c) (hl : fo + vs.length ≤ sz α) : ∀ {l : List α} {i : Nat}, l[i]? = some a → setL (dcells l) (i * sz α + fo) vs = dcells (l.set i a')
  | [], i, h => by simp at h
  | b :: l, 0, h => by
    simp at h; subst h
    rw [EncX.eq, EncX.eq] at hv
    simp only [dcells, cells_cons, List.map_append, Nat.zero_mul, Nat.zero_add, List.set_cons_zero]
    rw [setL_append_left _ _ _ _ (by simp [len, hl]), hv]
  | b :: l, i + 1, h => by
    have ih := dset_at fo vs hv hl (l := l) (i := i) (by simpa using h)
    simp only [dcells, cells_cons, List.map_append, List.set_cons_succ] at ih ⊢
    rw [show (i + 1) * sz α + fo = ((enc b).map DV.c).length + (i * sz α + fo) by rw [List.length_map, len, Nat.add_mul]; omega, setL_append_right, ih]
theorem replD_cells {a : α} (n : Nat) (z : List DV) (h : z = (encX a).map DV.c) : replD n z = dcells (List.replicate n a) := by
  subst h
  rw [EncX.eq]
  unfold replD dcells cells
  induction n with
  | zero => rfl
  | succ n ih => simp [List.replicate_succ, ih]
theorem dcells_append (l l' : List α) : dcells (l ++ l') = dcells l ++ dcells l' := by simp [dcells, cells_append]
theorem span_pre {β : Type} (l r : List β) : span (l ++ r) 0 l.length = some l := by
  unfold span
  rw [if_pos (by simp)]; simp
theorem span_all {β : Type} (l : List β) {n : Nat} (h : n = l.length) : span l 0 n = some l := by
  subst h
  have := span_pre l []
  rwa [List.append_nil] at this
theorem closeList_map (n : Nat) (st : List Ob) : ∀ cs : List CV, closeList (closeD (n + 1) st) (cs.map .c) = some cs
  | [] => rfl
  | c :: cs => by simp only [List.map_cons, closeList, closeList_map n st cs, closeD]
theorem closeListK_map (k n : Nat) (st : List Ob) : ∀ cs : List CV, closeList (closeK k (n + 1) st) (cs.map .c) = some cs
  | [] => rfl
  | c :: cs => by simp only [List.map_cons, closeList, closeListK_map k n st cs, closeK]
/-- A slice of an object of the callee's, handed back. -/
theorem closeD_ms {st : List Ob} {id ver n : Nat} {x : Bool} {l : List α} (hn : n = l.length) (k : Nat) (ho : getO st id ver = some ⟨ver, dcells l⟩) : closeD (k + 2) st (.ms id ver 0 n (sz α) x) = some (.sl false x (cells l) l.length) := by
  subst hn
  simp only [closeD, ho]
  rw [span_all (dcells l) (by rw [dcells_length])]
  simp only [Option.bind_some]
  unfold dcells
  rw [closeList_map]; rfl
theorem closeK_ms {st : List Ob} {k0 id ver n : Nat} {x : Bool} {l : List α} (hk : k0 ≤ id) (hn : n = l.length) (k : Nat) (ho : getO st id ver = some ⟨ver, dcells l⟩) : closeK k0 (k + 2) st (.ms id ver 0 n (sz α) x) = some (.sl false x (cells l) l.length) := by
  subst hn
  simp only [closeK, ho]
  rw [if_neg (by omega), span_all (dcells l) (by rw [dcells_length])]
  simp only [Option.bind_some]
  unfold dcells
  rw [closeListK_map]; rfl
theorem closeTop_ms {st : List Ob} {id ver n : Nat} {x : Bool} {l : List α} (hn : n = l.length) (ho : getO st id ver = some ⟨ver, dcells l⟩) : closeTop st (.ms id ver 0 n (sz α) x) = some (.c (eSl (Sl.of x l))) := by
  simp only [closeTop]
  rw [closeD_ms hn 7 ho]; rfl
theorem closeTopK_ms {st : List Ob} {k0 id ver n : Nat} {x : Bool} {l : List α} (hk : k0 ≤ id) (hn : n = l.length) (ho : getO st id ver = some ⟨ver, dcells l⟩) : closeTopK k0 st (.ms id ver 0 n (sz α) x) = some (.c (eSl (Sl.of x l))) := by
  simp only [closeTopK]
  rw [closeK_ms hk hn 7 ho]; rfl

theorem closeList_nil (f : DV → Option CV) : closeList f [] = some [] := rfl
theorem closeList_cons {f : DV → Option CV} {d : DV} {c : CV} {ds : List DV} {cs : List CV} (h : f d = some c) (h2 : closeList f ds = some cs) : closeList f (d :: ds) = some (c :: cs) := by simp only [closeList, h, h2]
theorem closeD_agg {n : Nat} {st : List Ob} {ds : List DV} {cs : List CV} (h : closeList (closeD n st) ds = some cs) : closeD (n + 1) st (.agg ds) = some (.agg cs) := by simp only [closeD, h, Option.map_some]
theorem closeK_agg {k n : Nat} {st : List Ob} {ds : List DV} {cs : List CV} (h : closeList (closeK k n st) ds = some cs) : closeK k (n + 1) st (.agg ds) = some (.agg cs) := by simp only [closeK, h, Option.map_some]
theorem closeTop_agg {st : List Ob} {ds : List DV} {c : CV} (h : closeD 9 st (.agg ds) = some c) : closeTop st (.agg ds) = some (.c c) := by simp only [closeTop, h, Option.map_some]
theorem closeTopK_agg {k : Nat} {st : List Ob} {ds : List DV} {c : CV} (h : closeK k 9 st (.agg ds) = some c) : closeTopK k st (.agg ds) = some (.c c) := by simp only [closeTopK, h, Option.map_some]
theorem closeTop_tup {st : List Ob} {ds : List DV} {cs : List CV} (h : closeList (closeD 9 st) ds = some cs) : closeTop st (.tup ds) = some (.tup (cs.map .c)) := by simp only [closeTop, h, Option.map_some]
theorem closeTopK_tup {k : Nat} {st : List Ob} {ds : List DV} {cs : List CV} (h : closeList (closeK k 9 st) ds = some cs) : closeTopK k st (.tup ds) = some (.tup (cs.map .c)) := by simp only [closeTopK, h, Option.map_some]
/-! ### what is told, and why it is so -/
theorem boolOut {b v : Bool} (h : b = v) : (some ({ d := dB b } : Out)) = some { d := dB v } := by rw [h]
theorem cell_atB {l : List α} {i : Nat} {a : α} {b v : Bool} (fo : Nat) (hc : (encX a)[fo]? = some (.sc (.bool b))) (h : l[i]? = some a) (hb : b = v) : (cells l)[i * sz α + fo]? = some (.sc (.bool v)) := by rw [← hb]; exact cell_at fo hc h
theorem dcell_at' {l : List α} {i : Nat} {a : α} {c : CV} (fo : Nat) (hc : (encX a)[fo]? = some c) (h : l[i]? = some a) : (dcells l)[0 + i * sz α + fo]? = some (.c c) := by rw [Nat.zero_add]; exact dcell_at fo hc h
theorem dcell_atB {l : List α} {i : Nat} {a : α} {b v : Bool} (fo : Nat) (hc : (encX a)[fo]? = some (.sc (.bool b))) (h : l[i]? = some a) (hb : b = v) : (dcells l)[0 + i * sz α + fo]? = some (dB v) := by rw [← hb]; exact dcell_at' fo hc h
theorem dspan_at' {l : List α} {i : Nat} {a : α} (fo k : Nat) (hk : fo + k ≤ sz α) (h : l[i]? = some a) : span (dcells l) (0 + i * sz α + fo) k = some ((((encX a).drop fo).take k).map .c) := by rw [Nat.zero_add]; exact dspan_at fo k hk h
theorem in_cells {l : List α} {i fo k : Nat} (h : i < l.length) (hk : fo + k ≤ sz α) : 0 + i * sz α + fo + k ≤ (dcells l).length := by
  rw [dcells_length]
  have : (i + 1) * sz α ≤ l.length * sz α := Nat.mul_le_mul_right _ h
  rw [Nat.add_mul] at this; omega
theorem dst_part {l : List α} {i : Nat} {a : α} (fo : Nat) (vs : List DV) (a' : α) (h : l[i]? = some a) (hv : setL ((encX a).map DV.c) fo vs = (encX a').map DV.c) (hl : fo + vs.length ≤ sz α) :
    0 + i * sz α + fo + vs.length ≤ (dcells l).length ∧ setL (dcells l) (0 + i * sz α + fo) vs = dcells (l.set i a') :=
  ⟨in_cells (List.getElem?_eq_some_iff.1 h).1 hl, by rw [Nat.zero_add]; exact dset_at fo vs hv hl h⟩
theorem setL_full {β : Type} : ∀ (l r : List β), r.length = l.length → setL l 0 r = r := by
  have key : ∀ (r p l : List β), r.length = l.length → setL (p ++ l) p.length r = p ++ r := by
    intro r
    induction r with
    | nil => intro p l h; cases l with | nil => rfl | cons _ _ => simp at h
    | cons x r ih =>
      intro p l h
      cases l with
      | nil => simp at h
      | cons y l =>
        simp only [setL]
        have e : (p ++ y :: l).set p.length x = (p ++ [x]) ++ l := by rw [List.set_append, if_neg (by omega)]; simp
        rw [e, show p.length + 1 = (p ++ [x]).length by simp, ih (p ++ [x]) l (by simpa using h)]
        simp
  intro l r h
  exact key r [] l h
theorem dst_all {l : List α} {i : Int} (a' : α) (h : 0 ≤ i ∧ i < (l.length : Int)) : 0 + i.toNat * sz α + ((encX a').map DV.c).length ≤ (dcells l).length ∧ setL (dcells l) (0 + i.toNat * sz α) ((encX a').map DV.c) = dcells (l.set i.toNat a') := by
  have hi : i.toNat < l.length := by omega
  have hg : l[i.toNat]? = some l[i.toNat] := List.getElem?_eq_getElem hi
  exact dst_part 0 ((encX a').map DV.c) a' hg (setL_full _ _ (by simp [lenX])) (by simp [lenX])
theorem wrap_in {n : Int} (h : InR n) : IntKind.i64.wrap n = n := by unfold InR at h; rw [IntKind.wrap_i64]; omega
theorem conv_i64 {n : Int} (h : InR n) : some ({ d := .c (.sc (.int .i64 (IntKind.i64.wrap n))) } : Out) = some { d := dInt n } := by rw [wrap_in h]; rfl
theorem bytes_ext {a b : ByteArray} (h : a.toList = b.toList) : a = b := by
  have h' : a.data.toList = b.data.toList := by rw [← ByteArray.toList_eq, ← ByteArray.toList_eq, h]
  cases a; cases b
  simp only [ByteArray.mk.injEq] at h' ⊢
  exact Array.toList_inj.1 h'
theorem str_eql_true {a b : ByteArray} (h : a = b) : some ({ d := .c (.sc (.bool (a.toList == b.toList))) } : Out) = some { d := dB true } := by subst h; simp [dB]
theorem str_eql_false {a b : ByteArray} (h : ¬ a = b) : some ({ d := .c (.sc (.bool (a.toList == b.toList))) } : Out) = some { d := dB false } := by
  have : (a.toList == b.toList) = false := by
    rw [beq_eq_false_iff_ne]
    exact fun hh => h (bytes_ext hh)
  rw [this]; rfl
theorem str_neq_true {a b : ByteArray} (h : ¬ a = b) : some ({ d := .c (.sc (.bool !(a.toList == b.toList))) } : Out) = some { d := dB true } := by
  have : (a.toList == b.toList) = false := by
    rw [beq_eq_false_iff_ne]
    exact fun hh => h (bytes_ext hh)
  rw [this]; rfl
theorem str_neq_false {a b : ByteArray} (h : a = b) : some ({ d := .c (.sc (.bool !(a.toList == b.toList))) } : Out) = some { d := dB false } := by subst h; simp [dB]
def Mk (b n : Nat) : Prop := b * n ≤ 281474976710656 ∧ n ≤ 9223372036854775807
instance (b n : Nat) : Decidable (Mk b n) := inferInstanceAs (Decidable (_ ∧ _))
instance (n : Int) : Decidable (InR n) := inferInstanceAs (Decidable (_ ∧ _))
theorem mk_ok (z : α) {b n : Nat} (h : Mk b n) : (0 ≤ (n : Int) ∧ (n : Int) ≤ (n : Int) ∧ (n : Int) ≤ 9223372036854775807 ∧ (b : Int) * (n : Int) ≤ 281474976710656) ∧ replD n ((encX z).map DV.c) = dcells (List.replicate n z) ∧ ((n : Int) == (n : Int)) = true := by
  refine ⟨⟨by omega, by omega, by have := h.2; omega, ?_⟩, replD_cells n _ rfl, by simp⟩
  have h1 := h.1
  have : ((b * n : Nat) : Int) ≤ 281474976710656 := by omega
  simpa using this
/-- Any length that is not below 0. -/
theorem mk_okI (z : α) {b : Nat} {n : Int} (h0 : 0 ≤ n) (h : Mk b n.toNat) : (0 ≤ n ∧ n ≤ n ∧ n ≤ 9223372036854775807 ∧ (b : Int) * n ≤ 281474976710656) ∧ replD n.toNat ((encX z).map DV.c) = dcells (List.replicate n.toNat z) ∧ (n == n) = true := by
  obtain ⟨k, rfl⟩ := Int.eq_ofNat_of_zero_le h0
  have := mk_ok z h
  simpa using this
def Room (b n : Nat) : Prop := n * b ≤ 140737488355328
instance (b n : Nat) : Decidable (Room b n) := inferInstanceAs (Decidable (_ ≤ _))
theorem roomy_ok {n b : Nat} (hb : 1 ≤ b) (h : Room b n) : roomy n b = true := by
  unfold Room at h
  have : n * 1 ≤ n * b := Nat.mul_le_mul_left _ hb
  simp [roomy]; omega
/-- Appended to a list that was grown from nil on: elements as they unfold; a slice's elements. -/
theorem apl_lit (l l' : List α) {b : Nat} (hb : 1 ≤ b) (h : Room b (l ++ l').length) :
    (((cellsX l').length = l'.length * sz α ∧ (cells l).length = l.length * sz α) ∧ roomy (l ++ l').length b = true) ∧ cells l ++ cellsX l' = cells (l ++ l') ∧ l.length + l'.length = (l ++ l').length ∧ (l.isEmpty && l'.length == 0) = (l ++ l').isEmpty := by
  refine ⟨⟨⟨by rw [cellsX_eq, cells_length], cells_length _⟩, roomy_ok hb h⟩, by rw [cellsX_eq, cells_append], by simp, ?_⟩
  cases l <;> cases l' <;> simp
theorem apl_sl (l l' : List α) {b : Nat} (hb : 1 ≤ b) (h : Room b (l ++ l').length) :
    (((cells l').length = l'.length * sz α ∧ (cells l).length = l.length * sz α) ∧ roomy (l ++ l').length b = true) ∧ cells l ++ cells l' = cells (l ++ l') ∧ l.length + l'.length = (l ++ l').length ∧ (l.isEmpty && l'.length == 0) = (l ++ l').isEmpty := by
  have := apl_lit l l' hb h
  rwa [cellsX_eq] at this
theorem apf_lit (l l' : List α) {b : Nat} (hb : 1 ≤ b) (h : Room b (l ++ l').length) :
    (((cellsX l').length = l'.length * sz α ∧ (cells l).length = l.length * sz α) ∧ roomy (l ++ l').length b = true) ∧ cells l ++ cellsX l' = cells (l ++ l') ∧ l.length + l'.length = (l ++ l').length ∧ (false && l'.length == 0) = false :=
  ⟨⟨⟨by rw [cellsX_eq, cells_length], cells_length _⟩, roomy_ok hb h⟩, by rw [cellsX_eq, cells_append], by simp, rfl⟩
theorem apf_sl (l l' : List α) {b : Nat} (hb : 1 ≤ b) (h : Room b (l ++ l').length) :
    (((cells l').length = l'.length * sz α ∧ (cells l).length = l.length * sz α) ∧ roomy (l ++ l').length b = true) ∧ cells l ++ cells l' = cells (l ++ l') ∧ l.length + l'.length = (l ++ l').length ∧ (false && l'.length == 0) = false := by
  have := apf_lit l l' hb h
  rwa [cellsX_eq] at this
/-- Appended to a slice at its capacity: at least one element. -/
theorem apx_lit (l l' : List α) (h0 : l'.length ≠ 0) {b : Nat} (hb : 1 ≤ b) (h : Room b (l ++ l').length) :
    l'.length ≠ 0 ∧ (((cellsX l').length = l'.length * sz α ∧ (cells l).length = l.length * sz α) ∧ roomy (l ++ l').length b = true) ∧ cells l ++ cellsX l' = cells (l ++ l') ∧ l.length + l'.length = (l ++ l').length :=
  ⟨h0, ⟨⟨by rw [cellsX_eq, cells_length], cells_length _⟩, roomy_ok hb h⟩, by rw [cellsX_eq, cells_append], by simp⟩
theorem appN_ok (l : List α) {b : Nat} (hb : 1 ≤ b) (h : Room b l.length) : (cells l).length = l.length * sz α ∧ roomy l.length b = true := ⟨cells_length _, roomy_ok hb h⟩
theorem slc {len : Nat} {l h : Int} (h1 : 0 ≤ l ∧ l ≤ h ∧ h ≤ (len : Int)) : boundsD len (some (dInt l)) (some (dInt h)) none = some (l.toNat, h.toNat, none) := by
  simp only [boundsD, intD, dInt, cInt, Option.bind_some, Option.getD_none]
  rw [if_pos (by omega)]
  simp only
  rw [if_pos (by omega)]; simp
theorem slc_hi {len : Nat} {h : Int} (hh : 0 ≤ h ∧ h ≤ (len : Int)) : boundsD len none (some (dInt h)) none = some (0, h.toNat, none) := by
  simp only [boundsD, intD, dInt, cInt, Option.bind_some, Option.getD_none]
  rw [if_pos hh]; simp
theorem slc_lo {len : Nat} {l : Int} (hh : 0 ≤ l ∧ l ≤ (len : Int)) : boundsD len (some (dInt l)) none none = some (l.toNat, len, none) := by
  simp only [boundsD, intD, dInt, cInt, Option.bind_some]
  rw [if_pos hh]; simp
theorem cells_span {l : List α} {a b : Nat} (h : a ≤ b ∧ b ≤ l.length) : span (cells l) (a * sz α) ((b - a) * sz α) = some (cells ((l.drop a).take (b - a))) ∧ b - a = ((l.drop a).take (b - a)).length := by
  refine ⟨?_, by simp; omega⟩
  unfold span
  have h1 : (b - a) * sz α + a * sz α ≤ l.length * sz α := by rw [← Nat.add_mul]; exact Nat.mul_le_mul_right _ (by omega)
  rw [if_pos (by rw [cells_length]; omega)]
  congr 1
  have hd : ∀ (k : Nat) (l : List α), k ≤ l.length → (cells l).drop (k * sz α) = cells (l.drop k) ∧ (cells l).take (k * sz α) = cells (l.take k) := fun k l hk => by
    have e : cells l = cells (l.take k) ++ cells (l.drop k) := by rw [← cells_append, List.take_append_drop]
    have el : (cells (l.take k)).length = k * sz α := by rw [cells_length, List.length_take, Nat.min_eq_left hk]
    rw [e]
    constructor
    · rw [← el, List.drop_left]
    · rw [← el, List.take_left]
  rw [(hd a l (by omega)).1, (hd (b - a) (l.drop a) (by simp; omega)).2]
end

theorem slc_b {l h : Int} {n : Nat} (hh : 0 ≤ l ∧ l ≤ h ∧ h ≤ (n : Int)) : l.toNat ≤ h.toNat ∧ h.toNat ≤ n := by omega
theorem slc_blo {l : Int} {n : Nat} (hh : 0 ≤ l ∧ l ≤ (n : Int)) : l.toNat ≤ n ∧ n ≤ n := by omega
theorem slc_bhi {h : Int} {n : Nat} (hh : 0 ≤ h ∧ h ≤ (n : Int)) : 0 ≤ h.toNat ∧ h.toNat ≤ n := by omega
/-- An element by a Go index. -/
def atI {α : Type} (l : List α) (i : Int) : Option α := if 0 ≤ i then l[i.toNat]? else none
theorem atI_g {α : Type} {l : List α} {i : Int} {a : α} (h : atI l i = some a) : l[i.toNat]? = some a := by
  unfold atI at h
  split at h
  · exact h
  · cases h
theorem atI_b {α : Type} {l : List α} {i : Int} {a : α} (h : atI l i = some a) : 0 ≤ i ∧ i < (l.length : Int) := by
  unfold atI at h
  split at h
  · have := (List.getElem?_eq_some_iff.1 h).1; omega
  · cases h
@[simp] theorem atI_nat {α : Type} (l : List α) (i : Nat) : atI l (i : Int) = l[i]? := by simp [atI]
theorem getset {α : Type} {l : List α} {i : Nat} {a b : α} (h : l[i]? = some a) : (l.set i b)[i]? = some b := by
  have := (List.getElem?_eq_some_iff.1 h).1
  rw [List.getElem?_set, if_pos rfl, if_pos this]
theorem dst_partS {α : Type} [Enc α] [EncX α] {l : List α} {i : Nat} {a0 a : α} (fo : Nat) (vs : List DV) (a' : α) (h : l[i]? = some a0) (hv : setL ((encX a).map DV.c) fo vs = (encX a').map DV.c) (hl : fo + vs.length ≤ sz α) :
    0 + i * sz α + fo + vs.length ≤ (dcells (l.set i a)).length ∧ setL (dcells (l.set i a)) (0 + i * sz α + fo) vs = dcells (l.set i a') := by
  obtain ⟨h1, h2⟩ := dst_part fo vs a' (getset (b := a) h) hv hl
  exact ⟨h1, by rw [h2, List.set_set]⟩
theorem map_unflag' (cs : List CV) : (cs.map DV.c).map unflag = cs.map DV.c := by simp [unflag, Function.comp_def]
theorem copy_ok {α : Type} [Enc α] [EncX α] {P : Program} {t e : TypeId} {st : List Ob} {id ver n : Nat} {x nl yx : Bool} {l l' : List α} (ht : P.underlying t = some (.slice e)) (hs : sizeT P e = some (sz α)) (ho : st[id]? = some ⟨ver, dcells l⟩) (hn : n = l.length) (hy : l'.length = n) :
    copyD P st t (.ms id ver 0 n (sz α) x) (.c (.sl nl yx (cells l') l'.length)) = some { d := dInt (n : Nat), set := some (id, ⟨ver, dcells l'⟩) } := by
  subst hy
  have hlen : (cells l').length = l'.length * sz α := cells_length _
  have hlen2 : (dcells l).length = l'.length * sz α := by rw [dcells_length, hn]
  simp only [copyD, ht, hs, getO_of ho rfl, elemsD, hlen, if_true, Nat.min_self]
  rw [if_pos ⟨trivial, by rw [hlen2]; omega⟩]
  rw [List.take_of_length_le (by simp [hlen]), map_unflag', setL_full _ _ (by simp [hlen, hlen2])]
  rfl
theorem eqD_bool {P : Program} {t : TypeId} (a b : Bool) (hg : P.eqGuardType P.depth t = false) (hu : P.underlying t = some .bool) : eqD P t (dB a) (dB b) = some (a == b) := by
  show (if P.eqGuardType P.depth t then none else eqV P 10000 t (.bool a) (.bool b)) = _
  rw [hg, if_neg (by simp), eqV]
  exact hu
theorem bool_eql {P : Program} {t : TypeId} (a b : Bool) (hg : P.eqGuardType P.depth t = false) (hu : P.underlying t = some .bool) : val ((eqD P t (dB a) (dB b)).map fun b => .c (.sc (.bool b))) = some { d := dB (a == b) } := by
  rw [eqD_bool a b hg hu]; rfl
theorem bool_neq {P : Program} {t : TypeId} (a b : Bool) (hg : P.eqGuardType P.depth t = false) (hu : P.underlying t = some .bool) : val ((eqD P t (dB a) (dB b)).map fun b => .c (.sc (.bool !b))) = some { d := dB (!(a == b)) } := by
  rw [eqD_bool a b hg hu]; rfl

/-! ### '==' of structures whose parts are numbers, texts, bools -/
def scKind (P : Program) (t : TypeId) : Value → Bool
  | .int k _ => match P.underlying t with | some (.int k') => k == k' | _ => false
  | .string _ => match P.underlying t with | some .string => true | _ => false
  | .bool _ => match P.underlying t with | some .bool => true | _ => false
  | _ => false
def scEq : Value → Value → Bool
  | .int k a, .int k' b => k == k' && a == b
  | .string a, .string b => a.toList == b.toList
  | .bool a, .bool b => a == b
  | _, _ => false
def scEqs : List Value → List Value → Bool
  | [], [] => true
  | a :: as, b :: bs => scEq a b && scEqs as bs
  | _, _ => false
theorem scKind_int {P : Program} {t : TypeId} {k : IntKind} {a : Int} (h : scKind P t (.int k a) = true) : P.underlying t = some (.int k) := by
  simp only [scKind] at h
  split at h
  · rename_i k' hu
    have : k = k' := by simpa using h
    subst this; exact hu
  · cases h
theorem scKind_str {P : Program} {t : TypeId} {a : ByteArray} (h : scKind P t (.string a) = true) : P.underlying t = some .string := by
  simp only [scKind] at h
  split at h
  · rename_i hu; exact hu
  · cases h
theorem scKind_bool {P : Program} {t : TypeId} {a : Bool} (h : scKind P t (.bool a) = true) : P.underlying t = some .bool := by
  simp only [scKind] at h
  split at h
  · rename_i hu; exact hu
  · cases h
theorem eqV_sc {P : Program} {d : Nat} {t : TypeId} {x y : Value} (hx : scKind P t x = true) (hy : scKind P t y = true) : eqV P (d + 1) t x y = some (scEq x y) := by
  cases x with
  | int k a =>
    have hu := scKind_int hx
    cases y with
    | int k2 b =>
      have hv := scKind_int hy
      rw [hu] at hv; cases hv
      unfold eqV; simp [hu, scEq]
    | string b => have hv := scKind_str hy; rw [hu] at hv; cases hv
    | bool b => have hv := scKind_bool hy; rw [hu] at hv; cases hv
    | _ => cases hy
  | string a =>
    have hu := scKind_str hx
    cases y with
    | int k2 b => have hv := scKind_int hy; rw [hu] at hv; cases hv
    | string b => unfold eqV; simp [hu, scEq]
    | bool b => have hv := scKind_bool hy; rw [hu] at hv; cases hv
    | _ => cases hy
  | bool a =>
    have hu := scKind_bool hx
    cases y with
    | int k2 b => have hv := scKind_int hy; rw [hu] at hv; cases hv
    | string b => have hv := scKind_str hy; rw [hu] at hv; cases hv
    | bool b => unfold eqV; simp [hu, scEq]
    | _ => cases hy
  | _ => cases hx
/-- Fields one behind the other, each of one cell. -/
def flatF (P : Program) : Nat → List Field → List Value → List Value → Bool
  | _, [], [], [] => true
  | k, f :: fs, x :: xs, y :: ys => f.name != "_" && f.offset == k && scKind P f.type x && scKind P f.type y && flatF P (k + 1) fs xs ys
  | _, _, _, _ => false
theorem scKind_cut {P : Program} {t : TypeId} {x : Value} (hx : scKind P t x = true) (cs : Array Value) (i : Nat) : eqV.cut P t cs i = cs[i]? := by
  unfold eqV.cut
  cases x with
  | int k a => rw [scKind_int hx]
  | string a => rw [scKind_str hx]
  | bool a => rw [scKind_bool hx]
  | _ => cases hx
theorem eqF_flat {P : Program} {d : Nat} : ∀ (fs : List Field) (k : Nat) (ax ay xs ys : List Value), flatF P k fs xs ys = true → ax.drop k = xs → ay.drop k = ys → eqFw P (eqV P (d + 1)) ⟨ax⟩ ⟨ay⟩ fs = some (scEqs xs ys)
  | [], k, ax, ay, xs, ys, h, h1, h2 => by
    cases xs with
    | nil => cases ys with
      | nil => simp [eqFw, scEqs]
      | cons => cases h
    | cons => cases ys <;> cases h
  | f :: fs, k, ax, ay, xs, ys, h, h1, h2 => by
    cases xs with
    | nil => cases ys <;> cases h
    | cons x xs =>
      cases ys with
      | nil => cases h
      | cons y ys =>
        simp only [flatF, Bool.and_eq_true, bne_iff_ne, ne_eq, beq_iff_eq] at h
        obtain ⟨⟨⟨⟨hn, ho⟩, hx⟩, hy⟩, hr⟩ := h
        have gx : ax[k]? = some x := by have h0 := congrArg (·[0]?) h1; simpa using h0
        have gy : ay[k]? = some y := by have h0 := congrArg (·[0]?) h2; simpa using h0
        have tx : ax.drop (k + 1) = xs := by rw [← List.drop_drop, h1]; rfl
        have ty : ay.drop (k + 1) = ys := by rw [← List.drop_drop, h2]; rfl
        rw [eqFw, if_pos hn, ho, scKind_cut hx, scKind_cut hx]
        simp only [List.getElem?_toArray, gx, gy, eqV_sc hx hy, scEqs]
        cases hq : scEq x y with
        | true => simp only [Bool.true_and]; exact eqF_flat fs (k + 1) ax ay xs ys hr tx ty
        | false => simp
def flatT (P : Program) (t : TypeId) (xs ys : List Value) : Bool := match P.underlying t with
  | some (.struct fs) => !P.eqGuardType P.depth t && !P.stoodInHeld t && flatF P 0 fs.toList xs ys
  | _ => false
theorem eqD_flat {P : Program} {t : TypeId} {cx cy : List CV} {xs ys : List Value} (hx : scs cx = some xs) (hy : scs cy = some ys) (hf : flatT P t xs ys = true) :
    eqD P t (.c (.agg cx)) (.c (.agg cy)) = some (scEqs xs ys) := by
  unfold flatT at hf
  split at hf
  · rename_i fs hu
    simp only [Bool.and_eq_true, Bool.not_eq_true'] at hf
    obtain ⟨⟨hg, hp⟩, hf⟩ := hf
    simp only [eqD, toV, hx, hy, Option.map_some, hg]
    rw [if_neg (by simp), show (10000 : Nat) = 9998 + 1 + 1 from rfl, eqV]
    · simp only [hp]
      rw [if_neg (by simp)]
      exact eqF_flat _ 0 _ _ _ _ hf rfl rfl
    · exact hu
  · cases hf
theorem bytes_eq_iff (a b : ByteArray) : (a.toList == b.toList) = decide (a = b) := by
  by_cases h : a = b
  · subst h; simp
  · rw [decide_eq_false h, beq_eq_false_iff_ne]
    exact fun hh => h (bytes_ext hh)
theorem rec_eql_true {P : Program} {t : TypeId} {x y : DV} {p : Prop} [Decidable p] (h : eqD P t x y = some (decide p)) (hb : p) : val ((eqD P t x y).map fun b => .c (.sc (.bool b))) = some { d := dB true } := by rw [h, decide_eq_true hb]; rfl
theorem rec_eql_false {P : Program} {t : TypeId} {x y : DV} {p : Prop} [Decidable p] (h : eqD P t x y = some (decide p)) (hb : ¬p) : val ((eqD P t x y).map fun b => .c (.sc (.bool b))) = some { d := dB false } := by rw [h, decide_eq_false hb]; rfl
theorem rec_neq_true {P : Program} {t : TypeId} {x y : DV} {p : Prop} [Decidable p] (h : eqD P t x y = some (decide p)) (hb : ¬p) : val ((eqD P t x y).map fun b => .c (.sc (.bool !b))) = some { d := dB true } := by rw [h, decide_eq_false hb]; rfl
theorem rec_neq_false {P : Program} {t : TypeId} {x y : DV} {p : Prop} [Decidable p] (h : eqD P t x y = some (decide p)) (hb : p) : val ((eqD P t x y).map fun b => .c (.sc (.bool !b))) = some { d := dB false } := by rw [h, decide_eq_true hb]; rfl
/-- A text's byte by a Go index. -/
def byteI (s : ByteArray) (i : Int) : Option Int := if 0 ≤ i then (s[i.toNat]?).map fun b => (b.toNat : Int) else none
theorem byte_ix {s : ByteArray} {i v : Int} (h : byteI s i = some v) : val (if 0 ≤ i then (s[i.toNat]?).map fun b => DV.c (.sc (.int .u8 b.toNat)) else none) = some { d := .c (.sc (.int .u8 v)) } := by
  unfold byteI at h
  split at h
  · rename_i h0
    rw [Option.map_eq_some_iff] at h
    obtain ⟨b, hb, rfl⟩ := h
    rw [if_pos h0, hb]; rfl
  · cases h
theorem condT {α : Type} {a b x : α} (h : (bif true then a else b) = x) : a = x := h
theorem condF {α : Type} {a b x : α} (h : (bif false then a else b) = x) : b = x := h
theorem iteT {α : Type} {c : Prop} [Decidable c] {a b x : α} (hc : c) (h : (if c then a else b) = x) : a = x := by rwa [if_pos hc] at h
theorem iteF {α : Type} {c : Prop} [Decidable c] {a b x : α} (hc : ¬ c) (h : (if c then a else b) = x) : b = x := by rwa [if_neg hc] at h
theorem bindE {α β : Type} {o : Option α} {f : α → Option β} {r : β} (h : o.bind f = some r) : ∃ v, o = some v ∧ f v = some r := Option.bind_eq_some_iff.1 h
theorem neg_i64 {n : Int} (h : InR (0 - n)) : (unD .neg (dInt n)).map (fun d => ({ d := d } : Out)) = some { d := dInt (0 - n) } := by
  simp only [unD, dInt, cInt, wrap_in h, Option.map_some]
theorem str_add {P0 : Program} {t0 : TypeId} {a b : ByteArray} (h : (a ++ b).size ≤ 9223372036854775807) : val (binD P0 .add t0 (.c (.sc (.string a))) (.c (.sc (.string b)))) = some { d := .c (.sc (.string (a ++ b))) } := by
  simp only [binD, binS]
  rw [if_neg (by rw [ByteArray.size_append] at h; simp [IntKind.max, IntKind.signed, IntKind.bits]; omega)]
  rfl
theorem str_slc {P0 : Program} {t0 : TypeId} {st0 : List Ob} {s : ByteArray} {l h : Int} (hu : P0.underlying t0 = some .string) (hh : 0 ≤ l ∧ l ≤ h ∧ h ≤ (s.size : Int)) : val (sliceD P0 st0 t0 (.c (.sc (.string s))) (some (dInt l)) (some (dInt h)) none) = some { d := .c (.sc (.string (s.extract l.toNat h.toNat))) } := by
  have e : boundsD s.size (some (dInt l)) (some (dInt h)) none = some (l.toNat, h.toNat, none) := by
    unfold boundsD
    simp only [intD, dInt, cInt, Option.bind_some, Option.getD_none]
    rw [if_pos ⟨by omega, hh.2.2⟩]
    simp only
    rw [if_pos ⟨hh.1, by omega⟩]
    simp
  simp only [sliceD, hu, e, Option.map_some]; rfl
theorem str_slc_lo {P0 : Program} {t0 : TypeId} {st0 : List Ob} {s : ByteArray} {l : Int} (hu : P0.underlying t0 = some .string) (hh : 0 ≤ l ∧ l ≤ (s.size : Int)) : val (sliceD P0 st0 t0 (.c (.sc (.string s))) (some (dInt l)) none none) = some { d := .c (.sc (.string (s.extract l.toNat s.size))) } := by
  have e : boundsD s.size (some (dInt l)) none none = some (l.toNat, s.size, none) := by
    unfold boundsD
    simp only [intD, dInt, cInt, Option.bind_some]
    rw [if_pos hh]
    simp
  simp only [sliceD, hu, e, Option.map_some]; rfl
theorem str_slc_hi {P0 : Program} {t0 : TypeId} {st0 : List Ob} {s : ByteArray} {h : Int} (hu : P0.underlying t0 = some .string) (hh : 0 ≤ h ∧ h ≤ (s.size : Int)) : val (sliceD P0 st0 t0 (.c (.sc (.string s))) none (some (dInt h)) none) = some { d := .c (.sc (.string (s.extract 0 h.toNat))) } := by
  have e : boundsD s.size none (some (dInt h)) none = some (0, h.toNat, none) := by
    unfold boundsD
    simp only [intD, dInt, cInt, Option.bind_some, Option.getD_none]
    rw [if_pos ⟨hh.1, hh.2⟩]
    simp
  simp only [sliceD, hu, e, Option.map_some]; rfl
/-! ### objects as a call sees them -/
theorem locL_map (sel : List Nat) (st : List Ob) : ∀ cs : List CV, locL sel st (cs.map .c) = some (cs.map .c)
  | [] => rfl
  | c :: cs => by simp only [List.map_cons, locL, locD, locL_map sel st cs]
theorem locL_dcells {α : Type} [Enc α] (sel : List Nat) (st : List Ob) (l : List α) : locL sel st (dcells l) = some (dcells l) := locL_map _ _ _
theorem bkL_map (sel vs : List Nat) : ∀ cs : List CV, bkL sel vs (cs.map .c) = some (cs.map .c)
  | [] => rfl
  | c :: cs => by simp only [List.map_cons, bkL, bkD, bkL_map sel vs cs]
theorem bkL_dcells {α : Type} [Enc α] (sel vs : List Nat) (l : List α) : bkL sel vs (dcells l) = some (dcells l) := bkL_map _ _ _
theorem locS_nil (all : List Nat) (st : List Ob) : locS all st [] = some [] := rfl
theorem locS_cons {all : List Nat} {st : List Ob} {id : Nat} {ids : List Nat} {ver : Nat} {cs cs' : List DV} {os : List Ob} (h : st[id]? = some ⟨ver + 1, cs⟩) (h1 : locL all st cs = some cs') (h2 : locS all st ids = some os) : locS all st (id :: ids) = some (⟨1, cs'⟩ :: os) := by
  simp only [locS, h, h1, h2]
  rw [if_neg (by simp)]
theorem putBack_nil (sel vs : List Nat) (os st : List Ob) : putBack sel vs [] [] os st = some st := rfl
theorem putBack_cons {sel vs : List Nat} {id v ver : Nat} {ids ws : List Nat} {cs cs' : List DV} {os st st' st'' : List Ob} (h : bkL sel vs cs = some cs') (hs : st.set id ⟨v + (ver - 1), cs'⟩ = st') (h2 : putBack sel vs ids ws os st' = some st'') : putBack sel vs (id :: ids) (v :: ws) (⟨ver, cs⟩ :: os) st = some st'' := by
  simp only [putBack, h, hs, h2]

theorem shiftL_map (n p : Nat) : ∀ cs : List CV, shiftL n p (cs.map .c) = cs.map .c
  | [] => rfl
  | c :: cs => by simp only [List.map_cons, shiftL, shift, shiftL_map n p cs]
theorem shiftL_dcells {α : Type} [Enc α] (n p : Nat) (l : List α) : shiftL n p (dcells l) = dcells l := shiftL_map _ _ _
theorem shifts_nil (n p : Nat) : (([] : List Ob).map fun o => shiftO n p o) = [] := rfl
theorem shifts_cons {n p ver : Nat} {cs cs' : List DV} {st st' : List Ob} (h : shiftL n p cs = cs') (h2 : (st.map fun o => shiftO n p o) = st') : (((⟨ver, cs⟩ : Ob) :: st).map fun o => shiftO n p o) = ⟨ver, cs'⟩ :: st' := by
  simp only [List.map_cons, h2]
  rw [show shiftO n p ⟨ver, cs⟩ = ⟨ver, shiftL n p cs⟩ from rfl, h]
theorem below_cells (n : Nat) : ∀ cs : List CV, (cs.map DV.c).all (below n) = true
  | [] => rfl
  | c :: cs => by simp only [List.map_cons, List.all_cons, below_cells n cs, below, Bool.and_true]
theorem below_dcells {α : Type} [Enc α] (n : Nat) (l : List α) : (dcells l).all (below n) = true := below_cells n _
def AllB (n : Nat) (st : List Ob) : Prop := (st.all fun o => belowO n o) = true
theorem AllB.nil (n : Nat) : AllB n [] := rfl
theorem AllB.cons {n ver : Nat} {cs : List DV} {st : List Ob} (h : cs.all (below n) = true) (h' : AllB n st) : AllB n (⟨ver, cs⟩ :: st) := by
  unfold AllB at h' ⊢
  have h2 : belowO n ⟨ver, cs⟩ = cs.all (below n) := Bool.and_true _
  simp only [List.all_cons, h2, h, h', Bool.and_true]
theorem cut_ok {l : List Nat} {n : Nat} {fr : Nat → DV} {m : M} {st' : List Ob} (h1 : (l.all fun t => below n (fr t)) = true) (h2 : AllB n st') (h3 : m.st.take n = st') : cutS (some l) n ⟨fr, m⟩ = some ⟨restr l fr, ⟨st', m.pd⟩⟩ := by
  unfold AllB at h2
  simp only [cutS, h1, h3, h2, Bool.and_true, if_true]
theorem trim_ok {n : Nat} {d : DV} {m : M} {st' : List Ob} (h1 : below n d = true) (h2 : AllB n st') (h3 : m.st.take n = st') : trimM n d m = some ⟨st', m.pd⟩ := by
  unfold AllB at h2
  simp only [trimM, h1, h3, h2, Bool.and_true, if_true]
theorem endL_below {k : Nat} {d : DV} {st os : List Ob} (h1 : st.take k = os) (h2 : AllB k os) (h3 : decide (k ≤ st.length) = true) (h4 : below k d = true) : endL k d st = some (d, os) := by
  unfold AllB at h2
  simp only [endL, h1, h2, h3, h4, Bool.and_true, if_true]
theorem endL_close {k : Nat} {d d' : DV} {st os : List Ob} (h1 : st.take k = os) (h2 : AllB k os) (h3 : decide (k ≤ st.length) = true) (h4 : below k d = false) (h5 : closeTopK k st d = some d') : endL k d st = some (d', os) := by
  unfold AllB at h2
  simp only [endL, h1, h2, h3, h4, h5, Bool.and_true, if_true, Option.map_some, Bool.false_eq_true, if_false]
theorem Sys.Loop.goM {X : Sys} {f nt : Nat} {Γ : List (Nat × Ctx)} {a : Code} {m : Nat} {s s' : S} {ex : Ex} (h : X.Loop f nt Γ a m s ex s') (hm : s.m.st.length = m) : X.Go f nt Γ (.loop a) s ex s' := by
  subst hm; exact h.go
theorem Sys.runsL {X : Sys} {f : FuncId} {args : List DV} {st : List Ob} {d d' : DV} {m : M} {os : List Ob} (h : X.Runs [] f args ⟨st, []⟩ d' m) (hc : endL st.length d' m.st = some (d, os)) : X.RunsL f args st d os := ⟨d', m, h, hc⟩
theorem load_get {P : Program} {st : List Ob} {t : TypeId} {id ver off : Nat} {o : Ob} {d : DV} (h : getO st id ver = some o) (hd : part1 P t o.cs off = some d) : val (loadD P st t (.pt id ver off)) = some { d := d } := by
  simp only [loadD, h, hd, val, Option.map_some]

/-! ### annotations by tables -/
def has2 : List (Nat × Nat) → Nat → Nat → Bool
  | [], _, _ => false
  | (a, b) :: l, r, i => (Nat.beq a r && Nat.beq b i) || has2 l r i
def look2 {α : Type} : List (Nat × α) → Nat → Option α
  | [], _ => none
  | (a, x) :: l, r => bif Nat.beq a r then some x else look2 l r
def look3 {α : Type} : List ((Nat × Nat) × α) → Nat → Nat → Option α
  | [], _, _ => none
  | ((a, b), x) :: l, r, i => bif Nat.beq a r && Nat.beq b i then some x else look3 l r i
def anOf (mv fz abs own : Nat → List (Nat × Nat)) (id : Nat → List ((Nat × Nat) × Nat)) (n : Nat → List (Nat × Nat)) (live cut rs : Nat → List (Nat × List Nat)) (lc : Nat → List ((Nat × Nat) × List Nat)) (nz : Nat → List ((Nat × Nat) × List (Nat × Nat))) : An :=
  { mv := fun f => has2 (mv f), fz := fun f => has2 (fz f), abs := fun f => has2 (abs f), own := fun f => has2 (own f), id := fun f r i => (look3 (id f) r i).getD 0, n := fun f r => (look2 (n f) r).getD 0, live := fun f => look2 (live f), cut := fun f => look2 (cut f), rs := fun f => look2 (rs f), lc := fun f => look3 (lc f), nz := fun f r i => (look3 (nz f) r i).getD [] }
end Go.Abs
