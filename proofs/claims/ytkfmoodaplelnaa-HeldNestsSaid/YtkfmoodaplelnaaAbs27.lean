/-
  Part of the proof: printed by the session's own program out of the program's form, or typed; it states no claim by itself.
-/
import Derived.Test.YtkfmoodaplelnaaAbs24
/-
  Abs27: a law that answers true, and leaves what it was handed as it was.
-/
set_option linter.unusedVariables false
set_option linter.unusedSimpArgs false
set_option linter.unusedSectionVars false
namespace Go.Abs
open Go Go.ChangeShapes Go.WideShapes Go.ChangeAt Go.RowKit
variable [Fl]

section
variable {H : Type} {enc : TypeId × Value → H} {P : Program}

theorem trodAll_below (hl : laidOutB P = true) {W W' : World} (hb : Below W.heap.size W W') : ∀ {ts : List TypeId} {vs : List Value} {ds : List (DataW H)} {ps : List MemPlace}, (∀ t ∈ ts, P.readableRec t = true ∧ t < P.types.size) → (∀ x ∈ ps, x.block < W.heap.size) →
    DataW.TrodAll enc P W 0 (fun _ => true) true ts vs ds ps → DataW.TrodAll enc P W' 0 (fun b => decide (b < W.heap.size)) true ts vs ds ps
  | [], [], [], ps, _, _, h => h
  | t :: ts, v :: vs, d :: ds, ps, ht, hlt, h => by
    obtain ⟨p, q, h1, h2, rfl⟩ := h
    exact ⟨p, q, Below.trod hl (ht t (by simp)).1 (ht t (by simp)).2 h1 hb (fun x hx => hlt x (by simp [hx])), trodAll_below hl hb (fun t' ht' => ht t' (by simp [ht'])) (fun x hx => hlt x (by simp [hx])) h2, rfl⟩
  | [], [], _ :: _, _, _, _, h => h.elim
  | [], _ :: _, _, _, _, _, h => h.elim
  | _ :: _, [], _, _, _, _, h => h.elim
  | _ :: _, _ :: _, [], _, _, _, h => h.elim

theorem post_true {f : Func} {s : ChangeSpec} {fresh handsOn : Bool} {W W' : World} {args : Array Value} {ds : List (DataW H)} {before : List MemPlace} (hl : laidOutB P = true) (hps : ∀ t ∈ f.params.toList, P.readableRec t = true ∧ t < P.types.size) {tb : TypeId} (hrt : f.resultTypes = #[tb])
    (htb : P.underlying tb = some .bool) (hv : s.vars = []) (hs : s.fn H ds = { results := [.lit (.bool true)], args := ds }) (hW : DataW.Whole enc P f.params.toList s.vars false W args.toList ds [] before)
    (hk : Keep W.heap.size (fun _ => False) (fun _ => False) W W') : s.post enc P f false fresh handsOn false W args (.bool true) W' := by
  have hb : Below W.heap.size W W' := ⟨hk.os, hk.tape, hk.output, hk.size, hk.old⟩
  have hlt := hW.lt
  have hW' := hW
  obtain ⟨p, q, hA, hV, rfl, hz, hnd⟩ := hW
  rw [hv] at hV
  obtain ⟨_, rfl⟩ := trodVars_none hV
  refine ⟨ds, [], p ++ [], [], p, [], hW', ?_, ?_, ?_, ?_, fun h => by cases h⟩
  · rw [List.append_nil, hs, hrt]
    exact ⟨[], [], ⟨1, by simp [DataW.trod, htb, Value.cells]⟩, rfl, rfl⟩
  · rw [List.append_nil, hs]
    exact trodAll_below hl hb hps (fun x hx => hlt x (by simp [hx])) hA
  · rw [hv, List.append_nil, hs]; rfl
  · refine ⟨hk.os, hk.output, fun i hi => ?_⟩
    rw [hk.old i hi]
    cases hh : W.heap[i]? with
    | none => rfl
    | some o => cases o <;> first | exact ⟨rfl, rfl, rfl, fun _ _ => rfl⟩ | exact .inr ⟨rfl, rfl⟩ | rfl
end
end Go.Abs

/-
  Abs28: functions whose contracts are known: what they say.
-/
set_option linter.unusedSectionVars false
namespace Go.Abs
open Go
variable [Fl]

/-- Nothing is known of package-level variables: for laws that do not speak of them. -/
instance (priority := low) trivGl : Gl := ⟨fun _ => False, fun _ => True, fun _ _ _ h => h⟩

def ins (x : Int) : List Int → List Int
  | [] => [x]
  | y :: l => if x ≤ y then x :: y :: l else y :: ins x l
def isort : List Int → List Int
  | [] => []
  | x :: l => ins x (isort l)

def intOf : DV → Option Int
  | .c (.sc (.int .i64 n)) => some n
  | _ => none
def intsOf : List DV → Option (List Int)
  | [] => some []
  | d :: ds => match intOf d, intsOf ds with
    | some n, some l => some (n :: l)
    | _, _ => none
def cInt (n : Int) : CV := .sc (.int .i64 n)
def dInt (n : Int) : DV := .c (cInt n)

/-- slices.Sort of ints. -/
def sortP (st : List Ob) : List DV → Option Out
  | [.c (.sl true _ _ _)] => some { d := .tup [] }
  | [.ms id ver off (len + 1) 1 _] => if 4611686018427387903 ≤ len then none else match getO st id ver with
    | some o => ((span o.cs off (len + 1)).bind intsOf).map fun l => { d := .tup [], set := some (id, ⟨ver, setL o.cs off ((isort l).map dInt)⟩) }
    | none => none
  | _ => none

def dedup : List Int → List Int
  | [] => []
  | [x] => [x]
  | x :: y :: l => if x = y then dedup (y :: l) else x :: dedup (y :: l)

/-- slices.Compact of ints; nobody writes what comes back. -/
def compactP (st : List Ob) : List DV → Option Out
  | [.c (.sl true _ _ _)] => some { d := .c (.sl true true [] 0) }
  | [.ms id ver off (len + 1) 1 _] => if 4611686018427387903 ≤ len then none else match getO st id ver with
    | some o => ((span o.cs off (len + 1)).bind intsOf).map fun l => { d := .c (.sl false false ((dedup l).map cInt) (dedup l).length), set := some (id, ⟨ver + 1, []⟩) }
    | none => none
  | _ => none

/-- The first number of a list. -/
def headOf : DV → Option Int
  | .c (.sl _ _ (.sc (.int .i64 n) :: _) (_ + 1)) => some n
  | _ => none
def insH (x : Int × DV) : List (Int × DV) → List (Int × DV)
  | [] => [x]
  | y :: l => if x.1 ≤ y.1 then x :: y :: l else y :: insH x l
def heads : List DV → Option (List (Int × DV))
  | [] => some []
  | d :: ds => match headOf d, heads ds with
    | some n, some l => some ((n, d) :: l)
    | _, _ => none
/-- slices.SortFunc of lists of ints by their first ones, where these are not alike. -/
def sortFuncP (cmp : FuncId) (st : List Ob) : List DV → Option Out
  | [.c (.sl true _ _ _), _] => some { d := .tup [] }
  | [.ms id ver off (len + 1) 1 _, .fn f [] []] => if f = cmp ∧ len < 4611686018427387903 then match getO st id ver with
    | some o => ((span o.cs off (len + 1)).bind heads).bind fun l =>
      if (l.map (·.1)).Nodup then some { d := .tup [], set := some (id, ⟨ver, setL o.cs off ((l.foldr insH []).map (·.2))⟩) } else none
    | none => none else none
  | _ => none
end Go.Abs
