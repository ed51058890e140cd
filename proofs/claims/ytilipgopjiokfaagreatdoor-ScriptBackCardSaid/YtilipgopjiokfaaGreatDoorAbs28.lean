/-
  Abs28: functions whose contracts are known: what they say.
-/
import Derived.Test.YtilipgopjiokfaaGreatDoorAbs27
set_option linter.unusedSectionVars false
namespace Go.Abs
open Go

/-- Nothing is known of package-level variables: for laws that do not speak of them. -/
instance (priority := low) trivGl : Gl := ⟨fun _ => False, fun _ => True, fun _ _ _ h => h⟩

def ins (x : Int) : List Int → List Int
  | [] => [x]
  | y :: l => if x ≤ y then x :: y :: l else y :: ins x l
def isort : List Int → List Int
  | [] => []
  | x :: l => ins x (isort l)

def intOf : DV → Option Int
  | .c (.sc (.int .i64 n)) => some n
  | _ => none
def intsOf : List DV → Option (List Int)
  | [] => some []
  | d :: ds => match intOf d, intsOf ds with
    | some n, some l => some (n :: l)
    | _, _ => none
def cInt (n : Int) : CV := .sc (.int .i64 n)
def dInt (n : Int) : DV := .c (cInt n)

/-- slices.Sort of ints. -/
def sortP (st : List Ob) : List DV → Option Out
  | [.c (.sl true _ _ _)] => some { d := .tup [] }
  | [.ms id ver off (len + 1) 1 _] => if 4611686018427387903 ≤ len then none else match getO st id ver with
    | some o => ((span o.cs off (len + 1)).bind intsOf).map fun l => { d := .tup [], set := some (id, ⟨ver, setL o.cs off ((isort l).map dInt)⟩) }
    | none => none
  | _ => none

def dedup : List Int → List Int
  | [] => []
  | [x] => [x]
  | x :: y :: l => if x = y then dedup (y :: l) else x :: dedup (y :: l)

/-- slices.Compact of ints; nobody writes what comes back. -/
def compactP (st : List Ob) : List DV → Option Out
  | [.c (.sl true _ _ _)] => some { d := .c (.sl true true [] 0) }
  | [.ms id ver off (len + 1) 1 _] => if 4611686018427387903 ≤ len then none else match getO st id ver with
    | some o => ((span o.cs off (len + 1)).bind intsOf).map fun l => { d := .c (.sl false false ((dedup l).map cInt) (dedup l).length), set := some (id, ⟨ver + 1, []⟩) }
    | none => none
  | _ => none

/-- The first number of a list. -/
def headOf : DV → Option Int
  | .c (.sl _ _ (.sc (.int .i64 n) :: _) (_ + 1)) => some n
  | _ => none
def insH (x : Int × DV) : List (Int × DV) → List (Int × DV)
  | [] => [x]
  | y :: l => if x.1 ≤ y.1 then x :: y :: l else y :: insH x l
def heads : List DV → Option (List (Int × DV))
  | [] => some []
  | d :: ds => match headOf d, heads ds with
    | some n, some l => some ((n, d) :: l)
    | _, _ => none
/-- slices.SortFunc of lists of ints by their first ones, where these are not alike. -/
def sortFuncP (cmp : FuncId) (st : List Ob) : List DV → Option Out
  | [.c (.sl true _ _ _), _] => some { d := .tup [] }
  | [.ms id ver off (len + 1) 1 _, .fn f [] []] => if f = cmp ∧ len < 4611686018427387903 then match getO st id ver with
    | some o => ((span o.cs off (len + 1)).bind heads).bind fun l =>
      if (l.map (·.1)).Nodup then some { d := .tup [], set := some (id, ⟨ver, setL o.cs off ((l.foldr insH []).map (·.2))⟩) } else none
    | none => none else none
  | _ => none
end Go.Abs
