/-
  held.Held: what it hands back.
-/
import Derived.Test.YtkfmoodaplelnaaAbs43
import Derived.Test.YtkfmoodaplelnaaFd
set_option maxRecDepth 100000
set_option maxHeartbeats 4000000
set_option linter.unusedVariables false
set_option linter.unusedSimpArgs false
set_option linter.unusedSectionVars false
namespace Go.Proofs.Ytkfmoodaplelnaa
open Go Go.Abs Go.Proofs
variable [Kn]
def ownL (o : Held_owned) : List Int := [o.a0, o.a1, o.a2, o.a3, o.a4, o.a5, o.a6, o.a7]
/-- The clone of the first m cells. -/
def cellO : Nat → Held_owned → DV
  | 0, _ => .c (.sl false true [] 0)
  | m + 1, o => .ap false (cells ((ownL o).take (m + 1))) (m + 1) 1
theorem clone_ok (o : Held_owned) {m : Nat} (hm : m ≤ 8) : X.RunsL 20 [.ms 0 1 0 m 1 (m == 8)] [⟨1, (EncX.encX o).map DV.c⟩] (cellO m o) [⟨1, (EncX.encX o).map DV.c⟩] := by
  match m, hm with
  | 0, _ => exact Sys.callL' (fn := Try.f20) (b := b20) (by kernel_rfl) (by kernel_rfl) rfl (Sys.endL' [] True.intro (by kernel_rfl))
  | 1, _ => exact Sys.callL' (fn := Try.f20) (b := b20) (by kernel_rfl) (by kernel_rfl) rfl (Sys.endL' [] True.intro (by kernel_rfl))
  | 2, _ => exact Sys.callL' (fn := Try.f20) (b := b20) (by kernel_rfl) (by kernel_rfl) rfl (Sys.endL' [] True.intro (by kernel_rfl))
  | 3, _ => exact Sys.callL' (fn := Try.f20) (b := b20) (by kernel_rfl) (by kernel_rfl) rfl (Sys.endL' [] True.intro (by kernel_rfl))
  | 4, _ => exact Sys.callL' (fn := Try.f20) (b := b20) (by kernel_rfl) (by kernel_rfl) rfl (Sys.endL' [] True.intro (by kernel_rfl))
  | 5, _ => exact Sys.callL' (fn := Try.f20) (b := b20) (by kernel_rfl) (by kernel_rfl) rfl (Sys.endL' [] True.intro (by kernel_rfl))
  | 6, _ => exact Sys.callL' (fn := Try.f20) (b := b20) (by kernel_rfl) (by kernel_rfl) rfl (Sys.endL' [] True.intro (by kernel_rfl))
  | 7, _ => exact Sys.callL' (fn := Try.f20) (b := b20) (by kernel_rfl) (by kernel_rfl) rfl (Sys.endL' [] True.intro (by kernel_rfl))
  | 8, _ => exact Sys.callL' (fn := Try.f20) (b := b20) (by kernel_rfl) (by kernel_rfl) rfl (Sys.endL' [] True.intro (by kernel_rfl))
  | m + 9, h => omega
/-! round -/
section
def stR (A0 A1 A2 A4 C : List DV) (es : List (Int × Held_owned)) (j : Option Nat) (lft : List Nat) : List Ob := [⟨1, A0⟩, ⟨1, A1⟩, ⟨1, A2⟩, mkOb 1 (.map (encM es)), ⟨1, A4⟩, ⟨1, C⟩, mkOb 1 (.it 3 1 es.length j lft)]
variable {A0 A1 A2 A4 C : List DV} {es : List (Int × Held_owned)} {L j : Nat} {lft : List Nat} {p : Int × Held_owned}
theorem entry_ok {st : List Ob} {n : Nat} (h6 : getK st 6 1 = some (.it 3 1 n (some j) lft)) (h3 : getK st 3 1 = some (.map (encM es))) (hn : es.length = n) (hj : es[j]? = some p) : val (entryD st (.mi 6 1 3 1)) = some { d := .tup [dInt p.1, .c (.agg (EncX.encX p.2))] } := by
  have h : (encM es).length = n := by simp [encM, hn]
  have h2 : (encM es)[j]? = some (dInt p.1, .c (.agg (EncX.encX p.2))) := by simp [encM, hj]; exact ⟨rfl, rfl⟩
  simp only [entryD, h6, h3]
  rw [if_pos ⟨trivial, trivial, h⟩, h2]; rfl
theorem rstore {a : Int} (ha : 0 ≤ a ∧ a < (L : Int)) (hC : C.length = L) (d : DV) : (1 : Nat) = 1 ∧ 0 + a.toNat * 1 + 1 ≤ C.length ∧ setL C (0 + a.toNat * 1) [d] = C.set a.toNat d := by
  refine ⟨rfl, by omega, ?_⟩
  rw [show 0 + a.toNat * 1 = a.toNat by omega]; rfl
theorem round_ok {m : Nat} (hm : m ≤ 8) (hC : C.length = L) (hj : es[j]? = some p) (ha : 0 ≤ p.1 ∧ p.1 < (L : Int)) :
    X.Go 7 39 [] (sub b7 [1, 1, 1, 1, 0, 1, 0, 0, 1]) ⟨put (put (fl [(1, dInt m), (8, .ms 5 1 0 L 1 true), (26, .mi 6 1 3 1)]) (some 27) (.tup [dB true, dInt p.1, .c (.agg (EncX.encX p.2))])) (some 28) (dB true), ⟨stR A0 A1 A2 A4 C es (some j) lft, []⟩⟩ .normal
      ⟨fl [(1, dInt m), (8, .ms 5 1 0 L 1 true), (26, .mi 6 1 3 1)], ⟨stR A0 A1 A2 A4 (C.set p.1.toNat (cellO m p.2)) es (some j) lft ++ [⟨1, (EncX.encX p.2).map DV.c⟩], []⟩⟩ := by
  have hcl := clone_ok p.2 hm
  have hst := rstore ha hC (cellO m p.2)
  have hen := entry_ok (st := [⟨1, A0⟩, ⟨1, A1⟩, ⟨1, A2⟩, mkOb 1 (.map (encM es)), ⟨1, A4⟩, ⟨1, C⟩, mkOb 1 (.it 3 1 es.length (some j) lft)]) (es := es) (lft := lft) rfl rfl rfl hj
  match m, hm with
  | 0, _ => exact Sys.goE (Sys.endJ [((7, 0), .op { d := .tup [dInt p.1, .c (.agg (EncX.encX p.2))] }), ((8, 4), .callL [.ms 0 1 0 0 1 false] [⟨1, (EncX.encX p.2).map DV.c⟩] (cellO 0 p.2) [⟨1, (EncX.encX p.2).map DV.c⟩] (cellO 0 p.2) (stR A0 A1 A2 A4 C es (some j) lft ++ [⟨1, (EncX.encX p.2).map DV.c⟩])), ((8, 5), .ix), ((8, 6), .st (C.set p.1.toNat (cellO 0 p.2)))] (And.intro hen (And.intro (And.intro (rfl : nodupB [7] = true) (And.intro (by kernel_rfl : locS [7] (stR A0 A1 A2 A4 C es (some j) lft ++ [⟨1, (EncX.encX p.2).map DV.c⟩]) [7] = some [⟨1, (EncX.encX p.2).map DV.c⟩]) (by kernel_rfl : locL [7] (stR A0 A1 A2 A4 C es (some j) lft ++ [⟨1, (EncX.encX p.2).map DV.c⟩]) [.ms 7 1 0 0 1 false] = some [.ms 0 1 0 0 1 false]))) (And.intro hcl (And.intro (And.intro (by kernel_rfl : bkD [7] [1] (cellO 0 p.2) = some (cellO 0 p.2)) (by kernel_rfl : putBack [7] [1] [7] [1] [⟨1, (EncX.encX p.2).map DV.c⟩] (stR A0 A1 A2 A4 C es (some j) lft ++ [⟨1, (EncX.encX p.2).map DV.c⟩]) = some (stR A0 A1 A2 A4 C es (some j) lft ++ [⟨1, (EncX.encX p.2).map DV.c⟩]))) (And.intro ha hst))))) (by kernel_rfl))
  | 1, _ => exact Sys.goE (Sys.endJ [((7, 0), .op { d := .tup [dInt p.1, .c (.agg (EncX.encX p.2))] }), ((8, 4), .callL [.ms 0 1 0 1 1 false] [⟨1, (EncX.encX p.2).map DV.c⟩] (cellO 1 p.2) [⟨1, (EncX.encX p.2).map DV.c⟩] (cellO 1 p.2) (stR A0 A1 A2 A4 C es (some j) lft ++ [⟨1, (EncX.encX p.2).map DV.c⟩])), ((8, 5), .ix), ((8, 6), .st (C.set p.1.toNat (cellO 1 p.2)))] (And.intro hen (And.intro (And.intro (rfl : nodupB [7] = true) (And.intro (by kernel_rfl : locS [7] (stR A0 A1 A2 A4 C es (some j) lft ++ [⟨1, (EncX.encX p.2).map DV.c⟩]) [7] = some [⟨1, (EncX.encX p.2).map DV.c⟩]) (by kernel_rfl : locL [7] (stR A0 A1 A2 A4 C es (some j) lft ++ [⟨1, (EncX.encX p.2).map DV.c⟩]) [.ms 7 1 0 1 1 false] = some [.ms 0 1 0 1 1 false]))) (And.intro hcl (And.intro (And.intro (by kernel_rfl : bkD [7] [1] (cellO 1 p.2) = some (cellO 1 p.2)) (by kernel_rfl : putBack [7] [1] [7] [1] [⟨1, (EncX.encX p.2).map DV.c⟩] (stR A0 A1 A2 A4 C es (some j) lft ++ [⟨1, (EncX.encX p.2).map DV.c⟩]) = some (stR A0 A1 A2 A4 C es (some j) lft ++ [⟨1, (EncX.encX p.2).map DV.c⟩]))) (And.intro ha hst))))) (by kernel_rfl))
  | 2, _ => exact Sys.goE (Sys.endJ [((7, 0), .op { d := .tup [dInt p.1, .c (.agg (EncX.encX p.2))] }), ((8, 4), .callL [.ms 0 1 0 2 1 false] [⟨1, (EncX.encX p.2).map DV.c⟩] (cellO 2 p.2) [⟨1, (EncX.encX p.2).map DV.c⟩] (cellO 2 p.2) (stR A0 A1 A2 A4 C es (some j) lft ++ [⟨1, (EncX.encX p.2).map DV.c⟩])), ((8, 5), .ix), ((8, 6), .st (C.set p.1.toNat (cellO 2 p.2)))] (And.intro hen (And.intro (And.intro (rfl : nodupB [7] = true) (And.intro (by kernel_rfl : locS [7] (stR A0 A1 A2 A4 C es (some j) lft ++ [⟨1, (EncX.encX p.2).map DV.c⟩]) [7] = some [⟨1, (EncX.encX p.2).map DV.c⟩]) (by kernel_rfl : locL [7] (stR A0 A1 A2 A4 C es (some j) lft ++ [⟨1, (EncX.encX p.2).map DV.c⟩]) [.ms 7 1 0 2 1 false] = some [.ms 0 1 0 2 1 false]))) (And.intro hcl (And.intro (And.intro (by kernel_rfl : bkD [7] [1] (cellO 2 p.2) = some (cellO 2 p.2)) (by kernel_rfl : putBack [7] [1] [7] [1] [⟨1, (EncX.encX p.2).map DV.c⟩] (stR A0 A1 A2 A4 C es (some j) lft ++ [⟨1, (EncX.encX p.2).map DV.c⟩]) = some (stR A0 A1 A2 A4 C es (some j) lft ++ [⟨1, (EncX.encX p.2).map DV.c⟩]))) (And.intro ha hst))))) (by kernel_rfl))
  | 3, _ => exact Sys.goE (Sys.endJ [((7, 0), .op { d := .tup [dInt p.1, .c (.agg (EncX.encX p.2))] }), ((8, 4), .callL [.ms 0 1 0 3 1 false] [⟨1, (EncX.encX p.2).map DV.c⟩] (cellO 3 p.2) [⟨1, (EncX.encX p.2).map DV.c⟩] (cellO 3 p.2) (stR A0 A1 A2 A4 C es (some j) lft ++ [⟨1, (EncX.encX p.2).map DV.c⟩])), ((8, 5), .ix), ((8, 6), .st (C.set p.1.toNat (cellO 3 p.2)))] (And.intro hen (And.intro (And.intro (rfl : nodupB [7] = true) (And.intro (by kernel_rfl : locS [7] (stR A0 A1 A2 A4 C es (some j) lft ++ [⟨1, (EncX.encX p.2).map DV.c⟩]) [7] = some [⟨1, (EncX.encX p.2).map DV.c⟩]) (by kernel_rfl : locL [7] (stR A0 A1 A2 A4 C es (some j) lft ++ [⟨1, (EncX.encX p.2).map DV.c⟩]) [.ms 7 1 0 3 1 false] = some [.ms 0 1 0 3 1 false]))) (And.intro hcl (And.intro (And.intro (by kernel_rfl : bkD [7] [1] (cellO 3 p.2) = some (cellO 3 p.2)) (by kernel_rfl : putBack [7] [1] [7] [1] [⟨1, (EncX.encX p.2).map DV.c⟩] (stR A0 A1 A2 A4 C es (some j) lft ++ [⟨1, (EncX.encX p.2).map DV.c⟩]) = some (stR A0 A1 A2 A4 C es (some j) lft ++ [⟨1, (EncX.encX p.2).map DV.c⟩]))) (And.intro ha hst))))) (by kernel_rfl))
  | 4, _ => exact Sys.goE (Sys.endJ [((7, 0), .op { d := .tup [dInt p.1, .c (.agg (EncX.encX p.2))] }), ((8, 4), .callL [.ms 0 1 0 4 1 false] [⟨1, (EncX.encX p.2).map DV.c⟩] (cellO 4 p.2) [⟨1, (EncX.encX p.2).map DV.c⟩] (cellO 4 p.2) (stR A0 A1 A2 A4 C es (some j) lft ++ [⟨1, (EncX.encX p.2).map DV.c⟩])), ((8, 5), .ix), ((8, 6), .st (C.set p.1.toNat (cellO 4 p.2)))] (And.intro hen (And.intro (And.intro (rfl : nodupB [7] = true) (And.intro (by kernel_rfl : locS [7] (stR A0 A1 A2 A4 C es (some j) lft ++ [⟨1, (EncX.encX p.2).map DV.c⟩]) [7] = some [⟨1, (EncX.encX p.2).map DV.c⟩]) (by kernel_rfl : locL [7] (stR A0 A1 A2 A4 C es (some j) lft ++ [⟨1, (EncX.encX p.2).map DV.c⟩]) [.ms 7 1 0 4 1 false] = some [.ms 0 1 0 4 1 false]))) (And.intro hcl (And.intro (And.intro (by kernel_rfl : bkD [7] [1] (cellO 4 p.2) = some (cellO 4 p.2)) (by kernel_rfl : putBack [7] [1] [7] [1] [⟨1, (EncX.encX p.2).map DV.c⟩] (stR A0 A1 A2 A4 C es (some j) lft ++ [⟨1, (EncX.encX p.2).map DV.c⟩]) = some (stR A0 A1 A2 A4 C es (some j) lft ++ [⟨1, (EncX.encX p.2).map DV.c⟩]))) (And.intro ha hst))))) (by kernel_rfl))
  | 5, _ => exact Sys.goE (Sys.endJ [((7, 0), .op { d := .tup [dInt p.1, .c (.agg (EncX.encX p.2))] }), ((8, 4), .callL [.ms 0 1 0 5 1 false] [⟨1, (EncX.encX p.2).map DV.c⟩] (cellO 5 p.2) [⟨1, (EncX.encX p.2).map DV.c⟩] (cellO 5 p.2) (stR A0 A1 A2 A4 C es (some j) lft ++ [⟨1, (EncX.encX p.2).map DV.c⟩])), ((8, 5), .ix), ((8, 6), .st (C.set p.1.toNat (cellO 5 p.2)))] (And.intro hen (And.intro (And.intro (rfl : nodupB [7] = true) (And.intro (by kernel_rfl : locS [7] (stR A0 A1 A2 A4 C es (some j) lft ++ [⟨1, (EncX.encX p.2).map DV.c⟩]) [7] = some [⟨1, (EncX.encX p.2).map DV.c⟩]) (by kernel_rfl : locL [7] (stR A0 A1 A2 A4 C es (some j) lft ++ [⟨1, (EncX.encX p.2).map DV.c⟩]) [.ms 7 1 0 5 1 false] = some [.ms 0 1 0 5 1 false]))) (And.intro hcl (And.intro (And.intro (by kernel_rfl : bkD [7] [1] (cellO 5 p.2) = some (cellO 5 p.2)) (by kernel_rfl : putBack [7] [1] [7] [1] [⟨1, (EncX.encX p.2).map DV.c⟩] (stR A0 A1 A2 A4 C es (some j) lft ++ [⟨1, (EncX.encX p.2).map DV.c⟩]) = some (stR A0 A1 A2 A4 C es (some j) lft ++ [⟨1, (EncX.encX p.2).map DV.c⟩]))) (And.intro ha hst))))) (by kernel_rfl))
  | 6, _ => exact Sys.goE (Sys.endJ [((7, 0), .op { d := .tup [dInt p.1, .c (.agg (EncX.encX p.2))] }), ((8, 4), .callL [.ms 0 1 0 6 1 false] [⟨1, (EncX.encX p.2).map DV.c⟩] (cellO 6 p.2) [⟨1, (EncX.encX p.2).map DV.c⟩] (cellO 6 p.2) (stR A0 A1 A2 A4 C es (some j) lft ++ [⟨1, (EncX.encX p.2).map DV.c⟩])), ((8, 5), .ix), ((8, 6), .st (C.set p.1.toNat (cellO 6 p.2)))] (And.intro hen (And.intro (And.intro (rfl : nodupB [7] = true) (And.intro (by kernel_rfl : locS [7] (stR A0 A1 A2 A4 C es (some j) lft ++ [⟨1, (EncX.encX p.2).map DV.c⟩]) [7] = some [⟨1, (EncX.encX p.2).map DV.c⟩]) (by kernel_rfl : locL [7] (stR A0 A1 A2 A4 C es (some j) lft ++ [⟨1, (EncX.encX p.2).map DV.c⟩]) [.ms 7 1 0 6 1 false] = some [.ms 0 1 0 6 1 false]))) (And.intro hcl (And.intro (And.intro (by kernel_rfl : bkD [7] [1] (cellO 6 p.2) = some (cellO 6 p.2)) (by kernel_rfl : putBack [7] [1] [7] [1] [⟨1, (EncX.encX p.2).map DV.c⟩] (stR A0 A1 A2 A4 C es (some j) lft ++ [⟨1, (EncX.encX p.2).map DV.c⟩]) = some (stR A0 A1 A2 A4 C es (some j) lft ++ [⟨1, (EncX.encX p.2).map DV.c⟩]))) (And.intro ha hst))))) (by kernel_rfl))
  | 7, _ => exact Sys.goE (Sys.endJ [((7, 0), .op { d := .tup [dInt p.1, .c (.agg (EncX.encX p.2))] }), ((8, 4), .callL [.ms 0 1 0 7 1 false] [⟨1, (EncX.encX p.2).map DV.c⟩] (cellO 7 p.2) [⟨1, (EncX.encX p.2).map DV.c⟩] (cellO 7 p.2) (stR A0 A1 A2 A4 C es (some j) lft ++ [⟨1, (EncX.encX p.2).map DV.c⟩])), ((8, 5), .ix), ((8, 6), .st (C.set p.1.toNat (cellO 7 p.2)))] (And.intro hen (And.intro (And.intro (rfl : nodupB [7] = true) (And.intro (by kernel_rfl : locS [7] (stR A0 A1 A2 A4 C es (some j) lft ++ [⟨1, (EncX.encX p.2).map DV.c⟩]) [7] = some [⟨1, (EncX.encX p.2).map DV.c⟩]) (by kernel_rfl : locL [7] (stR A0 A1 A2 A4 C es (some j) lft ++ [⟨1, (EncX.encX p.2).map DV.c⟩]) [.ms 7 1 0 7 1 false] = some [.ms 0 1 0 7 1 false]))) (And.intro hcl (And.intro (And.intro (by kernel_rfl : bkD [7] [1] (cellO 7 p.2) = some (cellO 7 p.2)) (by kernel_rfl : putBack [7] [1] [7] [1] [⟨1, (EncX.encX p.2).map DV.c⟩] (stR A0 A1 A2 A4 C es (some j) lft ++ [⟨1, (EncX.encX p.2).map DV.c⟩]) = some (stR A0 A1 A2 A4 C es (some j) lft ++ [⟨1, (EncX.encX p.2).map DV.c⟩]))) (And.intro ha hst))))) (by kernel_rfl))
  | 8, _ => exact Sys.goE (Sys.endJ [((7, 0), .op { d := .tup [dInt p.1, .c (.agg (EncX.encX p.2))] }), ((8, 4), .callL [.ms 0 1 0 8 1 true] [⟨1, (EncX.encX p.2).map DV.c⟩] (cellO 8 p.2) [⟨1, (EncX.encX p.2).map DV.c⟩] (cellO 8 p.2) (stR A0 A1 A2 A4 C es (some j) lft ++ [⟨1, (EncX.encX p.2).map DV.c⟩])), ((8, 5), .ix), ((8, 6), .st (C.set p.1.toNat (cellO 8 p.2)))] (And.intro hen (And.intro (And.intro (rfl : nodupB [7] = true) (And.intro (by kernel_rfl : locS [7] (stR A0 A1 A2 A4 C es (some j) lft ++ [⟨1, (EncX.encX p.2).map DV.c⟩]) [7] = some [⟨1, (EncX.encX p.2).map DV.c⟩]) (by kernel_rfl : locL [7] (stR A0 A1 A2 A4 C es (some j) lft ++ [⟨1, (EncX.encX p.2).map DV.c⟩]) [.ms 7 1 0 8 1 true] = some [.ms 0 1 0 8 1 true]))) (And.intro hcl (And.intro (And.intro (by kernel_rfl : bkD [7] [1] (cellO 8 p.2) = some (cellO 8 p.2)) (by kernel_rfl : putBack [7] [1] [7] [1] [⟨1, (EncX.encX p.2).map DV.c⟩] (stR A0 A1 A2 A4 C es (some j) lft ++ [⟨1, (EncX.encX p.2).map DV.c⟩]) = some (stR A0 A1 A2 A4 C es (some j) lft ++ [⟨1, (EncX.encX p.2).map DV.c⟩]))) (And.intro ha hst))))) (by kernel_rfl))
  | m + 9, h => omega
/-- Nothing is left. -/
theorem last_ok {m : Nat} {cur : Option Nat} : X.Go 7 39 [] (sub b7 [1, 1, 1, 1, 0, 1, 0, 0]) ⟨fl [(1, dInt m), (8, .ms 5 1 0 L 1 true), (26, .mi 6 1 3 1)], ⟨stR A0 A1 A2 A4 C es cur [], []⟩⟩ (.exit 0)
      ⟨fl [(1, dInt m), (8, .ms 5 1 0 L 1 true), (26, .mi 6 1 3 1), (28, dB false)], ⟨stR A0 A1 A2 A4 C es cur [], []⟩⟩ := by
  have hn : val (nextD (stR A0 A1 A2 A4 C es cur []) (.mi 6 1 3 1)) = some { d := .tup [dB false] } := by
    have h6 : getK (stR A0 A1 A2 A4 C es cur []) 6 1 = some (.it 3 1 es.length cur []) := rfl
    have h3 : getK (stR A0 A1 A2 A4 C es cur []) 3 1 = some (.map (encM es)) := rfl
    simp only [nextD, h6, h3]
    rw [if_pos ⟨trivial, trivial, by simp [encM]⟩]; rfl
  exact Sys.goE (Sys.endJ [((6, 0), .op { d := .tup [dB false] })] hn (by kernel_rfl))
def nilc : DV := .c (.sl true true [] 0)
/-- What the cells of the list hold, where some places are left. -/
structure Inv (es : List (Int × Held_owned)) (m L : Nat) (lft : List Nat) (C : List DV) : Prop where
  len : C.length = L
  nd : lft.Nodup
  lt : ∀ j ∈ lft, j < es.length
  on : ∀ j p, es[j]? = some p → j ∉ lft → C[p.1.toNat]? = some (cellO m p.2)
  off : ∀ i, i < L → (∀ j p, es[j]? = some p → j ∉ lft → p.1.toNat ≠ i) → C[i]? = some nilc
theorem Inv.start {m : Nat} (hC : C = List.replicate L nilc) : Inv es m L (List.range es.length) C := by
  subst hC
  refine ⟨by simp, List.nodup_range, fun j hj => List.mem_range.1 hj, fun j p hj hn => ?_, fun i hi _ => by simp [hi]⟩
  exact absurd (List.mem_range.2 (List.getElem?_eq_some_iff.1 hj).1) hn
theorem Inv.step {m : Nat} (iv : Inv es m L lft C) (hk : (es.map Prod.fst).Nodup) (hb : ∀ q ∈ es, 0 ≤ q.1 ∧ q.1 < (L : Int)) (hj : es[j]? = some p) (hl : j ∈ lft) : Inv es m L (lft.erase j) (C.set p.1.toNat (cellO m p.2)) := by
  have hp := hb p (List.mem_of_getElem? hj)
  have hne : ∀ j' q, es[j']? = some q → q.1.toNat = p.1.toNat → j' = j := fun j' q hq he => by
    have hq' := hb q (List.mem_of_getElem? hq)
    have h1 : (es.map Prod.fst)[j']? = some p.1 := by rw [List.getElem?_map, hq]; simp; omega
    have h2 : (es.map Prod.fst)[j]? = some p.1 := by rw [List.getElem?_map, hj]; rfl
    exact (List.getElem?_inj (List.getElem?_eq_some_iff.1 h1).1 hk).1 (h1.trans h2.symm)
  refine ⟨by simp [iv.len], iv.nd.erase j, fun i hi => iv.lt i (List.mem_of_mem_erase hi), fun j' q hq hn => ?_, fun i hi hn => ?_⟩
  · rw [List.getElem?_set]
    split
    · rename_i he
      have := hne j' q hq he.symm
      subst this
      rw [hj] at hq; cases hq
      rw [if_pos (by rw [iv.len]; omega)]
    · rename_i he
      refine iv.on j' q hq fun hh => hn ((List.mem_erase_of_ne ?_).2 hh)
      rintro rfl
      rw [hj] at hq; cases hq
      exact he rfl
  · have h1 : p.1.toNat ≠ i := hn j p hj (fun hh => ((iv.nd.mem_erase_iff).1 hh).1 rfl)
    rw [List.getElem?_set, if_neg h1]
    refine iv.off i hi fun j' q hq hh => hn j' q hq fun h2 => hh (List.mem_of_mem_erase h2)
theorem parts_ok : ∃ (ops : Array Oper) (o : Oper) (rest : Code), sub b7 [1, 1, 1, 1, 0, 1, 0, 0] = .seq (.region 6 ops false) rest ∧ sub b7 [1, 1, 1, 1, 0, 1, 0, 0, 1] = rest ∧ ops[0]? = some o ∧ o.op = .next (.tmp 26) false ∧ o.guard = none ∧ o.dst = some 27 ∧ ops.size = 2 ∧
    (∀ (fr : Nat → DV) (m : M) (a b : DV), stepsD X.P (X.ev 0) { an := X.an, f := 7, nt := 39, rid := 6, ops := ops, base := 7, Γ := [] } (List.range' 1 1) ⟨put fr (some 27) (.tup [dB true, a, b]), m⟩ = some ⟨put (put fr (some 27) (.tup [dB true, a, b])) (some 28) (dB true), m⟩) :=
  ⟨_, _, _, rfl, rfl, rfl, rfl, rfl, rfl, rfl, fun fr m a b => by kernel_rfl⟩
theorem below_cellO (m : Nat) (o : Held_owned) : below 7 (cellO m o) = true := by cases m <;> rfl
theorem below_set {n i : Nat} {C : List DV} {d : DV} (h : C.all (below n) = true) (hd : below n d = true) : (C.set i d).all (below n) = true := by
  rw [List.all_eq_true] at h ⊢
  intro x hx
  rcases List.mem_or_eq_of_mem_set hx with h1 | rfl
  · exact h x h1
  · exact hd
/-- The state at the loop's head. -/
def hS (A0 A1 A2 A4 : List DV) (es : List (Int × Held_owned)) (m L : Nat) (C : List DV) (cur : Option Nat) (lft : List Nat) : S := ⟨fl [(1, dInt m), (8, .ms 5 1 0 L 1 true), (26, .mi 6 1 3 1)], ⟨stR A0 A1 A2 A4 C es cur lft, []⟩⟩
theorem loop_ok (hmo : X.P.follows .mixedOrders = true) (hpr : ∀ f p, X.pr f = some p → PrimOk X.P f p) {m : Nat} (hm : m ≤ 8) (hk : (es.map Prod.fst).Nodup) (hb : ∀ q ∈ es, 0 ≤ q.1 ∧ q.1 < (L : Int)) (iv : Inv es m L lft C) {cur : Option Nat}
    (b0 : A0.all (below 7) = true) (b1 : A1.all (below 7) = true) (b2 : A2.all (below 7) = true) (b4 : A4.all (below 7) = true) (bC : C.all (below 7) = true) :
    Tri X.P 39 [] (sub b7 [1, 1, 1, 1, 0, 1, 0]) (hS A0 A1 A2 A4 es m L C cur lft) fun ex s => ex = .exit 0 ∧ ∃ C' cur', Inv es m L [] C' ∧ s = ⟨fl [(1, dInt m), (8, .ms 5 1 0 L 1 true), (26, .mi 6 1 3 1), (28, dB false)], ⟨stR A0 A1 A2 A4 C' es cur' [], []⟩⟩ := by
  have hlp : sub b7 [1, 1, 1, 1, 0, 1, 0] = .loop (sub b7 [1, 1, 1, 1, 0, 1, 0, 0]) := rfl
  rw [hlp]
  refine Tri.loopC (m0 := 7) [1, 8, 26] (I := fun k s => ∃ C cur lft, lft.length = k ∧ Inv es m L lft C ∧ C.all (below 7) = true ∧ s = hS A0 A1 A2 A4 es m L C cur lft) (fun k s hI => ?_) ⟨C, cur, lft, rfl, iv, bC, rfl⟩ (Nat.le_refl _)
  obtain ⟨C, cur, lft, hlen, iv, bC, rfl⟩ := hI
  cases lft with
  | nil =>
    exact (Tri.of_go hmo hpr last_ok).mono fun ex s hh => by
      obtain ⟨rfl, rfl⟩ := hh
      exact .inr ⟨by simp, rfl, C, cur, iv, rfl⟩
  | cons i0 l0 =>
    obtain ⟨ops, o, rest, h1, h2, h3, h4, h5, h6, h7, h8⟩ := parts_ok
    rw [h1]
    obtain ⟨hc, hr⟩ := evN_sound hmo X.an hpr 0
    refine Tri.seq (R1 := fun ex s' => ex = .normal ∧ ∃ j p, j ∈ i0 :: l0 ∧ es[j]? = some p ∧ s' = ⟨put (put (fl [(1, dInt m), (8, .ms 5 1 0 L 1 true), (26, .mi 6 1 3 1)]) (some 27) (.tup [dB true, dInt p.1, .c (.agg (EncX.encX p.2))])) (some 28) (dB true), ⟨stR A0 A1 A2 A4 C es (some j) ((i0 :: l0).erase j), []⟩⟩)
      (Tri.next (f := 7) (base := 7) (an := X.an) (id := 6) (ver := 1) (mid := 3) (mver := 1) (n := es.length) (cur := cur) (left := i0 :: l0) (es := encM es) hc hr h3 h4 h5 (by rw [h6]; rfl) rfl rfl rfl (by simp [encM]) (by simp) fun j k v hj hkv => ?_) (fun s1 hs1 => ?_) (fun ex s1 hh hne => absurd hh.1 hne)
    · obtain ⟨p, hp, hpe⟩ : ∃ p, es[j]? = some p ∧ (k, v) = (dInt p.1, DV.c (.agg (EncX.encX p.2))) := by
        simp only [encM, List.getElem?_map, Option.map_eq_some_iff] at hkv
        obtain ⟨p, h9, h10⟩ := hkv
        exact ⟨p, h9, h10.symm⟩
      cases hpe
      rw [h6, h7]
      exact ⟨_, h8 _ _ _ _, rfl, j, p, hj, hp, rfl⟩
    · obtain ⟨_, j, p, hj, hp, rfl⟩ := hs1
      rw [← h2]
      refine (Tri.of_go hmo hpr (round_ok hm iv.len hp (hb p (List.mem_of_getElem? hp)))).mono fun ex s hh => ?_
      obtain ⟨rfl, rfl⟩ := hh
      refine .inl ⟨rfl, ((i0 :: l0).erase j).length, hS A0 A1 A2 A4 es m L (C.set p.1.toNat (cellO m p.2)) (some j) ((i0 :: l0).erase j), ?_, ?_, _, _, _, rfl, iv.step hk hb hp hj, ?_, rfl⟩
      · rw [List.length_erase_of_mem hj]
        simp only [List.length_cons] at hlen ⊢; omega
      · exact cut_ok (l := [1, 8, 26]) rfl (AllB.cons b0 (AllB.cons b1 (AllB.cons b2 (AllB.consM (AllB.cons b4 (AllB.cons (below_set bC (below_cellO _ _)) rfl)))))) rfl
      · exact below_set bC (below_cellO _ _)
end
def slO (m : Nat) (o : Option Held_owned) : Sl Int := match o with
  | some o => ⟨false, m == 0, (ownL o).take m⟩
  | none => ⟨true, true, []⟩
theorem range_ok {st : List Ob} {es : List (Int × Held_owned)} (h3 : getK st 3 1 = some (.map (encM es))) (h6 : st[6]? = some ⟨0, []⟩) (he : es ≠ []) : iterD X.P st 6 48 (.mp 3 1) = some { d := .mi 6 1 3 1, set := some (6, mkOb 1 (.it 3 1 es.length none (List.range es.length))) } := by
  cases es with
  | nil => exact absurd rfl he
  | cons a es =>
    have h3' : getK st 3 1 = some (.map ((dInt a.1, EncD.dv a.2) :: encM es)) := h3
    have ht : isMapT X.P 48 = true := by kernel_rfl
    have hl : ((dInt a.1, EncD.dv a.2) :: encM es).length = (a :: es).length := by simp [encM]
    simp only [iterD, ht, if_true, h3', hl, layK, h6, Option.map_some]
    rfl
theorem getM_get {α : Type} : ∀ {es : List (Int × α)} {j : Nat} {p : Int × α}, (es.map Prod.fst).Nodup → es[j]? = some p → getM es p.1 = some p.2
  | [], j, p, _, h => by simp at h
  | (a, b) :: es, 0, p, _, h => by simp at h; subst h; simp [getM]
  | (a, b) :: es, j + 1, p, hn, h => by
    simp only [List.getElem?_cons_succ] at h
    simp only [List.map_cons, List.nodup_cons] at hn
    have hne : a ≠ p.1 := fun hh => hn.1 (hh ▸ List.mem_map_of_mem (List.mem_of_getElem? h))
    simp only [getM, if_neg hne]
    exact getM_get hn.2 h
theorem getM_mem {α : Type} {k : Int} {v : α} : ∀ {es : List (Int × α)}, getM es k = some v → (k, v) ∈ es
  | [], h => by cases h
  | (a, b) :: es, h => by
    unfold getM at h
    split at h
    · rename_i hh; cases h; subst hh; simp
    · exact List.mem_cons_of_mem _ (getM_mem h)
def cellAt (m : Nat) : Option Held_owned → DV
  | some o => cellO m o
  | none => nilc
theorem Inv.all {es : List (Int × Held_owned)} {m L : Nat} {C : List DV} (iv : Inv es m L [] C) (hb : ∀ q ∈ es, 0 ≤ q.1 ∧ q.1 < (L : Int)) (hk : (es.map Prod.fst).Nodup) : C = (List.range L).map fun i : Nat => cellAt m (getM es (i : Int)) := by
  refine List.ext_getElem? fun i => ?_
  rw [List.getElem?_map]
  by_cases hi : i < L
  · rw [List.getElem?_range hi, Option.map_some]
    cases hg : getM es (i : Int) with
    | none =>
      refine iv.off i hi fun j p hj _ he => ?_
      have h1 := (hb p (List.mem_of_getElem? hj)).1
      have h2 : p.1 = (i : Int) := by omega
      have h3 := getM_get hk hj
      rw [h2, hg] at h3; cases h3
    | some o =>
      obtain ⟨j, hj⟩ := List.getElem?_of_mem (getM_mem hg)
      have := iv.on j _ hj (by simp)
      simpa [cellAt] using this
  · rw [List.getElem?_eq_none (by rw [iv.len]; omega), List.getElem?_eq_none (by simp; omega)]; rfl
theorem cells_cons1 {α : Type} [Enc α] (a : α) (l : List α) : cells (a :: l) = Enc.enc a ++ cells l := rfl
theorem close_cell (st : List Ob) {m : Nat} (hm : m ≤ 8) (o : Option Held_owned) : closeD 8 st (cellAt m o) = some (eSl (slO m o)) := by
  cases o with
  | none => rfl
  | some o =>
    match m, hm with
    | 0, _ => rfl
    | 1, _ => rfl
    | 2, _ => rfl
    | 3, _ => rfl
    | 4, _ => rfl
    | 5, _ => rfl
    | 6, _ => rfl
    | 7, _ => rfl
    | 8, _ => rfl
    | m + 9, h => omega
theorem close_cells (st : List Ob) {m : Nat} (hm : m ≤ 8) : ∀ l : List (Option Held_owned), closeList (closeD 8 st) (l.map (cellAt m)) = some (cells (l.map (slO m)))
  | [] => rfl
  | o :: l => by
    simp only [List.map_cons, closeList, close_cell st hm o, close_cells st hm l]; rfl
theorem close_ok {m L : Nat} {A0 A1 A2 A4 C : List DV} {es : List (Int × Held_owned)} {cur : Option Nat} (hm : m ≤ 8) (hb : ∀ q ∈ es, 0 ≤ q.1 ∧ q.1 < (L : Int)) (hk : (es.map Prod.fst).Nodup) (iv : Inv es m L [] C) :
    closeTop (stR A0 A1 A2 A4 C es cur []) (.tup [.ms 5 1 0 L 1 true, dB true]) = some (.tup [.c (eSl ⟨false, true, (List.range L).map fun i : Nat => slO m (getM es (i : Int))⟩), dB true]) := by
  have h0 : span C 0 (L * 1) = some C := by
    have : C.length = L := iv.len
    unfold span
    simp [this]
    rw [← this]; simp
  have h1 : getO (stR A0 A1 A2 A4 C es cur []) 5 1 = some ⟨1, C⟩ := rfl
  have h2 : closeD 9 (stR A0 A1 A2 A4 C es cur []) (.ms 5 1 0 L 1 true) = some (.sl false true (cells ((List.range L).map fun i : Nat => slO m (getM es (i : Int)))) L) := by
    simp only [closeD, h1, h0, Option.bind_some]
    have h3 := close_cells (stR A0 A1 A2 A4 C es cur []) hm ((List.range L).map fun i : Nat => getM es (i : Int))
    rw [List.map_map, List.map_map] at h3
    have h4 : C = (List.range L).map (cellAt m ∘ fun i : Nat => getM es (i : Int)) := iv.all hb hk
    rw [← h4] at h3
    rw [h3]; rfl
  have h5 : closeD 9 (stR A0 A1 A2 A4 C es cur []) (dB true) = some (.sc (.bool true)) := rfl
  simp only [closeTop, closeList, h2, h5, Option.map_some, List.map_cons, List.map_nil, eSl, List.length_map, List.length_range]
  rfl
theorem closed_below {α : Type} [Enc α] [EncX α] {n : Nat} (a : α) : ((EncX.encX a).map DV.c).all (below n) = true := by
  simp [below]
theorem closed_below' {n : Nat} (cs : List DV) (h : cs.all (below n) = true) : cs.all (below n) = true := h
/-- What held.Held hands back. -/
def heldV (p0 : GFlow) (p1 : Int) : held_findO → Sl (Sl Int) × Bool
  | .r_1 o1 o2 o3 => (⟨false, true, (List.range p0.locs.toNat).map fun i : Nat => slO p1.toNat (getM o2 (i : Int))⟩, true)
  | _ => (⟨true, true, []⟩, false)
def FinT (X : Go.Abs.Sys) (fn : Func) (d : DV) (ex : Ex) (s : S) : Prop := (∀ id, ex ≠ .exit id) ∧ ∃ d', (resD X.P s fn.results.toList).map resOne = some d' ∧ closeTop s.m.st d' = some d
/-- What is asked of what find comes to. -/
def findGood (p0 : GFlow) (p1 : Int) : held_findO → Prop
  | .r_1 o1 o2 o3 => 0 ≤ p0.locs ∧ Mk 24 p0.locs.toNat ∧ (0 ≤ p1 ∧ p1 ≤ 8) ∧ o2 ≠ [] ∧ (o2.map Prod.fst).Nodup ∧ ∀ q ∈ o2, 0 ≤ q.1 ∧ q.1 < p0.locs
  | _ => True
theorem held_tri (hmo : X.P.follows .mixedOrders = true) (hpr : ∀ f p, X.pr f = some p → PrimOk X.P f p) {n : Nat} {p0 : GFlow} {p1 : Int} {r : held_findO} (h : held_find n p0 p1 = some r) (g : findGood p0 p1 r) :
    Tri X.P 39 [] b7 ⟨argFr [.c (.agg (EncX.encX p0)), dInt p1], ⟨[], []⟩⟩ (FinT X Try.f7 (.tup [.c (eSl (heldV p0 p1 r).1), dB (heldV p0 p1 r).2])) := by
  have h2 := held_find_ok h
  cases r with
  | r o1 o2 o3_7 =>
    obtain ⟨ex, s', hg, h1, d', h3, h4⟩ := Sys.goQ (X := X) (Q := FinC X Try.f7 (.tup [.c (eSl (heldV p0 p1 (.r o1 o2 o3_7)).1), dB (heldV p0 p1 (.r o1 o2 o3_7)).2])) (f := 7) (nt := 39) (b := b7) (s := ⟨argFr [.c (.agg (EncX.encX p0)), dInt p1], ⟨[], []⟩⟩)
      (Sys.endC [((1, 2), .callK (.tup [.c (.sc (.pointer none)), dB false]) ⟨[⟨1, (held_Sections_c3 p0)⟩, ⟨1, rcells o1⟩, mkOb 1 (.map (encM o2)), ⟨1, (held_Sections_c1 p0 o3_7)⟩], []⟩ (.tup [.c (.sc (.pointer none)), dB false]) [⟨1, (held_Sections_c3 p0)⟩, ⟨1, rcells o1⟩, mkOb 1 (.map (encM o2)), ⟨1, (held_Sections_c2 p0 o3_7)⟩])] (And.intro h2 (And.intro (by kernel_rfl : shift 1 0 (.tup [.c (.sc (.pointer none)), dB false]) = .tup [.c (.sc (.pointer none)), dB false]) (shifts_cons (n := 1) (p := 0) (ver := 1) (cs := (held_Sections_c3 p0)) (cs' := (held_Sections_c3 p0)) ((by kernel_rfl : shiftL 1 0 (held_Sections_c3 p0) = (held_Sections_c3 p0))) (shifts_cons (n := 1) (p := 0) (ver := 1) (cs := rcells o1) (cs' := rcells o1) (shift_rcells _ _ _) (shifts_consM (n := 1) (p := 0) (ver := 1) (l := o2) (shifts_cons (n := 1) (p := 0) (ver := 1) (cs := (held_Sections_c1 p0 o3_7)) (cs' := (held_Sections_c2 p0 o3_7)) (shl_cons (by kernel_rfl : shift 1 0 (.c (.sc (.string p0.name))) = .c (.sc (.string p0.name))) (shl_cons (by kernel_rfl : shift 1 0 (dB p0.star) = dB p0.star) (shl_cons (by kernel_rfl : shift 1 0 (dInt p0.locs) = dInt p0.locs) (shl_cons (by kernel_rfl : shift 1 0 (.c (eSl p0.edges)) = .c (eSl p0.edges)) (shl_cons (by kernel_rfl : shift 1 0 (.c (eSl p0.guards)) = .c (eSl p0.guards)) (shl_cons (by kernel_rfl : shift 1 0 (.ms 1 1 0 p0.locs.toNat 1 true) = .ms 2 1 0 p0.locs.toNat 1 true) (shl_cons (by kernel_rfl : shift 1 0 (.mp 2 1) = .mp 3 1) (shl_cons (shift_rsl 1 0 o3_7) (shl_nil _ _))))))))) (shifts_nil _ _))))))) (by kernel_rfl))
    exact (Tri.of_go hmo hpr hg).mono fun ex' s1 hh => by
      obtain ⟨e1, e2⟩ := hh
      rw [e1, e2]
      exact ⟨fun id hid => (by rw [hid] at h1; cases h1), d', h3, h4⟩
  | r_2 =>
    obtain ⟨ex, s', hg, h1, d', h3, h4⟩ := Sys.goQ (X := X) (Q := FinC X Try.f7 (.tup [.c (eSl (heldV p0 p1 (.r_2)).1), dB (heldV p0 p1 (.r_2)).2])) (f := 7) (nt := 39) (b := b7) (s := ⟨argFr [.c (.agg (EncX.encX p0)), dInt p1], ⟨[], []⟩⟩)
      (Sys.endC [((1, 2), .callK (.tup [.c (.sc (.pointer none)), dB false]) ⟨[⟨1, (held_Sections_c3 p0)⟩], []⟩ (.tup [.c (.sc (.pointer none)), dB false]) [⟨1, (held_Sections_c3 p0)⟩])] (And.intro h2 (And.intro (by kernel_rfl : shift 1 0 (.tup [.c (.sc (.pointer none)), dB false]) = .tup [.c (.sc (.pointer none)), dB false]) (shifts_cons (n := 1) (p := 0) (ver := 1) (cs := (held_Sections_c3 p0)) (cs' := (held_Sections_c3 p0)) ((by kernel_rfl : shiftL 1 0 (held_Sections_c3 p0) = (held_Sections_c3 p0))) (shifts_nil _ _)))) (by kernel_rfl))
    exact (Tri.of_go hmo hpr hg).mono fun ex' s1 hh => by
      obtain ⟨e1, e2⟩ := hh
      rw [e1, e2]
      exact ⟨fun id hid => (by rw [hid] at h1; cases h1), d', h3, h4⟩
  | r_1 o1_2 o2_2 o3_7_2 =>
    obtain ⟨g1, g2, g3, g4, g5, g6⟩ := g
    obtain ⟨m, rfl⟩ := Int.eq_ofNat_of_zero_le g3.1
    have hm : m ≤ 8 := by omega
    have hL : ((p0.locs.toNat : Nat) : Int) = p0.locs := Int.toNat_of_nonneg g1
    refine TriAt.tri (TriAt.to (f := 7) hmo hpr [((1, 2), .callK (.tup [.pt 3 1 0, dB true]) ⟨[⟨1, (held_Sections_c3 p0)⟩, ⟨1, rcells o1_2⟩, mkOb 1 (.map (encM o2_2)), ⟨1, (held_Sections_c4 p0 o3_7_2)⟩], []⟩ (.tup [.pt 4 1 0, dB true]) [⟨1, (held_Sections_c3 p0)⟩, ⟨1, rcells o1_2⟩, mkOb 1 (.map (encM o2_2)), ⟨1, (held_Sections_c5 p0 o3_7_2)⟩]), ((4, 2), .mk (rcells (List.replicate p0.locs.toNat (Rs.nil : Rs Int))) true), ((5, 4), .op { d := .mi 6 1 3 1, set := some (6, mkOb 1 (.it 3 1 o2_2.length none (List.range o2_2.length))) })] 100006 (.at [1, 1, 1, 1, 0, 1, 0])
      (hS ((EncX.encX p0).map DV.c) (held_Sections_c3 p0) (rcells o1_2) (held_Sections_c5 p0 o3_7_2) o2_2 m p0.locs.toNat (rcells (List.replicate p0.locs.toNat (Rs.nil : Rs Int))) none (List.range o2_2.length))
      (And.intro (And.intro h2 (And.intro (by kernel_rfl : shift 1 0 (.tup [.pt 3 1 0, dB true]) = .tup [.pt 4 1 0, dB true]) (shifts_cons (n := 1) (p := 0) (ver := 1) (cs := (held_Sections_c3 p0)) (cs' := (held_Sections_c3 p0)) ((by kernel_rfl : shiftL 1 0 (held_Sections_c3 p0) = (held_Sections_c3 p0))) (shifts_cons (n := 1) (p := 0) (ver := 1) (cs := rcells o1_2) (cs' := rcells o1_2) (shift_rcells _ _ _) (shifts_consM (n := 1) (p := 0) (ver := 1) (l := o2_2) (shifts_cons (n := 1) (p := 0) (ver := 1) (cs := (held_Sections_c4 p0 o3_7_2)) (cs' := (held_Sections_c5 p0 o3_7_2)) (shl_cons (by kernel_rfl : shift 1 0 (.c (.sc (.string p0.name))) = .c (.sc (.string p0.name))) (shl_cons (by kernel_rfl : shift 1 0 (dB p0.star) = dB p0.star) (shl_cons (by kernel_rfl : shift 1 0 (dInt p0.locs) = dInt p0.locs) (shl_cons (by kernel_rfl : shift 1 0 (.c (eSl p0.edges)) = .c (eSl p0.edges)) (shl_cons (by kernel_rfl : shift 1 0 (.c (eSl p0.guards)) = .c (eSl p0.guards)) (shl_cons (by kernel_rfl : shift 1 0 (.ms 1 1 0 p0.locs.toNat 1 true) = .ms 2 1 0 p0.locs.toNat 1 true) (shl_cons (by kernel_rfl : shift 1 0 (.mp 2 1) = .mp 3 1) (shl_cons (shift_rsl 1 0 o3_7_2) (shl_nil _ _))))))))) (shifts_nil _ _))))))) (And.intro (mk_okG (α := Int) g1 g2) (range_ok (st := [⟨1, (EncX.encX p0).map DV.c⟩, ⟨1, (held_Sections_c3 p0)⟩, ⟨1, rcells o1_2⟩, mkOb 1 (.map (encM o2_2)), ⟨1, (held_Sections_c5 p0 o3_7_2)⟩, ⟨1, rcells (List.replicate p0.locs.toNat (Rs.nil : Rs Int))⟩, ⟨0, []⟩]) rfl rfl g4))) (by kernel_rfl) ?_)
    refine TriAt.over (by kernel_rfl) (loop_ok hmo hpr hm g5 (fun q hq => by rw [hL]; exact g6 q hq) (Inv.start ?_) ?_ ?_ ?_ ?_ ?_) fun ex s1 hh => ?_
    · simp only [rcells, List.map_replicate]; rfl
    · exact closed_below _
    · exact closed_below' _ rfl
    · exact below_rcells 7 _
    · exact allc_cons rfl (allc_cons rfl (allc_cons rfl (allc_cons rfl (allc_cons rfl (allc_cons rfl (allc_cons rfl (allc_cons (below_rsl 7 o3_7_2) (allc_nil 7))))))))
    · exact below_rcells 7 _
    · obtain ⟨rfl, C', cur', iv, rfl⟩ := hh
      refine TriAt.to (f := 7) hmo hpr [] 999999 (.fin .ret) ⟨fl [(4, .ms 5 1 0 p0.locs.toNat 1 true), (5, dB true)], ⟨stR ((EncX.encX p0).map DV.c) (held_Sections_c3 p0) (rcells o1_2) (held_Sections_c5 p0 o3_7_2) C' o2_2 cur' [], []⟩⟩ True.intro (by kernel_rfl) (TriAt.fin ⟨fun id hid => (by cases hid), .tup [.ms 5 1 0 p0.locs.toNat 1 true, dB true], by kernel_rfl, ?_⟩)
      exact close_ok hm (by rw [hL]; exact g6) g5 iv
end Go.Proofs.Ytkfmoodaplelnaa
