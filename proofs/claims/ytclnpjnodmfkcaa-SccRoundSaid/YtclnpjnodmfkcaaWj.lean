/-
  Part of the proof: printed by the session's own program out of the program's form, or typed; it states no claim by itself.
-/
import Derived.Test.YtclnpjnodmfkcaaAn
import Derived.Test.YtclnpjnodmfkcaaPo
import Derived.Test.YtclnpjnodmfkcaaMh
set_option linter.unusedVariables false
set_option maxRecDepth 10000
namespace Go.Proofs.Ytclnpjnodmfkcaa
open Go Go.Abs Go.Proofs
noncomputable def b8 : Code := (Try.f8.body).getD .skip
theorem waysAt_1 (adj : Sl (Sl Int)) (l p : Sl Int) (ok : DV) (fr t i : Int) (h1 : i < (l.l.length : Int)) (h2 : -9223372036854775808 ≤ i + 1 ∧ i + 1 ≤ 9223372036854775807) : X.Go 8 129 [] (sub b8 [1, 1, 1, 0, 1, 0, 0, 1, 0, 0, 1, 1, 0, 1, 0, 0]) ⟨fl [(0, .c (eSl adj)), (1, dInt fr), (5, .c (eSl l)), (6, dInt t), (7, .c (eSl p)), (8, ok), (9, dB true), (10, dInt i)], ⟨[], []⟩⟩ .normal ⟨fl [(0, .c (eSl adj)), (1, dInt fr), (5, .c (eSl l)), (6, dInt t), (7, .c (eSl p)), (8, ok), (9, dB true), (10, dInt (i + 1))], ⟨[], []⟩⟩ :=
  Sys.go [((10, 3), .b true), ((11, 1), .n)] (And.intro (h1) (h2)) (by kernel_rfl)
theorem waysAt_2 (adj : Sl (Sl Int)) (l p : Sl Int) (ok : DV) (fr t i : Int) (h1 : ¬ i < (l.l.length : Int)) : X.Go 8 129 [] (sub b8 [1, 1, 1, 0, 1, 0, 0, 1, 0, 0, 1, 1, 0, 1, 0, 0]) ⟨fl [(0, .c (eSl adj)), (1, dInt fr), (5, .c (eSl l)), (6, dInt t), (7, .c (eSl p)), (8, ok), (9, dB true), (10, dInt i)], ⟨[], []⟩⟩ (.exit 2) ⟨fl [(0, .c (eSl adj)), (1, dInt fr), (5, .c (eSl l)), (6, dInt t), (7, .c (eSl p)), (8, ok), (9, dB true), (10, dInt i), (50, dB false)], ⟨[], []⟩⟩ :=
  Sys.go [((10, 3), .b false)] (h1) (by kernel_rfl)
theorem waysAf_1 (adj : Sl (Sl Int)) (l p : Sl Int) (ok : DV) (fr t i : Int) (v58 : Int) (h1 : i < (l.l.length : Int)) (h2 : 0 ≤ i ∧ i < (l.l.length : Int)) (h3 : l.l[i.toNat]? = some v58) (h4 : v58 = t) (h5 : -9223372036854775808 ≤ i + 1 ∧ i + 1 ≤ 9223372036854775807) : X.Go 8 129 [] (sub b8 [1, 1, 1, 0, 1, 0, 0, 1, 0, 0, 1, 1, 0, 1, 0, 0]) ⟨fl [(0, .c (eSl adj)), (1, dInt fr), (5, .c (eSl l)), (6, dInt t), (7, .c (eSl p)), (8, ok), (9, dB false), (10, dInt i)], ⟨[], []⟩⟩ .normal ⟨fl [(0, .c (eSl adj)), (1, dInt fr), (5, .c (eSl l)), (6, dInt t), (7, .c (eSl p)), (8, ok), (9, dB true), (10, dInt (i + 1))], ⟨[], []⟩⟩ :=
  Sys.go [((10, 3), .b true), ((12, 4), .ix), ((12, 5), .cell (cInt v58)), ((12, 7), .b true), ((11, 1), .n)] (And.intro (h1) (And.intro (And.intro (Sl.empty l) h2) (And.intro (cell_at 0 (c := cInt v58) rfl h3) (And.intro (h4) (h5))))) (by kernel_rfl)
theorem waysAf_2 (adj : Sl (Sl Int)) (l p : Sl Int) (ok : DV) (fr t i : Int) (v58 : Int) (h1 : i < (l.l.length : Int)) (h2 : 0 ≤ i ∧ i < (l.l.length : Int)) (h3 : l.l[i.toNat]? = some v58) (h4 : ¬ v58 = t) (h5 : -9223372036854775808 ≤ i + 1 ∧ i + 1 ≤ 9223372036854775807) : X.Go 8 129 [] (sub b8 [1, 1, 1, 0, 1, 0, 0, 1, 0, 0, 1, 1, 0, 1, 0, 0]) ⟨fl [(0, .c (eSl adj)), (1, dInt fr), (5, .c (eSl l)), (6, dInt t), (7, .c (eSl p)), (8, ok), (9, dB false), (10, dInt i)], ⟨[], []⟩⟩ .normal ⟨fl [(0, .c (eSl adj)), (1, dInt fr), (5, .c (eSl l)), (6, dInt t), (7, .c (eSl p)), (8, ok), (9, dB false), (10, dInt (i + 1))], ⟨[], []⟩⟩ :=
  Sys.go [((10, 3), .b true), ((12, 4), .ix), ((12, 5), .cell (cInt v58)), ((12, 7), .b false), ((11, 1), .n)] (And.intro (h1) (And.intro (And.intro (Sl.empty l) h2) (And.intro (cell_at 0 (c := cInt v58) rfl h3) (And.intro (h4) (h5))))) (by kernel_rfl)
theorem waysAf_3 (adj : Sl (Sl Int)) (l p : Sl Int) (ok : DV) (fr t i : Int) (h1 : ¬ i < (l.l.length : Int)) : X.Go 8 129 [] (sub b8 [1, 1, 1, 0, 1, 0, 0, 1, 0, 0, 1, 1, 0, 1, 0, 0]) ⟨fl [(0, .c (eSl adj)), (1, dInt fr), (5, .c (eSl l)), (6, dInt t), (7, .c (eSl p)), (8, ok), (9, dB false), (10, dInt i)], ⟨[], []⟩⟩ (.exit 2) ⟨fl [(0, .c (eSl adj)), (1, dInt fr), (5, .c (eSl l)), (6, dInt t), (7, .c (eSl p)), (8, ok), (9, dB false), (10, dInt i), (50, dB false)], ⟨[], []⟩⟩ :=
  Sys.go [((10, 3), .b false)] (h1) (by kernel_rfl)
theorem waysCt_1 (adj : Sl (Sl Int)) (l p : Sl Int) (fr t i k : Int) (v77 : Int) (v79 : Sl Int) (h1 : 0 ≤ i ∧ i < (p.l.length : Int)) (h2 : p.l[i.toNat]? = some v77) (h3 : 0 ≤ v77 ∧ v77 < (adj.l.length : Int)) (h4 : adj.l[v77.toNat]? = some v79) (h5 : k < (v79.l.length : Int)) (h6 : -9223372036854775808 ≤ k + 1 ∧ k + 1 ≤ 9223372036854775807) : X.Go 8 129 [] (sub b8 [1, 1, 1, 0, 1, 0, 0, 1, 0, 0, 1, 1, 1, 1, 1, 0, 0, 1, 0, 0, 1, 0, 1, 0, 0]) ⟨fl [(0, .c (eSl adj)), (1, dInt fr), (5, .c (eSl l)), (6, dInt t), (7, .c (eSl p)), (11, dInt i), (12, dB true), (13, dInt k)], ⟨[], []⟩⟩ .normal ⟨fl [(0, .c (eSl adj)), (1, dInt fr), (5, .c (eSl l)), (6, dInt t), (7, .c (eSl p)), (11, dInt i), (12, dB true), (13, dInt (k + 1))], ⟨[], []⟩⟩ :=
  Sys.go [((20, 4), .ix), ((20, 5), .cell (cInt v77)), ((20, 6), .ix), ((20, 7), .cell (eSl v79)), ((20, 9), .b true), ((21, 1), .n)] (And.intro (And.intro (Sl.empty p) h1) (And.intro (cell_at 0 (c := cInt v77) rfl h2) (And.intro (And.intro (Sl.empty adj) h3) (And.intro (cell_at 0 (c := eSl v79) rfl h4) (And.intro (h5) (h6)))))) (by kernel_rfl)
theorem waysCt_2 (adj : Sl (Sl Int)) (l p : Sl Int) (fr t i k : Int) (v77 : Int) (v79 : Sl Int) (h1 : 0 ≤ i ∧ i < (p.l.length : Int)) (h2 : p.l[i.toNat]? = some v77) (h3 : 0 ≤ v77 ∧ v77 < (adj.l.length : Int)) (h4 : adj.l[v77.toNat]? = some v79) (h5 : ¬ k < (v79.l.length : Int)) : X.Go 8 129 [] (sub b8 [1, 1, 1, 0, 1, 0, 0, 1, 0, 0, 1, 1, 1, 1, 1, 0, 0, 1, 0, 0, 1, 0, 1, 0, 0]) ⟨fl [(0, .c (eSl adj)), (1, dInt fr), (5, .c (eSl l)), (6, dInt t), (7, .c (eSl p)), (11, dInt i), (12, dB true), (13, dInt k)], ⟨[], []⟩⟩ (.exit 6) ⟨fl [(0, .c (eSl adj)), (1, dInt fr), (5, .c (eSl l)), (6, dInt t), (7, .c (eSl p)), (11, dInt i), (12, dB true), (13, dInt k), (81, dB false)], ⟨[], []⟩⟩ :=
  Sys.go [((20, 4), .ix), ((20, 5), .cell (cInt v77)), ((20, 6), .ix), ((20, 7), .cell (eSl v79)), ((20, 9), .b false)] (And.intro (And.intro (Sl.empty p) h1) (And.intro (cell_at 0 (c := cInt v77) rfl h2) (And.intro (And.intro (Sl.empty adj) h3) (And.intro (cell_at 0 (c := eSl v79) rfl h4) (h5))))) (by kernel_rfl)
theorem waysCf_1 (adj : Sl (Sl Int)) (l p : Sl Int) (fr t i k : Int) (v77 : Int) (v79 : Sl Int) (v95 : Int) (v100 : Int) (h1 : 0 ≤ i ∧ i < (p.l.length : Int)) (h2 : p.l[i.toNat]? = some v77) (h3 : 0 ≤ v77 ∧ v77 < (adj.l.length : Int)) (h4 : adj.l[v77.toNat]? = some v79) (h5 : k < (v79.l.length : Int)) (h6 : 0 ≤ k ∧ k < (v79.l.length : Int)) (h7 : v79.l[k.toNat]? = some v95) (h8 : -9223372036854775808 ≤ i + 1 ∧ i + 1 ≤ 9223372036854775807) (h9 : 0 ≤ (i + 1) ∧ (i + 1) < (p.l.length : Int)) (h10 : p.l[(i + 1).toNat]? = some v100) (h11 : v95 = v100) (h12 : -9223372036854775808 ≤ k + 1 ∧ k + 1 ≤ 9223372036854775807) : X.Go 8 129 [] (sub b8 [1, 1, 1, 0, 1, 0, 0, 1, 0, 0, 1, 1, 1, 1, 1, 0, 0, 1, 0, 0, 1, 0, 1, 0, 0]) ⟨fl [(0, .c (eSl adj)), (1, dInt fr), (5, .c (eSl l)), (6, dInt t), (7, .c (eSl p)), (11, dInt i), (12, dB false), (13, dInt k)], ⟨[], []⟩⟩ .normal ⟨fl [(0, .c (eSl adj)), (1, dInt fr), (5, .c (eSl l)), (6, dInt t), (7, .c (eSl p)), (11, dInt i), (12, dB true), (13, dInt (k + 1))], ⟨[], []⟩⟩ :=
  Sys.go [((20, 4), .ix), ((20, 5), .cell (cInt v77)), ((20, 6), .ix), ((20, 7), .cell (eSl v79)), ((20, 9), .b true), ((22, 5), .ix), ((22, 6), .cell (cInt v77)), ((22, 7), .ix), ((22, 8), .cell (eSl v79)), ((22, 10), .ix), ((22, 11), .cell (cInt v95)), ((22, 14), .n), ((22, 15), .ix), ((22, 16), .cell (cInt v100)), ((22, 17), .b true), ((21, 1), .n)] (And.intro (And.intro (Sl.empty p) h1) (And.intro (cell_at 0 (c := cInt v77) rfl h2) (And.intro (And.intro (Sl.empty adj) h3) (And.intro (cell_at 0 (c := eSl v79) rfl h4) (And.intro (h5) (And.intro (And.intro (Sl.empty p) h1) (And.intro (cell_at 0 (c := cInt v77) rfl h2) (And.intro (And.intro (Sl.empty adj) h3) (And.intro (cell_at 0 (c := eSl v79) rfl h4) (And.intro (And.intro (Sl.empty v79) h6) (And.intro (cell_at 0 (c := cInt v95) rfl h7) (And.intro (h8) (And.intro (And.intro (Sl.empty p) h9) (And.intro (cell_at 0 (c := cInt v100) rfl h10) (And.intro (h11) (h12)))))))))))))))) (by kernel_rfl)
theorem waysCf_2 (adj : Sl (Sl Int)) (l p : Sl Int) (fr t i k : Int) (v77 : Int) (v79 : Sl Int) (v95 : Int) (v100 : Int) (h1 : 0 ≤ i ∧ i < (p.l.length : Int)) (h2 : p.l[i.toNat]? = some v77) (h3 : 0 ≤ v77 ∧ v77 < (adj.l.length : Int)) (h4 : adj.l[v77.toNat]? = some v79) (h5 : k < (v79.l.length : Int)) (h6 : 0 ≤ k ∧ k < (v79.l.length : Int)) (h7 : v79.l[k.toNat]? = some v95) (h8 : -9223372036854775808 ≤ i + 1 ∧ i + 1 ≤ 9223372036854775807) (h9 : 0 ≤ (i + 1) ∧ (i + 1) < (p.l.length : Int)) (h10 : p.l[(i + 1).toNat]? = some v100) (h11 : ¬ v95 = v100) (h12 : -9223372036854775808 ≤ k + 1 ∧ k + 1 ≤ 9223372036854775807) : X.Go 8 129 [] (sub b8 [1, 1, 1, 0, 1, 0, 0, 1, 0, 0, 1, 1, 1, 1, 1, 0, 0, 1, 0, 0, 1, 0, 1, 0, 0]) ⟨fl [(0, .c (eSl adj)), (1, dInt fr), (5, .c (eSl l)), (6, dInt t), (7, .c (eSl p)), (11, dInt i), (12, dB false), (13, dInt k)], ⟨[], []⟩⟩ .normal ⟨fl [(0, .c (eSl adj)), (1, dInt fr), (5, .c (eSl l)), (6, dInt t), (7, .c (eSl p)), (11, dInt i), (12, dB false), (13, dInt (k + 1))], ⟨[], []⟩⟩ :=
  Sys.go [((20, 4), .ix), ((20, 5), .cell (cInt v77)), ((20, 6), .ix), ((20, 7), .cell (eSl v79)), ((20, 9), .b true), ((22, 5), .ix), ((22, 6), .cell (cInt v77)), ((22, 7), .ix), ((22, 8), .cell (eSl v79)), ((22, 10), .ix), ((22, 11), .cell (cInt v95)), ((22, 14), .n), ((22, 15), .ix), ((22, 16), .cell (cInt v100)), ((22, 17), .b false), ((21, 1), .n)] (And.intro (And.intro (Sl.empty p) h1) (And.intro (cell_at 0 (c := cInt v77) rfl h2) (And.intro (And.intro (Sl.empty adj) h3) (And.intro (cell_at 0 (c := eSl v79) rfl h4) (And.intro (h5) (And.intro (And.intro (Sl.empty p) h1) (And.intro (cell_at 0 (c := cInt v77) rfl h2) (And.intro (And.intro (Sl.empty adj) h3) (And.intro (cell_at 0 (c := eSl v79) rfl h4) (And.intro (And.intro (Sl.empty v79) h6) (And.intro (cell_at 0 (c := cInt v95) rfl h7) (And.intro (h8) (And.intro (And.intro (Sl.empty p) h9) (And.intro (cell_at 0 (c := cInt v100) rfl h10) (And.intro (h11) (h12)))))))))))))))) (by kernel_rfl)
theorem waysCf_3 (adj : Sl (Sl Int)) (l p : Sl Int) (fr t i k : Int) (v77 : Int) (v79 : Sl Int) (h1 : 0 ≤ i ∧ i < (p.l.length : Int)) (h2 : p.l[i.toNat]? = some v77) (h3 : 0 ≤ v77 ∧ v77 < (adj.l.length : Int)) (h4 : adj.l[v77.toNat]? = some v79) (h5 : ¬ k < (v79.l.length : Int)) : X.Go 8 129 [] (sub b8 [1, 1, 1, 0, 1, 0, 0, 1, 0, 0, 1, 1, 1, 1, 1, 0, 0, 1, 0, 0, 1, 0, 1, 0, 0]) ⟨fl [(0, .c (eSl adj)), (1, dInt fr), (5, .c (eSl l)), (6, dInt t), (7, .c (eSl p)), (11, dInt i), (12, dB false), (13, dInt k)], ⟨[], []⟩⟩ (.exit 6) ⟨fl [(0, .c (eSl adj)), (1, dInt fr), (5, .c (eSl l)), (6, dInt t), (7, .c (eSl p)), (11, dInt i), (12, dB false), (13, dInt k), (81, dB false)], ⟨[], []⟩⟩ :=
  Sys.go [((20, 4), .ix), ((20, 5), .cell (cInt v77)), ((20, 6), .ix), ((20, 7), .cell (eSl v79)), ((20, 9), .b false)] (And.intro (And.intro (Sl.empty p) h1) (And.intro (cell_at 0 (c := cInt v77) rfl h2) (And.intro (And.intro (Sl.empty adj) h3) (And.intro (cell_at 0 (c := eSl v79) rfl h4) (h5))))) (by kernel_rfl)
theorem waysB_1 (adj : Sl (Sl Int)) (l p : Sl Int) (fr t i : Int) (k : Int) (v108 : Int) (r0 : Sl Int) (h1 : -9223372036854775808 ≤ i + 1 ∧ i + 1 ≤ 9223372036854775807) (h2 : (i + 1) < (p.l.length : Int)) (h3 : X.Go 8 129 [] (sub b8 [1, 1, 1, 0, 1, 0, 0, 1, 0, 0, 1, 1, 1, 1, 1, 0, 0, 1, 0, 0, 1, 0, 1, 0]) ⟨fl [(0, .c (eSl adj)), (1, dInt fr), (5, .c (eSl l)), (6, dInt t), (7, .c (eSl p)), (11, dInt i), (12, dB false), (13, dInt 0)], ⟨[], []⟩⟩ (.exit 6) ⟨fl [(0, .c (eSl adj)), (1, dInt fr), (5, .c (eSl l)), (6, dInt t), (7, .c (eSl p)), (11, dInt i), (12, dB true), (13, dInt k), (81, dB false)], ⟨[], []⟩⟩) (h4 : 0 ≤ i ∧ i < (p.l.length : Int)) (h5 : p.l[i.toNat]? = some v108) (h6 : X.RunsC 14 [.c (eSl adj), dInt v108, dInt t] (.tup [.c (eSl r0), dB true])) (h7 : -9223372036854775808 ≤ (p.l.length : Int) - i ∧ (p.l.length : Int) - i ≤ 9223372036854775807) (h8 : (r0.l.length : Int) ≠ ((p.l.length : Int) - i)) : X.Go 8 129 [] (sub b8 [1, 1, 1, 0, 1, 0, 0, 1, 0, 0, 1, 1, 1, 1, 1, 0, 0]) ⟨fl [(0, .c (eSl adj)), (1, dInt fr), (5, .c (eSl l)), (6, dInt t), (7, .c (eSl p)), (11, dInt i)], ⟨[], []⟩⟩ .ret ⟨fl [(4, dB false)], ⟨[], []⟩⟩ :=
  Sys.go [((16, 1), .n), ((16, 4), .b true), ((20, 1000), .code (.exit 6) ⟨fl [(0, .c (eSl adj)), (1, dInt fr), (5, .c (eSl l)), (6, dInt t), (7, .c (eSl p)), (11, dInt i), (12, dB true), (13, dInt k), (81, dB false)], ⟨[], []⟩⟩), ((23, 3), .ix), ((23, 4), .cell (cInt v108)), ((23, 6), .call (.tup [.c (eSl r0), dB true]) ⟨[], []⟩), ((24, 12), .n), ((24, 13), .b true)] (And.intro (h1) (And.intro (h2) (And.intro (h3) (And.intro (And.intro (Sl.empty p) h4) (And.intro (cell_at 0 (c := cInt v108) rfl h5) (And.intro (h6) (And.intro (h7) (h8)))))))) (by kernel_rfl)
theorem waysB_2 (adj : Sl (Sl Int)) (l p : Sl Int) (fr t i : Int) (k : Int) (v108 : Int) (r0 : Sl Int) (h1 : -9223372036854775808 ≤ i + 1 ∧ i + 1 ≤ 9223372036854775807) (h2 : (i + 1) < (p.l.length : Int)) (h3 : X.Go 8 129 [] (sub b8 [1, 1, 1, 0, 1, 0, 0, 1, 0, 0, 1, 1, 1, 1, 1, 0, 0, 1, 0, 0, 1, 0, 1, 0]) ⟨fl [(0, .c (eSl adj)), (1, dInt fr), (5, .c (eSl l)), (6, dInt t), (7, .c (eSl p)), (11, dInt i), (12, dB false), (13, dInt 0)], ⟨[], []⟩⟩ (.exit 6) ⟨fl [(0, .c (eSl adj)), (1, dInt fr), (5, .c (eSl l)), (6, dInt t), (7, .c (eSl p)), (11, dInt i), (12, dB true), (13, dInt k), (81, dB false)], ⟨[], []⟩⟩) (h4 : 0 ≤ i ∧ i < (p.l.length : Int)) (h5 : p.l[i.toNat]? = some v108) (h6 : X.RunsC 14 [.c (eSl adj), dInt v108, dInt t] (.tup [.c (eSl r0), dB true])) (h7 : -9223372036854775808 ≤ (p.l.length : Int) - i ∧ (p.l.length : Int) - i ≤ 9223372036854775807) (h8 : ¬ (r0.l.length : Int) ≠ ((p.l.length : Int) - i)) : X.Go 8 129 [] (sub b8 [1, 1, 1, 0, 1, 0, 0, 1, 0, 0, 1, 1, 1, 1, 1, 0, 0]) ⟨fl [(0, .c (eSl adj)), (1, dInt fr), (5, .c (eSl l)), (6, dInt t), (7, .c (eSl p)), (11, dInt i)], ⟨[], []⟩⟩ .normal ⟨fl [(0, .c (eSl adj)), (1, dInt fr), (5, .c (eSl l)), (6, dInt t), (7, .c (eSl p)), (11, dInt (i + 1))], ⟨[], []⟩⟩ :=
  Sys.go [((16, 1), .n), ((16, 4), .b true), ((20, 1000), .code (.exit 6) ⟨fl [(0, .c (eSl adj)), (1, dInt fr), (5, .c (eSl l)), (6, dInt t), (7, .c (eSl p)), (11, dInt i), (12, dB true), (13, dInt k), (81, dB false)], ⟨[], []⟩⟩), ((23, 3), .ix), ((23, 4), .cell (cInt v108)), ((23, 6), .call (.tup [.c (eSl r0), dB true]) ⟨[], []⟩), ((24, 12), .n), ((24, 13), .b false), ((17, 1), .n)] (And.intro (h1) (And.intro (h2) (And.intro (h3) (And.intro (And.intro (Sl.empty p) h4) (And.intro (cell_at 0 (c := cInt v108) rfl h5) (And.intro (h6) (And.intro (h7) (And.intro (h8) (h1))))))))) (by kernel_rfl)
theorem waysB_3 (adj : Sl (Sl Int)) (l p : Sl Int) (fr t i : Int) (k : Int) (v108 : Int) (r0 : Sl Int) (h1 : -9223372036854775808 ≤ i + 1 ∧ i + 1 ≤ 9223372036854775807) (h2 : (i + 1) < (p.l.length : Int)) (h3 : X.Go 8 129 [] (sub b8 [1, 1, 1, 0, 1, 0, 0, 1, 0, 0, 1, 1, 1, 1, 1, 0, 0, 1, 0, 0, 1, 0, 1, 0]) ⟨fl [(0, .c (eSl adj)), (1, dInt fr), (5, .c (eSl l)), (6, dInt t), (7, .c (eSl p)), (11, dInt i), (12, dB false), (13, dInt 0)], ⟨[], []⟩⟩ (.exit 6) ⟨fl [(0, .c (eSl adj)), (1, dInt fr), (5, .c (eSl l)), (6, dInt t), (7, .c (eSl p)), (11, dInt i), (12, dB true), (13, dInt k), (81, dB false)], ⟨[], []⟩⟩) (h4 : 0 ≤ i ∧ i < (p.l.length : Int)) (h5 : p.l[i.toNat]? = some v108) (h6 : X.RunsC 14 [.c (eSl adj), dInt v108, dInt t] (.tup [.c (eSl r0), dB false])) : X.Go 8 129 [] (sub b8 [1, 1, 1, 0, 1, 0, 0, 1, 0, 0, 1, 1, 1, 1, 1, 0, 0]) ⟨fl [(0, .c (eSl adj)), (1, dInt fr), (5, .c (eSl l)), (6, dInt t), (7, .c (eSl p)), (11, dInt i)], ⟨[], []⟩⟩ .ret ⟨fl [(4, dB false)], ⟨[], []⟩⟩ :=
  Sys.go [((16, 1), .n), ((16, 4), .b true), ((20, 1000), .code (.exit 6) ⟨fl [(0, .c (eSl adj)), (1, dInt fr), (5, .c (eSl l)), (6, dInt t), (7, .c (eSl p)), (11, dInt i), (12, dB true), (13, dInt k), (81, dB false)], ⟨[], []⟩⟩), ((23, 3), .ix), ((23, 4), .cell (cInt v108)), ((23, 6), .call (.tup [.c (eSl r0), dB false]) ⟨[], []⟩)] (And.intro (h1) (And.intro (h2) (And.intro (h3) (And.intro (And.intro (Sl.empty p) h4) (And.intro (cell_at 0 (c := cInt v108) rfl h5) (h6)))))) (by kernel_rfl)
theorem waysB_4 (adj : Sl (Sl Int)) (l p : Sl Int) (fr t i : Int) (h1 : -9223372036854775808 ≤ i + 1 ∧ i + 1 ≤ 9223372036854775807) (h2 : ¬ (i + 1) < (p.l.length : Int)) : X.Go 8 129 [] (sub b8 [1, 1, 1, 0, 1, 0, 0, 1, 0, 0, 1, 1, 1, 1, 1, 0, 0]) ⟨fl [(0, .c (eSl adj)), (1, dInt fr), (5, .c (eSl l)), (6, dInt t), (7, .c (eSl p)), (11, dInt i)], ⟨[], []⟩⟩ (.exit 4) ⟨fl [(0, .c (eSl adj)), (1, dInt fr), (5, .c (eSl l)), (6, dInt t), (7, .c (eSl p)), (11, dInt i), (69, dB false)], ⟨[], []⟩⟩ :=
  Sys.go [((16, 1), .n), ((16, 4), .b false)] (And.intro (h1) (h2)) (by kernel_rfl)
theorem waysT_1 (adj : Sl (Sl Int)) (l : Sl Int) (fr t : Int) (r0 : Sl Int) (i : Int) (j : Int) (h1 : t < (adj.l.length : Int)) (h2 : X.RunsC 14 [.c (eSl adj), dInt fr, dInt t] (.tup [.c (eSl r0), dB true])) (h3 : X.Go 8 129 [] (sub b8 [1, 1, 1, 0, 1, 0, 0, 1, 0, 0, 1, 1, 0, 1, 0]) ⟨fl [(0, .c (eSl adj)), (1, dInt fr), (5, .c (eSl l)), (6, dInt t), (7, .c (eSl r0)), (8, dB true), (9, dB false), (10, dInt 0)], ⟨[], []⟩⟩ (.exit 2) ⟨fl [(0, .c (eSl adj)), (1, dInt fr), (5, .c (eSl l)), (6, dInt t), (7, .c (eSl r0)), (8, dB true), (9, dB true), (10, dInt i), (50, dB false)], ⟨[], []⟩⟩) (h4 : X.Go 8 129 [] (sub b8 [1, 1, 1, 0, 1, 0, 0, 1, 0, 0, 1, 1, 1, 1, 1, 0]) ⟨fl [(0, .c (eSl adj)), (1, dInt fr), (5, .c (eSl l)), (6, dInt t), (7, .c (eSl r0)), (11, dInt 0)], ⟨[], []⟩⟩ (.exit 4) ⟨fl [(0, .c (eSl adj)), (1, dInt fr), (5, .c (eSl l)), (6, dInt t), (7, .c (eSl r0)), (11, dInt j), (69, dB false)], ⟨[], []⟩⟩) (h5 : -9223372036854775808 ≤ t + 1 ∧ t + 1 ≤ 9223372036854775807) : X.Go 8 129 [] (sub b8 [1, 1, 1, 0, 1, 0, 0]) ⟨fl [(0, .c (eSl adj)), (1, dInt fr), (5, .c (eSl l)), (6, dInt t)], ⟨[], []⟩⟩ .normal ⟨fl [(0, .c (eSl adj)), (1, dInt fr), (5, .c (eSl l)), (6, dInt (t + 1))], ⟨[], []⟩⟩ :=
  Sys.go [((5, 3), .b true), ((7, 3), .call (.tup [.c (eSl r0), dB true]) ⟨[], []⟩), ((10, 1000), .code (.exit 2) ⟨fl [(0, .c (eSl adj)), (1, dInt fr), (5, .c (eSl l)), (6, dInt t), (7, .c (eSl r0)), (8, dB true), (9, dB true), (10, dInt i), (50, dB false)], ⟨[], []⟩⟩), ((13, 2), .op { d := dB false }), ((16, 1000), .code (.exit 4) ⟨fl [(0, .c (eSl adj)), (1, dInt fr), (5, .c (eSl l)), (6, dInt t), (7, .c (eSl r0)), (11, dInt j), (69, dB false)], ⟨[], []⟩⟩), ((6, 1), .n)] (And.intro (h1) (And.intro (h2) (And.intro (h3) (And.intro (bool_neq (P := X.P) (t := 4) true true (by kernel_rfl) (by kernel_rfl)) (And.intro (h4) (h5)))))) (by kernel_rfl)
theorem waysT_2 (adj : Sl (Sl Int)) (l : Sl Int) (fr t : Int) (r0 : Sl Int) (i : Int) (h1 : t < (adj.l.length : Int)) (h2 : X.RunsC 14 [.c (eSl adj), dInt fr, dInt t] (.tup [.c (eSl r0), dB true])) (h3 : X.Go 8 129 [] (sub b8 [1, 1, 1, 0, 1, 0, 0, 1, 0, 0, 1, 1, 0, 1, 0]) ⟨fl [(0, .c (eSl adj)), (1, dInt fr), (5, .c (eSl l)), (6, dInt t), (7, .c (eSl r0)), (8, dB true), (9, dB false), (10, dInt 0)], ⟨[], []⟩⟩ (.exit 2) ⟨fl [(0, .c (eSl adj)), (1, dInt fr), (5, .c (eSl l)), (6, dInt t), (7, .c (eSl r0)), (8, dB true), (9, dB false), (10, dInt i), (50, dB false)], ⟨[], []⟩⟩) : X.Go 8 129 [] (sub b8 [1, 1, 1, 0, 1, 0, 0]) ⟨fl [(0, .c (eSl adj)), (1, dInt fr), (5, .c (eSl l)), (6, dInt t)], ⟨[], []⟩⟩ .ret ⟨fl [(4, dB false)], ⟨[], []⟩⟩ :=
  Sys.go [((5, 3), .b true), ((7, 3), .call (.tup [.c (eSl r0), dB true]) ⟨[], []⟩), ((10, 1000), .code (.exit 2) ⟨fl [(0, .c (eSl adj)), (1, dInt fr), (5, .c (eSl l)), (6, dInt t), (7, .c (eSl r0)), (8, dB true), (9, dB false), (10, dInt i), (50, dB false)], ⟨[], []⟩⟩), ((13, 2), .op { d := dB true })] (And.intro (h1) (And.intro (h2) (And.intro (h3) (bool_neq (P := X.P) (t := 4) true false (by kernel_rfl) (by kernel_rfl))))) (by kernel_rfl)
theorem waysT_3 (adj : Sl (Sl Int)) (l : Sl Int) (fr t : Int) (r0 : Sl Int) (i : Int) (h1 : t < (adj.l.length : Int)) (h2 : X.RunsC 14 [.c (eSl adj), dInt fr, dInt t] (.tup [.c (eSl r0), dB false])) (h3 : X.Go 8 129 [] (sub b8 [1, 1, 1, 0, 1, 0, 0, 1, 0, 0, 1, 1, 0, 1, 0]) ⟨fl [(0, .c (eSl adj)), (1, dInt fr), (5, .c (eSl l)), (6, dInt t), (7, .c (eSl r0)), (8, dB false), (9, dB false), (10, dInt 0)], ⟨[], []⟩⟩ (.exit 2) ⟨fl [(0, .c (eSl adj)), (1, dInt fr), (5, .c (eSl l)), (6, dInt t), (7, .c (eSl r0)), (8, dB false), (9, dB true), (10, dInt i), (50, dB false)], ⟨[], []⟩⟩) : X.Go 8 129 [] (sub b8 [1, 1, 1, 0, 1, 0, 0]) ⟨fl [(0, .c (eSl adj)), (1, dInt fr), (5, .c (eSl l)), (6, dInt t)], ⟨[], []⟩⟩ .ret ⟨fl [(4, dB false)], ⟨[], []⟩⟩ :=
  Sys.go [((5, 3), .b true), ((7, 3), .call (.tup [.c (eSl r0), dB false]) ⟨[], []⟩), ((10, 1000), .code (.exit 2) ⟨fl [(0, .c (eSl adj)), (1, dInt fr), (5, .c (eSl l)), (6, dInt t), (7, .c (eSl r0)), (8, dB false), (9, dB true), (10, dInt i), (50, dB false)], ⟨[], []⟩⟩), ((13, 2), .op { d := dB true })] (And.intro (h1) (And.intro (h2) (And.intro (h3) (bool_neq (P := X.P) (t := 4) false true (by kernel_rfl) (by kernel_rfl))))) (by kernel_rfl)
theorem waysT_4 (adj : Sl (Sl Int)) (l : Sl Int) (fr t : Int) (r0 : Sl Int) (i : Int) (j : Int) (h1 : t < (adj.l.length : Int)) (h2 : X.RunsC 14 [.c (eSl adj), dInt fr, dInt t] (.tup [.c (eSl r0), dB false])) (h3 : X.Go 8 129 [] (sub b8 [1, 1, 1, 0, 1, 0, 0, 1, 0, 0, 1, 1, 0, 1, 0]) ⟨fl [(0, .c (eSl adj)), (1, dInt fr), (5, .c (eSl l)), (6, dInt t), (7, .c (eSl r0)), (8, dB false), (9, dB false), (10, dInt 0)], ⟨[], []⟩⟩ (.exit 2) ⟨fl [(0, .c (eSl adj)), (1, dInt fr), (5, .c (eSl l)), (6, dInt t), (7, .c (eSl r0)), (8, dB false), (9, dB false), (10, dInt i), (50, dB false)], ⟨[], []⟩⟩) (h4 : X.Go 8 129 [] (sub b8 [1, 1, 1, 0, 1, 0, 0, 1, 0, 0, 1, 1, 1, 1, 1, 0]) ⟨fl [(0, .c (eSl adj)), (1, dInt fr), (5, .c (eSl l)), (6, dInt t), (7, .c (eSl r0)), (11, dInt 0)], ⟨[], []⟩⟩ (.exit 4) ⟨fl [(0, .c (eSl adj)), (1, dInt fr), (5, .c (eSl l)), (6, dInt t), (7, .c (eSl r0)), (11, dInt j), (69, dB false)], ⟨[], []⟩⟩) (h5 : -9223372036854775808 ≤ t + 1 ∧ t + 1 ≤ 9223372036854775807) : X.Go 8 129 [] (sub b8 [1, 1, 1, 0, 1, 0, 0]) ⟨fl [(0, .c (eSl adj)), (1, dInt fr), (5, .c (eSl l)), (6, dInt t)], ⟨[], []⟩⟩ .normal ⟨fl [(0, .c (eSl adj)), (1, dInt fr), (5, .c (eSl l)), (6, dInt (t + 1))], ⟨[], []⟩⟩ :=
  Sys.go [((5, 3), .b true), ((7, 3), .call (.tup [.c (eSl r0), dB false]) ⟨[], []⟩), ((10, 1000), .code (.exit 2) ⟨fl [(0, .c (eSl adj)), (1, dInt fr), (5, .c (eSl l)), (6, dInt t), (7, .c (eSl r0)), (8, dB false), (9, dB false), (10, dInt i), (50, dB false)], ⟨[], []⟩⟩), ((13, 2), .op { d := dB false }), ((16, 1000), .code (.exit 4) ⟨fl [(0, .c (eSl adj)), (1, dInt fr), (5, .c (eSl l)), (6, dInt t), (7, .c (eSl r0)), (11, dInt j), (69, dB false)], ⟨[], []⟩⟩), ((6, 1), .n)] (And.intro (h1) (And.intro (h2) (And.intro (h3) (And.intro (bool_neq (P := X.P) (t := 4) false false (by kernel_rfl) (by kernel_rfl)) (And.intro (h4) (h5)))))) (by kernel_rfl)
theorem waysT_5 (adj : Sl (Sl Int)) (l : Sl Int) (fr t : Int) (h1 : ¬ t < (adj.l.length : Int)) : X.Go 8 129 [] (sub b8 [1, 1, 1, 0, 1, 0, 0]) ⟨fl [(0, .c (eSl adj)), (1, dInt fr), (5, .c (eSl l)), (6, dInt t)], ⟨[], []⟩⟩ (.exit 0) ⟨fl [(0, .c (eSl adj)), (1, dInt fr), (5, .c (eSl l)), (6, dInt t), (37, dB false)], ⟨[], []⟩⟩ :=
  Sys.go [((5, 3), .b false)] (h1) (by kernel_rfl)
theorem lawWays_1 (adj : Sl (Sl Int)) (fr : Int) (h1 : X.RunsC 9 [.c (eSl adj)] (dB true)) (h2 : fr < 0) (h3 : X.RunsC 10 [] (dB true)) : X.Runs [] 8 [.c (eSl adj), dInt fr] ⟨[], []⟩ (dB true) ⟨[], []⟩ :=
  (Sys.call (X := X) (args := [.c (eSl adj), dInt fr]) (m := ⟨[], []⟩) (d := dB true) (m' := ⟨[], []⟩) (Sys.go (f := 8) (nt := 129) (Γ := []) (c := b8) (s := ⟨argFr [.c (eSl adj), dInt fr], ⟨[], []⟩⟩) (ex := .ret) (s' := ⟨fl [(4, dB true)], ⟨[], []⟩⟩) [((1, 1), .call (dB true) ⟨[], []⟩), ((1, 5), .b true), ((2, 0), .call (dB true) ⟨[], []⟩)] (And.intro (h1) (And.intro (h2) (h3))) (by kernel_rfl)) (fn := Try.f8) (by kernel_rfl) (by kernel_rfl) rfl (by kernel_rfl) rfl)
theorem lawWays_2 (adj : Sl (Sl Int)) (fr : Int) (h1 : X.RunsC 9 [.c (eSl adj)] (dB true)) (h2 : ¬ fr < 0) (h3 : fr ≥ (adj.l.length : Int)) (h4 : X.RunsC 10 [] (dB true)) : X.Runs [] 8 [.c (eSl adj), dInt fr] ⟨[], []⟩ (dB true) ⟨[], []⟩ :=
  (Sys.call (X := X) (args := [.c (eSl adj), dInt fr]) (m := ⟨[], []⟩) (d := dB true) (m' := ⟨[], []⟩) (Sys.go (f := 8) (nt := 129) (Γ := []) (c := b8) (s := ⟨argFr [.c (eSl adj), dInt fr], ⟨[], []⟩⟩) (ex := .ret) (s' := ⟨fl [(4, dB true)], ⟨[], []⟩⟩) [((1, 1), .call (dB true) ⟨[], []⟩), ((1, 5), .b false), ((1, 11), .b true), ((2, 0), .call (dB true) ⟨[], []⟩)] (And.intro (h1) (And.intro (h2) (And.intro (h3) (h4)))) (by kernel_rfl)) (fn := Try.f8) (by kernel_rfl) (by kernel_rfl) rfl (by kernel_rfl) rfl)
theorem lawWays_3 (adj : Sl (Sl Int)) (fr : Int) (r : Sl Int) (t : Int) (h1 : X.RunsC 9 [.c (eSl adj)] (dB true)) (h2 : ¬ fr < 0) (h3 : ¬ fr ≥ (adj.l.length : Int)) (h4 : X.RunsC 12 [.c (eSl adj), .c (.sl false true (cells ([fr] : List Int)) 1)] (.c (eSl r))) (h5 : X.Go 8 129 [] (sub b8 [1, 1, 1, 0, 1, 0]) ⟨fl [(0, .c (eSl adj)), (1, dInt fr), (5, .c (eSl r)), (6, dInt 0)], ⟨[], []⟩⟩ (.exit 0) ⟨fl [(0, .c (eSl adj)), (1, dInt fr), (5, .c (eSl r)), (6, dInt t), (37, dB false)], ⟨[], []⟩⟩) (h6 : X.RunsC 10 [] (dB true)) : X.Runs [] 8 [.c (eSl adj), dInt fr] ⟨[], []⟩ (dB true) ⟨[], []⟩ :=
  (Sys.call (X := X) (args := [.c (eSl adj), dInt fr]) (m := ⟨[], []⟩) (d := dB true) (m' := ⟨[], []⟩) (Sys.go (f := 8) (nt := 129) (Γ := []) (c := b8) (s := ⟨argFr [.c (eSl adj), dInt fr], ⟨[], []⟩⟩) (ex := .ret) (s' := ⟨fl [(4, dB true)], ⟨[], []⟩⟩) [((1, 1), .call (dB true) ⟨[], []⟩), ((1, 5), .b false), ((1, 11), .b false), ((3, 3), .call (.c (eSl r)) ⟨[], []⟩), ((5, 1000), .code (.exit 0) ⟨fl [(0, .c (eSl adj)), (1, dInt fr), (5, .c (eSl r)), (6, dInt t), (37, dB false)], ⟨[], []⟩⟩), ((26, 0), .call (dB true) ⟨[], []⟩)] (And.intro (h1) (And.intro (h2) (And.intro (h3) (And.intro (h4) (And.intro (h5) (h6)))))) (by kernel_rfl)) (fn := Try.f8) (by kernel_rfl) (by kernel_rfl) rfl (by kernel_rfl) rfl)
theorem lawWays_4 (adj : Sl (Sl Int)) (fr : Int) (h1 : X.RunsC 9 [.c (eSl adj)] (dB false)) (h2 : X.RunsC 10 [] (dB true)) : X.Runs [] 8 [.c (eSl adj), dInt fr] ⟨[], []⟩ (dB true) ⟨[], []⟩ :=
  (Sys.call (X := X) (args := [.c (eSl adj), dInt fr]) (m := ⟨[], []⟩) (d := dB true) (m' := ⟨[], []⟩) (Sys.go (f := 8) (nt := 129) (Γ := []) (c := b8) (s := ⟨argFr [.c (eSl adj), dInt fr], ⟨[], []⟩⟩) (ex := .ret) (s' := ⟨fl [(4, dB true)], ⟨[], []⟩⟩) [((1, 1), .call (dB false) ⟨[], []⟩), ((2, 0), .call (dB true) ⟨[], []⟩)] (And.intro (h1) (h2)) (by kernel_rfl)) (fn := Try.f8) (by kernel_rfl) (by kernel_rfl) rfl (by kernel_rfl) rfl)
end Go.Proofs.Ytclnpjnodmfkcaa

/-
  What SccWays asks of the ways.
-/
set_option linter.unusedVariables false
set_option linter.unusedSimpArgs false
set_option maxRecDepth 10000
namespace Go.Proofs.Scc
open Go Go.Abs
theorem nxt_mem {A : Adj} {to : Int} {d : List Int} (h : IsDist A to d) {n : Nat} {a : Int} (hd : Dist A to (n + 1) a) : ∃ row, A[a.toNat]? = some row ∧ nxt A d a (n + 1 : Nat) ∈ row.l := by
  obtain ⟨y, ha, hy⟩ := hd.pred
  obtain ⟨h0, ⟨row, hrow, hym⟩, hyn⟩ := ha
  have hn : ((n + 1 : Nat) : Int) - 1 = (n : Int) := by omega
  have hpy : nearP d (n + 1 : Nat) y = true := by
    simp only [nearP, decide_eq_true_eq, hn]
    exact ⟨hyn.1, h.get hy⟩
  refine ⟨row, hrow, ?_⟩
  simp only [nxt, hrow]
  rcases pick_ok (p := nearP d (n + 1 : Nat)) (fun y hy => by simp only [nearP, decide_eq_true_eq] at hy; exact hy.1) row.l with ⟨_, h2⟩ | ⟨h2, _⟩
  · exact absurd hpy (h2 y hym)
  · exact h2
theorem path_chain {A : Adj} {to : Int} {d : List Int} (h : IsDist A to d) : ∀ (n : Nat) (a : Int), Dist A to n a → ∀ i, i < n → ∃ x y, (a :: pathL A d n a)[i]? = some x ∧ (a :: pathL A d n a)[i + 1]? = some y ∧ Dist A to (n - i) x ∧ ∃ row, A[x.toNat]? = some row ∧ y ∈ row.l
  | 0, a, _, i, hi => absurd hi (by omega)
  | n + 1, a, hd, 0, _ => ⟨a, nxt A d a (n + 1 : Nat), rfl, rfl, hd, nxt_mem h hd⟩
  | n + 1, a, hd, i + 1, hi => by
    obtain ⟨x, y, h1, h2, h3, h4⟩ := path_chain h n (nxt A d a (n + 1 : Nat)) (nxt_ok h hd) i (by omega)
    refine ⟨x, y, h1, h2, ?_, h4⟩
    rw [show n + 1 - (i + 1) = n - i by omega]; exact h3
theorem WayN.snoc {A : Adj} {y z : Int} (ha : Arc A y z) {n : Nat} {x : Int} (h : WayN A y n x) : WayN A z (n + 1) x := by
  induction h with
  | zero _ => exact .step ha (.zero ha.2.2)
  | step hb _ ih => exact .step hb ih
theorem way_iff {A : Adj} {x y : Int} : Way A x y ↔ ∃ n, WayN A y n x := by
  constructor
  · intro h
    induction h with
    | refl h => exact ⟨0, .zero h⟩
    | step _ ha ih =>
      obtain ⟨n, hn⟩ := ih
      exact ⟨n + 1, hn.snoc ha⟩
  · rintro ⟨n, h⟩
    induction h with
    | zero h => exact .refl h
    | step ha _ ih => exact (Way.step (.refl ha.src) ha).trans ih
end Go.Proofs.Scc
namespace Go.Proofs.Ytclnpjnodmfkcaa
open Go Go.Abs Go.Proofs Go.Proofs.Scc

theorem ways_in (adj : Sl (Sl Int)) (l p : Sl Int) (ok : DV) (fr t : Int) (hl : l.l.length ≤ 1000000) :
    ∃ i : Int, X.Go 8 129 [] (sub b8 [1, 1, 1, 0, 1, 0, 0, 1, 0, 0, 1, 1, 0, 1, 0]) ⟨fl [(0, .c (eSl adj)), (1, dInt fr), (5, .c (eSl l)), (6, dInt t), (7, .c (eSl p)), (8, ok), (9, dB false), (10, dInt 0)], ⟨[], []⟩⟩ (.exit 2) ⟨fl [(0, .c (eSl adj)), (1, dInt fr), (5, .c (eSl l)), (6, dInt t), (7, .c (eSl p)), (8, ok), (9, dB (decide (t ∈ l.l))), (10, dInt i), (50, dB false)], ⟨[], []⟩⟩ := by
  obtain ⟨ex, s', hg, _, i, rfl, rfl⟩ := Sys.loop_go (X := X) (f := 8) (nt := 129) (Γ := []) (a := sub b8 [1, 1, 1, 0, 1, 0, 0, 1, 0, 0, 1, 1, 0, 1, 0, 0]) (m := 0)
    (fun σ : Nat × Bool => ⟨fl [(0, .c (eSl adj)), (1, dInt fr), (5, .c (eSl l)), (6, dInt t), (7, .c (eSl p)), (8, ok), (9, dB σ.2), (10, dInt σ.1)], ⟨[], []⟩⟩)
    (fun σ => σ.1 ≤ l.l.length ∧ σ.2 = decide (t ∈ l.l.take σ.1)) (fun σ => l.l.length - σ.1)
    (fun ex s' => ∃ i : Int, ex = .exit 2 ∧ s' = ⟨fl [(0, .c (eSl adj)), (1, dInt fr), (5, .c (eSl l)), (6, dInt t), (7, .c (eSl p)), (8, ok), (9, dB (decide (t ∈ l.l))), (10, dInt i), (50, dB false)], ⟨[], []⟩⟩)
    (by
      rintro ⟨i, b⟩ ⟨hi, hb⟩
      simp only at hi hb
      by_cases h1 : (i : Int) < (l.l.length : Int)
      · obtain ⟨y, hy⟩ := get_nat h1
        have hy' : l.l[i]? = some y := by simpa using hy
        have htk : l.l.take (i + 1) = l.l.take i ++ [y] := by rw [List.take_add_one, hy']; rfl
        have hnext : decide (t ∈ l.l.take (i + 1)) = (b || decide (y = t)) := by
          rw [hb, htk, Bool.eq_iff_iff]
          simp only [decide_eq_true_eq, Bool.or_eq_true, List.mem_append, List.mem_singleton, eq_comm (a := t)]
        cases b with
        | true => exact .inl ⟨_, (i + 1, true), waysAt_1 adj l p ok fr t i h1 (by omega), rfl, ⟨by simp only; omega, by rw [hnext]; rfl⟩, by simp only; omega⟩
        | false =>
          by_cases h4 : y = t
          · exact .inl ⟨_, (i + 1, true), waysAf_1 adj l p ok fr t i y h1 (by omega) hy h4 (by omega), rfl, ⟨by simp only; omega, by rw [hnext]; simp [h4]⟩, by simp only; omega⟩
          · exact .inl ⟨_, (i + 1, false), waysAf_2 adj l p ok fr t i y h1 (by omega) hy h4 (by omega), rfl, ⟨by simp only; omega, by rw [hnext]; simp [h4]⟩, by simp only; omega⟩
      · rw [List.take_of_length_le (by omega)] at hb
        refine .inr ⟨.exit 2, ⟨fl [(0, .c (eSl adj)), (1, dInt fr), (5, .c (eSl l)), (6, dInt t), (7, .c (eSl p)), (8, ok), (9, dB b), (10, dInt i), (50, dB false)], ⟨[], []⟩⟩, ?_, by simp, i, rfl, by rw [hb]⟩
        cases b with
        | true => exact waysAt_2 adj l p ok fr t i h1
        | false => exact waysAf_3 adj l p ok fr t i h1)
    (0, false) ⟨by simp, by simp⟩ rfl
  exact ⟨i, hg⟩

theorem ways_arc (adj : Sl (Sl Int)) (l p : Sl Int) (fr t : Int) (i : Nat) (hpl : p.l.length ≤ 1000000) (x y : Int) (row : Sl Int) (hx : p.l[i]? = some x) (hy : p.l[i + 1]? = some y) (hn : Nod adj.l x) (hrow : adj.l[x.toNat]? = some row) (hm : y ∈ row.l) (hrl : row.l.length ≤ 1000000) :
    ∃ k : Int, X.Go 8 129 [] (sub b8 [1, 1, 1, 0, 1, 0, 0, 1, 0, 0, 1, 1, 1, 1, 1, 0, 0, 1, 0, 0, 1, 0, 1, 0]) ⟨fl [(0, .c (eSl adj)), (1, dInt fr), (5, .c (eSl l)), (6, dInt t), (7, .c (eSl p)), (11, dInt i), (12, dB false), (13, dInt 0)], ⟨[], []⟩⟩ (.exit 6) ⟨fl [(0, .c (eSl adj)), (1, dInt fr), (5, .c (eSl l)), (6, dInt t), (7, .c (eSl p)), (11, dInt i), (12, dB true), (13, dInt k), (81, dB false)], ⟨[], []⟩⟩ := by
  have hi1 := (List.getElem?_eq_some_iff.1 hy).1
  have hx' : p.l[(i : Int).toNat]? = some x := by simpa using hx
  have hy' : p.l[((i : Int) + 1).toNat]? = some y := by
    rw [show ((i : Int) + 1).toNat = i + 1 by omega]; exact hy
  obtain ⟨ex, s', hg, _, k, rfl, rfl⟩ := Sys.loop_go (X := X) (f := 8) (nt := 129) (Γ := []) (a := sub b8 [1, 1, 1, 0, 1, 0, 0, 1, 0, 0, 1, 1, 1, 1, 1, 0, 0, 1, 0, 0, 1, 0, 1, 0, 0]) (m := 0)
    (fun σ : Nat × Bool => ⟨fl [(0, .c (eSl adj)), (1, dInt fr), (5, .c (eSl l)), (6, dInt t), (7, .c (eSl p)), (11, dInt i), (12, dB σ.2), (13, dInt σ.1)], ⟨[], []⟩⟩)
    (fun σ => σ.1 ≤ row.l.length ∧ σ.2 = decide (y ∈ row.l.take σ.1)) (fun σ => row.l.length - σ.1)
    (fun ex s' => ∃ k : Int, ex = .exit 6 ∧ s' = ⟨fl [(0, .c (eSl adj)), (1, dInt fr), (5, .c (eSl l)), (6, dInt t), (7, .c (eSl p)), (11, dInt i), (12, dB true), (13, dInt k), (81, dB false)], ⟨[], []⟩⟩)
    (by
      rintro ⟨k, b⟩ ⟨hk, hb⟩
      simp only at hk hb
      have hib : 0 ≤ (i : Int) ∧ (i : Int) < (p.l.length : Int) := by omega
      by_cases h1 : (k : Int) < (row.l.length : Int)
      · obtain ⟨z, hz⟩ := get_nat h1
        have hz' : row.l[k]? = some z := by simpa using hz
        have htk : row.l.take (k + 1) = row.l.take k ++ [z] := by rw [List.take_add_one, hz']; rfl
        have hnext : decide (y ∈ row.l.take (k + 1)) = (b || decide (z = y)) := by
          rw [hb, htk, Bool.eq_iff_iff]
          simp only [decide_eq_true_eq, Bool.or_eq_true, List.mem_append, List.mem_singleton, eq_comm (a := y)]
        cases b with
        | true => exact .inl ⟨_, (k + 1, true), waysCt_1 adj l p fr t i k x row hib hx' hn hrow h1 (by omega), rfl, ⟨by simp only; omega, by rw [hnext]; rfl⟩, by simp only; omega⟩
        | false =>
          by_cases h4 : z = y
          · exact .inl ⟨_, (k + 1, true), waysCf_1 adj l p fr t i k x row z y hib hx' hn hrow h1 (by omega) hz (by omega) (by omega) hy' h4 (by omega), rfl, ⟨by simp only; omega, by rw [hnext]; simp [h4]⟩, by simp only; omega⟩
          · exact .inl ⟨_, (k + 1, false), waysCf_2 adj l p fr t i k x row z y hib hx' hn hrow h1 (by omega) hz (by omega) (by omega) hy' h4 (by omega), rfl, ⟨by simp only; omega, by rw [hnext]; simp [h4]⟩, by simp only; omega⟩
      · rw [List.take_of_length_le (by omega)] at hb
        have hbt : b = true := by rw [hb]; simpa using hm
        subst hbt
        exact .inr ⟨_, _, waysCt_2 adj l p fr t i k x row hib hx' hn hrow h1, by simp, k, rfl, rfl⟩)
    (0, false) ⟨by simp, by simp⟩ rfl
  exact ⟨k, hg⟩

theorem ways_path (adj : Sl (Sl Int)) (l p : Sl Int) (fr t : Int) (hs : adj.l.length ≤ 40) (hr : ∀ r ∈ adj.l, r.l.length ≤ 1000) (d : List Int) (n : Nat) (hd : IsDist adj.l t d) (ht : Nod adj.l t) (hD : Dist adj.l t n fr) (hp : p.l = fr :: pathL adj.l d n fr) :
    ∃ j : Int, X.Go 8 129 [] (sub b8 [1, 1, 1, 0, 1, 0, 0, 1, 0, 0, 1, 1, 1, 1, 1, 0]) ⟨fl [(0, .c (eSl adj)), (1, dInt fr), (5, .c (eSl l)), (6, dInt t), (7, .c (eSl p)), (11, dInt 0)], ⟨[], []⟩⟩ (.exit 4) ⟨fl [(0, .c (eSl adj)), (1, dInt fr), (5, .c (eSl l)), (6, dInt t), (7, .c (eSl p)), (11, dInt j), (69, dB false)], ⟨[], []⟩⟩ := by
  have hpl : p.l.length = n + 1 := by rw [hp, List.length_cons, pathL_length]
  have hnl := hD.lt
  obtain ⟨ex, s', hg, _, j, rfl, rfl⟩ := Sys.loop_go (X := X) (f := 8) (nt := 129) (Γ := []) (a := sub b8 [1, 1, 1, 0, 1, 0, 0, 1, 0, 0, 1, 1, 1, 1, 1, 0, 0]) (m := 0)
    (fun σ : Nat => ⟨fl [(0, .c (eSl adj)), (1, dInt fr), (5, .c (eSl l)), (6, dInt t), (7, .c (eSl p)), (11, dInt σ)], ⟨[], []⟩⟩)
    (fun σ => σ ≤ n) (fun σ => n - σ)
    (fun ex s' => ∃ j : Int, ex = .exit 4 ∧ s' = ⟨fl [(0, .c (eSl adj)), (1, dInt fr), (5, .c (eSl l)), (6, dInt t), (7, .c (eSl p)), (11, dInt j), (69, dB false)], ⟨[], []⟩⟩)
    (by
      intro i hi
      by_cases h2 : ((i : Int) + 1) < (p.l.length : Int)
      · obtain ⟨x, y, h3, h4, h5, row, h6, h7⟩ := path_chain hd n fr hD i (by omega)
        rw [← hp] at h3 h4
        have hx := h5.nod
        obtain ⟨k, hk⟩ := ways_arc adj l p fr t i (by omega) x y row h3 h4 hx h6 h7 (by have := hr row (List.mem_of_getElem? h6); omega)
        obtain ⟨q, b, hq, hqi⟩ := path_runs adj x t hs hr
        rcases hqi with ⟨_, _, hno⟩ | ⟨rfl, n', d', g1, g2, g3, g4, g5⟩
        · exact absurd ⟨hx, ht, n - i, h5⟩ hno
        · have hn' := g4.uniq h5
          have hql : q.l.length = n' + 1 := by rw [g5, List.length_cons, pathL_length]
          exact .inl ⟨_, i + 1, waysB_2 adj l p fr t i k x q (by omega) h2 hk (by omega) (by simpa using h3) hq (by omega) (by omega), rfl, by omega, by omega⟩
      · exact .inr ⟨_, _, waysB_4 adj l p fr t i (by omega) h2, by simp, i, rfl, rfl⟩)
    0 (by omega) rfl
  exact ⟨j, hg⟩

theorem ways_run (adj : Sl (Sl Int)) (fr : Int) (hs : adj.l.length ≤ 40) (hr : ∀ r ∈ adj.l, r.l.length ≤ 1000) (hfr : Nod adj.l fr) :
    ∃ (r : Sl Int) (t : Int), X.RunsC 12 [.c (eSl adj), .c (.sl false true (cells ([fr] : List Int)) 1)] (.c (eSl r)) ∧ X.Go 8 129 [] (sub b8 [1, 1, 1, 0, 1, 0]) ⟨fl [(0, .c (eSl adj)), (1, dInt fr), (5, .c (eSl r)), (6, dInt 0)], ⟨[], []⟩⟩ (.exit 0) ⟨fl [(0, .c (eSl adj)), (1, dInt fr), (5, .c (eSl r)), (6, dInt t), (37, dB false)], ⟨[], []⟩⟩ := by
  obtain ⟨r, out, hr12, hro, hnd, hmem⟩ := reach_runs adj (Sl.of true [fr]) (by omega) (by simp [Sl.of]) (fun r h => by have := hr r h; omega)
  have hin : ∀ x, x ∈ r.l ↔ Scc.Way adj.l fr x := fun x => by
    rw [hro, (isort_perm out).mem_iff, hmem]
    simp [Reached, Sl.of]
  have hrl : r.l.length ≤ 1000000 := by
    rw [hro, (isort_perm out).length_eq]
    have := nodes_le hnd (fun x hx => by
      obtain ⟨s, _, hw⟩ := (hmem x).1 hx
      exact hw.dst)
    omega
  obtain ⟨ex, s', hg, _, t, rfl, rfl⟩ := Sys.loop_go (X := X) (f := 8) (nt := 129) (Γ := []) (a := sub b8 [1, 1, 1, 0, 1, 0, 0]) (m := 0)
    (fun σ : Nat => ⟨fl [(0, .c (eSl adj)), (1, dInt fr), (5, .c (eSl r)), (6, dInt σ)], ⟨[], []⟩⟩)
    (fun σ => σ ≤ adj.l.length) (fun σ => adj.l.length - σ)
    (fun ex s' => ∃ t : Int, ex = .exit 0 ∧ s' = ⟨fl [(0, .c (eSl adj)), (1, dInt fr), (5, .c (eSl r)), (6, dInt t), (37, dB false)], ⟨[], []⟩⟩)
    (by
      intro t ht
      by_cases h1 : (t : Int) < (adj.l.length : Int)
      · have hnt : Nod adj.l (t : Int) := ⟨by omega, h1⟩
        obtain ⟨p, b, hp, hpi⟩ := path_runs adj fr t hs hr
        rcases hpi with ⟨rfl, hp0, hno⟩ | ⟨rfl, n, d, g1, g2, g3, g4, g5⟩
        · obtain ⟨i, hi⟩ := ways_in adj r p (dB false) fr t hrl
          have hnin : decide ((t : Int) ∈ r.l) = false := decide_eq_false fun h => by
            obtain ⟨n, hn⟩ := way_iff.1 ((hin t).1 h)
            obtain ⟨k, _, hk⟩ := hn.dist
            exact hno ⟨hfr, hnt, k, hk⟩
          rw [hnin] at hi
          have hg4 : X.Go 8 129 [] (sub b8 [1, 1, 1, 0, 1, 0, 0, 1, 0, 0, 1, 1, 1, 1, 1, 0]) ⟨fl [(0, .c (eSl adj)), (1, dInt fr), (5, .c (eSl r)), (6, dInt t), (7, .c (eSl p)), (11, dInt 0)], ⟨[], []⟩⟩ (.exit 4) ⟨fl [(0, .c (eSl adj)), (1, dInt fr), (5, .c (eSl r)), (6, dInt t), (7, .c (eSl p)), (11, dInt (0 : Nat)), (69, dB false)], ⟨[], []⟩⟩ := by
            obtain ⟨ex, s', hg, _, rfl, rfl⟩ := Sys.loop_go (X := X) (f := 8) (nt := 129) (Γ := []) (a := sub b8 [1, 1, 1, 0, 1, 0, 0, 1, 0, 0, 1, 1, 1, 1, 1, 0, 0]) (m := 0)
              (fun σ : Nat => ⟨fl [(0, .c (eSl adj)), (1, dInt fr), (5, .c (eSl r)), (6, dInt t), (7, .c (eSl p)), (11, dInt (0 : Nat))], ⟨[], []⟩⟩)
              (fun σ => True) (fun σ => σ)
              (fun ex s' => ex = .exit 4 ∧ s' = ⟨fl [(0, .c (eSl adj)), (1, dInt fr), (5, .c (eSl r)), (6, dInt t), (7, .c (eSl p)), (11, dInt (0 : Nat)), (69, dB false)], ⟨[], []⟩⟩)
              (fun σ _ => .inr ⟨_, _, waysB_4 adj r p fr t (0 : Nat) (by omega) (by simp [hp0]), by simp, rfl, rfl⟩)
              0 trivial rfl
            exact hg
          exact .inl ⟨_, t + 1, waysT_4 adj r fr t p i (0 : Nat) h1 hp hi hg4 (by omega), rfl, by omega, by omega⟩
        · obtain ⟨i, hi⟩ := ways_in adj r p (dB true) fr t hrl
          have hyin : decide ((t : Int) ∈ r.l) = true := decide_eq_true ((hin t).2 (way_iff.2 ⟨n, g4.1⟩))
          rw [hyin] at hi
          obtain ⟨j, hj⟩ := ways_path adj r p fr t hs hr d n g1 hnt g4 g5
          exact .inl ⟨_, t + 1, waysT_1 adj r fr t p i j h1 hp hi hj (by omega), rfl, by omega, by omega⟩
      · exact .inr ⟨_, _, waysT_5 adj r fr t h1, by simp, t, rfl, rfl⟩)
    0 (by omega) rfl
  exact ⟨r, t, hr12, hg⟩
end Go.Proofs.Ytclnpjnodmfkcaa
