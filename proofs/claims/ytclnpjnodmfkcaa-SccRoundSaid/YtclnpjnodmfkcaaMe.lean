/-
  Part of the proof: printed by the session's own program out of the program's form, or typed; it states no claim by itself.
-/
import Derived.Test.YtclnpjnodmfkcaaAn
import Derived.Test.YtclnpjnodmfkcaaMb
import Derived.Test.YtclnpjnodmfkcaaPa
set_option linter.unusedVariables false
set_option maxRecDepth 10000
namespace Go.Proofs.Ytclnpjnodmfkcaa
open Go Go.Abs Go.Proofs
noncomputable def b34 : Code := (Try.f34.body).getD .skip
noncomputable def b16 : Code := (Try.f16.body).getD .skip
noncomputable def b20 : Code := (Try.f20.body).getD .skip
theorem hasB_1 (ns : Sl Int) (x i : Int) (v15 : Int) (h1 : i < (ns.l.length : Int)) (h2 : 0 ≤ i ∧ i < (ns.l.length : Int)) (h3 : ns.l[i.toNat]? = some v15) (h4 : v15 = x) : X.Go 34 18 [] (sub b34 [1, 0, 1, 0, 0]) ⟨fl [(0, .c (eSl ns)), (1, dInt x), (5, dInt i)], ⟨[], []⟩⟩ .ret ⟨fl [(4, dB true)], ⟨[], []⟩⟩ :=
  Sys.go [((2, 3), .b true), ((4, 2), .ix), ((4, 3), .cell (cInt v15)), ((4, 5), .b true)] (And.intro (h1) (And.intro (And.intro (Sl.empty ns) h2) (And.intro (cell_at 0 (c := cInt v15) rfl h3) (h4)))) (by kernel_rfl)
theorem hasB_2 (ns : Sl Int) (x i : Int) (v15 : Int) (h1 : i < (ns.l.length : Int)) (h2 : 0 ≤ i ∧ i < (ns.l.length : Int)) (h3 : ns.l[i.toNat]? = some v15) (h4 : ¬ v15 = x) (h5 : -9223372036854775808 ≤ i + 1 ∧ i + 1 ≤ 9223372036854775807) : X.Go 34 18 [] (sub b34 [1, 0, 1, 0, 0]) ⟨fl [(0, .c (eSl ns)), (1, dInt x), (5, dInt i)], ⟨[], []⟩⟩ .normal ⟨fl [(0, .c (eSl ns)), (1, dInt x), (5, dInt (i + 1))], ⟨[], []⟩⟩ :=
  Sys.go [((2, 3), .b true), ((4, 2), .ix), ((4, 3), .cell (cInt v15)), ((4, 5), .b false), ((3, 1), .n)] (And.intro (h1) (And.intro (And.intro (Sl.empty ns) h2) (And.intro (cell_at 0 (c := cInt v15) rfl h3) (And.intro (h4) (h5))))) (by kernel_rfl)
theorem hasB_3 (ns : Sl Int) (x i : Int) (h1 : ¬ i < (ns.l.length : Int)) : X.Go 34 18 [] (sub b34 [1, 0, 1, 0, 0]) ⟨fl [(0, .c (eSl ns)), (1, dInt x), (5, dInt i)], ⟨[], []⟩⟩ (.exit 0) ⟨fl [(0, .c (eSl ns)), (1, dInt x), (5, dInt i), (9, dB false)], ⟨[], []⟩⟩ :=
  Sys.go [((2, 3), .b false)] (h1) (by kernel_rfl)
theorem hasM_1 (ns : Sl Int) (x : Int) (h1 : X.Go 34 18 [] (sub b34 [1, 0, 1, 0]) ⟨fl [(0, .c (eSl ns)), (1, dInt x), (5, dInt 0)], ⟨[], []⟩⟩ .ret ⟨fl [(4, dB true)], ⟨[], []⟩⟩) : X.RunsC 34 [.c (eSl ns), dInt x] (dB true) :=
  Sys.callC (Sys.call (X := X) (args := [.c (eSl ns), dInt x]) (m := ⟨[], []⟩) (d := dB true) (m' := ⟨[], []⟩) (Sys.go (f := 34) (nt := 18) (Γ := []) (c := b34) (s := ⟨argFr [.c (eSl ns), dInt x], ⟨[], []⟩⟩) (ex := .ret) (s' := ⟨fl [(4, dB true)], ⟨[], []⟩⟩) [((2, 1000), .code .ret ⟨fl [(4, dB true)], ⟨[], []⟩⟩)] (h1) (by kernel_rfl)) (fn := Try.f34) (by kernel_rfl) (by kernel_rfl) rfl (by kernel_rfl) rfl) rfl
theorem hasM_2 (ns : Sl Int) (x : Int) (j : Int) (h1 : X.Go 34 18 [] (sub b34 [1, 0, 1, 0]) ⟨fl [(0, .c (eSl ns)), (1, dInt x), (5, dInt 0)], ⟨[], []⟩⟩ (.exit 0) ⟨fl [(0, .c (eSl ns)), (1, dInt x), (5, dInt j), (9, dB false)], ⟨[], []⟩⟩) : X.RunsC 34 [.c (eSl ns), dInt x] (dB false) :=
  Sys.callC (Sys.call (X := X) (args := [.c (eSl ns), dInt x]) (m := ⟨[], []⟩) (d := dB false) (m' := ⟨[], []⟩) (Sys.go (f := 34) (nt := 18) (Γ := []) (c := b34) (s := ⟨argFr [.c (eSl ns), dInt x], ⟨[], []⟩⟩) (ex := .ret) (s' := ⟨fl [(4, dB false)], ⟨[], []⟩⟩) [((2, 1000), .code (.exit 0) ⟨fl [(0, .c (eSl ns)), (1, dInt x), (5, dInt j), (9, dB false)], ⟨[], []⟩⟩)] (h1) (by kernel_rfl)) (fn := Try.f34) (by kernel_rfl) (by kernel_rfl) rfl (by kernel_rfl) rfl) rfl
theorem rsameC_1 (a b : Sl (Sl Int)) (i k : Int) (v33 : Sl Int) (v44 : Int) (v48 : Sl Int) (v51 : Int) (h1 : 0 ≤ i ∧ i < (a.l.length : Int)) (h2 : a.l[i.toNat]? = some v33) (h3 : k < (v33.l.length : Int)) (h4 : 0 ≤ k ∧ k < (v33.l.length : Int)) (h5 : v33.l[k.toNat]? = some v44) (h6 : 0 ≤ i ∧ i < (b.l.length : Int)) (h7 : b.l[i.toNat]? = some v48) (h8 : 0 ≤ k ∧ k < (v48.l.length : Int)) (h9 : v48.l[k.toNat]? = some v51) (h10 : v44 ≠ v51) : X.Go 16 53 [] (sub b16 [1, 1, 0, 1, 0, 0, 1, 0, 0, 1, 1, 0, 0]) ⟨fl [(0, .c (eSl a)), (1, .c (eSl b)), (5, dInt i), (6, dInt k)], ⟨[], []⟩⟩ .ret ⟨fl [(4, dB false)], ⟨[], []⟩⟩ :=
  Sys.go [((9, 3), .ix), ((9, 4), .cell (eSl v33)), ((9, 6), .b true), ((11, 2), .ix), ((11, 3), .cell (eSl v33)), ((11, 5), .ix), ((11, 6), .cell (cInt v44)), ((11, 9), .ix), ((11, 10), .cell (eSl v48)), ((11, 12), .ix), ((11, 13), .cell (cInt v51)), ((11, 14), .b true)] (And.intro (And.intro (Sl.empty a) h1) (And.intro (cell_at 0 (c := eSl v33) rfl h2) (And.intro (h3) (And.intro (And.intro (Sl.empty a) h1) (And.intro (cell_at 0 (c := eSl v33) rfl h2) (And.intro (And.intro (Sl.empty v33) h4) (And.intro (cell_at 0 (c := cInt v44) rfl h5) (And.intro (And.intro (Sl.empty b) h6) (And.intro (cell_at 0 (c := eSl v48) rfl h7) (And.intro (And.intro (Sl.empty v48) h8) (And.intro (cell_at 0 (c := cInt v51) rfl h9) (h10)))))))))))) (by kernel_rfl)
theorem rsameC_2 (a b : Sl (Sl Int)) (i k : Int) (v33 : Sl Int) (v44 : Int) (v48 : Sl Int) (v51 : Int) (h1 : 0 ≤ i ∧ i < (a.l.length : Int)) (h2 : a.l[i.toNat]? = some v33) (h3 : k < (v33.l.length : Int)) (h4 : 0 ≤ k ∧ k < (v33.l.length : Int)) (h5 : v33.l[k.toNat]? = some v44) (h6 : 0 ≤ i ∧ i < (b.l.length : Int)) (h7 : b.l[i.toNat]? = some v48) (h8 : 0 ≤ k ∧ k < (v48.l.length : Int)) (h9 : v48.l[k.toNat]? = some v51) (h10 : ¬ v44 ≠ v51) (h11 : -9223372036854775808 ≤ k + 1 ∧ k + 1 ≤ 9223372036854775807) : X.Go 16 53 [] (sub b16 [1, 1, 0, 1, 0, 0, 1, 0, 0, 1, 1, 0, 0]) ⟨fl [(0, .c (eSl a)), (1, .c (eSl b)), (5, dInt i), (6, dInt k)], ⟨[], []⟩⟩ .normal ⟨fl [(0, .c (eSl a)), (1, .c (eSl b)), (5, dInt i), (6, dInt (k + 1))], ⟨[], []⟩⟩ :=
  Sys.go [((9, 3), .ix), ((9, 4), .cell (eSl v33)), ((9, 6), .b true), ((11, 2), .ix), ((11, 3), .cell (eSl v33)), ((11, 5), .ix), ((11, 6), .cell (cInt v44)), ((11, 9), .ix), ((11, 10), .cell (eSl v48)), ((11, 12), .ix), ((11, 13), .cell (cInt v51)), ((11, 14), .b false), ((10, 1), .n)] (And.intro (And.intro (Sl.empty a) h1) (And.intro (cell_at 0 (c := eSl v33) rfl h2) (And.intro (h3) (And.intro (And.intro (Sl.empty a) h1) (And.intro (cell_at 0 (c := eSl v33) rfl h2) (And.intro (And.intro (Sl.empty v33) h4) (And.intro (cell_at 0 (c := cInt v44) rfl h5) (And.intro (And.intro (Sl.empty b) h6) (And.intro (cell_at 0 (c := eSl v48) rfl h7) (And.intro (And.intro (Sl.empty v48) h8) (And.intro (cell_at 0 (c := cInt v51) rfl h9) (And.intro (h10) (h11))))))))))))) (by kernel_rfl)
theorem rsameC_3 (a b : Sl (Sl Int)) (i k : Int) (v33 : Sl Int) (h1 : 0 ≤ i ∧ i < (a.l.length : Int)) (h2 : a.l[i.toNat]? = some v33) (h3 : ¬ k < (v33.l.length : Int)) : X.Go 16 53 [] (sub b16 [1, 1, 0, 1, 0, 0, 1, 0, 0, 1, 1, 0, 0]) ⟨fl [(0, .c (eSl a)), (1, .c (eSl b)), (5, dInt i), (6, dInt k)], ⟨[], []⟩⟩ (.exit 2) ⟨fl [(0, .c (eSl a)), (1, .c (eSl b)), (5, dInt i), (6, dInt k), (35, dB false)], ⟨[], []⟩⟩ :=
  Sys.go [((9, 3), .ix), ((9, 4), .cell (eSl v33)), ((9, 6), .b false)] (And.intro (And.intro (Sl.empty a) h1) (And.intro (cell_at 0 (c := eSl v33) rfl h2) (h3))) (by kernel_rfl)
theorem rsameB_1 (a b : Sl (Sl Int)) (i : Int) (v21 : Sl Int) (v26 : Sl Int) (h1 : i < (a.l.length : Int)) (h2 : 0 ≤ i ∧ i < (a.l.length : Int)) (h3 : a.l[i.toNat]? = some v21) (h4 : 0 ≤ i ∧ i < (b.l.length : Int)) (h5 : b.l[i.toNat]? = some v26) (h6 : (v21.l.length : Int) ≠ (v26.l.length : Int)) : X.Go 16 53 [] (sub b16 [1, 1, 0, 1, 0, 0]) ⟨fl [(0, .c (eSl a)), (1, .c (eSl b)), (5, dInt i)], ⟨[], []⟩⟩ .ret ⟨fl [(4, dB false)], ⟨[], []⟩⟩ :=
  Sys.go [((4, 3), .b true), ((6, 2), .ix), ((6, 3), .cell (eSl v21)), ((6, 7), .ix), ((6, 8), .cell (eSl v26)), ((6, 10), .b true)] (And.intro (h1) (And.intro (And.intro (Sl.empty a) h2) (And.intro (cell_at 0 (c := eSl v21) rfl h3) (And.intro (And.intro (Sl.empty b) h4) (And.intro (cell_at 0 (c := eSl v26) rfl h5) (h6)))))) (by kernel_rfl)
theorem rsameB_2 (a b : Sl (Sl Int)) (i : Int) (v21 : Sl Int) (v26 : Sl Int) (h1 : i < (a.l.length : Int)) (h2 : 0 ≤ i ∧ i < (a.l.length : Int)) (h3 : a.l[i.toNat]? = some v21) (h4 : 0 ≤ i ∧ i < (b.l.length : Int)) (h5 : b.l[i.toNat]? = some v26) (h6 : ¬ (v21.l.length : Int) ≠ (v26.l.length : Int)) (h7 : X.Go 16 53 [] (sub b16 [1, 1, 0, 1, 0, 0, 1, 0, 0, 1, 1, 0]) ⟨fl [(0, .c (eSl a)), (1, .c (eSl b)), (5, dInt i), (6, dInt 0)], ⟨[], []⟩⟩ .ret ⟨fl [(4, dB false)], ⟨[], []⟩⟩) : X.Go 16 53 [] (sub b16 [1, 1, 0, 1, 0, 0]) ⟨fl [(0, .c (eSl a)), (1, .c (eSl b)), (5, dInt i)], ⟨[], []⟩⟩ .ret ⟨fl [(4, dB false)], ⟨[], []⟩⟩ :=
  Sys.go [((4, 3), .b true), ((6, 2), .ix), ((6, 3), .cell (eSl v21)), ((6, 7), .ix), ((6, 8), .cell (eSl v26)), ((6, 10), .b false), ((9, 1000), .code .ret ⟨fl [(4, dB false)], ⟨[], []⟩⟩)] (And.intro (h1) (And.intro (And.intro (Sl.empty a) h2) (And.intro (cell_at 0 (c := eSl v21) rfl h3) (And.intro (And.intro (Sl.empty b) h4) (And.intro (cell_at 0 (c := eSl v26) rfl h5) (And.intro (h6) (h7))))))) (by kernel_rfl)
theorem rsameB_3 (a b : Sl (Sl Int)) (i : Int) (v21 : Sl Int) (v26 : Sl Int) (j : Int) (h1 : i < (a.l.length : Int)) (h2 : 0 ≤ i ∧ i < (a.l.length : Int)) (h3 : a.l[i.toNat]? = some v21) (h4 : 0 ≤ i ∧ i < (b.l.length : Int)) (h5 : b.l[i.toNat]? = some v26) (h6 : ¬ (v21.l.length : Int) ≠ (v26.l.length : Int)) (h7 : X.Go 16 53 [] (sub b16 [1, 1, 0, 1, 0, 0, 1, 0, 0, 1, 1, 0]) ⟨fl [(0, .c (eSl a)), (1, .c (eSl b)), (5, dInt i), (6, dInt 0)], ⟨[], []⟩⟩ (.exit 2) ⟨fl [(0, .c (eSl a)), (1, .c (eSl b)), (5, dInt i), (6, dInt j), (35, dB false)], ⟨[], []⟩⟩) (h8 : -9223372036854775808 ≤ i + 1 ∧ i + 1 ≤ 9223372036854775807) : X.Go 16 53 [] (sub b16 [1, 1, 0, 1, 0, 0]) ⟨fl [(0, .c (eSl a)), (1, .c (eSl b)), (5, dInt i)], ⟨[], []⟩⟩ .normal ⟨fl [(0, .c (eSl a)), (1, .c (eSl b)), (5, dInt (i + 1))], ⟨[], []⟩⟩ :=
  Sys.go [((4, 3), .b true), ((6, 2), .ix), ((6, 3), .cell (eSl v21)), ((6, 7), .ix), ((6, 8), .cell (eSl v26)), ((6, 10), .b false), ((9, 1000), .code (.exit 2) ⟨fl [(0, .c (eSl a)), (1, .c (eSl b)), (5, dInt i), (6, dInt j), (35, dB false)], ⟨[], []⟩⟩), ((5, 1), .n)] (And.intro (h1) (And.intro (And.intro (Sl.empty a) h2) (And.intro (cell_at 0 (c := eSl v21) rfl h3) (And.intro (And.intro (Sl.empty b) h4) (And.intro (cell_at 0 (c := eSl v26) rfl h5) (And.intro (h6) (And.intro (h7) (h8)))))))) (by kernel_rfl)
theorem rsameB_4 (a b : Sl (Sl Int)) (i : Int) (h1 : ¬ i < (a.l.length : Int)) : X.Go 16 53 [] (sub b16 [1, 1, 0, 1, 0, 0]) ⟨fl [(0, .c (eSl a)), (1, .c (eSl b)), (5, dInt i)], ⟨[], []⟩⟩ (.exit 0) ⟨fl [(0, .c (eSl a)), (1, .c (eSl b)), (5, dInt i), (15, dB false)], ⟨[], []⟩⟩ :=
  Sys.go [((4, 3), .b false)] (h1) (by kernel_rfl)
theorem rsameM_1 (a b : Sl (Sl Int)) (h1 : (a.l.length : Int) ≠ (b.l.length : Int)) : X.RunsC 16 [.c (eSl a), .c (eSl b)] (dB false) :=
  Sys.callC (Sys.call (X := X) (args := [.c (eSl a), .c (eSl b)]) (m := ⟨[], []⟩) (d := dB false) (m' := ⟨[], []⟩) (Sys.go (f := 16) (nt := 53) (Γ := []) (c := b16) (s := ⟨argFr [.c (eSl a), .c (eSl b)], ⟨[], []⟩⟩) (ex := .ret) (s' := ⟨fl [(4, dB false)], ⟨[], []⟩⟩) [((1, 4), .b true)] (h1) (by kernel_rfl)) (fn := Try.f16) (by kernel_rfl) (by kernel_rfl) rfl (by kernel_rfl) rfl) rfl
theorem rsameM_2 (a b : Sl (Sl Int)) (h1 : ¬ (a.l.length : Int) ≠ (b.l.length : Int)) (h2 : X.Go 16 53 [] (sub b16 [1, 1, 0, 1, 0]) ⟨fl [(0, .c (eSl a)), (1, .c (eSl b)), (5, dInt 0)], ⟨[], []⟩⟩ .ret ⟨fl [(4, dB false)], ⟨[], []⟩⟩) : X.RunsC 16 [.c (eSl a), .c (eSl b)] (dB false) :=
  Sys.callC (Sys.call (X := X) (args := [.c (eSl a), .c (eSl b)]) (m := ⟨[], []⟩) (d := dB false) (m' := ⟨[], []⟩) (Sys.go (f := 16) (nt := 53) (Γ := []) (c := b16) (s := ⟨argFr [.c (eSl a), .c (eSl b)], ⟨[], []⟩⟩) (ex := .ret) (s' := ⟨fl [(4, dB false)], ⟨[], []⟩⟩) [((1, 4), .b false), ((4, 1000), .code .ret ⟨fl [(4, dB false)], ⟨[], []⟩⟩)] (And.intro (h1) (h2)) (by kernel_rfl)) (fn := Try.f16) (by kernel_rfl) (by kernel_rfl) rfl (by kernel_rfl) rfl) rfl
theorem rsameM_3 (a b : Sl (Sl Int)) (j : Int) (h1 : ¬ (a.l.length : Int) ≠ (b.l.length : Int)) (h2 : X.Go 16 53 [] (sub b16 [1, 1, 0, 1, 0]) ⟨fl [(0, .c (eSl a)), (1, .c (eSl b)), (5, dInt 0)], ⟨[], []⟩⟩ (.exit 0) ⟨fl [(0, .c (eSl a)), (1, .c (eSl b)), (5, dInt j), (15, dB false)], ⟨[], []⟩⟩) : X.RunsC 16 [.c (eSl a), .c (eSl b)] (dB true) :=
  Sys.callC (Sys.call (X := X) (args := [.c (eSl a), .c (eSl b)]) (m := ⟨[], []⟩) (d := dB true) (m' := ⟨[], []⟩) (Sys.go (f := 16) (nt := 53) (Γ := []) (c := b16) (s := ⟨argFr [.c (eSl a), .c (eSl b)], ⟨[], []⟩⟩) (ex := .ret) (s' := ⟨fl [(4, dB true)], ⟨[], []⟩⟩) [((1, 4), .b false), ((4, 1000), .code (.exit 0) ⟨fl [(0, .c (eSl a)), (1, .c (eSl b)), (5, dInt j), (15, dB false)], ⟨[], []⟩⟩)] (And.intro (h1) (h2)) (by kernel_rfl)) (fn := Try.f16) (by kernel_rfl) (by kernel_rfl) rfl (by kernel_rfl) rfl) rfl
theorem rwithC_1 (adj : Sl (Sl Int)) (ns : Sl Int) (i k : Int) (rows : List (List Int)) (v34 : Sl Int) (h1 : k < (adj.l.length : Int)) (h2 : X.RunsC 34 [.c (eSl ns), dInt k] (dB true)) (h3 : 0 ≤ i ∧ i < (adj.l.length : Int)) (h4 : adj.l[i.toNat]? = some v34) (h5 : X.RunsC 34 [.c (eSl v34), dInt k] (dB true)) (h6 : rows[i.toNat]? = some []) (h7 : -9223372036854775808 ≤ k + 1 ∧ k + 1 ≤ 9223372036854775807) : X.Go 20 49 [] (sub b20 [1, 1, 0, 1, 0, 0, 1, 0, 0, 1, 1, 0, 0]) ⟨fl [(0, .c (eSl adj)), (1, .c (eSl ns)), (5, .ms 0 1 0 adj.l.length 1 true), (6, dInt i), (7, dInt k)], ⟨[⟨1, rows.map apv⟩], []⟩⟩ .normal ⟨fl [(0, .c (eSl adj)), (1, .c (eSl ns)), (5, .ms 0 1 0 adj.l.length 1 true), (6, dInt i), (7, dInt (k + 1))], ⟨[⟨1, (rows.set i.toNat ([k] : List Int)).map apv⟩], []⟩⟩ :=
  Sys.go [((7, 3), .b true), ((9, 2), .call (dB true) ⟨[], []⟩), ((9, 6), .ix), ((9, 7), .cell (eSl v34)), ((9, 9), .call (dB true) ⟨[], []⟩), ((10, 4), .ix), ((10, 5), .lmv (.c (.sl true true [] 0)) ((rows.map apv).set i.toNat (.c (.sl true true [] 0)))), ((10, 9), .ix), ((10, 10), .st (rows.set i.toNat ([k] : List Int) |>.map apv)), ((8, 1), .n)] (And.intro (h1) (And.intro (h2) (And.intro (And.intro (Sl.empty adj) h3) (And.intro (cell_at 0 (c := eSl v34) rfl h4) (And.intro (h5) (And.intro (h3) (And.intro (And.intro (rfl : (1 : Nat) = 1) (la_nil h6)) (And.intro (h3) (And.intro (And.intro (rfl : (1 : Nat) = 1) (la_st (d := .c (.sl true true [] 0)) ([k] : List Int) (List.cons_ne_nil _ _) h6)) (h7)))))))))) (by kernel_rfl)
theorem rwithC_2 (adj : Sl (Sl Int)) (ns : Sl Int) (i k : Int) (rows : List (List Int)) (v34 : Sl Int) (v43 : List Int) (h1 : k < (adj.l.length : Int)) (h2 : X.RunsC 34 [.c (eSl ns), dInt k] (dB true)) (h3 : 0 ≤ i ∧ i < (adj.l.length : Int)) (h4 : adj.l[i.toNat]? = some v34) (h5 : X.RunsC 34 [.c (eSl v34), dInt k] (dB true)) (h6 : rows[i.toNat]? = some v43) (h7 : v43 ≠ []) (h8 : (v43 ++ ([k] : List Int)).length * 8 ≤ 140737488355328) (h9 : -9223372036854775808 ≤ k + 1 ∧ k + 1 ≤ 9223372036854775807) : X.Go 20 49 [] (sub b20 [1, 1, 0, 1, 0, 0, 1, 0, 0, 1, 1, 0, 0]) ⟨fl [(0, .c (eSl adj)), (1, .c (eSl ns)), (5, .ms 0 1 0 adj.l.length 1 true), (6, dInt i), (7, dInt k)], ⟨[⟨1, rows.map apv⟩], []⟩⟩ .normal ⟨fl [(0, .c (eSl adj)), (1, .c (eSl ns)), (5, .ms 0 1 0 adj.l.length 1 true), (6, dInt i), (7, dInt (k + 1))], ⟨[⟨1, (rows.set i.toNat (v43 ++ ([k] : List Int))).map apv⟩], []⟩⟩ :=
  Sys.go [((7, 3), .b true), ((9, 2), .call (dB true) ⟨[], []⟩), ((9, 6), .ix), ((9, 7), .cell (eSl v34)), ((9, 9), .call (dB true) ⟨[], []⟩), ((10, 4), .ix), ((10, 5), .lmv (.ap false (cells v43) v43.length 1) ((rows.map apv).set i.toNat (.c (eSl (apc v43))))), ((10, 8), .app (cells (v43 ++ ([k] : List Int))) (v43 ++ ([k] : List Int)).length), ((10, 9), .ix), ((10, 10), .st (rows.set i.toNat (v43 ++ ([k] : List Int)) |>.map apv)), ((8, 1), .n)] (And.intro (h1) (And.intro (h2) (And.intro (And.intro (Sl.empty adj) h3) (And.intro (cell_at 0 (c := eSl v34) rfl h4) (And.intro (h5) (And.intro (h3) (And.intro (And.intro (rfl : (1 : Nat) = 1) (la_ap h6 h7)) (And.intro (app_ok v43 ([k] : List Int) (b := 8) (by decide) h8) (And.intro (h3) (And.intro (And.intro (rfl : (1 : Nat) = 1) (la_st (d := .c (eSl (apc v43))) (v43 ++ ([k] : List Int)) (snoc_ne _ _) h6)) (h9))))))))))) (by kernel_rfl)
theorem rwithC_3 (adj : Sl (Sl Int)) (ns : Sl Int) (i k : Int) (rows : List (List Int)) (v34 : Sl Int) (h1 : k < (adj.l.length : Int)) (h2 : X.RunsC 34 [.c (eSl ns), dInt k] (dB true)) (h3 : 0 ≤ i ∧ i < (adj.l.length : Int)) (h4 : adj.l[i.toNat]? = some v34) (h5 : X.RunsC 34 [.c (eSl v34), dInt k] (dB false)) (h6 : -9223372036854775808 ≤ k + 1 ∧ k + 1 ≤ 9223372036854775807) : X.Go 20 49 [] (sub b20 [1, 1, 0, 1, 0, 0, 1, 0, 0, 1, 1, 0, 0]) ⟨fl [(0, .c (eSl adj)), (1, .c (eSl ns)), (5, .ms 0 1 0 adj.l.length 1 true), (6, dInt i), (7, dInt k)], ⟨[⟨1, rows.map apv⟩], []⟩⟩ .normal ⟨fl [(0, .c (eSl adj)), (1, .c (eSl ns)), (5, .ms 0 1 0 adj.l.length 1 true), (6, dInt i), (7, dInt (k + 1))], ⟨[⟨1, rows.map apv⟩], []⟩⟩ :=
  Sys.go [((7, 3), .b true), ((9, 2), .call (dB true) ⟨[], []⟩), ((9, 6), .ix), ((9, 7), .cell (eSl v34)), ((9, 9), .call (dB false) ⟨[], []⟩), ((8, 1), .n)] (And.intro (h1) (And.intro (h2) (And.intro (And.intro (Sl.empty adj) h3) (And.intro (cell_at 0 (c := eSl v34) rfl h4) (And.intro (h5) (h6)))))) (by kernel_rfl)
theorem rwithC_4 (adj : Sl (Sl Int)) (ns : Sl Int) (i k : Int) (rows : List (List Int)) (h1 : k < (adj.l.length : Int)) (h2 : X.RunsC 34 [.c (eSl ns), dInt k] (dB false)) (h3 : -9223372036854775808 ≤ k + 1 ∧ k + 1 ≤ 9223372036854775807) : X.Go 20 49 [] (sub b20 [1, 1, 0, 1, 0, 0, 1, 0, 0, 1, 1, 0, 0]) ⟨fl [(0, .c (eSl adj)), (1, .c (eSl ns)), (5, .ms 0 1 0 adj.l.length 1 true), (6, dInt i), (7, dInt k)], ⟨[⟨1, rows.map apv⟩], []⟩⟩ .normal ⟨fl [(0, .c (eSl adj)), (1, .c (eSl ns)), (5, .ms 0 1 0 adj.l.length 1 true), (6, dInt i), (7, dInt (k + 1))], ⟨[⟨1, rows.map apv⟩], []⟩⟩ :=
  Sys.go [((7, 3), .b true), ((9, 2), .call (dB false) ⟨[], []⟩), ((8, 1), .n)] (And.intro (h1) (And.intro (h2) (h3))) (by kernel_rfl)
theorem rwithC_5 (adj : Sl (Sl Int)) (ns : Sl Int) (i k : Int) (rows : List (List Int)) (h1 : ¬ k < (adj.l.length : Int)) : X.Go 20 49 [] (sub b20 [1, 1, 0, 1, 0, 0, 1, 0, 0, 1, 1, 0, 0]) ⟨fl [(0, .c (eSl adj)), (1, .c (eSl ns)), (5, .ms 0 1 0 adj.l.length 1 true), (6, dInt i), (7, dInt k)], ⟨[⟨1, rows.map apv⟩], []⟩⟩ (.exit 2) ⟨fl [(0, .c (eSl adj)), (1, .c (eSl ns)), (5, .ms 0 1 0 adj.l.length 1 true), (6, dInt i), (7, dInt k), (24, dB false)], ⟨[⟨1, rows.map apv⟩], []⟩⟩ :=
  Sys.go [((7, 3), .b false)] (h1) (by kernel_rfl)
theorem rwithB_1 (adj : Sl (Sl Int)) (ns : Sl Int) (i : Int) (rows : List (List Int)) (rows' : List (List Int)) (k : Int) (h1 : i < (adj.l.length : Int)) (h2 : X.RunsC 34 [.c (eSl ns), dInt i] (dB true)) (h3 : X.Go 20 49 [] (sub b20 [1, 1, 0, 1, 0, 0, 1, 0, 0, 1, 1, 0]) ⟨fl [(0, .c (eSl adj)), (1, .c (eSl ns)), (5, .ms 0 1 0 adj.l.length 1 true), (6, dInt i), (7, dInt 0)], ⟨[⟨1, rows.map apv⟩], []⟩⟩ (.exit 2) ⟨fl [(0, .c (eSl adj)), (1, .c (eSl ns)), (5, .ms 0 1 0 adj.l.length 1 true), (6, dInt i), (7, dInt k), (24, dB false)], ⟨[⟨1, rows'.map apv⟩], []⟩⟩) (h4 : -9223372036854775808 ≤ i + 1 ∧ i + 1 ≤ 9223372036854775807) : X.Go 20 49 [] (sub b20 [1, 1, 0, 1, 0, 0]) ⟨fl [(0, .c (eSl adj)), (1, .c (eSl ns)), (5, .ms 0 1 0 adj.l.length 1 true), (6, dInt i)], ⟨[⟨1, rows.map apv⟩], []⟩⟩ .normal ⟨fl [(0, .c (eSl adj)), (1, .c (eSl ns)), (5, .ms 0 1 0 adj.l.length 1 true), (6, dInt (i + 1))], ⟨[⟨1, rows'.map apv⟩], []⟩⟩ :=
  Sys.go [((3, 3), .b true), ((5, 2), .call (dB true) ⟨[], []⟩), ((7, 1000), .code (.exit 2) ⟨fl [(0, .c (eSl adj)), (1, .c (eSl ns)), (5, .ms 0 1 0 adj.l.length 1 true), (6, dInt i), (7, dInt k), (24, dB false)], ⟨[⟨1, rows'.map apv⟩], []⟩⟩), ((4, 1), .n)] (And.intro (h1) (And.intro (h2) (And.intro (h3) (h4)))) (by kernel_rfl)
theorem rwithB_2 (adj : Sl (Sl Int)) (ns : Sl Int) (i : Int) (rows : List (List Int)) (h1 : i < (adj.l.length : Int)) (h2 : X.RunsC 34 [.c (eSl ns), dInt i] (dB false)) (h3 : -9223372036854775808 ≤ i + 1 ∧ i + 1 ≤ 9223372036854775807) : X.Go 20 49 [] (sub b20 [1, 1, 0, 1, 0, 0]) ⟨fl [(0, .c (eSl adj)), (1, .c (eSl ns)), (5, .ms 0 1 0 adj.l.length 1 true), (6, dInt i)], ⟨[⟨1, rows.map apv⟩], []⟩⟩ .normal ⟨fl [(0, .c (eSl adj)), (1, .c (eSl ns)), (5, .ms 0 1 0 adj.l.length 1 true), (6, dInt (i + 1))], ⟨[⟨1, rows.map apv⟩], []⟩⟩ :=
  Sys.go [((3, 3), .b true), ((5, 2), .call (dB false) ⟨[], []⟩), ((4, 1), .n)] (And.intro (h1) (And.intro (h2) (h3))) (by kernel_rfl)
theorem rwithB_3 (adj : Sl (Sl Int)) (ns : Sl Int) (i : Int) (rows : List (List Int)) (h1 : ¬ i < (adj.l.length : Int)) : X.Go 20 49 [] (sub b20 [1, 1, 0, 1, 0, 0]) ⟨fl [(0, .c (eSl adj)), (1, .c (eSl ns)), (5, .ms 0 1 0 adj.l.length 1 true), (6, dInt i)], ⟨[⟨1, rows.map apv⟩], []⟩⟩ (.exit 0) ⟨fl [(0, .c (eSl adj)), (1, .c (eSl ns)), (5, .ms 0 1 0 adj.l.length 1 true), (6, dInt i), (14, dB false)], ⟨[⟨1, rows.map apv⟩], []⟩⟩ :=
  Sys.go [((3, 3), .b false)] (h1) (by kernel_rfl)
theorem rwithM_1 (adj : Sl (Sl Int)) (ns : Sl Int) (rows : List (List Int)) (i : Int) (h1 : 24 * adj.l.length ≤ 281474976710656 ∧ adj.l.length ≤ 9223372036854775807) (h2 : X.Go 20 49 [] (sub b20 [1, 1, 0, 1, 0]) ⟨fl [(0, .c (eSl adj)), (1, .c (eSl ns)), (5, .ms 0 1 0 adj.l.length 1 true), (6, dInt 0)], ⟨[⟨1, (List.replicate adj.l.length ([] : List Int)).map apv⟩], []⟩⟩ (.exit 0) ⟨fl [(0, .c (eSl adj)), (1, .c (eSl ns)), (5, .ms 0 1 0 adj.l.length 1 true), (6, dInt i), (14, dB false)], ⟨[⟨1, rows.map apv⟩], []⟩⟩) (hn : rows.length = adj.l.length) : X.RunsC 20 [.c (eSl adj), .c (eSl ns)] (.c (.sl false true (cells (rows.map apc)) (rows.map (apc (α := Int))).length)) :=
  Sys.callC (Sys.call (X := X) (args := [.c (eSl adj), .c (eSl ns)]) (m := ⟨[], []⟩) (d := .ms 0 1 0 adj.l.length 1 true) (m' := ⟨[⟨1, rows.map apv⟩], []⟩) (Sys.go (f := 20) (nt := 49) (Γ := []) (c := b20) (s := ⟨argFr [.c (eSl adj), .c (eSl ns)], ⟨[], []⟩⟩) (ex := .ret) (s' := ⟨fl [(4, .ms 0 1 0 adj.l.length 1 true)], ⟨[⟨1, rows.map apv⟩], []⟩⟩) [((1, 2), .mk ((List.replicate adj.l.length ([] : List Int)).map apv) true), ((3, 1000), .code (.exit 0) ⟨fl [(0, .c (eSl adj)), (1, .c (eSl ns)), (5, .ms 0 1 0 adj.l.length 1 true), (6, dInt i), (14, dB false)], ⟨[⟨1, rows.map apv⟩], []⟩⟩)] (And.intro (mk_la (α := Int) h1) (h2)) (by kernel_rfl)) (fn := Try.f20) (by kernel_rfl) (by kernel_rfl) rfl (by kernel_rfl) rfl) (closeTop_la (o := ⟨1, rows.map apv⟩) hn (getO_of rfl rfl) rfl)
end Go.Proofs.Ytclnpjnodmfkcaa

set_option linter.unusedVariables false
set_option maxRecDepth 10000
namespace Go.Proofs.Ytclnpjnodmfkcaa
open Go Go.Abs Go.Proofs
noncomputable def b19 : Code := (Try.f19.body).getD .skip
theorem withA_1 (adj : Sl (Sl Int)) (ns : Sl Int) (i : Int) (inn : List Bool) (v19 : Int) (h1 : i < (ns.l.length : Int)) (h2 : 0 ≤ i ∧ i < (ns.l.length : Int)) (h3 : ns.l[i.toNat]? = some v19) (h4 : v19 ≥ 0) (h5 : v19 < (adj.l.length : Int)) (h6 : 0 ≤ v19 ∧ v19 < (adj.l.length : Int)) (h7 : 0 ≤ v19 ∧ v19 < (inn.length : Int)) (h8 : -9223372036854775808 ≤ i + 1 ∧ i + 1 ≤ 9223372036854775807) : X.Go 19 78 [] (sub b19 [1, 1, 0, 1, 0, 0]) ⟨fl [(0, .c (eSl adj)), (5, .pt 1 1 0), (14, .c (eSl ns)), (15, dInt (ns.l.length : Int)), (16, dInt i)], ⟨[⟨1, dcells inn⟩, ⟨1, [.ms 0 1 0 adj.l.length 1 true]⟩], []⟩⟩ .normal ⟨fl [(0, .c (eSl adj)), (5, .pt 1 1 0), (14, .c (eSl ns)), (15, dInt (ns.l.length : Int)), (16, dInt (i + 1))], ⟨[⟨1, dcells (inn.set v19.toNat true)⟩, ⟨1, [.ms 0 1 0 adj.l.length 1 true]⟩], []⟩⟩ :=
  Sys.go [((3, 0), .b true), ((4, 0), .ix), ((4, 1), .cell (cInt v19)), ((5, 1), .b true), ((5, 6), .b true), ((6, 2), .ix), ((6, 3), .st (dcells (inn.set v19.toNat true))), ((7, 0), .n)] (And.intro (h1) (And.intro (And.intro (Sl.empty ns) h2) (And.intro (cell_at 0 (c := cInt v19) rfl h3) (And.intro (h4) (And.intro (h5) (And.intro (h6) (And.intro (And.intro (rfl : (1 : Nat) = 1) (dst_all true h7)) (h8)))))))) (by kernel_rfl)
theorem withA_2 (adj : Sl (Sl Int)) (ns : Sl Int) (i : Int) (inn : List Bool) (v19 : Int) (h1 : i < (ns.l.length : Int)) (h2 : 0 ≤ i ∧ i < (ns.l.length : Int)) (h3 : ns.l[i.toNat]? = some v19) (h4 : v19 ≥ 0) (h5 : ¬ v19 < (adj.l.length : Int)) (h6 : -9223372036854775808 ≤ i + 1 ∧ i + 1 ≤ 9223372036854775807) : X.Go 19 78 [] (sub b19 [1, 1, 0, 1, 0, 0]) ⟨fl [(0, .c (eSl adj)), (5, .pt 1 1 0), (14, .c (eSl ns)), (15, dInt (ns.l.length : Int)), (16, dInt i)], ⟨[⟨1, dcells inn⟩, ⟨1, [.ms 0 1 0 adj.l.length 1 true]⟩], []⟩⟩ .normal ⟨fl [(0, .c (eSl adj)), (5, .pt 1 1 0), (14, .c (eSl ns)), (15, dInt (ns.l.length : Int)), (16, dInt (i + 1))], ⟨[⟨1, dcells inn⟩, ⟨1, [.ms 0 1 0 adj.l.length 1 true]⟩], []⟩⟩ :=
  Sys.go [((3, 0), .b true), ((4, 0), .ix), ((4, 1), .cell (cInt v19)), ((5, 1), .b true), ((5, 6), .b false), ((7, 0), .n)] (And.intro (h1) (And.intro (And.intro (Sl.empty ns) h2) (And.intro (cell_at 0 (c := cInt v19) rfl h3) (And.intro (h4) (And.intro (h5) (h6)))))) (by kernel_rfl)
theorem withA_3 (adj : Sl (Sl Int)) (ns : Sl Int) (i : Int) (inn : List Bool) (v19 : Int) (h1 : i < (ns.l.length : Int)) (h2 : 0 ≤ i ∧ i < (ns.l.length : Int)) (h3 : ns.l[i.toNat]? = some v19) (h4 : ¬ v19 ≥ 0) (h5 : -9223372036854775808 ≤ i + 1 ∧ i + 1 ≤ 9223372036854775807) : X.Go 19 78 [] (sub b19 [1, 1, 0, 1, 0, 0]) ⟨fl [(0, .c (eSl adj)), (5, .pt 1 1 0), (14, .c (eSl ns)), (15, dInt (ns.l.length : Int)), (16, dInt i)], ⟨[⟨1, dcells inn⟩, ⟨1, [.ms 0 1 0 adj.l.length 1 true]⟩], []⟩⟩ .normal ⟨fl [(0, .c (eSl adj)), (5, .pt 1 1 0), (14, .c (eSl ns)), (15, dInt (ns.l.length : Int)), (16, dInt (i + 1))], ⟨[⟨1, dcells inn⟩, ⟨1, [.ms 0 1 0 adj.l.length 1 true]⟩], []⟩⟩ :=
  Sys.go [((3, 0), .b true), ((4, 0), .ix), ((4, 1), .cell (cInt v19)), ((5, 1), .b false), ((7, 0), .n)] (And.intro (h1) (And.intro (And.intro (Sl.empty ns) h2) (And.intro (cell_at 0 (c := cInt v19) rfl h3) (And.intro (h4) (h5))))) (by kernel_rfl)
theorem withA_4 (adj : Sl (Sl Int)) (ns : Sl Int) (i : Int) (inn : List Bool) (h1 : ¬ i < (ns.l.length : Int)) : X.Go 19 78 [] (sub b19 [1, 1, 0, 1, 0, 0]) ⟨fl [(0, .c (eSl adj)), (5, .pt 1 1 0), (14, .c (eSl ns)), (15, dInt (ns.l.length : Int)), (16, dInt i)], ⟨[⟨1, dcells inn⟩, ⟨1, [.ms 0 1 0 adj.l.length 1 true]⟩], []⟩⟩ (.exit 0) ⟨fl [(0, .c (eSl adj)), (5, .pt 1 1 0), (14, .c (eSl ns)), (15, dInt (ns.l.length : Int)), (16, dInt i), (17, dB false)], ⟨[⟨1, dcells inn⟩, ⟨1, [.ms 0 1 0 adj.l.length 1 true]⟩], []⟩⟩ :=
  Sys.go [((3, 0), .b false)] (h1) (by kernel_rfl)
theorem withBn_1 (pd : List Ex) (adj : Sl (Sl Int)) (i : Int) (inn : List Bool) (outs : List (Sl Int)) (v0 : Nat) (pd' : List Ex) (w : Nat) (h1 : i < (adj.l.length : Int)) (h2 : 0 ≤ i ∧ i < (adj.l.length : Int)) (h3 : inn[i.toNat]? = some true) (h4 : X.Runs [] 23 [.c (eSl adj), dInt i] ⟨[], []⟩ (.fn 35 [] [.pt 0 1 0, .pt 1 1 0]) ⟨[⟨1, [.c (eSl adj)]⟩, ⟨1, [dInt i]⟩], []⟩) (hlt : i.toNat < outs.length) (h6 : X.Go 19 78 [] (sub b19 [1, 1, 1, 1, 0, 1, 0, 0, 1, 1, 0, 0, 1, 1, 0, 1, 0]) ⟨fl [(0, .c (eSl adj)), (5, .pt 1 1 0), (8, .pt 3 1 0), (9, .pt 5 1 0), (36, dInt (adj.l.length : Int)), (37, dInt i), (47, .fn 35 [] [.pt 6 1 0, .pt 7 1 0])], ⟨[⟨1, dcells inn⟩, ⟨1, [.ms 0 1 0 adj.l.length 1 true]⟩, ⟨1, dcells outs⟩, ⟨1, [.ms 2 1 0 adj.l.length 1 true]⟩, ⟨v0, []⟩, ⟨1, [dInt i]⟩, ⟨1, [.c (eSl adj)]⟩, ⟨1, [dInt i]⟩], (pd ++ [])⟩⟩ .normal ⟨fl [(0, .c (eSl adj)), (5, .pt 1 1 0), (8, .pt 3 1 0), (9, .pt 5 1 0), (36, dInt (adj.l.length : Int)), (37, dInt i), (47, .fn 35 [] [.pt 6 1 0, .pt 7 1 0])], ⟨[⟨1, dcells inn⟩, ⟨1, [.ms 0 1 0 adj.l.length 1 true]⟩, ⟨1, (dcells outs).set i.toNat (.c (.sl true true [] 0))⟩, ⟨1, [.ms 2 1 0 adj.l.length 1 true]⟩, ⟨w, []⟩, ⟨1, [dInt i]⟩, ⟨1, [.c (eSl adj)]⟩, ⟨1, [dInt i]⟩], pd'⟩⟩) (h7 : -9223372036854775808 ≤ i + 1 ∧ i + 1 ≤ 9223372036854775807) : X.Go 19 78 [] (sub b19 [1, 1, 1, 1, 0, 1, 0, 0]) ⟨fl [(0, .c (eSl adj)), (5, .pt 1 1 0), (8, .pt 3 1 0), (36, dInt (adj.l.length : Int)), (37, dInt i)], ⟨[⟨1, dcells inn⟩, ⟨1, [.ms 0 1 0 adj.l.length 1 true]⟩, ⟨1, dcells outs⟩, ⟨1, [.ms 2 1 0 adj.l.length 1 true]⟩, ⟨v0, []⟩], pd⟩⟩ .normal ⟨fl [(0, .c (eSl adj)), (5, .pt 1 1 0), (8, .pt 3 1 0), (36, dInt (adj.l.length : Int)), (37, dInt (i + 1))], ⟨[⟨1, dcells inn⟩, ⟨1, [.ms 0 1 0 adj.l.length 1 true]⟩, ⟨1, dcells (outs.set i.toNat (Sl.nil : Sl Int))⟩, ⟨1, [.ms 2 1 0 adj.l.length 1 true]⟩, ⟨w, []⟩, ⟨1, [dInt i]⟩, ⟨1, [.c (eSl adj)]⟩, ⟨1, [dInt i]⟩], pd'⟩⟩ :=
  Sys.go [((10, 0), .b true), ((12, 2), .ix), ((12, 3), .cell (.sc (.bool true))), ((13, 2), .call (.fn 35 [] [.pt 0 1 0, .pt 1 1 0]) ⟨[⟨1, [.c (eSl adj)]⟩, ⟨1, [dInt i]⟩], []⟩), ((15, 1000), .code .normal ⟨fl [(0, .c (eSl adj)), (5, .pt 1 1 0), (8, .pt 3 1 0), (9, .pt 5 1 0), (36, dInt (adj.l.length : Int)), (37, dInt i), (47, .fn 35 [] [.pt 6 1 0, .pt 7 1 0])], ⟨[⟨1, dcells inn⟩, ⟨1, [.ms 0 1 0 adj.l.length 1 true]⟩, ⟨1, (dcells outs).set i.toNat (.c (.sl true true [] 0))⟩, ⟨1, [.ms 2 1 0 adj.l.length 1 true]⟩, ⟨w, []⟩, ⟨1, [dInt i]⟩, ⟨1, [.c (eSl adj)]⟩, ⟨1, [dInt i]⟩], pd'⟩⟩), ((17, 2), .ix), ((17, 3), .cellU (.c (.sl true true [] 0))), ((17, 4), .op { d := .tup [] }), ((18, 4), .ix), ((18, 5), .cellU (.c (.sl true true [] 0))), ((18, 6), .op { d := .c (eSl (Sl.nil : Sl Int)) }), ((18, 7), .ix), ((18, 8), .st (dcells (outs.set i.toNat (Sl.nil : Sl Int)))), ((19, 0), .n)] (And.intro (h1) (And.intro (h2) (And.intro (And.intro (rfl : (1 : Nat) = 1) (dcell_at' 0 (c := .sc (.bool true)) rfl h3)) (And.intro (h4) (And.intro (h6) (And.intro (h2) (And.intro (And.intro (rfl : (1 : Nat) = 1) (lo_get (outs := outs) (d := .c (.sl true true [] 0)) hlt)) (And.intro (sortP_nil (st := [⟨1, dcells inn⟩, ⟨1, [.ms 0 1 0 adj.l.length 1 true]⟩, ⟨1, (dcells outs).set i.toNat (.c (.sl true true [] 0))⟩, ⟨1, [.ms 2 1 0 adj.l.length 1 true]⟩, ⟨w, []⟩, ⟨1, [dInt i]⟩, ⟨1, [.c (eSl adj)]⟩, ⟨1, [dInt i]⟩]) (x := true) (cs := []) (n := 0)) (And.intro (h2) (And.intro (And.intro (rfl : (1 : Nat) = 1) (lo_get (outs := outs) (d := .c (.sl true true [] 0)) hlt)) (And.intro (compactP_nil (st := [⟨1, dcells inn⟩, ⟨1, [.ms 0 1 0 adj.l.length 1 true]⟩, ⟨1, (dcells outs).set i.toNat (.c (.sl true true [] 0))⟩, ⟨1, [.ms 2 1 0 adj.l.length 1 true]⟩, ⟨w, []⟩, ⟨1, [dInt i]⟩, ⟨1, [.c (eSl adj)]⟩, ⟨1, [dInt i]⟩]) (x := true) (cs := []) (n := 0)) (And.intro (h2) (And.intro (And.intro (rfl : (1 : Nat) = 1) (lo_close (d := .c (.sl true true [] 0)) (Sl.nil : Sl Int) hlt)) (h7)))))))))))))) (by kernel_rfl)
theorem withBn_2 (pd : List Ex) (adj : Sl (Sl Int)) (i : Int) (inn : List Bool) (outs : List (Sl Int)) (v0 : Nat) (h1 : i < (adj.l.length : Int)) (h2 : 0 ≤ i ∧ i < (adj.l.length : Int)) (h3 : inn[i.toNat]? = some false) (h4 : -9223372036854775808 ≤ i + 1 ∧ i + 1 ≤ 9223372036854775807) : X.Go 19 78 [] (sub b19 [1, 1, 1, 1, 0, 1, 0, 0]) ⟨fl [(0, .c (eSl adj)), (5, .pt 1 1 0), (8, .pt 3 1 0), (36, dInt (adj.l.length : Int)), (37, dInt i)], ⟨[⟨1, dcells inn⟩, ⟨1, [.ms 0 1 0 adj.l.length 1 true]⟩, ⟨1, dcells outs⟩, ⟨1, [.ms 2 1 0 adj.l.length 1 true]⟩, ⟨v0, []⟩], pd⟩⟩ .normal ⟨fl [(0, .c (eSl adj)), (5, .pt 1 1 0), (8, .pt 3 1 0), (36, dInt (adj.l.length : Int)), (37, dInt (i + 1))], ⟨[⟨1, dcells inn⟩, ⟨1, [.ms 0 1 0 adj.l.length 1 true]⟩, ⟨1, dcells outs⟩, ⟨1, [.ms 2 1 0 adj.l.length 1 true]⟩, ⟨v0, []⟩, ⟨1, [dInt i]⟩], pd⟩⟩ :=
  Sys.go [((10, 0), .b true), ((12, 2), .ix), ((12, 3), .cell (.sc (.bool false))), ((19, 0), .n)] (And.intro (h1) (And.intro (h2) (And.intro (And.intro (rfl : (1 : Nat) = 1) (dcell_at' 0 (c := .sc (.bool false)) rfl h3)) (h4)))) (by kernel_rfl)
theorem withBn_3 (pd : List Ex) (adj : Sl (Sl Int)) (i : Int) (inn : List Bool) (outs : List (Sl Int)) (v0 : Nat) (h1 : ¬ i < (adj.l.length : Int)) : X.Go 19 78 [] (sub b19 [1, 1, 1, 1, 0, 1, 0, 0]) ⟨fl [(0, .c (eSl adj)), (5, .pt 1 1 0), (8, .pt 3 1 0), (36, dInt (adj.l.length : Int)), (37, dInt i)], ⟨[⟨1, dcells inn⟩, ⟨1, [.ms 0 1 0 adj.l.length 1 true]⟩, ⟨1, dcells outs⟩, ⟨1, [.ms 2 1 0 adj.l.length 1 true]⟩, ⟨v0, []⟩], pd⟩⟩ (.exit 2) ⟨fl [(0, .c (eSl adj)), (5, .pt 1 1 0), (8, .pt 3 1 0), (36, dInt (adj.l.length : Int)), (37, dInt i), (38, dB false)], ⟨[⟨1, dcells inn⟩, ⟨1, [.ms 0 1 0 adj.l.length 1 true]⟩, ⟨1, dcells outs⟩, ⟨1, [.ms 2 1 0 adj.l.length 1 true]⟩, ⟨v0, []⟩], pd⟩⟩ :=
  Sys.go [((10, 0), .b false)] (h1) (by kernel_rfl)
theorem withBn_cut1 (pd : List Ex) (adj : Sl (Sl Int)) (i : Int) (inn : List Bool) (outs : List (Sl Int)) (v0 : Nat) (pd' : List Ex) (w : Nat) : cutS (X.an.cut 19 10) 5 ⟨fl [(0, .c (eSl adj)), (5, .pt 1 1 0), (8, .pt 3 1 0), (36, dInt (adj.l.length : Int)), (37, dInt (i + 1))], ⟨[⟨1, dcells inn⟩, ⟨1, [.ms 0 1 0 adj.l.length 1 true]⟩, ⟨1, dcells (outs.set i.toNat (Sl.nil : Sl Int))⟩, ⟨1, [.ms 2 1 0 adj.l.length 1 true]⟩, ⟨w, []⟩, ⟨1, [dInt i]⟩, ⟨1, [.c (eSl adj)]⟩, ⟨1, [dInt i]⟩], pd'⟩⟩ = some ⟨fl [(0, .c (eSl adj)), (5, .pt 1 1 0), (8, .pt 3 1 0), (36, dInt (adj.l.length : Int)), (37, dInt (i + 1))], ⟨[⟨1, dcells inn⟩, ⟨1, [.ms 0 1 0 adj.l.length 1 true]⟩, ⟨1, dcells (outs.set i.toNat (Sl.nil : Sl Int))⟩, ⟨1, [.ms 2 1 0 adj.l.length 1 true]⟩, ⟨w, []⟩], pd'⟩⟩ :=
  cut_ok (l := [0, 5, 8, 36, 37]) rfl (AllB.cons (below_dcells 5 inn) (AllB.cons rfl (AllB.cons (below_dcells 5 (outs.set i.toNat (Sl.nil : Sl Int))) (AllB.cons rfl (AllB.cons rfl (AllB.nil 5)))))) rfl
theorem withBn_cut2 (pd : List Ex) (adj : Sl (Sl Int)) (i : Int) (inn : List Bool) (outs : List (Sl Int)) (v0 : Nat) : cutS (X.an.cut 19 10) 5 ⟨fl [(0, .c (eSl adj)), (5, .pt 1 1 0), (8, .pt 3 1 0), (36, dInt (adj.l.length : Int)), (37, dInt (i + 1))], ⟨[⟨1, dcells inn⟩, ⟨1, [.ms 0 1 0 adj.l.length 1 true]⟩, ⟨1, dcells outs⟩, ⟨1, [.ms 2 1 0 adj.l.length 1 true]⟩, ⟨v0, []⟩, ⟨1, [dInt i]⟩], pd⟩⟩ = some ⟨fl [(0, .c (eSl adj)), (5, .pt 1 1 0), (8, .pt 3 1 0), (36, dInt (adj.l.length : Int)), (37, dInt (i + 1))], ⟨[⟨1, dcells inn⟩, ⟨1, [.ms 0 1 0 adj.l.length 1 true]⟩, ⟨1, dcells outs⟩, ⟨1, [.ms 2 1 0 adj.l.length 1 true]⟩, ⟨v0, []⟩], pd⟩⟩ :=
  cut_ok (l := [0, 5, 8, 36, 37]) rfl (AllB.cons (below_dcells 5 inn) (AllB.cons rfl (AllB.cons (below_dcells 5 outs) (AllB.cons rfl (AllB.cons rfl (AllB.nil 5)))))) rfl
theorem withBs_1 (pd : List Ex) (adj : Sl (Sl Int)) (i : Int) (inn : List Bool) (outs : List (Sl Int)) (v0 : Nat) (pd' : List Ex) (w : Nat) (row : List Int) (h1 : i < (adj.l.length : Int)) (h2 : 0 ≤ i ∧ i < (adj.l.length : Int)) (h3 : inn[i.toNat]? = some true) (h4 : X.Runs [] 23 [.c (eSl adj), dInt i] ⟨[], []⟩ (.fn 35 [] [.pt 0 1 0, .pt 1 1 0]) ⟨[⟨1, [.c (eSl adj)]⟩, ⟨1, [dInt i]⟩], []⟩) (hlt : i.toNat < outs.length) (h6 : X.Go 19 78 [] (sub b19 [1, 1, 1, 1, 0, 1, 0, 0, 1, 1, 0, 0, 1, 1, 0, 1, 0]) ⟨fl [(0, .c (eSl adj)), (5, .pt 1 1 0), (8, .pt 3 1 0), (9, .pt 5 1 0), (36, dInt (adj.l.length : Int)), (37, dInt i), (47, .fn 35 [] [.pt 6 1 0, .pt 7 1 0])], ⟨[⟨1, dcells inn⟩, ⟨1, [.ms 0 1 0 adj.l.length 1 true]⟩, ⟨1, dcells outs⟩, ⟨1, [.ms 2 1 0 adj.l.length 1 true]⟩, ⟨v0, []⟩, ⟨1, [dInt i]⟩, ⟨1, [.c (eSl adj)]⟩, ⟨1, [dInt i]⟩], (pd ++ [])⟩⟩ .normal ⟨fl [(0, .c (eSl adj)), (5, .pt 1 1 0), (8, .pt 3 1 0), (9, .pt 5 1 0), (36, dInt (adj.l.length : Int)), (37, dInt i), (47, .fn 35 [] [.pt 6 1 0, .pt 7 1 0])], ⟨[⟨1, dcells inn⟩, ⟨1, [.ms 0 1 0 adj.l.length 1 true]⟩, ⟨1, (dcells outs).set i.toNat (.ms 4 w 0 row.length 1 false)⟩, ⟨1, [.ms 2 1 0 adj.l.length 1 true]⟩, ⟨w, dcells row⟩, ⟨1, [dInt i]⟩, ⟨1, [.c (eSl adj)]⟩, ⟨1, [dInt i]⟩], pd'⟩⟩) (h7 : row ≠ [] ∧ row.length < 4611686018427387904) (h8 : (isort row) ≠ [] ∧ (isort row).length < 4611686018427387904) (h9 : (isort row).length = row.length) (h10 : -9223372036854775808 ≤ i + 1 ∧ i + 1 ≤ 9223372036854775807) : X.Go 19 78 [] (sub b19 [1, 1, 1, 1, 0, 1, 0, 0]) ⟨fl [(0, .c (eSl adj)), (5, .pt 1 1 0), (8, .pt 3 1 0), (36, dInt (adj.l.length : Int)), (37, dInt i)], ⟨[⟨1, dcells inn⟩, ⟨1, [.ms 0 1 0 adj.l.length 1 true]⟩, ⟨1, dcells outs⟩, ⟨1, [.ms 2 1 0 adj.l.length 1 true]⟩, ⟨v0, []⟩], pd⟩⟩ .normal ⟨fl [(0, .c (eSl adj)), (5, .pt 1 1 0), (8, .pt 3 1 0), (36, dInt (adj.l.length : Int)), (37, dInt (i + 1))], ⟨[⟨1, dcells inn⟩, ⟨1, [.ms 0 1 0 adj.l.length 1 true]⟩, ⟨1, dcells (outs.set i.toNat (Sl.of false (dedup (isort row))))⟩, ⟨1, [.ms 2 1 0 adj.l.length 1 true]⟩, ⟨(w + 1), []⟩, ⟨1, [dInt i]⟩, ⟨1, [.c (eSl adj)]⟩, ⟨1, [dInt i]⟩], pd'⟩⟩ :=
  Sys.go [((10, 0), .b true), ((12, 2), .ix), ((12, 3), .cell (.sc (.bool true))), ((13, 2), .call (.fn 35 [] [.pt 0 1 0, .pt 1 1 0]) ⟨[⟨1, [.c (eSl adj)]⟩, ⟨1, [dInt i]⟩], []⟩), ((15, 1000), .code .normal ⟨fl [(0, .c (eSl adj)), (5, .pt 1 1 0), (8, .pt 3 1 0), (9, .pt 5 1 0), (36, dInt (adj.l.length : Int)), (37, dInt i), (47, .fn 35 [] [.pt 6 1 0, .pt 7 1 0])], ⟨[⟨1, dcells inn⟩, ⟨1, [.ms 0 1 0 adj.l.length 1 true]⟩, ⟨1, (dcells outs).set i.toNat (.ms 4 w 0 row.length 1 false)⟩, ⟨1, [.ms 2 1 0 adj.l.length 1 true]⟩, ⟨w, dcells row⟩, ⟨1, [dInt i]⟩, ⟨1, [.c (eSl adj)]⟩, ⟨1, [dInt i]⟩], pd'⟩⟩), ((17, 2), .ix), ((17, 3), .cellU (.ms 4 w 0 row.length 1 false)), ((17, 4), .op { d := .tup [], set := some (4, ⟨w, dcells (isort row)⟩) }), ((18, 4), .ix), ((18, 5), .cellU (.ms 4 w 0 row.length 1 false)), ((18, 6), .op { d := .c (eSl (Sl.of false (dedup (isort row)))), set := some (4, ⟨(w + 1), []⟩) }), ((18, 7), .ix), ((18, 8), .st (dcells (outs.set i.toNat (Sl.of false (dedup (isort row)))))), ((19, 0), .n)] (And.intro (h1) (And.intro (h2) (And.intro (And.intro (rfl : (1 : Nat) = 1) (dcell_at' 0 (c := .sc (.bool true)) rfl h3)) (And.intro (h4) (And.intro (h6) (And.intro (h2) (And.intro (And.intro (rfl : (1 : Nat) = 1) (lo_get (outs := outs) (d := .ms 4 w 0 row.length 1 false) hlt)) (And.intro (sortP_ms (st := [⟨1, dcells inn⟩, ⟨1, [.ms 0 1 0 adj.l.length 1 true]⟩, ⟨1, (dcells outs).set i.toNat (.ms 4 w 0 row.length 1 false)⟩, ⟨1, [.ms 2 1 0 adj.l.length 1 true]⟩, ⟨w, dcells row⟩, ⟨1, [dInt i]⟩, ⟨1, [.c (eSl adj)]⟩, ⟨1, [dInt i]⟩]) (id := 4) (ver := w) (x := false) (l := row) h7 rfl) (And.intro (h2) (And.intro (And.intro (rfl : (1 : Nat) = 1) (lo_get (outs := outs) (d := .ms 4 w 0 row.length 1 false) hlt)) (And.intro (compactP_msn h9 (st := [⟨1, dcells inn⟩, ⟨1, [.ms 0 1 0 adj.l.length 1 true]⟩, ⟨1, (dcells outs).set i.toNat (.ms 4 w 0 row.length 1 false)⟩, ⟨1, [.ms 2 1 0 adj.l.length 1 true]⟩, ⟨w, dcells (isort row)⟩, ⟨1, [dInt i]⟩, ⟨1, [.c (eSl adj)]⟩, ⟨1, [dInt i]⟩]) (id := 4) (ver := w) (x := false) (l := (isort row)) h8 rfl) (And.intro (h2) (And.intro (And.intro (rfl : (1 : Nat) = 1) (lo_close (d := .ms 4 w 0 row.length 1 false) (Sl.of false (dedup (isort row))) hlt)) (h10)))))))))))))) (by kernel_rfl)
theorem withBs_2 (pd : List Ex) (adj : Sl (Sl Int)) (i : Int) (inn : List Bool) (outs : List (Sl Int)) (v0 : Nat) (h1 : i < (adj.l.length : Int)) (h2 : 0 ≤ i ∧ i < (adj.l.length : Int)) (h3 : inn[i.toNat]? = some false) (h4 : -9223372036854775808 ≤ i + 1 ∧ i + 1 ≤ 9223372036854775807) : X.Go 19 78 [] (sub b19 [1, 1, 1, 1, 0, 1, 0, 0]) ⟨fl [(0, .c (eSl adj)), (5, .pt 1 1 0), (8, .pt 3 1 0), (36, dInt (adj.l.length : Int)), (37, dInt i)], ⟨[⟨1, dcells inn⟩, ⟨1, [.ms 0 1 0 adj.l.length 1 true]⟩, ⟨1, dcells outs⟩, ⟨1, [.ms 2 1 0 adj.l.length 1 true]⟩, ⟨v0, []⟩], pd⟩⟩ .normal ⟨fl [(0, .c (eSl adj)), (5, .pt 1 1 0), (8, .pt 3 1 0), (36, dInt (adj.l.length : Int)), (37, dInt (i + 1))], ⟨[⟨1, dcells inn⟩, ⟨1, [.ms 0 1 0 adj.l.length 1 true]⟩, ⟨1, dcells outs⟩, ⟨1, [.ms 2 1 0 adj.l.length 1 true]⟩, ⟨v0, []⟩, ⟨1, [dInt i]⟩], pd⟩⟩ :=
  Sys.go [((10, 0), .b true), ((12, 2), .ix), ((12, 3), .cell (.sc (.bool false))), ((19, 0), .n)] (And.intro (h1) (And.intro (h2) (And.intro (And.intro (rfl : (1 : Nat) = 1) (dcell_at' 0 (c := .sc (.bool false)) rfl h3)) (h4)))) (by kernel_rfl)
theorem withBs_3 (pd : List Ex) (adj : Sl (Sl Int)) (i : Int) (inn : List Bool) (outs : List (Sl Int)) (v0 : Nat) (h1 : ¬ i < (adj.l.length : Int)) : X.Go 19 78 [] (sub b19 [1, 1, 1, 1, 0, 1, 0, 0]) ⟨fl [(0, .c (eSl adj)), (5, .pt 1 1 0), (8, .pt 3 1 0), (36, dInt (adj.l.length : Int)), (37, dInt i)], ⟨[⟨1, dcells inn⟩, ⟨1, [.ms 0 1 0 adj.l.length 1 true]⟩, ⟨1, dcells outs⟩, ⟨1, [.ms 2 1 0 adj.l.length 1 true]⟩, ⟨v0, []⟩], pd⟩⟩ (.exit 2) ⟨fl [(0, .c (eSl adj)), (5, .pt 1 1 0), (8, .pt 3 1 0), (36, dInt (adj.l.length : Int)), (37, dInt i), (38, dB false)], ⟨[⟨1, dcells inn⟩, ⟨1, [.ms 0 1 0 adj.l.length 1 true]⟩, ⟨1, dcells outs⟩, ⟨1, [.ms 2 1 0 adj.l.length 1 true]⟩, ⟨v0, []⟩], pd⟩⟩ :=
  Sys.go [((10, 0), .b false)] (h1) (by kernel_rfl)
theorem withBs_cut1 (pd : List Ex) (adj : Sl (Sl Int)) (i : Int) (inn : List Bool) (outs : List (Sl Int)) (v0 : Nat) (pd' : List Ex) (w : Nat) (row : List Int) : cutS (X.an.cut 19 10) 5 ⟨fl [(0, .c (eSl adj)), (5, .pt 1 1 0), (8, .pt 3 1 0), (36, dInt (adj.l.length : Int)), (37, dInt (i + 1))], ⟨[⟨1, dcells inn⟩, ⟨1, [.ms 0 1 0 adj.l.length 1 true]⟩, ⟨1, dcells (outs.set i.toNat (Sl.of false (dedup (isort row))))⟩, ⟨1, [.ms 2 1 0 adj.l.length 1 true]⟩, ⟨(w + 1), []⟩, ⟨1, [dInt i]⟩, ⟨1, [.c (eSl adj)]⟩, ⟨1, [dInt i]⟩], pd'⟩⟩ = some ⟨fl [(0, .c (eSl adj)), (5, .pt 1 1 0), (8, .pt 3 1 0), (36, dInt (adj.l.length : Int)), (37, dInt (i + 1))], ⟨[⟨1, dcells inn⟩, ⟨1, [.ms 0 1 0 adj.l.length 1 true]⟩, ⟨1, dcells (outs.set i.toNat (Sl.of false (dedup (isort row))))⟩, ⟨1, [.ms 2 1 0 adj.l.length 1 true]⟩, ⟨(w + 1), []⟩], pd'⟩⟩ :=
  cut_ok (l := [0, 5, 8, 36, 37]) rfl (AllB.cons (below_dcells 5 inn) (AllB.cons rfl (AllB.cons (below_dcells 5 (outs.set i.toNat (Sl.of false (dedup (isort row))))) (AllB.cons rfl (AllB.cons rfl (AllB.nil 5)))))) rfl
theorem withBs_cut2 (pd : List Ex) (adj : Sl (Sl Int)) (i : Int) (inn : List Bool) (outs : List (Sl Int)) (v0 : Nat) : cutS (X.an.cut 19 10) 5 ⟨fl [(0, .c (eSl adj)), (5, .pt 1 1 0), (8, .pt 3 1 0), (36, dInt (adj.l.length : Int)), (37, dInt (i + 1))], ⟨[⟨1, dcells inn⟩, ⟨1, [.ms 0 1 0 adj.l.length 1 true]⟩, ⟨1, dcells outs⟩, ⟨1, [.ms 2 1 0 adj.l.length 1 true]⟩, ⟨v0, []⟩, ⟨1, [dInt i]⟩], pd⟩⟩ = some ⟨fl [(0, .c (eSl adj)), (5, .pt 1 1 0), (8, .pt 3 1 0), (36, dInt (adj.l.length : Int)), (37, dInt (i + 1))], ⟨[⟨1, dcells inn⟩, ⟨1, [.ms 0 1 0 adj.l.length 1 true]⟩, ⟨1, dcells outs⟩, ⟨1, [.ms 2 1 0 adj.l.length 1 true]⟩, ⟨v0, []⟩], pd⟩⟩ :=
  cut_ok (l := [0, 5, 8, 36, 37]) rfl (AllB.cons (below_dcells 5 inn) (AllB.cons rfl (AllB.cons (below_dcells 5 outs) (AllB.cons rfl (AllB.cons rfl (AllB.nil 5)))))) rfl
theorem withRn_1 (pd : List Ex) (adj : Sl (Sl Int)) (i : Int) (inn : List Bool) (outs : List (Sl Int)) (f47 : DV) (y : Int) (tl : List Ob) (hlt : i.toNat < outs.length) (v0 : Nat) (h1 : 0 ≤ y ∧ y < (adj.l.length : Int)) (h2 : inn[y.toNat]? = some true) (h3 : 0 ≤ i ∧ i < (adj.l.length : Int)) : X.Go 19 78 [] (sub b19 [1, 1, 1, 1, 0, 1, 0, 0, 1, 1, 0, 0, 1, 1, 0, 1, 0, 2]) ⟨setPs (fun t => unflag (fl [(0, .c (eSl adj)), (5, .pt 1 1 0), (8, .pt 3 1 0), (9, .pt 5 1 0), (36, dInt (adj.l.length : Int)), (37, dInt i), (47, f47)] t)) [(48, dInt y)], ⟨⟨1, dcells inn⟩ :: ⟨1, [.ms 0 1 0 adj.l.length 1 true]⟩ :: ⟨1, (dcells outs).set i.toNat (.c (.sl true true [] 0))⟩ :: ⟨1, [.ms 2 1 0 adj.l.length 1 true]⟩ :: ⟨v0, []⟩ :: ⟨1, [dInt i]⟩ :: tl, pd⟩⟩ .normal ⟨fl [], ⟨⟨1, dcells inn⟩ :: ⟨1, [.ms 0 1 0 adj.l.length 1 true]⟩ :: ⟨1, (dcells outs).set i.toNat (.ms 4 (v0 + 1) 0 1 1 false)⟩ :: ⟨1, [.ms 2 1 0 adj.l.length 1 true]⟩ :: ⟨v0 + 1, dcells ([y] : List Int)⟩ :: ⟨1, [dInt i]⟩ :: tl, pd⟩⟩ :=
  Sys.go [((15, 2), .ix), ((15, 3), .cell (.sc (.bool true))), ((16, 4), .ix), ((16, 5), .cellU (.c (.sl true true [] 0))), ((16, 9), .ix), ((16, 10), .st ((dcells outs).set i.toNat (.ms 4 (v0 + 1) 0 1 1 false)))] (And.intro (h1) (And.intro (And.intro (rfl : (1 : Nat) = 1) (dcell_at' 0 (c := .sc (.bool true)) rfl h2)) (And.intro (h3) (And.intro (And.intro (rfl : (1 : Nat) = 1) (lo_get (outs := outs) (d := .c (.sl true true [] 0)) hlt)) (And.intro (h3) (And.intro (rfl : (1 : Nat) = 1) (lo_set (outs := outs) (d := .c (.sl true true [] 0)) (.ms 4 (v0 + 1) 0 1 1 false) hlt))))))) (by kernel_rfl)
theorem withRn_2 (pd : List Ex) (adj : Sl (Sl Int)) (i : Int) (inn : List Bool) (outs : List (Sl Int)) (f47 : DV) (y : Int) (tl : List Ob) (hlt : i.toNat < outs.length) (v0 : Nat) (h1 : 0 ≤ y ∧ y < (adj.l.length : Int)) (h2 : inn[y.toNat]? = some false) : X.Go 19 78 [] (sub b19 [1, 1, 1, 1, 0, 1, 0, 0, 1, 1, 0, 0, 1, 1, 0, 1, 0, 2]) ⟨setPs (fun t => unflag (fl [(0, .c (eSl adj)), (5, .pt 1 1 0), (8, .pt 3 1 0), (9, .pt 5 1 0), (36, dInt (adj.l.length : Int)), (37, dInt i), (47, f47)] t)) [(48, dInt y)], ⟨⟨1, dcells inn⟩ :: ⟨1, [.ms 0 1 0 adj.l.length 1 true]⟩ :: ⟨1, (dcells outs).set i.toNat (.c (.sl true true [] 0))⟩ :: ⟨1, [.ms 2 1 0 adj.l.length 1 true]⟩ :: ⟨v0, []⟩ :: ⟨1, [dInt i]⟩ :: tl, pd⟩⟩ .normal ⟨fl [(8, .pt 3 1 0), (9, .pt 5 1 0), (10, dInt y), (52, dB false)], ⟨⟨1, dcells inn⟩ :: ⟨1, [.ms 0 1 0 adj.l.length 1 true]⟩ :: ⟨1, (dcells outs).set i.toNat (.c (.sl true true [] 0))⟩ :: ⟨1, [.ms 2 1 0 adj.l.length 1 true]⟩ :: ⟨v0, []⟩ :: ⟨1, [dInt i]⟩ :: tl, pd⟩⟩ :=
  Sys.go [((15, 2), .ix), ((15, 3), .cell (.sc (.bool false)))] (And.intro (h1) (And.intro (rfl : (1 : Nat) = 1) (dcell_at' 0 (c := .sc (.bool false)) rfl h2))) (by kernel_rfl)
theorem withRs_1 (pd : List Ex) (adj : Sl (Sl Int)) (i : Int) (inn : List Bool) (outs : List (Sl Int)) (f47 : DV) (y : Int) (tl : List Ob) (hlt : i.toNat < outs.length) (w : Nat) (row : List Int) (h1 : 0 ≤ y ∧ y < (adj.l.length : Int)) (h2 : inn[y.toNat]? = some true) (h3 : 0 ≤ i ∧ i < (adj.l.length : Int)) (h4 : (row ++ ([y] : List Int)).length * 8 ≤ 140737488355328) : X.Go 19 78 [] (sub b19 [1, 1, 1, 1, 0, 1, 0, 0, 1, 1, 0, 0, 1, 1, 0, 1, 0, 2]) ⟨setPs (fun t => unflag (fl [(0, .c (eSl adj)), (5, .pt 1 1 0), (8, .pt 3 1 0), (9, .pt 5 1 0), (36, dInt (adj.l.length : Int)), (37, dInt i), (47, f47)] t)) [(48, dInt y)], ⟨⟨1, dcells inn⟩ :: ⟨1, [.ms 0 1 0 adj.l.length 1 true]⟩ :: ⟨1, (dcells outs).set i.toNat (.ms 4 w 0 row.length 1 false)⟩ :: ⟨1, [.ms 2 1 0 adj.l.length 1 true]⟩ :: ⟨w, dcells row⟩ :: ⟨1, [dInt i]⟩ :: tl, pd⟩⟩ .normal ⟨fl [], ⟨⟨1, dcells inn⟩ :: ⟨1, [.ms 0 1 0 adj.l.length 1 true]⟩ :: ⟨1, (dcells outs).set i.toNat (.ms 4 (w + 1) 0 ((row ++ ([y] : List Int)).length) 1 false)⟩ :: ⟨1, [.ms 2 1 0 adj.l.length 1 true]⟩ :: ⟨(w + 1), dcells (row ++ ([y] : List Int))⟩ :: ⟨1, [dInt i]⟩ :: tl, pd⟩⟩ :=
  Sys.go [((15, 2), .ix), ((15, 3), .cell (.sc (.bool true))), ((16, 4), .ix), ((16, 5), .cellU (.ms 4 w 0 row.length 1 false)), ((16, 8), .appO (dcells (row ++ ([y] : List Int))) (row ++ ([y] : List Int)).length), ((16, 9), .ix), ((16, 10), .st ((dcells outs).set i.toNat (.ms 4 (w + 1) 0 ((row ++ ([y] : List Int)).length) 1 false)))] (And.intro (h1) (And.intro (And.intro (rfl : (1 : Nat) = 1) (dcell_at' 0 (c := .sc (.bool true)) rfl h2)) (And.intro (h3) (And.intro (And.intro (rfl : (1 : Nat) = 1) (lo_get (outs := outs) (d := .ms 4 w 0 row.length 1 false) hlt)) (And.intro (And.intro (rfl : (w : Nat) = w) (appO_ok row ([y] : List Int) (b := 8) (by decide) (List.cons_ne_nil _ _) h4)) (And.intro (h3) (And.intro (rfl : (1 : Nat) = 1) (lo_set (outs := outs) (d := .ms 4 w 0 row.length 1 false) (.ms 4 (w + 1) 0 ((row ++ ([y] : List Int)).length) 1 false) hlt)))))))) (by kernel_rfl)
theorem withRs_2 (pd : List Ex) (adj : Sl (Sl Int)) (i : Int) (inn : List Bool) (outs : List (Sl Int)) (f47 : DV) (y : Int) (tl : List Ob) (hlt : i.toNat < outs.length) (w : Nat) (row : List Int) (h1 : 0 ≤ y ∧ y < (adj.l.length : Int)) (h2 : inn[y.toNat]? = some false) : X.Go 19 78 [] (sub b19 [1, 1, 1, 1, 0, 1, 0, 0, 1, 1, 0, 0, 1, 1, 0, 1, 0, 2]) ⟨setPs (fun t => unflag (fl [(0, .c (eSl adj)), (5, .pt 1 1 0), (8, .pt 3 1 0), (9, .pt 5 1 0), (36, dInt (adj.l.length : Int)), (37, dInt i), (47, f47)] t)) [(48, dInt y)], ⟨⟨1, dcells inn⟩ :: ⟨1, [.ms 0 1 0 adj.l.length 1 true]⟩ :: ⟨1, (dcells outs).set i.toNat (.ms 4 w 0 row.length 1 false)⟩ :: ⟨1, [.ms 2 1 0 adj.l.length 1 true]⟩ :: ⟨w, dcells row⟩ :: ⟨1, [dInt i]⟩ :: tl, pd⟩⟩ .normal ⟨fl [(8, .pt 3 1 0), (9, .pt 5 1 0), (10, dInt y), (52, dB false)], ⟨⟨1, dcells inn⟩ :: ⟨1, [.ms 0 1 0 adj.l.length 1 true]⟩ :: ⟨1, (dcells outs).set i.toNat (.ms 4 w 0 row.length 1 false)⟩ :: ⟨1, [.ms 2 1 0 adj.l.length 1 true]⟩ :: ⟨w, dcells row⟩ :: ⟨1, [dInt i]⟩ :: tl, pd⟩⟩ :=
  Sys.go [((15, 2), .ix), ((15, 3), .cell (.sc (.bool false)))] (And.intro (h1) (And.intro (rfl : (1 : Nat) = 1) (dcell_at' 0 (c := .sc (.bool false)) rfl h2))) (by kernel_rfl)
theorem withM_1 (adj : Sl (Sl Int)) (ns : Sl Int) (inn : List Bool) (i : Int) (outs : List (Sl Int)) (v0 : Nat) (k : Int) (pd' : List Ex) (h1 : 1 * adj.l.length ≤ 281474976710656 ∧ adj.l.length ≤ 9223372036854775807) (h2 : X.Go 19 78 [] (sub b19 [1, 1, 0, 1, 0]) ⟨fl [(0, .c (eSl adj)), (5, .pt 1 1 0), (14, .c (eSl ns)), (15, dInt (ns.l.length : Int)), (16, dInt 0)], ⟨[⟨1, dcells (List.replicate adj.l.length (false : Bool))⟩, ⟨1, [.ms 0 1 0 adj.l.length 1 true]⟩], []⟩⟩ (.exit 0) ⟨fl [(0, .c (eSl adj)), (5, .pt 1 1 0), (14, .c (eSl ns)), (15, dInt (ns.l.length : Int)), (16, dInt i), (17, dB false)], ⟨[⟨1, dcells inn⟩, ⟨1, [.ms 0 1 0 adj.l.length 1 true]⟩], []⟩⟩) (h3 : 24 * adj.l.length ≤ 281474976710656 ∧ adj.l.length ≤ 9223372036854775807) (h4 : X.Go 19 78 [] (sub b19 [1, 1, 1, 1, 0, 1, 0]) ⟨fl [(0, .c (eSl adj)), (5, .pt 1 1 0), (8, .pt 3 1 0), (36, dInt (adj.l.length : Int)), (37, dInt 0)], ⟨[⟨1, dcells inn⟩, ⟨1, [.ms 0 1 0 adj.l.length 1 true]⟩, ⟨1, dcells (List.replicate adj.l.length (Sl.nil : Sl Int))⟩, ⟨1, [.ms 2 1 0 adj.l.length 1 true]⟩, ⟨0, []⟩], []⟩⟩ (.exit 2) ⟨fl [(0, .c (eSl adj)), (5, .pt 1 1 0), (8, .pt 3 1 0), (36, dInt (adj.l.length : Int)), (37, dInt k), (38, dB false)], ⟨[⟨1, dcells inn⟩, ⟨1, [.ms 0 1 0 adj.l.length 1 true]⟩, ⟨1, dcells outs⟩, ⟨1, [.ms 2 1 0 adj.l.length 1 true]⟩, ⟨v0, []⟩], pd'⟩⟩) (hn : outs.length = adj.l.length) : X.RunsC 19 [.c (eSl adj), .c (eSl ns)] (.c (.sl false true (cells outs) outs.length)) :=
  Sys.callC (Sys.call (X := X) (args := [.c (eSl adj), .c (eSl ns)]) (m := ⟨[], []⟩) (d := .ms 2 1 0 adj.l.length 1 true) (m' := ⟨[⟨1, dcells inn⟩, ⟨1, [.ms 0 1 0 adj.l.length 1 true]⟩, ⟨1, dcells outs⟩, ⟨1, [.ms 2 1 0 adj.l.length 1 true]⟩, ⟨v0, []⟩], pd'⟩) (Sys.go (f := 19) (nt := 78) (Γ := []) (c := b19) (s := ⟨argFr [.c (eSl adj), .c (eSl ns)], ⟨[], []⟩⟩) (ex := .ret) (s' := ⟨fl [(4, .ms 2 1 0 adj.l.length 1 true)], ⟨[⟨1, dcells inn⟩, ⟨1, [.ms 0 1 0 adj.l.length 1 true]⟩, ⟨1, dcells outs⟩, ⟨1, [.ms 2 1 0 adj.l.length 1 true]⟩, ⟨v0, []⟩], pd'⟩⟩) [((1, 2), .mk (dcells (List.replicate adj.l.length (false : Bool))) true), ((3, 1000), .code (.exit 0) ⟨fl [(0, .c (eSl adj)), (5, .pt 1 1 0), (14, .c (eSl ns)), (15, dInt (ns.l.length : Int)), (16, dInt i), (17, dB false)], ⟨[⟨1, dcells inn⟩, ⟨1, [.ms 0 1 0 adj.l.length 1 true]⟩], []⟩⟩), ((8, 2), .mk (dcells (List.replicate adj.l.length (Sl.nil : Sl Int))) true), ((10, 1000), .code (.exit 2) ⟨fl [(0, .c (eSl adj)), (5, .pt 1 1 0), (8, .pt 3 1 0), (36, dInt (adj.l.length : Int)), (37, dInt k), (38, dB false)], ⟨[⟨1, dcells inn⟩, ⟨1, [.ms 0 1 0 adj.l.length 1 true]⟩, ⟨1, dcells outs⟩, ⟨1, [.ms 2 1 0 adj.l.length 1 true]⟩, ⟨v0, []⟩], pd'⟩⟩)] (And.intro (mk_ok (false : Bool) h1) (And.intro (h2) (And.intro (mk_ok (Sl.nil : Sl Int) h3) (h4)))) (by kernel_rfl)) (fn := Try.f19) (by kernel_rfl) (by kernel_rfl) rfl (by kernel_rfl) rfl) (closeTop_msn (o := ⟨1, dcells outs⟩) (r := []) hn (getO_of rfl rfl) (List.append_nil _).symm rfl)
end Go.Proofs.Ytclnpjnodmfkcaa

set_option linter.unusedVariables false
set_option linter.unusedSimpArgs false
set_option maxRecDepth 10000
namespace Go.Proofs.Ytclnpjnodmfkcaa
open Go Go.Abs Go.Proofs Go.Proofs.Scc

/-! ### plain: the chosen of the numbers below n -/
def selN (p : Int → Bool) : Nat → List Int
  | 0 => []
  | n + 1 => selN p n ++ if p n then [(n : Int)] else []
theorem selN_len (p : Int → Bool) : ∀ n, (selN p n).length ≤ n
  | 0 => Nat.le_refl _
  | n + 1 => by
    have := selN_len p n
    simp only [selN, List.length_append]
    split <;> simp <;> omega
theorem selN_mem (p : Int → Bool) : ∀ (n : Nat) (x : Int), x ∈ selN p n ↔ 0 ≤ x ∧ x < n ∧ p x = true
  | 0, x => by
    constructor
    · intro h; simp [selN] at h
    · rintro ⟨h1, h2, _⟩
      have h3 : x < 0 := h2
      omega
  | n + 1, x => by
    rw [selN, List.mem_append, selN_mem p n x]
    by_cases hx : x = n
    · subst hx
      by_cases hp : p n <;> simp [hp] <;> omega
    · have : x ∉ (if p n then [(n : Int)] else []) := by split <;> simp [hx]
      simp only [this, or_false]
      constructor
      · rintro ⟨h1, h2, h3⟩; exact ⟨h1, by omega, h3⟩
      · rintro ⟨h1, h2, h3⟩; exact ⟨h1, by omega, h3⟩
theorem selN_rising (p : Int → Bool) : ∀ n, (selN p n).Pairwise (· < ·)
  | 0 => .nil
  | n + 1 => by
    rw [selN, List.pairwise_append]
    refine ⟨selN_rising p n, by split <;> simp, fun a ha b hb => ?_⟩
    have h1 := ((selN_mem p n a).1 ha).2.1
    split at hb
    · simp at hb; omega
    · simp at hb
theorem dedup_mem : ∀ (l : List Int) (x : Int), x ∈ dedup l ↔ x ∈ l
  | [], x => Iff.rfl
  | [y], x => Iff.rfl
  | y :: z :: l, x => by
    have ih := dedup_mem (z :: l) x
    simp only [dedup]
    split
    · rename_i h
      subst h
      rw [ih]; simp
    · rw [List.mem_cons, ih, List.mem_cons (l := z :: l)]
theorem dedup_rising : ∀ {l : List Int}, l.Pairwise (· ≤ ·) → (dedup l).Pairwise (· < ·)
  | [], _ => .nil
  | [y], _ => by simp [dedup]
  | y :: z :: l, h => by
    rw [List.pairwise_cons] at h
    have ih := dedup_rising (l := z :: l) h.2
    simp only [dedup]
    split
    · exact ih
    · rename_i hne
      rw [List.pairwise_cons]
      refine ⟨fun x hx => ?_, ih⟩
      rw [dedup_mem] at hx
      have h1 := h.1 z (by simp)
      rcases List.mem_cons.1 hx with rfl | hx
      · omega
      · have := (List.pairwise_cons.1 h.2).1 x hx; omega

def rowOf (A : Adj) (i : Nat) : List Int := ((A[i]?).map (·.l)).getD []
theorem rowOf_eq {A : Adj} {i : Nat} {row : Sl Int} (h : A[i]? = some row) : rowOf A i = row.l := by simp [rowOf, h]
/-- A node's row within some nodes. -/
def wRow (A : Adj) (ns : List Int) (i : Nat) : List Int := if (i : Int) ∈ ns then selN (fun k => decide (k ∈ ns) && decide (k ∈ rowOf A i)) A.length else []
def wRows (A : Adj) (ns : List Int) : List (List Int) := (List.range A.length).map (wRow A ns)

theorem has_runs (ns : Sl Int) (x : Int) (hl : ns.l.length ≤ 1000000) : X.RunsC 34 [.c (eSl ns), dInt x] (dB (decide (x ∈ ns.l))) := by
  obtain ⟨ex, s', hg, _, hq⟩ := Sys.loop_go (X := X) (f := 34) (nt := 18) (Γ := []) (a := sub b34 [1, 0, 1, 0, 0]) (m := 0)
    (fun i : Nat => ⟨fl [(0, .c (eSl ns)), (1, dInt x), (5, dInt i)], ⟨[], []⟩⟩)
    (fun i => i ≤ ns.l.length ∧ ∀ j, j < i → ns.l[j]? ≠ some x) (fun i => ns.l.length - i)
    (fun ex s' => (ex = .ret ∧ s' = ⟨fl [(4, dB true)], ⟨[], []⟩⟩ ∧ x ∈ ns.l) ∨ (∃ j : Int, ex = .exit 0 ∧ s' = ⟨fl [(0, .c (eSl ns)), (1, dInt x), (5, dInt j), (9, dB false)], ⟨[], []⟩⟩ ∧ x ∉ ns.l))
    (by
      intro i ⟨hi, hr⟩
      by_cases h1 : (i : Int) < (ns.l.length : Int)
      · obtain ⟨y, hy⟩ := get_nat h1
        have hy' : ns.l[i]? = some y := by simpa using hy
        by_cases hyx : y = x
        · exact .inr ⟨_, _, hasB_1 ns x i y h1 (by omega) hy hyx, by simp, .inl ⟨rfl, rfl, hyx ▸ List.mem_of_getElem? hy'⟩⟩
        · refine .inl ⟨_, i + 1, hasB_2 ns x i y h1 (by omega) hy hyx (by omega), rfl, ⟨by omega, fun j hj => ?_⟩, by omega⟩
          by_cases hji : j = i
          · subst hji; rw [hy']; simpa using hyx
          · exact hr j (by omega)
      · refine .inr ⟨_, _, hasB_3 ns x i h1, by simp, .inr ⟨i, rfl, rfl, fun hm => ?_⟩⟩
        obtain ⟨j, hj, he⟩ := List.getElem_of_mem hm
        exact hr j (by omega) (by rw [List.getElem?_eq_getElem hj, he]))
    0 ⟨by omega, by simp⟩ rfl
  rcases hq with ⟨rfl, rfl, hm⟩ | ⟨j, rfl, rfl, hm⟩
  · simp only [hm, decide_true]; exact hasM_1 ns x hg
  · simp only [hm, decide_false]; exact hasM_2 ns x j hg

theorem rsame_runs (a b : Sl (Sl Int)) (ha : a.l.length ≤ 1000000) (hr : ∀ r ∈ a.l, r.l.length ≤ 1000000) : X.RunsC 16 [.c (eSl a), .c (eSl b)] (dB (decide (a.l.map (·.l) = b.l.map (·.l)))) := by
  by_cases hl : (a.l.length : Int) = (b.l.length : Int)
  · obtain ⟨ex, s', hg, _, hq⟩ := Sys.loop_go (X := X) (f := 16) (nt := 53) (Γ := []) (a := sub b16 [1, 1, 0, 1, 0, 0]) (m := 0)
      (fun i : Nat => ⟨fl [(0, .c (eSl a)), (1, .c (eSl b)), (5, dInt i)], ⟨[], []⟩⟩)
      (fun i => i ≤ a.l.length ∧ ∀ j, j < i → (a.l[j]?).map (·.l) = (b.l[j]?).map (·.l)) (fun i => a.l.length - i)
      (fun ex s' => (ex = .ret ∧ s' = ⟨fl [(4, dB false)], ⟨[], []⟩⟩ ∧ a.l.map (·.l) ≠ b.l.map (·.l)) ∨ (∃ j : Int, ex = .exit 0 ∧ s' = ⟨fl [(0, .c (eSl a)), (1, .c (eSl b)), (5, dInt j), (15, dB false)], ⟨[], []⟩⟩ ∧ a.l.map (·.l) = b.l.map (·.l)))
      (by
        intro i ⟨hi, hpre⟩
        by_cases h1 : (i : Int) < (a.l.length : Int)
        · obtain ⟨x, hx⟩ := get_nat h1
          obtain ⟨y, hy⟩ := get_nat (l := b.l) (i := i) (by omega)
          have hx' : a.l[i]? = some x := by simpa using hx
          have hy' : b.l[i]? = some y := by simpa using hy
          have hxl : x.l.length ≤ 1000000 := hr x (List.mem_of_getElem? hx')
          have hne : x.l ≠ y.l → a.l.map (·.l) ≠ b.l.map (·.l) := fun h he => by
            have := congrArg (fun l => l[i]?) he
            simp only [List.getElem?_map, hx', hy', Option.map_some, Option.some.injEq] at this
            exact h this
          by_cases h6 : (x.l.length : Int) ≠ (y.l.length : Int)
          · exact .inr ⟨_, _, rsameB_1 a b i x y h1 (by omega) hx (by omega) hy h6, by simp, .inl ⟨rfl, rfl, hne fun h => h6 (by rw [h])⟩⟩
          · obtain ⟨ex, s1, hg, _, hq⟩ := Sys.loop_go (X := X) (f := 16) (nt := 53) (Γ := []) (a := sub b16 [1, 1, 0, 1, 0, 0, 1, 0, 0, 1, 1, 0, 0]) (m := 0)
              (fun k : Nat => ⟨fl [(0, .c (eSl a)), (1, .c (eSl b)), (5, dInt i), (6, dInt k)], ⟨[], []⟩⟩)
              (fun k => k ≤ x.l.length ∧ ∀ j, j < k → x.l[j]? = y.l[j]?) (fun k => x.l.length - k)
              (fun ex s' => (ex = .ret ∧ s' = ⟨fl [(4, dB false)], ⟨[], []⟩⟩ ∧ x.l ≠ y.l) ∨ (∃ j : Int, ex = .exit 2 ∧ s' = ⟨fl [(0, .c (eSl a)), (1, .c (eSl b)), (5, dInt i), (6, dInt j), (35, dB false)], ⟨[], []⟩⟩ ∧ x.l = y.l))
              (by
                intro k ⟨hk, hpre⟩
                by_cases h3 : (k : Int) < (x.l.length : Int)
                · obtain ⟨u, hu⟩ := get_nat h3
                  obtain ⟨v, hv⟩ := get_nat (l := y.l) (i := k) (by omega)
                  by_cases huv : u ≠ v
                  · refine .inr ⟨_, _, rsameC_1 a b i k x u y v (by omega) hx h3 (by omega) hu (by omega) hy (by omega) hv huv, by simp, .inl ⟨rfl, rfl, fun he => ?_⟩⟩
                    rw [he, hv] at hu; cases hu; exact huv rfl
                  · refine .inl ⟨_, k + 1, rsameC_2 a b i k x u y v (by omega) hx h3 (by omega) hu (by omega) hy (by omega) hv huv (by omega), rfl, ⟨by omega, fun j hj => ?_⟩, by omega⟩
                    by_cases hjk : j = k
                    · subst hjk
                      simp only [Int.toNat_natCast] at hu hv
                      rw [hu, hv]; simp at huv; rw [huv]
                    · exact hpre j (by omega)
                · refine .inr ⟨_, _, rsameC_3 a b i k x (by omega) hx h3, by simp, .inr ⟨k, rfl, rfl, ?_⟩⟩
                  refine List.ext_getElem? fun j => ?_
                  by_cases hj : j < x.l.length
                  · exact hpre j (by omega)
                  · rw [List.getElem?_eq_none (by omega), List.getElem?_eq_none (by omega)])
              0 ⟨by omega, by simp⟩ rfl
            rcases hq with ⟨rfl, rfl, hn⟩ | ⟨j, rfl, rfl, he⟩
            · exact .inr ⟨_, _, rsameB_2 a b i x y h1 (by omega) hx (by omega) hy h6 hg, by simp, .inl ⟨rfl, rfl, hne hn⟩⟩
            · refine .inl ⟨_, i + 1, rsameB_3 a b i x y j h1 (by omega) hx (by omega) hy h6 hg (by omega), rfl, ⟨by omega, fun j hj => ?_⟩, by omega⟩
              by_cases hji : j = i
              · subst hji; rw [hx', hy']; simp [he]
              · exact hpre j (by omega)
        · refine .inr ⟨_, _, rsameB_4 a b i h1, by simp, .inr ⟨i, rfl, rfl, ?_⟩⟩
          refine List.ext_getElem? fun j => ?_
          rw [List.getElem?_map, List.getElem?_map]
          by_cases hj : j < a.l.length
          · exact hpre j (by omega)
          · rw [List.getElem?_eq_none (by omega), List.getElem?_eq_none (by omega)])
      0 ⟨by omega, by simp⟩ rfl
    rcases hq with ⟨rfl, rfl, hne⟩ | ⟨j, rfl, rfl, he⟩
    · simp only [hne, decide_false]
      exact rsameM_2 a b (by simp [hl]) hg
    · simp only [he, decide_true]
      exact rsameM_3 a b j (by simp [hl]) hg
  · have hne : a.l.map (·.l) ≠ b.l.map (·.l) := fun h => hl (by have := congrArg List.length h; simp at this; omega)
    simp only [hne, decide_false]
    exact rsameM_1 a b hl

theorem rwith_runs (adj : Sl (Sl Int)) (ns : Sl Int) (hs : adj.l.length ≤ 1000000) (hn : ns.l.length ≤ 1000000) (hr : ∀ r ∈ adj.l, r.l.length ≤ 1000000) :
    ∃ s : Sl (Sl Int), X.RunsC 20 [.c (eSl adj), .c (eSl ns)] (.c (eSl s)) ∧ s.l.map (·.l) = wRows adj.l ns.l := by
  obtain ⟨ex, s', hg, _, i, rows, rfl, rfl, hlen, hrows⟩ := Sys.loop_go (X := X) (f := 20) (nt := 49) (Γ := []) (a := sub b20 [1, 1, 0, 1, 0, 0]) (m := 1)
    (fun σ : Nat × List (List Int) => ⟨fl [(0, .c (eSl adj)), (1, .c (eSl ns)), (5, .ms 0 1 0 adj.l.length 1 true), (6, dInt σ.1)], ⟨[⟨1, σ.2.map apv⟩], []⟩⟩)
    (fun σ => σ.1 ≤ adj.l.length ∧ σ.2.length = adj.l.length ∧ ∀ j, j < adj.l.length → σ.2[j]? = some (if j < σ.1 then wRow adj.l ns.l j else [])) (fun σ => adj.l.length - σ.1)
    (fun ex s' => ∃ (i : Int) (rows : List (List Int)), ex = .exit 0 ∧ s' = ⟨fl [(0, .c (eSl adj)), (1, .c (eSl ns)), (5, .ms 0 1 0 adj.l.length 1 true), (6, dInt i), (14, dB false)], ⟨[⟨1, rows.map apv⟩], []⟩⟩ ∧
      rows.length = adj.l.length ∧ ∀ j, j < adj.l.length → rows[j]? = some (wRow adj.l ns.l j))
    (by
      rintro ⟨i, rows⟩ ⟨hi, hlen, hrows⟩
      simp only at hi hlen hrows
      by_cases h1 : (i : Int) < (adj.l.length : Int)
      · have hhas := has_runs ns i hn
        by_cases hin : (i : Int) ∈ ns.l
        · simp only [hin, decide_true] at hhas
          obtain ⟨row, hrow⟩ := get_nat h1
          have hrow' : adj.l[i]? = some row := by simpa using hrow
          have hrl := hr row (List.mem_of_getElem? hrow')
          let p : Int → Bool := fun k => decide (k ∈ ns.l) && decide (k ∈ rowOf adj.l i)
          obtain ⟨ex, s1, hg, _, k, rows1, rfl, rfl, hlen1, hrows1⟩ := Sys.loop_go (X := X) (f := 20) (nt := 49) (Γ := []) (a := sub b20 [1, 1, 0, 1, 0, 0, 1, 0, 0, 1, 1, 0, 0]) (m := 1)
            (fun σ : Nat × List (List Int) => ⟨fl [(0, .c (eSl adj)), (1, .c (eSl ns)), (5, .ms 0 1 0 adj.l.length 1 true), (6, dInt i), (7, dInt σ.1)], ⟨[⟨1, σ.2.map apv⟩], []⟩⟩)
            (fun σ => σ.1 ≤ adj.l.length ∧ σ.2.length = adj.l.length ∧ ∀ j, j < adj.l.length → σ.2[j]? = some (if j = i then selN p σ.1 else if j < i then wRow adj.l ns.l j else [])) (fun σ => adj.l.length - σ.1)
            (fun ex s' => ∃ (k : Int) (rows : List (List Int)), ex = .exit 2 ∧ s' = ⟨fl [(0, .c (eSl adj)), (1, .c (eSl ns)), (5, .ms 0 1 0 adj.l.length 1 true), (6, dInt i), (7, dInt k), (24, dB false)], ⟨[⟨1, rows.map apv⟩], []⟩⟩ ∧
              rows.length = adj.l.length ∧ ∀ j, j < adj.l.length → rows[j]? = some (if j = i then selN p adj.l.length else if j < i then wRow adj.l ns.l j else []))
            (by
              rintro ⟨k, rows⟩ ⟨hk, hlen, hrows⟩
              simp only at hk hlen hrows
              by_cases h1 : (k : Int) < (adj.l.length : Int)
              · have hk' := has_runs ns k hn
                have hkr := has_runs row k hrl
                have hri := hrows i (by omega)
                simp only [if_true] at hri
                have hri' : rows[(i : Int).toNat]? = some (selN p k) := by simpa using hri
                have hsl := selN_len p k
                have hpk : p k = (decide ((k : Int) ∈ ns.l) && decide ((k : Int) ∈ row.l)) := by simp only [p, rowOf_eq hrow']
                have upd : ∀ rows', rows' = rows.set i (selN p (k + 1)) → rows'.length = adj.l.length ∧ ∀ j, j < adj.l.length → rows'[j]? = some (if j = i then selN p (k + 1) else if j < i then wRow adj.l ns.l j else []) := fun rows' he => by
                  subst he
                  refine ⟨by simpa using hlen, fun j hj => ?_⟩
                  rw [List.getElem?_set]
                  by_cases hji : j = i
                  · subst hji; simp [hlen, hj]
                  · rw [if_neg (Ne.symm hji), hrows j hj, if_neg hji, if_neg hji]
                have same : selN p (k + 1) = selN p k → rows = rows.set i (selN p (k + 1)) := fun he => by
                  refine List.ext_getElem? fun j => ?_
                  rw [List.getElem?_set]
                  split
                  · rename_i hij; subst hij
                    rw [if_pos (by omega), hri, he]
                  · rfl
                by_cases hkn : (k : Int) ∈ ns.l
                · simp only [hkn, decide_true] at hk'
                  by_cases hkrow : (k : Int) ∈ row.l
                  · simp only [hkrow, decide_true] at hkr
                    have hsel : selN p (k + 1) = selN p k ++ [(k : Int)] := by simp [selN, hpk, hkn, hkrow]
                    by_cases hnil : selN p k = []
                    · rw [hnil] at hri' hsel
                      obtain ⟨u1, u2⟩ := upd (rows.set (i : Int).toNat [(k : Int)]) (by rw [hsel]; simp)
                      exact .inl ⟨_, (k + 1, rows.set (i : Int).toNat [(k : Int)]), rwithC_1 adj ns i k rows row h1 hk' (by omega) hrow hkr hri' (by omega), rfl, ⟨by simp only; omega, u1, u2⟩, by simp only; omega⟩
                    · obtain ⟨u1, u2⟩ := upd (rows.set (i : Int).toNat (selN p k ++ [(k : Int)])) (by rw [hsel]; simp)
                      exact .inl ⟨_, (k + 1, rows.set (i : Int).toNat (selN p k ++ [(k : Int)])), rwithC_2 adj ns i k rows row (selN p k) h1 hk' (by omega) hrow hkr hri' hnil (by simp only [List.length_append, List.length_singleton]; omega) (by omega), rfl, ⟨by simp only; omega, u1, u2⟩, by simp only; omega⟩
                  · simp only [hkrow, decide_false] at hkr
                    have hsel : selN p (k + 1) = selN p k := by simp [selN, hpk, hkrow]
                    obtain ⟨u1, u2⟩ := upd rows (same hsel)
                    exact .inl ⟨_, (k + 1, rows), rwithC_3 adj ns i k rows row h1 hk' (by omega) hrow hkr (by omega), rfl, ⟨by simp only; omega, u1, u2⟩, by simp only; omega⟩
                · simp only [hkn, decide_false] at hk'
                  have hsel : selN p (k + 1) = selN p k := by simp [selN, hpk, hkn]
                  obtain ⟨u1, u2⟩ := upd rows (same hsel)
                  exact .inl ⟨_, (k + 1, rows), rwithC_4 adj ns i k rows h1 hk' (by omega), rfl, ⟨by simp only; omega, u1, u2⟩, by simp only; omega⟩
              · have hk2 : k = adj.l.length := by omega
                subst hk2
                exact .inr ⟨_, _, rwithC_5 adj ns i _ rows h1, by simp, _, rows, rfl, rfl, hlen, hrows⟩)
            (0, rows) ⟨by simp, hlen, fun j hj => by
              rw [hrows j hj]
              by_cases hji : j = i
              · subst hji; simp [selN]
              · simp [hji]⟩ rfl
          refine .inl ⟨_, (i + 1, rows1), rwithB_1 adj ns i rows rows1 k h1 hhas hg (by omega), rfl, ⟨by simp only; omega, hlen1, fun j hj => ?_⟩, by simp only; omega⟩
          simp only
          rw [hrows1 j hj]
          by_cases hji : j = i
          · subst hji
            rw [if_pos rfl, if_pos (by omega)]
            simp only [wRow, hin, if_true]
            rfl
          · rw [if_neg hji]
            by_cases hlt : j < i
            · rw [if_pos hlt, if_pos (by omega)]
            · rw [if_neg hlt, if_neg (by omega)]
        · simp only [hin, decide_false] at hhas
          refine .inl ⟨_, (i + 1, rows), rwithB_2 adj ns i rows h1 hhas (by omega), rfl, ⟨by simp only; omega, hlen, fun j hj => ?_⟩, by simp only; omega⟩
          simp only
          rw [hrows j hj]
          by_cases hji : j = i
          · subst hji
            rw [if_neg (by omega), if_pos (by omega)]
            simp [wRow, hin]
          · by_cases hlt : j < i
            · rw [if_pos hlt, if_pos (by omega)]
            · rw [if_neg hlt, if_neg (by omega)]
      · refine .inr ⟨_, _, rwithB_3 adj ns i rows h1, by simp, i, rows, rfl, rfl, hlen, fun j hj => ?_⟩
        rw [hrows j hj, if_pos (by omega)])
    (0, List.replicate adj.l.length []) ⟨by simp, by simp, fun j hj => by simp [List.getElem?_replicate, hj]⟩ rfl
  refine ⟨Sl.of true (rows.map apc), rwithM_1 adj ns rows i (by omega) hg hlen, ?_⟩
  show (rows.map apc).map (·.l) = wRows adj.l ns.l
  refine List.ext_getElem? fun j => ?_
  simp only [List.map_map, List.getElem?_map, wRows]
  by_cases hj : j < adj.l.length
  · rw [hrows j hj, List.getElem?_range hj]
    simp [apc_l]
  · rw [List.getElem?_eq_none (by omega), List.getElem?_eq_none (by simp; omega)]
    rfl

/-- The store of Within in a round. -/
abbrev wst (adj : Sl (Sl Int)) (i : Int) (inn : List Bool) (outs : List (Sl Int)) (d : DV) (o4 : Ob) (tl : List Ob) : List Ob :=
  ⟨1, dcells inn⟩ :: ⟨1, [.ms 0 1 0 adj.l.length 1 true]⟩ :: ⟨1, (dcells outs).set i.toNat d⟩ :: ⟨1, [.ms 2 1 0 adj.l.length 1 true]⟩ :: o4 :: ⟨1, [dInt i]⟩ :: tl
abbrev wfr (adj : Sl (Sl Int)) (i : Int) : Nat → DV := fl [(0, .c (eSl adj)), (5, .pt 1 1 0), (8, .pt 3 1 0), (9, .pt 5 1 0), (36, dInt (adj.l.length : Int)), (37, dInt i), (47, .fn 35 [] [.pt 6 1 0, .pt 7 1 0])]
abbrev wp19 : List Nat := [1, 1, 1, 1, 0, 1, 0, 0, 1, 1, 0, 0, 1, 1, 0, 1, 0]
theorem at19 : sub b19 wp19 = .rangeFunc (.tmp 47) #[48] (sub b19 (wp19 ++ [0])) (sub b19 (wp19 ++ [1])) := by kernel_rfl

theorem within_range (pd : List Ex) (adj : Sl (Sl Int)) (hs : adj.l.length ≤ 1000000) (i : Nat) (hi : i < adj.l.length) (row : Sl Int) (hrow : adj.l[i]? = some row) (hrl : row.l.length ≤ 1000000) (inn : List Bool) (hinn : inn.length = adj.l.length) (outs : List (Sl Int)) (houts : outs.length = adj.l.length) (hnil : outs[i]? = some Sl.nil) (v0 : Nat) :
    ∃ (pd' : List Ex) (l : List Int), l = row.l.filter (fun y => decide (0 ≤ y) && (inn[y.toNat]? == some true)) ∧
      ((l = [] ∧ ∃ w, X.Go 19 78 [] (sub b19 wp19) ⟨wfr adj i, ⟨[⟨1, dcells inn⟩, ⟨1, [.ms 0 1 0 adj.l.length 1 true]⟩, ⟨1, dcells outs⟩, ⟨1, [.ms 2 1 0 adj.l.length 1 true]⟩, ⟨v0, []⟩, ⟨1, [dInt i]⟩, ⟨1, [.c (eSl adj)]⟩, ⟨1, [dInt i]⟩], pd⟩⟩ .normal
          ⟨wfr adj i, ⟨wst adj i inn outs (.c (.sl true true [] 0)) ⟨w, []⟩ [⟨1, [.c (eSl adj)]⟩, ⟨1, [dInt i]⟩], pd'⟩⟩) ∨
       (l ≠ [] ∧ ∃ w, X.Go 19 78 [] (sub b19 wp19) ⟨wfr adj i, ⟨[⟨1, dcells inn⟩, ⟨1, [.ms 0 1 0 adj.l.length 1 true]⟩, ⟨1, dcells outs⟩, ⟨1, [.ms 2 1 0 adj.l.length 1 true]⟩, ⟨v0, []⟩, ⟨1, [dInt i]⟩, ⟨1, [.c (eSl adj)]⟩, ⟨1, [dInt i]⟩], pd⟩⟩ .normal
          ⟨wfr adj i, ⟨wst adj i inn outs (.ms 4 w 0 l.length 1 false) ⟨w, dcells l⟩ [⟨1, [.c (eSl adj)]⟩, ⟨1, [dInt i]⟩], pd'⟩⟩)) := by
  let q : Int → Bool := fun y => decide (0 ≤ y) && (inn[y.toNat]? == some true)
  have hlt : (i : Int).toNat < outs.length := by simp; omega
  have hnod : ∀ y, q y = true → Nod adj.l y := fun y hy => by
    simp only [q, Bool.and_eq_true, decide_eq_true_eq, beq_iff_eq] at hy
    have := (List.getElem?_eq_some_iff.1 hy.2).1
    exact ⟨hy.1, by omega⟩
  obtain ⟨m', hruns, l, hl, hm⟩ := arcs_range (adj := adj) (fr := (i : Int)) ⟨by omega, by omega⟩ (by simpa using hrow) hrl ((pd.length, rctx 19 78 (wfr adj i) #[48] (sub b19 (wp19 ++ [0])) (sub b19 (wp19 ++ [1]))) :: []) pd.length 6 1 7 1
    (fun k m => ∃ l : List Int, l = (row.l.take k).filter q ∧ ((l = [] ∧ ∃ w, m = ⟨wst adj i inn outs (.c (.sl true true [] 0)) ⟨w, []⟩ [⟨1, [.c (eSl adj)]⟩, ⟨1, [dInt i]⟩], pd ++ [Ex.normal]⟩) ∨
      (l ≠ [] ∧ ∃ w, m = ⟨wst adj i inn outs (.ms 4 w 0 l.length 1 false) ⟨w, dcells l⟩ [⟨1, [.c (eSl adj)]⟩, ⟨1, [dInt i]⟩], pd ++ [Ex.normal]⟩)))
    (by rintro k m ⟨l, _, ⟨_, w, rfl⟩ | ⟨_, w, rfl⟩⟩ <;> rfl)
    (by
      rintro k m y ⟨l, hl, hm⟩ hy hny
      have hlen : l.length ≤ 1000000 := by
        have h1 := List.length_filter_le q (row.l.take k)
        rw [← hl, List.length_take] at h1; omega
      have htk : (row.l.take (k + 1)).filter q = l ++ if q y then [y] else [] := by
        rw [List.take_add_one, hy, List.filter_append, ← hl]
        by_cases hq : q y <;> simp [hq]
      obtain ⟨b, hb⟩ := get_int (l := inn) (i := y) (by rw [hinn]; exact hny)
      have hqy : q y = b := by
        simp only [q, hb, hny.1, decide_true, Bool.true_and]
        cases b <;> rfl
      have mk : ∀ {st st' : List Ob} {fr' : Nat → DV}, X.Go 19 78 [] (.seq (sub b19 (wp19 ++ [0])) (sub b19 (wp19 ++ [1]))) ⟨setPs (fun t => unflag (wfr adj i t)) [(48, dInt y)], ⟨st, pd ++ [.normal]⟩⟩ .normal ⟨fr', ⟨st', pd ++ [.normal]⟩⟩ →
          X.Round ((pd.length, rctx 19 78 (wfr adj i) #[48] (sub b19 (wp19 ++ [0])) (sub b19 (wp19 ++ [1]))) :: []) pd.length [dInt y] ⟨st, pd ++ [.normal]⟩ (dB true) ⟨st', pd ++ [.normal]⟩ := fun hgo => by
        have hrd := Sys.round1 (X := X) (Γ := []) (f := 19) (nt := 78) (ps := #[48]) (j := pd.length) (args := [dInt y]) (by simp) rfl (by simp) rfl (by kernel_rfl) hgo rfl
        rw [set_same (by simp)] at hrd
        exact hrd
      have hii : 0 ≤ (i : Int) ∧ (i : Int) < (adj.l.length : Int) := by omega
      rcases hm with ⟨h0, w, rfl⟩ | ⟨h0, w, rfl⟩
      · cases b with
        | true =>
          refine ⟨_, mk (withRn_1 (pd ++ [Ex.normal]) adj i inn outs (.fn 35 [] [.pt 6 1 0, .pt 7 1 0]) y [⟨1, [.c (eSl adj)]⟩, ⟨1, [dInt i]⟩] hlt w hny hb hii), [y], by rw [htk, h0, hqy]; rfl, .inr ⟨by simp, w + 1, rfl⟩⟩
        | false =>
          refine ⟨_, mk (withRn_2 (pd ++ [Ex.normal]) adj i inn outs (.fn 35 [] [.pt 6 1 0, .pt 7 1 0]) y [⟨1, [.c (eSl adj)]⟩, ⟨1, [dInt i]⟩] hlt w hny hb), [], by rw [htk, h0, hqy]; rfl, .inl ⟨rfl, w, rfl⟩⟩
      · cases b with
        | true =>
          refine ⟨_, mk (withRs_1 (pd ++ [Ex.normal]) adj i inn outs (.fn 35 [] [.pt 6 1 0, .pt 7 1 0]) y [⟨1, [.c (eSl adj)]⟩, ⟨1, [dInt i]⟩] hlt w l hny hb hii (by simp only [List.length_append, List.length_singleton]; omega)), l ++ [y], by rw [htk, hqy]; rfl, .inr ⟨by simp, w + 1, rfl⟩⟩
        | false =>
          refine ⟨_, mk (withRs_2 (pd ++ [Ex.normal]) adj i inn outs (.fn 35 [] [.pt 6 1 0, .pt 7 1 0]) y [⟨1, [.c (eSl adj)]⟩, ⟨1, [dInt i]⟩] hlt w l hny hb), l, by rw [htk, hqy]; simp, .inr ⟨h0, w, rfl⟩⟩)
    (by
      rintro k m y ⟨l, hl, hm⟩ hy hny
      refine ⟨l, ?_, hm⟩
      have hqy : q y = false := by
        cases h : q y with
        | false => rfl
        | true => exact absurd (hnod y h) hny
      rw [List.take_add_one, hy, List.filter_append, ← hl]
      simp [hqy])
    ⟨wst adj i inn outs (.c (.sl true true [] 0)) ⟨v0, []⟩ [⟨1, [.c (eSl adj)]⟩, ⟨1, [dInt i]⟩], pd ++ [Ex.normal]⟩ ⟨[], by simp, .inl ⟨rfl, v0, rfl⟩⟩ rfl
  rw [List.take_length] at hl
  have ho : dcells outs = (dcells outs).set (i : Int).toNat (.c (.sl true true [] 0)) := lo_open (s := Sl.nil) (by simpa using hnil)
  refine ⟨pd ++ [Ex.normal], l, hl, ?_⟩
  rcases hm with ⟨h0, w, rfl⟩ | ⟨h0, w, rfl⟩
  · refine .inl ⟨h0, w, ?_⟩
    rw [ho]
    exact Sys.range1 at19 rfl (by kernel_rfl) hruns (by simp) (by kernel_rfl)
  · refine .inr ⟨h0, w, ?_⟩
    rw [ho]
    exact Sys.range1 at19 rfl (by kernel_rfl) hruns (by simp) (by kernel_rfl)

theorem within_runs (adj : Sl (Sl Int)) (ns : Sl Int) (hs : adj.l.length ≤ 1000000) (hn : ns.l.length ≤ 1000000) (hr : ∀ r ∈ adj.l, r.l.length ≤ 1000000) :
    ∃ s : Sl (Sl Int), X.RunsC 19 [.c (eSl adj), .c (eSl ns)] (.c (eSl s)) ∧ s.l.map (·.l) = wRows adj.l ns.l := by
  obtain ⟨ex, s', hg, _, i, inn, rfl, rfl, hinn, hin⟩ := Sys.loop_go (X := X) (f := 19) (nt := 78) (Γ := []) (a := sub b19 [1, 1, 0, 1, 0, 0]) (m := 2)
    (fun σ : Nat × List Bool => ⟨fl [(0, .c (eSl adj)), (5, .pt 1 1 0), (14, .c (eSl ns)), (15, dInt (ns.l.length : Int)), (16, dInt σ.1)], ⟨[⟨1, dcells σ.2⟩, ⟨1, [.ms 0 1 0 adj.l.length 1 true]⟩], []⟩⟩)
    (fun σ => σ.1 ≤ ns.l.length ∧ σ.2.length = adj.l.length ∧ ∀ y, Nod adj.l y → (σ.2[y.toNat]? = some true ↔ y ∈ ns.l.take σ.1)) (fun σ => ns.l.length - σ.1)
    (fun ex s' => ∃ (i : Int) (inn : List Bool), ex = .exit 0 ∧ s' = ⟨fl [(0, .c (eSl adj)), (5, .pt 1 1 0), (14, .c (eSl ns)), (15, dInt (ns.l.length : Int)), (16, dInt i), (17, dB false)], ⟨[⟨1, dcells inn⟩, ⟨1, [.ms 0 1 0 adj.l.length 1 true]⟩], []⟩⟩ ∧
      inn.length = adj.l.length ∧ ∀ y, Nod adj.l y → (inn[y.toNat]? = some true ↔ y ∈ ns.l))
    (by
      rintro ⟨i, inn⟩ ⟨hi, hinn, hin⟩
      simp only at hi hinn hin
      by_cases h1 : (i : Int) < (ns.l.length : Int)
      · obtain ⟨v, hv⟩ := get_nat h1
        have hv' : ns.l[i]? = some v := by simpa using hv
        have htk : ns.l.take (i + 1) = ns.l.take i ++ [v] := by rw [List.take_add_one, hv']; rfl
        by_cases h4 : v ≥ 0
        · by_cases h5 : v < (adj.l.length : Int)
          · refine .inl ⟨_, (i + 1, inn.set v.toNat true), withA_1 adj ns i inn v h1 (by omega) hv h4 h5 ⟨h4, h5⟩ (by omega) (by omega), rfl, ⟨by simp only; omega, by simpa using hinn, fun y hy => ?_⟩, by simp only; omega⟩
            simp only
            rw [htk, List.mem_append, List.mem_singleton, List.getElem?_set]
            have hy2 := hy.2
            have hy1 := hy.1
            by_cases hyv : y = v
            · subst hyv
              rw [if_pos rfl, if_pos (by omega)]; simp
            · rw [if_neg (by omega), hin y hy]; simp [hyv]
          · refine .inl ⟨_, (i + 1, inn), withA_2 adj ns i inn v h1 (by omega) hv h4 h5 (by omega), rfl, ⟨by simp only; omega, hinn, fun y hy => ?_⟩, by simp only; omega⟩
            simp only
            rw [htk, List.mem_append, List.mem_singleton, hin y hy]
            have : y ≠ v := fun h => h5 (h ▸ hy.2)
            simp [this]
        · refine .inl ⟨_, (i + 1, inn), withA_3 adj ns i inn v h1 (by omega) hv h4 (by omega), rfl, ⟨by simp only; omega, hinn, fun y hy => ?_⟩, by simp only; omega⟩
          simp only
          rw [htk, List.mem_append, List.mem_singleton, hin y hy]
          have : y ≠ v := fun h => h4 (h ▸ hy.1)
          simp [this]
      · refine .inr ⟨_, _, withA_4 adj ns i inn h1, by simp, i, inn, rfl, rfl, hinn, fun y hy => ?_⟩
        rw [hin y hy, List.take_of_length_le (by omega)])
    (0, List.replicate adj.l.length false) ⟨by simp, by simp, fun y hy => by
      have h1 := hy.1
      have h2 := hy.2
      rw [List.getElem?_replicate, if_pos (by omega)]; simp⟩ rfl
  obtain ⟨ex, s', hg', _, outs, v0, k, pd', rfl, rfl, houts, hall⟩ := Sys.loop_go (X := X) (f := 19) (nt := 78) (Γ := []) (a := sub b19 [1, 1, 1, 1, 0, 1, 0, 0]) (m := 5)
    (fun σ : Nat × List (Sl Int) × Nat × List Ex => ⟨fl [(0, .c (eSl adj)), (5, .pt 1 1 0), (8, .pt 3 1 0), (36, dInt (adj.l.length : Int)), (37, dInt σ.1)], ⟨[⟨1, dcells inn⟩, ⟨1, [.ms 0 1 0 adj.l.length 1 true]⟩, ⟨1, dcells σ.2.1⟩, ⟨1, [.ms 2 1 0 adj.l.length 1 true]⟩, ⟨σ.2.2.1, []⟩], σ.2.2.2⟩⟩)
    (fun σ => σ.1 ≤ adj.l.length ∧ σ.2.1.length = adj.l.length ∧ ∀ j, j < adj.l.length → if j < σ.1 then ∃ s, σ.2.1[j]? = some s ∧ s.l = wRow adj.l ns.l j else σ.2.1[j]? = some Sl.nil) (fun σ => adj.l.length - σ.1)
    (fun ex s' => ∃ (outs : List (Sl Int)) (v0 : Nat) (k : Int) (pd : List Ex), ex = .exit 2 ∧ s' = ⟨fl [(0, .c (eSl adj)), (5, .pt 1 1 0), (8, .pt 3 1 0), (36, dInt (adj.l.length : Int)), (37, dInt k), (38, dB false)], ⟨[⟨1, dcells inn⟩, ⟨1, [.ms 0 1 0 adj.l.length 1 true]⟩, ⟨1, dcells outs⟩, ⟨1, [.ms 2 1 0 adj.l.length 1 true]⟩, ⟨v0, []⟩], pd⟩⟩ ∧
      outs.length = adj.l.length ∧ ∀ j, j < adj.l.length → ∃ s, outs[j]? = some s ∧ s.l = wRow adj.l ns.l j)
    (by
      rintro ⟨i, outs, v0, pd⟩ ⟨hi, houts, hall⟩
      simp only at hi houts hall
      by_cases h1 : (i : Int) < (adj.l.length : Int)
      · obtain ⟨row, hrow⟩ := get_nat h1
        have hrow' : adj.l[i]? = some row := by simpa using hrow
        have hrl := hr row (List.mem_of_getElem? hrow')
        have hni : Nod adj.l (i : Int) := ⟨by omega, h1⟩
        have step : ∀ (s : Sl Int), s.l = wRow adj.l ns.l i → (i + 1 ≤ adj.l.length ∧ (outs.set (i : Int).toNat s).length = adj.l.length ∧ ∀ j, j < adj.l.length → if j < i + 1 then ∃ s', (outs.set (i : Int).toNat s)[j]? = some s' ∧ s'.l = wRow adj.l ns.l j else (outs.set (i : Int).toNat s)[j]? = some Sl.nil) := fun s hsl => by
          refine ⟨by omega, by simpa using houts, fun j hj => ?_⟩
          simp only [Int.toNat_natCast, List.getElem?_set]
          by_cases hji : j = i
          · subst hji
            rw [if_pos (by omega), if_pos rfl, if_pos (by omega)]
            exact ⟨s, rfl, hsl⟩
          · rw [if_neg (Ne.symm hji)]
            have := hall j hj
            by_cases hlt : j < i
            · rw [if_pos hlt] at this; rw [if_pos (by omega)]; exact this
            · rw [if_neg hlt] at this; rw [if_neg (by omega)]; exact this
        obtain ⟨b, hb⟩ := get_int (l := inn) (i := (i : Int)) (by omega)
        have hnil := hall i (by omega)
        rw [if_neg (by omega)] at hnil
        cases b with
        | false =>
          have hnot : (i : Int) ∉ ns.l := fun h => by
            have := (hin i hni).2 h
            rw [hb] at this; cases this
          refine .inl ⟨_, (i + 1, outs, v0, pd), withBn_2 pd adj i inn outs v0 h1 (by omega) hb (by omega), withBn_cut2 pd adj i inn outs v0, ⟨by simp only; omega, houts, fun j hj => ?_⟩, by simp only; omega⟩
          have := hall j hj
          simp only
          by_cases hji : j = i
          · subst hji
            rw [if_pos (by omega)]
            exact ⟨Sl.nil, hnil, by simp [wRow, hnot, Sl.nil]⟩
          · by_cases hlt : j < i
            · rw [if_pos hlt] at this; rw [if_pos (by omega)]; exact this
            · rw [if_neg hlt] at this; rw [if_neg (by omega)]; exact this
        | true =>
          have hmem : (i : Int) ∈ ns.l := (hin i hni).1 hb
          obtain ⟨pd', l, hl, hcase⟩ := within_range (pd ++ []) adj hs i (by omega) row hrow' hrl inn hinn outs houts hnil v0
          have hmm : ∀ x, x ∈ l ↔ x ∈ wRow adj.l ns.l i := fun x => by
            rw [hl, List.mem_filter]
            simp only [wRow, hmem, if_true, selN_mem, Bool.and_eq_true, decide_eq_true_eq, beq_iff_eq, rowOf_eq hrow']
            constructor
            · rintro ⟨a1, a2, a3⟩
              have hlt := (List.getElem?_eq_some_iff.1 a3).1
              have hx : Nod adj.l x := ⟨a2, by omega⟩
              exact ⟨a2, hx.2, (hin x hx).1 a3, a1⟩
            · rintro ⟨a1, a2, a3, a4⟩
              exact ⟨a4, a1, (hin x ⟨a1, a2⟩).2 a3⟩
          have hrise : (wRow adj.l ns.l i).Pairwise (· < ·) := by
            simp only [wRow, hmem, if_true]; exact selN_rising _ _
          rcases hcase with ⟨h0, w, hgo⟩ | ⟨h0, w, hgo⟩
          · have hw0 : wRow adj.l ns.l i = [] := by
              refine List.eq_nil_iff_forall_not_mem.2 fun x hx => ?_
              have := (hmm x).2 hx
              rw [h0] at this; simp at this
            exact .inl ⟨_, (i + 1, outs.set (i : Int).toNat Sl.nil, w, pd'), withBn_1 pd adj i inn outs v0 pd' w h1 (by omega) hb (arcsM_1 adj i) (by simp; omega) hgo (by omega), withBn_cut1 pd adj i inn outs v0 pd' w, step Sl.nil (by rw [hw0]; rfl), by simp only; omega⟩
          · have hlen : l.length ≤ 1000000 := by
              have h1 := List.length_filter_le (fun y => decide (0 ≤ y) && (inn[y.toNat]? == some true)) row.l
              rw [← hl] at h1; omega
            have hil := isort_length l
            have hine : isort l ≠ [] := fun h => by rw [h] at hil; exact h0 (List.length_eq_zero_iff.1 hil.symm)
            have heq : dedup (isort l) = wRow adj.l ns.l i := rising_ext (dedup_rising (isort_sorted l)) hrise fun x => by rw [dedup_mem, (isort_perm l).mem_iff, hmm]
            exact .inl ⟨_, (i + 1, outs.set (i : Int).toNat (Sl.of false (dedup (isort l))), w + 1, pd'), withBs_1 pd adj i inn outs v0 pd' w l h1 (by omega) hb (arcsM_1 adj i) (by simp; omega) hgo ⟨h0, by omega⟩ ⟨hine, by omega⟩ hil (by omega), withBs_cut1 pd adj i inn outs v0 pd' w l, step _ heq, by simp only; omega⟩
      · refine .inr ⟨_, _, withBn_3 pd adj i inn outs v0 h1, by simp, outs, v0, i, pd, rfl, rfl, houts, fun j hj => ?_⟩
        have := hall j hj
        rw [if_pos (by omega)] at this
        exact this)
    (0, List.replicate adj.l.length Sl.nil, 0, []) ⟨by simp, by simp, fun j hj => by
      rw [if_neg (by simp)]
      simp [List.getElem?_replicate, hj]⟩ rfl
  refine ⟨Sl.of true outs, withM_1 adj ns inn i outs v0 k pd' (by omega) hg (by omega) hg' houts, ?_⟩
  show outs.map (·.l) = wRows adj.l ns.l
  refine List.ext_getElem? fun j => ?_
  simp only [List.getElem?_map, wRows]
  by_cases hj : j < adj.l.length
  · obtain ⟨s, h1, h2⟩ := hall j hj
    rw [h1, List.getElem?_range hj]
    simp [h2]
  · rw [List.getElem?_eq_none (by omega), List.getElem?_eq_none (by simp; omega)]
    rfl
end Go.Proofs.Ytclnpjnodmfkcaa
