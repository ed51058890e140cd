/-
  Part of the proof: printed by the session's own program out of the program's form, or typed; it states no claim by itself.
-/
import Derived.Test.YtclnpjnodmfkcaaAn
import Derived.Test.YtclnpjnodmfkcaaAbs30
set_option linter.unusedVariables false
set_option maxRecDepth 10000
namespace Go.Proofs.Ytclnpjnodmfkcaa
open Go Go.Abs Go.Proofs
noncomputable def b9 : Code := (Try.f9.body).getD .skip
noncomputable def b21 : Code := (Try.f21.body).getD .skip
noncomputable def b11 : Code := (Try.f11.body).getD .skip
noncomputable def b25 : Code := (Try.f25.body).getD .skip
noncomputable def b13 : Code := (Try.f13.body).getD .skip
theorem smallB_1 (adj : Sl (Sl Int)) (i : Int) (v17 : Sl Int) (h1 : i < (adj.l.length : Int)) (h2 : i ≤ 40) (h3 : 0 ≤ i ∧ i < (adj.l.length : Int)) (h4 : adj.l[i.toNat]? = some v17) (h5 : (v17.l.length : Int) > 80) : X.Go 9 23 [] (sub b9 [1, 0, 1, 0, 0]) ⟨fl [(0, .c (eSl adj)), (3, dInt i)], ⟨[], []⟩⟩ .ret ⟨fl [(2, dB false)], ⟨[], []⟩⟩ :=
  Sys.go [((2, 3), .b true), ((2, 6), .b true), ((4, 2), .ix), ((4, 3), .cell (eSl v17)), ((4, 5), .b true)] (And.intro (h1) (And.intro (h2) (And.intro (And.intro (Sl.empty adj) h3) (And.intro (cell_at 0 (c := eSl v17) rfl h4) (h5))))) (by kernel_rfl)
theorem smallB_2 (adj : Sl (Sl Int)) (i : Int) (v17 : Sl Int) (h1 : i < (adj.l.length : Int)) (h2 : i ≤ 40) (h3 : 0 ≤ i ∧ i < (adj.l.length : Int)) (h4 : adj.l[i.toNat]? = some v17) (h5 : ¬ (v17.l.length : Int) > 80) (h6 : -9223372036854775808 ≤ i + 1 ∧ i + 1 ≤ 9223372036854775807) : X.Go 9 23 [] (sub b9 [1, 0, 1, 0, 0]) ⟨fl [(0, .c (eSl adj)), (3, dInt i)], ⟨[], []⟩⟩ .normal ⟨fl [(0, .c (eSl adj)), (3, dInt (i + 1))], ⟨[], []⟩⟩ :=
  Sys.go [((2, 3), .b true), ((2, 6), .b true), ((4, 2), .ix), ((4, 3), .cell (eSl v17)), ((4, 5), .b false), ((3, 1), .n)] (And.intro (h1) (And.intro (h2) (And.intro (And.intro (Sl.empty adj) h3) (And.intro (cell_at 0 (c := eSl v17) rfl h4) (And.intro (h5) (h6)))))) (by kernel_rfl)
theorem smallB_3 (adj : Sl (Sl Int)) (i : Int) (h1 : i < (adj.l.length : Int)) (h2 : ¬ i ≤ 40) : X.Go 9 23 [] (sub b9 [1, 0, 1, 0, 0]) ⟨fl [(0, .c (eSl adj)), (3, dInt i)], ⟨[], []⟩⟩ (.exit 0) ⟨fl [(0, .c (eSl adj)), (3, dInt i), (11, dB false)], ⟨[], []⟩⟩ :=
  Sys.go [((2, 3), .b true), ((2, 6), .b false)] (And.intro (h1) (h2)) (by kernel_rfl)
theorem smallB_4 (adj : Sl (Sl Int)) (i : Int) (h1 : ¬ i < (adj.l.length : Int)) : X.Go 9 23 [] (sub b9 [1, 0, 1, 0, 0]) ⟨fl [(0, .c (eSl adj)), (3, dInt i)], ⟨[], []⟩⟩ (.exit 0) ⟨fl [(0, .c (eSl adj)), (3, dInt i), (11, dB false)], ⟨[], []⟩⟩ :=
  Sys.go [((2, 3), .b false)] (h1) (by kernel_rfl)
theorem smallM_1 (adj : Sl (Sl Int)) (h1 : X.Go 9 23 [] (sub b9 [1, 0, 1, 0]) ⟨fl [(0, .c (eSl adj)), (3, dInt 0)], ⟨[], []⟩⟩ .ret ⟨fl [(2, dB false)], ⟨[], []⟩⟩) : X.RunsC 9 [.c (eSl adj)] (dB false) :=
  Sys.callC (Sys.call (X := X) (args := [.c (eSl adj)]) (m := ⟨[], []⟩) (d := dB false) (m' := ⟨[], []⟩) (Sys.go (f := 9) (nt := 23) (Γ := []) (c := b9) (s := ⟨argFr [.c (eSl adj)], ⟨[], []⟩⟩) (ex := .ret) (s' := ⟨fl [(2, dB false)], ⟨[], []⟩⟩) [((2, 1000), .code .ret ⟨fl [(2, dB false)], ⟨[], []⟩⟩)] (h1) (by kernel_rfl)) (fn := Try.f9) (by kernel_rfl) (by kernel_rfl) rfl (by kernel_rfl) rfl) rfl
theorem smallM_2 (adj : Sl (Sl Int)) (j : Int) (h1 : X.Go 9 23 [] (sub b9 [1, 0, 1, 0]) ⟨fl [(0, .c (eSl adj)), (3, dInt 0)], ⟨[], []⟩⟩ (.exit 0) ⟨fl [(0, .c (eSl adj)), (3, dInt j), (11, dB false)], ⟨[], []⟩⟩) (h2 : (adj.l.length : Int) ≤ 40) : X.RunsC 9 [.c (eSl adj)] (dB true) :=
  Sys.callC (Sys.call (X := X) (args := [.c (eSl adj)]) (m := ⟨[], []⟩) (d := dB true) (m' := ⟨[], []⟩) (Sys.go (f := 9) (nt := 23) (Γ := []) (c := b9) (s := ⟨argFr [.c (eSl adj)], ⟨[], []⟩⟩) (ex := .ret) (s' := ⟨fl [(2, dB true)], ⟨[], []⟩⟩) [((2, 1000), .code (.exit 0) ⟨fl [(0, .c (eSl adj)), (3, dInt j), (11, dB false)], ⟨[], []⟩⟩), ((6, 2), .b true)] (And.intro (h1) (h2)) (by kernel_rfl)) (fn := Try.f9) (by kernel_rfl) (by kernel_rfl) rfl (by kernel_rfl) rfl) rfl
theorem smallM_3 (adj : Sl (Sl Int)) (j : Int) (h1 : X.Go 9 23 [] (sub b9 [1, 0, 1, 0]) ⟨fl [(0, .c (eSl adj)), (3, dInt 0)], ⟨[], []⟩⟩ (.exit 0) ⟨fl [(0, .c (eSl adj)), (3, dInt j), (11, dB false)], ⟨[], []⟩⟩) (h2 : ¬ (adj.l.length : Int) ≤ 40) : X.RunsC 9 [.c (eSl adj)] (dB false) :=
  Sys.callC (Sys.call (X := X) (args := [.c (eSl adj)]) (m := ⟨[], []⟩) (d := dB false) (m' := ⟨[], []⟩) (Sys.go (f := 9) (nt := 23) (Γ := []) (c := b9) (s := ⟨argFr [.c (eSl adj)], ⟨[], []⟩⟩) (ex := .ret) (s' := ⟨fl [(2, dB false)], ⟨[], []⟩⟩) [((2, 1000), .code (.exit 0) ⟨fl [(0, .c (eSl adj)), (3, dInt j), (11, dB false)], ⟨[], []⟩⟩), ((6, 2), .b false)] (And.intro (h1) (h2)) (by kernel_rfl)) (fn := Try.f9) (by kernel_rfl) (by kernel_rfl) rfl (by kernel_rfl) rfl) rfl
theorem sameB_1 (a b : Sl Int) (i : Int) (v20 : Int) (v24 : Int) (h1 : i < (a.l.length : Int)) (h2 : 0 ≤ i ∧ i < (a.l.length : Int)) (h3 : a.l[i.toNat]? = some v20) (h4 : 0 ≤ i ∧ i < (b.l.length : Int)) (h5 : b.l[i.toNat]? = some v24) (h6 : v20 ≠ v24) : X.Go 21 26 [] (sub b21 [1, 1, 0, 1, 0, 0]) ⟨fl [(0, .c (eSl a)), (1, .c (eSl b)), (5, dInt i)], ⟨[], []⟩⟩ .ret ⟨fl [(4, dB false)], ⟨[], []⟩⟩ :=
  Sys.go [((4, 3), .b true), ((6, 2), .ix), ((6, 3), .cell (cInt v20)), ((6, 6), .ix), ((6, 7), .cell (cInt v24)), ((6, 8), .b true)] (And.intro (h1) (And.intro (And.intro (Sl.empty a) h2) (And.intro (cell_at 0 (c := cInt v20) rfl h3) (And.intro (And.intro (Sl.empty b) h4) (And.intro (cell_at 0 (c := cInt v24) rfl h5) (h6)))))) (by kernel_rfl)
theorem sameB_2 (a b : Sl Int) (i : Int) (v20 : Int) (v24 : Int) (h1 : i < (a.l.length : Int)) (h2 : 0 ≤ i ∧ i < (a.l.length : Int)) (h3 : a.l[i.toNat]? = some v20) (h4 : 0 ≤ i ∧ i < (b.l.length : Int)) (h5 : b.l[i.toNat]? = some v24) (h6 : ¬ v20 ≠ v24) (h7 : -9223372036854775808 ≤ i + 1 ∧ i + 1 ≤ 9223372036854775807) : X.Go 21 26 [] (sub b21 [1, 1, 0, 1, 0, 0]) ⟨fl [(0, .c (eSl a)), (1, .c (eSl b)), (5, dInt i)], ⟨[], []⟩⟩ .normal ⟨fl [(0, .c (eSl a)), (1, .c (eSl b)), (5, dInt (i + 1))], ⟨[], []⟩⟩ :=
  Sys.go [((4, 3), .b true), ((6, 2), .ix), ((6, 3), .cell (cInt v20)), ((6, 6), .ix), ((6, 7), .cell (cInt v24)), ((6, 8), .b false), ((5, 1), .n)] (And.intro (h1) (And.intro (And.intro (Sl.empty a) h2) (And.intro (cell_at 0 (c := cInt v20) rfl h3) (And.intro (And.intro (Sl.empty b) h4) (And.intro (cell_at 0 (c := cInt v24) rfl h5) (And.intro (h6) (h7))))))) (by kernel_rfl)
theorem sameB_3 (a b : Sl Int) (i : Int) (h1 : ¬ i < (a.l.length : Int)) : X.Go 21 26 [] (sub b21 [1, 1, 0, 1, 0, 0]) ⟨fl [(0, .c (eSl a)), (1, .c (eSl b)), (5, dInt i)], ⟨[], []⟩⟩ (.exit 0) ⟨fl [(0, .c (eSl a)), (1, .c (eSl b)), (5, dInt i), (14, dB false)], ⟨[], []⟩⟩ :=
  Sys.go [((4, 3), .b false)] (h1) (by kernel_rfl)
theorem sameM_1 (a b : Sl Int) (h1 : (a.l.length : Int) ≠ (b.l.length : Int)) : X.RunsC 21 [.c (eSl a), .c (eSl b)] (dB false) :=
  Sys.callC (Sys.call (X := X) (args := [.c (eSl a), .c (eSl b)]) (m := ⟨[], []⟩) (d := dB false) (m' := ⟨[], []⟩) (Sys.go (f := 21) (nt := 26) (Γ := []) (c := b21) (s := ⟨argFr [.c (eSl a), .c (eSl b)], ⟨[], []⟩⟩) (ex := .ret) (s' := ⟨fl [(4, dB false)], ⟨[], []⟩⟩) [((1, 4), .b true)] (h1) (by kernel_rfl)) (fn := Try.f21) (by kernel_rfl) (by kernel_rfl) rfl (by kernel_rfl) rfl) rfl
theorem sameM_2 (a b : Sl Int) (h1 : ¬ (a.l.length : Int) ≠ (b.l.length : Int)) (h2 : X.Go 21 26 [] (sub b21 [1, 1, 0, 1, 0]) ⟨fl [(0, .c (eSl a)), (1, .c (eSl b)), (5, dInt 0)], ⟨[], []⟩⟩ .ret ⟨fl [(4, dB false)], ⟨[], []⟩⟩) : X.RunsC 21 [.c (eSl a), .c (eSl b)] (dB false) :=
  Sys.callC (Sys.call (X := X) (args := [.c (eSl a), .c (eSl b)]) (m := ⟨[], []⟩) (d := dB false) (m' := ⟨[], []⟩) (Sys.go (f := 21) (nt := 26) (Γ := []) (c := b21) (s := ⟨argFr [.c (eSl a), .c (eSl b)], ⟨[], []⟩⟩) (ex := .ret) (s' := ⟨fl [(4, dB false)], ⟨[], []⟩⟩) [((1, 4), .b false), ((4, 1000), .code .ret ⟨fl [(4, dB false)], ⟨[], []⟩⟩)] (And.intro (h1) (h2)) (by kernel_rfl)) (fn := Try.f21) (by kernel_rfl) (by kernel_rfl) rfl (by kernel_rfl) rfl) rfl
theorem sameM_3 (a b : Sl Int) (j : Int) (h1 : ¬ (a.l.length : Int) ≠ (b.l.length : Int)) (h2 : X.Go 21 26 [] (sub b21 [1, 1, 0, 1, 0]) ⟨fl [(0, .c (eSl a)), (1, .c (eSl b)), (5, dInt 0)], ⟨[], []⟩⟩ (.exit 0) ⟨fl [(0, .c (eSl a)), (1, .c (eSl b)), (5, dInt j), (14, dB false)], ⟨[], []⟩⟩) : X.RunsC 21 [.c (eSl a), .c (eSl b)] (dB true) :=
  Sys.callC (Sys.call (X := X) (args := [.c (eSl a), .c (eSl b)]) (m := ⟨[], []⟩) (d := dB true) (m' := ⟨[], []⟩) (Sys.go (f := 21) (nt := 26) (Γ := []) (c := b21) (s := ⟨argFr [.c (eSl a), .c (eSl b)], ⟨[], []⟩⟩) (ex := .ret) (s' := ⟨fl [(4, dB true)], ⟨[], []⟩⟩) [((1, 4), .b false), ((4, 1000), .code (.exit 0) ⟨fl [(0, .c (eSl a)), (1, .c (eSl b)), (5, dInt j), (14, dB false)], ⟨[], []⟩⟩)] (And.intro (h1) (h2)) (by kernel_rfl)) (fn := Try.f21) (by kernel_rfl) (by kernel_rfl) rfl (by kernel_rfl) rfl) rfl
theorem SameM_1 (a b : Sl Int) (h1 : X.RunsC 21 [.c (eSl a), .c (eSl b)] (dB true)) : X.RunsC 11 [.c (eSl a), .c (eSl b)] (dB true) :=
  Sys.callC (Sys.call (X := X) (args := [.c (eSl a), .c (eSl b)]) (m := ⟨[], []⟩) (d := dB true) (m' := ⟨[], []⟩) (Sys.go (f := 11) (nt := 8) (Γ := []) (c := b11) (s := ⟨argFr [.c (eSl a), .c (eSl b)], ⟨[], []⟩⟩) (ex := .ret) (s' := ⟨fl [(4, dB true)], ⟨[], []⟩⟩) [((1, 2), .call (dB true) ⟨[], []⟩)] (h1) (by kernel_rfl)) (fn := Try.f11) (by kernel_rfl) (by kernel_rfl) rfl (by kernel_rfl) rfl) rfl
theorem SameM_2 (a b : Sl Int) (h1 : X.RunsC 21 [.c (eSl a), .c (eSl b)] (dB false)) : X.RunsC 11 [.c (eSl a), .c (eSl b)] (dB false) :=
  Sys.callC (Sys.call (X := X) (args := [.c (eSl a), .c (eSl b)]) (m := ⟨[], []⟩) (d := dB false) (m' := ⟨[], []⟩) (Sys.go (f := 11) (nt := 8) (Γ := []) (c := b11) (s := ⟨argFr [.c (eSl a), .c (eSl b)], ⟨[], []⟩⟩) (ex := .ret) (s' := ⟨fl [(4, dB false)], ⟨[], []⟩⟩) [((1, 2), .call (dB false) ⟨[], []⟩)] (h1) (by kernel_rfl)) (fn := Try.f11) (by kernel_rfl) (by kernel_rfl) rfl (by kernel_rfl) rfl) rfl
theorem marksAn_1 (adj : Sl (Sl Int)) (fr : Sl Int) (i : Int) (seen : List Bool)  (v23 : Int) (h1 : i < (fr.l.length : Int)) (h2 : 0 ≤ i ∧ i < (fr.l.length : Int)) (h3 : fr.l[i.toNat]? = some v23) (h4 : v23 ≥ 0) (h5 : v23 < (adj.l.length : Int)) (h6 : 0 ≤ v23 ∧ v23 < (adj.l.length : Int)) (h7 : seen[v23.toNat]? = some true) (h8 : -9223372036854775808 ≤ i + 1 ∧ i + 1 ≤ 9223372036854775807) : X.Go 25 114 [] (sub b25 [1, 1, 1, 0, 1, 0, 0]) ⟨fl [(0, .c (eSl adj)), (1, .c (eSl fr)), (5, .ms 0 1 0 adj.l.length 1 true), (6, .c (.sl true true [] 0)), (7, dInt i)], ⟨[⟨1, dcells seen⟩], []⟩⟩ .normal ⟨fl [(0, .c (eSl adj)), (1, .c (eSl fr)), (5, .ms 0 1 0 adj.l.length 1 true), (6, .c (.sl true true [] 0)), (7, dInt (i + 1))], ⟨[⟨1, dcells seen⟩], []⟩⟩ :=
  Sys.go [((4, 3), .b true), ((6, 2), .ix), ((6, 3), .cell (cInt v23)), ((6, 4), .b true), ((6, 8), .ix), ((6, 9), .cell (cInt v23)), ((6, 12), .b true), ((6, 18), .ix), ((6, 19), .cell (cInt v23)), ((6, 20), .ix), ((6, 21), .cell (.sc (.bool true))), ((5, 1), .n)] (And.intro (h1) (And.intro (And.intro (Sl.empty fr) h2) (And.intro (cell_at 0 (c := cInt v23) rfl h3) (And.intro (h4) (And.intro (And.intro (Sl.empty fr) h2) (And.intro (cell_at 0 (c := cInt v23) rfl h3) (And.intro (h5) (And.intro (And.intro (Sl.empty fr) h2) (And.intro (cell_at 0 (c := cInt v23) rfl h3) (And.intro (h6) (And.intro (And.intro (rfl : (1 : Nat) = 1) (dcell_at' 0 (c := .sc (.bool true)) rfl h7)) (h8)))))))))))) (by kernel_rfl)
theorem marksAn_2 (adj : Sl (Sl Int)) (fr : Sl Int) (i : Int) (seen : List Bool)  (v23 : Int) (h1 : i < (fr.l.length : Int)) (h2 : 0 ≤ i ∧ i < (fr.l.length : Int)) (h3 : fr.l[i.toNat]? = some v23) (h4 : v23 ≥ 0) (h5 : v23 < (adj.l.length : Int)) (h6 : 0 ≤ v23 ∧ v23 < (adj.l.length : Int)) (h7 : seen[v23.toNat]? = some false) (h8 : 0 ≤ v23 ∧ v23 < (seen.length : Int)) (h9 : -9223372036854775808 ≤ i + 1 ∧ i + 1 ≤ 9223372036854775807) : X.Go 25 114 [] (sub b25 [1, 1, 1, 0, 1, 0, 0]) ⟨fl [(0, .c (eSl adj)), (1, .c (eSl fr)), (5, .ms 0 1 0 adj.l.length 1 true), (6, .c (.sl true true [] 0)), (7, dInt i)], ⟨[⟨1, dcells seen⟩], []⟩⟩ .normal ⟨fl [(0, .c (eSl adj)), (1, .c (eSl fr)), (5, .ms 0 1 0 adj.l.length 1 true), (6, .ap false (cells ([v23] : List Int)) 1 1), (7, dInt (i + 1))], ⟨[⟨1, dcells (seen.set v23.toNat true)⟩], []⟩⟩ :=
  Sys.go [((4, 3), .b true), ((6, 2), .ix), ((6, 3), .cell (cInt v23)), ((6, 4), .b true), ((6, 8), .ix), ((6, 9), .cell (cInt v23)), ((6, 12), .b true), ((6, 18), .ix), ((6, 19), .cell (cInt v23)), ((6, 20), .ix), ((6, 21), .cell (.sc (.bool false))), ((7, 3), .ix), ((7, 4), .cell (cInt v23)), ((7, 5), .ix), ((7, 6), .st (dcells (seen.set v23.toNat true))), ((8, 3), .ix), ((8, 4), .cell (cInt v23)), ((5, 1), .n)] (And.intro (h1) (And.intro (And.intro (Sl.empty fr) h2) (And.intro (cell_at 0 (c := cInt v23) rfl h3) (And.intro (h4) (And.intro (And.intro (Sl.empty fr) h2) (And.intro (cell_at 0 (c := cInt v23) rfl h3) (And.intro (h5) (And.intro (And.intro (Sl.empty fr) h2) (And.intro (cell_at 0 (c := cInt v23) rfl h3) (And.intro (h6) (And.intro (And.intro (rfl : (1 : Nat) = 1) (dcell_at' 0 (c := .sc (.bool false)) rfl h7)) (And.intro (And.intro (Sl.empty fr) h2) (And.intro (cell_at 0 (c := cInt v23) rfl h3) (And.intro (h6) (And.intro (And.intro (rfl : (1 : Nat) = 1) (dst_all true h8)) (And.intro (And.intro (Sl.empty fr) h2) (And.intro (cell_at 0 (c := cInt v23) rfl h3) (h9)))))))))))))))))) (by kernel_rfl)
theorem marksAn_3 (adj : Sl (Sl Int)) (fr : Sl Int) (i : Int) (seen : List Bool)  (v23 : Int) (h1 : i < (fr.l.length : Int)) (h2 : 0 ≤ i ∧ i < (fr.l.length : Int)) (h3 : fr.l[i.toNat]? = some v23) (h4 : v23 ≥ 0) (h5 : ¬ v23 < (adj.l.length : Int)) (h6 : -9223372036854775808 ≤ i + 1 ∧ i + 1 ≤ 9223372036854775807) : X.Go 25 114 [] (sub b25 [1, 1, 1, 0, 1, 0, 0]) ⟨fl [(0, .c (eSl adj)), (1, .c (eSl fr)), (5, .ms 0 1 0 adj.l.length 1 true), (6, .c (.sl true true [] 0)), (7, dInt i)], ⟨[⟨1, dcells seen⟩], []⟩⟩ .normal ⟨fl [(0, .c (eSl adj)), (1, .c (eSl fr)), (5, .ms 0 1 0 adj.l.length 1 true), (6, .c (.sl true true [] 0)), (7, dInt (i + 1))], ⟨[⟨1, dcells seen⟩], []⟩⟩ :=
  Sys.go [((4, 3), .b true), ((6, 2), .ix), ((6, 3), .cell (cInt v23)), ((6, 4), .b true), ((6, 8), .ix), ((6, 9), .cell (cInt v23)), ((6, 12), .b false), ((5, 1), .n)] (And.intro (h1) (And.intro (And.intro (Sl.empty fr) h2) (And.intro (cell_at 0 (c := cInt v23) rfl h3) (And.intro (h4) (And.intro (And.intro (Sl.empty fr) h2) (And.intro (cell_at 0 (c := cInt v23) rfl h3) (And.intro (h5) (h6)))))))) (by kernel_rfl)
theorem marksAn_4 (adj : Sl (Sl Int)) (fr : Sl Int) (i : Int) (seen : List Bool)  (v23 : Int) (h1 : i < (fr.l.length : Int)) (h2 : 0 ≤ i ∧ i < (fr.l.length : Int)) (h3 : fr.l[i.toNat]? = some v23) (h4 : ¬ v23 ≥ 0) (h5 : -9223372036854775808 ≤ i + 1 ∧ i + 1 ≤ 9223372036854775807) : X.Go 25 114 [] (sub b25 [1, 1, 1, 0, 1, 0, 0]) ⟨fl [(0, .c (eSl adj)), (1, .c (eSl fr)), (5, .ms 0 1 0 adj.l.length 1 true), (6, .c (.sl true true [] 0)), (7, dInt i)], ⟨[⟨1, dcells seen⟩], []⟩⟩ .normal ⟨fl [(0, .c (eSl adj)), (1, .c (eSl fr)), (5, .ms 0 1 0 adj.l.length 1 true), (6, .c (.sl true true [] 0)), (7, dInt (i + 1))], ⟨[⟨1, dcells seen⟩], []⟩⟩ :=
  Sys.go [((4, 3), .b true), ((6, 2), .ix), ((6, 3), .cell (cInt v23)), ((6, 4), .b false), ((5, 1), .n)] (And.intro (h1) (And.intro (And.intro (Sl.empty fr) h2) (And.intro (cell_at 0 (c := cInt v23) rfl h3) (And.intro (h4) (h5))))) (by kernel_rfl)
theorem marksAn_5 (adj : Sl (Sl Int)) (fr : Sl Int) (i : Int) (seen : List Bool)  (h1 : ¬ i < (fr.l.length : Int)) : X.Go 25 114 [] (sub b25 [1, 1, 1, 0, 1, 0, 0]) ⟨fl [(0, .c (eSl adj)), (1, .c (eSl fr)), (5, .ms 0 1 0 adj.l.length 1 true), (6, .c (.sl true true [] 0)), (7, dInt i)], ⟨[⟨1, dcells seen⟩], []⟩⟩ (.exit 0) ⟨fl [(0, .c (eSl adj)), (1, .c (eSl fr)), (5, .ms 0 1 0 adj.l.length 1 true), (6, .c (.sl true true [] 0)), (7, dInt i), (17, dB false)], ⟨[⟨1, dcells seen⟩], []⟩⟩ :=
  Sys.go [((4, 3), .b false)] (h1) (by kernel_rfl)
theorem marksAf_1 (adj : Sl (Sl Int)) (fr : Sl Int) (i : Int) (seen : List Bool) (list : List Int) (v23 : Int) (h1 : i < (fr.l.length : Int)) (h2 : 0 ≤ i ∧ i < (fr.l.length : Int)) (h3 : fr.l[i.toNat]? = some v23) (h4 : v23 ≥ 0) (h5 : v23 < (adj.l.length : Int)) (h6 : 0 ≤ v23 ∧ v23 < (adj.l.length : Int)) (h7 : seen[v23.toNat]? = some true) (h8 : -9223372036854775808 ≤ i + 1 ∧ i + 1 ≤ 9223372036854775807) : X.Go 25 114 [] (sub b25 [1, 1, 1, 0, 1, 0, 0]) ⟨fl [(0, .c (eSl adj)), (1, .c (eSl fr)), (5, .ms 0 1 0 adj.l.length 1 true), (6, .ap false (cells list) list.length 1), (7, dInt i)], ⟨[⟨1, dcells seen⟩], []⟩⟩ .normal ⟨fl [(0, .c (eSl adj)), (1, .c (eSl fr)), (5, .ms 0 1 0 adj.l.length 1 true), (6, .ap false (cells list) list.length 1), (7, dInt (i + 1))], ⟨[⟨1, dcells seen⟩], []⟩⟩ :=
  Sys.go [((4, 3), .b true), ((6, 2), .ix), ((6, 3), .cell (cInt v23)), ((6, 4), .b true), ((6, 8), .ix), ((6, 9), .cell (cInt v23)), ((6, 12), .b true), ((6, 18), .ix), ((6, 19), .cell (cInt v23)), ((6, 20), .ix), ((6, 21), .cell (.sc (.bool true))), ((5, 1), .n)] (And.intro (h1) (And.intro (And.intro (Sl.empty fr) h2) (And.intro (cell_at 0 (c := cInt v23) rfl h3) (And.intro (h4) (And.intro (And.intro (Sl.empty fr) h2) (And.intro (cell_at 0 (c := cInt v23) rfl h3) (And.intro (h5) (And.intro (And.intro (Sl.empty fr) h2) (And.intro (cell_at 0 (c := cInt v23) rfl h3) (And.intro (h6) (And.intro (And.intro (rfl : (1 : Nat) = 1) (dcell_at' 0 (c := .sc (.bool true)) rfl h7)) (h8)))))))))))) (by kernel_rfl)
theorem marksAf_2 (adj : Sl (Sl Int)) (fr : Sl Int) (i : Int) (seen : List Bool) (list : List Int) (v23 : Int) (h1 : i < (fr.l.length : Int)) (h2 : 0 ≤ i ∧ i < (fr.l.length : Int)) (h3 : fr.l[i.toNat]? = some v23) (h4 : v23 ≥ 0) (h5 : v23 < (adj.l.length : Int)) (h6 : 0 ≤ v23 ∧ v23 < (adj.l.length : Int)) (h7 : seen[v23.toNat]? = some false) (h8 : 0 ≤ v23 ∧ v23 < (seen.length : Int)) (h9 : (list ++ ([v23] : List Int)).length * 8 ≤ 140737488355328) (h10 : -9223372036854775808 ≤ i + 1 ∧ i + 1 ≤ 9223372036854775807) : X.Go 25 114 [] (sub b25 [1, 1, 1, 0, 1, 0, 0]) ⟨fl [(0, .c (eSl adj)), (1, .c (eSl fr)), (5, .ms 0 1 0 adj.l.length 1 true), (6, .ap false (cells list) list.length 1), (7, dInt i)], ⟨[⟨1, dcells seen⟩], []⟩⟩ .normal ⟨fl [(0, .c (eSl adj)), (1, .c (eSl fr)), (5, .ms 0 1 0 adj.l.length 1 true), (6, .ap false (cells (list ++ ([v23] : List Int))) ((list ++ ([v23] : List Int)).length) 1), (7, dInt (i + 1))], ⟨[⟨1, dcells (seen.set v23.toNat true)⟩], []⟩⟩ :=
  Sys.go [((4, 3), .b true), ((6, 2), .ix), ((6, 3), .cell (cInt v23)), ((6, 4), .b true), ((6, 8), .ix), ((6, 9), .cell (cInt v23)), ((6, 12), .b true), ((6, 18), .ix), ((6, 19), .cell (cInt v23)), ((6, 20), .ix), ((6, 21), .cell (.sc (.bool false))), ((7, 3), .ix), ((7, 4), .cell (cInt v23)), ((7, 5), .ix), ((7, 6), .st (dcells (seen.set v23.toNat true))), ((8, 3), .ix), ((8, 4), .cell (cInt v23)), ((8, 6), .app (cells (list ++ ([v23] : List Int))) (list ++ ([v23] : List Int)).length), ((5, 1), .n)] (And.intro (h1) (And.intro (And.intro (Sl.empty fr) h2) (And.intro (cell_at 0 (c := cInt v23) rfl h3) (And.intro (h4) (And.intro (And.intro (Sl.empty fr) h2) (And.intro (cell_at 0 (c := cInt v23) rfl h3) (And.intro (h5) (And.intro (And.intro (Sl.empty fr) h2) (And.intro (cell_at 0 (c := cInt v23) rfl h3) (And.intro (h6) (And.intro (And.intro (rfl : (1 : Nat) = 1) (dcell_at' 0 (c := .sc (.bool false)) rfl h7)) (And.intro (And.intro (Sl.empty fr) h2) (And.intro (cell_at 0 (c := cInt v23) rfl h3) (And.intro (h6) (And.intro (And.intro (rfl : (1 : Nat) = 1) (dst_all true h8)) (And.intro (And.intro (Sl.empty fr) h2) (And.intro (cell_at 0 (c := cInt v23) rfl h3) (And.intro (app_ok list ([v23] : List Int) (b := 8) (by decide) h9) (h10))))))))))))))))))) (by kernel_rfl)
theorem marksAf_3 (adj : Sl (Sl Int)) (fr : Sl Int) (i : Int) (seen : List Bool) (list : List Int) (v23 : Int) (h1 : i < (fr.l.length : Int)) (h2 : 0 ≤ i ∧ i < (fr.l.length : Int)) (h3 : fr.l[i.toNat]? = some v23) (h4 : v23 ≥ 0) (h5 : ¬ v23 < (adj.l.length : Int)) (h6 : -9223372036854775808 ≤ i + 1 ∧ i + 1 ≤ 9223372036854775807) : X.Go 25 114 [] (sub b25 [1, 1, 1, 0, 1, 0, 0]) ⟨fl [(0, .c (eSl adj)), (1, .c (eSl fr)), (5, .ms 0 1 0 adj.l.length 1 true), (6, .ap false (cells list) list.length 1), (7, dInt i)], ⟨[⟨1, dcells seen⟩], []⟩⟩ .normal ⟨fl [(0, .c (eSl adj)), (1, .c (eSl fr)), (5, .ms 0 1 0 adj.l.length 1 true), (6, .ap false (cells list) list.length 1), (7, dInt (i + 1))], ⟨[⟨1, dcells seen⟩], []⟩⟩ :=
  Sys.go [((4, 3), .b true), ((6, 2), .ix), ((6, 3), .cell (cInt v23)), ((6, 4), .b true), ((6, 8), .ix), ((6, 9), .cell (cInt v23)), ((6, 12), .b false), ((5, 1), .n)] (And.intro (h1) (And.intro (And.intro (Sl.empty fr) h2) (And.intro (cell_at 0 (c := cInt v23) rfl h3) (And.intro (h4) (And.intro (And.intro (Sl.empty fr) h2) (And.intro (cell_at 0 (c := cInt v23) rfl h3) (And.intro (h5) (h6)))))))) (by kernel_rfl)
theorem marksAf_4 (adj : Sl (Sl Int)) (fr : Sl Int) (i : Int) (seen : List Bool) (list : List Int) (v23 : Int) (h1 : i < (fr.l.length : Int)) (h2 : 0 ≤ i ∧ i < (fr.l.length : Int)) (h3 : fr.l[i.toNat]? = some v23) (h4 : ¬ v23 ≥ 0) (h5 : -9223372036854775808 ≤ i + 1 ∧ i + 1 ≤ 9223372036854775807) : X.Go 25 114 [] (sub b25 [1, 1, 1, 0, 1, 0, 0]) ⟨fl [(0, .c (eSl adj)), (1, .c (eSl fr)), (5, .ms 0 1 0 adj.l.length 1 true), (6, .ap false (cells list) list.length 1), (7, dInt i)], ⟨[⟨1, dcells seen⟩], []⟩⟩ .normal ⟨fl [(0, .c (eSl adj)), (1, .c (eSl fr)), (5, .ms 0 1 0 adj.l.length 1 true), (6, .ap false (cells list) list.length 1), (7, dInt (i + 1))], ⟨[⟨1, dcells seen⟩], []⟩⟩ :=
  Sys.go [((4, 3), .b true), ((6, 2), .ix), ((6, 3), .cell (cInt v23)), ((6, 4), .b false), ((5, 1), .n)] (And.intro (h1) (And.intro (And.intro (Sl.empty fr) h2) (And.intro (cell_at 0 (c := cInt v23) rfl h3) (And.intro (h4) (h5))))) (by kernel_rfl)
theorem marksAf_5 (adj : Sl (Sl Int)) (fr : Sl Int) (i : Int) (seen : List Bool) (list : List Int) (h1 : ¬ i < (fr.l.length : Int)) : X.Go 25 114 [] (sub b25 [1, 1, 1, 0, 1, 0, 0]) ⟨fl [(0, .c (eSl adj)), (1, .c (eSl fr)), (5, .ms 0 1 0 adj.l.length 1 true), (6, .ap false (cells list) list.length 1), (7, dInt i)], ⟨[⟨1, dcells seen⟩], []⟩⟩ (.exit 0) ⟨fl [(0, .c (eSl adj)), (1, .c (eSl fr)), (5, .ms 0 1 0 adj.l.length 1 true), (6, .ap false (cells list) list.length 1), (7, dInt i), (17, dB false)], ⟨[⟨1, dcells seen⟩], []⟩⟩ :=
  Sys.go [((4, 3), .b false)] (h1) (by kernel_rfl)
theorem marksA_1 (adj : Sl (Sl Int)) (fr : Sl Int) (i : Int) (seen : List Bool) (list : List Int) (v23 : Int) (h1 : i < (fr.l.length : Int)) (h2 : 0 ≤ i ∧ i < (fr.l.length : Int)) (h3 : fr.l[i.toNat]? = some v23) (h4 : v23 ≥ 0) (h5 : v23 < (adj.l.length : Int)) (h6 : 0 ≤ v23 ∧ v23 < (adj.l.length : Int)) (h7 : seen[v23.toNat]? = some true) (h8 : -9223372036854775808 ≤ i + 1 ∧ i + 1 ≤ 9223372036854775807) : X.Go 25 114 [] (sub b25 [1, 1, 1, 0, 1, 0, 0]) ⟨fl [(0, .c (eSl adj)), (1, .c (eSl fr)), (5, .ms 0 1 0 adj.l.length 1 true), (6, apv list), (7, dInt i)], ⟨[⟨1, dcells seen⟩], []⟩⟩ .normal ⟨fl [(0, .c (eSl adj)), (1, .c (eSl fr)), (5, .ms 0 1 0 adj.l.length 1 true), (6, apv list), (7, dInt (i + 1))], ⟨[⟨1, dcells seen⟩], []⟩⟩ :=
  by (cases list with | nil => exact marksAn_1 adj fr i seen v23 h1 h2 h3 h4 h5 h6 h7 h8 | cons _ _ => exact marksAf_1 adj fr i seen _ v23 h1 h2 h3 h4 h5 h6 h7 h8)
theorem marksA_2 (adj : Sl (Sl Int)) (fr : Sl Int) (i : Int) (seen : List Bool) (list : List Int) (v23 : Int) (h1 : i < (fr.l.length : Int)) (h2 : 0 ≤ i ∧ i < (fr.l.length : Int)) (h3 : fr.l[i.toNat]? = some v23) (h4 : v23 ≥ 0) (h5 : v23 < (adj.l.length : Int)) (h6 : 0 ≤ v23 ∧ v23 < (adj.l.length : Int)) (h7 : seen[v23.toNat]? = some false) (h8 : 0 ≤ v23 ∧ v23 < (seen.length : Int)) (h9 : (list ++ ([v23] : List Int)).length * 8 ≤ 140737488355328) (h10 : -9223372036854775808 ≤ i + 1 ∧ i + 1 ≤ 9223372036854775807) : X.Go 25 114 [] (sub b25 [1, 1, 1, 0, 1, 0, 0]) ⟨fl [(0, .c (eSl adj)), (1, .c (eSl fr)), (5, .ms 0 1 0 adj.l.length 1 true), (6, apv list), (7, dInt i)], ⟨[⟨1, dcells seen⟩], []⟩⟩ .normal ⟨fl [(0, .c (eSl adj)), (1, .c (eSl fr)), (5, .ms 0 1 0 adj.l.length 1 true), (6, apv (list ++ ([v23] : List Int))), (7, dInt (i + 1))], ⟨[⟨1, dcells (seen.set v23.toNat true)⟩], []⟩⟩ :=
  by (cases list with | nil => exact marksAn_2 adj fr i seen v23 h1 h2 h3 h4 h5 h6 h7 h8 h10 | cons _ _ => exact marksAf_2 adj fr i seen _ v23 h1 h2 h3 h4 h5 h6 h7 h8 h9 h10)
theorem marksA_3 (adj : Sl (Sl Int)) (fr : Sl Int) (i : Int) (seen : List Bool) (list : List Int) (v23 : Int) (h1 : i < (fr.l.length : Int)) (h2 : 0 ≤ i ∧ i < (fr.l.length : Int)) (h3 : fr.l[i.toNat]? = some v23) (h4 : v23 ≥ 0) (h5 : ¬ v23 < (adj.l.length : Int)) (h6 : -9223372036854775808 ≤ i + 1 ∧ i + 1 ≤ 9223372036854775807) : X.Go 25 114 [] (sub b25 [1, 1, 1, 0, 1, 0, 0]) ⟨fl [(0, .c (eSl adj)), (1, .c (eSl fr)), (5, .ms 0 1 0 adj.l.length 1 true), (6, apv list), (7, dInt i)], ⟨[⟨1, dcells seen⟩], []⟩⟩ .normal ⟨fl [(0, .c (eSl adj)), (1, .c (eSl fr)), (5, .ms 0 1 0 adj.l.length 1 true), (6, apv list), (7, dInt (i + 1))], ⟨[⟨1, dcells seen⟩], []⟩⟩ :=
  by (cases list with | nil => exact marksAn_3 adj fr i seen v23 h1 h2 h3 h4 h5 h6 | cons _ _ => exact marksAf_3 adj fr i seen _ v23 h1 h2 h3 h4 h5 h6)
theorem marksA_4 (adj : Sl (Sl Int)) (fr : Sl Int) (i : Int) (seen : List Bool) (list : List Int) (v23 : Int) (h1 : i < (fr.l.length : Int)) (h2 : 0 ≤ i ∧ i < (fr.l.length : Int)) (h3 : fr.l[i.toNat]? = some v23) (h4 : ¬ v23 ≥ 0) (h5 : -9223372036854775808 ≤ i + 1 ∧ i + 1 ≤ 9223372036854775807) : X.Go 25 114 [] (sub b25 [1, 1, 1, 0, 1, 0, 0]) ⟨fl [(0, .c (eSl adj)), (1, .c (eSl fr)), (5, .ms 0 1 0 adj.l.length 1 true), (6, apv list), (7, dInt i)], ⟨[⟨1, dcells seen⟩], []⟩⟩ .normal ⟨fl [(0, .c (eSl adj)), (1, .c (eSl fr)), (5, .ms 0 1 0 adj.l.length 1 true), (6, apv list), (7, dInt (i + 1))], ⟨[⟨1, dcells seen⟩], []⟩⟩ :=
  by (cases list with | nil => exact marksAn_4 adj fr i seen v23 h1 h2 h3 h4 h5 | cons _ _ => exact marksAf_4 adj fr i seen _ v23 h1 h2 h3 h4 h5)
theorem marksA_5 (adj : Sl (Sl Int)) (fr : Sl Int) (i : Int) (seen : List Bool) (list : List Int) (h1 : ¬ i < (fr.l.length : Int)) : X.Go 25 114 [] (sub b25 [1, 1, 1, 0, 1, 0, 0]) ⟨fl [(0, .c (eSl adj)), (1, .c (eSl fr)), (5, .ms 0 1 0 adj.l.length 1 true), (6, apv list), (7, dInt i)], ⟨[⟨1, dcells seen⟩], []⟩⟩ (.exit 0) ⟨fl [(0, .c (eSl adj)), (1, .c (eSl fr)), (5, .ms 0 1 0 adj.l.length 1 true), (6, apv list), (7, dInt i), (17, dB false)], ⟨[⟨1, dcells seen⟩], []⟩⟩ :=
  by (cases list with | nil => exact marksAn_5 adj fr i seen h1 | cons _ _ => exact marksAf_5 adj fr i seen _ h1)
theorem marksCn_1 (adj : Sl (Sl Int)) (row : Sl Int) (n k : Int) (seen : List Bool)  (v79 : Int) (h1 : k < (row.l.length : Int)) (h2 : 0 ≤ k ∧ k < (row.l.length : Int)) (h3 : row.l[k.toNat]? = some v79) (h4 : v79 ≥ 0) (h5 : v79 < (adj.l.length : Int)) (h6 : 0 ≤ v79 ∧ v79 < (adj.l.length : Int)) (h7 : seen[v79.toNat]? = some true) (h8 : -9223372036854775808 ≤ k + 1 ∧ k + 1 ≤ 9223372036854775807) : X.Go 25 114 [] (sub b25 [1, 1, 1, 1, 0, 1, 0, 0, 1, 0, 0, 1, 1, 0, 0]) ⟨fl [(0, .c (eSl adj)), (5, .ms 0 1 0 adj.l.length 1 true), (6, .c (.sl true true [] 0)), (8, dInt n), (9, .c (eSl row)), (10, dInt k)], ⟨[⟨1, dcells seen⟩], []⟩⟩ .normal ⟨fl [(0, .c (eSl adj)), (5, .ms 0 1 0 adj.l.length 1 true), (6, .c (.sl true true [] 0)), (8, dInt n), (9, .c (eSl row)), (10, dInt (k + 1))], ⟨[⟨1, dcells seen⟩], []⟩⟩ :=
  Sys.go [((14, 3), .b true), ((16, 2), .ix), ((16, 3), .cell (cInt v79)), ((16, 4), .b true), ((16, 8), .ix), ((16, 9), .cell (cInt v79)), ((16, 12), .b true), ((16, 18), .ix), ((16, 19), .cell (cInt v79)), ((16, 20), .ix), ((16, 21), .cell (.sc (.bool true))), ((15, 1), .n)] (And.intro (h1) (And.intro (And.intro (Sl.empty row) h2) (And.intro (cell_at 0 (c := cInt v79) rfl h3) (And.intro (h4) (And.intro (And.intro (Sl.empty row) h2) (And.intro (cell_at 0 (c := cInt v79) rfl h3) (And.intro (h5) (And.intro (And.intro (Sl.empty row) h2) (And.intro (cell_at 0 (c := cInt v79) rfl h3) (And.intro (h6) (And.intro (And.intro (rfl : (1 : Nat) = 1) (dcell_at' 0 (c := .sc (.bool true)) rfl h7)) (h8)))))))))))) (by kernel_rfl)
theorem marksCn_2 (adj : Sl (Sl Int)) (row : Sl Int) (n k : Int) (seen : List Bool)  (v79 : Int) (h1 : k < (row.l.length : Int)) (h2 : 0 ≤ k ∧ k < (row.l.length : Int)) (h3 : row.l[k.toNat]? = some v79) (h4 : v79 ≥ 0) (h5 : v79 < (adj.l.length : Int)) (h6 : 0 ≤ v79 ∧ v79 < (adj.l.length : Int)) (h7 : seen[v79.toNat]? = some false) (h8 : 0 ≤ v79 ∧ v79 < (seen.length : Int)) (h9 : -9223372036854775808 ≤ k + 1 ∧ k + 1 ≤ 9223372036854775807) : X.Go 25 114 [] (sub b25 [1, 1, 1, 1, 0, 1, 0, 0, 1, 0, 0, 1, 1, 0, 0]) ⟨fl [(0, .c (eSl adj)), (5, .ms 0 1 0 adj.l.length 1 true), (6, .c (.sl true true [] 0)), (8, dInt n), (9, .c (eSl row)), (10, dInt k)], ⟨[⟨1, dcells seen⟩], []⟩⟩ .normal ⟨fl [(0, .c (eSl adj)), (5, .ms 0 1 0 adj.l.length 1 true), (6, .ap false (cells ([v79] : List Int)) 1 1), (8, dInt n), (9, .c (eSl row)), (10, dInt (k + 1))], ⟨[⟨1, dcells (seen.set v79.toNat true)⟩], []⟩⟩ :=
  Sys.go [((14, 3), .b true), ((16, 2), .ix), ((16, 3), .cell (cInt v79)), ((16, 4), .b true), ((16, 8), .ix), ((16, 9), .cell (cInt v79)), ((16, 12), .b true), ((16, 18), .ix), ((16, 19), .cell (cInt v79)), ((16, 20), .ix), ((16, 21), .cell (.sc (.bool false))), ((17, 3), .ix), ((17, 4), .cell (cInt v79)), ((17, 5), .ix), ((17, 6), .st (dcells (seen.set v79.toNat true))), ((18, 3), .ix), ((18, 4), .cell (cInt v79)), ((15, 1), .n)] (And.intro (h1) (And.intro (And.intro (Sl.empty row) h2) (And.intro (cell_at 0 (c := cInt v79) rfl h3) (And.intro (h4) (And.intro (And.intro (Sl.empty row) h2) (And.intro (cell_at 0 (c := cInt v79) rfl h3) (And.intro (h5) (And.intro (And.intro (Sl.empty row) h2) (And.intro (cell_at 0 (c := cInt v79) rfl h3) (And.intro (h6) (And.intro (And.intro (rfl : (1 : Nat) = 1) (dcell_at' 0 (c := .sc (.bool false)) rfl h7)) (And.intro (And.intro (Sl.empty row) h2) (And.intro (cell_at 0 (c := cInt v79) rfl h3) (And.intro (h6) (And.intro (And.intro (rfl : (1 : Nat) = 1) (dst_all true h8)) (And.intro (And.intro (Sl.empty row) h2) (And.intro (cell_at 0 (c := cInt v79) rfl h3) (h9)))))))))))))))))) (by kernel_rfl)
theorem marksCn_3 (adj : Sl (Sl Int)) (row : Sl Int) (n k : Int) (seen : List Bool)  (v79 : Int) (h1 : k < (row.l.length : Int)) (h2 : 0 ≤ k ∧ k < (row.l.length : Int)) (h3 : row.l[k.toNat]? = some v79) (h4 : v79 ≥ 0) (h5 : ¬ v79 < (adj.l.length : Int)) (h6 : -9223372036854775808 ≤ k + 1 ∧ k + 1 ≤ 9223372036854775807) : X.Go 25 114 [] (sub b25 [1, 1, 1, 1, 0, 1, 0, 0, 1, 0, 0, 1, 1, 0, 0]) ⟨fl [(0, .c (eSl adj)), (5, .ms 0 1 0 adj.l.length 1 true), (6, .c (.sl true true [] 0)), (8, dInt n), (9, .c (eSl row)), (10, dInt k)], ⟨[⟨1, dcells seen⟩], []⟩⟩ .normal ⟨fl [(0, .c (eSl adj)), (5, .ms 0 1 0 adj.l.length 1 true), (6, .c (.sl true true [] 0)), (8, dInt n), (9, .c (eSl row)), (10, dInt (k + 1))], ⟨[⟨1, dcells seen⟩], []⟩⟩ :=
  Sys.go [((14, 3), .b true), ((16, 2), .ix), ((16, 3), .cell (cInt v79)), ((16, 4), .b true), ((16, 8), .ix), ((16, 9), .cell (cInt v79)), ((16, 12), .b false), ((15, 1), .n)] (And.intro (h1) (And.intro (And.intro (Sl.empty row) h2) (And.intro (cell_at 0 (c := cInt v79) rfl h3) (And.intro (h4) (And.intro (And.intro (Sl.empty row) h2) (And.intro (cell_at 0 (c := cInt v79) rfl h3) (And.intro (h5) (h6)))))))) (by kernel_rfl)
theorem marksCn_4 (adj : Sl (Sl Int)) (row : Sl Int) (n k : Int) (seen : List Bool)  (v79 : Int) (h1 : k < (row.l.length : Int)) (h2 : 0 ≤ k ∧ k < (row.l.length : Int)) (h3 : row.l[k.toNat]? = some v79) (h4 : ¬ v79 ≥ 0) (h5 : -9223372036854775808 ≤ k + 1 ∧ k + 1 ≤ 9223372036854775807) : X.Go 25 114 [] (sub b25 [1, 1, 1, 1, 0, 1, 0, 0, 1, 0, 0, 1, 1, 0, 0]) ⟨fl [(0, .c (eSl adj)), (5, .ms 0 1 0 adj.l.length 1 true), (6, .c (.sl true true [] 0)), (8, dInt n), (9, .c (eSl row)), (10, dInt k)], ⟨[⟨1, dcells seen⟩], []⟩⟩ .normal ⟨fl [(0, .c (eSl adj)), (5, .ms 0 1 0 adj.l.length 1 true), (6, .c (.sl true true [] 0)), (8, dInt n), (9, .c (eSl row)), (10, dInt (k + 1))], ⟨[⟨1, dcells seen⟩], []⟩⟩ :=
  Sys.go [((14, 3), .b true), ((16, 2), .ix), ((16, 3), .cell (cInt v79)), ((16, 4), .b false), ((15, 1), .n)] (And.intro (h1) (And.intro (And.intro (Sl.empty row) h2) (And.intro (cell_at 0 (c := cInt v79) rfl h3) (And.intro (h4) (h5))))) (by kernel_rfl)
theorem marksCn_5 (adj : Sl (Sl Int)) (row : Sl Int) (n k : Int) (seen : List Bool)  (h1 : ¬ k < (row.l.length : Int)) : X.Go 25 114 [] (sub b25 [1, 1, 1, 1, 0, 1, 0, 0, 1, 0, 0, 1, 1, 0, 0]) ⟨fl [(0, .c (eSl adj)), (5, .ms 0 1 0 adj.l.length 1 true), (6, .c (.sl true true [] 0)), (8, dInt n), (9, .c (eSl row)), (10, dInt k)], ⟨[⟨1, dcells seen⟩], []⟩⟩ (.exit 4) ⟨fl [(0, .c (eSl adj)), (5, .ms 0 1 0 adj.l.length 1 true), (6, .c (.sl true true [] 0)), (8, dInt n), (9, .c (eSl row)), (10, dInt k), (73, dB false)], ⟨[⟨1, dcells seen⟩], []⟩⟩ :=
  Sys.go [((14, 3), .b false)] (h1) (by kernel_rfl)
theorem marksCf_1 (adj : Sl (Sl Int)) (row : Sl Int) (n k : Int) (seen : List Bool) (list : List Int) (v79 : Int) (h1 : k < (row.l.length : Int)) (h2 : 0 ≤ k ∧ k < (row.l.length : Int)) (h3 : row.l[k.toNat]? = some v79) (h4 : v79 ≥ 0) (h5 : v79 < (adj.l.length : Int)) (h6 : 0 ≤ v79 ∧ v79 < (adj.l.length : Int)) (h7 : seen[v79.toNat]? = some true) (h8 : -9223372036854775808 ≤ k + 1 ∧ k + 1 ≤ 9223372036854775807) : X.Go 25 114 [] (sub b25 [1, 1, 1, 1, 0, 1, 0, 0, 1, 0, 0, 1, 1, 0, 0]) ⟨fl [(0, .c (eSl adj)), (5, .ms 0 1 0 adj.l.length 1 true), (6, .ap false (cells list) list.length 1), (8, dInt n), (9, .c (eSl row)), (10, dInt k)], ⟨[⟨1, dcells seen⟩], []⟩⟩ .normal ⟨fl [(0, .c (eSl adj)), (5, .ms 0 1 0 adj.l.length 1 true), (6, .ap false (cells list) list.length 1), (8, dInt n), (9, .c (eSl row)), (10, dInt (k + 1))], ⟨[⟨1, dcells seen⟩], []⟩⟩ :=
  Sys.go [((14, 3), .b true), ((16, 2), .ix), ((16, 3), .cell (cInt v79)), ((16, 4), .b true), ((16, 8), .ix), ((16, 9), .cell (cInt v79)), ((16, 12), .b true), ((16, 18), .ix), ((16, 19), .cell (cInt v79)), ((16, 20), .ix), ((16, 21), .cell (.sc (.bool true))), ((15, 1), .n)] (And.intro (h1) (And.intro (And.intro (Sl.empty row) h2) (And.intro (cell_at 0 (c := cInt v79) rfl h3) (And.intro (h4) (And.intro (And.intro (Sl.empty row) h2) (And.intro (cell_at 0 (c := cInt v79) rfl h3) (And.intro (h5) (And.intro (And.intro (Sl.empty row) h2) (And.intro (cell_at 0 (c := cInt v79) rfl h3) (And.intro (h6) (And.intro (And.intro (rfl : (1 : Nat) = 1) (dcell_at' 0 (c := .sc (.bool true)) rfl h7)) (h8)))))))))))) (by kernel_rfl)
theorem marksCf_2 (adj : Sl (Sl Int)) (row : Sl Int) (n k : Int) (seen : List Bool) (list : List Int) (v79 : Int) (h1 : k < (row.l.length : Int)) (h2 : 0 ≤ k ∧ k < (row.l.length : Int)) (h3 : row.l[k.toNat]? = some v79) (h4 : v79 ≥ 0) (h5 : v79 < (adj.l.length : Int)) (h6 : 0 ≤ v79 ∧ v79 < (adj.l.length : Int)) (h7 : seen[v79.toNat]? = some false) (h8 : 0 ≤ v79 ∧ v79 < (seen.length : Int)) (h9 : (list ++ ([v79] : List Int)).length * 8 ≤ 140737488355328) (h10 : -9223372036854775808 ≤ k + 1 ∧ k + 1 ≤ 9223372036854775807) : X.Go 25 114 [] (sub b25 [1, 1, 1, 1, 0, 1, 0, 0, 1, 0, 0, 1, 1, 0, 0]) ⟨fl [(0, .c (eSl adj)), (5, .ms 0 1 0 adj.l.length 1 true), (6, .ap false (cells list) list.length 1), (8, dInt n), (9, .c (eSl row)), (10, dInt k)], ⟨[⟨1, dcells seen⟩], []⟩⟩ .normal ⟨fl [(0, .c (eSl adj)), (5, .ms 0 1 0 adj.l.length 1 true), (6, .ap false (cells (list ++ ([v79] : List Int))) ((list ++ ([v79] : List Int)).length) 1), (8, dInt n), (9, .c (eSl row)), (10, dInt (k + 1))], ⟨[⟨1, dcells (seen.set v79.toNat true)⟩], []⟩⟩ :=
  Sys.go [((14, 3), .b true), ((16, 2), .ix), ((16, 3), .cell (cInt v79)), ((16, 4), .b true), ((16, 8), .ix), ((16, 9), .cell (cInt v79)), ((16, 12), .b true), ((16, 18), .ix), ((16, 19), .cell (cInt v79)), ((16, 20), .ix), ((16, 21), .cell (.sc (.bool false))), ((17, 3), .ix), ((17, 4), .cell (cInt v79)), ((17, 5), .ix), ((17, 6), .st (dcells (seen.set v79.toNat true))), ((18, 3), .ix), ((18, 4), .cell (cInt v79)), ((18, 6), .app (cells (list ++ ([v79] : List Int))) (list ++ ([v79] : List Int)).length), ((15, 1), .n)] (And.intro (h1) (And.intro (And.intro (Sl.empty row) h2) (And.intro (cell_at 0 (c := cInt v79) rfl h3) (And.intro (h4) (And.intro (And.intro (Sl.empty row) h2) (And.intro (cell_at 0 (c := cInt v79) rfl h3) (And.intro (h5) (And.intro (And.intro (Sl.empty row) h2) (And.intro (cell_at 0 (c := cInt v79) rfl h3) (And.intro (h6) (And.intro (And.intro (rfl : (1 : Nat) = 1) (dcell_at' 0 (c := .sc (.bool false)) rfl h7)) (And.intro (And.intro (Sl.empty row) h2) (And.intro (cell_at 0 (c := cInt v79) rfl h3) (And.intro (h6) (And.intro (And.intro (rfl : (1 : Nat) = 1) (dst_all true h8)) (And.intro (And.intro (Sl.empty row) h2) (And.intro (cell_at 0 (c := cInt v79) rfl h3) (And.intro (app_ok list ([v79] : List Int) (b := 8) (by decide) h9) (h10))))))))))))))))))) (by kernel_rfl)
theorem marksCf_3 (adj : Sl (Sl Int)) (row : Sl Int) (n k : Int) (seen : List Bool) (list : List Int) (v79 : Int) (h1 : k < (row.l.length : Int)) (h2 : 0 ≤ k ∧ k < (row.l.length : Int)) (h3 : row.l[k.toNat]? = some v79) (h4 : v79 ≥ 0) (h5 : ¬ v79 < (adj.l.length : Int)) (h6 : -9223372036854775808 ≤ k + 1 ∧ k + 1 ≤ 9223372036854775807) : X.Go 25 114 [] (sub b25 [1, 1, 1, 1, 0, 1, 0, 0, 1, 0, 0, 1, 1, 0, 0]) ⟨fl [(0, .c (eSl adj)), (5, .ms 0 1 0 adj.l.length 1 true), (6, .ap false (cells list) list.length 1), (8, dInt n), (9, .c (eSl row)), (10, dInt k)], ⟨[⟨1, dcells seen⟩], []⟩⟩ .normal ⟨fl [(0, .c (eSl adj)), (5, .ms 0 1 0 adj.l.length 1 true), (6, .ap false (cells list) list.length 1), (8, dInt n), (9, .c (eSl row)), (10, dInt (k + 1))], ⟨[⟨1, dcells seen⟩], []⟩⟩ :=
  Sys.go [((14, 3), .b true), ((16, 2), .ix), ((16, 3), .cell (cInt v79)), ((16, 4), .b true), ((16, 8), .ix), ((16, 9), .cell (cInt v79)), ((16, 12), .b false), ((15, 1), .n)] (And.intro (h1) (And.intro (And.intro (Sl.empty row) h2) (And.intro (cell_at 0 (c := cInt v79) rfl h3) (And.intro (h4) (And.intro (And.intro (Sl.empty row) h2) (And.intro (cell_at 0 (c := cInt v79) rfl h3) (And.intro (h5) (h6)))))))) (by kernel_rfl)
theorem marksCf_4 (adj : Sl (Sl Int)) (row : Sl Int) (n k : Int) (seen : List Bool) (list : List Int) (v79 : Int) (h1 : k < (row.l.length : Int)) (h2 : 0 ≤ k ∧ k < (row.l.length : Int)) (h3 : row.l[k.toNat]? = some v79) (h4 : ¬ v79 ≥ 0) (h5 : -9223372036854775808 ≤ k + 1 ∧ k + 1 ≤ 9223372036854775807) : X.Go 25 114 [] (sub b25 [1, 1, 1, 1, 0, 1, 0, 0, 1, 0, 0, 1, 1, 0, 0]) ⟨fl [(0, .c (eSl adj)), (5, .ms 0 1 0 adj.l.length 1 true), (6, .ap false (cells list) list.length 1), (8, dInt n), (9, .c (eSl row)), (10, dInt k)], ⟨[⟨1, dcells seen⟩], []⟩⟩ .normal ⟨fl [(0, .c (eSl adj)), (5, .ms 0 1 0 adj.l.length 1 true), (6, .ap false (cells list) list.length 1), (8, dInt n), (9, .c (eSl row)), (10, dInt (k + 1))], ⟨[⟨1, dcells seen⟩], []⟩⟩ :=
  Sys.go [((14, 3), .b true), ((16, 2), .ix), ((16, 3), .cell (cInt v79)), ((16, 4), .b false), ((15, 1), .n)] (And.intro (h1) (And.intro (And.intro (Sl.empty row) h2) (And.intro (cell_at 0 (c := cInt v79) rfl h3) (And.intro (h4) (h5))))) (by kernel_rfl)
theorem marksCf_5 (adj : Sl (Sl Int)) (row : Sl Int) (n k : Int) (seen : List Bool) (list : List Int) (h1 : ¬ k < (row.l.length : Int)) : X.Go 25 114 [] (sub b25 [1, 1, 1, 1, 0, 1, 0, 0, 1, 0, 0, 1, 1, 0, 0]) ⟨fl [(0, .c (eSl adj)), (5, .ms 0 1 0 adj.l.length 1 true), (6, .ap false (cells list) list.length 1), (8, dInt n), (9, .c (eSl row)), (10, dInt k)], ⟨[⟨1, dcells seen⟩], []⟩⟩ (.exit 4) ⟨fl [(0, .c (eSl adj)), (5, .ms 0 1 0 adj.l.length 1 true), (6, .ap false (cells list) list.length 1), (8, dInt n), (9, .c (eSl row)), (10, dInt k), (73, dB false)], ⟨[⟨1, dcells seen⟩], []⟩⟩ :=
  Sys.go [((14, 3), .b false)] (h1) (by kernel_rfl)
theorem marksC_1 (adj : Sl (Sl Int)) (row : Sl Int) (n k : Int) (seen : List Bool) (list : List Int) (v79 : Int) (h1 : k < (row.l.length : Int)) (h2 : 0 ≤ k ∧ k < (row.l.length : Int)) (h3 : row.l[k.toNat]? = some v79) (h4 : v79 ≥ 0) (h5 : v79 < (adj.l.length : Int)) (h6 : 0 ≤ v79 ∧ v79 < (adj.l.length : Int)) (h7 : seen[v79.toNat]? = some true) (h8 : -9223372036854775808 ≤ k + 1 ∧ k + 1 ≤ 9223372036854775807) : X.Go 25 114 [] (sub b25 [1, 1, 1, 1, 0, 1, 0, 0, 1, 0, 0, 1, 1, 0, 0]) ⟨fl [(0, .c (eSl adj)), (5, .ms 0 1 0 adj.l.length 1 true), (6, apv list), (8, dInt n), (9, .c (eSl row)), (10, dInt k)], ⟨[⟨1, dcells seen⟩], []⟩⟩ .normal ⟨fl [(0, .c (eSl adj)), (5, .ms 0 1 0 adj.l.length 1 true), (6, apv list), (8, dInt n), (9, .c (eSl row)), (10, dInt (k + 1))], ⟨[⟨1, dcells seen⟩], []⟩⟩ :=
  by (cases list with | nil => exact marksCn_1 adj row n k seen v79 h1 h2 h3 h4 h5 h6 h7 h8 | cons _ _ => exact marksCf_1 adj row n k seen _ v79 h1 h2 h3 h4 h5 h6 h7 h8)
theorem marksC_2 (adj : Sl (Sl Int)) (row : Sl Int) (n k : Int) (seen : List Bool) (list : List Int) (v79 : Int) (h1 : k < (row.l.length : Int)) (h2 : 0 ≤ k ∧ k < (row.l.length : Int)) (h3 : row.l[k.toNat]? = some v79) (h4 : v79 ≥ 0) (h5 : v79 < (adj.l.length : Int)) (h6 : 0 ≤ v79 ∧ v79 < (adj.l.length : Int)) (h7 : seen[v79.toNat]? = some false) (h8 : 0 ≤ v79 ∧ v79 < (seen.length : Int)) (h9 : (list ++ ([v79] : List Int)).length * 8 ≤ 140737488355328) (h10 : -9223372036854775808 ≤ k + 1 ∧ k + 1 ≤ 9223372036854775807) : X.Go 25 114 [] (sub b25 [1, 1, 1, 1, 0, 1, 0, 0, 1, 0, 0, 1, 1, 0, 0]) ⟨fl [(0, .c (eSl adj)), (5, .ms 0 1 0 adj.l.length 1 true), (6, apv list), (8, dInt n), (9, .c (eSl row)), (10, dInt k)], ⟨[⟨1, dcells seen⟩], []⟩⟩ .normal ⟨fl [(0, .c (eSl adj)), (5, .ms 0 1 0 adj.l.length 1 true), (6, apv (list ++ ([v79] : List Int))), (8, dInt n), (9, .c (eSl row)), (10, dInt (k + 1))], ⟨[⟨1, dcells (seen.set v79.toNat true)⟩], []⟩⟩ :=
  by (cases list with | nil => exact marksCn_2 adj row n k seen v79 h1 h2 h3 h4 h5 h6 h7 h8 h10 | cons _ _ => exact marksCf_2 adj row n k seen _ v79 h1 h2 h3 h4 h5 h6 h7 h8 h9 h10)
theorem marksC_3 (adj : Sl (Sl Int)) (row : Sl Int) (n k : Int) (seen : List Bool) (list : List Int) (v79 : Int) (h1 : k < (row.l.length : Int)) (h2 : 0 ≤ k ∧ k < (row.l.length : Int)) (h3 : row.l[k.toNat]? = some v79) (h4 : v79 ≥ 0) (h5 : ¬ v79 < (adj.l.length : Int)) (h6 : -9223372036854775808 ≤ k + 1 ∧ k + 1 ≤ 9223372036854775807) : X.Go 25 114 [] (sub b25 [1, 1, 1, 1, 0, 1, 0, 0, 1, 0, 0, 1, 1, 0, 0]) ⟨fl [(0, .c (eSl adj)), (5, .ms 0 1 0 adj.l.length 1 true), (6, apv list), (8, dInt n), (9, .c (eSl row)), (10, dInt k)], ⟨[⟨1, dcells seen⟩], []⟩⟩ .normal ⟨fl [(0, .c (eSl adj)), (5, .ms 0 1 0 adj.l.length 1 true), (6, apv list), (8, dInt n), (9, .c (eSl row)), (10, dInt (k + 1))], ⟨[⟨1, dcells seen⟩], []⟩⟩ :=
  by (cases list with | nil => exact marksCn_3 adj row n k seen v79 h1 h2 h3 h4 h5 h6 | cons _ _ => exact marksCf_3 adj row n k seen _ v79 h1 h2 h3 h4 h5 h6)
theorem marksC_4 (adj : Sl (Sl Int)) (row : Sl Int) (n k : Int) (seen : List Bool) (list : List Int) (v79 : Int) (h1 : k < (row.l.length : Int)) (h2 : 0 ≤ k ∧ k < (row.l.length : Int)) (h3 : row.l[k.toNat]? = some v79) (h4 : ¬ v79 ≥ 0) (h5 : -9223372036854775808 ≤ k + 1 ∧ k + 1 ≤ 9223372036854775807) : X.Go 25 114 [] (sub b25 [1, 1, 1, 1, 0, 1, 0, 0, 1, 0, 0, 1, 1, 0, 0]) ⟨fl [(0, .c (eSl adj)), (5, .ms 0 1 0 adj.l.length 1 true), (6, apv list), (8, dInt n), (9, .c (eSl row)), (10, dInt k)], ⟨[⟨1, dcells seen⟩], []⟩⟩ .normal ⟨fl [(0, .c (eSl adj)), (5, .ms 0 1 0 adj.l.length 1 true), (6, apv list), (8, dInt n), (9, .c (eSl row)), (10, dInt (k + 1))], ⟨[⟨1, dcells seen⟩], []⟩⟩ :=
  by (cases list with | nil => exact marksCn_4 adj row n k seen v79 h1 h2 h3 h4 h5 | cons _ _ => exact marksCf_4 adj row n k seen _ v79 h1 h2 h3 h4 h5)
theorem marksC_5 (adj : Sl (Sl Int)) (row : Sl Int) (n k : Int) (seen : List Bool) (list : List Int) (h1 : ¬ k < (row.l.length : Int)) : X.Go 25 114 [] (sub b25 [1, 1, 1, 1, 0, 1, 0, 0, 1, 0, 0, 1, 1, 0, 0]) ⟨fl [(0, .c (eSl adj)), (5, .ms 0 1 0 adj.l.length 1 true), (6, apv list), (8, dInt n), (9, .c (eSl row)), (10, dInt k)], ⟨[⟨1, dcells seen⟩], []⟩⟩ (.exit 4) ⟨fl [(0, .c (eSl adj)), (5, .ms 0 1 0 adj.l.length 1 true), (6, apv list), (8, dInt n), (9, .c (eSl row)), (10, dInt k), (73, dB false)], ⟨[⟨1, dcells seen⟩], []⟩⟩ :=
  by (cases list with | nil => exact marksCn_5 adj row n k seen h1 | cons _ _ => exact marksCf_5 adj row n k seen _ h1)
theorem marksBn_1 (adj : Sl (Sl Int)) (n : Int) (seen : List Bool)  (h1 : ¬ n < 0) : X.Go 25 114 [] (sub b25 [1, 1, 1, 1, 0, 1, 0, 0]) ⟨fl [(0, .c (eSl adj)), (5, .ms 0 1 0 adj.l.length 1 true), (6, .c (.sl true true [] 0)), (8, dInt n)], ⟨[⟨1, dcells seen⟩], []⟩⟩ (.exit 2) ⟨fl [(0, .c (eSl adj)), (5, .ms 0 1 0 adj.l.length 1 true), (6, .c (.sl true true [] 0)), (8, dInt n), (60, dB false)], ⟨[⟨1, dcells seen⟩], []⟩⟩ :=
  Sys.go [((10, 3), .b false)] (h1) (by kernel_rfl)
theorem marksBf_1 (adj : Sl (Sl Int)) (n : Int) (seen : List Bool) (list : List Int) (v67 : Int) (v69 : Sl Int) (list' : List Int) (seen' : List Bool) (k : Int) (h1 : n < (list.length : Int)) (h2 : 0 ≤ n ∧ n < (list.length : Int)) (h3 : list[n.toNat]? = some v67) (h4 : 0 ≤ v67 ∧ v67 < (adj.l.length : Int)) (h5 : adj.l[v67.toNat]? = some v69) (h6 : X.Go 25 114 [] (sub b25 [1, 1, 1, 1, 0, 1, 0, 0, 1, 0, 0, 1, 1, 0]) ⟨fl [(0, .c (eSl adj)), (5, .ms 0 1 0 adj.l.length 1 true), (6, .ap false (cells list) list.length 1), (8, dInt n), (9, .c (eSl v69)), (10, dInt 0)], ⟨[⟨1, dcells seen⟩], []⟩⟩ (.exit 4) ⟨fl [(0, .c (eSl adj)), (5, .ms 0 1 0 adj.l.length 1 true), (6, apv list'), (8, dInt n), (9, .c (eSl v69)), (10, dInt k), (73, dB false)], ⟨[⟨1, dcells seen'⟩], []⟩⟩) (h7 : -9223372036854775808 ≤ n + 1 ∧ n + 1 ≤ 9223372036854775807) : X.Go 25 114 [] (sub b25 [1, 1, 1, 1, 0, 1, 0, 0]) ⟨fl [(0, .c (eSl adj)), (5, .ms 0 1 0 adj.l.length 1 true), (6, .ap false (cells list) list.length 1), (8, dInt n)], ⟨[⟨1, dcells seen⟩], []⟩⟩ .normal ⟨fl [(0, .c (eSl adj)), (5, .ms 0 1 0 adj.l.length 1 true), (6, apv list'), (8, dInt (n + 1))], ⟨[⟨1, dcells seen'⟩], []⟩⟩ :=
  Sys.go [((10, 3), .b true), ((12, 3), .ix), ((12, 4), .cell (cInt v67)), ((12, 5), .ix), ((12, 6), .cell (eSl v69)), ((14, 1000), .code (.exit 4) ⟨fl [(0, .c (eSl adj)), (5, .ms 0 1 0 adj.l.length 1 true), (6, apv list'), (8, dInt n), (9, .c (eSl v69)), (10, dInt k), (73, dB false)], ⟨[⟨1, dcells seen'⟩], []⟩⟩), ((11, 1), .n)] (And.intro (h1) (And.intro (And.intro (@noNil list.length) h2) (And.intro (cell_at 0 (c := cInt v67) rfl h3) (And.intro (And.intro (Sl.empty adj) h4) (And.intro (cell_at 0 (c := eSl v69) rfl h5) (And.intro (h6) (h7))))))) (by kernel_rfl)
theorem marksBf_2 (adj : Sl (Sl Int)) (n : Int) (seen : List Bool) (list : List Int) (h1 : ¬ n < (list.length : Int)) : X.Go 25 114 [] (sub b25 [1, 1, 1, 1, 0, 1, 0, 0]) ⟨fl [(0, .c (eSl adj)), (5, .ms 0 1 0 adj.l.length 1 true), (6, .ap false (cells list) list.length 1), (8, dInt n)], ⟨[⟨1, dcells seen⟩], []⟩⟩ (.exit 2) ⟨fl [(0, .c (eSl adj)), (5, .ms 0 1 0 adj.l.length 1 true), (6, .ap false (cells list) list.length 1), (8, dInt n), (60, dB false)], ⟨[⟨1, dcells seen⟩], []⟩⟩ :=
  Sys.go [((10, 3), .b false)] (h1) (by kernel_rfl)
theorem marksM_1 (adj : Sl (Sl Int)) (fr : Sl Int) (list : List Int) (seen : List Bool) (i : Int) (list' : List Int) (seen' : List Bool) (n : Int) (h1 : 1 * adj.l.length ≤ 281474976710656 ∧ adj.l.length ≤ 9223372036854775807) (h2 : X.Go 25 114 [] (sub b25 [1, 1, 1, 0, 1, 0]) ⟨fl [(0, .c (eSl adj)), (1, .c (eSl fr)), (5, .ms 0 1 0 adj.l.length 1 true), (6, .c (.sl true true [] 0)), (7, dInt 0)], ⟨[⟨1, dcells (List.replicate adj.l.length (false : Bool))⟩], []⟩⟩ (.exit 0) ⟨fl [(0, .c (eSl adj)), (1, .c (eSl fr)), (5, .ms 0 1 0 adj.l.length 1 true), (6, apv list), (7, dInt i), (17, dB false)], ⟨[⟨1, dcells seen⟩], []⟩⟩) (h3 : X.Go 25 114 [] (sub b25 [1, 1, 1, 1, 0, 1, 0]) ⟨fl [(0, .c (eSl adj)), (5, .ms 0 1 0 adj.l.length 1 true), (6, apv list), (8, dInt 0)], ⟨[⟨1, dcells seen⟩], []⟩⟩ (.exit 2) ⟨fl [(0, .c (eSl adj)), (5, .ms 0 1 0 adj.l.length 1 true), (6, apv list'), (8, dInt n), (60, dB false)], ⟨[⟨1, dcells seen'⟩], []⟩⟩) (hn : seen'.length = adj.l.length) : X.RunsC 25 [.c (eSl adj), .c (eSl fr)] (.c (.sl false true (cells seen') seen'.length)) :=
  Sys.callC (Sys.call (X := X) (args := [.c (eSl adj), .c (eSl fr)]) (m := ⟨[], []⟩) (d := .ms 0 1 0 adj.l.length 1 true) (m' := ⟨[⟨1, dcells seen'⟩], []⟩) (Sys.go (f := 25) (nt := 114) (Γ := []) (c := b25) (s := ⟨argFr [.c (eSl adj), .c (eSl fr)], ⟨[], []⟩⟩) (ex := .ret) (s' := ⟨fl [(4, .ms 0 1 0 adj.l.length 1 true)], ⟨[⟨1, dcells seen'⟩], []⟩⟩) [((1, 2), .mk (dcells (List.replicate adj.l.length (false : Bool))) true), ((4, 1000), .code (.exit 0) ⟨fl [(0, .c (eSl adj)), (1, .c (eSl fr)), (5, .ms 0 1 0 adj.l.length 1 true), (6, apv list), (7, dInt i), (17, dB false)], ⟨[⟨1, dcells seen⟩], []⟩⟩), ((10, 1000), .code (.exit 2) ⟨fl [(0, .c (eSl adj)), (5, .ms 0 1 0 adj.l.length 1 true), (6, apv list'), (8, dInt n), (60, dB false)], ⟨[⟨1, dcells seen'⟩], []⟩⟩)] (And.intro (mk_ok (false : Bool) h1) (And.intro (h2) (h3))) (by kernel_rfl)) (fn := Try.f25) (by kernel_rfl) (by kernel_rfl) rfl (by kernel_rfl) rfl) (closeTop_msn (o := ⟨1, dcells seen'⟩) (r := []) hn (getO_of rfl rfl) (List.append_nil _).symm rfl)
theorem rreachBn_1 (m : Sl Bool) (i : Int)  (h1 : i < (m.l.length : Int)) (h2 : 0 ≤ i ∧ i < (m.l.length : Int)) (h3 : m.l[i.toNat]? = some true) (h4 : -9223372036854775808 ≤ i + 1 ∧ i + 1 ≤ 9223372036854775807) : X.Go 13 26 [] (sub b13 [1, 1, 1, 0, 1, 0, 0]) ⟨fl [(5, .c (eSl m)), (6, .c (.sl true true [] 0)), (7, dInt i)], ⟨[], []⟩⟩ .normal ⟨fl [(5, .c (eSl m)), (6, .ap false (cells ([i] : List Int)) 1 1), (7, dInt (i + 1))], ⟨[], []⟩⟩ :=
  Sys.go [((4, 3), .b true), ((6, 2), .ix), ((6, 3), .cell (.sc (.bool true))), ((5, 1), .n)] (And.intro (h1) (And.intro (And.intro (Sl.empty m) h2) (And.intro (cell_at 0 (c := .sc (.bool true)) rfl h3) (h4)))) (by kernel_rfl)
theorem rreachBn_2 (m : Sl Bool) (i : Int)  (h1 : i < (m.l.length : Int)) (h2 : 0 ≤ i ∧ i < (m.l.length : Int)) (h3 : m.l[i.toNat]? = some false) (h4 : -9223372036854775808 ≤ i + 1 ∧ i + 1 ≤ 9223372036854775807) : X.Go 13 26 [] (sub b13 [1, 1, 1, 0, 1, 0, 0]) ⟨fl [(5, .c (eSl m)), (6, .c (.sl true true [] 0)), (7, dInt i)], ⟨[], []⟩⟩ .normal ⟨fl [(5, .c (eSl m)), (6, .c (.sl true true [] 0)), (7, dInt (i + 1))], ⟨[], []⟩⟩ :=
  Sys.go [((4, 3), .b true), ((6, 2), .ix), ((6, 3), .cell (.sc (.bool false))), ((5, 1), .n)] (And.intro (h1) (And.intro (And.intro (Sl.empty m) h2) (And.intro (cell_at 0 (c := .sc (.bool false)) rfl h3) (h4)))) (by kernel_rfl)
theorem rreachBn_3 (m : Sl Bool) (i : Int)  (h1 : ¬ i < (m.l.length : Int)) : X.Go 13 26 [] (sub b13 [1, 1, 1, 0, 1, 0, 0]) ⟨fl [(5, .c (eSl m)), (6, .c (.sl true true [] 0)), (7, dInt i)], ⟨[], []⟩⟩ (.exit 0) ⟨fl [(5, .c (eSl m)), (6, .c (.sl true true [] 0)), (7, dInt i), (14, dB false)], ⟨[], []⟩⟩ :=
  Sys.go [((4, 3), .b false)] (h1) (by kernel_rfl)
theorem rreachBf_1 (m : Sl Bool) (i : Int) (list : List Int) (h1 : i < (m.l.length : Int)) (h2 : 0 ≤ i ∧ i < (m.l.length : Int)) (h3 : m.l[i.toNat]? = some true) (h4 : (list ++ ([i] : List Int)).length * 8 ≤ 140737488355328) (h5 : -9223372036854775808 ≤ i + 1 ∧ i + 1 ≤ 9223372036854775807) : X.Go 13 26 [] (sub b13 [1, 1, 1, 0, 1, 0, 0]) ⟨fl [(5, .c (eSl m)), (6, .ap false (cells list) list.length 1), (7, dInt i)], ⟨[], []⟩⟩ .normal ⟨fl [(5, .c (eSl m)), (6, .ap false (cells (list ++ ([i] : List Int))) ((list ++ ([i] : List Int)).length) 1), (7, dInt (i + 1))], ⟨[], []⟩⟩ :=
  Sys.go [((4, 3), .b true), ((6, 2), .ix), ((6, 3), .cell (.sc (.bool true))), ((7, 3), .app (cells (list ++ ([i] : List Int))) (list ++ ([i] : List Int)).length), ((5, 1), .n)] (And.intro (h1) (And.intro (And.intro (Sl.empty m) h2) (And.intro (cell_at 0 (c := .sc (.bool true)) rfl h3) (And.intro (app_ok list ([i] : List Int) (b := 8) (by decide) h4) (h5))))) (by kernel_rfl)
theorem rreachBf_2 (m : Sl Bool) (i : Int) (list : List Int) (h1 : i < (m.l.length : Int)) (h2 : 0 ≤ i ∧ i < (m.l.length : Int)) (h3 : m.l[i.toNat]? = some false) (h4 : -9223372036854775808 ≤ i + 1 ∧ i + 1 ≤ 9223372036854775807) : X.Go 13 26 [] (sub b13 [1, 1, 1, 0, 1, 0, 0]) ⟨fl [(5, .c (eSl m)), (6, .ap false (cells list) list.length 1), (7, dInt i)], ⟨[], []⟩⟩ .normal ⟨fl [(5, .c (eSl m)), (6, .ap false (cells list) list.length 1), (7, dInt (i + 1))], ⟨[], []⟩⟩ :=
  Sys.go [((4, 3), .b true), ((6, 2), .ix), ((6, 3), .cell (.sc (.bool false))), ((5, 1), .n)] (And.intro (h1) (And.intro (And.intro (Sl.empty m) h2) (And.intro (cell_at 0 (c := .sc (.bool false)) rfl h3) (h4)))) (by kernel_rfl)
theorem rreachBf_3 (m : Sl Bool) (i : Int) (list : List Int) (h1 : ¬ i < (m.l.length : Int)) : X.Go 13 26 [] (sub b13 [1, 1, 1, 0, 1, 0, 0]) ⟨fl [(5, .c (eSl m)), (6, .ap false (cells list) list.length 1), (7, dInt i)], ⟨[], []⟩⟩ (.exit 0) ⟨fl [(5, .c (eSl m)), (6, .ap false (cells list) list.length 1), (7, dInt i), (14, dB false)], ⟨[], []⟩⟩ :=
  Sys.go [((4, 3), .b false)] (h1) (by kernel_rfl)
theorem rreachB_1 (m : Sl Bool) (i : Int) (list : List Int) (h1 : i < (m.l.length : Int)) (h2 : 0 ≤ i ∧ i < (m.l.length : Int)) (h3 : m.l[i.toNat]? = some true) (h4 : (list ++ ([i] : List Int)).length * 8 ≤ 140737488355328) (h5 : -9223372036854775808 ≤ i + 1 ∧ i + 1 ≤ 9223372036854775807) : X.Go 13 26 [] (sub b13 [1, 1, 1, 0, 1, 0, 0]) ⟨fl [(5, .c (eSl m)), (6, apv list), (7, dInt i)], ⟨[], []⟩⟩ .normal ⟨fl [(5, .c (eSl m)), (6, apv (list ++ ([i] : List Int))), (7, dInt (i + 1))], ⟨[], []⟩⟩ :=
  by (cases list with | nil => exact rreachBn_1 m i h1 h2 h3 h5 | cons _ _ => exact rreachBf_1 m i _ h1 h2 h3 h4 h5)
theorem rreachB_2 (m : Sl Bool) (i : Int) (list : List Int) (h1 : i < (m.l.length : Int)) (h2 : 0 ≤ i ∧ i < (m.l.length : Int)) (h3 : m.l[i.toNat]? = some false) (h4 : -9223372036854775808 ≤ i + 1 ∧ i + 1 ≤ 9223372036854775807) : X.Go 13 26 [] (sub b13 [1, 1, 1, 0, 1, 0, 0]) ⟨fl [(5, .c (eSl m)), (6, apv list), (7, dInt i)], ⟨[], []⟩⟩ .normal ⟨fl [(5, .c (eSl m)), (6, apv list), (7, dInt (i + 1))], ⟨[], []⟩⟩ :=
  by (cases list with | nil => exact rreachBn_2 m i h1 h2 h3 h4 | cons _ _ => exact rreachBf_2 m i _ h1 h2 h3 h4)
theorem rreachB_3 (m : Sl Bool) (i : Int) (list : List Int) (h1 : ¬ i < (m.l.length : Int)) : X.Go 13 26 [] (sub b13 [1, 1, 1, 0, 1, 0, 0]) ⟨fl [(5, .c (eSl m)), (6, apv list), (7, dInt i)], ⟨[], []⟩⟩ (.exit 0) ⟨fl [(5, .c (eSl m)), (6, apv list), (7, dInt i), (14, dB false)], ⟨[], []⟩⟩ :=
  by (cases list with | nil => exact rreachBn_3 m i h1 | cons _ _ => exact rreachBf_3 m i _ h1)
theorem rreachMn_1 (adj : Sl (Sl Int)) (fr : Sl Int) (r : Sl Bool) (i : Int) (h1 : X.RunsC 25 [.c (eSl adj), .c (eSl fr)] (.c (eSl r))) (h2 : X.Go 13 26 [] (sub b13 [1, 1, 1, 0, 1, 0]) ⟨fl [(5, .c (eSl r)), (6, .c (.sl true true [] 0)), (7, dInt 0)], ⟨[], []⟩⟩ (.exit 0) ⟨fl [(5, .c (eSl r)), (6, .c (.sl true true [] 0)), (7, dInt i), (14, dB false)], ⟨[], []⟩⟩) : X.RunsC 13 [.c (eSl adj), .c (eSl fr)] (.c (.sl true true [] 0)) :=
  Sys.callC (Sys.call (X := X) (args := [.c (eSl adj), .c (eSl fr)]) (m := ⟨[], []⟩) (d := .c (.sl true true [] 0)) (m' := ⟨[], []⟩) (Sys.go (f := 13) (nt := 26) (Γ := []) (c := b13) (s := ⟨argFr [.c (eSl adj), .c (eSl fr)], ⟨[], []⟩⟩) (ex := .ret) (s' := ⟨fl [(4, .c (.sl true true [] 0))], ⟨[], []⟩⟩) [((1, 2), .call (.c (eSl r)) ⟨[], []⟩), ((4, 1000), .code (.exit 0) ⟨fl [(5, .c (eSl r)), (6, .c (.sl true true [] 0)), (7, dInt i), (14, dB false)], ⟨[], []⟩⟩)] (And.intro (h1) (h2)) (by kernel_rfl)) (fn := Try.f13) (by kernel_rfl) (by kernel_rfl) rfl (by kernel_rfl) rfl) rfl
theorem rreachMf_1 (adj : Sl (Sl Int)) (fr : Sl Int) (r : Sl Bool) (list : List Int) (i : Int) (h1 : X.RunsC 25 [.c (eSl adj), .c (eSl fr)] (.c (eSl r))) (h2 : X.Go 13 26 [] (sub b13 [1, 1, 1, 0, 1, 0]) ⟨fl [(5, .c (eSl r)), (6, .c (.sl true true [] 0)), (7, dInt 0)], ⟨[], []⟩⟩ (.exit 0) ⟨fl [(5, .c (eSl r)), (6, .ap false (cells list) list.length 1), (7, dInt i), (14, dB false)], ⟨[], []⟩⟩) : X.RunsC 13 [.c (eSl adj), .c (eSl fr)] (.c (.sl false false (cells list) list.length)) :=
  Sys.callC (Sys.call (X := X) (args := [.c (eSl adj), .c (eSl fr)]) (m := ⟨[], []⟩) (d := .c (.sl false false (cells list) list.length)) (m' := ⟨[], []⟩) (Sys.go (f := 13) (nt := 26) (Γ := []) (c := b13) (s := ⟨argFr [.c (eSl adj), .c (eSl fr)], ⟨[], []⟩⟩) (ex := .ret) (s' := ⟨fl [(4, .c (.sl false false (cells list) list.length))], ⟨[], []⟩⟩) [((1, 2), .call (.c (eSl r)) ⟨[], []⟩), ((4, 1000), .code (.exit 0) ⟨fl [(5, .c (eSl r)), (6, .ap false (cells list) list.length 1), (7, dInt i), (14, dB false)], ⟨[], []⟩⟩)] (And.intro (h1) (h2)) (by kernel_rfl)) (fn := Try.f13) (by kernel_rfl) (by kernel_rfl) rfl (by kernel_rfl) rfl) rfl
theorem rreachM_1 (adj : Sl (Sl Int)) (fr : Sl Int) (r : Sl Bool) (list : List Int) (i : Int) (h1 : X.RunsC 25 [.c (eSl adj), .c (eSl fr)] (.c (eSl r))) (h2 : X.Go 13 26 [] (sub b13 [1, 1, 1, 0, 1, 0]) ⟨fl [(5, .c (eSl r)), (6, .c (.sl true true [] 0)), (7, dInt 0)], ⟨[], []⟩⟩ (.exit 0) ⟨fl [(5, .c (eSl r)), (6, apv list), (7, dInt i), (14, dB false)], ⟨[], []⟩⟩) : X.RunsC 13 [.c (eSl adj), .c (eSl fr)] (.c (eSl (apc list))) :=
  by (cases list with | nil => exact rreachMn_1 adj fr r i h1 h2 | cons _ _ => exact rreachMf_1 adj fr r _ i h1 h2)
end Go.Proofs.Ytclnpjnodmfkcaa

/-
  Graphs, as plain lists: who is reached.
-/
set_option linter.unusedVariables false
namespace Go.Proofs.Scc
open Go Go.Abs

abbrev Adj := List (Sl Int)
def Nod (A : Adj) (x : Int) : Prop := 0 ≤ x ∧ x < (A.length : Int)
def Arc (A : Adj) (x y : Int) : Prop := 0 ≤ x ∧ (∃ row, A[x.toNat]? = some row ∧ y ∈ row.l) ∧ Nod A y
inductive Way (A : Adj) : Int → Int → Prop
  | refl {x : Int} : Nod A x → Way A x x
  | step {x y z : Int} : Way A x y → Arc A y z → Way A x z
def Reached (A : Adj) (fr : List Int) (x : Int) : Prop := ∃ s, s ∈ fr ∧ Way A s x

theorem Arc.src {A : Adj} {x y : Int} (h : Arc A x y) : Nod A x := by
  obtain ⟨h0, ⟨row, h1, _⟩, _⟩ := h
  have := (List.getElem?_eq_some_iff.1 h1).1
  exact ⟨h0, by omega⟩
theorem Way.src {A : Adj} {x y : Int} (h : Way A x y) : Nod A x := by
  induction h with
  | refl h => exact h
  | step _ _ ih => exact ih
theorem Way.dst {A : Adj} {x y : Int} (h : Way A x y) : Nod A y := by
  cases h with
  | refl h => exact h
  | step _ h => exact h.2.2
theorem Way.trans {A : Adj} {x y z : Int} (h : Way A x y) (h' : Way A y z) : Way A x z := by
  induction h' with
  | refl _ => exact h
  | step _ ha ih => exact .step ih ha

theorem length_le_of_subset {α : Type} [DecidableEq α] : ∀ {l l' : List α}, l.Nodup → (∀ x ∈ l, x ∈ l') → l.length ≤ l'.length
  | [], _, _, _ => by simp
  | a :: l, l', hn, hs => by
    rw [List.nodup_cons] at hn
    have ha : a ∈ l' := hs a (by simp)
    have := length_le_of_subset (l := l) (l' := l'.erase a) hn.2 fun x hx => by
      have hne : x ≠ a := fun h => hn.1 (h ▸ hx)
      exact (List.mem_erase_of_ne hne).2 (hs x (by simp [hx]))
    rw [List.length_erase_of_mem ha] at this
    have hpos : 0 < l'.length := List.length_pos_of_mem ha
    simp only [List.length_cons]; omega
theorem nodes_le {l : List Int} {n : Nat} (hn : l.Nodup) (h : ∀ x ∈ l, 0 ≤ x ∧ x < (n : Int)) : l.length ≤ n := by
  have := length_le_of_subset (l' := (List.range n).map fun k : Nat => (k : Int)) hn fun x hx => by
    obtain ⟨h1, h2⟩ := h x hx
    exact List.mem_map.2 ⟨x.toNat, List.mem_range.2 (by omega), by omega⟩
  simpa using this

/-- Who was noted: as marks, as a list. -/
structure Noted (A : Adj) (S : Int → Prop) (seen : List Bool) (list : List Int) : Prop where
  len : seen.length = A.length
  mem : ∀ x, x ∈ list ↔ (0 ≤ x ∧ seen[x.toNat]? = some true)
  nodup : list.Nodup
  ok : ∀ x ∈ list, S x
theorem Noted.node {A : Adj} {S : Int → Prop} {seen : List Bool} {list : List Int} (h : Noted A S seen list) {x : Int} (hx : x ∈ list) : Nod A x := by
  obtain ⟨h1, h2⟩ := (h.mem x).1 hx
  have := (List.getElem?_eq_some_iff.1 h2).1
  rw [h.len] at this
  exact ⟨h1, by omega⟩
theorem Noted.le {A : Adj} {S : Int → Prop} {seen : List Bool} {list : List Int} (h : Noted A S seen list) : list.length ≤ A.length := nodes_le h.nodup fun x hx => h.node hx
theorem Noted.start (A : Adj) (S : Int → Prop) : Noted A S (List.replicate A.length false) [] :=
  ⟨by simp, fun x => by simp [List.getElem?_replicate], by simp, by simp⟩
theorem Noted.fresh {A : Adj} {S : Int → Prop} {seen : List Bool} {list : List Int} (h : Noted A S seen list) {x : Int} (hx : seen[x.toNat]? = some false) : x ∉ list := fun hm => by
  obtain ⟨_, h2⟩ := (h.mem x).1 hm
  rw [hx] at h2; cases h2
theorem Noted.add {A : Adj} {S : Int → Prop} {seen : List Bool} {list : List Int} (h : Noted A S seen list) {x : Int} (h0 : 0 ≤ x) (hx : seen[x.toNat]? = some false) (hS : S x) : Noted A S (seen.set x.toNat true) (list ++ [x]) := by
  have hlt := (List.getElem?_eq_some_iff.1 hx).1
  refine ⟨by simp [h.len], fun y => ?_, ?_, ?_⟩
  · rw [List.mem_append, List.mem_singleton, List.getElem?_set]
    by_cases hyx : y = x
    · subst hyx; simp [h0, hlt]
    · rw [h.mem y]
      by_cases h0y : 0 ≤ y
      · rw [if_neg (by omega)]; simp [hyx]
      · simp [h0y, hyx]
  · rw [List.nodup_append]
    refine ⟨h.nodup, by simp, fun a ha b hb => ?_⟩
    rw [List.mem_singleton] at hb
    subst hb
    exact fun hab => h.fresh hx (hab ▸ ha)
  · intro y hy
    rw [List.mem_append, List.mem_singleton] at hy
    rcases hy with hy | rfl
    · exact h.ok y hy
    · exact hS
theorem Noted.perm {A : Adj} {S : Int → Prop} {seen : List Bool} {list list' : List Int} (h : Noted A S seen list) (hp : list'.Perm list) : Noted A S seen list' :=
  ⟨h.len, fun x => by rw [hp.mem_iff]; exact h.mem x, hp.nodup_iff.2 h.nodup, fun x hx => h.ok x (hp.mem_iff.1 hx)⟩
/-- If all arcs of the noted ones lead to noted ones, who is reached from a noted one is noted. -/
theorem closed_way {A : Adj} {list : List Int} (hc : ∀ x ∈ list, ∀ y, Arc A x y → y ∈ list) {x y : Int} (hx : x ∈ list) (hw : Way A x y) : y ∈ list := by
  induction hw with
  | refl _ => exact hx
  | step _ ha ih => exact hc _ (ih) _ ha
theorem get_nat {α : Type} {l : List α} {i : Nat} (h : (i : Int) < (l.length : Int)) : ∃ r, l[(i : Int).toNat]? = some r := ⟨l[i]'(by omega), by simp⟩
theorem get_int {α : Type} {l : List α} {i : Int} (h : 0 ≤ i ∧ i < (l.length : Int)) : ∃ r, l[i.toNat]? = some r := ⟨l[i.toNat]'(by omega), by simp⟩
end Go.Proofs.Scc

/-
  Plain: how far a node is from a goal.
-/
set_option linter.unusedVariables false
set_option linter.unusedSimpArgs false
namespace Go.Proofs.Scc
open Go Go.Abs

/-- Ways of so many arcs to a goal. -/
inductive WayN (A : Adj) (to : Int) : Nat → Int → Prop
  | zero : Nod A to → WayN A to 0 to
  | step {x y : Int} {n : Nat} : Arc A x y → WayN A to n y → WayN A to (n + 1) x
def Dist (A : Adj) (to : Int) (k : Nat) (x : Int) : Prop := WayN A to k x ∧ ∀ m, m < k → ¬ WayN A to m x
theorem WayN.nod {A : Adj} {to : Int} {n : Nat} {x : Int} (h : WayN A to n x) : Nod A x := by
  cases h with
  | zero h => exact h
  | step h _ => exact h.src
theorem Dist.nod {A : Adj} {to : Int} {n : Nat} {x : Int} (h : Dist A to n x) : Nod A x := h.1.nod
theorem Dist.uniq {A : Adj} {to : Int} {j k : Nat} {x : Int} (h : Dist A to j x) (h' : Dist A to k x) : j = k := by
  rcases Nat.lt_trichotomy j k with hl | hl | hl
  · exact absurd h.1 (h'.2 j hl)
  · exact hl
  · exact absurd h'.1 (h.2 k hl)
theorem WayN.dist {A : Adj} {to : Int} {x : Int} : ∀ {n : Nat}, WayN A to n x → ∃ k, k ≤ n ∧ Dist A to k x := by
  intro n
  induction n using Nat.strongRecOn with
  | ind n ih =>
    intro h
    by_cases hm : ∃ m, m < n ∧ WayN A to m x
    · obtain ⟨m, hlt, hw⟩ := hm
      obtain ⟨k, hk, hd⟩ := ih m hlt hw
      exact ⟨k, by omega, hd⟩
    · exact ⟨n, Nat.le_refl _, h, fun m hlt hw => hm ⟨m, hlt, hw⟩⟩
theorem Dist.zero {A : Adj} {to : Int} (h : Nod A to) : Dist A to 0 to := ⟨.zero h, fun m hm => absurd hm (by omega)⟩
theorem Dist.eq_to {A : Adj} {to : Int} {x : Int} (h : Dist A to 0 x) : x = to := by
  cases h.1; rfl
theorem Dist.pred {A : Adj} {to : Int} {n : Nat} {x : Int} (h : Dist A to (n + 1) x) : ∃ y, Arc A x y ∧ Dist A to n y := by
  obtain ⟨hw, hmin⟩ := h
  cases hw with
  | step ha hw' => exact ⟨_, ha, hw', fun m hm hwm => hmin (m + 1) (by omega) (.step ha hwm)⟩
/-- One who is k away: there are k + 1 nodes. -/
theorem Dist.lt {A : Adj} {to : Int} : ∀ {k : Nat} {x : Int}, Dist A to k x → k < A.length := by
  have key : ∀ (k : Nat) (x : Int), Dist A to k x → ∃ l : List Int, l.length = k + 1 ∧ l.Nodup ∧ (∀ y ∈ l, Nod A y) ∧ ∀ y ∈ l, ∃ j, j ≤ k ∧ Dist A to j y := by
    intro k
    induction k with
    | zero => intro x h; exact ⟨[x], rfl, by simp, by simp [h.nod], by simp [h]⟩
    | succ k ih =>
      intro x h
      obtain ⟨y, ha, hy⟩ := h.pred
      obtain ⟨l, h1, h2, h3, h4⟩ := ih y hy
      refine ⟨x :: l, by simp [h1], List.nodup_cons.2 ⟨fun hx => ?_, h2⟩, ?_, ?_⟩
      · obtain ⟨j, hj, hd⟩ := h4 x hx
        have := hd.uniq h; omega
      · intro z hz
        rcases List.mem_cons.1 hz with rfl | hz
        · exact h.nod
        · exact h3 z hz
      · intro z hz
        rcases List.mem_cons.1 hz with rfl | hz
        · exact ⟨k + 1, Nat.le_refl _, h⟩
        · obtain ⟨j, hj, hd⟩ := h4 z hz; exact ⟨j, by omega, hd⟩
  intro k x h
  obtain ⟨l, h1, h2, h3, _⟩ := key k x h
  have := nodes_le h2 h3
  omega

/-- A list of how far each node is. -/
structure IsDist (A : Adj) (to : Int) (d : List Int) : Prop where
  len : d.length = A.length
  val : ∀ x, Nod A x → ∀ v, d[x.toNat]? = some v → (v = -1 ∧ ∀ n, ¬ WayN A to n x) ∨ ∃ k : Nat, v = k ∧ Dist A to k x
theorem IsDist.ext {A : Adj} {to : Int} {d d' : List Int} (h : IsDist A to d) (h' : IsDist A to d') : d = d' := by
  refine List.ext_getElem? fun i => ?_
  by_cases hi : i < A.length
  · have hx : Nod A (i : Int) := ⟨by omega, by omega⟩
    have h1 : i < d.length := by rw [h.len]; exact hi
    have h2 : i < d'.length := by rw [h'.len]; exact hi
    rw [List.getElem?_eq_getElem h1, List.getElem?_eq_getElem h2]
    have a := h.val i hx d[i] (by simp)
    have b := h'.val i hx d'[i] (by simp)
    rcases a with ⟨a1, a2⟩ | ⟨j, a1, a2⟩ <;> rcases b with ⟨b1, b2⟩ | ⟨k, b1, b2⟩
    · rw [a1, b1]
    · exact absurd b2.1 (a2 k)
    · exact absurd a2.1 (b2 j)
    · rw [a1, b1, a2.uniq b2]
  · rw [List.getElem?_eq_none (by rw [h.len]; omega), List.getElem?_eq_none (by rw [h'.len]; omega)]

/-! ### level by level -/
def Lev (A : Adj) (to : Int) (n : Nat) (x v : Int) : Prop := (v = -1 ∧ ∀ m, m ≤ n → ¬ WayN A to m x) ∨ ∃ k : Nat, k ≤ n ∧ v = k ∧ Dist A to k x
theorem Lev.start {A : Adj} {to x v : Int} (ht : Nod A to) (hx : Nod A x) (h : ((List.replicate A.length (-1 : Int)).set to.toNat 0)[x.toNat]? = some v) : Lev A to 0 x v := by
  have h1 := hx.1; have h2 := hx.2; have h3 := ht.1; have h4 := ht.2
  rw [List.getElem?_set] at h
  by_cases hxt : to = x
  · subst hxt
    rw [if_pos rfl, if_pos (by simp; omega)] at h
    cases h
    exact .inr ⟨0, Nat.le_refl _, rfl, .zero ht⟩
  · rw [if_neg (by omega), List.getElem?_replicate, if_pos (by omega)] at h
    cases h
    refine .inl ⟨rfl, fun m hm hw => ?_⟩
    obtain rfl : m = 0 := by omega
    cases hw; exact hxt rfl
/-- The next level: one who was not found yet. -/
theorem Lev.next {A : Adj} {to : Int} {n : Nat} {x v : Int} (hx : Nod A x) (h : Lev A to n x (-1)) (hv : v = -1 ∨ v = (n : Int) + 1) (hs : v = (n : Int) + 1 ↔ ∃ y, Arc A x y ∧ Dist A to n y) : Lev A to (n + 1) x v := by
  rcases h with ⟨_, h⟩ | ⟨k, _, hk, _⟩
  · by_cases hv1 : v = (n : Int) + 1
    · obtain ⟨y, ha, hd⟩ := hs.1 hv1
      exact .inr ⟨n + 1, Nat.le_refl _, by omega, .step ha hd.1, fun m hm => h m (by omega)⟩
    · refine .inl ⟨hv.resolve_right hv1, fun m hm hw => ?_⟩
      by_cases hmn : m ≤ n
      · exact h m hmn hw
      · obtain rfl : m = n + 1 := by omega
        have hd : Dist A to (n + 1) x := ⟨hw, fun j hj => h j (by omega)⟩
        exact hv1 (hs.2 hd.pred)
  · omega
theorem Lev.keep {A : Adj} {to : Int} {n : Nat} {x v : Int} (h : Lev A to n x v) (hv : v ≠ -1) : Lev A to (n + 1) x v := by
  rcases h with ⟨h, _⟩ | ⟨k, hk, h1, h2⟩
  · exact absurd h hv
  · exact .inr ⟨k, by omega, h1, h2⟩
theorem Lev.eqn {A : Adj} {to : Int} {N n : Nat} {x : Int} (h : Lev A to N x n) : Dist A to n x := by
  rcases h with ⟨h, _⟩ | ⟨k, hk, h1, h2⟩
  · omega
  · obtain rfl : k = n := by omega
    exact h2
theorem Lev.eq {A : Adj} {to : Int} {n : Nat} {x : Int} (h : Lev A to n x n) : Dist A to n x := by
  rcases h with ⟨h, _⟩ | ⟨k, hk, h1, h2⟩
  · omega
  · obtain rfl : k = n := by omega
    exact h2
theorem Lev.eq' {A : Adj} {to : Int} {n : Nat} {x v : Int} (h : Lev A to n x v ∨ Lev A to (n + 1) x v) (hd : Dist A to n x) : v = n := by
  rcases h with h | h
  · rcases h with ⟨_, h⟩ | ⟨k, hk, h1, h2⟩
    · exact absurd hd.1 (h n (Nat.le_refl _))
    · rw [h1, h2.uniq hd]
  · rcases h with ⟨_, h⟩ | ⟨k, hk, h1, h2⟩
    · exact absurd hd.1 (h n (by omega))
    · rw [h1, h2.uniq hd]
theorem Lev.done {A : Adj} {to : Int} {d : List Int} (hl : d.length = A.length) (h : ∀ x, Nod A x → ∀ v, d[x.toNat]? = some v → Lev A to A.length x v) : IsDist A to d :=
  ⟨hl, fun x hx v hv => by
    rcases h x hx v hv with ⟨h1, h2⟩ | ⟨k, _, h1, h2⟩
    · refine .inl ⟨h1, fun n hw => ?_⟩
      obtain ⟨k, hk, hd⟩ := hw.dist
      exact h2 k (Nat.le_of_lt hd.lt) hd.1
    · exact .inr ⟨k, h1, h2⟩⟩

/-! ### in rising order of how far -/
structure Bfs (A : Adj) (to : Int) (d P todo : List Int) : Prop where
  len : d.length = A.length
  mem : ∀ x, Nod A x → ∀ v, d[x.toNat]? = some v → (v = -1 ∧ x ∉ P ++ todo) ∨ (x ∈ P ++ todo ∧ ∃ k : Nat, v = k ∧ Dist A to k x)
  nod : ∀ x ∈ P ++ todo, Nod A x
  nodup : (P ++ todo).Nodup
  back : ∀ x ∈ P, ∀ y, Arc A y x → y ∈ P ++ todo
  start : to ∈ P ++ todo
  sorted : todo.Pairwise fun x y => ∀ j k, Dist A to j x → Dist A to k y → j ≤ k
  near : ∀ h, todo.head? = some h → ∀ x ∈ todo, ∀ j k, Dist A to j h → Dist A to k x → k ≤ j + 1
theorem Bfs.begin {A : Adj} {to : Int} (ht : Nod A to) : Bfs A to ((List.replicate A.length (-1 : Int)).set to.toNat 0) [] [to] := by
  refine ⟨by simp, fun x hx v hv => ?_, by simp [ht], by simp, by simp, by simp, by simp, ?_⟩
  · rcases Lev.start ht hx hv with ⟨h1, h2⟩ | ⟨k, hk, h1, h2⟩
    · refine .inl ⟨h1, fun hm => ?_⟩
      obtain rfl : x = to := by simpa using hm
      exact h2 0 (Nat.le_refl _) (.zero ht)
    · obtain rfl : k = 0 := by omega
      exact .inr ⟨by simp [h2.eq_to], 0, h1, h2⟩
  · intro h hh x hx j k hj hk
    simp only [List.head?_cons, Option.some.injEq] at hh
    obtain rfl : x = to := by simpa using hx
    subst hh
    have := hj.uniq hk; omega
/-- All who are as near as the first are found. -/
theorem Bfs.found {A : Adj} {to : Int} {d P todo : List Int} (b : Bfs A to d P todo) (D : Nat) (hD : ∀ x ∈ todo, ∀ k, Dist A to k x → D ≤ k) : ∀ (k : Nat), k ≤ D → ∀ x, Dist A to k x → x ∈ P ++ todo
  | 0, _, x, h => by rw [h.eq_to]; exact b.start
  | k + 1, hk, x, h => by
    obtain ⟨y, ha, hy⟩ := h.pred
    have hf := b.found D hD k (by omega) y hy
    have hP : y ∈ P := by
      rcases List.mem_append.1 hf with hf | hf
      · exact hf
      · have := hD y hf k hy; omega
    exact b.back y hP x ha
theorem Bfs.add {A : Adj} {to : Int} {d P rest : List Int} {h y v : Int} {D : Nat} (b : Bfs A to d P (h :: rest)) (hD : Dist A to D h) (ha : Arc A y h) (hv : d[y.toNat]? = some v) (hneg : v < 0) : Bfs A to (d.set y.toNat ((D : Int) + 1)) P (h :: rest ++ [y]) := by
  have hy := ha.src
  have hny : y ∉ P ++ h :: rest := by
    rcases b.mem y hy v hv with ⟨_, h1⟩ | ⟨_, k, h1, _⟩
    · exact h1
    · omega
  have hmin : ∀ x ∈ h :: rest, ∀ k, Dist A to k x → D ≤ k := fun x hx k hk => by
    rcases List.mem_cons.1 hx with rfl | hx
    · have := hk.uniq hD; omega
    · exact (List.pairwise_cons.1 b.sorted).1 x hx D k hD hk
  have hdy : Dist A to (D + 1) y := ⟨.step ha hD.1, fun m hm hw => by
    obtain ⟨k, hk, hd⟩ := hw.dist
    exact hny (b.found D hmin k (by omega) y hd)⟩
  have hlt : y.toNat < d.length := (List.getElem?_eq_some_iff.1 hv).1
  have happ : P ++ (h :: rest ++ [y]) = (P ++ h :: rest) ++ [y] := by simp
  refine ⟨by simp [b.len], fun x hx w hw => ?_, ?_, ?_, ?_, ?_, ?_, ?_⟩
  · rw [happ, List.mem_append, List.mem_singleton]
    rw [List.getElem?_set] at hw
    have h1 := hx.1; have h2 := hy.1
    by_cases hxy : x = y
    · subst hxy
      rw [if_pos rfl, if_pos hlt] at hw
      cases hw
      exact .inr ⟨.inr rfl, D + 1, by omega, hdy⟩
    · rw [if_neg (by omega)] at hw
      rcases b.mem x hx w hw with ⟨e1, e2⟩ | ⟨e1, e2⟩
      · exact .inl ⟨e1, by simp only [hxy, or_false]; exact e2⟩
      · exact .inr ⟨.inl e1, e2⟩
  · intro x hx
    rw [happ, List.mem_append, List.mem_singleton] at hx
    rcases hx with hx | rfl
    · exact b.nod x hx
    · exact hy
  · rw [happ, List.nodup_append]
    refine ⟨b.nodup, by simp, fun a ham c hc => ?_⟩
    rw [List.mem_singleton] at hc
    subst hc
    exact fun e => hny (e ▸ ham)
  · intro x hx z hz
    rw [happ]
    exact List.mem_append_left _ (b.back x hx z hz)
  · rw [happ]; exact List.mem_append_left _ b.start
  · rw [List.pairwise_append]
    refine ⟨b.sorted, by simp, fun x hx z hz j k hj hk => ?_⟩
    rw [List.mem_singleton] at hz
    subst hz
    have h1 := hk.uniq hdy
    have h2 := b.near h rfl x hx D j hD hj
    omega
  · intro g hg x hx j k hj hk
    simp only [List.cons_append, List.head?_cons, Option.some.injEq] at hg
    subst hg
    rcases List.mem_append.1 hx with hx | hx
    · exact b.near h rfl x hx j k hj hk
    · rw [List.mem_singleton] at hx
      subst hx
      have h1 := hk.uniq hdy
      have h2 := hj.uniq hD
      omega
theorem Bfs.pop {A : Adj} {to : Int} {d P rest : List Int} {h : Int} (b : Bfs A to d P (h :: rest)) (ha : ∀ y, Arc A y h → y ∈ P ++ h :: rest) : Bfs A to d (P ++ [h]) rest := by
  have happ : (P ++ [h]) ++ rest = P ++ h :: rest := by simp
  refine ⟨b.len, by rw [happ]; exact b.mem, by rw [happ]; exact b.nod, by rw [happ]; exact b.nodup, ?_, by rw [happ]; exact b.start, (List.pairwise_cons.1 b.sorted).2, ?_⟩
  · intro x hx y hy
    rw [happ]
    rcases List.mem_append.1 hx with hx | hx
    · exact b.back x hx y hy
    · rw [List.mem_singleton] at hx
      subst hx; exact ha y hy
  · intro g hg x hx j k hj hk
    have hgm : g ∈ rest := by
      cases rest with
      | nil => simp at hg
      | cons a r => simp only [List.head?_cons, Option.some.injEq] at hg; subst hg; simp
    have hn := b.nod h (by simp)
    obtain ⟨v, hv⟩ := get_int (l := d) (i := h) (by rw [b.len]; exact hn)
    rcases b.mem h hn v hv with ⟨_, h1⟩ | ⟨_, D, _, hD⟩
    · exact absurd (by simp) h1
    · have h1 := b.near h rfl x (by simp [hx]) D k hD hk
      have h2 := (List.pairwise_cons.1 b.sorted).1 g hgm D j hD hj
      omega
theorem Bfs.done {A : Adj} {to : Int} {d P : List Int} (b : Bfs A to d P []) : IsDist A to d :=
  ⟨b.len, fun x hx v hv => by
    rcases b.mem x hx v hv with ⟨h1, h2⟩ | ⟨_, h1⟩
    · refine .inl ⟨h1, fun n hw => ?_⟩
      obtain ⟨k, hk, hd⟩ := hw.dist
      exact h2 (b.found k (by simp) k (Nat.le_refl _) x hd)
    · exact .inr h1⟩

/-! ### the nearest way -/
theorem reverseRec' {α : Type} {m : List α → Prop} (nil : m []) (snoc : ∀ l a, m l → m (l ++ [a])) : ∀ l, m l := by
  intro l
  rw [← List.reverse_reverse l]
  induction l.reverse with
  | nil => exact nil
  | cons a l ih => rw [List.reverse_cons]; exact snoc _ _ ih
def stepP (p : Int → Bool) (b y : Int) : Int := if p y = true ∧ (b < 0 ∨ y < b) then y else b
theorem pick_ok {p : Int → Bool} (hp : ∀ y, p y = true → 0 ≤ y) : ∀ (l : List Int), (l.foldl (stepP p) (-1) = -1 ∧ ∀ y ∈ l, ¬ p y = true) ∨ (l.foldl (stepP p) (-1) ∈ l ∧ p (l.foldl (stepP p) (-1)) = true) := by
  intro l
  induction l using reverseRec' with
  | nil => exact .inl ⟨rfl, by simp⟩
  | snoc l a ih =>
    rw [List.foldl_append]
    simp only [List.foldl_cons, List.foldl_nil]
    generalize hb : l.foldl (stepP p) (-1) = b at ih
    unfold stepP
    by_cases hpa : p a = true
    · by_cases hc : b < 0 ∨ a < b
      · rw [if_pos ⟨hpa, hc⟩]; exact .inr ⟨by simp, hpa⟩
      · rw [if_neg (fun h => hc h.2)]
        rcases ih with ⟨h1, _⟩ | ⟨h1, h2⟩
        · omega
        · exact .inr ⟨by simp [h1], h2⟩
    · rw [if_neg (fun h => hpa h.1)]
      rcases ih with ⟨h1, h2⟩ | ⟨h1, h2⟩
      · refine .inl ⟨h1, fun y hy => ?_⟩
        rcases List.mem_append.1 hy with hy | hy
        · exact h2 y hy
        · rw [List.mem_singleton] at hy; subst hy; exact hpa
      · exact .inr ⟨by simp [h1], h2⟩
def nearP (d : List Int) (v : Int) (y : Int) : Bool := decide (0 ≤ y ∧ d[y.toNat]? = some (v - 1))
def nxt (A : Adj) (d : List Int) (a v : Int) : Int := match A[a.toNat]? with
  | some row => row.l.foldl (stepP (nearP d v)) (-1)
  | none => -1
def pathL (A : Adj) (d : List Int) : Nat → Int → List Int
  | 0, _ => []
  | n + 1, a => nxt A d a (n + 1 : Nat) :: pathL A d n (nxt A d a (n + 1 : Nat))
theorem pathL_length (A : Adj) (d : List Int) : ∀ (n : Nat) (a : Int), (pathL A d n a).length = n
  | 0, _ => rfl
  | n + 1, a => by simp [pathL, pathL_length A d n]
theorem IsDist.get {A : Adj} {to : Int} {d : List Int} (h : IsDist A to d) {k : Nat} {x : Int} (hd : Dist A to k x) : d[x.toNat]? = some (k : Int) := by
  obtain ⟨v, hv⟩ := get_int (l := d) (i := x) (by rw [h.len]; exact hd.nod)
  rcases h.val x hd.nod v hv with ⟨_, h2⟩ | ⟨j, h1, h2⟩
  · exact absurd hd.1 (h2 k)
  · rw [hv, h1, h2.uniq hd]
theorem IsDist.of_get {A : Adj} {to : Int} {d : List Int} (h : IsDist A to d) {k : Nat} {x : Int} (h0 : 0 ≤ x) (hv : d[x.toNat]? = some (k : Int)) : Dist A to k x := by
  have hlt := (List.getElem?_eq_some_iff.1 hv).1
  have hx : Nod A x := ⟨h0, by rw [h.len] at hlt; omega⟩
  rcases h.val x hx _ hv with ⟨h1, _⟩ | ⟨j, h1, h2⟩
  · omega
  · obtain rfl : k = j := by omega
    exact h2
theorem nxt_ok {A : Adj} {to : Int} {d : List Int} (h : IsDist A to d) {n : Nat} {a : Int} (hd : Dist A to (n + 1) a) : Dist A to n (nxt A d a (n + 1 : Nat)) := by
  obtain ⟨y, ha, hy⟩ := hd.pred
  obtain ⟨h0, ⟨row, hrow, hym⟩, hyn⟩ := ha
  have hn : ((n + 1 : Nat) : Int) - 1 = (n : Int) := by omega
  have hpy : nearP d (n + 1 : Nat) y = true := by
    simp only [nearP, decide_eq_true_eq, hn]
    exact ⟨hyn.1, h.get hy⟩
  simp only [nxt, hrow]
  rcases pick_ok (p := nearP d (n + 1 : Nat)) (fun y hy => by simp only [nearP, decide_eq_true_eq] at hy; exact hy.1) row.l with ⟨_, h2⟩ | ⟨_, h2⟩
  · exact absurd hpy (h2 y hym)
  · simp only [nearP, decide_eq_true_eq, hn] at h2
    exact h.of_get h2.1 h2.2
/-- What Path answers. -/
def PathIs (A : Adj) (fr to : Int) (r : List Int) (b : Bool) : Prop :=
  (b = false ∧ r = [] ∧ ¬ (Nod A fr ∧ Nod A to ∧ ∃ n, Dist A to n fr)) ∨ (b = true ∧ ∃ n d, IsDist A to d ∧ Nod A fr ∧ Nod A to ∧ Dist A to n fr ∧ r = fr :: pathL A d n fr)
theorem PathIs.ext {A : Adj} {fr to : Int} {r r' : List Int} {b b' : Bool} (h : PathIs A fr to r b) (h' : PathIs A fr to r' b') : r = r' ∧ b = b' := by
  rcases h with ⟨rfl, rfl, h⟩ | ⟨rfl, n, d, h1, h2, h3, h4, rfl⟩ <;> rcases h' with ⟨rfl, rfl, h'⟩ | ⟨rfl, n', d', h1', h2', h3', h4', rfl⟩
  · exact ⟨rfl, rfl⟩
  · exact absurd ⟨h2', h3', n', h4'⟩ h
  · exact absurd ⟨h2, h3, n, h4⟩ h'
  · rw [h1.ext h1', h4.uniq h4']; exact ⟨rfl, rfl⟩
theorem PathIs.le {A : Adj} {fr to : Int} {r : List Int} {b : Bool} (h : PathIs A fr to r b) : r.length ≤ A.length + 1 := by
  rcases h with ⟨_, rfl, _⟩ | ⟨_, n, d, _, _, _, h4, rfl⟩
  · simp
  · rw [List.length_cons, pathL_length]
    have := h4.lt; omega
end Go.Proofs.Scc

set_option linter.unusedVariables false
set_option maxRecDepth 10000
namespace Go.Proofs.Ytclnpjnodmfkcaa
open Go Go.Abs Go.Proofs Go.Proofs.Scc

theorem small_runs (adj : Sl (Sl Int)) : ∃ b, X.RunsC 9 [.c (eSl adj)] (dB b) ∧ (b = true → adj.l.length ≤ 40 ∧ ∀ r ∈ adj.l, r.l.length ≤ 80) := by
  obtain ⟨ex, s', hg, _, hq⟩ := Sys.loop_go (X := X) (f := 9) (nt := 23) (Γ := []) (a := sub b9 [1, 0, 1, 0, 0]) (m := 0)
    (fun i : Nat => ⟨fl [(0, .c (eSl adj)), (3, dInt i)], ⟨[], []⟩⟩)
    (fun i => i ≤ adj.l.length ∧ ∀ j, j < i → ∀ r, adj.l[j]? = some r → r.l.length ≤ 80) (fun i => adj.l.length - i)
    (fun ex s' => (ex = .ret ∧ s' = ⟨fl [(2, dB false)], ⟨[], []⟩⟩) ∨ (∃ j : Int, ex = .exit 0 ∧ s' = ⟨fl [(0, .c (eSl adj)), (3, dInt j), (11, dB false)], ⟨[], []⟩⟩ ∧ (adj.l.length ≤ 40 → ∀ r ∈ adj.l, r.l.length ≤ 80)))
    (by
      intro i ⟨hi, hr⟩
      by_cases h1 : (i : Int) < (adj.l.length : Int)
      · by_cases h2 : (i : Int) ≤ 40
        · obtain ⟨r, hget⟩ : ∃ r, adj.l[(i : Int).toNat]? = some r := ⟨adj.l[i]'(by omega), by simp⟩
          by_cases h5 : (r.l.length : Int) > 80
          · exact .inr ⟨_, _, smallB_1 adj i r h1 h2 (by omega) hget h5, by simp, .inl ⟨rfl, rfl⟩⟩
          · refine .inl ⟨_, i + 1, smallB_2 adj i r h1 h2 (by omega) hget h5 (by omega), rfl, ⟨by omega, fun j hj r' hr' => ?_⟩, by omega⟩
            by_cases hji : j = i
            · subst hji
              simp only [Int.toNat_natCast] at hget
              rw [hr'] at hget; cases hget; omega
            · exact hr j (by omega) r' hr'
        · exact .inr ⟨_, _, smallB_3 adj i h1 h2, by simp, .inr ⟨i, rfl, rfl, fun h => by omega⟩⟩
      · refine .inr ⟨_, _, smallB_4 adj i h1, by simp, .inr ⟨i, rfl, rfl, fun _ r hm => ?_⟩⟩
        obtain ⟨j, hj, rfl⟩ := List.getElem_of_mem hm
        exact hr j (by omega) _ (List.getElem?_eq_getElem hj))
    0 ⟨by omega, by simp⟩ rfl
  rcases hq with ⟨rfl, rfl⟩ | ⟨j, rfl, rfl, hall⟩
  · exact ⟨false, smallM_1 adj hg, by simp⟩
  · by_cases h40 : (adj.l.length : Int) ≤ 40
    · exact ⟨true, smallM_2 adj j hg h40, fun _ => ⟨by omega, hall (by omega)⟩⟩
    · exact ⟨false, smallM_3 adj j hg h40, by simp⟩

theorem same_runs (a b : Sl Int) (ha : a.l.length ≤ 1000000) : X.RunsC 11 [.c (eSl a), .c (eSl b)] (dB (decide (a.l = b.l))) := by
  have key : X.RunsC 21 [.c (eSl a), .c (eSl b)] (dB (decide (a.l = b.l))) := by
    by_cases hl : (a.l.length : Int) = (b.l.length : Int)
    · obtain ⟨ex, s', hg, _, hq⟩ := Sys.loop_go (X := X) (f := 21) (nt := 26) (Γ := []) (a := sub b21 [1, 1, 0, 1, 0, 0]) (m := 0)
        (fun i : Nat => ⟨fl [(0, .c (eSl a)), (1, .c (eSl b)), (5, dInt i)], ⟨[], []⟩⟩)
        (fun i => i ≤ a.l.length ∧ ∀ j, j < i → a.l[j]? = b.l[j]?) (fun i => a.l.length - i)
        (fun ex s' => (ex = .ret ∧ s' = ⟨fl [(4, dB false)], ⟨[], []⟩⟩ ∧ a.l ≠ b.l) ∨ (∃ j : Int, ex = .exit 0 ∧ s' = ⟨fl [(0, .c (eSl a)), (1, .c (eSl b)), (5, dInt j), (14, dB false)], ⟨[], []⟩⟩ ∧ a.l = b.l))
        (by
          intro i ⟨hi, hr⟩
          by_cases h1 : (i : Int) < (a.l.length : Int)
          · obtain ⟨x, hx⟩ : ∃ r, a.l[(i : Int).toNat]? = some r := ⟨a.l[i]'(by omega), by simp⟩
            obtain ⟨y, hy⟩ : ∃ r, b.l[(i : Int).toNat]? = some r := ⟨b.l[i]'(by omega), by simp⟩
            by_cases hxy : x ≠ y
            · refine .inr ⟨_, _, sameB_1 a b i x y h1 (by omega) hx (by omega) hy hxy, by simp, .inl ⟨rfl, rfl, fun he => ?_⟩⟩
              rw [he, hy] at hx; cases hx; exact hxy rfl
            · refine .inl ⟨_, i + 1, sameB_2 a b i x y h1 (by omega) hx (by omega) hy hxy (by omega), rfl, ⟨by omega, fun j hj => ?_⟩, by omega⟩
              by_cases hji : j = i
              · subst hji
                simp only [Int.toNat_natCast] at hx hy
                rw [hx, hy]; simp at hxy; rw [hxy]
              · exact hr j (by omega)
          · refine .inr ⟨_, _, sameB_3 a b i h1, by simp, .inr ⟨i, rfl, rfl, ?_⟩⟩
            refine List.ext_getElem? fun j => ?_
            by_cases hj : j < a.l.length
            · exact hr j (by omega)
            · rw [List.getElem?_eq_none (by omega), List.getElem?_eq_none (by omega)])
        0 ⟨by omega, by simp⟩ rfl
      rcases hq with ⟨rfl, rfl, hne⟩ | ⟨j, rfl, rfl, he⟩
      · simp only [hne, decide_false]
        exact sameM_2 a b (by simp [hl]) hg
      · simp only [he, decide_true]
        exact sameM_3 a b j (by simp [hl]) hg
    · have hne : a.l ≠ b.l := fun h => hl (by rw [h])
      simp only [hne, decide_false]
      exact sameM_1 a b hl
  by_cases he : a.l = b.l
  · simp only [he, decide_true] at key ⊢
    exact SameM_1 a b key
  · simp only [he, decide_false] at key ⊢
    exact SameM_2 a b key

theorem marks_runs (adj : Sl (Sl Int)) (fr : Sl Int) (hs : adj.l.length ≤ 1000000) (hf : fr.l.length ≤ 1000000) (hr : ∀ r ∈ adj.l, r.l.length ≤ 1000000) :
    ∃ seen : List Bool, X.RunsC 25 [.c (eSl adj), .c (eSl fr)] (.c (.sl false true (cells seen) seen.length)) ∧ seen.length = adj.l.length ∧ ∀ x, (0 ≤ x ∧ seen[x.toNat]? = some true) ↔ Reached adj.l fr.l x := by
  have big : ∀ (S : Int → Prop) (seen : List Bool) (list : List Int) (v : Int), Noted adj.l S seen list → (list ++ ([v] : List Int)).length * 8 ≤ 140737488355328 := fun S seen list v h => by
    have := h.le
    simp only [List.length_append, List.length_singleton]; omega
  obtain ⟨ex, s', hg, _, i, seen, list, rfl, rfl, hn, hfr⟩ := Sys.loop_go (X := X) (f := 25) (nt := 114) (Γ := []) (a := sub b25 [1, 1, 1, 0, 1, 0, 0]) (m := 1)
    (fun σ : Nat × List Bool × List Int => ⟨fl [(0, .c (eSl adj)), (1, .c (eSl fr)), (5, .ms 0 1 0 adj.l.length 1 true), (6, apv σ.2.2), (7, dInt σ.1)], ⟨[⟨1, dcells σ.2.1⟩], []⟩⟩)
    (fun σ => σ.1 ≤ fr.l.length ∧ Noted adj.l (Reached adj.l fr.l) σ.2.1 σ.2.2 ∧ ∀ j, j < σ.1 → ∀ x, fr.l[j]? = some x → Nod adj.l x → x ∈ σ.2.2) (fun σ => fr.l.length - σ.1)
    (fun ex s' => ∃ (i : Int) (seen : List Bool) (list : List Int), ex = .exit 0 ∧ s' = ⟨fl [(0, .c (eSl adj)), (1, .c (eSl fr)), (5, .ms 0 1 0 adj.l.length 1 true), (6, apv list), (7, dInt i), (17, dB false)], ⟨[⟨1, dcells seen⟩], []⟩⟩ ∧
      Noted adj.l (Reached adj.l fr.l) seen list ∧ ∀ x ∈ fr.l, Nod adj.l x → x ∈ list)
    (by
      rintro ⟨i, seen, list⟩ ⟨hi, hn, hfr⟩
      simp only at hi hn hfr
      by_cases h1 : (i : Int) < (fr.l.length : Int)
      · obtain ⟨v, hv⟩ := get_nat h1
        have hv' : fr.l[i]? = some v := by simpa using hv
        have key : ∀ list' : List Int, (∀ x ∈ list, x ∈ list') → (Nod adj.l v → v ∈ list') → ∀ j, j < i + 1 → ∀ x, fr.l[j]? = some x → Nod adj.l x → x ∈ list' := fun list' hsub hvn j hj x hx hnx => by
          by_cases hji : j = i
          · subst hji; rw [hv'] at hx; cases hx; exact hvn hnx
          · exact hsub x (hfr j (by omega) x hx hnx)
        by_cases h4 : v ≥ 0
        · by_cases h5 : v < (adj.l.length : Int)
          · obtain ⟨b, hb⟩ := get_int (l := seen) (i := v) ⟨h4, by rw [hn.len]; exact h5⟩
            cases b with
            | true => exact .inl ⟨_, (i + 1, seen, list), marksA_1 adj fr i seen list v h1 (by omega) hv h4 h5 ⟨h4, h5⟩ hb (by omega), rfl, ⟨by simp only; omega, hn, key list (fun _ h => h) fun _ => (hn.mem v).2 ⟨h4, hb⟩⟩, by simp only; omega⟩
            | false => exact .inl ⟨_, (i + 1, seen.set v.toNat true, list ++ [v]), marksA_2 adj fr i seen list v h1 (by omega) hv h4 h5 ⟨h4, h5⟩ hb (by rw [hn.len]; exact ⟨h4, h5⟩) (big _ _ _ _ hn) (by omega), rfl,
                ⟨by simp only; omega, hn.add h4 hb ⟨v, List.mem_of_getElem? hv', .refl ⟨h4, h5⟩⟩, key _ (fun _ h => by simp [h]) fun _ => by simp⟩, by simp only; omega⟩
          · exact .inl ⟨_, (i + 1, seen, list), marksA_3 adj fr i seen list v h1 (by omega) hv h4 h5 (by omega), rfl, ⟨by simp only; omega, hn, key list (fun _ h => h) fun h => absurd h.2 h5⟩, by simp only; omega⟩
        · exact .inl ⟨_, (i + 1, seen, list), marksA_4 adj fr i seen list v h1 (by omega) hv h4 (by omega), rfl, ⟨by simp only; omega, hn, key list (fun _ h => h) fun h => absurd h.1 h4⟩, by simp only; omega⟩
      · refine .inr ⟨_, _, marksA_5 adj fr i seen list h1, by simp, i, seen, list, rfl, rfl, hn, fun x hx hnx => ?_⟩
        obtain ⟨j, hj, rfl⟩ := List.getElem_of_mem hx
        exact hfr j (by omega) _ (List.getElem?_eq_getElem hj) hnx)
    (0, List.replicate adj.l.length false, []) ⟨by simp, Noted.start _ _, by simp⟩ rfl
  obtain ⟨ex, s', hg', _, n, seen', list', rfl, rfl, hn', hfr', hcl⟩ := Sys.loop_go (X := X) (f := 25) (nt := 114) (Γ := []) (a := sub b25 [1, 1, 1, 1, 0, 1, 0, 0]) (m := 1)
    (fun σ : Nat × List Bool × List Int => ⟨fl [(0, .c (eSl adj)), (5, .ms 0 1 0 adj.l.length 1 true), (6, apv σ.2.2), (8, dInt σ.1)], ⟨[⟨1, dcells σ.2.1⟩], []⟩⟩)
    (fun σ => σ.1 ≤ σ.2.2.length ∧ Noted adj.l (Reached adj.l fr.l) σ.2.1 σ.2.2 ∧ (∀ x ∈ fr.l, Nod adj.l x → x ∈ σ.2.2) ∧ ∀ j, j < σ.1 → ∀ x, σ.2.2[j]? = some x → ∀ y, Arc adj.l x y → y ∈ σ.2.2) (fun σ => adj.l.length - σ.1)
    (fun ex s' => ∃ (n : Int) (seen : List Bool) (list : List Int), ex = .exit 2 ∧ s' = ⟨fl [(0, .c (eSl adj)), (5, .ms 0 1 0 adj.l.length 1 true), (6, apv list), (8, dInt n), (60, dB false)], ⟨[⟨1, dcells seen⟩], []⟩⟩ ∧
      Noted adj.l (Reached adj.l fr.l) seen list ∧ (∀ x ∈ fr.l, Nod adj.l x → x ∈ list) ∧ ∀ x ∈ list, ∀ y, Arc adj.l x y → y ∈ list)
    (by
      rintro ⟨n, seen, list⟩ ⟨hi, hn, hfr, hcl⟩
      simp only at hi hn hfr hcl
      by_cases h1 : (n : Int) < (list.length : Int)
      · obtain ⟨v, hv⟩ := get_nat h1
        have hv' : list[n]? = some v := by simpa using hv
        have hvm : v ∈ list := List.mem_of_getElem? hv'
        have hvn := hn.node hvm
        obtain ⟨row, hrow⟩ := get_int (l := adj.l) (i := v) hvn
        have hrl : row.l.length ≤ 1000000 := hr row (List.mem_of_getElem? hrow)
        obtain ⟨ex, s1, hg, _, k, seen1, list1, rfl, rfl, hn1, ⟨t, rfl⟩, hk⟩ := Sys.loop_go (X := X) (f := 25) (nt := 114) (Γ := []) (a := sub b25 [1, 1, 1, 1, 0, 1, 0, 0, 1, 0, 0, 1, 1, 0, 0]) (m := 1)
          (fun σ : Nat × List Bool × List Int => ⟨fl [(0, .c (eSl adj)), (5, .ms 0 1 0 adj.l.length 1 true), (6, apv σ.2.2), (8, dInt n), (9, .c (eSl row)), (10, dInt σ.1)], ⟨[⟨1, dcells σ.2.1⟩], []⟩⟩)
          (fun σ => σ.1 ≤ row.l.length ∧ Noted adj.l (Reached adj.l fr.l) σ.2.1 σ.2.2 ∧ (∃ t, σ.2.2 = list ++ t) ∧ ∀ j, j < σ.1 → ∀ x, row.l[j]? = some x → Nod adj.l x → x ∈ σ.2.2) (fun σ => row.l.length - σ.1)
          (fun ex s' => ∃ (k : Int) (seen : List Bool) (list' : List Int), ex = .exit 4 ∧ s' = ⟨fl [(0, .c (eSl adj)), (5, .ms 0 1 0 adj.l.length 1 true), (6, apv list'), (8, dInt n), (9, .c (eSl row)), (10, dInt k), (73, dB false)], ⟨[⟨1, dcells seen⟩], []⟩⟩ ∧
            Noted adj.l (Reached adj.l fr.l) seen list' ∧ (∃ t, list' = list ++ t) ∧ ∀ x ∈ row.l, Nod adj.l x → x ∈ list')
          (by
            rintro ⟨k, seen, list2⟩ ⟨hi, hn, ⟨t, ht⟩, hfr⟩
            simp only at hi hn ht hfr
            by_cases h1 : (k : Int) < (row.l.length : Int)
            · obtain ⟨y, hy⟩ := get_nat h1
              have hy' : row.l[k]? = some y := by simpa using hy
              have key : ∀ list' : List Int, (∀ x ∈ list2, x ∈ list') → (Nod adj.l y → y ∈ list') → ∀ j, j < k + 1 → ∀ x, row.l[j]? = some x → Nod adj.l x → x ∈ list' := fun list' hsub hvn j hj x hx hnx => by
                by_cases hji : j = k
                · subst hji; rw [hy'] at hx; cases hx; exact hvn hnx
                · exact hsub x (hfr j (by omega) x hx hnx)
              by_cases h4 : y ≥ 0
              · by_cases h5 : y < (adj.l.length : Int)
                · obtain ⟨b, hb⟩ := get_int (l := seen) (i := y) ⟨h4, by rw [hn.len]; exact h5⟩
                  cases b with
                  | true => exact .inl ⟨_, (k + 1, seen, list2), marksC_1 adj row n k seen list2 y h1 (by omega) hy h4 h5 ⟨h4, h5⟩ hb (by omega), rfl, ⟨by simp only; omega, hn, ⟨t, ht⟩, key list2 (fun _ h => h) fun _ => (hn.mem y).2 ⟨h4, hb⟩⟩, by simp only; omega⟩
                  | false =>
                    obtain ⟨s0, hs0, hw0⟩ := hn.ok v (by rw [ht]; simp [hvm])
                    exact .inl ⟨_, (k + 1, seen.set y.toNat true, list2 ++ [y]), marksC_2 adj row n k seen list2 y h1 (by omega) hy h4 h5 ⟨h4, h5⟩ hb (by rw [hn.len]; exact ⟨h4, h5⟩) (big _ _ _ _ hn) (by omega), rfl,
                      ⟨by simp only; omega, hn.add h4 hb ⟨s0, hs0, .step hw0 ⟨hvn.1, ⟨row, hrow, List.mem_of_getElem? hy'⟩, h4, h5⟩⟩, ⟨t ++ [y], by simp [ht]⟩, key _ (fun _ h => by simp [h]) fun _ => by simp⟩, by simp only; omega⟩
                · exact .inl ⟨_, (k + 1, seen, list2), marksC_3 adj row n k seen list2 y h1 (by omega) hy h4 h5 (by omega), rfl, ⟨by simp only; omega, hn, ⟨t, ht⟩, key list2 (fun _ h => h) fun h => absurd h.2 h5⟩, by simp only; omega⟩
              · exact .inl ⟨_, (k + 1, seen, list2), marksC_4 adj row n k seen list2 y h1 (by omega) hy h4 (by omega), rfl, ⟨by simp only; omega, hn, ⟨t, ht⟩, key list2 (fun _ h => h) fun h => absurd h.1 h4⟩, by simp only; omega⟩
            · refine .inr ⟨_, _, marksC_5 adj row n k seen list2 h1, by simp, k, seen, list2, rfl, rfl, hn, ⟨t, ht⟩, fun x hx hnx => ?_⟩
              obtain ⟨j, hj, rfl⟩ := List.getElem_of_mem hx
              exact hfr j (by omega) _ (List.getElem?_eq_getElem hj) hnx)
          (0, seen, list) ⟨by simp, hn, ⟨[], by simp⟩, by simp⟩ rfl
        have hle := hn1.le
        have hle0 := hn.le
        simp only [List.length_append] at hle
        cases list with
        | nil => simp only [List.length_nil] at h1; omega
        | cons a l =>
          refine .inl ⟨_, (n + 1, seen1, a :: l ++ t), marksBf_1 adj n seen (a :: l) v row (a :: l ++ t) seen1 k h1 (by omega) hv hvn hrow hg (by omega), rfl, ⟨by simp only [List.length_append]; omega, hn1, fun x hx hnx => by have := hfr x hx hnx; simp only [List.mem_append]; exact .inl this, fun j hj x hx y hy => ?_⟩, by simp only; omega⟩
          by_cases hjn : j = n
          · subst hjn
            rw [List.getElem?_append_left (by omega), hv'] at hx
            cases hx
            obtain ⟨_, ⟨row', h1', h2'⟩, h3'⟩ := hy
            rw [hrow] at h1'; cases h1'
            exact hk y h2' h3'
          · rw [List.getElem?_append_left (by omega)] at hx
            have := hcl j (by omega) x hx y hy
            simp only [List.mem_append]; exact .inl this
      · have hn2 : n = list.length := by omega
        refine .inr ⟨.exit 2, ⟨fl [(0, .c (eSl adj)), (5, .ms 0 1 0 adj.l.length 1 true), (6, apv list), (8, dInt n), (60, dB false)], ⟨[⟨1, dcells seen⟩], []⟩⟩, ?_, by simp, n, seen, list, rfl, rfl, hn, hfr, fun x hx y hy => ?_⟩
        · cases list with
          | nil => exact marksBn_1 adj n seen h1
          | cons a l => exact marksBf_2 adj n seen (a :: l) h1
        · obtain ⟨j, hj, rfl⟩ := List.getElem_of_mem hx
          exact hcl j (by omega) _ (List.getElem?_eq_getElem hj) y hy)
    (0, seen, list) ⟨by simp, hn, hfr, by simp⟩ rfl
  refine ⟨seen', marksM_1 adj fr list seen i list' seen' n (by omega) hg hg' hn'.len, hn'.len, fun x => ?_⟩
  rw [← hn'.mem x]
  refine ⟨fun h => hn'.ok x h, fun ⟨s, hs, hw⟩ => closed_way hcl (hfr' s hs hw.src) hw⟩

/-- Those marked, rising. -/
def marked : List Bool → Int → List Int
  | [], _ => []
  | b :: l, i => if b then i :: marked l (i + 1) else marked l (i + 1)
theorem marked_snoc (b : Bool) : ∀ (l : List Bool) (i : Int), marked (l ++ [b]) i = marked l i ++ (if b then [i + l.length] else [])
  | [], i => by cases b <;> simp [marked]
  | a :: l, i => by
    simp only [List.cons_append, marked, marked_snoc b l (i + 1), List.length_cons]
    rw [show i + 1 + (l.length : Int) = i + ((l.length + 1 : Nat) : Int) by omega]
    cases a <;> simp
theorem marked_len : ∀ (l : List Bool) (i : Int), (marked l i).length ≤ l.length
  | [], _ => by simp [marked]
  | a :: l, i => by
    have := marked_len l (i + 1)
    cases a <;> simp [marked] <;> omega

theorem rreach_runs (adj : Sl (Sl Int)) (fr : Sl Int) (hs : adj.l.length ≤ 1000000) (hf : fr.l.length ≤ 1000000) (hr : ∀ r ∈ adj.l, r.l.length ≤ 1000000) :
    ∃ seen : List Bool, X.RunsC 13 [.c (eSl adj), .c (eSl fr)] (.c (eSl (apc (marked seen 0)))) ∧ seen.length = adj.l.length ∧ ∀ x, (0 ≤ x ∧ seen[x.toNat]? = some true) ↔ Reached adj.l fr.l x := by
  obtain ⟨seen, hm, hlen, hw⟩ := marks_runs adj fr hs hf hr
  refine ⟨seen, ?_, hlen, hw⟩
  obtain ⟨ex, s', hg, _, i, rfl, rfl⟩ := Sys.loop_go (X := X) (f := 13) (nt := 26) (Γ := []) (a := sub b13 [1, 1, 1, 0, 1, 0, 0]) (m := 0)
    (fun i : Nat => ⟨fl [(5, .c (eSl (Sl.of true seen))), (6, apv (marked (seen.take i) 0)), (7, dInt i)], ⟨[], []⟩⟩)
    (fun i => i ≤ seen.length) (fun i => seen.length - i)
    (fun ex s' => ∃ (i : Int), ex = .exit 0 ∧ s' = ⟨fl [(5, .c (eSl (Sl.of true seen))), (6, apv (marked seen 0)), (7, dInt i), (14, dB false)], ⟨[], []⟩⟩)
    (by
      intro i hi
      by_cases h1 : (i : Int) < (seen.length : Int)
      · obtain ⟨b, hb⟩ := get_nat h1
        have hb' : seen[i]? = some b := by simpa using hb
        have ht : seen.take (i + 1) = seen.take i ++ [b] := by rw [List.take_add_one, hb']; rfl
        have hl : ((seen.take i).length : Int) = i := by rw [List.length_take]; omega
        have hle := marked_len (seen.take i) 0
        rw [List.length_take] at hle
        cases b with
        | true =>
          refine .inl ⟨_, i + 1, rreachB_1 (Sl.of true seen) i (marked (seen.take i) 0) h1 ⟨by omega, h1⟩ hb (by simp only [List.length_append, List.length_singleton]; omega) (by omega), ?_, by omega, by omega⟩
          rw [ht, marked_snoc]
          simp only [if_true, hl, Int.zero_add]
          rfl
        | false =>
          refine .inl ⟨_, i + 1, rreachB_2 (Sl.of true seen) i (marked (seen.take i) 0) h1 ⟨by omega, h1⟩ hb (by omega), ?_, by omega, by omega⟩
          rw [ht, marked_snoc]
          simp only [Bool.false_eq_true, if_false, List.append_nil]
          rfl
      · refine .inr ⟨_, _, rreachB_3 (Sl.of true seen) i (marked (seen.take i) 0) h1, by simp, i, rfl, ?_⟩
        rw [List.take_of_length_le (by omega)])
    0 (by omega) rfl
  exact rreachM_1 adj fr (Sl.of true seen) (marked seen 0) i hm hg
end Go.Proofs.Ytclnpjnodmfkcaa
