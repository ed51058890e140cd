/-
  Part of the proof: printed by the session's own program out of the program's form, or typed; it states no claim by itself.
-/
import Derived.Test.YtclnpjnodmfkcaaAbs30
import Derived.Test.YtclnpjnodmfkcaaAn
import Derived.Test.YtclnpjnodmfkcaaPo
import Derived.Test.YtclnpjnodmfkcaaWk
set_option linter.unusedVariables false
namespace Go.Abs
open Go
def hd (s : Sl Int) : Int := s.l.headD 0
def insS (s : Sl Int) : List (Sl Int) → List (Sl Int)
  | [] => [s]
  | t :: l => if hd s ≤ hd t then s :: t :: l else t :: insS s l
def sortHeads (l : List (Sl Int)) : List (Sl Int) := l.foldr insS []
def keyOf (s : Sl Int) : Int × DV := (hd s, .c (eSl s))
theorem heads_dcells : ∀ (l : List (Sl Int)), (∀ s ∈ l, s.l ≠ []) → heads (dcells l) = some (l.map keyOf)
  | [], _ => rfl
  | s :: l, h => by
    have ih := heads_dcells l fun t ht => h t (by simp [ht])
    have hs : headOf (.c (eSl s)) = some (hd s) := by
      obtain ⟨nl, x, sl⟩ := s
      cases sl with
      | nil => exact absurd rfl (h _ List.mem_cons_self)
      | cons a t => rfl
    show (match headOf (.c (eSl s)), heads (dcells l) with | some n, some l' => some ((n, DV.c (eSl s)) :: l') | _, _ => none) = _
    rw [hs, ih]; rfl
theorem insH_map (s : Sl Int) : ∀ l : List (Sl Int), insH (keyOf s) (l.map keyOf) = (insS s l).map keyOf
  | [] => rfl
  | t :: l => by
    show (if hd s ≤ hd t then keyOf s :: keyOf t :: l.map keyOf else keyOf t :: insH (keyOf s) (l.map keyOf)) = _
    unfold insS
    split
    · rfl
    · rw [insH_map s l]; rfl
theorem foldr_map : ∀ l : List (Sl Int), (l.map keyOf).foldr insH [] = (sortHeads l).map keyOf
  | [] => rfl
  | s :: l => by
    show insH (keyOf s) ((l.map keyOf).foldr insH []) = _
    rw [foldr_map l, insH_map]; rfl
theorem insS_perm (s : Sl Int) : ∀ l, (insS s l).Perm (s :: l)
  | [] => .refl _
  | t :: l => by
    unfold insS
    split
    · exact .refl _
    · exact ((insS_perm s l).cons t).trans (.swap s t l)
theorem sortHeads_perm : ∀ l, (sortHeads l).Perm l
  | [] => .refl _
  | s :: l => (insS_perm s _).trans ((sortHeads_perm l).cons s)
theorem dcells_snd : ∀ l : List (Sl Int), (l.map keyOf).map (·.2) = dcells l
  | [] => rfl
  | s :: l => by
    show DV.c (eSl s) :: (l.map keyOf).map (·.2) = DV.c (eSl s) :: dcells l
    rw [dcells_snd l]
theorem sortFuncP_ms {st : List Ob} {id ver : Nat} {x : Bool} {l : List (Sl Int)} (h0 : l ≠ [] ∧ l.length < 4611686018427387904) (hne : ∀ s ∈ l, s.l ≠ []) (hnd : (l.map hd).Nodup) (h : st[id]? = some ⟨ver, dcells l⟩) :
    sortFuncP 31 st [.ms id ver 0 l.length 1 x, .fn 31 [] []] = some { d := .tup [], set := some (id, ⟨ver, dcells (sortHeads l)⟩) } := by
  obtain ⟨k, hk⟩ : ∃ k, l.length = k + 1 := ⟨l.length - 1, by have := List.length_pos_iff.2 h0.1; omega⟩
  have hl : (dcells l).length = l.length * 1 := dcells_length l
  have hs : span (dcells l) 0 (k + 1) = some (dcells l) := by
    have := span_pre (dcells l) []
    rw [List.append_nil, hl, Nat.mul_one, hk] at this
    exact this
  have hg : getO st id ver = some ⟨ver, dcells l⟩ := by simp [getO, h]
  have hset : setL (dcells l) 0 (dcells (sortHeads l)) = dcells (sortHeads l) := setL_full _ _ (by rw [hl, dcells_length, (sortHeads_perm l).length_eq]; rfl)
  have hn2 : ((l.map keyOf).map (·.1)).Nodup := by rw [List.map_map]; exact hnd
  rw [hk]
  simp only [sortFuncP]
  have hlt : k < 4611686018427387903 := by omega
  simp only [true_and, hlt, if_true, hg, hs, Option.bind_some, heads_dcells l hne, if_pos hn2, foldr_map, dcells_snd, hset]
end Go.Abs

set_option linter.unusedVariables false
set_option maxRecDepth 10000
namespace Go.Proofs.Ytclnpjnodmfkcaa
open Go Go.Abs Go.Proofs
theorem eachB_1 (adj : Sl (Sl Int)) (idx low : List Int) (on : List Bool) (cnt : Int) (sv ov : DV) (so oo : Ob) (u : Nat) (pd : List Ex) (i : Int) (v19 : Int) (idx' : List Int) (low' : List Int) (on' : List Bool) (cnt' : Int) (sv' : DV) (ov' : DV) (so' : Ob) (oo' : Ob) (u' : Nat) (pd' : List Ex) (h1 : i < (adj.l.length : Int)) (h2 : 0 ≤ i ∧ i < (adj.l.length : Int)) (h3 : idx[i.toNat]? = some v19) (h4 : v19 = 0) (h5 : ∃ m1, X.Runs [] 29 [.pt 3 1 0, dInt i] ⟨[⟨1, dcells idx⟩, ⟨1, dcells low⟩, ⟨1, dcells on⟩, ⟨1, [.c (eSl adj), .ms 0 1 0 adj.l.length 1 true, .ms 1 1 0 adj.l.length 1 true, sv, .ms 2 1 0 adj.l.length 1 true, dInt cnt, ov]⟩, so, oo, ⟨u, []⟩], pd⟩ (.tup []) m1 ∧ trimM 7 (.tup []) m1 = some ⟨[⟨1, dcells idx'⟩, ⟨1, dcells low'⟩, ⟨1, dcells on'⟩, ⟨1, [.c (eSl adj), .ms 0 1 0 adj.l.length 1 true, .ms 1 1 0 adj.l.length 1 true, sv', .ms 2 1 0 adj.l.length 1 true, dInt cnt', ov']⟩, so', oo', ⟨u', []⟩], pd'⟩) (h6 : -9223372036854775808 ≤ i + 1 ∧ i + 1 ≤ 9223372036854775807) : X.Go 28 25 [] (sub b28 [1, 0, 0]) ⟨fl [(0, .pt 3 1 0), (1, .fn 29 [.pt 3 1 0] []), (9, dInt (adj.l.length : Int)), (10, dInt i)], ⟨[⟨1, dcells idx⟩, ⟨1, dcells low⟩, ⟨1, dcells on⟩, ⟨1, [.c (eSl adj), .ms 0 1 0 adj.l.length 1 true, .ms 1 1 0 adj.l.length 1 true, sv, .ms 2 1 0 adj.l.length 1 true, dInt cnt, ov]⟩, so, oo, ⟨u, []⟩], pd⟩⟩ .normal ⟨fl [(0, .pt 3 1 0), (1, .fn 29 [.pt 3 1 0] []), (9, dInt (adj.l.length : Int)), (10, dInt (i + 1))], ⟨[⟨1, dcells idx'⟩, ⟨1, dcells low'⟩, ⟨1, dcells on'⟩, ⟨1, [.c (eSl adj), .ms 0 1 0 adj.l.length 1 true, .ms 1 1 0 adj.l.length 1 true, sv', .ms 2 1 0 adj.l.length 1 true, dInt cnt', ov']⟩, so', oo', ⟨u', []⟩], pd'⟩⟩ :=
  Sys.go [((1, 0), .b true), ((3, 5), .ix), ((3, 6), .cell (cInt v19)), ((3, 7), .b true), ((4, 2), .call (.tup []) ⟨[⟨1, dcells idx'⟩, ⟨1, dcells low'⟩, ⟨1, dcells on'⟩, ⟨1, [.c (eSl adj), .ms 0 1 0 adj.l.length 1 true, .ms 1 1 0 adj.l.length 1 true, sv', .ms 2 1 0 adj.l.length 1 true, dInt cnt', ov']⟩, so', oo', ⟨u', []⟩], pd'⟩), ((5, 0), .n)] (And.intro (h1) (And.intro (h2) (And.intro (And.intro (rfl : (1 : Nat) = 1) (dcell_at' 0 (c := cInt v19) rfl h3)) (And.intro (h4) (And.intro (h5) (h6)))))) (by kernel_rfl)
theorem eachB_2 (adj : Sl (Sl Int)) (idx low : List Int) (on : List Bool) (cnt : Int) (sv ov : DV) (so oo : Ob) (u : Nat) (pd : List Ex) (i : Int) (v19 : Int) (h1 : i < (adj.l.length : Int)) (h2 : 0 ≤ i ∧ i < (adj.l.length : Int)) (h3 : idx[i.toNat]? = some v19) (h4 : ¬ v19 = 0) (h5 : -9223372036854775808 ≤ i + 1 ∧ i + 1 ≤ 9223372036854775807) : X.Go 28 25 [] (sub b28 [1, 0, 0]) ⟨fl [(0, .pt 3 1 0), (1, .fn 29 [.pt 3 1 0] []), (9, dInt (adj.l.length : Int)), (10, dInt i)], ⟨[⟨1, dcells idx⟩, ⟨1, dcells low⟩, ⟨1, dcells on⟩, ⟨1, [.c (eSl adj), .ms 0 1 0 adj.l.length 1 true, .ms 1 1 0 adj.l.length 1 true, sv, .ms 2 1 0 adj.l.length 1 true, dInt cnt, ov]⟩, so, oo, ⟨u, []⟩], pd⟩⟩ .normal ⟨fl [(0, .pt 3 1 0), (1, .fn 29 [.pt 3 1 0] []), (9, dInt (adj.l.length : Int)), (10, dInt (i + 1))], ⟨[⟨1, dcells idx⟩, ⟨1, dcells low⟩, ⟨1, dcells on⟩, ⟨1, [.c (eSl adj), .ms 0 1 0 adj.l.length 1 true, .ms 1 1 0 adj.l.length 1 true, sv, .ms 2 1 0 adj.l.length 1 true, dInt cnt, ov]⟩, so, oo, ⟨u, []⟩], pd⟩⟩ :=
  Sys.go [((1, 0), .b true), ((3, 5), .ix), ((3, 6), .cell (cInt v19)), ((3, 7), .b false), ((5, 0), .n)] (And.intro (h1) (And.intro (h2) (And.intro (And.intro (rfl : (1 : Nat) = 1) (dcell_at' 0 (c := cInt v19) rfl h3)) (And.intro (h4) (h5))))) (by kernel_rfl)
theorem eachB_3 (adj : Sl (Sl Int)) (idx low : List Int) (on : List Bool) (cnt : Int) (sv ov : DV) (so oo : Ob) (u : Nat) (pd : List Ex) (i : Int) (h1 : ¬ i < (adj.l.length : Int)) : X.Go 28 25 [] (sub b28 [1, 0, 0]) ⟨fl [(0, .pt 3 1 0), (1, .fn 29 [.pt 3 1 0] []), (9, dInt (adj.l.length : Int)), (10, dInt i)], ⟨[⟨1, dcells idx⟩, ⟨1, dcells low⟩, ⟨1, dcells on⟩, ⟨1, [.c (eSl adj), .ms 0 1 0 adj.l.length 1 true, .ms 1 1 0 adj.l.length 1 true, sv, .ms 2 1 0 adj.l.length 1 true, dInt cnt, ov]⟩, so, oo, ⟨u, []⟩], pd⟩⟩ (.exit 0) ⟨fl [(0, .pt 3 1 0), (1, .fn 29 [.pt 3 1 0] []), (9, dInt (adj.l.length : Int)), (10, dInt i), (11, dB false)], ⟨[⟨1, dcells idx⟩, ⟨1, dcells low⟩, ⟨1, dcells on⟩, ⟨1, [.c (eSl adj), .ms 0 1 0 adj.l.length 1 true, .ms 1 1 0 adj.l.length 1 true, sv, .ms 2 1 0 adj.l.length 1 true, dInt cnt, ov]⟩, so, oo, ⟨u, []⟩], pd⟩⟩ :=
  Sys.go [((1, 0), .b false)] (h1) (by kernel_rfl)
theorem eachM_1 (adj : Sl (Sl Int)) (idx low : List Int) (on : List Bool) (cnt : Int) (sv ov : DV) (so oo : Ob) (u : Nat) (pd : List Ex) (idx' : List Int) (low' : List Int) (on' : List Bool) (cnt' : Int) (sv' : DV) (ov' : DV) (so' : Ob) (oo' : Ob) (u' : Nat) (pd' : List Ex) (i : Int) (h1 : X.Go 28 25 [] (sub b28 [1, 0]) ⟨fl [(0, .pt 3 1 0), (1, .fn 29 [.pt 3 1 0] []), (9, dInt (adj.l.length : Int)), (10, dInt 0)], ⟨[⟨1, dcells idx⟩, ⟨1, dcells low⟩, ⟨1, dcells on⟩, ⟨1, [.c (eSl adj), .ms 0 1 0 adj.l.length 1 true, .ms 1 1 0 adj.l.length 1 true, sv, .ms 2 1 0 adj.l.length 1 true, dInt cnt, ov]⟩, so, oo, ⟨u, []⟩], pd⟩⟩ (.exit 0) ⟨fl [(0, .pt 3 1 0), (1, .fn 29 [.pt 3 1 0] []), (9, dInt (adj.l.length : Int)), (10, dInt i), (11, dB false)], ⟨[⟨1, dcells idx'⟩, ⟨1, dcells low'⟩, ⟨1, dcells on'⟩, ⟨1, [.c (eSl adj), .ms 0 1 0 adj.l.length 1 true, .ms 1 1 0 adj.l.length 1 true, sv', .ms 2 1 0 adj.l.length 1 true, dInt cnt', ov']⟩, so', oo', ⟨u', []⟩], pd'⟩⟩) : X.Runs [] 28 [.pt 3 1 0, .fn 29 [.pt 3 1 0] []] ⟨[⟨1, dcells idx⟩, ⟨1, dcells low⟩, ⟨1, dcells on⟩, ⟨1, [.c (eSl adj), .ms 0 1 0 adj.l.length 1 true, .ms 1 1 0 adj.l.length 1 true, sv, .ms 2 1 0 adj.l.length 1 true, dInt cnt, ov]⟩, so, oo, ⟨u, []⟩], pd⟩ (.tup []) ⟨[⟨1, dcells idx'⟩, ⟨1, dcells low'⟩, ⟨1, dcells on'⟩, ⟨1, [.c (eSl adj), .ms 0 1 0 adj.l.length 1 true, .ms 1 1 0 adj.l.length 1 true, sv', .ms 2 1 0 adj.l.length 1 true, dInt cnt', ov']⟩, so', oo', ⟨u', []⟩], pd'⟩ :=
  (Sys.call (X := X) (args := [.pt 3 1 0, .fn 29 [.pt 3 1 0] []]) (m := ⟨[⟨1, dcells idx⟩, ⟨1, dcells low⟩, ⟨1, dcells on⟩, ⟨1, [.c (eSl adj), .ms 0 1 0 adj.l.length 1 true, .ms 1 1 0 adj.l.length 1 true, sv, .ms 2 1 0 adj.l.length 1 true, dInt cnt, ov]⟩, so, oo, ⟨u, []⟩], pd⟩) (d := .tup []) (m' := ⟨[⟨1, dcells idx'⟩, ⟨1, dcells low'⟩, ⟨1, dcells on'⟩, ⟨1, [.c (eSl adj), .ms 0 1 0 adj.l.length 1 true, .ms 1 1 0 adj.l.length 1 true, sv', .ms 2 1 0 adj.l.length 1 true, dInt cnt', ov']⟩, so', oo', ⟨u', []⟩], pd'⟩) (Sys.go (f := 28) (nt := 25) (Γ := []) (c := b28) (s := ⟨argFr [.pt 3 1 0, .fn 29 [.pt 3 1 0] []], ⟨[⟨1, dcells idx⟩, ⟨1, dcells low⟩, ⟨1, dcells on⟩, ⟨1, [.c (eSl adj), .ms 0 1 0 adj.l.length 1 true, .ms 1 1 0 adj.l.length 1 true, sv, .ms 2 1 0 adj.l.length 1 true, dInt cnt, ov]⟩, so, oo, ⟨u, []⟩], pd⟩⟩) (ex := .normal) (s' := ⟨fl [(0, .pt 3 1 0), (1, .fn 29 [.pt 3 1 0] []), (9, dInt (adj.l.length : Int)), (10, dInt i), (11, dB false)], ⟨[⟨1, dcells idx'⟩, ⟨1, dcells low'⟩, ⟨1, dcells on'⟩, ⟨1, [.c (eSl adj), .ms 0 1 0 adj.l.length 1 true, .ms 1 1 0 adj.l.length 1 true, sv', .ms 2 1 0 adj.l.length 1 true, dInt cnt', ov']⟩, so', oo', ⟨u', []⟩], pd'⟩⟩) [((1, 1000), .code (.exit 0) ⟨fl [(0, .pt 3 1 0), (1, .fn 29 [.pt 3 1 0] []), (9, dInt (adj.l.length : Int)), (10, dInt i), (11, dB false)], ⟨[⟨1, dcells idx'⟩, ⟨1, dcells low'⟩, ⟨1, dcells on'⟩, ⟨1, [.c (eSl adj), .ms 0 1 0 adj.l.length 1 true, .ms 1 1 0 adj.l.length 1 true, sv', .ms 2 1 0 adj.l.length 1 true, dInt cnt', ov']⟩, so', oo', ⟨u', []⟩], pd'⟩⟩)] (h1) (by kernel_rfl)) (fn := Try.f28) (by kernel_rfl) (by kernel_rfl) rfl (by kernel_rfl) rfl)
theorem compsN_1 (adj : Sl (Sl Int)) (idx : List Int) (low : List Int) (on : List Bool) (cnt : Int) (sv : DV) (so : Ob) (u : Nat) (pd : List Ex) (h1 : 8 * adj.l.length ≤ 281474976710656 ∧ adj.l.length ≤ 9223372036854775807) (h2 : 1 * adj.l.length ≤ 281474976710656 ∧ adj.l.length ≤ 9223372036854775807) (h3 : X.Runs [] 28 [.pt 3 1 0, .fn 29 [.pt 3 1 0] []] ⟨[⟨1, dcells (List.replicate adj.l.length (0 : Int))⟩, ⟨1, dcells (List.replicate adj.l.length (0 : Int))⟩, ⟨1, dcells (List.replicate adj.l.length (false : Bool))⟩, ⟨1, [.c (eSl adj), .ms 0 1 0 adj.l.length 1 true, .ms 1 1 0 adj.l.length 1 true, .c (.sl true true [] 0), .ms 2 1 0 adj.l.length 1 true, dInt 0, .c (.sl true true [] 0)]⟩, ⟨0, []⟩, ⟨0, []⟩, ⟨0, []⟩], []⟩ (.tup []) ⟨[⟨1, dcells idx⟩, ⟨1, dcells low⟩, ⟨1, dcells on⟩, ⟨1, [.c (eSl adj), .ms 0 1 0 adj.l.length 1 true, .ms 1 1 0 adj.l.length 1 true, sv, .ms 2 1 0 adj.l.length 1 true, dInt cnt, .c (.sl true true [] 0)]⟩, so, ⟨0, []⟩, ⟨u, []⟩], pd⟩) : X.RunsC 17 [.c (eSl adj)] (.c (.sl true true [] 0)) :=
  Sys.callC (Sys.call (X := X) (args := [.c (eSl adj)]) (m := ⟨[], []⟩) (d := .c (.sl true true [] 0)) (m' := ⟨[⟨1, dcells idx⟩, ⟨1, dcells low⟩, ⟨1, dcells on⟩, ⟨1, [.c (eSl adj), .ms 0 1 0 adj.l.length 1 true, .ms 1 1 0 adj.l.length 1 true, sv, .ms 2 1 0 adj.l.length 1 true, dInt cnt, .c (.sl true true [] 0)]⟩, so, ⟨0, []⟩, ⟨u, []⟩], pd⟩) (Sys.go (f := 17) (nt := 29) (Γ := []) (c := b17) (s := ⟨argFr [.c (eSl adj)], ⟨[], []⟩⟩) (ex := .ret) (s' := ⟨fl [(2, .c (.sl true true [] 0))], ⟨[⟨1, dcells idx⟩, ⟨1, dcells low⟩, ⟨1, dcells on⟩, ⟨1, [.c (eSl adj), .ms 0 1 0 adj.l.length 1 true, .ms 1 1 0 adj.l.length 1 true, sv, .ms 2 1 0 adj.l.length 1 true, dInt cnt, .c (.sl true true [] 0)]⟩, so, ⟨0, []⟩, ⟨u, []⟩], pd⟩⟩) [((2, 2), .mk (dcells (List.replicate adj.l.length (0 : Int))) true), ((2, 4), .mk (dcells (List.replicate adj.l.length (0 : Int))) true), ((2, 6), .mk (dcells (List.replicate adj.l.length (false : Bool))) true), ((3, 3), .call (.tup []) ⟨[⟨1, dcells idx⟩, ⟨1, dcells low⟩, ⟨1, dcells on⟩, ⟨1, [.c (eSl adj), .ms 0 1 0 adj.l.length 1 true, .ms 1 1 0 adj.l.length 1 true, sv, .ms 2 1 0 adj.l.length 1 true, dInt cnt, .c (.sl true true [] 0)]⟩, so, ⟨0, []⟩, ⟨u, []⟩], pd⟩), ((4, 4), .op { d := .tup [] })] (And.intro (mk_ok (0 : Int) h1) (And.intro (mk_ok (0 : Int) h1) (And.intro (mk_ok (false : Bool) h2) (And.intro (h3) ((rfl : sortFuncP 31 [⟨1, dcells idx⟩, ⟨1, dcells low⟩, ⟨1, dcells on⟩, ⟨1, [.c (eSl adj), .ms 0 1 0 adj.l.length 1 true, .ms 1 1 0 adj.l.length 1 true, sv, .ms 2 1 0 adj.l.length 1 true, dInt cnt, .c (.sl true true [] 0)]⟩, so, ⟨0, []⟩, ⟨u, []⟩] [.c (.sl true true [] 0), .fn 31 [] []] = some { d := .tup [] })))))) (by kernel_rfl)) (fn := Try.f17) (by kernel_rfl) (by kernel_rfl) rfl (by kernel_rfl) rfl) rfl
theorem compsS_1 (adj : Sl (Sl Int)) (idx : List Int) (low : List Int) (on : List Bool) (cnt : Int) (sv : DV) (so : Ob) (u : Nat) (pd : List Ex) (w : Nat) (outs : List (Sl Int)) (h1 : 8 * adj.l.length ≤ 281474976710656 ∧ adj.l.length ≤ 9223372036854775807) (h2 : 1 * adj.l.length ≤ 281474976710656 ∧ adj.l.length ≤ 9223372036854775807) (h3 : X.Runs [] 28 [.pt 3 1 0, .fn 29 [.pt 3 1 0] []] ⟨[⟨1, dcells (List.replicate adj.l.length (0 : Int))⟩, ⟨1, dcells (List.replicate adj.l.length (0 : Int))⟩, ⟨1, dcells (List.replicate adj.l.length (false : Bool))⟩, ⟨1, [.c (eSl adj), .ms 0 1 0 adj.l.length 1 true, .ms 1 1 0 adj.l.length 1 true, .c (.sl true true [] 0), .ms 2 1 0 adj.l.length 1 true, dInt 0, .c (.sl true true [] 0)]⟩, ⟨0, []⟩, ⟨0, []⟩, ⟨0, []⟩], []⟩ (.tup []) ⟨[⟨1, dcells idx⟩, ⟨1, dcells low⟩, ⟨1, dcells on⟩, ⟨1, [.c (eSl adj), .ms 0 1 0 adj.l.length 1 true, .ms 1 1 0 adj.l.length 1 true, sv, .ms 2 1 0 adj.l.length 1 true, dInt cnt, .ms 5 w 0 outs.length 1 false]⟩, so, ⟨w, dcells outs⟩, ⟨u, []⟩], pd⟩) (h4 : outs ≠ [] ∧ outs.length < 4611686018427387904) (h5 : ∀ s ∈ outs, s.l ≠ []) (h6 : (outs.map hd).Nodup) (hn : (sortHeads outs).length = outs.length) : X.RunsC 17 [.c (eSl adj)] (.c (.sl false false (cells (sortHeads outs)) (sortHeads outs).length)) :=
  Sys.callC (Sys.call (X := X) (args := [.c (eSl adj)]) (m := ⟨[], []⟩) (d := .ms 5 w 0 outs.length 1 false) (m' := ⟨[⟨1, dcells idx⟩, ⟨1, dcells low⟩, ⟨1, dcells on⟩, ⟨1, [.c (eSl adj), .ms 0 1 0 adj.l.length 1 true, .ms 1 1 0 adj.l.length 1 true, sv, .ms 2 1 0 adj.l.length 1 true, dInt cnt, .ms 5 w 0 outs.length 1 false]⟩, so, ⟨w, dcells (sortHeads outs)⟩, ⟨u, []⟩], pd⟩) (Sys.go (f := 17) (nt := 29) (Γ := []) (c := b17) (s := ⟨argFr [.c (eSl adj)], ⟨[], []⟩⟩) (ex := .ret) (s' := ⟨fl [(2, .ms 5 w 0 outs.length 1 false)], ⟨[⟨1, dcells idx⟩, ⟨1, dcells low⟩, ⟨1, dcells on⟩, ⟨1, [.c (eSl adj), .ms 0 1 0 adj.l.length 1 true, .ms 1 1 0 adj.l.length 1 true, sv, .ms 2 1 0 adj.l.length 1 true, dInt cnt, .ms 5 w 0 outs.length 1 false]⟩, so, ⟨w, dcells (sortHeads outs)⟩, ⟨u, []⟩], pd⟩⟩) [((2, 2), .mk (dcells (List.replicate adj.l.length (0 : Int))) true), ((2, 4), .mk (dcells (List.replicate adj.l.length (0 : Int))) true), ((2, 6), .mk (dcells (List.replicate adj.l.length (false : Bool))) true), ((3, 3), .call (.tup []) ⟨[⟨1, dcells idx⟩, ⟨1, dcells low⟩, ⟨1, dcells on⟩, ⟨1, [.c (eSl adj), .ms 0 1 0 adj.l.length 1 true, .ms 1 1 0 adj.l.length 1 true, sv, .ms 2 1 0 adj.l.length 1 true, dInt cnt, .ms 5 w 0 outs.length 1 false]⟩, so, ⟨w, dcells outs⟩, ⟨u, []⟩], pd⟩), ((4, 4), .op { d := .tup [], set := some (5, ⟨w, dcells (sortHeads outs)⟩) })] (And.intro (mk_ok (0 : Int) h1) (And.intro (mk_ok (0 : Int) h1) (And.intro (mk_ok (false : Bool) h2) (And.intro (h3) (sortFuncP_ms (st := [⟨1, dcells idx⟩, ⟨1, dcells low⟩, ⟨1, dcells on⟩, ⟨1, [.c (eSl adj), .ms 0 1 0 adj.l.length 1 true, .ms 1 1 0 adj.l.length 1 true, sv, .ms 2 1 0 adj.l.length 1 true, dInt cnt, .ms 5 w 0 outs.length 1 false]⟩, so, ⟨w, dcells outs⟩, ⟨u, []⟩]) (id := 5) (ver := w) (x := false) (l := outs) h4 h5 h6 rfl))))) (by kernel_rfl)) (fn := Try.f17) (by kernel_rfl) (by kernel_rfl) rfl (by kernel_rfl) rfl) (closeTop_msn (o := ⟨w, dcells (sortHeads outs)⟩) (r := []) hn (getO_of rfl rfl) (List.append_nil _).symm rfl)
end Go.Proofs.Ytclnpjnodmfkcaa
