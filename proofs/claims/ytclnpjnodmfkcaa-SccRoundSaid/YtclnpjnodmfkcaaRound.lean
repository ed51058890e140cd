/-
  SccRound: for every graph the call of the law returns true, and the graph reads behind it as before. No condition.
-/
import Derived.Test.YtclnpjnodmfkcaaMr
import Derived.Test.YtclnpjnodmfkcaaRk
set_option linter.unusedVariables false
set_option linter.unusedSimpArgs false
set_option maxRecDepth 10000
namespace Go.Proofs.Ytclnpjnodmfkcaa
open Go Go.Abs Go.Proofs Go.Proofs.Scc Go.ChangeShapes Go.WideShapes Go.ChangeAt Go.RowKit
theorem round_c (adj cs : Sl (Sl Int)) (hs : adj.l.length ≤ 40) (hr : ∀ r ∈ adj.l, r.l.length ≤ 1000) (hC : IsComps adj.l (cs.l.map (·.l))) :
    ∃ (i : Int) (seen : List Int), X.Go 7 177 [] (sub b7 [1, 1, 1, 1, 0, 1, 0]) ⟨fl [(0, .c (eSl adj)), (3, .c (eSl cs)), (4, .ms 0 1 0 adj.l.length 1 true), (5, dInt 0)], ⟨[⟨1, dcells (List.replicate adj.l.length (0 : Int))⟩], []⟩⟩ (.exit 0) ⟨fl [(0, .c (eSl adj)), (3, .c (eSl cs)), (4, .ms 0 1 0 adj.l.length 1 true), (5, dInt i), (30, dB false)], ⟨[⟨1, dcells seen⟩], []⟩⟩ ∧ seen.length = adj.l.length ∧ ∀ x, Nod adj.l x → seen[x.toNat]? = some 1 := by
  classical
  have hcsl : cs.l.length ≤ 40 := by have := hC.le.1; simp at this; omega
  obtain ⟨ex, s', hgo, _, i, seen, rfl, rfl, h1, h2⟩ := Sys.loop_go (X := X) (f := 7) (nt := 177) (Γ := []) (a := sub b7 [1, 1, 1, 1, 0, 1, 0, 0]) (m := 1)
    (fun σ : Nat × List Int => ⟨fl [(0, .c (eSl adj)), (3, .c (eSl cs)), (4, .ms 0 1 0 adj.l.length 1 true), (5, dInt σ.1)], ⟨[⟨1, dcells σ.2⟩], []⟩⟩)
    (fun σ => σ.1 ≤ cs.l.length ∧ σ.2.length = adj.l.length ∧ ∀ x, Nod adj.l x → σ.2[x.toNat]? = some (if ∃ o ∈ cs.l.take σ.1, x ∈ o.l then 1 else 0)) (fun σ => cs.l.length - σ.1)
    (fun ex s' => ∃ (i : Int) (seen : List Int), ex = .exit 0 ∧ s' = ⟨fl [(0, .c (eSl adj)), (3, .c (eSl cs)), (4, .ms 0 1 0 adj.l.length 1 true), (5, dInt i), (30, dB false)], ⟨[⟨1, dcells seen⟩], []⟩⟩ ∧ seen.length = adj.l.length ∧ ∀ x, Nod adj.l x → seen[x.toNat]? = some 1)
    (by
      rintro ⟨i, seen⟩ ⟨hi, hl, hall⟩
      simp only at hi hl hall
      by_cases h1 : (i : Int) < (cs.l.length : Int)
      · obtain ⟨c, hc⟩ := get_nat h1
        have hc' : cs.l[i]? = some c := by simpa using hc
        have hm : c.l ∈ cs.l.map (·.l) := List.mem_map_of_mem (List.mem_of_getElem? hc')
        have htk : cs.l.take (i + 1) = cs.l.take i ++ [c] := by rw [List.take_add_one, hc']; rfl
        obtain ⟨g, g1, g2⟩ := within_runs adj c (by omega) (by have := hC.le.2 _ hm; omega) (fun r h => by have := hr r h; omega)
        have hv : ∀ v ∈ seen, 0 ≤ v ∧ v ≤ 1000 := fun v hvm => by
          obtain ⟨j, hj, rfl⟩ := List.getElem_of_mem hvm
          have := hall (j : Int) ⟨by omega, by omega⟩
          rw [Int.toNat_natCast, List.getElem?_eq_getElem hj, Option.some.injEq] at this
          rw [this]; split <;> omega
        obtain ⟨k, seen', a1, a2, a3⟩ := round_a adj cs g hs hC i c hc' g2 seen hl hv
        obtain ⟨j, b1⟩ := round_b adj cs hs hr hC seen' i (by omega)
        refine .inl ⟨_, (i + 1, seen'), roundC_1 adj cs seen i c g k seen' j h1 (by omega) hc g1 a1 b1 (by omega), rfl, ⟨by simp only; omega, a2, fun x hx => ?_⟩, by simp only; omega⟩
        simp only
        rw [a3 x hx _ (hall x hx), htk]
        by_cases hxc : x ∈ c.l
        · have hno : ¬ ∃ o ∈ cs.l.take i, x ∈ o.l := fun ⟨o, ho, hxo⟩ => by
            obtain ⟨k', hk', e⟩ := List.getElem_of_mem ho
            have hk2 : k' < i := by rw [List.length_take] at hk'; omega
            have ho' : o.l ∈ cs.l.map (·.l) := List.mem_map_of_mem (List.mem_of_mem_take ho)
            have heq : o.l = c.l := rising_ext (hC.rise _ ho').2 (hC.rise _ hm).2 fun z => by rw [hC.comp _ ho' x hxo, hC.comp _ hm x hxc]
            have hord := hC.order
            rw [List.pairwise_map] at hord
            have hlt := List.pairwise_iff_getElem.1 hord k' i (by omega) (by omega) hk2
            have e1 : cs.l[k']'(by omega) = o := by rw [← e, List.getElem_take]
            have e2 : cs.l[i]'(by omega) = c := (List.getElem?_eq_some_iff.1 hc').2
            rw [e1, e2, heq] at hlt; omega
          rw [if_neg hno, if_pos hxc, if_pos ⟨c, by simp, hxc⟩]; rfl
        · rw [if_neg hxc, Int.add_zero]
          congr 1
          simp [hxc, or_and_right, exists_or]
      · refine .inr ⟨_, _, roundC_2 adj cs seen i h1, by simp, i, seen, rfl, rfl, hl, fun x hx => ?_⟩
        rw [hall x hx, List.take_of_length_le (by omega), if_pos]
        obtain ⟨o, ho, hxo⟩ := hC.all x hx
        obtain ⟨s, hsm, rfl⟩ := List.mem_map.1 ho
        exact ⟨s, hsm, hxo⟩)
    (0, List.replicate adj.l.length 0) ⟨by simp, by simp, fun x hx => by
      have h1 := hx.1; have h2 := hx.2
      rw [List.getElem?_replicate, if_pos (by omega)]; simp⟩ rfl
  exact ⟨i, seen, hgo, h1, h2⟩

theorem round_law (adj : Sl (Sl Int)) {p : Prop} (_ : p) : ∃ m, X.Runs [] 7 [.c (eSl adj)] ⟨[], []⟩ (dB true) m := by
  obtain ⟨b, hb, hsm⟩ := small_runs adj
  cases b with
  | false => exact ⟨_, lawRound_2 adj hb live_runs⟩
  | true =>
    obtain ⟨h40, h80⟩ := hsm rfl
    obtain ⟨s, h1, h2⟩ := comps_runs adj (fun r hr => by have := h80 r hr; omega) (by omega)
    obtain ⟨i, seen, g1, g2, g3⟩ := round_c adj s h40 (fun r hr => by have := h80 r hr; omega) h2
    obtain ⟨ex, s', hgo, _, j, rfl, rfl⟩ := Sys.loop_go (X := X) (f := 7) (nt := 177) (Γ := []) (a := sub b7 [1, 1, 1, 1, 1, 0, 1, 0, 0]) (m := 1)
      (fun k : Nat => ⟨fl [(4, .ms 0 1 0 adj.l.length 1 true), (17, dInt k)], ⟨[⟨1, dcells seen⟩], []⟩⟩)
      (fun k => k ≤ adj.l.length) (fun k => adj.l.length - k)
      (fun ex s' => ∃ j : Int, ex = .exit 6 ∧ s' = ⟨fl [(4, .ms 0 1 0 adj.l.length 1 true), (17, dInt j), (168, dB false)], ⟨[⟨1, dcells seen⟩], []⟩⟩)
      (by
        intro k hk
        by_cases h3 : (k : Int) < (adj.l.length : Int)
        · exact .inl ⟨_, k + 1, roundD_2 adj seen k 1 h3 (by omega) (g3 k ⟨by omega, h3⟩) (by omega) (by omega), rfl, by omega, by omega⟩
        · exact .inr ⟨_, _, roundD_3 adj seen k h3, by simp, k, rfl, rfl⟩)
      0 (by omega) rfl
    exact ⟨_, lawRound_1 adj s i seen j hb h1 (by omega) g1 hgo live_runs⟩

theorem sccRound_lifted (os : Os) (started : os.Started) (H : Type) (enc : TypeId × Value → H) :
    ReturnsInHanded {} Try.checked os 7 .any (Rows.sccRoundSpec.pre6 enc Try.prog Try.f7 Rows.sccRoundRow.domain false) (Rows.sccRoundSpec.post enc Try.prog Try.f7 false true false false) := by
  refine returnsInHanded_of_change_sized (C := Try.checked) own started (by kernel_rfl) Try.func7
    (ChangeSpec.witness6 (enc := enc) (C := Try.checked) false ⟨#[], #[.slice none 0 0], []⟩ 8 (by kernel_rfl) (by kernel_rfl) (by kernel_rfl) (by kernel_rfl)) ?_
  intro W base args ds gs before hval0 hW hcnd hsz0 _
  have hval : ∀ (j : Nat) t v, Try.f7.params[j]? = some t → args[j]? = some v → Value.okWide Try.prog W .any base t v := hval0
  have hW' := hW
  obtain ⟨p, q, hA0, hV, rfl, hfz, hnd⟩ := hW
  have hA : DataW.TrodAll enc Try.prog W 0 (fun _ => true) true Try.f7.params.toList args.toList ds p := hA0
  rw [Try.params7] at hA hval
  obtain ⟨v0, vs0, d0, ds0, p0, q0, hargs, rfl, rfl, h0, r0⟩ := trodAll_cons hA
  obtain ⟨rfl, rfl, rfl⟩ := trodAll_nil r0
  obtain rfl : args = #[v0] := by cases args; simp_all
  obtain ⟨rfl, rfl⟩ := trodVars_none hV
  obtain ⟨a0, len0, cap0, rfl⟩ := okWide_slice Try.underlying22 (hval 0 22 v0 rfl rfl)
  obtain ⟨c0, rc0, qq0⟩ := reads_arg reads_intss h0 rfl
  obtain ⟨adj, ec0, fa0⟩ := intss_of qq0
  simp only [Enc.enc, List.cons.injEq, and_true] at ec0
  subst ec0
  obtain ⟨m', hrun⟩ := round_law adj fa0
  refine (law_calls (X := X) (by kernel_rfl) prims_ok hrun (.cons (.c rc0) (.nil))).mono fun en W' ⟨he, hk⟩ => ?_
  exact ⟨_, he, post_true (P := Try.prog) (f := Try.f7) (s := Rows.sccRoundSpec) laidOut (by rw [Try.params7]; intro t ht; simp at ht; subst ht <;> exact ⟨by kernel_rfl, of_decide_eq_true (by kernel_rfl)⟩) rfl Try.underlying4 rfl rfl hW' hk⟩
theorem sccRound_holds : Rows.SccRoundSaid :=
  OpenClaim.holds_of_wide 7 Try.f7 rfl rfl rfl rfl rfl rfl rfl ⟨rfl, rfl, rfl, rfl, rfl⟩ rfl rfl rfl rfl rfl (by kernel_rfl) Try.func7 (by kernel_rfl)
    (of_decide_eq_true (by kernel_rfl)) (by unfold Func.isWrapper; first | (rw [if_pos (by decide +kernel)]; kernel_rfl) | (rw [if_neg (by decide +kernel)]; exact ⟨rfl, rfl⟩))
    (fun os started H enc _ => sccRound_lifted os started H enc)
end Go.Proofs.Ytclnpjnodmfkcaa
