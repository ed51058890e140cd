/-
  How worlds and texts come in; what the listed variables give.
-/
import Derived.Test.YtilipgopjiokfaaGreatDoorPr
import Derived.Test.YtilipgopjiokfaaGreatDoorPc
import Derived.Test.YtilipgopjiokfaaGreatDoorVb
import Derived.Test.YtilipgopjiokfaaGreatDoorAbs35
import Derived.Test.YtilipgopjiokfaaGreatDoorRows
import Derived.ChangeSame
import Derived.ChangeVars
import Derived.JoinedOf
import Derived.LaidLaws
import Derived.LaidHandle
import Derived.MakeChecks
import Derived.Stop.Joined
import Derived.OpenShut
import Derived.ProofKit
import Derived.WalkKit
import Derived.Lay
set_option linter.unusedVariables false
set_option linter.unusedSimpArgs false
namespace Go.Proofs.YtilipgopjiokfaaGreatDoor
open Go Go.Abs Go.Proofs Go.ChangeShapes Go.WideShapes Go.ChangeAt Go.RowKit

theorem own : ownKnob Tryz.prog.godebug = none := by kernel_rfl
theorem laidOut : laidOutB Tryz.prog = true := by kernel_rfl
/-- One listed variable's reading. -/
def VarReads (P : Program) (w : World) (n : String) (d : DataW Unit) : Prop :=
  ∃ g t cs fuel p, P.globalNamed n = some g ∧ (P.globals[g]?).map (·.type) = some t ∧ w.var? P n = some cs ∧ DataW.trod (fun _ => ()) P w 0 (fun _ => true) false fuel t cs.toList = some (d, p)
theorem LaidVars_reads {P : Program} {w : World} : ∀ {l : List (String × DataW Unit)} {ps : List MemPlace}, DataW.LaidVars P w l ps → ∀ n d, (n, d) ∈ l → VarReads P w n d
  | [], _, _, _, _, hm => by cases hm
  | (n', d') :: r, ps, h, n, d, hm => by
    obtain ⟨g, t, cs, fuel, p, q, h1, h2, h3, h4, h5, _⟩ := h
    rcases List.mem_cons.1 hm with e | e
    · cases e
      exact ⟨g, t, cs, fuel, p, h1, h2, h3, h4⟩
    · exact LaidVars_reads h5 n d e
theorem reads_of_met {P : Program} {w : World} {l : List (String × DataW Unit)} (h : laidMet P l w) {n : String} {d : DataW Unit} (hm : (n, d) ∈ l) : VarReads P w n d :=
  let ⟨_, hv, _⟩ := h
  LaidVars_reads hv n d hm
theorem var_lt {P : Program} {w : World} {name : String} {g : Nat} {cs : Array Value} (hg : P.globalNamed name = some g) (h : w.var? P name = some cs) : g < w.heap.size := by
  unfold World.var? at h
  rw [hg] at h
  simp only [Option.bind_some] at h
  cases hh : w.heap[g]? with
  | none => rw [hh] at h; cases h
  | some o => exact (Array.getElem?_eq_some_iff.1 hh).1
theorem err_cell {w : World} {n : String} {g : Nat} {nm : String} {d : DataW Unit} (hg : Tryz.prog.globalNamed n = some g) (ht : (Tryz.prog.globals[g]?).map (·.type) = some 102) (h : VarReads Tryz.prog w n (.iface nm d)) : g < w.heap.size ∧ ∃ t p, w.cell? ⟨g, 0, none⟩ = some (.iface t p) := by
  obtain ⟨g', t, cs, fuel, p, h1, h2, h3, h4⟩ := h
  obtain rfl := Option.some.inj (hg.symm.trans h1)
  obtain rfl := Option.some.inj (ht.symm.trans h2)
  obtain ⟨_, u, v, hcs, _, _⟩ := iface_of_trod (P := Tryz.prog) Tryz.underlying102 h4
  refine ⟨var_lt hg h3, u, v, ?_⟩
  have hc := World.var?_cell hg h3 0
  have : cs[0]? = some (.iface u v) := by rw [← Array.getElem?_toList, hcs]; rfl
  simpa [this] using hc
theorem max_cell {w : World} (h : w.ShapedOpen Tryz.prog) : ∃ m, w.cell? ⟨2, 0, none⟩ = some (.int .i64 m) :=
  cell_of_shapedOpen_int (g := 2) (t := 3) (zero := #[.int .i64 0]) h (of_decide_eq_true (by kernel_rfl)) (by kernel_rfl) rfl (by kernel_rfl) (by kernel_rfl) Tryz.underlying3
theorem gl_of {w : World} {l : List (String × DataW Unit)} (hsh : w.ShapedOpen Tryz.prog) (h : laidMet Tryz.prog l w) (hT : ("internal/strconv.uint64pow10", Rows.laid_internal_strconv_uint64pow10) ∈ l) (hS : ("strconv.ErrSyntax", Rows.laid_strconv_ErrSyntax) ∈ l) (hR : ("strconv.ErrRange", Rows.laid_strconv_ErrRange) ∈ l) :
    (∀ a, Gl.as a → a.block < w.heap.size) ∧ Gl.ok w := by
  obtain ⟨s1, s2⟩ := err_cell gS (by kernel_rfl) (reads_of_met h hS)
  obtain ⟨r1, r2⟩ := err_cell gR (by kernel_rfl) (reads_of_met h hR)
  obtain ⟨g', t, cs, fuel, p, h1, h2, h3, h4⟩ := reads_of_met h hT
  obtain rfl := Option.some.inj (gT.symm.trans h1)
  have hty : (Tryz.prog.globals[5]?).map (·.type) = some 301 := by kernel_rfl
  obtain rfl := Option.some.inj (hty.symm.trans h2)
  have hd : (Rows.laid_internal_strconv_uint64pow10 : DataW Unit) = Lib.tabData .u64 Lib.pow10Tab := by kernel_rfl
  rw [hd] at h4
  have hcs := Lib.cells_of_tab (P := Tryz.prog) (n := 20) (e := 174) Tryz.underlying301 Tryz.underlying174 (by kernel_rfl) (by kernel_rfl) h4
  obtain ⟨m, hm⟩ := max_cell hsh
  refine ⟨?_, ?_, s2, r2, m, hm⟩
  · rintro a (h | h | h | h)
    · rw [h]; exact s1
    · rw [h]; exact r1
    · rw [h]; exact var_lt gT h3
    · rw [h]; exact World.block_lt_of_cell? _ _ hm
  · unfold Lib.TabIs
    rw [h3, ← hcs]
theorem thread_of {cs : List CV} (hl : cs.length = 5) (h : ∀ c ∈ cs, IsInt c) : ∃ p : GThread, Enc.enc p = cs ∧ FitT p := by
  match cs, hl with
  | [a, b, c, d, e], _ =>
    obtain ⟨x1, rfl, h1⟩ := int_of (h a (by simp))
    obtain ⟨x2, rfl, h2⟩ := int_of (h b (by simp))
    obtain ⟨x3, rfl, h3⟩ := int_of (h c (by simp))
    obtain ⟨x4, rfl, h4⟩ := int_of (h d (by simp))
    obtain ⟨x5, rfl, h5⟩ := int_of (h e (by simp))
    refine ⟨⟨x1, x2, x3, x4, x5⟩, rfl, ?_⟩
    unfold FitT
    simp [tN, h1, h2, h3, h4, h5]
theorem lock_of {cs : List CV} (hl : cs.length = 2) (h : ∀ c ∈ cs, IsInt c) : ∃ p : GLock, Enc.enc p = cs ∧ FitK p := by
  match cs, hl with
  | [a, b], _ =>
    obtain ⟨x1, rfl, h1⟩ := int_of (h a (by simp))
    obtain ⟨x2, rfl, h2⟩ := int_of (h b (by simp))
    refine ⟨⟨x1, x2⟩, rfl, ?_⟩
    unfold FitK
    simp [kN, h1, h2]
theorem val_of {cs : List CV} (_ : cs.length = 1) (h : ∃ c, cs = [c] ∧ IsInt c) : ∃ p : Int, Enc.enc p = cs ∧ FitV p := by
  obtain ⟨c, rfl, hc⟩ := h
  obtain ⟨x, rfl, hx⟩ := int_of hc
  exact ⟨x, rfl, hx⟩
def worldQ : Nat → CV → Prop
  | 0 => SliceOfN 5 fun cs => ∀ c ∈ cs, IsInt c
  | 1 => SliceOfN 2 fun cs => ∀ c ∈ cs, IsInt c
  | _ => SliceOfN 1 fun cs => ∃ c, cs = [c] ∧ IsInt c
theorem reads_world {w : World} {base : Nat} : ReadsN Tryz.prog w base 50 3 (fun cs => ∀ (i : Nat) c, cs[i]? = some c → worldQ i c) :=
  readsN_fields (Qs := worldQ) Tryz.underlying50 (by kernel_rfl) rfl fun j f hf => by
    match j, hf with
    | 0, hf => cases hf; exact ⟨rfl, by kernel_rfl, reads_sliceN Tryz.underlying46 (by kernel_rfl) (readsN_ints Tryz.underlying82 (by kernel_rfl) (by kernel_rfl) (by kernel_rfl))⟩
    | 1, hf => cases hf; exact ⟨rfl, by kernel_rfl, reads_sliceN Tryz.underlying47 (by kernel_rfl) (readsN_ints Tryz.underlying121 (by kernel_rfl) (by kernel_rfl) (by kernel_rfl))⟩
    | 2, hf => cases hf; exact ⟨rfl, by kernel_rfl, reads_sliceN Tryz.underlying48 (by kernel_rfl) (readsN_one (reads_int Tryz.underlying2))⟩
    | j + 3, hf => simp at hf
theorem world_of {cs : List CV} (hl : cs.length = 3) (h : ∀ (i : Nat) c, cs[i]? = some c → worldQ i c) : ∃ l : GWorld, EncX.encX l = cs ∧ FitW l := by
  match cs, hl with
  | [a, b, c], _ =>
    obtain ⟨x, rfl, hx, _⟩ := slN_of (α := GThread) (fun cs h1 h2 => thread_of h1 h2) (h 0 a rfl)
    obtain ⟨y, rfl, hy, _⟩ := slN_of (α := GLock) (fun cs h1 h2 => lock_of h1 h2) (h 1 b rfl)
    obtain ⟨z, rfl, hz, _⟩ := slN_of (α := Int) (fun cs h1 h2 => val_of h1 h2) (h 2 c rfl)
    exact ⟨⟨x, y, z⟩, rfl, hx, hy, hz⟩
theorem reads_text {w : World} {base : Nat} : Reads Tryz.prog w base 9 IsStr := reads_str Tryz.underlying9
theorem prims_ok : ∀ f p, X.pr f = some p → PrimOk X.P f p := by
  intro f p h
  by_cases hf : f = 22
  · subst hf
    have h' : some (memoP [([], dB true)]) = some p := h
    cases h'
    exact live14_known prims0_ok mixed
  · have hm : memoOf lives f = [] := by
      unfold lives memoOf
      rw [if_neg (Ne.symm hf)]; rfl
    have h' : addM prims0 lives f = some p := h
    unfold addM at h'
    rw [hm] at h'
    exact prims0_ok f p h'
end Go.Proofs.YtilipgopjiokfaaGreatDoor
