/-
  Abs12: append, copy.
-/
import Derived.Test.YtkfmoodaplelnaaAbs11
set_option linter.unusedVariables false
set_option linter.unusedSectionVars false
namespace Go.Abs
open Go
variable [Fl]

section
variable {P : Program} {n0 : Nat} {PR : Addr → Prop} {e : E} {reg : Own → Addr → Prop} {fr : Nat → DV} {tm : Array Value} {df : List Deferred}

theorem firstCells_run {size n : Nat} {a : Addr} {l c : Nat} {us : List Value} {w : World} (hl : us.length = n * size) (h : ∀ (j : Nat) v, us[j]? = some v → w.cell? (a.add j) = some v) :
    (Builtin.firstCells size n (.slice (some a) l c)).run P w = .ok ⟨us⟩ w := run_firstCells_some w size n a l c us hl h

theorem elems_rd (m : MI n0 PR e reg) {esz n : Nat} {y : DV} {ys : List DV} {v : Value} {s : Addr → Prop} (h : elemsD e.st esz y = some (n, ys)) (r : RD e s y v) :
    ∃ us, us.length = n * esz ∧ RDw e ys us ∧ ys.all cellOk = true ∧ (∀ w, (Builtin.lenOf v).run P w = .ok n w) ∧ (∀ w : World, (∀ a, w.cell? a = e.w.cell? a) → (Builtin.firstCells esz n v).run P w = .ok ⟨us⟩ w) ∧
      (∀ w : World, ∀ k, k ≤ n → (∀ a, w.cell? a = e.w.cell? a) → (Builtin.firstCells esz k v).run P w = .ok ⟨us.take (k * esz)⟩ w) := by
  unfold elemsD at h
  split at h
  · rename_i nl x cs len
    split at h
    · rename_i hl
      cases h
      cases r with
      | c r => cases r with
        | nil => exact ⟨[], by simp, .nil, rfl, fun w => rfl, fun w _ => rfl, fun w k hk _ => by simp [Builtin.firstCells]⟩
        | sl hr hc hle hx =>
          rename_i us a cap
          have hul : us.length = n * esz := by rw [← hr.length]; exact hl
          refine ⟨us, hul, hr.map_c.w, ?_, fun w => rfl, fun w hw => firstCells_run hul fun j v hv => by rw [hw]; exact (hc j v hv).1, fun w k hk hw => firstCells_run ?_ fun j v hv => ?_⟩
          · rw [List.all_eq_true]
            intro d hd
            obtain ⟨c, hcm, rfl⟩ := List.mem_map.1 hd
            obtain ⟨_, hj⟩ := List.getElem?_of_mem hcm
            exact hr.ok hj
          · simp only [List.length_take, hul]
            have := Nat.mul_le_mul_right esz hk
            omega
          · rw [hw]
            have hlt : j < k * esz := by have := (List.getElem?_eq_some_iff.1 hv).1; simp at this; omega
            rw [List.getElem?_take_of_lt hlt] at hv
            exact (hc j v hv).1
    · cases h
  · rename_i id ver off len ez x
    split at h
    · rename_i o ho
      split at h
      · rename_i he
        rw [Option.map_eq_some_iff] at h
        obtain ⟨ds, hds, hh⟩ := h
        cases hh
        subst he
        obtain ⟨h1, h2⟩ := getO_some ho
        obtain ⟨us, hul, hcell, hr, hk⟩ := m.cells h1 hds
        cases r with
        | ms hid hl hx hv =>
          rename_i a cap
          obtain ⟨q1, q2⟩ := (hv o h1).2 h2.symm
          have hcell' : ∀ (j : Nat) v, us[j]? = some v → e.w.cell? (a.add j) = some v := fun j v hj => by
            rcases q1 with q1 | q1
            · have : j < us.length := (List.getElem?_eq_some_iff.1 hj).1
              have : n = 0 := by omega
              subst this
              omega
            · rw [q1]; exact hcell j v hj
          refine ⟨us, hul, hr, hk, fun w => rfl, fun w hw => firstCells_run hul fun j v hj => by rw [hw]; exact hcell' j v hj, fun w k hkn hw => firstCells_run ?_ fun j v hj => ?_⟩
          · simp only [List.length_take, hul]
            have := Nat.mul_le_mul_right ez hkn
            omega
          · rw [hw]
            have hlt : j < k * ez := by have := (List.getElem?_eq_some_iff.1 hj).1; simp at this; omega
            rw [List.getElem?_take_of_lt hlt] at hj
            exact hcell' j v hj
      · cases h
    · cases h
  · cases h

theorem zeroFits_some {i : TypeInfo} (h : zeroFits i = true) : ∃ z, i.zero = some z ∧ z.cells.size = i.size := by
  unfold zeroFits at h
  split at h
  · rename_i z hz; exact ⟨z, hz, by simpa using h⟩
  · cases h

/-- append where there is no room. -/
theorem append_grow {t t2 el el2 ty : TypeId} {i : TypeInfo} (hu : P.underlying t = some (.slice el)) (hu2 : P.underlying t2 = some (.slice el2)) (hi : P.info? el = some i) (hz : zeroFits i = true) {ts : Array TypeId} (h0 : ts[0]? = some t) (h1 : ts[1]? = some t2)
    {base : Option Addr} {sLen sCap n : Nat} {x : Value} {olds news : List Value} (w : World) (hn : (Builtin.lenOf x).run P w = .ok n w) (ho : (Builtin.firstCells i.size sLen (.slice base sLen sCap)).run P w.drew = .ok ⟨olds⟩ w.drew)
    (hx : (Builtin.firstCells i.size n x).run P w.drew = .ok ⟨news⟩ w.drew) (hg : sCap < sLen + n) (hr : roomy (sLen + n) i.bytes = true) (hlo : olds.length = sLen * i.size) (hln : news.length = n * i.size) :
    ∃ cap rest, sLen + n ≤ cap ∧ (olds ++ news ++ rest).length = cap * i.size ∧
      (Builtin.append_ ts ty #[.slice base sLen sCap, x]).run P w = .ok (.slice (some ⟨w.heap.size, 0, none⟩) (sLen + n) cap) (w.drew.alloc (.cells ⟨olds ++ news ++ rest⟩ el)) := by
  obtain ⟨z, hzz, hzs⟩ := zeroFits_some hz
  simp only [roomy, Bool.and_eq_true, decide_eq_true_eq] at hr
  have hfit := growslice_fits hg hr.1
  have hc : ¬ (sLen + n ≤ sCap) := by omega
  have h63 : ¬ (((sLen + n : Nat) : Int) > 9223372036854775807 ∧ (False ∨ i.bytes = 0)) := by omega
  have h48 : ¬ (Builtin.nextslicecap (sLen + n) sCap * i.bytes > 2 ^ 48) := by omega
  refine ⟨grownCap w (sLen + n) sCap el, (Builtin.zeroCells z.cells (grownCap w (sLen + n) sCap el - (sLen + n))).toList, ?_, ?_, ?_⟩
  · simp [grownCap, Question.cut]
  · have hge : sLen + n ≤ grownCap w (sLen + n) sCap el := by simp [grownCap, Question.cut]
    simp only [List.length_append, hlo, hln, Builtin.zeroCells, Array.toList_map, Array.toList_range, List.length_map, List.length_range, hzs]
    rw [← Nat.add_mul, ← Nat.add_mul]
    congr 1
    omega
  · have h63' : ¬ (9223372036854775807 < ((sLen : Int) + (n : Int))) := by omega
    have h48' : ¬ (281474976710656 < Builtin.nextslicecap (sLen + n) sCap * i.bytes) := by omega
    simp [Builtin.append_, h0, h1, run_underlying hu, run_underlying hu2, sizeOf, typeInfo, zeroValue, hi, hzz, hn, hc, h63', h48', Question.forced, ho, hx, newRow, grownCap]
    congr 2
    apply Array.ext'
    simp
end
end Go.Abs
