/-
  The library's functions at this dump, as the interpreter takes them; what is known of the package-level variables.
-/
import Derived.Test.YtilipgopjiokfaaGreatDoorLays
import Derived.Test.YtilipgopjiokfaaGreatDoorAbs35
import Derived.Test.YtilipgopjiokfaaGreatDoorAn
import Derived.Lib.LaidTab
import Derived.Lib.AppendIntMem
import Derived.Lib.AtoiErrMem
import Derived.Lib.ParseIntBTie
set_option linter.unusedVariables false
set_option linter.unusedSimpArgs false
namespace Go.Proofs.YtilipgopjiokfaaGreatDoor
open Go Go.Abs Go.Proofs Go.RowKit

theorem gS : Tryz.prog.globalNamed "strconv.ErrSyntax" = some 0 := by kernel_rfl
theorem gR : Tryz.prog.globalNamed "strconv.ErrRange" = some 1 := by kernel_rfl
theorem gT : Tryz.prog.globalNamed "internal/strconv.uint64pow10" = some 5 := by kernel_rfl
theorem var_keep {P : Program} {w w' : World} {name : String} {g : Nat} {cs : Array Value} (hg : P.globalNamed name = some g) (h : w.var? P name = some cs) (hne : 0 < cs.size) (hk : ∀ off, w'.cell? ⟨g, off, none⟩ = w.cell? ⟨g, off, none⟩) : w'.var? P name = some cs := by
  unfold World.var? at h ⊢
  rw [hg] at h ⊢
  simp only [Option.bind_some] at h ⊢
  have hc : ∃ t fz, w.heap[g]? = some (.cells cs t fz) := by
    cases hh : w.heap[g]? with
    | none => rw [hh] at h; cases h
    | some o =>
      rw [hh] at h
      cases o with
      | cells c t fz => simp only [Option.some.injEq] at h; subst h; exact ⟨t, fz, rfl⟩
      | _ => cases h
  obtain ⟨t, fz, hc⟩ := hc
  have hcell : ∀ off, w.cell? ⟨g, off, none⟩ = cs[off]? := fun off => by unfold World.cell?; simp only [hc]; simp
  have h0 := hk 0
  rw [hcell, Array.getElem?_eq_getElem hne] at h0
  have hc' : ∃ c t fz, w'.heap[g]? = some (.cells c t fz) := by
    unfold World.cell? at h0
    simp only at h0
    cases hh : w'.heap[g]? with
    | none => rw [hh] at h0; cases h0
    | some o =>
      rw [hh] at h0
      cases o with
      | cells c t fz => exact ⟨c, t, fz, rfl⟩
      | _ => cases h0
  obtain ⟨c, t', fz', hc'⟩ := hc'
  rw [hc']
  simp only [Option.some.injEq]
  apply Array.ext_getElem?
  intro i
  have := hk i
  rw [hcell] at this
  rw [← this]
  unfold World.cell?; simp only [hc']; simp
/-- The table of powers of ten; the two errors; some number. -/
instance glZ : Gl := ⟨fun a => a.block = 0 ∨ a.block = 1 ∨ a.block = 5 ∨ a.block = 2,
  fun w => Lib.TabIs Tryz.prog w "internal/strconv.uint64pow10" .u64 Lib.pow10Tab ∧ (∃ t p, w.cell? ⟨0, 0, none⟩ = some (.iface t p)) ∧ (∃ t p, w.cell? ⟨1, 0, none⟩ = some (.iface t p)) ∧ ∃ m, w.cell? ⟨2, 0, none⟩ = some (.int .i64 m),
  fun w w' h => by
    rintro ⟨h1, ⟨t, p, h2⟩, ⟨u, q, h3⟩, ⟨m, h4⟩⟩
    refine ⟨var_keep gT h1 ?_ fun off => h _ (.inr (.inr (.inl rfl))), ⟨t, p, ?_⟩, ⟨u, q, ?_⟩, ⟨m, ?_⟩⟩
    · rw [List.size_toArray, List.length_map]; decide
    · rw [h _ (.inl rfl)]; exact h2
    · rw [h _ (.inr (.inl rfl))]; exact h3
    · rw [h _ (.inr (.inr (.inr rfl)))]; exact h4⟩
theorem below_of_bytes {w w' : World} (h : w' = w ∨ ∃ t, w' = Lib.bytesWorld w 5 t) : Below w.heap.size w w' := by
  rcases h with rfl | ⟨t, rfl⟩
  · exact Below.refl _ _
  · exact Lib.bytesWorld_below _ _ _
theorem splitS_len (s sep : ByteArray) (h : 1 ≤ sep.size) : (splitS s sep).length = Lib.countB s sep + 1 := by
  rw [← splitB_eq]; exact Lib.splitB_all sep h 0 _ s rfl
theorem prims0_ok : ∀ f p, prims0 f = some p → PrimOk Tryz.prog f p := by
  intro f p h
  unfold prims0 at h
  split at h
  · cases h; exact indexByte_ok fun s c w => Tryz.strings_IndexByte s c w
  · cases h
    exact itoa_ok fun n w h0 h1 hg => (Tryz.strconv_Itoa n h0 h1 w hg.1).mono fun e w' ⟨he, k, os, hw⟩ => ⟨he, by subst hw; exact Lib.below_grow _ _ (Nat.le_refl _) k os⟩
  · cases h
    refine atoi_ok fun s w hs hg => ?_
    obtain ⟨_, ⟨t, p, h2⟩, ⟨u, q, h3⟩, _⟩ := hg
    cases ha : Lib.atoiAll s.data.toList with
    | ok v =>
      have e : atoiR s = (v, false) := by unfold atoiR; rw [ha]
      rw [e]
      exact (Tryz.strconv_Atoi_ok s (by omega) v ha w).mono fun en w' ⟨he, hw⟩ => ⟨_, he, rfl, below_of_bytes hw⟩
    | range =>
      have e : atoiR s = (Lib.atoiSat s.data.toList, true) := by unfold atoiR; rw [ha]
      rw [e]
      exact (Tryz.strconv_Atoi_range s hs ha _ w h3 (.inr ⟨u, q, rfl⟩)).mono fun en w' ⟨N, he, _, _, hb⟩ => ⟨_, he, ⟨_, _, rfl⟩, hb⟩
    | _ =>
      have e : atoiR s = (0, true) := by unfold atoiR; rw [ha]
      rw [e]
      exact (Tryz.strconv_Atoi_syntax s hs ha _ w h2 (.inr ⟨t, p, rfl⟩)).mono fun en w' ⟨N, he, _, _, hb⟩ => ⟨_, he, ⟨_, _, rfl⟩, hb⟩
  · cases h; exact join_ok (fun a c sep w => Tryz.strings_Join_none a c sep w) fun bk o c xs sep w h1 h2 h3 h4 h5 => Tryz.strings_Join bk o c xs sep w h1 h2 h3 h4 h5
  · cases h; exact indexOne_ok fun s c w => Tryz.strings_Index_one s c w
  · cases h; exact indexOne_ok fun s c w => Tryz.stringslite_Index_one s c w
  · cases h
    exact fmtInt_ok fun n w h0 h1 hg => (Tryz.strconv_FormatInt_10 n h0 h1 w hg.1).mono fun e w' ⟨he, k, os, hw⟩ => ⟨he, by subst hw; exact Lib.below_grow _ _ (Nat.le_refl _) k os⟩
  · cases h
    refine parseInt_ok fun s w hs hg => ?_
    obtain ⟨_, ⟨t, p, h2⟩, ⟨u, q, h3⟩, _⟩ := hg
    cases ha : Lib.atoiAll s.data.toList with
    | ok v =>
      have e : atoiR s = (v, false) := by unfold atoiR; rw [ha]
      rw [e]
      exact (Tryz.strconv_ParseInt_10_at64_ok s (by omega) v ((Lib.parseIntB_64 _).trans ha) w).mono fun en w' ⟨he, hw⟩ => ⟨_, he, rfl, below_of_bytes hw⟩
    | range =>
      have e : atoiR s = (Lib.atoiSat s.data.toList, true) := by unfold atoiR; rw [ha]
      rw [e, ← Lib.intSat_64]
      exact (Tryz.strconv_ParseInt_10_at64_range s hs ((Lib.parseIntB_64 _).trans ha) _ w h3 (.inr ⟨u, q, rfl⟩)).mono fun en w' ⟨N, he, _, _, hb⟩ => ⟨_, he, ⟨_, _, rfl⟩, hb⟩
    | _ =>
      have e : atoiR s = (0, true) := by unfold atoiR; rw [ha]
      rw [e]
      exact (Tryz.strconv_ParseInt_10_at64_syntax s hs ((Lib.parseIntB_64 _).trans ha) _ w h2 (.inr ⟨t, p, rfl⟩)).mono fun en w' ⟨N, he, _, _, hb⟩ => ⟨_, he, ⟨_, _, rfl⟩, hb⟩
  · cases h
    refine split_ok (T := 9) fun s sep w hs h1 hg => ?_
    obtain ⟨_, _, _, ⟨m, hm⟩⟩ := hg
    refine (Tryz.strings_Split s sep m w hs hm h1).mono fun en w' ⟨he, hw⟩ => ?_
    rw [splitS_len s sep h1]
    rw [splitB_eq] at hw
    exact ⟨he, hw⟩
  · cases h
theorem mixed : Tryz.prog.follows .mixedOrders = true := by kernel_rfl
end Go.Proofs.YtilipgopjiokfaaGreatDoor
