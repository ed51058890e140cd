/-
  Abs32: the library's sort, as one step on an object: its contract.
-/
import Derived.Test.YtclnpjnodmfkcaaAbs30
import Derived.Sort.Grow
set_option linter.unusedVariables false
namespace Go.Abs
open Go

section
variable {P : Program} {n0 : Nat} {PR : Addr → Prop} {e : E} {reg : Own → Addr → Prop} {Γ : List (Nat × Ctx)} {m : M}

/-- New blocks, draws: what stood stands. -/
theorem MI.grow (m : MI n0 PR e reg) (os : Array Obj) (n : Nat) : MI n0 PR { e with w := Sort.grow (Sort.ahead e.w n) os } reg ∧ Ext e { e with w := Sort.grow (Sort.ahead e.w n) os } ∧ ∀ X, Keep n0 PR X e.w (Sort.grow (Sort.ahead e.w n) os) := by
  have hc : ∀ a, a.block < e.w.heap.size → (Sort.grow (Sort.ahead e.w n) os).cell? a = e.w.cell? a := fun a h => Sort.cell?_grow (Sort.ahead e.w n) os a h
  have hf : ∀ a, a.block < e.w.heap.size → (Sort.grow (Sort.ahead e.w n) os).frozen? a = e.w.frozen? a := fun a h => Sort.frozen?_grow (Sort.ahead e.w n) os a h
  have hsz : (Sort.grow (Sort.ahead e.w n) os).heap.size = e.w.heap.size + os.size := Sort.size_grow _ _
  have hx : Ext e { e with w := Sort.grow (Sort.ahead e.w n) os } := ⟨fun _ h => h, fun a ha => hc a (m.imlt a ha), Nat.le_refl _, fun j a b ha hb => by simp only at hb; rw [ha] at hb; cases hb; exact ⟨Nat.le_refl _, fun _ => rfl⟩, fun _ _ h => h⟩
  refine ⟨⟨fun a ha => ?_, m.impr, fun a ha => ?_, ?_, fun p a hp => ?_, m.disj, m.ext, m.own, fun j x hj i d hd => ?_⟩, hx, fun X => ⟨rfl, rfl, rfl, by rw [hsz]; omega, fun r hr => Sort.heap_grow_old (Sort.ahead e.w n) os (Nat.lt_of_lt_of_le hr m.n0le), fun a ha => ⟨hc a (m.prlt a ha), hf a (m.prlt a ha)⟩,
    fun r o ho _ _ => by rw [Sort.heap_grow_old (Sort.ahead e.w n) os (Array.getElem?_eq_some_iff.1 ho).1]; exact ho⟩⟩
  · show a.block < (Sort.grow (Sort.ahead e.w n) os).heap.size
    rw [hsz]; have := m.imlt a ha; omega
  · show a.block < (Sort.grow (Sort.ahead e.w n) os).heap.size
    rw [hsz]; have := m.prlt a ha; omega
  · show n0 ≤ (Sort.grow (Sort.ahead e.w n) os).heap.size
    rw [hsz]; have := m.n0le; omega
  · obtain ⟨h1, ⟨v, h2⟩, h3, h4, h5⟩ := m.ok p a hp
    have hlt := World.block_lt_of_cell? _ _ h2
    exact ⟨h1, ⟨v, (hc a hlt).trans h2⟩, (hf a hlt).trans h3, h4, h5⟩
  · obtain ⟨h1, v, h2, h3⟩ := m.cell j x hj i d hd
    exact ⟨h1, v, (hc _ (World.block_lt_of_cell? _ _ h2)).trans h2, h3.mono hx fun _ h => h⟩

theorem cell_spot {w : World} {a : Addr} {s : Nat} (h : a.spot = some s) : w.cell? a = none := by
  unfold World.cell?
  cases w.heap[a.block]? with
  | none => rfl
  | some o => cases o <;> simp [h]
theorem wr_putRow {α : Type} [Inhabited α] (enc : α → Value) (w : World) (blk off : Nat) (d0 d : Array α) (h0 : Sort.Holds enc w blk off d0) (hs : d.size = d0.size) (hpos : 0 < d.size) : Wr w (Sort.putRow enc w blk off d) (fun a => ∃ j, j < d.size ∧ a = ⟨blk, off + j, none⟩) := by
  have hheap : (Sort.putRow enc w blk off d).heap = w.heap.modify blk (Sort.onCells (Sort.putCells enc off d)) := rfl
  refine ⟨rfl, rfl, rfl, by rw [hheap]; simp, fun a ha => ?_, fun a => Sort.frozen?_mapBlock w blk _ a, fun r hr => ?_, fun r o ho hc => ?_⟩
  · by_cases hb : a.block ≠ blk ∨ a.off < off ∨ off + d.size ≤ a.off
    · exact Sort.cell?_putRow_other enc w blk off d a hb
    · cases hsp : a.spot with
      | none =>
        refine absurd ⟨a.off - off, by omega, ?_⟩ ha
        cases a with
        | mk b o s =>
          simp only at hb hsp ⊢
          subst hsp
          congr 1 <;> omega
      | some s => rw [cell_spot hsp, cell_spot hsp]
  · rw [hheap, Array.getElem?_modify]
    rw [if_neg]
    exact hr ⟨blk, off + 0, none⟩ ⟨0, hpos, rfl⟩
  · rw [hheap, Array.getElem?_modify]
    split
    · rw [ho]
      cases o <;> first | (simp [isC] at hc; done) | rfl
    · exact ho

theorem intsOf_get : ∀ {ds : List DV} {l : List Int}, intsOf ds = some l → l.length = ds.length ∧ ∀ (i : Nat) n, l[i]? = some n → ds[i]? = some (dInt n)
  | [], l, h => by simp only [intsOf] at h; cases h; exact ⟨rfl, by simp⟩
  | d :: ds, l, h => by
    simp only [intsOf] at h
    split at h
    · rename_i n l' hn hl
      cases h
      obtain ⟨h1, h2⟩ := intsOf_get hl
      have hd : d = dInt n := by
        unfold intOf at hn
        split at hn
        · cases hn; rfl
        · cases hn
      refine ⟨by simp [h1], fun i k hk => ?_⟩
      cases i with
      | zero => simp at hk; subst hk; simp [hd]
      | succ i => simpa using h2 i k (by simpa using hk)
    · cases h

/-- A part of an object is turned where it lies: what the world was, what it is. -/
theorem turn_cells {α : Type} [Inhabited α] (enc : α → Value) (mi : MI n0 PR e reg) {id off : Nat} {o : Ob} {d0 d1 : Array α} (ho : e.st[id]? = some o) (hH : Sort.Holds enc e.w (e.io id).b ((e.io id).off + off) d0) (hle : off + d0.size ≤ o.cs.length) (hpos : 0 < d0.size)
    (hsz : d1.size = d0.size) (ds : List DV) (hds : ds.length = d1.size) (hrd : ∀ (j : Nat) (d : DV), ds[j]? = some d → cellOk d = true ∧ RD e (fun _ => False) d (enc d1[j]!)) (n : Nat) (os : Array Obj) :
    let e' : E := { e with w := Sort.grow (Sort.putRow enc (Sort.ahead e.w n) (e.io id).b ((e.io id).off + off) d1) os, st := e.st.set id ⟨o.ver, setL o.cs off ds⟩ }
    MI n0 PR e' reg ∧ Ext e e' ∧ Keep n0 PR (fun _ => False) e.w e'.w := by
  intro e'
  have hpos' : 0 < d1.size := by omega
  have hw := wr_putRow enc e.w (e.io id).b ((e.io id).off + off) d0 d1 hH hsz hpos'
  have hext := mi.ext id o ho
  have hS : ∀ a, (∃ j, j < d1.size ∧ a = (⟨(e.io id).b, (e.io id).off + off + j, none⟩ : Addr)) → reg (.ob id) a := fun a ⟨j, hj, ha⟩ => by
    subst ha
    have := mi.own id o ho (off + j) (by omega)
    simpa [Fp.at, Nat.add_assoc] using this
  have hnew : ∀ j, j < d1.size → (Sort.putRow enc e.w (e.io id).b ((e.io id).off + off) d1).cell? ⟨(e.io id).b, (e.io id).off + off + j, none⟩ = some (enc d1[j]!) := fun j hj => Sort.cell?_putRow enc e.w _ _ d0 d1 hH hsz j hj
  obtain ⟨mi1, x1⟩ := mi.obj (o' := ⟨o.ver, setL o.cs off ds⟩) ho (f' := e.io id) hw hS (fun a ⟨j, hj, ha⟩ => by subst ha; exact ⟨_, hnew j hj⟩)
    (q := reg) (fun p a h => ⟨p, h⟩) (fun p q a h1 h2 => mi.disj p q a h1 h2) (fun j _ a h => h) (fun j _ i a h => h) (fun i hi => mi.own id o ho i hi) (by rw [setL_len]; exact hext) ⟨Nat.le_refl _, fun _ => rfl⟩
    (fun i d hd => by
      by_cases hin : off ≤ i ∧ i < off + ds.length
      · obtain ⟨j, rfl⟩ : ∃ j, i = off + j := ⟨i - off, by omega⟩
        have hj : j < ds.length := by omega
        rw [setL_in _ _ _ _ (by omega) hj] at hd
        obtain ⟨h1, h2⟩ := hrd j d hd
        refine ⟨h1, _, ?_, h2.weak fun _ h => h.elim⟩
        have := hnew j (by omega)
        simpa [Fp.at, Nat.add_assoc] using this
      · rw [setL_out _ _ _ _ (by omega)] at hd
        obtain ⟨h1, v, h2, h3⟩ := mi.cell id o ho i d hd
        refine ⟨h1, v, ?_, h3⟩
        have hno : ¬ ∃ j, j < d1.size ∧ (e.io id).at i = (⟨(e.io id).b, (e.io id).off + off + j, none⟩ : Addr) := by
          rintro ⟨j, hj, ha⟩
          simp only [Fp.at, Addr.mk.injEq] at ha
          omega
        rw [hw.cell _ hno]
        exact h2)
  have hio : updIo e.io id (e.io id) = e.io := by
    funext j; unfold updIo; split
    · rename_i h; rw [h]
    · rfl
  rw [hio] at mi1 x1
  obtain ⟨mi2, x2, k2⟩ := mi1.grow os n
  have hn0 : ∀ a, (∃ j, j < d1.size ∧ a = (⟨(e.io id).b, (e.io id).off + off + j, none⟩ : Addr)) → n0 ≤ a.block ∧ ¬ PR a := fun a ha => by
    have := mi.ok _ a (hS a ha)
    exact ⟨this.1, this.2.2.2.2⟩
  exact ⟨mi2, x1.trans x2, (hw.keep hn0 _).trans (k2 _)⟩

/-- An object's numbers, as the memory has them. -/
theorem ints_hold (mi : MI n0 PR e reg) {id off : Nat} {o : Ob} {ds : List DV} {l : List Int} (ho : e.st[id]? = some o) (hs : span o.cs off l.length = some ds) (hl : intsOf ds = some l) (hpos : 0 < l.length) :
    Sort.Holds (Value.int .i64) e.w (e.io id).b ((e.io id).off + off) l.toArray ∧ (e.io id).b < e.w.heap.size := by
  obtain ⟨hlen, hget⟩ := intsOf_get hl
  have hcell : ∀ j n, l[j]? = some n → o.cs[off + j]? = some (dInt n) := fun j n hj => (span_get hs (hget j n hj)).1
  have hH : Sort.Holds (Value.int .i64) e.w (e.io id).b ((e.io id).off + off) l.toArray := fun j hj => by
    have hj' : j < l.length := by simpa using hj
    have hc := hcell j l[j] (List.getElem?_eq_getElem hj')
    obtain ⟨_, v, h2, h3⟩ := mi.cell id o ho (off + j) _ hc
    have hv : v = .int .i64 l[j] := by
      cases h3 with
      | c h => cases h with | sc h => rfl
    have hlt : off + j < (e.io id).ext := Nat.lt_of_lt_of_le (List.getElem?_eq_some_iff.1 hc).1 (mi.ext id o ho)
    have hown := mi.own id o ho (off + j) hlt
    have hfr := (mi.ok _ _ hown).2.2.1
    subst hv
    simp only [Fp.at, ← Nat.add_assoc] at h2 hfr
    refine ⟨?_, hfr⟩
    rw [h2]
    simp [hj']
  exact ⟨hH, World.block_lt_of_cell? _ _ (hH 0 (by simpa using hpos)).1⟩

theorem turn_ints (mi : MI n0 PR e reg) {id off : Nat} {o : Ob} {ds : List DV} {l : List Int} (ho : e.st[id]? = some o) (hs : span o.cs off l.length = some ds) (hl : intsOf ds = some l) (hpos : 0 < l.length) (l' : List Int) (hl' : l'.length = l.length) (n : Nat) (os : Array Obj) :
    let e' : E := { e with w := Sort.grow (Sort.putRow (Value.int .i64) (Sort.ahead e.w n) (e.io id).b ((e.io id).off + off) l'.toArray) os, st := e.st.set id ⟨o.ver, setL o.cs off (l'.map dInt)⟩ }
    MI n0 PR e' reg ∧ Ext e e' ∧ Keep n0 PR (fun _ => False) e.w e'.w := by
  obtain ⟨hH, _⟩ := ints_hold mi ho hs hl hpos
  refine turn_cells (Value.int .i64) mi ho hH (by simpa using (span_some hs).2) (by simpa using hpos) (by simp [hl']) (l'.map dInt) (by simp) (fun j d hd => ?_) n os
  have hj : j < l'.length := by have := (List.getElem?_eq_some_iff.1 hd).1; simpa using this
  simp only [List.getElem?_map, List.getElem?_eq_getElem hj, Option.map_some, Option.some.injEq] at hd
  subst hd
  refine ⟨rfl, ?_⟩
  simp [hj]
  exact .c (.sc rfl)

/-- What comes back of it. -/
theorem back_of (st : St n0 PR Γ e reg m) {e' : E} {reg' : Own → Addr → Prop} (hns : NoSlot reg') {m' : M} {dx : DV} {v : Value} (hst : e'.st = m'.st) (hla : e'.la = e.la) (hpd : m'.pd = m.pd) (mi : MI n0 PR e' reg') (xx : Ext e e') (kk : Keep n0 PR (fun _ => False) e.w e'.w) (hd : RD e' (fun _ => False) dx v) :
    Back n0 PR Γ e dx m' (.returned v) e'.w := by
  refine ⟨e', reg', rfl, ⟨hst, by rw [hla, hpd]; exact st.la, fun r hr => ?_, mi, by rw [hpd]; exact st.gi.keep xx kk⟩, hns, To.of_keep xx kk, hd.weak fun _ h => h.elim⟩
  rw [hla] at hr
  have := st.lt r hr
  exact ⟨this.1, Nat.lt_of_lt_of_le this.2 kk.size⟩

/-- What sortP is asked: nil, or a part of an object. -/
theorem sortP_ways {st : List Ob} {args : List DV} {r : Out} (h : sortP st args = some r) : (∃ x cs n, args = [.c (.sl true x cs n)] ∧ r = { d := .tup [] }) ∨
    ∃ id ver off len x o ds l, args = [.ms id ver off len 1 x] ∧ 0 < len ∧ len < 4611686018427387904 ∧ st[id]? = some o ∧ o.ver = ver ∧ span o.cs off len = some ds ∧ intsOf ds = some l ∧ r = { d := .tup [], set := some (id, ⟨ver, setL o.cs off ((isort l).map dInt)⟩) } := by
  unfold sortP at h
  split at h
  · cases h; exact .inl ⟨_, _, _, rfl, rfl⟩
  · rename_i id ver off len x
    split at h
    · cases h
    · rename_i hlen
      split at h
      · rename_i o ho
        rw [Option.map_eq_some_iff] at h
        obtain ⟨l, h1, h2⟩ := h
        rw [Option.bind_eq_some_iff] at h1
        obtain ⟨ds, h3, h4⟩ := h1
        obtain ⟨h5, h6⟩ := getO_some ho
        exact .inr ⟨id, ver, off, len + 1, x, o, ds, l, rfl, by omega, by omega, h5, h6, h3, h4, h2.symm⟩
      · cases h
  · cases h

theorem sort_ok {P : Program} {f : FuncId} (hnil : ∀ w, Calls P f #[.slice none 0 0] w fun e w' => e = .returned (.tuple #[]) ∧ w' = w)
    (hcon : ∀ (blk off cap : Nat) (zs : List Int) (w : World), Sort.Holds (Value.int .i64) w blk off zs.toArray → blk < w.heap.size → zs.length < 4611686018427387904 →
      Calls P f #[.slice (some ⟨blk, off, none⟩) zs.length cap] w fun e w' => e = .returned (.tuple #[]) ∧ ∃ n os, w' = Sort.grow (Sort.putRow (Value.int .i64) (Sort.ahead w n) blk off (isort zs).toArray) os) : PrimOk P f sortP := by
  refine ⟨fun st args r h => ?_, fun st args r h id o ho => ?_, fun st st' args hs => ?_, fun m args r h Γ n0 PR e reg vs n st hres hns hr => ?_⟩
  · rcases sortP_ways h with ⟨_, _, _, _, rfl⟩ | ⟨_, _, _, _, _, _, _, _, _, _, _, _, _, _, _, rfl⟩ <;> rfl
  · rcases sortP_ways h with ⟨_, _, _, _, rfl⟩ | ⟨id', ver, off, len, x, o', ds, l, rfl, _, _, _, _, _, _, rfl⟩
    · cases ho
    · simp only [Option.some.injEq, Prod.mk.injEq] at ho
      obtain ⟨rfl, _⟩ := ho
      simp [refsOf]
  · unfold sortP
    split
    · rfl
    · rename_i id ver off len x
      have := hs id (by simp [refsOf])
      simp only [getO, this]
    · rfl
  · rcases sortP_ways h with ⟨x, cs, k, rfl, rfl⟩ | ⟨id, ver, off, len, x, o, ds, l, rfl, hpos, hlt, ho, hv, hsp, hin, rfl⟩
    · cases hr with
      | cons hd hrs =>
        cases hrs
        cases hd with
        | c hc =>
          obtain ⟨rfl, _, _⟩ := sl_nil hc
          refine callsIn_wide.2 ((hnil e.w).mono fun en w' ⟨he, hw⟩ => ?_)
          subst he; subst hw
          exact ⟨e, reg, rfl, st, hns, To.refl _ _ _ _, .tup .nil⟩
    · cases hr with
      | cons hd hrs =>
        cases hrs
        have ho' : e.st[id]? = some o := by rw [st.st]; exact ho
        cases hd with
        | ms hid hl hx hv' =>
          rename_i a cap
          obtain ⟨_, h2⟩ := hv' o ho'
          obtain ⟨h3, h4⟩ := h2 hv.symm
          have ha : a = (e.io id).at off := h3.resolve_left (by omega)
          subst ha
          obtain ⟨hlen, _⟩ := intsOf_get hin
          have hdl := span_len hsp
          have hll : l.length = len := by omega
          subst hll
          obtain ⟨hH, hb⟩ := ints_hold st.mi ho' hsp hin hpos
          refine callsIn_wide.2 ((hcon _ _ cap l e.w hH hb hlt).mono fun en w' ⟨he, k, os, hw⟩ => ?_)
          subst he; subst hw
          obtain ⟨h5, h6, h7⟩ := turn_ints st.mi ho' hsp hin hpos (isort l) (isort_length l) k os
          subst hv
          have hb := back_of (m' := { m with st := m.st.set id ⟨o.ver, setL o.cs off ((isort l).map dInt)⟩ }) st hns ?_ ?_ ?_ h5 h6 h7 (RD.tup (s := fun _ => False) .nil)
          · exact hb
          · simp only [st.st]
          · rfl
          · rfl

theorem dedup_len : ∀ l : List Int, (dedup l).length ≤ l.length
  | [] => Nat.le_refl _
  | [x] => Nat.le_refl _
  | x :: y :: l => by
    have := dedup_len (y :: l)
    simp only [dedup]
    split
    · simp only [List.length_cons] at this ⊢; omega
    · simp only [List.length_cons] at this ⊢; omega

theorem compactP_ways {st : List Ob} {args : List DV} {r : Out} (h : compactP st args = some r) : (∃ x cs n, args = [.c (.sl true x cs n)] ∧ r = { d := .c (.sl true true [] 0) }) ∨
    ∃ id ver off len x o ds l, args = [.ms id ver off len 1 x] ∧ 0 < len ∧ len < 4611686018427387904 ∧ st[id]? = some o ∧ o.ver = ver ∧ span o.cs off len = some ds ∧ intsOf ds = some l ∧ r = { d := .c (.sl false false ((dedup l).map cInt) (dedup l).length), set := some (id, ⟨ver + 1, []⟩) } := by
  unfold compactP at h
  split at h
  · cases h; exact .inl ⟨_, _, _, rfl, rfl⟩
  · rename_i id ver off len x
    split at h
    · cases h
    · rename_i hlen
      split at h
      · rename_i o ho
        rw [Option.map_eq_some_iff] at h
        obtain ⟨l, h1, h2⟩ := h
        rw [Option.bind_eq_some_iff] at h1
        obtain ⟨ds, h3, h4⟩ := h1
        obtain ⟨h5, h6⟩ := getO_some ho
        exact .inr ⟨id, ver, off, len + 1, x, o, ds, l, rfl, by omega, by omega, h5, h6, h3, h4, h2.symm⟩
      · cases h
  · cases h

theorem rcs_ints {im : Addr → Prop} {w : World} : ∀ l : List Int, RCs im w (l.map cInt) (l.map (Value.int .i64))
  | [] => .nil
  | n :: l => .cons rfl (.sc rfl) (rcs_ints l)

theorem compact_ok {P : Program} {f : FuncId} (hnil : ∀ w, Calls P f #[.slice none 0 0] w fun e w' => e = .returned (.slice none 0 0) ∧ w' = w)
    (hcon : ∀ (blk off cap : Nat) (zs : List Int) (w : World), Sort.Holds (Value.int .i64) w blk off zs.toArray → zs.length ≤ 9223372036854775807 → zs.length ≤ cap →
      Calls P f #[.slice (some ⟨blk, off, none⟩) zs.length cap] w fun e w' => e = .returned (.slice (some ⟨blk, off, none⟩) (dedup zs).length cap) ∧ ∃ q, w' = Sort.putRow (Value.int .i64) (Sort.ahead w q) blk off (dedup zs ++ List.replicate (zs.length - (dedup zs).length) 0).toArray) : PrimOk P f compactP := by
  refine ⟨fun st args r h => ?_, fun st args r h id o ho => ?_, fun st st' args hs => ?_, fun m args r h Γ n0 PR e reg vs n st hres hns hr => ?_⟩
  · rcases compactP_ways h with ⟨_, _, _, _, rfl⟩ | ⟨_, _, _, _, _, _, _, _, _, _, _, _, _, _, _, rfl⟩ <;> rfl
  · rcases compactP_ways h with ⟨_, _, _, _, rfl⟩ | ⟨id', ver, off, len, x, o', ds, l, rfl, _, _, _, _, _, _, rfl⟩
    · cases ho
    · simp only [Option.some.injEq, Prod.mk.injEq] at ho
      obtain ⟨rfl, _⟩ := ho
      simp [refsOf]
  · unfold compactP
    split
    · rfl
    · rename_i id ver off len x
      have := hs id (by simp [refsOf])
      simp only [getO, this]
    · rfl
  · rcases compactP_ways h with ⟨x, cs, k, rfl, rfl⟩ | ⟨id, ver, off, len, x, o, ds, l, rfl, hpos, hlt, ho, hv, hsp, hin, rfl⟩
    · cases hr with
      | cons hd hrs =>
        cases hrs
        cases hd with
        | c hc =>
          obtain ⟨rfl, _, _⟩ := sl_nil hc
          refine callsIn_wide.2 ((hnil e.w).mono fun en w' ⟨he, hw⟩ => ?_)
          subst he; subst hw
          exact ⟨e, reg, rfl, st, hns, To.refl _ _ _ _, .c .nil⟩
    · cases hr with
      | cons hd hrs =>
        cases hrs
        have ho' : e.st[id]? = some o := by rw [st.st]; exact ho
        cases hd with
        | ms hid hl hx hv' =>
          rename_i a cap
          obtain ⟨_, h2⟩ := hv' o ho'
          obtain ⟨h3, h4⟩ := h2 hv.symm
          have ha : a = (e.io id).at off := h3.resolve_left (by omega)
          subst ha
          obtain ⟨hlen, _⟩ := intsOf_get hin
          have hdl := span_len hsp
          have hll : l.length = len := by omega
          subst hll
          obtain ⟨hH, hb⟩ := ints_hold st.mi ho' hsp hin hpos
          refine callsIn_wide.2 ((hcon _ _ cap l e.w hH (by omega) hl).mono fun en w' ⟨he, k, hw⟩ => ?_)
          subst he
          have hdd := dedup_len l
          obtain ⟨h5, h6, h7⟩ := turn_ints st.mi ho' hsp hin hpos (dedup l ++ List.replicate (l.length - (dedup l).length) 0) (by simp; omega) k #[]
          rw [Sort.grow_empty] at h5 h6 h7
          subst hv
          generalize hcs : setL o.cs off ((dedup l ++ List.replicate (l.length - (dedup l).length) 0).map dInt) = cs1 at h5 h6 h7
          have ho1 : (e.st.set id ⟨o.ver, cs1⟩)[id]? = some ⟨o.ver, cs1⟩ := get_set_self ho'
          obtain ⟨h8, h9⟩ := h5.freeze ho1
          have hH2 : ∀ (j : Nat) z, (dedup l)[j]? = some z → w'.cell? ⟨(e.io id).b, (e.io id).off + off + j, none⟩ = some (.int .i64 z) := fun j z hj => by
            have hj' : j < (dedup l).length := (List.getElem?_eq_some_iff.1 hj).1
            rw [hw, Sort.putRow_ahead, Sort.cell?_ahead, Sort.cell?_putRow (Value.int .i64) e.w _ _ l.toArray _ hH (by simp; omega) j (by simp; omega)]
            have hz := (List.getElem?_eq_some_iff.1 hj).2
            have : (dedup l ++ List.replicate (l.length - (dedup l).length) 0).toArray[j]! = z := by
              rw [getElem!_pos _ j (by simp; omega)]
              simp [List.getElem_append_left hj', hz]
            rw [this]
          rw [← hw] at h5 h6 h7 h8 h9
          have hback := back_of (m' := { m with st := m.st.set id ⟨o.ver + 1, []⟩ }) (reg' := _) (v := .slice (some ((e.io id).at off)) (dedup l).length cap) (dx := .c (.sl false false ((dedup l).map cInt) (dedup l).length)) st ?_ ?_ ?_ ?_ h8 (h6.trans h9) h7 ?_
          · exact hback
          · intro t a hh; exact hns t a hh
          · simp only [st.st, List.set_set]
          · rfl
          · rfl
          · refine .c (.sl (rcs_ints _) (fun i v hi => ?_) (by omega) (by simp))
            simp only [List.getElem?_map, Option.map_eq_some_iff] at hi
            obtain ⟨z, hz, rfl⟩ := hi
            have hi' : i < (dedup l).length := (List.getElem?_eq_some_iff.1 hz).1
            refine ⟨?_, .inr ?_⟩
            · rw [at_add]
              have := hH2 i z hz
              simpa [Fp.at, Nat.add_assoc] using this
            · rw [at_add]
              exact st.mi.own id o ho' (off + i) (by have := st.mi.ext id o ho'; have := (span_some hsp).2; omega)

/-! ### slices.SortFunc of lists by their first numbers -/
theorem insH_perm (x : Int × DV) : ∀ l, (insH x l).Perm (x :: l)
  | [] => .refl _
  | y :: l => by
    simp only [insH]
    split
    · exact .refl _
    · exact ((insH_perm x l).cons y).trans (.swap x y l)
theorem foldH_perm : ∀ l : List (Int × DV), (l.foldr insH []).Perm l
  | [] => .refl _
  | x :: l => (insH_perm x _).trans ((foldH_perm l).cons x)
theorem insH_sorted (x : Int × DV) : ∀ {l : List (Int × DV)}, l.Pairwise (fun a b => a.1 ≤ b.1) → (insH x l).Pairwise (fun a b => a.1 ≤ b.1)
  | [], _ => by simp [insH]
  | y :: l, h => by
    rw [List.pairwise_cons] at h
    simp only [insH]
    split
    · rename_i hxy
      rw [List.pairwise_cons]
      refine ⟨fun z hz => ?_, List.pairwise_cons.2 h⟩
      rcases List.mem_cons.1 hz with rfl | hz
      · exact hxy
      · have := h.1 z hz; omega
    · rename_i hxy
      rw [List.pairwise_cons]
      refine ⟨fun z hz => ?_, insH_sorted x h.2⟩
      rcases List.mem_cons.1 ((insH_perm x l).mem_iff.1 hz) with rfl | hz
      · omega
      · exact h.1 z hz
theorem foldH_sorted : ∀ l : List (Int × DV), (l.foldr insH []).Pairwise (fun a b => a.1 ≤ b.1)
  | [] => .nil
  | x :: l => insH_sorted x (foldH_sorted l)
/-- Two that are sorted and hold the same, no two heads alike, are one. -/
theorem heads_unique : ∀ {l l' : List (Int × DV)}, l.Perm l' → l.Pairwise (fun a b => a.1 ≤ b.1) → l'.Pairwise (fun a b => a.1 ≤ b.1) → (l.map (·.1)).Nodup → l = l'
  | [], l', hp, _, _, _ => by rw [List.nil_perm.1 hp]
  | a :: l, [], hp, _, _, _ => absurd hp.length_eq (by simp)
  | a :: l, b :: l', hp, h1, h2, hn => by
    have hab : a = b := by
      rw [List.pairwise_cons] at h1 h2
      rcases List.mem_cons.1 (hp.mem_iff.1 (List.mem_cons_self (a := a) (l := l))) with e | e
      · exact e
      · rcases List.mem_cons.1 (hp.mem_iff.2 (List.mem_cons_self (a := b) (l := l'))) with e' | e'
        · exact e'.symm
        · have h3 := h1.1 b e'
          have h4 := h2.1 a e
          have h5 : a.1 = b.1 := by omega
          simp only [List.map_cons, List.nodup_cons] at hn
          exact absurd (List.mem_map.2 ⟨b, e', h5.symm⟩) hn.1
    subst hab
    rw [heads_unique (List.perm_cons a |>.1 hp) (List.pairwise_cons.1 h1).2 (List.pairwise_cons.1 h2).2 (List.nodup_cons.1 (by simpa using hn)).2]
theorem heads_get : ∀ {ds : List DV} {l : List (Int × DV)}, heads ds = some l → l.length = ds.length ∧ (∀ (i : Nat) p, l[i]? = some p → ds[i]? = some p.2 ∧ headOf p.2 = some p.1) ∧ l.map (·.2) = ds
  | [], l, h => by simp only [heads] at h; cases h; exact ⟨rfl, by simp, rfl⟩
  | d :: ds, l, h => by
    simp only [heads] at h
    split at h
    · rename_i n l' hn hl
      cases h
      obtain ⟨h1, h2, h3⟩ := heads_get hl
      refine ⟨by simp [h1], fun i k hk => ?_, by simp [h3]⟩
      cases i with
      | zero => simp at hk; subst hk; exact ⟨rfl, hn⟩
      | succ i => simpa using h2 i k (by simpa using hk)
    · cases h
theorem sortFuncP_ways {cmp : FuncId} {st : List Ob} {args : List DV} {r : Out} (h : sortFuncP cmp st args = some r) : (∃ x cs n g, args = [.c (.sl true x cs n), g] ∧ r = { d := .tup [] }) ∨
    ∃ (id ver off len : Nat) (x : Bool) (o : Ob) (ds : List DV) (l : List (Int × DV)), args = [.ms id ver off (len + 1) 1 x, .fn cmp [] []] ∧ len + 1 < 4611686018427387904 ∧ st[id]? = some o ∧ o.ver = ver ∧ span o.cs off (len + 1) = some ds ∧ heads ds = some l ∧ (l.map (·.1)).Nodup ∧ r = { d := .tup [], set := some (id, ⟨ver, setL o.cs off ((l.foldr insH []).map (·.2))⟩) } := by
  unfold sortFuncP at h
  split at h
  · cases h; exact .inl ⟨_, _, _, _, rfl, rfl⟩
  · rename_i id ver off len x f
    split at h
    · rename_i hc
      obtain ⟨rfl, hlen⟩ := hc
      split at h
      · rename_i o ho
        rw [Option.bind_eq_some_iff] at h
        obtain ⟨l, h1, h2⟩ := h
        rw [Option.bind_eq_some_iff] at h1
        obtain ⟨ds, h3, h4⟩ := h1
        obtain ⟨h5, h6⟩ := getO_some ho
        split at h2
        · rename_i hn
          cases h2
          exact .inr ⟨id, ver, off, len, x, o, ds, l, rfl, by omega, h5, h6, h3, h4, hn, rfl⟩
        · cases h2
      · cases h
    · cases h
  · cases h

theorem sortFunc_ok {P : Program} {f cmp : FuncId} (hnil : ∀ w fv, Calls P f #[.slice none 0 0, fv] w fun e w' => e = .returned (.tuple #[]) ∧ w' = w)
    (hcon : ∀ (n : Nat) (enc : Fin (n + 1) → Value) (hd : Fin (n + 1) → Int) (blk off cap : Nat) (w : World), (∀ i, (enc i).oneCell' = true) → (∀ i j, hd i = hd j → i = j) →
      (∀ i, ∃ a ln cp, enc i = .slice (some a) ln cp ∧ 0 < ln ∧ w.cell? a = some (.int .i64 (hd i)) ∧ ∀ j, j < n + 1 → a ≠ ⟨blk, off + j, none⟩) →
      Sort.Holds enc w blk off (List.finRange (n + 1)).toArray → blk < w.heap.size → n + 1 < 4611686018427387904 →
      Calls P f #[.slice (some ⟨blk, off, none⟩) (n + 1) cap, .func (.func cmp) #[] #[]] w fun e w' => e = .returned (.tuple #[]) ∧ ∃ (d' : List (Fin (n + 1))) (m : Nat) (os : Array Obj), d'.Perm (List.finRange (n + 1)) ∧ d'.Pairwise (fun i j => hd i ≤ hd j) ∧
        w' = Sort.grow (Sort.putRow enc (Sort.ahead w m) blk off d'.toArray) os) : PrimOk P f (sortFuncP cmp) := by
  refine ⟨fun st args r h => ?_, fun st args r h id o ho => ?_, fun st st' args hs => ?_, fun m args r h Γ n0 PR e reg vs n st hres hns hr => ?_⟩
  · rcases sortFuncP_ways h with ⟨_, _, _, _, _, rfl⟩ | ⟨_, _, _, _, _, _, _, _, _, _, _, _, _, _, _, rfl⟩ <;> rfl
  · rcases sortFuncP_ways h with ⟨_, _, _, _, _, rfl⟩ | ⟨id', ver, off, len, x, o', ds, l, rfl, _, _, _, _, _, _, rfl⟩
    · cases ho
    · simp only [Option.some.injEq, Prod.mk.injEq] at ho
      obtain ⟨rfl, _⟩ := ho
      simp [refsOf]
  · unfold sortFuncP
    split
    · rfl
    · rename_i id ver off len x f
      have := hs id (by simp [refsOf])
      simp only [getO, this]
    · rfl
  · rcases sortFuncP_ways h with ⟨x, cs, k, g, rfl, rfl⟩ | ⟨id, ver, off, len, x, o, ds, l, rfl, hlt, ho, hv, hsp, hin, hnd, rfl⟩
    · cases hr with
      | cons hd hrs =>
        cases hrs with
        | cons hg hrs =>
          cases hrs
          cases hd with
          | c hc =>
            obtain ⟨rfl, _, _⟩ := sl_nil hc
            refine callsIn_wide.2 ((hnil e.w _).mono fun en w' ⟨he, hw⟩ => ?_)
            subst he; subst hw
            exact ⟨e, reg, rfl, st, hns, To.refl _ _ _ _, .tup .nil⟩
    · cases hr with
      | cons hd hrs =>
        cases hrs with
        | cons hg hrs =>
          cases hrs
          have ho' : e.st[id]? = some o := by rw [st.st]; exact ho
          cases hg with
          | fn hg1 hg2 =>
            cases hg1; cases hg2
            cases hd with
            | ms hid hl hx hv' =>
              rename_i a cap
              obtain ⟨_, h2⟩ := hv' o ho'
              obtain ⟨h3, h4⟩ := h2 hv.symm
              have ha : a = (e.io id).at off := h3.resolve_left (by omega)
              subst ha
              obtain ⟨hlen, hget, hmap⟩ := heads_get hin
              have hdl := span_len hsp
              have hll : l.length = len + 1 := by omega
              -- each element's value, where its first number lies
              have hval : ∀ i : Fin (len + 1), ∃ v, e.w.cell? ((e.io id).at (off + i)) = some v ∧ RD e (fun _ => False) (l[i.val]'(by omega)).2 v ∧ cellOk (l[i.val]'(by omega)).2 = true ∧ ∃ a ln cp, v = .slice (some a) ln cp ∧ 0 < ln ∧ e.w.cell? a = some (.int .i64 (l[i.val]'(by omega)).1) ∧ e.im a := fun i => by
                obtain ⟨g1, g2⟩ := hget i.val _ (List.getElem?_eq_getElem (by omega))
                obtain ⟨k1, v, k2, k3⟩ := st.mi.cell id o ho' (off + i) _ (span_get hsp g1).1
                generalize hp : (l[i.val]'(by omega)) = p at g1 g2 k1 k3
                obtain ⟨hn, dv⟩ := p
                simp only at g2 k1 k3
                unfold headOf at g2
                split at g2
                · rename_i nl x' n' rest ln
                  cases g2
                  cases k3 with
                  | c hc =>
                    have hc' := hc
                    cases hc with
                    | sl hs hcell hle hx' =>
                      cases hs with
                      | cons _ h1 _ =>
                        cases h1 with
                        | sc _ =>
                          have g := hcell 0 _ rfl
                          rw [add_zero'] at g
                          exact ⟨_, k2, .c hc', k1, _, _, _, rfl, by omega, g.1, g.2⟩
                · cases g2
              let enc : Fin (len + 1) → Value := fun i => (hval i).choose
              let hd : Fin (len + 1) → Int := fun i => (l[i.val]'(by omega)).1
              have henc : ∀ i : Fin (len + 1), e.w.cell? ((e.io id).at (off + i)) = some (enc i) ∧ RD e (fun _ => False) (l[i.val]'(by omega)).2 (enc i) ∧ cellOk (l[i.val]'(by omega)).2 = true ∧ ∃ a ln cp, enc i = .slice (some a) ln cp ∧ 0 < ln ∧ e.w.cell? a = some (.int .i64 (hd i)) ∧ e.im a := fun i => (hval i).choose_spec
              have hspan := (span_some hsp).2
              have hext := st.mi.ext id o ho'
              have hH : Sort.Holds enc e.w (e.io id).b ((e.io id).off + off) (List.finRange (len + 1)).toArray := fun j hj => by
                have hj' : j < len + 1 := by simpa using hj
                have h1 := (henc ⟨j, hj'⟩).1
                have h2 := (st.mi.ok _ _ (st.mi.own id o ho' (off + j) (by omega))).2.2.1
                simp only [Fp.at, ← Nat.add_assoc] at h1 h2
                refine ⟨?_, h2⟩
                rw [h1, getElem!_pos _ j hj]
                simp
              have hb : (e.io id).b < e.w.heap.size := World.block_lt_of_cell? _ _ (hH 0 (by simp)).1
              have hdn : ∀ i j, hd i = hd j → i = j := fun i j hij => by
                have h1 : (l.map (·.1))[i.val]? = some (hd i) := by rw [List.getElem?_map, List.getElem?_eq_getElem (by omega)]; rfl
                have h2 : (l.map (·.1))[j.val]? = some (hd j) := by rw [List.getElem?_map, List.getElem?_eq_getElem (by omega)]; rfl
                rw [← hij] at h2
                exact Fin.ext ((List.getElem?_inj (by simp; omega) hnd).1 (h1.trans h2.symm))
              have hc := hcon len enc hd (e.io id).b ((e.io id).off + off) cap e.w (fun i => by obtain ⟨a, ln, cp, h1, _⟩ := (henc i).2.2.2; rw [h1]; rfl) hdn (fun i => by
                obtain ⟨a, ln, cp, h1, h2, h3, h4⟩ := (henc i).2.2.2
                refine ⟨a, ln, cp, h1, h2, h3, fun j hj ha => ?_⟩
                have := st.mi.own id o ho' (off + j) (by omega)
                exact (st.mi.ok _ _ this).2.2.2.1 (by simp only [Fp.at, ← Nat.add_assoc]; rw [← ha]; exact h4)) hH hb hlt
              refine callsIn_wide.2 (hc.mono fun en w' ⟨he, d', k, os, hp, hpw, hw⟩ => ?_)
              subst he; subst hw; subst hv
              have hdl : d'.length = len + 1 := by simpa using hp.length_eq
              have hsorted : d'.map (fun i => l[i.val]'(by omega)) = l.foldr insH [] := by
                refine heads_unique ?_ ?_ (foldH_sorted l) ?_
                · refine ((hp.map _).trans ?_).trans (foldH_perm l).symm
                  refine .of_eq ?_
                  apply List.ext_getElem
                  · simp [hll]
                  · intro i h1 h2; simp
                · rw [List.pairwise_map]; exact hpw
                · refine ((hp.map _).map _).nodup_iff.2 ?_
                  have : ((List.finRange (len + 1)).map (fun i => l[i.val]'(by omega))) = l := by
                    apply List.ext_getElem
                    · simp [hll]
                    · intro i h1 h2; simp
                  rw [this]; exact hnd
              obtain ⟨h5, h6, h7⟩ := turn_cells enc st.mi ho' hH (by simp; omega) (by simp) (d1 := d'.toArray) (by simp [hdl]) ((l.foldr insH []).map (·.2)) (by rw [← hsorted]; simp) (fun j d hj => by
                rw [← hsorted] at hj
                simp only [List.map_map, List.getElem?_map, Option.map_eq_some_iff] at hj
                obtain ⟨i, hi, rfl⟩ := hj
                have hj' : j < d'.length := (List.getElem?_eq_some_iff.1 hi).1
                have : d'.toArray[j]! = i := by
                  rw [getElem!_pos _ j (by simpa using hj')]
                  simpa using (List.getElem?_eq_some_iff.1 hi).2
                rw [this]
                exact ⟨(henc i).2.2.1, (henc i).2.1⟩) k os
              have hback := back_of (m' := { m with st := m.st.set id ⟨o.ver, setL o.cs off ((l.foldr insH []).map (·.2))⟩ }) st hns ?_ ?_ ?_ h5 h6 h7 (RD.tup (s := fun _ => False) .nil)
              · exact hback
              · simp only [st.st]
              · rfl
              · rfl
end
end Go.Abs
