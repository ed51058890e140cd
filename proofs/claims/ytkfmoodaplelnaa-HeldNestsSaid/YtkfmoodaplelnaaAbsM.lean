/-
  AbsM: operations on maps do in the memory what the interpreter says.
-/
import Derived.Test.YtkfmoodaplelnaaAbsL
import Derived.Laws.IdiomRangeMap
import Derived.MapKept
set_option linter.unusedVariables false
set_option linter.unusedSimpArgs false
set_option linter.unusedSectionVars false
namespace Go.Abs
open Go Go.MapKept
variable [Fl]
variable [Gl]

section
variable {P : Program} {n0 : Nat} {PR : Addr → Prop} {Γ : List (Nat × Ctx)} {e e' : E} {reg reg' : Own → Addr → Prop} {fr : Nat → DV} {tm : Array Value} {df : List Deferred}

theorem putObj_cells {w : World} {l : Nat} {o o' : Obj} (h : w.heap[l]? = some o) (h1 : isC o = false) (h2 : isC o' = false) (a : Addr) : (w.putObj l o').cell? a = w.cell? a ∧ (w.putObj l o').frozen? a = w.frozen? a := by
  by_cases hb : a.block = l
  · have hlt : l < w.heap.size := (Array.getElem?_eq_some_iff.1 h).1
    have hn : (w.putObj l o').heap[a.block]? = some o' := by rw [hb]; exact World.putObj_heap_same hlt
    have ho : w.heap[a.block]? = some o := by rw [hb]; exact h
    constructor
    · unfold World.cell?
      rw [hn, ho]
      cases o <;> cases o' <;> first | rfl | (simp [isC] at h1; done) | (simp [isC] at h2; done)
    · unfold World.frozen?
      rw [hn, ho]
      cases o <;> cases o' <;> first | rfl | (simp [isC] at h1; done) | (simp [isC] at h2; done)
  · have := World.putObj_heap_other (w := w) (r := l) (o := o') hb
    exact ⟨World.cell?_of_block this, World.frozen?_of_block this⟩
theorem putObj_keep {w : World} {l : Nat} {o o' : Obj} (h : w.heap[l]? = some o) (h1 : isC o = false) (h2 : isC o' = false) (hn : n0 ≤ l) : Keep n0 PR (fun r => r = l) w (w.putObj l o') :=
  ⟨rfl, rfl, rfl, by simp, fun r hr => World.putObj_heap_other (by omega), fun a _ => putObj_cells h h1 h2 a, fun r x hr _ hx => by rw [World.putObj_heap_other hx]; exact hr, fun _ => Nat.le_refl _⟩


theorem heap_alloc_at (w : World) (o : Obj) : (w.alloc o).heap[w.heap.size]? = some o := by
  simp only [World.alloc, Array.getElem?_push]
  simp
/-- An object becomes one without cells. -/
theorem MI.mk' (m : MI n0 PR e reg) {id : Nat} {ob ob' : Ob} (ho : e.st[id]? = some ob) (hcs : ob'.cs = []) {f' : Fp} (hf : f'.ext = 0 ∨ f' = e.io id) {w' : World} (hsz : e.w.heap.size ≤ w'.heap.size)
    (hc : ∀ a : Addr, a.block < e.w.heap.size → w'.cell? a = e.w.cell? a ∧ w'.frozen? a = e.w.frozen? a) (hv : ob.ver ≤ ob'.ver ∧ (ob.ver = ob'.ver → f' = e.io id)) :
    MI n0 PR { e with w := w', st := e.st.set id ob', io := updIo e.io id f' } reg ∧ Ext e { e with w := w', st := e.st.set id ob', io := updIo e.io id f' } := by
  have hx : Ext e { e with w := w', st := e.st.set id ob', io := updIo e.io id f' } := by
    refine Ext.of_set ho rfl (fun _ h => h) (fun a ha => (hc a (m.imlt a ha)).1) (fun j hj => updIo_ne _ _ hj) ⟨hv.1, fun h => ?_⟩ (fun _ _ h => h)
    show updIo e.io id f' id = e.io id
    rw [updIo_self]; exact hv.2 h
  have get : ∀ j x, (e.st.set id ob')[j]? = some x → (j = id ∧ x = ob') ∨ (j ≠ id ∧ e.st[j]? = some x) := fun j x hj => by
    by_cases hji : j = id
    · subst hji
      rw [get_set_self ho] at hj; cases hj
      exact .inl ⟨rfl, rfl⟩
    · rw [get_set_ne (Ne.symm hji)] at hj
      exact .inr ⟨hji, hj⟩
  refine ⟨⟨fun a ha => Nat.lt_of_lt_of_le (m.imlt a ha) hsz, m.impr, fun a ha => Nat.lt_of_lt_of_le (m.prlt a ha) hsz, Nat.le_trans m.n0le hsz, fun p a hp => ?_, m.disj, fun j x hj => ?_, fun j x hj i hi => ?_, fun j x hj i d hd => ?_⟩, hx⟩
  · obtain ⟨h1, ⟨v, h2⟩, h3, h4, h5⟩ := m.ok p a hp
    obtain ⟨k1, k2⟩ := hc a (m.old hp)
    exact ⟨h1, ⟨v, k1.trans h2⟩, k2.trans h3, h4, h5⟩
  · rcases get j x hj with ⟨rfl, rfl⟩ | ⟨hne, hj'⟩
    · rw [hcs]; exact Nat.zero_le _
    · simp only [updIo_ne _ _ hne]; exact m.ext j x hj'
  · rcases get j x hj with ⟨rfl, rfl⟩ | ⟨hne, hj'⟩
    · simp only [updIo_self] at hi ⊢
      rcases hf with hf | hf
      · omega
      · rw [hf] at hi ⊢; exact m.own _ ob ho i hi
    · simp only [updIo_ne _ _ hne] at hi ⊢
      exact m.own j x hj' i hi
  · rcases get j x hj with ⟨rfl, rfl⟩ | ⟨hne, hj'⟩
    · rw [hcs] at hd; simp at hd
    · obtain ⟨h1, v, h2, h3⟩ := m.cell j x hj' i d hd
      simp only [updIo_ne _ _ hne]
      exact ⟨h1, v, (hc _ (World.block_lt_of_cell? _ _ h2)).1.trans h2, h3.mono hx fun _ h => h⟩

theorem MpI.mk' (mp : MpI n0 e) {id : Nat} {ob ob' : Ob} (ho : e.st[id]? = some ob) {f' : Fp} {w' : World} (x : Ext e { e with w := w', st := e.st.set id ob', io := updIo e.io id f' }) {k : MK} (hk : ob'.mp.k = some k) (hn : n0 ≤ f'.b)
    (hat : MkAt { e with w := w', st := e.st.set id ob', io := updIo e.io id f' } f'.b k) (hne : ∀ (j : Nat) (o : Ob), j ≠ id → e.st[j]? = some o → o.mp.k ≠ none → (e.io j).b ≠ f'.b)
    (hh : ∀ (r : Nat) (o2 : Obj), r ≠ f'.b → e.w.heap[r]? = some o2 → w'.heap[r]? = some o2)
    (hit : ob'.ver = ob.ver → ob.mp.k ≠ none ∧ ∀ xs c, e.w.heap[(e.io id).b]? = some (.map ⟨xs⟩ c) → ∃ xs' c', w'.heap[(e.io id).b]? = some (.map ⟨xs'⟩ c') ∧ Later xs c xs' c') (hvr : ob.ver ≤ ob'.ver) : MpI n0 { e with w := w', st := e.st.set id ob', io := updIo e.io id f' } := by
  have get : ∀ j x, (e.st.set id ob')[j]? = some x → (j = id ∧ x = ob') ∨ (j ≠ id ∧ e.st[j]? = some x) := fun j x hj => by
    by_cases hji : j = id
    · subst hji
      rw [get_set_self ho] at hj; cases hj
      exact .inl ⟨rfl, rfl⟩
    · rw [get_set_ne (Ne.symm hji)] at hj
      exact .inr ⟨hji, hj⟩
  refine ⟨fun j o k' h1 h2 => ?_, fun j j' o o' h1 h2 h3 h4 h5 => ?_⟩
  · rcases get j o h1 with ⟨rfl, rfl⟩ | ⟨hj, h1'⟩
    · rw [hk] at h2; cases h2
      simp only [updIo_self]; exact ⟨hn, hat⟩
    · obtain ⟨q1, q2⟩ := mp.at_ j o k' h1' h2
      simp only [updIo_ne _ _ hj]
      refine ⟨q1, q2.to x rfl (fun o2 ho2 => hh _ _ (hne j o hj h1' (by rw [h2]; simp)) ho2) fun mid mver n cur left _ r hr u' hu' hv hk' => ?_⟩
      rcases get mid u' hu' with ⟨rfl, rfl⟩ | ⟨hm, hu⟩
      · have hle : mver ≤ ob.ver := by
          cases hr with
          | mp _ hq => exact (hq ob ho).1
        have hv1 : u'.ver = ob.ver := by omega
        obtain ⟨t1, t2⟩ := hit hv1
        have hrb := hr.mp_b ho (hv1.symm.trans hv)
        exact ⟨ob, ho, hv1.symm.trans hv, t1, fun xs c hx => by rw [hrb] at hx ⊢; exact t2 xs c hx⟩
      · have hrb := hr.mp_b hu hv
        exact ⟨u', hu, hv, hk', fun xs c hx => ⟨xs, c, hh _ _ (by rw [hrb]; exact hne mid u' hm hu hk') hx, Later.refl ..⟩⟩
  · rcases get j o h1 with ⟨rfl, rfl⟩ | ⟨hj, h1'⟩ <;> rcases get j' o' h3 with ⟨rfl, rfl⟩ | ⟨hj', h3'⟩
    · rfl
    · simp only [updIo_self, updIo_ne _ _ hj'] at h5
      exact absurd h5.symm (hne j' o' hj' h3' h4)
    · simp only [updIo_self, updIo_ne _ _ hj] at h5
      exact absurd h5 (hne j o hj h1' h2)
    · simp only [updIo_ne _ _ hj, updIo_ne _ _ hj'] at h5
      exact mp.inj j j' o o' h1' h2 h3' h4 h5
theorem MB.mk' {id : Nat} {ob ob' : Ob} (ho : e.st[id]? = some ob) {f' : Fp} {w' : World} {r : Nat} (h : MB { e with w := w', st := e.st.set id ob', io := updIo e.io id f' } r) : MB e r ∨ r = f'.b := by
  obtain ⟨j, o, h1, h2, h3⟩ := h
  by_cases hji : j = id
  · subst hji
    simp only [updIo_self] at h3
    exact .inr h3.symm
  · have h1 : (e.st.set id ob')[j]? = some o := h1
    rw [get_set_ne (Ne.symm hji)] at h1
    simp only [updIo_ne _ _ hji] at h3
    exact .inl ⟨j, o, h1, h2, h3⟩

/-- What is so behind an operation on maps. -/
structure DoneM (P : Program) (n0 : Nat) (PR : Addr → Prop) (e : E) (reg : Own → Addr → Prop) (o : Oper) (a : Act) (r : Out) (v : Value) (e' : E) : Prop where
  run : Runs P o a e.w v e'.w
  st : (e'.st, e'.la) = (stSet e.st r.set, e.la)
  mi : MI n0 PR e' reg
  mp : MpI n0 e'
  ext : Ext e e'
  keep : Keep n0 PR (MB e) e.w e'.w
  maps : ∀ r, MB e' r → MB e r ∨ e.w.heap.size ≤ r
  res : ∀ s, RD e' s r.d v
  drop : r.drop = []

theorem DoneM.same {o : Oper} {a : Act} {d : DV} {v : Value} (m : MI n0 PR e reg) (mp : MpI n0 e) (h : (execOp a.eval o).run P e.w = .ok (.value v) e.w) (r : ∀ s, RD e s d v) : DoneM P n0 PR e reg o a { d } v e :=
  ⟨.inl h, rfl, m, mp, Ext.refl e, Keep.refl .., fun _ h => .inl h, r, rfl⟩

/-- A new block of no cells. -/
theorem layK_done (m : MI n0 PR e reg) (mp : MpI n0 e) {o : Oper} {a : Act} {id : Nat} {k : MK} {x : Nat × Ob} {b : Obj} {v : Value} {d : DV} (hl : layK e.st id k = some x) (hb : isC b = false)
    (hrun : (execOp a.eval o).run P e.w = .ok (.value v) (e.w.alloc b))
    (hat : ∀ e' : E, Ext e e' → e'.w = e.w.alloc b → MkAt e' e.w.heap.size k) (hd : ∀ e' : E, e'.st = e.st.set id x.2 → (e'.io id).b = e.w.heap.size → ∀ s, RD e' s d v) :
    ∃ e', DoneM P n0 PR e reg o a { d, set := some x } v e' := by
  unfold layK at hl
  split at hl
  · rename_i ob ho
    cases hl
    have hv : ob.ver < (mkOb (ob.ver + 1) k).ver := Nat.lt_succ_self _
    obtain ⟨m2, x2⟩ := m.mk' (ob' := mkOb (ob.ver + 1) k) (f' := ⟨e.w.heap.size, 0, 0⟩) (w' := e.w.alloc b) ho rfl (.inl rfl) (by simp)
      (fun a ha => ⟨World.cell?_alloc_lt _ _ _ ha, World.frozen?_alloc_old _ _ _ (by omega)⟩) ⟨Nat.le_of_lt hv, fun h => by omega⟩
    refine ⟨_, .inl hrun, rfl, m2, mp.mk' ho x2 (k := k) rfl m.n0le (hat _ x2 rfl) (fun j o2 hj h1 h2 hh => ?_) (fun r o2 hr h => ?_) (fun h => by omega) (Nat.le_of_lt hv), x2, alloc_keep b m.n0le m.prlt _, fun r hr => ?_, hd _ rfl (by simp only [updIo_self]), rfl⟩
    · obtain ⟨_, o3, h3, _⟩ := mp.obj ⟨j, o2, h1, h2, rfl⟩
      have := (Array.getElem?_eq_some_iff.1 h3).1
      simp only at hh; omega
    · rw [heap_alloc _ _ _ (Array.getElem?_eq_some_iff.1 h).1]; exact h
    · rcases MB.mk' ho hr with h | h
      · exact .inl h
      · exact .inr (by simp only at h; omega)
  · cases hl

theorem okKey_is {d : TypeDesc} {k : Value} (h : okKey d k = true) : IsKey d k := by
  cases d <;> cases k <;> first | (simp [okKey] at h; done) | trivial | skip
  simpa [okKey, IsKey] using h
theorem beq_bytes (a b : ByteArray) : (a.toList == b.toList) = (a == b) := by
  rw [Bool.eq_iff_iff, MapKept.bytes_beq, beq_iff_eq]
  refine ⟨fun hh => ?_, fun h => by rw [h]⟩
  have h' : a.data.toList = b.data.toList := by rw [← ByteArray.toList_eq, ← ByteArray.toList_eq, hh]
  cases a; cases b
  simp only [ByteArray.mk.injEq] at h' ⊢
  exact Array.toList_inj.1 h'
theorem sameK_eq (d : TypeDesc) (a b : Value) : sameK d a b = Instr.sameNow d a b := by
  cases d <;> cases a <;> cases b <;> first | rfl | simp only [sameK, Instr.sameNow, beq_bytes]
theorem sameK_true {d : TypeDesc} {a b : Value} (h : sameK d a b = some true) : b = a := by
  cases d <;> cases a <;> cases b <;> simp [sameK] at h
  · exact congrArg _ h.symm
  · obtain ⟨rfl, rfl⟩ := h; rfl
  · rename_i x y
    have := beq_bytes x y
    have h2 : (x == y) = true := by rw [← this]; simpa using h
    rw [(MapKept.bytes_beq _ _).1 h2]
theorem findK_now {d : TypeDesc} {k : Value} : ∀ {es : List (DV × DV)} {xs : List MapEntry} {i : Nat} {r : Option (Nat × DV)}, findK d k es i = some r → MR e es xs →
    match r with
    | none => Instr.findNow d k xs i = some none
    | some (j, v) => ∃ x, Instr.findNow d k xs i = some (some (j, x.val)) ∧ i ≤ j ∧ xs[j - i]? = some x ∧ RD e (fun _ => False) v x.val ∧ x.key = k
  | [], _, i, r, h, .nil => by simp only [findK] at h; cases h; rfl
  | (dk, v) :: es, x :: xs, i, r, h, .cons hk hv hs => by
    cases dk with
    | c cv =>
      cases cv with
      | sc k' =>
        cases hk with
        | c hk =>
          cases hk
          simp only [findK] at h
          cases hs2 : sameK d k x.key with
          | none => rw [hs2] at h; cases h
          | some b =>
            rw [hs2] at h
            cases b with
            | true =>
              cases h
              refine ⟨x, ?_, Nat.le_refl _, by simp, hv, sameK_true hs2⟩
              simp only [Instr.findNow, ← sameK_eq, hs2]
            | false =>
              have := findK_now h hs
              have hstep : Instr.findNow d k (x :: xs) i = Instr.findNow d k xs (i + 1) := by simp only [Instr.findNow, ← sameK_eq, hs2]
              cases r with
              | none => simp only at this ⊢; rw [hstep]; exact this
              | some p =>
                obtain ⟨j, v'⟩ := p
                simp only at this ⊢
                obtain ⟨y, h1, h2, h3, h4, h5⟩ := this
                refine ⟨y, by rw [hstep]; exact h1, by omega, ?_, h4, h5⟩
                rw [show j - i = (j - (i + 1)) + 1 by omega]; simpa using h3
      | _ => simp [findK] at h
    | _ => simp [findK] at h
theorem MR.set {k v : DV} {y : MapEntry} (hk : RD e (fun _ => False) k y.key) (hv : RD e (fun _ => False) v y.val) : ∀ {es : List (DV × DV)} {xs : List MapEntry} (j : Nat), MR e es xs → MR e (es.set j (k, v)) (xs.set j y)
  | _, _, _, .nil => .nil
  | _, _, 0, .cons _ _ c => .cons hk hv c
  | _, _, j + 1, .cons a b c => .cons a b (c.set hk hv j)
theorem MR.push {k v : DV} {y : MapEntry} (hk : RD e (fun _ => False) k y.key) (hv : RD e (fun _ => False) v y.val) : ∀ {es : List (DV × DV)} {xs : List MapEntry}, MR e es xs → MR e (es ++ [(k, v)]) (xs ++ [y])
  | _, _, .nil => .cons hk hv .nil
  | _, _, .cons a b c => .cons a b (c.push hk hv)
theorem getK_some {st : List Ob} {id ver : Nat} {k : MK} (h : getK st id ver = some k) : ∃ o, st[id]? = some o ∧ o.ver = ver ∧ o.mp.k = some k := by
  unfold getK at h
  split at h
  · rename_i o ho
    split at h
    · exact ⟨o, ho, by assumption, h⟩
    · cases h
  · cases h
theorem mapT_some {t : TypeId} {i : DV} {d : TypeDesc} {et : TypeId} {k : Value} (h : mapT P t i = some (d, et, k)) : ∃ kt, P.underlying t = some (.map kt et) ∧ P.underlying kt = some d ∧ i = .c (.sc k) ∧ IsKey d k := by
  unfold mapT at h
  split at h
  · rename_i kt et' k' h1
    split at h
    · rename_i d' h2
      split at h
      · rename_i h3
        cases h
        exact ⟨kt, h1, h2, rfl, okKey_is h3⟩
      · cases h
    · cases h
  · cases h
theorem zeroV_run {t : TypeId} {z : DV} (h : zeroV P t = some z) (w : World) : ∃ v : Value, (zeroValue t).run P w = .ok v w ∧ ∀ s, RD e s z v := by
  unfold zeroV at h
  split at h
  · rename_i i hi
    rw [Option.map_eq_some_iff] at h
    obtain ⟨zv, hz, rfl⟩ := h
    exact ⟨zv, by simp [zeroValue, typeInfo, hi, hz], fun s => ofVal_rd zv⟩
  · cases h
theorem RD.mp_at {s : Addr → Prop} {id ver : Nat} {v : Value} {o : Ob} (h : RD e s (.mp id ver) v) (ho : e.st[id]? = some o) (hv : o.ver = ver) : v = .map (some (e.io id).b) := by
  cases h with
  | mp _ hh => rw [(hh o ho).2 hv.symm]

theorem lookD_run (mp : MpI n0 e) {t : TypeId} {x i d : DV} {ok : Bool} {vx vi : Value} {sx si : Addr → Prop} (h : lookD P e.st t x i ok = some d) (rx : RD e sx x vx) (ri : RD e si i vi) : ∃ v, (Instr.lookup t vx vi ok).run P e.w = .ok v e.w ∧ ∀ s, RD e s d v := by
  unfold lookD at h
  split at h
  · rename_i dd et k id ver hm
    obtain ⟨kt, ht, hk, rfl, hik⟩ := mapT_some hm
    split at h
    · rename_i es hg
      obtain ⟨o, ho, hv, hok⟩ := getK_some hg
      have hvx := rx.mp_at ho hv
      subst hvx
      obtain ⟨_, xs, c, hb, hr, _⟩ := mp.at_ id o _ ho hok
      have hvi : vi = k := by cases ri with | c ri => cases ri; rfl
      subst hvi
      split at h
      · rename_i j dv hf
        have := findK_now hf hr
        simp only at this
        obtain ⟨y, h1, _, _, h4, _⟩ := this
        cases h
        refine ⟨_, by simp [Instr.lookup, run_underlying ht, MapKept.run_getObj_map hb, run_checkKey hk hik, run_findKey hk h1, Result.andThen]; rfl, fun s => ?_⟩
        cases ok with
        | true => exact .tup (.cons h4 (.cons (.c (.sc rfl)) .nil))
        | false => exact h4.weak (fun _ h => h.elim)
      · rename_i hf
        have := findK_now hf hr
        simp only at this
        rw [Option.map_eq_some_iff] at h
        obtain ⟨z, hz, rfl⟩ := h
        obtain ⟨zv, hz1, hz2⟩ := zeroV_run (e := e) hz e.w
        refine ⟨_, by simp [Instr.lookup, run_underlying ht, MapKept.run_getObj_map hb, run_checkKey hk hik, run_findKey hk this, hz1, Result.andThen]; rfl, fun s => ?_⟩
        cases ok with
        | true => exact .tup (.cons (hz2 _) (.cons (.c (.sc rfl)) .nil))
        | false => exact hz2 s
      · cases h
    · cases h
  · rename_i dd et k hm
    obtain ⟨kt, ht, hk, rfl, hik⟩ := mapT_some hm
    have hvx : vx = .map none := by cases rx with | c rx => cases rx; rfl
    subst hvx
    have hvi : vi = k := by cases ri with | c ri => cases ri; rfl
    subst hvi
    rw [Option.map_eq_some_iff] at h
    obtain ⟨z, hz, rfl⟩ := h
    obtain ⟨zv, hz1, hz2⟩ := zeroV_run (e := e) hz e.w
    have h1 : Instr.findNow dd vi [] 0 = some none := rfl
    refine ⟨_, by simp [Instr.lookup, run_underlying ht, run_checkKey hk hik, run_findKey hk h1, hz1, Result.andThen]; rfl, fun s => ?_⟩
    cases ok with
    | true => exact .tup (.cons (hz2 _) (.cons (.c (.sc rfl)) .nil))
    | false => exact hz2 s
  · cases h

theorem list_set_self {α : Type} : ∀ {l : List α} {j : Nat} {a : α}, l[j]? = some a → l.set j a = l
  | [], _, _, h => by simp at h
  | x :: l, 0, a, h => by simp at h; simp [h]
  | x :: l, j + 1, a, h => by simp only [List.set_cons_succ]; rw [list_set_self (by simpa using h)]
/-- A map's entries are turned. -/
theorem putK_done (m : MI n0 PR e reg) (mp : MpI n0 e) {o : Oper} {a : Act} {t : TypeId} {x i y : DV} {vx vi vy : Value} {sx si : Addr → Prop} {p : Nat × Ob} (h : putK P e.st t x i y = some p) (rx : RD e sx x vx) (ri : RD e si i vi) (ry : ∀ s, RD e s y vy)
    (hrun : ∀ w', (Instr.mapUpdate t vx vi vy).run P e.w = .ok () w' → (execOp a.eval o).run P e.w = .ok .skip w') : ∃ v e', DoneM P n0 PR e reg o a { d := .un, set := some p } v e' := by
  unfold putK at h
  split at h
  · rename_i dd et k id ver hm
    obtain ⟨kt, ht, hk, rfl, hik⟩ := mapT_some hm
    split at h
    · rename_i es hg
      obtain ⟨ob, ho, hv, hok⟩ := getK_some hg
      have hvx := rx.mp_at ho hv
      subst hvx
      obtain ⟨hn, xs, c, hb, hr, hbn⟩ := mp.at_ id ob _ ho hok
      have hvi : vi = k := by cases ri with | c ri => cases ri; rfl
      subst hvi
      have hkey : ∀ s, RD e s (.c (.sc vi)) vi := fun s => by cases ri with | c ri => exact .c ri
      have key : ∀ (es' : List (DV × DV)) (xs' : List MapEntry) (c' : Nat), MR e es' xs' → Born xs' c' → Later xs c xs' c' → (Instr.mapUpdate t (.map (some (e.io id).b)) vi vy).run P e.w = .ok () (e.w.putObj (e.io id).b (.map ⟨xs'⟩ c')) →
          ∃ v e', DoneM P n0 PR e reg o a { d := .un, set := some (id, mkOb ver (.map es')) } v e' := fun es' xs' c' hr' hbn' hlt' hrn => by
        have hlt : (e.io id).b < e.w.heap.size := (Array.getElem?_eq_some_iff.1 hb).1
        obtain ⟨m2, x2⟩ := m.mk' (ob' := mkOb ver (.map es')) (f' := e.io id) (w' := e.w.putObj (e.io id).b (.map ⟨xs'⟩ c')) ho rfl (.inr rfl) (by simp)
          (fun a _ => putObj_cells hb rfl rfl a) ⟨by rw [hv]; exact Nat.le_refl _, fun _ => rfl⟩
        refine ⟨undef, _, .inr ⟨hrun _ hrn, rfl⟩, rfl, m2, mp.mk' ho x2 (k := .map es') rfl hn ⟨xs', c', World.putObj_heap_same hlt, hr'.mono x2, hbn'⟩ (fun j o2 hj h1 h2 hh => ?_) (fun r o2 hne h => ?_) (fun _ => ⟨by rw [hok]; simp, fun ys d hy => by rw [hb] at hy; cases hy; exact ⟨xs', c', World.putObj_heap_same hlt, hlt'⟩⟩) (by rw [hv]; exact Nat.le_refl _), x2, ?_, fun r hr => ?_, fun s => .un, rfl⟩
        · exact hj (mp.inj j id o2 ob h1 h2 ho (by rw [hok]; simp) hh)
        · rw [World.putObj_heap_other hne]; exact h
        · exact (putObj_keep hb rfl rfl hn).weak fun r hr => ⟨id, ob, ho, by rw [hok]; simp, hr.symm⟩
        · rcases MB.mk' ho hr with h | h
          · exact .inl h
          · exact .inl ⟨id, ob, ho, by rw [hok]; simp, h.symm⟩
      split at h
      · rename_i j dv hf
        have := findK_now hf hr
        simp only at this
        obtain ⟨z, h1, _, h3, h4, h5⟩ := this
        simp only [Nat.sub_zero] at h3
        cases h
        subst h5
        refine key _ (xs.set j { z with val := vy }) c (MR.set (y := { z with val := vy }) (hkey _) (ry _) j hr) ⟨fun y hy => ?_, ?_⟩ (.inl ⟨?_, rfl⟩) ?_
        · rcases List.mem_or_eq_of_mem_set hy with hy | hy
          · exact hbn.1 y hy
          · subst hy; exact hbn.1 z (List.mem_of_getElem? h3)
        · rw [show (xs.set j { z with val := vy }).map (·.born) = xs.map (·.born) from ?_]
          · exact hbn.2
          · rw [List.map_set]; exact list_set_self (by rw [List.getElem?_map, h3]; rfl)
        · rw [List.map_set]; exact list_set_self (by rw [List.getElem?_map, h3]; rfl)
        have hmod : xs.modify j (fun e => { key := z.key, val := vy, born := e.born }) = xs.set j { z with val := vy } := by
          apply List.ext_getElem?
          intro n
          rw [List.getElem?_modify]
          simp only [List.getElem?_set]
          by_cases hn : j = n
          · subst hn
            have hlt := (List.getElem?_eq_some_iff.1 h3).1
            have hz : xs[j] = z := by rw [List.getElem?_eq_getElem hlt] at h3; cases h3; rfl
            simp [h3, hlt, hz]
          · simp [hn]
        simp [Instr.mapUpdate, run_underlying ht, MapKept.run_getObj_map hb, run_checkKey hk hik, run_findKey hk h1, h3, run_keyThatStays hik, MapKept.run_setObj_map _ hb, Result.andThen, hmod, World.putObj]
      · rename_i hf
        have := findK_now hf hr
        simp only at this
        cases h
        refine key _ (xs ++ [{ key := vi, val := vy, born := c }]) (c + 1) (MR.push (hkey _) (ry _) hr) ⟨fun y hy => ?_, ?_⟩ (.inr (by simp)) ?_
        · rcases List.mem_append.1 hy with hy | hy
          · have := hbn.1 y hy; omega
          · simp only [List.mem_singleton] at hy; subst hy; exact Nat.lt_succ_self _
        · rw [List.map_append, List.nodup_append]
          refine ⟨hbn.2, by simp, fun a ha b hb' => ?_⟩
          obtain ⟨y, hy, rfl⟩ := List.mem_map.1 ha
          simp only [List.map_cons, List.map_nil, List.mem_singleton] at hb'
          have := hbn.1 y hy; omega
        simp [Instr.mapUpdate, run_underlying ht, MapKept.run_getObj_map hb, run_checkKey hk hik, run_findKey hk this, MapKept.run_setObj_map _ hb, Result.andThen, World.putObj]
      · cases h
    · cases h
  · cases h

theorem MR.length {es : List (DV × DV)} {xs : List MapEntry} (h : MR e es xs) : es.length = xs.length := by
  induction h with
  | nil => rfl
  | cons _ _ _ ih => simp [ih]
theorem MR.get : ∀ {es : List (DV × DV)} {xs : List MapEntry}, MR e es xs → ∀ {j : Nat} {k v : DV}, es[j]? = some (k, v) → ∃ x, xs[j]? = some x ∧ RD e (fun _ => False) k x.key ∧ RD e (fun _ => False) v x.val
  | _, _, .nil, j, k, v, h => by simp at h
  | _, _, .cons a b c, 0, k, v, h => by simp at h; obtain ⟨rfl, rfl⟩ := h; exact ⟨_, rfl, a, b⟩
  | _, _, .cons a b c, j + 1, k, v, h => by
    obtain ⟨x, h1, h2, h3⟩ := MR.get c (j := j) (by simpa using h)
    exact ⟨x, by simpa using h1, h2, h3⟩
/-- Nothing is left. -/
theorem run_next_over {P : Program} {w : World} {ty : TypeId} {b r since stepped c : Nat} {seen : Array Nat} {xs : List MapEntry} (hb : w.heap[b]? = some (.mapIter (some r) since seen stepped)) (hr : w.heap[r]? = some (.map ⟨xs⟩ c)) (hold : ∀ x ∈ xs, x.born < since) (hsc : since ≤ stepped)
    (hall : ∀ x ∈ xs, seen.contains x.born = true) : (Instr.next (.pointer (some ⟨b, 0, none⟩)) false ty).run P w = .ok (.tuple #[.bool false]) w := by
  have hgi : (getObj b).run P w = .ok (.mapIter (some r) since seen stepped) w := by simp [getObj, Sem.run, hb]
  have hl : (⟨xs⟩ : Array MapEntry).filter (fun e => !seen.contains e.born) = #[] := by
    rw [Array.filter_eq_empty_iff]
    intro x hx
    have := hall x (by simpa using hx)
    rw [this]; decide
  simp only [Instr.next, Sem.run_bind, hgi, Result.andThen_ok, MapKept.run_getObj_map hr, next_test_false seen ⟨xs⟩ since stepped (by simpa using hold) hsc, Bool.false_eq_true, if_false, hl]
  simp [choose, Sem.run, Question.forced, Result.andThen]
theorem mapS_sound (m : MI n0 PR e reg) (mp : MpI n0 e) (hf : ∀ t, RD e (reg (.slot t)) (fr t) (tm.getD t undef)) {o : Oper} {c : Site} {r : Out} (h : opS P c o.op fr e.st = some r) (hno : isMapOp o.op = true) :
    ∃ v e', DoneM P n0 PR e reg o ⟨tm, df⟩ r v e' := by
  have hev : ∀ x s, RD e s (ev fr x) ((⟨tm, df⟩ : Act).eval x) := fun x s => ev_rd hf x
  cases ho : o.op with
  | makeMap t rs =>
    rw [ho] at h
    cases rs with
    | some v => simp [opS] at h
    | none =>
      simp only [opS, Option.map_eq_some_iff] at h
      obtain ⟨x, hx, rfl⟩ := h
      refine ⟨.map (some e.w.heap.size), ?_⟩
      have hid : x.1 = c.id := by unfold layK at hx; split at hx; · cases hx; rfl
                                  · cases hx
      have hlt : ∃ ob, e.st[c.id]? = some ob := by unfold layK at hx; split at hx; · exact ⟨_, by assumption⟩
                                                   · cases hx
      obtain ⟨ob, hob⟩ := hlt
      refine layK_done m mp hx (b := .map #[] 0) rfl (by simp [execOp, ho, Instr.makeMap]) (fun e' _ hw => ⟨[], 0, by rw [hw]; exact heap_alloc_at _ _, .nil, by simp, by simp⟩) (fun e' hst hb s => ?_)
      refine .mp (by rw [hst]; simp; exact (List.getElem?_eq_some_iff.1 hob).1) fun o2 ho2 => ?_
      rw [hst, get_set_self hob] at ho2; cases ho2
      exact ⟨Nat.le_refl _, fun _ => hb.symm⟩
  | lookup t x i ok =>
    rw [ho] at h
    simp only [opS] at h
    obtain ⟨d, hd, rfl⟩ := val_some h
    obtain ⟨v, hv, hr⟩ := lookD_run mp hd (hev x (fun _ => False)) (hev i (fun _ => False))
    exact ⟨v, e, DoneM.same m mp (by simp [execOp, ho, hv]) hr⟩
  | mapUpdate t x i y =>
    rw [ho] at h
    simp only [opS, Option.map_eq_some_iff] at h
    obtain ⟨p, hp, rfl⟩ := h
    exact putK_done m mp hp (hev x (fun _ => False)) (hev i (fun _ => False)) (hev y) fun w' hw => by simp [execOp, ho, hw]
  | insert t x i y =>
    rw [ho] at h
    simp only [opS, Option.map_eq_some_iff] at h
    obtain ⟨p, hp, rfl⟩ := h
    exact putK_done m mp hp (hev x (fun _ => False)) (hev i (fun _ => False)) (hev y) fun w' hw => by simp [execOp, ho, hw]
  | range t x =>
    rw [ho] at h
    simp only [opS, iterD] at h
    have hx := hev x (fun _ => False)
    split at h
    · rename_i mid mver hxx
      rw [hxx] at hx
      generalize hax : (⟨tm, df⟩ : Act).eval x = ax at hx
      split at h
      · rename_i hT
        split at h
        · rename_i hg
          obtain ⟨ob, hob, hv, hok⟩ := getK_some hg
          have hvx := hx.mp_at hob hv
          obtain ⟨_, xs, cl, hb, hr, _⟩ := mp.at_ mid ob _ hob hok
          cases hr
          rw [Option.map_eq_some_iff] at h
          obtain ⟨p, hp, rfl⟩ := h
          unfold isMapT at hT
          split at hT
          · rename_i kt et ht
            subst hvx
            have hlt : ∃ ob, e.st[c.id]? = some ob := by unfold layK at hp; split at hp; · exact ⟨_, by assumption⟩
                                                         · cases hp
            obtain ⟨ob0, hob0⟩ := hlt
            refine ⟨.pointer (some ⟨e.w.heap.size, 0, none⟩), layK_done m mp hp (b := .mapIter (some (e.io mid).b) cl #[] cl) rfl ?_ (fun e' x' hw => ⟨(e.io mid).b, cl, by rw [hw]; exact heap_alloc_at _ _, hx.mono x' fun _ h => h⟩) (fun e' hst hbb s => ?_)⟩
            · simp [execOp, ho, hax, Instr.range, run_underlying ht, MapKept.run_getObj_map hb, Result.andThen]
            · refine .mi (by rw [hst]; simp; exact (List.getElem?_eq_some_iff.1 hob0).1) fun o2 ho2 => ?_
              rw [hst, get_set_self hob0] at ho2; cases ho2
              exact ⟨Nat.le_refl _, fun _ => hbb.symm⟩
          · cases hT
        · rename_i x0 es0 hg
          obtain ⟨ob, hob, hv, hok⟩ := getK_some hg
          have hvx := hx.mp_at hob hv
          obtain ⟨_, xs, cl, hb, hr, hbn⟩ := mp.at_ mid ob _ hob hok
          have hlen := hr.length
          simp only [List.length_cons] at hlen
          rw [Option.map_eq_some_iff] at h
          obtain ⟨p, hp, rfl⟩ := h
          unfold isMapT at hT
          split at hT
          · rename_i kt et ht
            subst hvx
            have hlt : ∃ ob, e.st[c.id]? = some ob := by unfold layK at hp; split at hp; · exact ⟨_, by assumption⟩
                                                         · cases hp
            obtain ⟨ob0, hob0⟩ := hlt
            refine ⟨.pointer (some ⟨e.w.heap.size, 0, none⟩), layK_done m mp hp (b := .mapIter (some (e.io mid).b) cl #[] cl) rfl ?_ (fun e' x' hw => ⟨(e.io mid).b, cl, #[], cl, by rw [hw]; exact heap_alloc_at _ _, hx.mono x' fun _ h => h, fun o' _ _ _ => ⟨xs, cl, ?_, by simp only [List.length_cons]; omega, fun _ => ⟨rfl, rfl, fun j y hy => ?_, fun j hj => ?_, List.nodup_range, fun j hj => by cases hj⟩⟩⟩) (fun e' hst hbb s => ?_)⟩
            · simp [execOp, ho, hax, Instr.range, run_underlying ht, MapKept.run_getObj_map hb, Result.andThen]
            · rw [hw, heap_alloc _ _ _ (Array.getElem?_eq_some_iff.1 hb).1]; exact hb
            · have := (List.getElem?_eq_some_iff.1 hy).1
              simp; omega
            · simp at hj; omega
            · refine .mi (by rw [hst]; simp; exact (List.getElem?_eq_some_iff.1 hob0).1) fun o2 ho2 => ?_
              rw [hst, get_set_self hob0] at ho2; cases ho2
              exact ⟨Nat.le_refl _, fun _ => hbb.symm⟩
          · cases hT
        · cases h
      · cases h
    · cases h
  | next x isS =>
    rw [ho] at h
    cases isS with
    | true => simp [opS] at h
    | false =>
      simp only [opS] at h
      obtain ⟨d, hd, rfl⟩ := val_some h
      unfold nextD at hd
      have hx := hev x (fun _ => False)
      split at hd
      · rename_i id ver mid mver hxx
        rw [hxx] at hx
        generalize hax : (⟨tm, df⟩ : Act).eval x = ax at hx
        split at hd
        · rename_i mid' mver' hg1 hg2
          split at hd
          · rename_i hc
            obtain ⟨rfl, rfl⟩ := hc
            cases hd
            obtain ⟨o1, h1, h2, h3⟩ := getK_some hg1
            obtain ⟨o2, g1, g2, g3⟩ := getK_some hg2
            obtain ⟨_, r, cl, hb, hr⟩ := mp.at_ id o1 _ h1 h3
            have hr2 := hr.mp_at g1 g2
            cases hr2
            obtain ⟨_, xs, cl2, hb2, hr3, _⟩ := mp.at_ mid' o2 _ g1 g3
            cases hr3
            cases hx with
            | mi _ hv =>
              have := (hv o1 h1).2 h2.symm
              subst this
              refine ⟨_, e, DoneM.same m mp (v := .tuple #[.bool false]) ?_ (fun s => .tup (.cons (.c (.sc rfl)) .nil))⟩
              have hgi : (getObj (e.io id).b).run P e.w = .ok (.mapIter (some (e.io mid').b) cl #[] cl) e.w := by simp [getObj, Sem.run, hb]
              simp [execOp, ho, hax, Instr.next, hgi, MapKept.run_getObj_map hb2, Result.andThen, choose, Sem.run, Question.forced]
          · cases hd
        · rename_i mid' mver' n cur es hg1 hg2
          split at hd
          · rename_i hc
            obtain ⟨rfl, rfl, hn⟩ := hc
            cases hd
            obtain ⟨o1, h1, h2, h3⟩ := getK_some hg1
            obtain ⟨o2, g1, g2, g3⟩ := getK_some hg2
            obtain ⟨_, r, since, seen, stepped, hb, hr, hit⟩ := mp.at_ id o1 _ h1 h3
            have hr2 := hr.mp_at g1 g2
            cases hr2
            obtain ⟨_, xs, cl2, hb2, hr3, hbn⟩ := mp.at_ mid' o2 _ g1 g3
            obtain ⟨ys, d, k1, k2, k3⟩ := hit o2 g1 g2 (by rw [g3]; simp)
            rw [hb2] at k1; cases k1
            have ok := k3 (by rw [← hr3.length]; exact hn)
            cases hx with
            | mi _ hv =>
              have := (hv o1 h1).2 h2.symm
              subst this
              refine ⟨_, e, DoneM.same m mp (v := .tuple #[.bool false]) ?_ (fun s => .tup (.cons (.c (.sc rfl)) .nil))⟩
              have := run_next_over (P := P) (w := e.w) (ty := o.type) hb hb2 (fun x hx => by rw [ok.since]; exact hbn.1 x hx) (by rw [ok.since, ok.stepped]; exact Nat.le_refl _) (fun x hx => by
                obtain ⟨j, hj⟩ := List.getElem?_of_mem hx
                cases hc : seen.contains x.born with
                | true => rfl
                | false => exact absurd ((ok.left_ j x hj).1 hc) (by simp))
              simp [execOp, ho, hax, this]
          · cases hd
        · cases hd
      · cases hd
  | entry x =>
    rw [ho] at h
    simp only [opS] at h
    obtain ⟨d, hd, rfl⟩ := val_some h
    unfold entryD at hd
    have hx := hev x (fun _ => False)
    split at hd
    · rename_i id ver mid mver hxx
      rw [hxx] at hx
      generalize hax : (⟨tm, df⟩ : Act).eval x = ax at hx
      split at hd
      · rename_i mid' mver' n j left es hg1 hg2
        split at hd
        · rename_i hc
          obtain ⟨rfl, rfl, hn⟩ := hc
          rw [Option.map_eq_some_iff] at hd
          obtain ⟨⟨k, v⟩, hj, rfl⟩ := hd
          obtain ⟨o1, h1, h2, h3⟩ := getK_some hg1
          obtain ⟨o2, g1, g2, g3⟩ := getK_some hg2
          obtain ⟨_, r, since, seen, stepped, hb, hr, hit⟩ := mp.at_ id o1 _ h1 h3
          have hr2 := hr.mp_at g1 g2
          cases hr2
          obtain ⟨_, xs, cl2, hb2, hr3, hbn⟩ := mp.at_ mid' o2 _ g1 g3
          obtain ⟨ys, d, k1, k2, k3⟩ := hit o2 g1 g2 (by rw [g3]; simp)
          rw [hb2] at k1; cases k1
          have ok := k3 (by rw [← hr3.length]; exact hn)
          obtain ⟨y, hy, hs⟩ := ok.cur_ j rfl
          obtain ⟨y', hy', hk, hv⟩ := hr3.get hj
          rw [hy] at hy'; cases hy'
          cases hx with
          | mi _ hvv =>
            have := (hvv o1 h1).2 h2.symm
            subst this
            refine ⟨_, e, DoneM.same m mp (v := .tuple #[y.key, y.val]) ?_ (fun s => .tup (.cons hk (.cons hv .nil)))⟩
            have hgi : (getObj (e.io id).b).run P e.w = .ok (.mapIter (some (e.io mid').b) since seen stepped) e.w := by simp [getObj, Sem.run, hb]
            have hf : (⟨xs⟩ : Array MapEntry).find? (·.born == y.born) = some y := by rw [← Array.find?_toList]; exact find_born y xs hbn.2 (List.mem_of_getElem? hy)
            have hcl : (cl2 != stepped) = false := by rw [ok.stepped]; simp
            simp only [execOp, ho, hax, Instr.entry, Sem.run_bind, hgi, Result.andThen_ok, hs, MapKept.run_getObj_map hb2, hcl, Bool.false_eq_true, if_false, hf]
            simp
        · cases hd
      · cases hd
    · cases hd
  | _ => rw [ho] at hno; cases hno
end
end Go.Abs
