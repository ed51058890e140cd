/-
  Abs19: operations that are apart may come up in either order.
-/
import Derived.Test.YtkfmoodaplelnaaAbs18
set_option linter.unusedVariables false
set_option linter.unusedSimpArgs false
set_option linter.unusedSectionVars false
namespace Go.Abs
open Go
variable [Fl]
variable [Gl]

def Same (ts : List Tmp) (fr fr' : Nat → DV) : Prop := ∀ t ∈ ts, fr t = fr' t

theorem ev_same {fr fr' : Nat → DV} {x : Operand} (h : ∀ t ∈ tmpOf x, fr t = fr' t) : ev fr x = ev fr' x ∧ raw fr x = raw fr' x := by
  cases x with
  | tmp t => have := h t (by simp [tmpOf]); simp [ev, raw, this]
  | _ => exact ⟨rfl, rfl⟩
theorem evs_same {fr fr' : Nat → DV} {xs : List Operand} (h : ∀ x ∈ xs, ev fr x = ev fr' x) : evs fr xs = evs fr' xs := List.map_congr_left h
theorem evP_same {fr fr' : Nat → DV} {xs : List (Nat × Operand)} (h : ∀ x ∈ xs, ev fr x.2 = ev fr' x.2) : evP fr xs = evP fr' xs := by
  refine List.map_congr_left fun x hx => ?_
  obtain ⟨i, y⟩ := x
  have := h (i, y) hx
  simp only at this
  simp only [this]
theorem opt_same {fr fr' : Nat → DV} {x : Option Operand} (h : ∀ y, x = some y → ev fr y = ev fr' y) : x.map (ev fr) = x.map (ev fr') := by
  cases x with
  | none => rfl
  | some y => simp [h y rfl]

section
variable {P : Program}

theorem op_same {c : Site} {op : Op} {fr fr' : Nat → DV} (h : Same (op.operands.toList.flatMap tmpOf) fr fr') (st : List Ob) : opS P c op fr st = opS P c op fr' st ∧ accS c op fr = accS c op fr' ∧ calleeOf fr op = calleeOf fr' op := by
  have hx : ∀ x ∈ op.operands.toList, ev fr x = ev fr' x ∧ raw fr x = raw fr' x := fun x hx => ev_same fun t ht => h t (List.mem_flatMap.2 ⟨x, hx, ht⟩)
  cases op with
  | build t ps =>
    have : evP fr ps.toList = evP fr' ps.toList := evP_same fun x hm => (hx x.2 (by simp [Op.operands]; exact ⟨x.1, by simpa using hm⟩)).1
    simp [opS, accS, calleeOf, this]
  | buildSlice t n ps =>
    have : evP fr ps.toList = evP fr' ps.toList := evP_same fun x hm => (hx x.2 (by simp [Op.operands]; exact ⟨x.1, by simpa using hm⟩)).1
    simp [opS, accS, calleeOf, this]
  | makeFunc fn xs ys =>
    have h1 : evs fr xs.toList = evs fr' xs.toList := evs_same fun x hm => (hx x (by simp [Op.operands]; exact .inl (by simpa using hm))).1
    have h2 : evs fr ys.toList = evs fr' ys.toList := evs_same fun x hm => (hx x (by simp [Op.operands]; exact .inr (by simpa using hm))).1
    cases fn <;> simp [opS, accS, calleeOf, h1, h2]
  | slice t x lo hi mx =>
    have h1 := (hx x (by simp [Op.operands])).1
    have h2 : lo.map (ev fr) = lo.map (ev fr') := opt_same fun y hy => (hx y (by simp [Op.operands, hy])).1
    have h3 : hi.map (ev fr) = hi.map (ev fr') := opt_same fun y hy => (hx y (by simp [Op.operands, hy])).1
    have h4 : mx.map (ev fr) = mx.map (ev fr') := opt_same fun y hy => (hx y (by simp [Op.operands, hy])).1
    simp [opS, accS, calleeOf, h1, h2, h3, h4]
  | call k =>
    have hargs : ∀ x ∈ k.args.toList, ev fr x = ev fr' x ∧ raw fr x = raw fr' x := fun x hm => hx x (by
      have hm' : x ∈ k.args := by simpa using hm
      cases hk : k.callee <;> simp [Op.operands, Call.operands, hk, hm'])
    have hes : evs fr k.args.toList = evs fr' k.args.toList := evs_same fun x hm => (hargs x hm).1
    cases hk : k.callee with
    | value g =>
      have hg := (hx g (by simp [Op.operands, Call.operands, hk])).1
      simp [opS, accS, calleeOf, hk, hg, hes]
    | invoke x name => simp [opS, accS, calleeOf, hk]
    | builtin b =>
      cases hl : k.args.toList with
      | nil => cases b <;> simp [opS, accS, calleeOf, hk, hl, evs]
      | cons x xs =>
        have e1 := hargs x (by rw [hl]; simp)
        rw [hl] at hes
        cases xs with
        | nil => cases b <;> simp [opS, accS, calleeOf, hk, hl, e1.1, e1.2, hes]
        | cons y ys =>
          have e2 := hargs y (by rw [hl]; simp)
          cases ys with
          | nil => cases b <;> simp [opS, accS, calleeOf, hk, hl, e1.1, e1.2, e2.1, e2.2, hes]
          | cons z zs => cases b <;> simp [opS, accS, calleeOf, hk, hl, e1.1, e1.2, e2.1, e2.2, hes]
  | move x => have h1 := hx x (by simp [Op.operands]); simp [opS, accS, calleeOf, h1.1, h1.2]
  | assign x => have h1 := hx x (by simp [Op.operands]); simp [opS, accS, calleeOf, h1.1, h1.2]
  | pick b x y =>
    have h1 := hx b (by simp [Op.operands]); have h2 := hx x (by simp [Op.operands]); have h3 := hx y (by simp [Op.operands])
    simp [opS, accS, calleeOf, h1.1, h2.1, h3.1]
  | alloc t => simp [opS, accS, calleeOf]
  | box t x => have h1 := hx x (by simp [Op.operands]); simp [opS, accS, calleeOf, h1.1]
  | load t x => have h1 := hx x (by simp [Op.operands]); simp [opS, accS, calleeOf, h1.1]
  | store t x y =>
    have h1 := hx x (by simp [Op.operands]); have h2 := hx y (by simp [Op.operands])
    simp [opS, accS, calleeOf, h1.1, h2.1, h2.2]
  | nilCheck x => have h1 := hx x (by simp [Op.operands]); simp [opS, accS, calleeOf, h1.1]
  | binOp op t x y u =>
    have h1 := hx x (by simp [Op.operands]); have h2 := hx y (by simp [Op.operands])
    simp [opS, accS, calleeOf, h1.1, h2.1]
  | unOp op t x => have h1 := hx x (by simp [Op.operands]); simp [opS, accS, calleeOf, h1.1]
  | convert a b x => have h1 := hx x (by simp [Op.operands]); simp [opS, accS, calleeOf, h1.1]
  | makeSlice t x y =>
    have h1 := hx x (by simp [Op.operands]); have h2 := hx y (by simp [Op.operands])
    simp [opS, accS, calleeOf, h1.1, h2.1]
  | fieldAddr t x f => have h1 := hx x (by simp [Op.operands]); simp [opS, accS, calleeOf, h1.1]
  | field t x f => have h1 := hx x (by simp [Op.operands]); simp [opS, accS, calleeOf, h1.1]
  | indexAddr t x y =>
    have h1 := hx x (by simp [Op.operands]); have h2 := hx y (by simp [Op.operands])
    simp [opS, accS, calleeOf, h1.1, h2.1]
  | index t x y =>
    have h1 := hx x (by simp [Op.operands]); have h2 := hx y (by simp [Op.operands])
    simp [opS, accS, calleeOf, h1.1, h2.1]
  | extract x i => have h1 := hx x (by simp [Op.operands]); simp [opS, accS, calleeOf, h1.1]
  | makeMap t r => cases r <;> simp [opS, accS, calleeOf]
  | lookup t x i ok =>
    have h1 := hx x (by simp [Op.operands]); have h2 := hx i (by simp [Op.operands])
    simp [opS, accS, calleeOf, h1.1, h2.1]
  | mapUpdate t x i y =>
    have h1 := hx x (by simp [Op.operands]); have h2 := hx i (by simp [Op.operands]); have h3 := hx y (by simp [Op.operands])
    simp [opS, accS, calleeOf, h1.1, h2.1, h3.1]
  | insert t x i y =>
    have h1 := hx x (by simp [Op.operands]); have h2 := hx i (by simp [Op.operands]); have h3 := hx y (by simp [Op.operands])
    simp [opS, accS, calleeOf, h1.1, h2.1, h3.1]
  | range t x => have h1 := hx x (by simp [Op.operands]); simp [opS, accS, calleeOf, h1.1]
  | next x b => have h1 := hx x (by simp [Op.operands]); cases b <;> simp [opS, accS, calleeOf, h1.1]
  | entry x => have h1 := hx x (by simp [Op.operands]); simp [opS, accS, calleeOf, h1.1]
  | _ => simp [opS, accS, calleeOf]

/-! ### an operation sees the objects that it names alone -/
theorem getO_same {st st' : List Ob} {id ver : Nat} (h : st[id]? = st'[id]?) : getO st id ver = getO st' id ver := by simp [getO, h]
theorem lay_same {st st' : List Ob} {id : Nat} {cs : List DV} (h : st[id]? = st'[id]?) : lay st id cs = lay st' id cs := by simp [lay, h]
theorem loadD_same {st st' : List Ob} {t : TypeId} {x : DV} (h : ∀ i ∈ refsOf x, st[i]? = st'[i]?) : loadD P st t x = loadD P st' t x := by
  cases x <;> simp [loadD]
  rename_i id ver off
  rw [getO_same (h id (by simp [refsOf]))]
theorem sliceD_same {st st' : List Ob} {t : TypeId} {x : DV} {lo hi mx : Option DV} (h : ∀ i ∈ refsOf x, st[i]? = st'[i]?) : sliceD P st t x lo hi mx = sliceD P st' t x lo hi mx := by
  unfold sliceD
  cases P.underlying t with
  | none => rfl
  | some td =>
    cases x with
    | pt id ver off => cases td <;> first | rfl | simp only [getO_same (h id (by simp [refsOf]))]
    | c v => cases td <;> cases v <;> first | rfl | (rename_i u; cases u <;> rfl)
    | _ => cases td <;> rfl
theorem storeD_same {st st' : List Ob} {t : TypeId} {x v : DV} (h : ∀ i ∈ refsOf x, st[i]? = st'[i]?) : storeD P st t x v = storeD P st' t x v := by
  unfold storeD
  cases cellsOf v <;> cases sizeT P t <;> cases x <;> first | rfl | simp only [getO_same (h _ (by simp [refsOf]; rfl))]
theorem elemsD_same {st st' : List Ob} {esz : Nat} {x : DV} (h : ∀ i ∈ refsOf x, st[i]? = st'[i]?) : elemsD st esz x = elemsD st' esz x := by
  cases x with
  | ms id ver off len e x => simp only [elemsD, getO_same (h id (by simp [refsOf]))]
  | c v => cases v <;> rfl
  | _ => rfl
theorem appendV_same {st st' : List Ob} {t t2 : TypeId} {x y : DV} (h : ∀ i ∈ refsOf y, st[i]? = st'[i]?) : appendV P st t t2 x y = appendV P st' t t2 x y := by
  unfold appendV
  have : ∀ k, elemsD st k y = elemsD st' k y := fun k => elemsD_same h
  simp only [this]
theorem appendO_same {st st' : List Ob} {id0 : Nat} {t t2 : TypeId} {x y : DV} (h0 : st[id0]? = st'[id0]?) (h1 : ∀ i ∈ refsOf x, st[i]? = st'[i]?) (h : ∀ i ∈ refsOf y, st[i]? = st'[i]?) : appendO P st id0 t t2 x y = appendO P st' id0 t t2 x y := by
  unfold appendO
  have e1 : ∀ k, elemsD st k y = elemsD st' k y := fun k => elemsD_same h
  have e2 : ∀ cs, lay st id0 cs = lay st' id0 cs := fun cs => lay_same h0
  cases x with
  | ms id ver off len e x => simp only [e1, e2, getO_same (h1 id (by simp [refsOf]))]
  | c v =>
    cases v with
    | sl nl x cs len => cases x <;> simp only [e1, e2]
    | _ => simp only [e1, e2]
  | _ => simp only [e1, e2]
theorem copyD_same {st st' : List Ob} {t : TypeId} {x y : DV} (h1 : ∀ i ∈ refsOf x, st[i]? = st'[i]?) (h : ∀ i ∈ refsOf y, st[i]? = st'[i]?) : copyD P st t x y = copyD P st' t x y := by
  unfold copyD
  have e1 : ∀ k, elemsD st k y = elemsD st' k y := fun k => elemsD_same h
  cases P.underlying t with
  | none => rfl
  | some td =>
    cases x with
    | ms id ver off len e x => cases td <;> first | rfl | simp only [e1, getO_same (h1 id (by simp [refsOf]))]
    | _ => cases td <;> rfl

theorem clearD_same {st st' : List Ob} {t : TypeId} {x : DV} (h1 : ∀ i ∈ refsOf x, st[i]? = st'[i]?) : clearD P st t x = clearD P st' t x := by
  unfold clearD
  cases P.underlying t with
  | none => rfl
  | some td =>
    cases x with
    | ms id ver off len e x => cases td <;> first | rfl | simp only [getO_same (h1 id (by simp [refsOf]))]
    | _ => cases td <;> rfl
theorem freezeD_same {st st' : List Ob} {x : DV} (h : ∀ i ∈ refsOf x, st[i]? = st'[i]?) : freezeD st x = freezeD st' x := by
  cases x with
  | ms id ver off len e x => simp only [freezeD, getO_same (h id (by simp [refsOf]))]
  | _ => rfl

theorem getK_same {st st' : List Ob} {id ver : Nat} (h : st[id]? = st'[id]?) : getK st id ver = getK st' id ver := by simp [getK, h]
theorem layK_same {st st' : List Ob} {id : Nat} {k : MK} (h : st[id]? = st'[id]?) : layK st id k = layK st' id k := by simp [layK, h]
theorem lookD_same {st st' : List Ob} {t : TypeId} {x i : DV} {ok : Bool} (h : ∀ i ∈ refsOf x, st[i]? = st'[i]?) : lookD P st t x i ok = lookD P st' t x i ok := by
  unfold lookD
  cases mapT P t i with
  | none => rfl
  | some q =>
    cases x with
    | mp id ver => simp only [getK_same (h id (by simp [refsOf]))]
    | c v => cases v <;> first | rfl | (rename_i u; cases u <;> first | rfl | (rename_i w; cases w <;> rfl))
    | _ => rfl
theorem putK_same {st st' : List Ob} {t : TypeId} {x i y : DV} (h : ∀ i ∈ refsOf x, st[i]? = st'[i]?) : putK P st t x i y = putK P st' t x i y := by
  unfold putK
  cases mapT P t i with
  | none => rfl
  | some q =>
    cases x with
    | mp id ver => simp only [getK_same (h id (by simp [refsOf]))]
    | _ => rfl
theorem iterD_same {st st' : List Ob} {id0 : Nat} {t : TypeId} {x : DV} (h0 : st[id0]? = st'[id0]?) (h : ∀ i ∈ refsOf x, st[i]? = st'[i]?) : iterD P st id0 t x = iterD P st' id0 t x := by
  unfold iterD
  have : ∀ k, layK st id0 k = layK st' id0 k := fun k => layK_same h0
  cases x with
  | mp id ver => simp only [getK_same (h id (by simp [refsOf])), this]
  | _ => rfl
theorem nextD_same {st st' : List Ob} {x : DV} (h : ∀ i ∈ refsOf x, st[i]? = st'[i]?) : nextD st x = nextD st' x := by
  cases x with
  | mi id ver mid mver => simp only [nextD, getK_same (h id (by simp [refsOf])), getK_same (h mid (by simp [refsOf]))]
  | _ => rfl

theorem entryD_same {st st' : List Ob} {x : DV} (h : ∀ i ∈ refsOf x, st[i]? = st'[i]?) : entryD st x = entryD st' x := by
  cases x with
  | mi id ver mid mver => simp only [entryD, getK_same (h id (by simp [refsOf])), getK_same (h mid (by simp [refsOf]))]
  | _ => rfl

theorem opS_local {c : Site} {op : Op} {fr : Nat → DV} {st st' : List Ob} (h : ∀ p ∈ accS c op fr, st[p.1]? = st'[p.1]?) : opS P c op fr st = opS P c op fr st' := by
  cases op with
  | move x =>
    by_cases hm : c.mv = true
    · simp only [opS, hm, if_true]
    · by_cases hz : c.fz = true
      · simp only [accS, hz, if_true] at h
        have hr : ∀ i ∈ refsOf (ev fr x), st[i]? = st'[i]? := fun i hi => h (i, true) (List.mem_map.2 ⟨i, hi, rfl⟩)
        simp only [opS, freezeD_same hr]
      · simp [opS, hz]
  | assign x =>
    by_cases hm : c.mv = true
    · simp only [opS, hm, if_true]
    · by_cases hz : c.fz = true
      · simp only [accS, hz, if_true] at h
        have hr : ∀ i ∈ refsOf (ev fr x), st[i]? = st'[i]? := fun i hi => h (i, true) (List.mem_map.2 ⟨i, hi, rfl⟩)
        simp only [opS, freezeD_same hr]
      · simp [opS, hz]
  | alloc t => have := fun cs => lay_same (cs := cs) (h (c.id, true) (by simp [accS])); simp only [opS, this]
  | box t x => have := fun cs => lay_same (cs := cs) (h (c.id, true) (by simp [accS])); simp only [opS, this]
  | makeSlice t x y => have := fun cs => lay_same (cs := cs) (h (c.id, true) (by simp [accS])); simp only [opS, this]
  | buildSlice t n ps =>
    simp only [accS] at h
    by_cases ho : c.own = true
    · rw [if_pos ho] at h
      have := fun cs => lay_same (cs := cs) (h (c.id, true) (by simp)); simp only [opS, this]
    · have ho' : c.own = false := by simpa using ho
      simp [opS, ho']
  | load t x =>
    have hr : ∀ i ∈ refsOf (ev fr x), st[i]? = st'[i]? := fun i hi => h (i, c.mv) (by simp [accS]; exact hi)
    simp only [opS, loadD_same (P := P) (t := t) hr]
    by_cases hm : c.mv = true
    · simp only [hm, if_true]
      split
      · rename_i id ver off h1 h2
        rw [getO_same (hr id (by rw [h1]; simp [refsOf]))]
      · rfl
    · simp [hm]
  | store t x y =>
    have hr : ∀ i ∈ refsOf (ev fr x), st[i]? = st'[i]? := fun i hi => h (i, true) (by simp [accS]; exact hi)
    simp only [opS, storeD_same (P := P) (t := t) hr]
  | slice t x lo hi mx =>
    have hr : ∀ i ∈ refsOf (ev fr x), st[i]? = st'[i]? := fun i hi => h (i, false) (by simp [accS]; exact hi)
    simp only [opS, sliceD_same (P := P) (t := t) hr]
  | call k =>
    cases hk : k.callee with
    | builtin b =>
      cases hl : k.args.toList with
      | nil => cases b <;> simp [opS, hk, hl]
      | cons x xs =>
        cases xs with
        | nil =>
          cases b with
          | clear =>
            simp only [accS, hk, hl] at h
            have hx : ∀ i ∈ refsOf (ev fr x), st[i]? = st'[i]? := fun i hi => h (i, true) (List.mem_map.2 ⟨i, hi, rfl⟩)
            simp only [opS, hk, hl, clearD_same hx]
          | _ => simp [opS, hk, hl, lenD]
        | cons y ys =>
          cases ys with
          | cons z zs => cases b <;> simp [opS, hk, hl]
          | nil =>
            cases b with
            | append =>
              simp only [accS, hk, hl] at h
              have hy : ∀ i ∈ refsOf (ev fr y), st[i]? = st'[i]? := fun i hi => h (i, false) (List.mem_append_right _ (List.mem_map.2 ⟨i, hi, rfl⟩))
              simp only [opS, hk, hl, appendV_same hy]
              by_cases ho : c.own = true
              · rw [if_pos ho] at h
                have hx : ∀ i ∈ refsOf (ev fr x), st[i]? = st'[i]? := fun i hi => h (i, true) (List.mem_append_left _ (List.mem_cons_of_mem _ (List.mem_map.2 ⟨i, hi, rfl⟩)))
                have h0 : st[c.id]? = st'[c.id]? := h (c.id, true) (List.mem_append_left _ (List.mem_cons_self ..))
                simp only [ho, if_true, appendO_same h0 hx hy]
              · simp only [ho]; rfl
            | copy =>
              simp only [accS, hk, hl] at h
              have hx : ∀ i ∈ refsOf (ev fr x), st[i]? = st'[i]? := fun i hi => h (i, true) (List.mem_append_left _ (List.mem_map.2 ⟨i, hi, rfl⟩))
              have hy : ∀ i ∈ refsOf (ev fr y), st[i]? = st'[i]? := fun i hi => h (i, false) (List.mem_append_right _ (List.mem_map.2 ⟨i, hi, rfl⟩))
              simp only [opS, hk, hl, copyD_same hx hy]
            | _ => simp [opS, hk, hl]
    | _ => simp [opS, hk]
  | makeFunc fn xs ys => cases fn <;> simp [opS]
  | makeMap t r =>
    cases r with
    | none => have := fun k => layK_same (k := k) (h (c.id, true) (by simp [accS])); simp only [opS, this]
    | some v => simp [opS]
  | lookup t x i ok =>
    have hr : ∀ i ∈ refsOf (ev fr x), st[i]? = st'[i]? := fun i hi => h (i, false) (by simp [accS]; exact hi)
    simp only [opS, lookD_same (P := P) hr]
  | mapUpdate t x i y =>
    have hr : ∀ i ∈ refsOf (ev fr x), st[i]? = st'[i]? := fun i hi => h (i, true) (by simp [accS]; exact hi)
    simp only [opS, putK_same (P := P) hr]
  | insert t x i y =>
    have hr : ∀ i ∈ refsOf (ev fr x), st[i]? = st'[i]? := fun i hi => h (i, true) (by simp [accS]; exact hi)
    simp only [opS, putK_same (P := P) hr]
  | range t x =>
    have hr : ∀ i ∈ refsOf (ev fr x), st[i]? = st'[i]? := fun i hi => h (i, false) (by simp [accS]; exact hi)
    have h0 : st[c.id]? = st'[c.id]? := h (c.id, true) (by simp [accS])
    simp only [opS, iterD_same (P := P) h0 hr]
  | next x b =>
    have hr : ∀ i ∈ refsOf (ev fr x), st[i]? = st'[i]? := fun i hi => h (i, false) (by simp [accS]; exact hi)
    cases b with
    | false => simp only [opS, nextD_same hr]
    | true => simp [opS]
  | entry x =>
    have hr : ∀ i ∈ refsOf (ev fr x), st[i]? = st'[i]? := fun i hi => h (i, false) (by simp [accS]; exact hi)
    simp only [opS, entryD_same hr]
  | _ => simp [opS]
end
end Go.Abs
