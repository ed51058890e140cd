/-
  Part of the proof: printed by the session's own program out of the program's form, or typed; it states no claim by itself.
-/
import Derived.Test.YtkfmoodaplelnaaAbs32
import Derived.Shelf.Small.Strs
import Derived.Lib.Join
import Derived.Lib.ItoaNum
import Derived.Lib.AtoiAll
import Derived.Below
/-
  Abs33: strings.IndexByte: what it says.
-/
set_option linter.unusedVariables false
set_option linter.unusedSimpArgs false
set_option linter.unusedSectionVars false
namespace Go.Abs
open Go
variable [Fl]

/-- strings.IndexByte. -/
def indexByteP (st : List Ob) : List DV → Option Out
  | [.c (.sc (.string s)), .c (.sc (.int .u8 c))] => some { d := dInt (Lib.indexByte s.data.toList c.toNat.toUInt8) }
  | _ => none
theorem indexByteP_eq (st : List Ob) (s : ByteArray) (c : Int) : indexByteP st [.c (.sc (.string s)), .c (.sc (.int .u8 c))] = some { d := dInt (Lib.indexByte s.data.toList c.toNat.toUInt8) } := rfl
theorem indexByteP_ways {st : List Ob} {args : List DV} {r : Out} (h : indexByteP st args = some r) : ∃ s c, args = [.c (.sc (.string s)), .c (.sc (.int .u8 c))] ∧ r = { d := dInt (Lib.indexByte s.data.toList c.toNat.toUInt8) } := by
  unfold indexByteP at h
  split at h
  · cases h; exact ⟨_, _, rfl, rfl⟩
  · cases h
theorem indexByte_ok [Gl] {P : Program} {f : FuncId} (hc : ∀ s c w, Calls P f #[.string s, .int .u8 c] w fun e w' => e = .returned (.int .i64 (Lib.indexByte s.data.toList c.toNat.toUInt8)) ∧ w' = w) : PrimOk P f indexByteP := by
  refine ⟨fun st args r h => ?_, fun st args r h id o ho => ?_, fun st st' args hs => rfl, fun m args r h Γ n0 PR e reg vs n st hres hns hr => ?_⟩
  · obtain ⟨s, c, rfl, rfl⟩ := indexByteP_ways h; rfl
  · obtain ⟨s, c, rfl, rfl⟩ := indexByteP_ways h; cases ho
  · obtain ⟨s, c, rfl, rfl⟩ := indexByteP_ways h
    cases hr with
    | cons hd hrs =>
      cases hrs with
      | cons hd2 hrs2 =>
        cases hrs2
        cases hd with
        | c h1 =>
          cases hd2 with
          | c h2 =>
            cases h1 with
            | sc h1 =>
              cases h2 with
              | sc h2 =>
                refine callsIn_wide.2 ((hc s c e.w).mono fun en w' ⟨he, hw⟩ => ?_)
                subst he; subst hw
                exact ⟨e, reg, rfl, st, hns, To.refl _ _ _ _, .c (.sc rfl)⟩
end Go.Abs

/-
  Abs34: functions of the library as one step each: strconv.Itoa, strconv.Atoi, strings.Join, strings.Index for one byte: what they say.
-/
set_option linter.unusedVariables false
set_option linter.unusedSimpArgs false
set_option linter.unusedSectionVars false
namespace Go.Abs
open Go Go.RowKit

theorem below_cell {B : Nat} {w w' : World} (h : Below B w w') {a : Addr} (ha : a.block < B) : w'.cell? a = w.cell? a := by
  unfold World.cell?; rw [h.block _ ha]
theorem below_frozen {B : Nat} {w w' : World} (h : Below B w w') {a : Addr} (ha : a.block < B) : w'.frozen? a = w.frozen? a := by
  unfold World.frozen?; rw [h.block _ ha]
section
variable [Gl] {P : Program} {n0 : Nat} {PR : Addr → Prop} {e : E} {reg : Own → Addr → Prop} {Γ : List (Nat × Ctx)} {m : M}

/-- New blocks: what stood stands. -/
theorem MI.below [Fl] {w' : World} (m : MI n0 PR e reg) (hb : Below e.w.heap.size e.w w') (hdr : Fl.dr → e.w.drawn ≤ w'.drawn) : MI n0 PR { e with w := w' } reg ∧ Ext e { e with w := w' } ∧ ∀ X, Keep n0 PR X e.w w' := by
  have hc : ∀ a, a.block < e.w.heap.size → w'.cell? a = e.w.cell? a := fun a h => below_cell hb h
  have hf : ∀ a, a.block < e.w.heap.size → w'.frozen? a = e.w.frozen? a := fun a h => below_frozen hb h
  have hx : Ext e { e with w := w' } := ⟨fun _ h => h, fun a ha => hc a (m.imlt a ha), Nat.le_refl _, fun j a b ha hb => by simp only at hb; rw [ha] at hb; cases hb; exact ⟨Nat.le_refl _, fun _ => rfl⟩, fun _ _ h => h⟩
  refine ⟨⟨fun a ha => Nat.lt_of_lt_of_le (m.imlt a ha) hb.size, m.impr, fun a ha => Nat.lt_of_lt_of_le (m.prlt a ha) hb.size, Nat.le_trans m.n0le hb.size, fun p a hp => ?_, m.disj, m.ext, m.own, fun j x hj i d hd => ?_⟩, hx, fun X => ⟨hb.os, hb.tape, hb.output, hb.size, fun r hr => hb.block r (Nat.lt_of_lt_of_le hr m.n0le), fun a ha => ⟨hc a (m.prlt a ha), hf a (m.prlt a ha)⟩,
    fun r o ho _ _ => by rw [hb.block r (Array.getElem?_eq_some_iff.1 ho).1]; exact ho, hdr⟩⟩
  · obtain ⟨h1, ⟨v, h2⟩, h3, h4, h5⟩ := m.ok p a hp
    have hlt := World.block_lt_of_cell? _ _ h2
    exact ⟨h1, ⟨v, (hc a hlt).trans h2⟩, (hf a hlt).trans h3, h4, h5⟩
  · obtain ⟨h1, v, h2, h3⟩ := m.cell j x hj i d hd
    exact ⟨h1, v, (hc _ (World.block_lt_of_cell? _ _ h2)).trans h2, h3.mono hx fun _ h => h⟩

/-- A function of the library that lays at most new blocks. -/
theorem prim_below {f : FuncId} {p : List Ob → List DV → Option Out} (hs : ∀ st args r, p st args = some r → ∃ d, r = { d })
    (hsame : ∀ st st' args, p st args = p st' args)
    (hc : ∀ st args d e vs, p st args = some { d } → GlAt e → RDs e args vs → Calls P f ⟨vs⟩ e.w fun en w' => ∃ v, en = .returned v ∧ Below e.w.heap.size e.w w' ∧ ∀ e' : E, e'.w = w' → RD e' (fun _ => False) d v) : PrimOk P f p := by
  refine ⟨fun st args r h => ?_, fun st args r h id o ho => ?_, fun st st' args _ => hsame st st' args, fun m args r h Γ n0 PR e reg vs n st hres hns hr => ?_⟩
  · obtain ⟨d, rfl⟩ := hs _ _ _ h; rfl
  · obtain ⟨d, rfl⟩ := hs _ _ _ h; cases ho
  · obtain ⟨d, rfl⟩ := hs _ _ _ h
    refine callsIn_wide.2 ((hc _ _ _ e vs h st.gi.gl hr).mono fun en w' ⟨v, he, hb, hd⟩ => ?_)
    subst he
    obtain ⟨mi, xx, kk⟩ := st.mi.below hb (by intro h; exact False.elim h)
    refine ⟨{ e with w := w' }, reg, rfl, ⟨st.st, st.la, fun r hr => ⟨(st.lt r hr).1, Nat.lt_of_lt_of_le (st.lt r hr).2 hb.size⟩, mi, st.gi.keep xx (kk _) (SameK.of_eq rfl)⟩, hns, To.of_keep xx (kk _) (SameK.of_eq rfl), (hd _ rfl).weak fun _ h => h.elim⟩
end

/-! ### strconv.Itoa -/
def decF : Nat → Nat → List UInt8
  | 0, _ => []
  | k + 1, u => if u < 10 then [UInt8.ofNat (48 + u)] else decF k (u / 10) ++ [UInt8.ofNat (48 + u % 10)]
theorem decF_eq : ∀ (k u : Nat), u < 10 ^ k → 0 < k → decF k u = Lib.decDigits u
  | 0, _, _, h => absurd h (by omega)
  | k + 1, u, h, _ => by
    rw [Lib.decDigits]
    unfold decF
    by_cases hu : u < 10
    · rw [if_pos hu, dif_pos hu]
    · rw [if_neg hu, dif_neg hu]
      rw [Nat.pow_succ] at h
      have : 0 < k := by
        rcases Nat.eq_zero_or_pos k with rfl | hk
        · simp at h; omega
        · exact hk
      rw [decF_eq k (u / 10) (by omega) this]
def itoaL (n : Int) : List UInt8 := if n < 0 then 45 :: decF 20 n.natAbs else decF 20 n.toNat
def itoaB (n : Int) : ByteArray := ⟨(itoaL n).toArray⟩
theorem itoaL_eq {n : Int} (h : InR n) : itoaL n = Lib.itoa n := by
  unfold itoaL Lib.itoa
  have : -9223372036854775808 ≤ n ∧ n ≤ 9223372036854775807 := h
  rw [decF_eq _ _ (by omega) (by omega), decF_eq _ _ (by omega) (by omega)]
def itoaP (st : List Ob) : List DV → Option Out
  | [.c (.sc (.int .i64 n))] => if -9223372036854775808 ≤ n ∧ n ≤ 9223372036854775807 then some { d := .c (.sc (.string (itoaB n))) } else none
  | _ => none
theorem itoaP_eq (st : List Ob) {n : Int} (h : InR n) : itoaP st [dInt n] = some { d := .c (.sc (.string (itoaB n))) } := by
  have : -9223372036854775808 ≤ n ∧ n ≤ 9223372036854775807 := h
  simp only [itoaP, dInt, cInt, if_pos this]
theorem itoa_ok [Gl] {P : Program} {f : FuncId} (hc : ∀ n w, -9223372036854775808 ≤ n → n ≤ 9223372036854775807 → Gl.ok w → Calls P f #[.int .i64 n] w fun e w' => e = .returned (.string ⟨(Lib.itoa n).toArray⟩) ∧ Below w.heap.size w w') : PrimOk P f itoaP := by
  refine prim_below (fun st args r h => ?_) (fun st st' args => ?_) (fun st args d e vs h hg hr => ?_)
  · unfold itoaP at h
    split at h
    · split at h
      · cases h; exact ⟨_, rfl⟩
      · cases h
    · cases h
  · unfold itoaP; rfl
  · unfold itoaP at h
    split at h
    · split at h
      · rename_i n hn
        cases h
        cases hr with
        | cons hd hrs =>
          cases hrs
          cases hd with
          | c h1 => cases h1 with
            | sc h1 =>
              refine (hc n e.w hn.1 hn.2 hg.ok).mono fun en w' ⟨he, hb⟩ => ⟨_, he, hb, fun e' _ => ?_⟩
              rw [← itoaL_eq (show InR n from hn)]
              exact .c (.sc rfl)
      · cases h
    · cases h

/-! ### strconv.Atoi -/
/-- The number; is there an error? -/
def atoiR (s : ByteArray) : Int × Bool := match Lib.atoiAll s.data.toList with
  | .ok v => (v, false)
  | .range => (Lib.atoiSat s.data.toList, true)
  | _ => (0, true)
def atoiP (st : List Ob) : List DV → Option Out
  | [.c (.sc (.string s))] => if s.size ≤ 281474976710656 then some { d := .tup [dInt (atoiR s).1, .er (atoiR s).2] } else none
  | _ => none
theorem atoiP_eq (st : List Ob) {s : ByteArray} (h : s.size ≤ 281474976710656) : atoiP st [.c (.sc (.string s))] = some { d := .tup [dInt (atoiR s).1, .er (atoiR s).2] } := by
  simp only [atoiP, if_pos h]
theorem atoi_ok [Gl] {P : Program} {f : FuncId} (hc : ∀ s w, s.size ≤ 281474976710656 → Gl.ok w → Calls P f #[.string s] w fun e w' => ∃ v, e = .returned (.tuple #[.int .i64 (atoiR s).1, v]) ∧ erV (atoiR s).2 v ∧ Below w.heap.size w w') : PrimOk P f atoiP := by
  refine prim_below (fun st args r h => ?_) (fun st st' args => ?_) (fun st args d e vs h hg hr => ?_)
  · unfold atoiP at h
    split at h
    · split at h
      · cases h; exact ⟨_, rfl⟩
      · cases h
    · cases h
  · unfold atoiP; rfl
  · unfold atoiP at h
    split at h
    · split at h
      · rename_i s hs
        cases h
        cases hr with
        | cons hd hrs =>
          cases hrs
          cases hd with
          | c h1 => cases h1 with
            | sc h1 => exact (hc s e.w hs hg.ok).mono fun en w' ⟨v, he, hv, hb⟩ => ⟨_, he, hb, fun e' _ => .tup (.cons (.c (.sc rfl)) (.cons (.er hv) .nil))⟩
      · cases h
    · cases h

/-! ### strings.Index, for one byte -/
def indexOneP (st : List Ob) : List DV → Option Out
  | [.c (.sc (.string s)), .c (.sc (.string ⟨⟨[c]⟩⟩))] => some { d := dInt (Lib.indexByte s.data.toList c) }
  | _ => none
theorem indexOneP_eq (st : List Ob) (s : ByteArray) (c : UInt8) : indexOneP st [.c (.sc (.string s)), .c (.sc (.string ⟨#[c]⟩))] = some { d := dInt (Lib.indexByte s.data.toList c) } := rfl
theorem indexOne_ok [Gl] {P : Program} {f : FuncId} (hc : ∀ s c w, Calls P f #[.string s, .string ⟨#[c]⟩] w fun e w' => e = .returned (.int .i64 (Lib.indexByte s.data.toList c)) ∧ w' = w) : PrimOk P f indexOneP := by
  refine prim_below (fun st args r h => ?_) (fun st st' args => ?_) (fun st args d e vs h hg hr => ?_)
  · unfold indexOneP at h
    split at h
    · cases h; exact ⟨_, rfl⟩
    · cases h
  · unfold indexOneP; rfl
  · unfold indexOneP at h
    split at h
    · rename_i s c
      cases h
      cases hr with
      | cons hd hrs =>
        cases hrs with
        | cons hd2 hrs2 =>
          cases hrs2
          cases hd with
          | c h1 =>
            cases hd2 with
            | c h2 =>
              cases h1 with
              | sc h1 =>
                cases h2 with
                | sc h2 => exact (hc s c e.w).mono fun en w' ⟨he, hw⟩ => ⟨_, he, hw ▸ Below.refl _ _, fun e' _ => .c (.sc rfl)⟩
    · cases h

/-! ### strings.Join -/
def strsOf : List CV → Option (List ByteArray)
  | [] => some []
  | .sc (.string s) :: cs => (strsOf cs).map (s :: ·)
  | _ :: _ => none
def joinB (xs : List ByteArray) (sep : ByteArray) : ByteArray := ⟨(Lib.join (xs.map (·.data.toList)) sep.data.toList).toArray⟩
def joinP (st : List Ob) : List DV → Option Out
  | [.c (.sl nl x cs len), .c (.sc (.string sep))] => match strsOf cs with
    | some xs => if xs.length = len ∧ len ≤ 140737488355328 ∧ (Lib.join (xs.map (·.data.toList)) sep.data.toList).length ≤ 140737488355328 then some { d := .c (.sc (.string (joinB xs sep))) } else none
    | none => none
  | _ => none
theorem strsOf_cells : ∀ xs : List ByteArray, strsOf (cells xs) = some xs
  | [] => rfl
  | x :: xs => by
    have := strsOf_cells xs
    show (strsOf (cells xs)).map (x :: ·) = _
    rw [this]; rfl
theorem joinP_eq (st : List Ob) {nl x : Bool} {xs : List ByteArray} {sep : ByteArray} (h : xs.length ≤ 140737488355328) (h2 : (joinB xs sep).size ≤ 140737488355328) : joinP st [.c (.sl nl x (cells xs) xs.length), .c (.sc (.string sep))] = some { d := .c (.sc (.string (joinB xs sep))) } := by
  simp only [joinP, strsOf_cells]
  rw [if_pos ⟨trivial, h, by simpa [joinB, ByteArray.size] using h2⟩]
theorem strsOf_get {im : Addr → Prop} {w : World} : ∀ {cs : List CV} {xs : List ByteArray} {vs : List Value}, strsOf cs = some xs → RCs im w cs vs → vs = xs.map Value.string
  | [], xs, vs, h, hr => by cases h; cases hr; rfl
  | c :: cs, xs, vs, h, hr => by
    unfold strsOf at h
    split at h
    · rename_i h0; cases h0
    · rename_i s cs' h0
      cases h0
      rw [Option.map_eq_some_iff] at h
      obtain ⟨ys, h1, rfl⟩ := h
      cases hr with
      | cons hk h2 hs => cases h2; rw [strsOf_get h1 hs]; rfl
    · cases h
theorem join_ok [Gl] {P : Program} {f : FuncId} (hnone : ∀ (a : Option Addr) c sep w, Calls P f #[.slice a 0 c, .string sep] w fun e w' => e = .returned (.string ⟨#[]⟩) ∧ w' = w)
    (hc : ∀ (bk o c : Nat) (xs : List ByteArray) (sep : ByteArray) (w : World), (∀ (j : Nat) x, xs[j]? = some x → w.cell? ⟨bk, o + j, none⟩ = some (.string x)) → bk < w.heap.size → xs.length ≤ 140737488355328 → xs.length ≤ c →
      (Lib.join (xs.map (·.data.toList)) sep.data.toList).length ≤ 140737488355328 → Calls P f #[.slice (some ⟨bk, o, none⟩) xs.length c, .string sep] w fun e w' => e = .returned (.string ⟨(Lib.join (xs.map (·.data.toList)) sep.data.toList).toArray⟩) ∧ Below w.heap.size w w') : PrimOk P f joinP := by
  refine prim_below (fun st args r h => ?_) (fun st st' args => ?_) (fun st args d e vs h hg hr => ?_)
  · unfold joinP at h
    split at h
    · split at h
      · split at h
        · cases h; exact ⟨_, rfl⟩
        · cases h
      · cases h
    · cases h
  · unfold joinP; rfl
  · unfold joinP at h
    split at h
    · rename_i sep
      split at h
      · rename_i xs hxs
        split at h
        · rename_i hl
          cases h
          cases hr with
          | cons hd hrs =>
            cases hrs with
            | cons hd2 hrs2 =>
              cases hrs2
              cases hd with
              | c h1 =>
                cases hd2 with
                | c h2 =>
                  cases h2 with
                  | sc h2 =>
                    obtain ⟨rfl, hl2, hl3⟩ := hl
                    have hemp : xs = [] → joinB xs sep = ⟨#[]⟩ := fun h => by subst h; rfl
                    generalize hsl : xs.length = len at h1
                    cases h1 with
                    | nil =>
                      have := List.length_eq_zero_iff.1 hsl
                      refine (hnone none 0 sep e.w).mono fun en w' ⟨he, hw⟩ => ⟨_, he, hw ▸ Below.refl _ _, fun e' _ => ?_⟩
                      rw [hemp this]
                      exact .c (.sc rfl)
                    | sl hcs hcc hle hxx =>
                      rename_i vs' a cap
                      have hv := strsOf_get hxs hcs
                      subst hv
                      cases xs with
                      | nil =>
                        simp only [List.length_nil] at hsl
                        subst hsl
                        refine (hnone (some a) cap sep e.w).mono fun en w' ⟨he, hw⟩ => ⟨_, he, hw ▸ Below.refl _ _, fun e' _ => ?_⟩
                        rw [hemp rfl]
                        exact .c (.sc rfl)
                      | cons x xs =>
                        have h0 := (hcc 0 (.string x) (by simp)).1
                        rw [add_zero'] at h0
                        have hlt := World.block_lt_of_cell? _ _ h0
                        obtain ⟨bk, off, sp⟩ := a
                        have hsp : sp = none := by
                          cases sp with
                          | none => rfl
                          | some s => unfold World.cell? at h0; split at h0 <;> simp at h0
                        subst hsp
                        subst hsl
                        refine (hc bk off cap (x :: xs) sep e.w (fun j y hy => ?_) hlt hl2 hle hl3).mono fun en w' ⟨he, hb⟩ => ⟨_, he, hb, fun e' _ => .c (.sc rfl)⟩
                        have := (hcc j (.string y) (by rw [List.getElem?_map, hy]; rfl)).1
                        rwa [mk_add] at this
        · cases h
      · cases h
    · cases h

/-! ### an interface value against nil, told -/
theorem er_neq {P : Program} {t : TypeId} {x : Bool} {d : DV} (b : Bool) (hu : isIface P t = true) (h : x = b) : val (binO P .neq t (.const .nilIface) (.er x) d) = some { d := dB b } := by
  subst h
  unfold isIface at hu
  simp only [binO, erD]
  split at hu
  · rename_i hh; rw [hh]; rfl
  · cases hu
theorem er_eql {P : Program} {t : TypeId} {x : Bool} {d : DV} (b : Bool) (hu : isIface P t = true) (h : x = !b) : val (binO P .eql t (.const .nilIface) (.er x) d) = some { d := dB b } := by
  subst h
  unfold isIface at hu
  simp only [binO, erD]
  split at hu
  · rename_i hh; rw [hh]; simp [val, dB]
  · cases hu

/-! ### a range over a function, behind which the store is cut back -/
theorem Sys.rangeT {X : Sys} {f nt : Nat} {fr : Nat → DV} {g : Operand} {ps : Array Tmp} {asg body : Code} {h : FuncId} {ys : List DV} {d : DV} {st st' st2 : List Ob} {pd' : List Ex} {e : Ex} {cl : List Nat} (hg : Abs.ev fr g = .fn h [] ys) (he : enters X.P h = true)
    (hr : X.Runs [(0, rctx f nt fr ps asg body)] h (.yl 0 :: ys) ⟨st, [.normal]⟩ d ⟨st', pd'⟩) (hp : pd'[0]? = some e) (hc : X.an.cut f (firstR body) = some cl) (ht : trimM st.length (.tup []) ⟨st', pd'⟩ = some ⟨st2, pd'⟩) :
    X.Go f nt [] (.rangeFunc g ps asg body) ⟨fr, ⟨st, []⟩⟩ e ⟨fr, ⟨st2, pd'⟩⟩ := by
  refine Ev.mono hr fun k hk => ?_
  have hk' : (X.ev k).call (((⟨st, []⟩ : M).pd.length, { f, nt, fr := fun t => unflag (fr t), params := ps, assign := asg, body }) :: []) h ([] ++ [.yl (⟨st, []⟩ : M).pd.length] ++ ys) { (⟨st, []⟩ : M) with pd := (⟨st, []⟩ : M).pd ++ [.normal] } = some (d, ⟨st', pd'⟩) := hk
  simp only [codeD, hg]
  rw [if_neg (by simp [he])]
  simp only [hk']
  have hp' : (⟨st', pd'⟩ : M).pd[(⟨st, []⟩ : M).pd.length]? = some e := hp
  simp only [hp', hc, ht, Option.map_some]

/-! ### an object's list that is read only from now on -/
theorem closeL_mapc : ∀ l : List CV, closeL (l.map DV.c) = some l
  | [] => rfl
  | c :: l => by simp only [List.map_cons, closeL, closed?, closeL_mapc l]
theorem freeze_ok {α : Type} [Enc α] [EncX α] {st : List Ob} {id ver n : Nat} {x : Bool} {l : List α} (h : st[id]? = some ⟨ver, dcells l⟩) (hn : n = l.length) : freezeD st (.ms id ver 0 n (Enc.sz α) x) = some { d := .c (.sl false x (cells l) l.length), set := some (id, ⟨ver + 1, []⟩) } := by
  subst hn
  have hg : getO st id ver = some ⟨ver, dcells l⟩ := by simp [getO, h]
  simp only [freezeD, hg, span_all (dcells l) (by rw [dcells_length]), Option.bind_some]
  unfold dcells
  rw [closeL_mapc]
end Go.Abs
