/-
  Abs29: runs without fuel, and runs with answers: where the outcome of an operation, a call, a loop hangs on what is not known, it is told, and what is told is a condition; the kernel runs the rest.
-/
import Derived.Test.YtkfmoodaplelnaaAbs27
set_option linter.unusedVariables false
set_option linter.unusedSectionVars false
namespace Go.Abs
open Go
variable [Fl]

structure Sys where
  P : Program
  an : An
  pr : Prims
def Sys.ev (X : Sys) (k : Nat) : Rec := evN X.P X.an X.pr k
theorem Sys.ev_prim (X : Sys) (k : Nat) : (X.ev k).prim = X.pr := by cases k <;> rfl

/-- From some number on. -/
def Ev (p : Nat → Prop) : Prop := ∃ k0, ∀ k, k0 ≤ k → p k
theorem Ev.of {p : Nat → Prop} (h : ∀ k, p k) : Ev p := ⟨0, fun k _ => h k⟩
theorem Ev.and {p q : Nat → Prop} (h : Ev p) (h' : Ev q) : Ev fun k => p k ∧ q k := by
  obtain ⟨a, h⟩ := h
  obtain ⟨b, h'⟩ := h'
  exact ⟨max a b, fun k hk => ⟨h k (by omega), h' k (by omega)⟩⟩
theorem Ev.mono {p q : Nat → Prop} (h : Ev p) (hpq : ∀ k, p k → q k) : Ev q := by
  obtain ⟨a, h⟩ := h
  exact ⟨a, fun k hk => hpq k (h k hk)⟩
theorem Ev.succ {p : Nat → Prop} (h : Ev fun k => p (k + 1)) : Ev p := by
  obtain ⟨a, h⟩ := h
  refine ⟨a + 1, fun k hk => ?_⟩
  cases k with
  | zero => omega
  | succ k => exact h k (by omega)

def Sys.Runs (X : Sys) (Γ : List (Nat × Ctx)) (f : FuncId) (args : List DV) (m : M) (d : DV) (m' : M) : Prop := Ev fun k => (X.ev k).call Γ f args m = some (d, m')
def Sys.Round (X : Sys) (Γ : List (Nat × Ctx)) (j : Nat) (args : List DV) (m : M) (d : DV) (m' : M) : Prop := Ev fun k => (X.ev k).round Γ j args m = some (d, m')
def Sys.Go (X : Sys) (f nt : Nat) (Γ : List (Nat × Ctx)) (c : Code) (s : S) (ex : Ex) (s' : S) : Prop := Ev fun k => codeD X.P (X.ev k) X.an f nt Γ k c s = some (ex, s')
/-- A call on its own, of which only what it hands back is kept, closed. -/
def Sys.RunsC (X : Sys) (f : FuncId) (args : List DV) (d : DV) : Prop := Ev fun k => ∃ d' m', (X.ev k).call [] f args ⟨[], []⟩ = some (d', m') ∧ closeTop m'.st d' = some d

/-- A call on some objects alone: what it hands back, what becomes of these. -/
def Sys.RunsL (X : Sys) (f : FuncId) (args : List DV) (st : List Ob) (d : DV) (os : List Ob) : Prop := ∃ d' m', X.Runs [] f args ⟨st, []⟩ d' m' ∧ endL st.length d' m'.st = some (d, os)

inductive Ans where
  | op (r : Out)
  | b (v : Bool)
  | n
  | ix
  | cell (c : CV)
  | agg (cs : List CV)
  | st (cs : List DV)
  | mk (cs : List DV) (x : Bool)
  | app (cs : List CV) (n : Nat)
  | appO (cs : List DV) (n : Nat)
  | app0
  | lmv (d : DV) (cs : List DV)
  | cellU (d : DV)
  | slc (l h : Nat)
  | slC (l h : Nat) (cs : List CV) (n : Nat)
  | appF (nl : Bool) (cs : List CV) (n : Nat)
  | appN
  | callK (d : DV) (m : M) (d' : DV) (st : List Ob)
  | callL (args0 : List DV) (st0 : List Ob) (d1 : DV) (os : List Ob) (d : DV) (st : List Ob)
  | call (d : DV) (m : M)
  | code (ex : Ex) (s : S)

/-- Told of an operation (region, number), or of a loop, a range over a function (by the first region of its body; number 1000). -/
abbrev Told := List ((Nat × Nat) × Ans)
def told : Told → Nat → Nat → Option Ans
  | [], _, _ => none
  | ((r, i), a) :: l, r', i' => if r = r' ∧ i = i' then some a else told l r' i'

def AllP : List Prop → Prop
  | [] => True
  | [p] => p
  | p :: ps => p ∧ AllP ps
theorem AllP.cons {p : Prop} {ps : List Prop} (h : AllP (p :: ps)) : p ∧ AllP ps := by
  cases ps with
  | nil => exact ⟨h, trivial⟩
  | cons q ps => exact h
theorem AllP.append : ∀ {a b : List Prop}, AllP (a ++ b) → AllP a ∧ AllP b
  | [], b, h => ⟨trivial, h⟩
  | p :: a, b, h => by
    obtain ⟨h1, h2⟩ := AllP.cons (p := p) (ps := a ++ b) h
    obtain ⟨h3, h4⟩ := AllP.append h2
    refine ⟨?_, h4⟩
    cases a with
    | nil => exact h1
    | cons q a => exact ⟨h1, h3⟩

def dB (b : Bool) : DV := .c (.sc (.bool b))
def InR (n : Int) : Prop := -9223372036854775808 ≤ n ∧ n ≤ 9223372036854775807

def cmpP : BinOp → Int → Int → Option Prop
  | .eql, a, b => some (a = b)
  | .neq, a, b => some (a ≠ b)
  | .lss, a, b => some (a < b)
  | .leq, a, b => some (a ≤ b)
  | .gtr, a, b => some (a > b)
  | .geq, a, b => some (a ≥ b)
  | _, _, _ => none
def ariP : BinOp → Int → Int → Option Int
  | .add, a, b => some (a + b)
  | .sub, a, b => some (a - b)
  | .mul, a, b => some (a * b)
  | _, _, _ => none

def tOp (P : Program) (c : Site) (op : Op) (fr : Nat → DV) (st : List Ob) : Option Ans → Option (Out × List Prop)
  | none => (opS P c op fr st).map fun r => (r, [])
  | some (.op r) => some (r, [opS P c op fr st = some r])
  | some (.b v) => match op with
    | .binOp o t x y _ => match ev fr x, ev fr y with
      | .c (.sc (.int k a)), .c (.sc (.int k' b)) => if k = k' then match cmpP o a b with
        | some p => some ({ d := dB v }, [match v with | true => p | false => ¬ p])
        | none => none else none
      | _, _ => none
    | _ => none
  | some .n => match op with
    | .binOp o t x y _ => match ev fr x, ev fr y with
      | .c (.sc (.int .i64 a)), .c (.sc (.int .i64 b)) => match ariP o a b with
        | some n => some ({ d := dInt n }, [InR n])
        | none => none
      | _, _ => none
    | _ => none
  | some .ix => match op with
    | .indexAddr t x i => match intD (ev fr i), P.underlying t, ev fr x with
      | some i, some (.slice e), .c (.sl nl _ cs len) => match sizeT P e with
        | some sz => some ({ d := .ia cs (i.toNat * sz) }, [0 ≤ i ∧ i < len])
        | none => none
      | some i, some (.slice e), .ms id ver off len esz _ => match sizeT P e with
        | some sz => if sz = esz then some ({ d := .pt id ver (off + i.toNat * esz) }, [0 ≤ i ∧ i < len]) else none
        | none => none
      | some i, some (.array n e), .pt id ver off => match sizeT P e with
        | some sz => some ({ d := .pt id ver (off + i.toNat * sz) }, [0 ≤ i ∧ i < n])
        | none => none
      | _, _, _ => none
    | _ => none
  | some (.cell d) => match op with
    | .load t x => if c.mv then none else match isAggT P t, ev fr x with
      | some false, .ia cs off => some ({ d := .c d }, [cs[off]? = some d])
      | some false, .pt id ver off => match st[id]? with
        | some o => some ({ d := .c d }, [o.ver = ver ∧ o.cs[off]? = some (.c d)])
        | none => none
      | _, _ => none
    | _ => none
  | some (.agg ds) => match op with
    | .load t x => if c.mv then none else match isAggT P t, sizeT P t, ev fr x with
      | some true, some k, .ia cs off => some ({ d := .c (.agg ds) }, [span cs off k = some ds])
      | some true, some k, .pt id ver off => match st[id]? with
        | some o => some ({ d := .c (.agg ds) }, [o.ver = ver ∧ span o.cs off k = some (ds.map .c)])
        | none => none
      | _, _, _ => none
    | _ => none
  | some (.st cs) => match op with
    | .store t x y => if !c.nz.isEmpty then none else match ev fr x, cellsOf (if c.mv then raw fr y else ev fr y), sizeT P t with
      | .pt id ver off, some vs, some k => match st[id]? with
        | some o => if vs.length = k then some ({ d := .tup [], set := some (id, ⟨ver, cs⟩), drop := if c.mv then tmpOf y else [] }, [o.ver = ver ∧ off + k ≤ o.cs.length ∧ setL o.cs off vs = cs]) else none
        | none => none
      | _, _, _ => none
    | _ => none
  | some (.mk cs xx) => if c.fz then none else match op with
    | .makeSlice t l cp => match P.underlying t with
      | some (.slice e) => match P.info? e, zeroT P e, intD (ev fr l), intD (ev fr cp) with
        | some i, some z, some l, some cp => if z.length = i.size then match lay st c.id cs with
            | some e => some ({ d := .ms c.id e.2.ver 0 l.toNat i.size xx, set := some e }, [(0 ≤ l ∧ l ≤ cp ∧ cp ≤ 9223372036854775807 ∧ i.bytes * cp ≤ 281474976710656) ∧ replD l.toNat z = cs ∧ (l == cp) = xx])
            | none => none else none
        | _, _, _, _ => none
      | _ => none
    | _ => none
  | some (.app cs' n') => match op with
    | .call k => match k.callee, k.args.toList, k.argTypes[0]?, k.argTypes[1]? with
      | .builtin .append, [x, y], some t, some t2 => if c.own then none else match P.underlying t, P.underlying t2 with
        | some (.slice e), some (.slice _) => match P.info? e with
          | some i => if !zeroFits i then none else match ev fr y, raw fr x with
            | .c (.sl _ _ ycs ylen), .ap nl cs len esz => if nl || esz == i.size then some ({ d := .ap (nl && ylen == 0) cs' n' i.size, drop := tmpOf x }, [((ycs.length = ylen * i.size ∧ cs.length = len * i.size) ∧ roomy n' i.bytes = true) ∧ cs ++ ycs = cs' ∧ len + ylen = n']) else none
            | .c (.sl _ _ ycs ylen), .c (.sl nl true cs len) => some ({ d := .ap false cs' n' i.size }, [ylen ≠ 0 ∧ ((ycs.length = ylen * i.size ∧ cs.length = len * i.size) ∧ roomy n' i.bytes = true) ∧ cs ++ ycs = cs' ∧ len + ylen = n'])
            | _, _ => none
          | none => none
        | _, _ => none
      | _, _, _, _ => none
    | _ => none
  | some (.appO cs' n') => match op with
    | .call k => match k.callee, k.args.toList, k.argTypes[0]?, k.argTypes[1]? with
      | .builtin .append, [x, y], some t, some t2 => if !c.own then none else match P.underlying t, P.underlying t2 with
        | some (.slice e), some (.slice _) => match P.info? e with
          | some i => if !zeroFits i then none else match ev fr y, ev fr x with
            | .c (.sl _ _ ycs ylen), .ms id ver off len esz _ => match st[id]? with
              | some o => if esz = i.size then some ({ d := .ms id (ver + 1) 0 n' esz false, set := some (id, ⟨ver + 1, cs'⟩) }, [o.ver = ver ∧ (ycs.length = ylen * i.size ∧ ylen ≠ 0 ∧ roomy n' i.bytes = true) ∧ (span o.cs off (len * esz)).map (fun old => old ++ ycs.map DV.c) = some cs' ∧ len + ylen = n']) else none
              | none => none
            | _, _ => none
          | none => none
        | _, _ => none
      | _, _, _, _ => none
    | _ => none
  | some .app0 => match op with
    | .call k => match k.callee, k.args.toList, k.argTypes[0]?, k.argTypes[1]? with
      | .builtin .append, [x, y], some t, some t2 => if c.own then none else match P.underlying t, P.underlying t2 with
        | some (.slice e), some (.slice _) => match P.info? e with
          | some i => if !zeroFits i then none else match ev fr y, raw fr x with
            | .c (.sl _ _ ycs ylen), .c (.sl nl true cs len) => if cs.length = len * i.size then some ({ d := .c (.sl nl true cs len) }, [ycs = [] ∧ ylen = 0 ∧ roomy len i.bytes = true]) else none
            | _, _ => none
          | none => none
        | _, _ => none
      | _, _, _, _ => none
    | _ => none
  | some (.lmv d cs) => match op with
    | .load t x => if c.mv then match ev fr x, isAggT P t with
      | .pt id ver off, some false => match st[id]? with
        | some o => some ({ d, set := some (id, ⟨ver, cs⟩) }, [o.ver = ver ∧ o.cs[off]? = some d ∧ o.cs.set off (unflag d) = cs])
        | none => none
      | _, _ => none else none
    | _ => none
  | some (.cellU d) => match op with
    | .load t x => if c.mv then none else match isAggT P t, ev fr x with
      | some false, .pt id ver off => match st[id]? with
        | some o => some ({ d := unflag d }, [o.ver = ver ∧ o.cs[off]? = some d])
        | none => none
      | _, _ => none
    | _ => none
  | some (.slc l h) => match op with
    | .slice t x lo hi none => match P.underlying t, ev fr x with
      | some (.slice e), .ms id ver off len esz xx => match sizeT P e with
        | some sz => if sz = esz then some ({ d := .ms id ver (off + l * esz) (h - l) esz (xx && h == len) }, [boundsD len (lo.map (ev fr)) (hi.map (ev fr)) none = some (l, h, none)]) else none
        | none => none
      | _, _ => none
    | _ => none
  | some (.slC l h cs' n') => match op with
    | .slice t x lo hi none => match P.underlying t, ev fr x with
      | some (.slice e), .c (.sl nl xx cs len) => match sizeT P e with
        | some sz => some ({ d := .c (.sl nl (xx && h == len) cs' n') }, [boundsD len (lo.map (ev fr)) (hi.map (ev fr)) none = some (l, h, none) ∧ span cs (l * sz) ((h - l) * sz) = some cs' ∧ h - l = n'])
        | none => none
      | _, _ => none
    | _ => none
  | some (.appF nl' cs' n') => match op with
    | .call k => match k.callee, k.args.toList, k.argTypes[0]?, k.argTypes[1]? with
      | .builtin .append, [x, y], some t, some t2 => if c.own then none else match P.underlying t, P.underlying t2 with
        | some (.slice e), some (.slice _) => match P.info? e with
          | some i => if !zeroFits i then none else match ev fr y, raw fr x with
            | .c (.sl _ _ ycs ylen), .ap nl cs len esz => if esz = i.size then some ({ d := .ap nl' cs' n' i.size, drop := tmpOf x }, [((ycs.length = ylen * i.size ∧ cs.length = len * i.size) ∧ roomy n' i.bytes = true) ∧ cs ++ ycs = cs' ∧ len + ylen = n' ∧ (nl && ylen == 0) = nl']) else none
            | _, _ => none
          | none => none
        | _, _ => none
      | _, _, _, _ => none
    | _ => none
  | some .appN => match op with
    | .call k => match k.callee, k.args.toList, k.argTypes[0]?, k.argTypes[1]? with
      | .builtin .append, [x, y], some t, some t2 => if !c.own then none else match P.underlying t, P.underlying t2 with
        | some (.slice e), some (.slice _) => match P.info? e with
          | some i => if !zeroFits i then none else match ev fr y, ev fr x with
            | .c (.sl _ _ ycs ylen), .c (.sl false true [] 0) => match lay st c.id (ycs.map .c) with
              | some e => some ({ d := .ms c.id e.2.ver 0 ylen i.size false, set := some e }, [ycs.length = ylen * i.size ∧ roomy ylen i.bytes = true])
              | none => none
            | _, _ => none
          | none => none
        | _, _ => none
      | _, _, _, _ => none
    | _ => none
  | some (.call ..) => none
  | some (.callL ..) => none
  | some (.callK ..) => none
  | some (.code ..) => none

theorem dec_bool {p : Prop} [Decidable p] {v : Bool} (h : match v with | true => p | false => ¬ p) : decide p = v := by
  cases v with
  | true => exact decide_eq_true h
  | false => exact decide_eq_false h

theorem closeL_map : ∀ ds : List CV, closeL (ds.map .c) = some ds
  | [] => rfl
  | d :: ds => by simp only [List.map_cons, closeL, closeL_map ds, closed?]

theorem getO_of {st : List Ob} {id ver : Nat} {o : Ob} (h : st[id]? = some o) (hv : o.ver = ver) : getO st id ver = some o := by
  unfold getO
  simp only [h]
  rw [if_pos hv]
theorem tOp_sound {P : Program} {c : Site} {op : Op} {fr : Nat → DV} {st : List Ob} {a : Option Ans} {r : Out} {ps : List Prop} (h : tOp P c op fr st a = some (r, ps)) (hp : AllP ps) : opS P c op fr st = some r := by
  unfold tOp at h
  split at h
  · rw [Option.map_eq_some_iff] at h
    obtain ⟨_, h1, h2⟩ := h
    cases h2; exact h1
  · cases h; exact hp
  · rename_i v
    split at h
    · rename_i o t x y pos
      split at h
      · rename_i k a k' b hx hy
        split at h
        · rename_i hk
          subst hk
          split at h
          · rename_i p hcmp
            cases h
            simp only [opS, hx, hy, binO, binD]
            have : binS o (.int k a) (.int k b) = some (.bool v) := by
              cases o <;> simp only [cmpP] at hcmp <;> first | (cases hcmp; done) | skip
              all_goals (injection hcmp with hcmp; subst hcmp)
              all_goals (simp only [binS, ne_eq, not_true_eq_false, if_false])
              · have := dec_bool (v := v) hp; rw [← this]; rfl
              · have := dec_bool (v := v) hp
                rw [← this]; simp only [bne, decide_not]; rfl
              · have := dec_bool (v := v) hp; rw [this]
              · have := dec_bool (v := v) hp; rw [this]
              · have := dec_bool (v := v) hp; rw [this]
              · have := dec_bool (v := v) hp; rw [this]
            rw [this]; rfl
          · cases h
        · cases h
      · cases h
    · cases h
  · split at h
    · rename_i o t x y pos
      split at h
      · rename_i a b hx hy
        split at h
        · rename_i n hari
          cases h
          have hw : IntKind.i64.wrap n = n := by
            have hp' : InR n := hp
            unfold InR at hp'
            rw [IntKind.wrap_i64]; omega
          simp only [opS, hx, hy, binO, binD]
          have : binS o (.int .i64 a) (.int .i64 b) = some (.int .i64 n) := by
            cases o <;> simp only [ariP] at hari <;> first | (cases hari; done) | skip
            all_goals (injection hari with hari; subst hari)
            all_goals (simp only [binS, ne_eq, not_true_eq_false, if_false, hw])
          rw [this]; rfl
        · cases h
      · cases h
    · cases h
  · split at h
    · rename_i t x i
      split at h
      · rename_i i e nl xx cs len hi ht hx
        split at h
        · rename_i sz hs
          cases h
          have hp' : 0 ≤ i ∧ i < len := hp
          simp only [opS, indexAddrD, hi, ht, hx, hs]
          rw [if_pos hp']; rfl
        · cases h
      · rename_i i e id ver off len esz xx hi ht hx
        split at h
        · rename_i sz hs
          split at h
          · rename_i hsz
            cases h
            simp only [opS, indexAddrD, hi, ht, hx, hs]
            rw [if_pos ⟨hsz, hp⟩]; rfl
          · cases h
        · cases h
      · rename_i i n e id ver off hi ht hx
        split at h
        · rename_i sz hs
          cases h
          have hp' : 0 ≤ i ∧ i < n := hp
          simp only [opS, indexAddrD, hi, ht, hx, hs]
          rw [if_pos hp']; rfl
        · cases h
      · cases h
    · cases h
  · split at h
    · rename_i t x
      split at h
      · cases h
      · rename_i hmv
        split at h
        · rename_i cs off ht hx
          cases h
          have hp' : cs[off]? = some _ := hp
          simp only [opS, hx, if_neg hmv, loadD, partC, ht, hp']
          cases sizeT P t <;> rfl
        · rename_i id ver off ht hx
          split at h
          · rename_i o ho
            cases h
            obtain ⟨hv, hp'⟩ := hp
            have ho := getO_of ho hv
            simp only [opS, hx, if_neg hmv, loadD, ho, part1, ht, hp']
            cases sizeT P t <;> rfl
          · cases h
        · cases h
    · cases h
  · split at h
    · rename_i t x
      split at h
      · cases h
      · rename_i hmv
        split at h
        · rename_i k cs off ht hk hx
          cases h
          have hp' : span cs off k = some _ := hp
          simp only [opS, hx, if_neg hmv, loadD, partC, ht, hk, hp']
          rfl
        · rename_i k id ver off ht hk hx
          split at h
          · rename_i o ho
            cases h
            obtain ⟨hv, hp'⟩ := hp
            have ho := getO_of ho hv
            simp only [opS, hx, if_neg hmv, loadD, ho, part1, ht, hk, hp', Option.map_some, mkAgg, closeL_map]
            rfl
          · cases h
        · cases h
    · cases h
  · split at h
    · rename_i t x y
      split at h
      · cases h
      rename_i hnz
      have hnz' : c.nz = [] := by simpa using hnz
      split at h
      · rename_i id ver off vs k hx hv hk
        split at h
        · rename_i o ho
          split at h
          · rename_i hlen
            cases h
            obtain ⟨hver, h1, h2⟩ := hp
            have ho := getO_of ho hver
            simp only [opS]
            cases hmv : c.mv with
            | true =>
              simp only [hmv, if_true] at hv
              simp only [if_true, hx, storeD, hv, hk, ho, hnz']
              rw [if_pos ⟨hlen, h1⟩, h2]; rfl
            | false =>
              simp only [hmv, Bool.false_eq_true, if_false] at hv
              simp only [Bool.false_eq_true, if_false, hx, storeD, hv, hk, ho, hnz']
              rw [if_pos ⟨hlen, h1⟩, h2]; rfl
          · cases h
        · cases h
      · cases h
    · cases h
  · split at h
    · cases h
    rename_i hfz
    split at h
    · rename_i t l cp
      split at h
      · rename_i e ht
        split at h
        · rename_i i z l' cp' hi hz hl hcp
          split at h
          · rename_i hzl
            split at h
            · rename_i e' hlay
              cases h
              obtain ⟨⟨h1, h2, h3, h4⟩, h5, h6⟩ := hp
              simp only [opS, ht, hi, hz, hl, hcp]
              rw [if_pos ⟨h1, h2, h3, h4, hzl⟩, if_neg hfz, h5, hlay, h6]; rfl
            · cases h
          · cases h
        · cases h
      · cases h
    · cases h
  · split at h
    · rename_i k
      split at h
      · rename_i x y t t2 hcal hargs ht ht2
        split at h
        · cases h
        · rename_i hown
          split at h
          · rename_i e e2 hu hu2
            split at h
            · rename_i i hi
              split at h
              · cases h
              · rename_i hz
                split at h
                · rename_i a1 a2 ycs ylen nl cs len esz hy hx
                  split at h
                  · rename_i hesz
                    cases h
                    obtain ⟨⟨⟨h1, h2⟩, h3⟩, h4, h5⟩ := hp
                    subst h5
                    simp only [opS, hcal, hargs, ht, ht2, if_neg hown, appendV, hu, hu2, hi, hy, hx, elemsD]
                    rw [if_neg hz, if_pos h1]
                    simp only [closeL_map]
                    rw [if_pos hesz, if_pos ⟨h3, h2⟩, h4]; rfl
                  · cases h
                · rename_i a1 a2 ycs ylen nl cs len hy hx
                  cases h
                  obtain ⟨h0, ⟨⟨h1, h2⟩, h3⟩, h4, h5⟩ := hp
                  subst h5
                  simp only [opS, hcal, hargs, ht, ht2, if_neg hown, appendV, hu, hu2, hi, hy, hx, elemsD]
                  rw [if_neg hz, if_pos h1]
                  simp only [closeL_map]
                  rw [if_pos ⟨h3, h2⟩, if_neg h0, h4]; rfl
                · cases h
            · cases h
          · cases h
      · cases h
    · cases h
  · split at h
    · rename_i k
      split at h
      · rename_i x y t t2 hcal hargs ht ht2
        split at h
        · cases h
        · rename_i hown
          have hown' : c.own = true := by simpa using hown
          split at h
          · rename_i e e2 hu hu2
            split at h
            · rename_i i hi
              split at h
              · cases h
              · rename_i hz
                split at h
                · rename_i a1 a2 ycs ylen id ver off len esz a3 hy hx
                  split at h
                  · rename_i o ho
                    split at h
                    · rename_i hesz
                      cases h
                      obtain ⟨hver, ⟨h1, h2, h3⟩, h4, h5⟩ := hp
                      have ho := getO_of ho hver
                      subst h5
                      rw [Option.map_eq_some_iff] at h4
                      obtain ⟨old, h6, h7⟩ := h4
                      simp only [opS, hcal, hargs, ht, ht2, hown', if_true, appendO, hu, hu2, hi, hy, hx, elemsD]
                      rw [if_neg hz, if_pos h1]
                      simp only [ho]
                      rw [if_neg h2, if_pos ⟨hesz, h3⟩, h6]
                      simp only [Option.map_some, List.map_map]
                      rw [show (unflag ∘ DV.c) = DV.c from rfl, h7]
                    · cases h
                  · cases h
                · cases h
            · cases h
          · cases h
      · cases h
    · cases h
  · split at h
    · rename_i k
      split at h
      · rename_i x y t t2 hcal hargs ht ht2
        split at h
        · cases h
        · rename_i hown
          split at h
          · rename_i e e2 hu hu2
            split at h
            · rename_i i hi
              split at h
              · cases h
              · rename_i hz
                split at h
                · rename_i a1 a2 ycs ylen nl cs len hy hx
                  split at h
                  · rename_i hcs
                    cases h
                    obtain ⟨h1, h2, h3⟩ := hp
                    subst h1; subst h2
                    simp only [opS, hcal, hargs, ht, ht2, if_neg hown, appendV, hu, hu2, hi, hy, hx, elemsD]
                    rw [if_neg hz, if_pos (by simp)]
                    simp only [List.map_nil, closeL, Nat.add_zero]
                    rw [if_pos ⟨h3, hcs⟩]; rfl
                  · cases h
                · cases h
            · cases h
          · cases h
      · cases h
    · cases h
  · split at h
    · rename_i t x
      split at h
      · rename_i hmv
        split at h
        · rename_i id ver off hx ht
          split at h
          · rename_i o ho
            cases h
            obtain ⟨hv, h1, h2⟩ := hp
            have ho := getO_of ho hv
            simp only [opS, hmv, if_true, hx, ht, ho, h1, Option.map_some, h2]
          · cases h
        · cases h
      · cases h
    · cases h
  · split at h
    · rename_i t x
      split at h
      · cases h
      · rename_i hmv
        split at h
        · rename_i id ver off ht hx
          split at h
          · rename_i o ho
            cases h
            obtain ⟨hv, hp'⟩ := hp
            have ho := getO_of ho hv
            simp only [opS, hx, if_neg hmv, loadD, ho, part1, ht, hp']
            cases sizeT P t <;> rfl
          · cases h
        · cases h
    · cases h
  · split at h
    · rename_i t x lo hi
      split at h
      · rename_i e id ver off len esz xx ht hx
        split at h
        · rename_i sz hsz
          split at h
          · rename_i hs
            cases h
            have hp' : boundsD len (lo.map (ev fr)) (hi.map (ev fr)) none = some _ := hp
            simp only [opS, sliceD, ht, hx, hsz, Option.map_none, hp']
            rw [if_pos hs]; rfl
          · cases h
        · cases h
      · cases h
    · cases h
  · split at h
    · rename_i t x lo hi
      split at h
      · rename_i e nl xx cs len ht hx
        split at h
        · rename_i sz hsz
          cases h
          obtain ⟨h2, h3, h4⟩ := hp
          subst h4
          simp only [opS, sliceD, ht, hx, hsz, Option.map_none, h2, h3]; rfl
        · cases h
      · cases h
    · cases h
  · split at h
    · rename_i k
      split at h
      · rename_i x y t t2 hcal hargs ht ht2
        split at h
        · cases h
        · rename_i hown
          split at h
          · rename_i e e2 hu hu2
            split at h
            · rename_i i hi
              split at h
              · cases h
              · rename_i hz
                split at h
                · rename_i a1 a2 ycs ylen nl cs len esz hy hx
                  split at h
                  · rename_i hesz
                    cases h
                    obtain ⟨⟨⟨h1, h2⟩, h3⟩, h4, h5, h6⟩ := hp
                    subst h5
                    simp only [opS, hcal, hargs, ht, ht2, if_neg hown, appendV, hu, hu2, hi, hy, hx, elemsD]
                    rw [if_neg hz, if_pos h1]
                    simp only [closeL_map]
                    rw [if_pos (by rw [hesz]; simp), if_pos ⟨h3, h2⟩, h4, h6]; rfl
                  · cases h
                · cases h
            · cases h
          · cases h
      · cases h
    · cases h
  · split at h
    · rename_i k
      split at h
      · rename_i x y t t2 hcal hargs ht ht2
        split at h
        · cases h
        · rename_i hown
          have hown' : c.own = true := by simpa using hown
          split at h
          · rename_i e e2 hu hu2
            split at h
            · rename_i i hi
              split at h
              · cases h
              · rename_i hz
                split at h
                · rename_i a1 a2 ycs ylen hy hx
                  split at h
                  · rename_i e' hlay
                    cases h
                    obtain ⟨h1, h2⟩ := hp
                    simp only [opS, hcal, hargs, ht, ht2, hown', if_true, appendO, hu, hu2, hi, hy, hx, elemsD]
                    rw [if_neg hz, if_pos h1]
                    simp only
                    by_cases h0 : ylen = 0
                    · subst h0
                      have hnil : ycs = [] := List.eq_nil_of_length_eq_zero (by omega)
                      subst hnil
                      rw [List.map_nil] at hlay
                      simp only [if_true, hlay, Option.map_some]
                    · rw [if_neg h0, if_pos (by simpa using h2)]
                      simp only [List.map_nil, List.nil_append, List.map_map]
                      rw [show (unflag ∘ DV.c) = DV.c from rfl, hlay]
                      simp
                  · cases h
                · cases h
            · cases h
          · cases h
      · cases h
    · cases h
  · cases h
  · cases h
  · cases h
  · cases h

/-- A call. -/
def tCall (X : Sys) (Γ : List (Nat × Ctx)) (keep : Bool) (lc : Option (List Nat)) (m : M) (g : DV) (args : List DV) (a : Option Ans) : Option (DV × M × List Prop) :=
  match g, a with
  | .fn f xs ys, some (.op r) => if !enters X.P f then none else match X.pr f with
      | some p => some (r.d, setM m r.set, [p m.st (xs ++ args ++ ys) = some r])
      | none => none
  | .fn f xs ys, some (.call d m') => if !enters X.P f then none else match X.pr f with
      | some _ => none
      | none =>
        if (xs ++ args ++ ys).all isClosed then
          if keep then some (shift m.st.length m.pd.length d, ⟨m.st ++ m'.st.map fun o => shiftO m.st.length m.pd.length o, m.pd ++ m'.pd⟩, [X.Runs [] f (xs ++ args ++ ys) ⟨[], []⟩ d m'])
          else some (d, m, [X.RunsC f (xs ++ args ++ ys) d])
        else if lc.isSome then none
        else if keep then some (d, m', [∃ m1, X.Runs Γ f (xs ++ args ++ ys) m d m1 ∧ trimM m.st.length d m1 = some m'])
        else some (d, m', [X.Runs Γ f (xs ++ args ++ ys) m d m'])
  | .fn f xs ys, some (.callL args0 st0 d1 os d st') => if !enters X.P f then none else match X.pr f, lc with
    | none, some sel => if (xs ++ args ++ ys).all isClosed then none else
      some (d, { m with st := st' }, [nodupB sel = true ∧ locS sel m.st sel = some st0 ∧ locL sel m.st (xs ++ args ++ ys) = some args0, X.RunsL f args0 st0 d1 os, bkD sel (versOf m.st sel) d1 = some d ∧ putBack sel (versOf m.st sel) sel (versOf m.st sel) os m.st = some st'])
    | _, _ => none
  | .fn f xs ys, some (.callK d m' d' st') => if !enters X.P f then none else match X.pr f with
    | some _ => none
    | none => if (xs ++ args ++ ys).all isClosed && keep then
        some (d', ⟨m.st ++ st', m.pd ++ m'.pd⟩, [X.Runs [] f (xs ++ args ++ ys) ⟨[], []⟩ d m' ∧ shift m.st.length m.pd.length d = d' ∧ (m'.st.map fun o => shiftO m.st.length m.pd.length o) = st'])
      else none
  | .yl j, some (.call d m') => some (d, m', [X.Round Γ j args m d m'])
  | _, _ => none

def tStep (X : Sys) (g : Reg) (T : Told) (i : Nat) (s : S) : Option (S × List Prop) :=
  match g.ops[i]? with
  | none => some (s, [])
  | some o =>
    if !dstOk g.nt o.dst then none else
    match wantedD g.ops o s.fr with
    | none => none
    | some false => some ({ s with fr := put s.fr o.dst (.tup []) }, [])
    | some true =>
      match calleeOf s.fr o.op with
      | some (c, args) => (tCall X g.Γ (g.site i).own (g.site i).lc s.m c args (told T g.rid i)).map fun x => (⟨put s.fr o.dst x.1, x.2.1⟩, x.2.2)
      | none => (tOp X.P (g.site i) o.op s.fr s.m.st (told T g.rid i)).map fun x => (⟨put (dropL s.fr x.1.drop) o.dst x.1.d, setM s.m x.1.set⟩, x.2)

theorem tCall_sound {X : Sys} {Γ : List (Nat × Ctx)} {keep : Bool} {lc : Option (List Nat)} {m m' : M} {c d : DV} {args : List DV} {a : Option Ans} {ps : List Prop} (h : tCall X Γ keep lc m c args a = some (d, m', ps)) (hp : AllP ps) :
    Ev fun k => (match c with
      | .fn f xs ys => callD X.P (X.ev k) Γ keep lc m f (xs ++ args ++ ys)
      | .yl j => (X.ev k).round Γ j args m
      | _ => none) = some (d, m') := by
  unfold tCall at h
  split at h
  · rename_i f xs ys r
    dsimp only at h
    by_cases he : (!enters X.P f) = true
    · rw [if_pos he] at h; cases h
    · rw [if_neg he] at h
      split at h
      · rename_i p hpr
        cases h
        have hp' : p m.st (xs ++ args ++ ys) = some _ := hp
        refine Ev.of fun k => ?_
        simp only [callD]
        rw [if_neg he, X.ev_prim]
        simp only [hpr, hp', Option.map_some]
      · cases h
  · rename_i f xs ys d0 m0
    dsimp only at h
    by_cases he : (!enters X.P f) = true
    · rw [if_pos he] at h; cases h
    · rw [if_neg he] at h
      split at h
      · cases h
      · rename_i hpr
        by_cases hc : (xs ++ args ++ ys).all isClosed = true
        · rw [if_pos hc] at h
          cases keep with
          | true =>
            simp only [if_true] at h
            cases h
            have hp' : X.Runs [] f (xs ++ args ++ ys) ⟨[], []⟩ _ _ := hp
            refine Ev.mono hp' fun k hr => ?_
            simp only [callD]
            rw [if_neg he, X.ev_prim]
            simp only [hpr, hr]
            rw [if_pos hc]
            rfl
          | false =>
            simp only [Bool.false_eq_true, if_false] at h
            cases h
            have hp' : Ev fun k => ∃ d' m', (X.ev k).call [] f (xs ++ args ++ ys) ⟨[], []⟩ = some (d', m') ∧ closeTop m'.st d' = some _ := hp
            refine Ev.mono hp' fun k hkk => ?_
            obtain ⟨d', m1, hr, hcl⟩ := hkk
            simp only [callD]
            rw [if_neg he, X.ev_prim]
            simp only [hpr, hr]
            rw [if_pos hc]
            simp only [Bool.false_eq_true, if_false, hcl, Option.map_some]
        · rw [if_neg hc] at h
          have hlc : lc = none := by
            cases lc with
            | none => rfl
            | some sel => simp only [Option.isSome_some, if_true] at h; cases h
          subst hlc
          simp only [Option.isSome_none, Bool.false_eq_true, if_false] at h
          cases keep with
          | true =>
            simp only [if_true] at h
            cases h
            obtain ⟨m1, hr, ht⟩ := hp
            refine Ev.mono hr fun k hr => ?_
            simp only [callD]
            rw [if_neg he, X.ev_prim]
            simp only [hpr]
            rw [if_neg hc]
            simp only [if_true, hr, Option.bind_some, ht, Option.map_some]
          | false =>
            simp only [Bool.false_eq_true, if_false] at h
            cases h
            have hp' : X.Runs Γ f (xs ++ args ++ ys) m _ _ := hp
            refine Ev.mono hp' fun k hr => ?_
            simp only [callD]
            rw [if_neg he, X.ev_prim]
            simp only [hpr]
            rw [if_neg hc]
            simp only [Bool.false_eq_true, if_false, hr]
  · rename_i f xs ys args0 st0 d1 os d0 st'
    dsimp only at h
    by_cases he : (!enters X.P f) = true
    · rw [if_pos he] at h; cases h
    · rw [if_neg he] at h
      split at h
      · rename_i sel hpr _
        by_cases hc : (xs ++ args ++ ys).all isClosed = true
        · rw [if_pos hc] at h; cases h
        · rw [if_neg hc] at h
          cases h
          obtain ⟨⟨h1, h2, h3⟩, ⟨d', m1, hr, hend⟩, h4, h5⟩ := hp
          refine Ev.mono hr fun k hr => ?_
          simp only [callD]
          rw [if_neg he, X.ev_prim]
          simp only [hpr]
          rw [if_neg hc]
          simp only [localD, h1, h2, h3, hr, Bool.not_true, Bool.false_eq_true, if_false]
          rw [← (locS_get h2).1, hend]
          simp only [backL, h4, h5]
      · cases h
  · rename_i f xs ys d1 m1 d2 st2
    dsimp only at h
    by_cases he : (!enters X.P f) = true
    · rw [if_pos he] at h; cases h
    · rw [if_neg he] at h
      cases hpr : X.pr f with
      | some p => simp only [hpr] at h; cases h
      | none =>
        simp only [hpr] at h
        by_cases hc : ((xs ++ args ++ ys).all isClosed && keep) = true
        · rw [if_pos hc] at h
          cases h
          simp only [Bool.and_eq_true] at hc
          obtain ⟨hc, hk⟩ := hc
          subst hk
          obtain ⟨h1, h2, h3⟩ := hp
          refine Ev.mono h1 fun k hr => ?_
          simp only [callD]
          rw [if_neg he, X.ev_prim]
          simp only [hpr, hr]
          rw [if_pos hc]
          simp only [if_true, h2, h3]
        · rw [if_neg hc] at h; cases h
  · cases h
    exact hp
  · cases h

theorem tStep_sound {X : Sys} {g : Reg} {T : Told} {i : Nat} {s s' : S} {ps : List Prop} (h : tStep X g T i s = some (s', ps)) (hp : AllP ps) : Ev fun k => stepD X.P (X.ev k) g i s = some s' := by
  unfold tStep at h
  unfold stepD
  split at h
  · rename_i ho; cases h
    exact Ev.of fun k => by simp only [ho]
  · rename_i o ho
    split at h
    · cases h
    · rename_i hd
      split at h
      · cases h
      · rename_i hw
        cases h
        exact Ev.of fun k => by simp only [ho, hw]; rw [if_neg hd]
      · rename_i hw
        split at h
        · rename_i c args hc
          rw [Option.map_eq_some_iff] at h
          obtain ⟨⟨d, m', qs⟩, h1, h2⟩ := h
          simp only [Prod.mk.injEq] at h2
          obtain ⟨rfl, rfl⟩ := h2
          refine Ev.mono (tCall_sound h1 hp) fun k hk => ?_
          simp only [ho, hw, hc]
          rw [if_neg hd]
          cases c <;> first | (cases hk; done) | (simp only at hk ⊢; rw [hk]; rfl)
        · rename_i hc
          rw [Option.map_eq_some_iff] at h
          obtain ⟨⟨r, qs⟩, h1, h2⟩ := h
          simp only [Prod.mk.injEq] at h2
          obtain ⟨rfl, rfl⟩ := h2
          have := tOp_sound h1 hp
          refine Ev.of fun k => ?_
          simp only [ho, hw, hc, this, Option.map_some]
          rw [if_neg hd]

def tSteps (X : Sys) (g : Reg) (T : Told) : List Nat → S → Option (S × List Prop)
  | [], s => some (s, [])
  | i :: is, s => match tStep X g T i s with
    | some (s', ps) => match tSteps X g T is s' with
      | some (s, qs) => some (s, ps ++ qs)
      | none => none
    | none => none
theorem tSteps_sound {X : Sys} {g : Reg} {T : Told} : ∀ (is : List Nat) {s s' : S} {ps : List Prop}, tSteps X g T is s = some (s', ps) → AllP ps → Ev fun k => stepsD X.P (X.ev k) g is s = some s'
  | [], s, s', ps, h, _ => by simp only [tSteps] at h; cases h; exact Ev.of fun k => rfl
  | i :: is, s, s', ps, h, hp => by
    simp only [tSteps] at h
    split at h
    · rename_i s1 ps1 h1
      split at h
      · rename_i s2 qs h2
        cases h
        obtain ⟨hp1, hp2⟩ := hp.append
        refine ((tStep_sound h1 hp1).and (tSteps_sound is h2 hp2)).mono fun k hk => ?_
        simp only [stepsD, hk.1, hk.2]
      · cases h
    · cases h

/-- What an operation touches. -/
def tAcc (X : Sys) (g : Reg) (i : Nat) (fr : Nat → DV) : Option (List (Nat × Bool)) := accD ⟨fun _ _ _ _ => none, fun _ _ _ _ => none, X.pr⟩ g i fr
theorem tAcc_eq (X : Sys) (g : Reg) (i : Nat) (fr : Nat → DV) (k : Nat) : accD (X.ev k) g i fr = tAcc X g i fr := by
  unfold tAcc accD
  simp only [X.ev_prim]
def tStepsA (X : Sys) (g : Reg) (T : Told) : List Nat → S → Option (S × List (Option (List (Nat × Bool))) × List Prop)
  | [], s => some (s, [], [])
  | i :: is, s => match tStep X g T i s with
    | some (s', ps) => match tStepsA X g T is s' with
      | some (r, as, qs) => some (r, tAcc X g i s.fr :: as, ps ++ qs)
      | none => none
    | none => none
theorem tStepsA_sound {X : Sys} {g : Reg} {T : Told} : ∀ (is : List Nat) {s s' : S} {as : List (Option (List (Nat × Bool)))} {ps : List Prop}, tStepsA X g T is s = some (s', as, ps) → AllP ps → Ev fun k => stepsA X.P (X.ev k) g is s = some (s', as)
  | [], s, s', as, ps, h, _ => by simp only [tStepsA] at h; cases h; exact Ev.of fun k => rfl
  | i :: is, s, s', as, ps, h, hp => by
    simp only [tStepsA] at h
    split at h
    · rename_i s1 ps1 h1
      split at h
      · rename_i s2 as2 qs h2
        cases h
        obtain ⟨hp1, hp2⟩ := hp.append
        refine ((tStep_sound h1 hp1).and (tStepsA_sound is h2 hp2)).mono fun k hk => ?_
        simp only [stepsA, hk.1, hk.2, Option.map_some, tAcc_eq]
      · cases h
    · cases h

def tRegion (X : Sys) (f nt : Nat) (Γ : List (Nat × Ctx)) (rid : Nat) (ops : Array Oper) (draw : Bool) (T : Told) (s : S) : Option (S × List Prop) :=
  let g : Reg := { an := X.an, f, nt, rid, ops, base := s.m.st.length, Γ }
  if draw then
    if drawStaticO X.an f rid ops then
      match tStepsA X g T (List.range ops.size) (enterR g s) with
      | some (s', as, ps) => if (loudPairsO X.an f rid ops).all fun (j, i) => compat (as.getD j none) (as.getD i none) then some (leaveR g s', ps) else none
      | none => none
    else none
  else match tSteps X g T (List.range ops.size) (enterR g s) with
    | some (s, ps) => some (leaveR g s, ps)
    | none => none
theorem tRegion_sound {X : Sys} {f nt : Nat} {Γ : List (Nat × Ctx)} {rid : Nat} {ops : Array Oper} {draw : Bool} {T : Told} {s s' : S} {ps : List Prop} (h : tRegion X f nt Γ rid ops draw T s = some (s', ps)) (hp : AllP ps) :
    Ev fun k => regionD X.P (X.ev k) X.an f nt Γ rid ops draw s = some s' := by
  unfold tRegion at h
  unfold regionD
  simp only at h ⊢
  split at h
  · rename_i hd
    split at h
    · rename_i hs
      split at h
      · rename_i s1 as ps1 h1
        split at h
        · rename_i hc
          cases h
          refine (tStepsA_sound _ h1 hp).mono fun k hk => ?_
          have hs' : drawStatic { an := X.an, f, nt, rid, ops, base := s.m.st.length, Γ } = true := hs
          rw [if_pos hd, if_pos hs']
          simp only [hk]
          rw [if_pos]
          exact hc
        · cases h
      · cases h
    · cases h
  · rename_i hd
    split at h
    · rename_i s1 ps1 h1
      cases h
      refine (tSteps_sound _ h1 hp).mono fun k hk => ?_
      rw [if_neg hd, hk, Option.map_some]
    · cases h

def tCode (X : Sys) (f nt : Nat) (Γ : List (Nat × Ctx)) (T : Told) : Code → S → Option (Ex × S × List Prop)
  | .skip, s => some (.normal, s, [])
  | .region rid ops draw, s => match tRegion X f nt Γ rid ops draw T s with
    | some (s, ps) => some (.normal, s, ps)
    | none => none
  | .seq a b, s => match tCode X f nt Γ T a s with
    | some (.normal, s', ps) => match tCode X f nt Γ T b s' with
      | some (ex, s, qs) => some (ex, s, ps ++ qs)
      | none => none
    | r => r
  | .cond x a b, s => match ev s.fr x with
    | .c (.sc (.bool true)) => tCode X f nt Γ T a s
    | .c (.sc (.bool false)) => tCode X f nt Γ T b s
    | _ => none
  | .block id a, s => match tCode X f nt Γ T a s with
    | some (.exit id', s', ps) => some (if id' = id then .normal else .exit id', s', ps)
    | r => r
  | .loop a, s => match told T (firstR a) 1000 with
    | some (.code ex s') => some (ex, s', [X.Go f nt Γ (.loop a) s ex s'])
    | _ => none
  | .rangeFunc g ps as body, s => match told T (firstR body) 1000 with
    | some (.code ex s') => some (ex, s', [X.Go f nt Γ (.rangeFunc g ps as body) s ex s'])
    | _ => none
  | .scope a, s => tCode X f nt Γ T a s
  | .label _, s => some (.normal, s, [])
  | .exit id, s => some (.exit id, s, [])
  | .ret, s => some (.ret, s, [])
  | _, _ => none
theorem tCode_sound {X : Sys} {f nt : Nat} {Γ : List (Nat × Ctx)} {T : Told} : ∀ (c : Code) {s s' : S} {ex : Ex} {ps : List Prop}, tCode X f nt Γ T c s = some (ex, s', ps) → AllP ps → X.Go f nt Γ c s ex s'
  | .skip, s, s', ex, ps, h, hp => by simp only [tCode] at h; cases h; exact Ev.of fun k => rfl
  | .region rid ops draw, s, s', ex, ps, h, hp => by
    simp only [tCode] at h
    split at h
    · rename_i s1 ps1 h1
      cases h
      refine (tRegion_sound h1 hp).mono fun k hk => ?_
      simp only [codeD, hk, Option.map_some]
    · cases h
  | .seq a b, s, s', ex, ps, h, hp => by
    simp only [tCode] at h
    split at h
    · rename_i s1 ps1 h1
      split at h
      · rename_i ex2 s2 qs h2
        cases h
        obtain ⟨hp1, hp2⟩ := hp.append
        refine ((tCode_sound a h1 hp1).and (tCode_sound b h2 hp2)).mono fun k hk => ?_
        simp only [codeD, hk.1, hk.2]
      · cases h
    · rename_i hne
      refine (tCode_sound a h hp).mono fun k hk => ?_
      simp only [codeD, hk]
      cases ex with
      | normal => exact absurd h (hne s' ps)
      | _ => rfl
  | .cond x a b, s, s', ex, ps, h, hp => by
    simp only [tCode] at h
    split at h
    · rename_i hx
      refine (tCode_sound a h hp).mono fun k hk => ?_
      simp only [codeD, hx, hk]
    · rename_i hx
      refine (tCode_sound b h hp).mono fun k hk => ?_
      simp only [codeD, hx, hk]
    · cases h
  | .block id a, s, s', ex, ps, h, hp => by
    simp only [tCode] at h
    split at h
    · rename_i id' s1 ps1 h1
      cases h
      refine (tCode_sound a h1 hp).mono fun k hk => ?_
      simp only [codeD, hk]
    · rename_i hne
      refine (tCode_sound a h hp).mono fun k hk => ?_
      simp only [codeD, hk]
      cases ex with
      | exit id' => exact absurd h (hne id' s' ps)
      | _ => rfl
  | .loop a, s, s', ex, ps, h, hp => by
    simp only [tCode] at h
    split at h
    · cases h; exact hp
    · cases h
  | .rangeFunc g ps' as body, s, s', ex, ps, h, hp => by
    simp only [tCode] at h
    split at h
    · cases h; exact hp
    · cases h
  | .exit id, s, s', ex, ps, h, hp => by simp only [tCode] at h; cases h; exact Ev.of fun k => rfl
  | .ret, s, s', ex, ps, h, hp => by simp only [tCode] at h; cases h; exact Ev.of fun k => rfl
  | .scope x, s, s', ex, ps, h, hp => by
    simp only [tCode] at h
    refine (tCode_sound x h hp).mono fun k hk => ?_
    simp only [codeD, hk]
  | .label x, s, s', ex, ps, h, hp => by simp only [tCode] at h; cases h; exact Ev.of fun k => rfl
  | .goto x, s, s', ex, ps, h, hp => by simp [tCode] at h
  | .refuse x, s, s', ex, ps, h, hp => by simp [tCode] at h

/-- How it is left, and what was told. -/
def both : Option (Ex × S × List Prop) → Option (Ex × S) × Prop
  | some (ex, s, ps) => (some (ex, s), AllP ps)
  | none => (none, False)
theorem Sys.go {X : Sys} {f nt : Nat} {Γ : List (Nat × Ctx)} {c : Code} {s s' : S} {ex : Ex} (T : Told) {p : Prop} (h : p) (e : both (tCode X f nt Γ T c s) = (some (ex, s'), p)) : X.Go f nt Γ c s ex s' := by
  cases hc : tCode X f nt Γ T c s with
  | none => rw [hc] at e; simp [both] at e
  | some r =>
    obtain ⟨ex', s1, ps⟩ := r
    rw [hc] at e
    simp only [both, Prod.mk.injEq, Option.some.injEq] at e
    obtain ⟨⟨rfl, rfl⟩, rfl⟩ := e
    exact tCode_sound c hc h
end Go.Abs
