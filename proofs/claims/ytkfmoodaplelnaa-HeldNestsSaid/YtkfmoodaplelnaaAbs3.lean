/-
  Abs3: how the interpreter's values stand in the model's memory.
-/
import Derived.Test.YtkfmoodaplelnaaAbs2
namespace Go.Abs
open Go

structure Fp where
  b : Nat
  off : Nat
  ext : Nat
  deriving Inhabited
def Fp.at (f : Fp) (i : Nat) : Addr := ⟨f.b, f.off + i, none⟩

/-- Where things stand: what nobody writes any more; the world; the objects, where each lies; where the records of the ranges over functions lie. -/
structure E where
  im : Addr → Prop
  w : World
  st : List Ob
  io : Nat → Fp
  la : List Nat

mutual
inductive RC (im : Addr → Prop) (w : World) : CV → Value → Prop
  | sc {v : Value} (h : isSc v = true) : RC im w (.sc v) v
  | agg {cs : List CV} {vs : List Value} (h : RCs im w cs vs) : RC im w (.agg cs) (.agg ⟨vs⟩)
  | nil {x : Bool} : RC im w (.sl true x [] 0) (.slice none 0 0)
  | sl {x : Bool} {cs : List CV} {vs : List Value} {a : Addr} {len cap : Nat} (h : RCs im w cs vs)
      (hc : ∀ i v, vs[i]? = some v → w.cell? (a.add i) = some v ∧ im (a.add i)) (hl : len ≤ cap) (hx : x = true → cap = len) :
      RC im w (.sl false x cs len) (.slice (some a) len cap)
inductive RCs (im : Addr → Prop) (w : World) : List CV → List Value → Prop
  | nil : RCs im w [] []
  | cons {c : CV} {v : Value} {cs : List CV} {vs : List Value} (hk : cvOk c = true) (h : RC im w c v) (hs : RCs im w cs vs) : RCs im w (c :: cs) (v :: vs)
end

def erV : Bool → Value → Prop
  | true, v => ∃ t x, v = .iface t x
  | false, v => v = .nilIface

mutual
inductive RD (e : E) : (Addr → Prop) → DV → Value → Prop
  | un {s : Addr → Prop} {v : Value} : RD e s .un v
  | c {s : Addr → Prop} {c : CV} {v : Value} (h : RC e.im e.w c v) : RD e s (.c c) v
  | apnil {s : Addr → Prop} {esz : Nat} : RD e s (.ap true [] 0 esz) (.slice none 0 0)
  | ap {s : Addr → Prop} {cs : List CV} {vs : List Value} {b off len cap esz : Nat} (h : RCs e.im e.w cs vs)
      (hc : ∀ i v, vs[i]? = some v → e.w.cell? ⟨b, off + i, none⟩ = some v ∧ e.im ⟨b, off + i, none⟩) (hl : len ≤ cap) (hn : cs.length = len * esz)
      (hs : ∀ i, len * esz ≤ i → i < cap * esz → s ⟨b, off + i, none⟩) : RD e s (.ap false cs len esz) (.slice (some ⟨b, off, none⟩) len cap)
  | agg {s : Addr → Prop} {ds : List DV} {vs : List Value} (hk : ds.all cellOk = true) (h : RDs e ds vs) : RD e s (.agg ds) (.agg ⟨vs⟩)
  | tup {s : Addr → Prop} {ds : List DV} {vs : List Value} (h : RDs e ds vs) : RD e s (.tup ds) (.tuple ⟨vs⟩)
  | ms {s : Addr → Prop} {id ver off len esz : Nat} {x : Bool} {a : Addr} {cap : Nat} (hid : id < e.st.length) (hl : len ≤ cap) (hx : x = true → cap = len)
      (hv : ∀ o, e.st[id]? = some o → ver ≤ o.ver ∧ (ver = o.ver → (cap = 0 ∨ a = (e.io id).at off) ∧ off + cap * esz ≤ (e.io id).ext)) :
      RD e s (.ms id ver off len esz x) (.slice (some a) len cap)
  | pt {s : Addr → Prop} {id ver off : Nat} {a : Addr} (hid : id < e.st.length)
      (hv : ∀ o, e.st[id]? = some o → ver ≤ o.ver ∧ (ver = o.ver → a = (e.io id).at off)) : RD e s (.pt id ver off) (.pointer (some a))
  | ia {s : Addr → Prop} {cs : List CV} {vs : List Value} {a : Addr} {off : Nat} (h : RCs e.im e.w cs vs)
      (hc : ∀ i v, vs[i]? = some v → e.w.cell? (a.add i) = some v ∧ e.im (a.add i)) : RD e s (.ia cs off) (.pointer (some (a.add off)))
  | fn {s : Addr → Prop} {f : FuncId} {xs ys : List DV} {us vs : List Value} (h1 : RDs e xs us) (h2 : RDs e ys vs) : RD e s (.fn f xs ys) (.func (.func f) ⟨us⟩ ⟨vs⟩)
  | yl {s : Addr → Prop} {k l : Nat} (h : e.la[k]? = some l) : RD e s (.yl k) (.func (.yield l) #[] #[])
  | er {s : Addr → Prop} {b : Bool} {v : Value} (h : erV b v) : RD e s (.er b) v
  | mp {s : Addr → Prop} {id ver r : Nat} (hid : id < e.st.length) (hv : ∀ o, e.st[id]? = some o → ver ≤ o.ver ∧ (ver = o.ver → r = (e.io id).b)) : RD e s (.mp id ver) (.map (some r))
  | mi {s : Addr → Prop} {id ver mid mver r : Nat} (hid : id < e.st.length) (hv : ∀ o, e.st[id]? = some o → ver ≤ o.ver ∧ (ver = o.ver → r = (e.io id).b)) : RD e s (.mi id ver mid mver) (.pointer (some ⟨r, 0, none⟩))
inductive RDs (e : E) : List DV → List Value → Prop
  | nil : RDs e [] []
  | cons {d : DV} {v : Value} {ds : List DV} {vs : List Value} (h : RD e (fun _ => False) d v) (hs : RDs e ds vs) : RDs e (d :: ds) (v :: vs)
end

/-- What is kept from one state to a later one. -/
structure Ext (e e' : E) : Prop where
  im : ∀ a, e.im a → e'.im a
  cell : ∀ a, e.im a → e'.w.cell? a = e.w.cell? a
  len : e.st.length ≤ e'.st.length
  ver : ∀ (id : Nat) o o', e.st[id]? = some o → e'.st[id]? = some o' → o.ver ≤ o'.ver ∧ (o.ver = o'.ver → e'.io id = e.io id)
  la : ∀ (k l : Nat), e.la[k]? = some l → e'.la[k]? = some l

theorem Ext.refl (e : E) : Ext e e := ⟨fun _ h => h, fun _ _ => rfl, Nat.le_refl _, fun id o o' h h' => by rw [h] at h'; cases h'; exact ⟨Nat.le_refl _, fun _ => rfl⟩, fun _ _ h => h⟩
theorem Ext.trans {a b c : E} (h : Ext a b) (k : Ext b c) : Ext a c :=
  ⟨fun x hx => k.im x (h.im x hx), fun x hx => (k.cell x (h.im x hx)).trans (h.cell x hx), Nat.le_trans h.len k.len,
   fun id o o' ho ho' => by
    have hlt : id < a.st.length := (List.getElem?_eq_some_iff.1 ho).1
    obtain ⟨o1, h1⟩ : ∃ o1, b.st[id]? = some o1 := ⟨_, List.getElem?_eq_getElem (Nat.lt_of_lt_of_le hlt h.len)⟩
    obtain ⟨p1, q1⟩ := h.ver id o o1 ho h1
    obtain ⟨p2, q2⟩ := k.ver id o1 o' h1 ho'
    exact ⟨Nat.le_trans p1 p2, fun e => (q2 (by omega)).trans (q1 (by omega))⟩,
   fun a b hh => k.la a b (h.la a b hh)⟩

mutual
theorem RC.mono {im im' : Addr → Prop} {w w' : World} (h1 : ∀ a, im a → im' a) (h2 : ∀ a, im a → w'.cell? a = w.cell? a) {c : CV} {v : Value} : RC im w c v → RC im' w' c v
  | .sc h => .sc h
  | .agg h => .agg (RCs.mono h1 h2 h)
  | .nil => .nil
  | .sl h hc hl hx => .sl (RCs.mono h1 h2 h) (fun i v hv => ⟨(h2 _ (hc i v hv).2).trans (hc i v hv).1, h1 _ (hc i v hv).2⟩) hl hx
theorem RCs.mono {im im' : Addr → Prop} {w w' : World} (h1 : ∀ a, im a → im' a) (h2 : ∀ a, im a → w'.cell? a = w.cell? a) {cs : List CV} {vs : List Value} : RCs im w cs vs → RCs im' w' cs vs
  | .nil => .nil
  | .cons hk h hs => .cons hk (RC.mono h1 h2 h) (RCs.mono h1 h2 hs)
end

mutual
theorem RD.mono {e e' : E} (x : Ext e e') {s s' : Addr → Prop} (hss : ∀ a, s a → s' a) {d : DV} {v : Value} : RD e s d v → RD e' s' d v
  | .un => .un
  | .c h => .c (h.mono x.im x.cell)
  | .apnil => .apnil
  | .ap h hc hl hn hs => .ap (h.mono x.im x.cell) (fun i v hv => ⟨(x.cell _ (hc i v hv).2).trans (hc i v hv).1, x.im _ (hc i v hv).2⟩) hl hn (fun i h1 h2 => hss _ (hs i h1 h2))
  | .agg hk h => .agg hk (RDs.mono x h)
  | .tup h => .tup (RDs.mono x h)
  | .ms (id := id) hid hl hx hv => .ms (Nat.lt_of_lt_of_le hid x.len) hl hx fun o' ho' => by
      obtain ⟨o, ho⟩ : ∃ o, e.st[id]? = some o := ⟨_, List.getElem?_eq_getElem hid⟩
      obtain ⟨p, q⟩ := x.ver id o o' ho ho'
      obtain ⟨p1, q1⟩ := hv o ho
      refine ⟨Nat.le_trans p1 p, fun hh => ?_⟩
      have e1 : o.ver = o'.ver := by omega
      rw [q e1]
      exact q1 (by omega)
  | .pt (id := id) hid hv => .pt (Nat.lt_of_lt_of_le hid x.len) fun o' ho' => by
      obtain ⟨o, ho⟩ : ∃ o, e.st[id]? = some o := ⟨_, List.getElem?_eq_getElem hid⟩
      obtain ⟨p, q⟩ := x.ver id o o' ho ho'
      obtain ⟨p1, q1⟩ := hv o ho
      refine ⟨Nat.le_trans p1 p, fun hh => ?_⟩
      have e1 : o.ver = o'.ver := by omega
      rw [q e1]
      exact q1 (by omega)
  | .ia h hc => .ia (h.mono x.im x.cell) (fun i v hv => ⟨(x.cell _ (hc i v hv).2).trans (hc i v hv).1, x.im _ (hc i v hv).2⟩)
  | .fn h1 h2 => .fn (RDs.mono x h1) (RDs.mono x h2)
  | .yl h => .yl (x.la _ _ h)
  | .er h => .er h
  | .mp (id := id) hid hv => .mp (Nat.lt_of_lt_of_le hid x.len) fun o' ho' => by
      obtain ⟨o, ho⟩ : ∃ o, e.st[id]? = some o := ⟨_, List.getElem?_eq_getElem hid⟩
      obtain ⟨p, q⟩ := x.ver id o o' ho ho'
      obtain ⟨p1, q1⟩ := hv o ho
      refine ⟨Nat.le_trans p1 p, fun hh => ?_⟩
      have e1 : o.ver = o'.ver := by omega
      rw [q e1]
      exact q1 (by omega)
  | .mi (id := id) hid hv => .mi (Nat.lt_of_lt_of_le hid x.len) fun o' ho' => by
      obtain ⟨o, ho⟩ : ∃ o, e.st[id]? = some o := ⟨_, List.getElem?_eq_getElem hid⟩
      obtain ⟨p, q⟩ := x.ver id o o' ho ho'
      obtain ⟨p1, q1⟩ := hv o ho
      refine ⟨Nat.le_trans p1 p, fun hh => ?_⟩
      have e1 : o.ver = o'.ver := by omega
      rw [q e1]
      exact q1 (by omega)
theorem RDs.mono {e e' : E} (x : Ext e e') {ds : List DV} {vs : List Value} : RDs e ds vs → RDs e' ds vs
  | .nil => .nil
  | .cons h hs => .cons (h.mono x (fun _ h => h)) (RDs.mono x hs)
end

theorem RD.weak {e : E} {s s' : Addr → Prop} (hss : ∀ a, s a → s' a) {d : DV} {v : Value} (h : RD e s d v) : RD e s' d v := h.mono (Ext.refl e) hss

/-- Without the right. -/
theorem RD.unflag {e : E} {s s' : Addr → Prop} {d : DV} {v : Value} (h : RD e s d v) : RD e s' (Abs.unflag d) v := by
  cases h with
  | un => exact .un
  | c h => exact .c h
  | apnil => exact .c .nil
  | ap h hc hl hn hs =>
    refine .c (.sl (a := ⟨_, _, none⟩) h (fun i v hv => ?_) hl (fun h => by cases h))
    have := hc i v hv
    unfold Addr.add
    split
    · rename_i h0; subst h0; simpa using this
    · simpa using this
  | agg hk h => exact .agg hk h
  | tup h => exact .tup h
  | ms hid hl hx hv => exact .ms hid hl hx hv
  | pt hid hv => exact .pt hid hv
  | ia h hc => exact .ia h hc
  | fn h1 h2 => exact .fn h1 h2
  | yl h => exact .yl h
  | er h => exact .er h
  | mp h1 h2 => exact .mp h1 h2
  | mi h1 h2 => exact .mi h1 h2

theorem RCs.length {im : Addr → Prop} {w : World} : ∀ {cs : List CV} {vs : List Value}, RCs im w cs vs → cs.length = vs.length
  | _, _, .nil => rfl
  | _, _, .cons _ _ hs => by simp [hs.length]
theorem RDs.length {e : E} : ∀ {cs : List DV} {vs : List Value}, RDs e cs vs → cs.length = vs.length
  | _, _, .nil => rfl
  | _, _, .cons _ hs => by simp [hs.length]

theorem RCs.get {im : Addr → Prop} {w : World} : ∀ {cs : List CV} {vs : List Value}, RCs im w cs vs → ∀ {i : Nat} {c : CV}, cs[i]? = some c → ∃ v, vs[i]? = some v ∧ RC im w c v
  | _, _, .nil, i, c, h => by simp at h
  | _, _, .cons _ h hs, 0, c, e => by simp at e; subst e; exact ⟨_, rfl, h⟩
  | _, _, .cons _ h hs, i + 1, c, e => by simp at e; simpa using hs.get e
theorem RCs.ok {im : Addr → Prop} {w : World} : ∀ {cs : List CV} {vs : List Value}, RCs im w cs vs → ∀ {i : Nat} {c : CV}, cs[i]? = some c → cvOk c = true
  | _, _, .nil, i, c, h => by simp at h
  | _, _, .cons hk h hs, 0, c, e => by simp at e; subst e; exact hk
  | _, _, .cons hk h hs, i + 1, c, e => by simp at e; exact hs.ok e
theorem RDs.get {e : E} : ∀ {cs : List DV} {vs : List Value}, RDs e cs vs → ∀ {i : Nat} {c : DV}, cs[i]? = some c → ∃ v, vs[i]? = some v ∧ RD e (fun _ => False) c v
  | _, _, .nil, i, c, h => by simp at h
  | _, _, .cons h hs, 0, c, ee => by simp at ee; subst ee; exact ⟨_, rfl, h⟩
  | _, _, .cons h hs, i + 1, c, ee => by simp at ee; simpa using hs.get ee

theorem RDs.of_get {e : E} : ∀ {cs : List DV} {vs : List Value}, cs.length = vs.length → (∀ (i : Nat) (c : DV) (v : Value), cs[i]? = some c → vs[i]? = some v → RD e (fun _ => False) c v) → RDs e cs vs
  | [], [], _, _ => .nil
  | c :: cs, v :: vs, hl, h => .cons (h 0 c v rfl rfl) (RDs.of_get (by simpa using hl) fun i c' v' hc hv => h (i + 1) c' v' (by simpa using hc) (by simpa using hv))
  | [], _ :: _, hl, _ => by simp at hl
  | _ :: _, [], hl, _ => by simp at hl

theorem RCs.append {im : Addr → Prop} {w : World} : ∀ {cs ds : List CV} {vs us : List Value}, RCs im w cs vs → RCs im w ds us → RCs im w (cs ++ ds) (vs ++ us)
  | _, _, _, _, .nil, h => h
  | _, _, _, _, .cons k a b, h => .cons k a (b.append h)
theorem RDs.append {e : E} : ∀ {cs ds : List DV} {vs us : List Value}, RDs e cs vs → RDs e ds us → RDs e (cs ++ ds) (vs ++ us)
  | _, _, _, _, .nil, h => h
  | _, _, _, _, .cons a b, h => .cons a (b.append h)
theorem RCs.drop {im : Addr → Prop} {w : World} : ∀ {cs : List CV} {vs : List Value} (k : Nat), RCs im w cs vs → RCs im w (cs.drop k) (vs.drop k)
  | _, _, 0, h => by simpa using h
  | _, _, k + 1, .nil => by simpa using .nil
  | _, _, k + 1, .cons _ a b => by simpa using b.drop k
theorem RCs.take {im : Addr → Prop} {w : World} : ∀ {cs : List CV} {vs : List Value} (k : Nat), RCs im w cs vs → RCs im w (cs.take k) (vs.take k)
  | _, _, 0, h => by simpa using .nil
  | _, _, k + 1, .nil => by simpa using .nil
  | _, _, k + 1, .cons hk a b => by simpa using .cons hk a (b.take k)
theorem RDs.drop {e : E} : ∀ {cs : List DV} {vs : List Value} (k : Nat), RDs e cs vs → RDs e (cs.drop k) (vs.drop k)
  | _, _, 0, h => by simpa using h
  | _, _, k + 1, .nil => by simpa using .nil
  | _, _, k + 1, .cons a b => by simpa using b.drop k
theorem RDs.take {e : E} : ∀ {cs : List DV} {vs : List Value} (k : Nat), RDs e cs vs → RDs e (cs.take k) (vs.take k)
  | _, _, 0, h => by simpa using .nil
  | _, _, k + 1, .nil => by simpa using .nil
  | _, _, k + 1, .cons a b => by simpa using .cons a (b.take k)
theorem RCs.map_c {e : E} : ∀ {cs : List CV} {vs : List Value}, RCs e.im e.w cs vs → RDs e (cs.map .c) vs
  | _, _, .nil => .nil
  | _, _, .cons _ a b => .cons (.c a) b.map_c

theorem closed_rd {e : E} {s : Addr → Prop} {d : DV} {c : CV} {v : Value} (h : closed? d = some c) (r : RD e s d v) : RC e.im e.w c v := by
  cases d <;> simp [closed?] at h
  · subst h; cases r; assumption
  · subst h
    have := r.unflag (s' := s)
    simp only [Abs.unflag] at this
    cases this; assumption
theorem closed_ok {d : DV} {c : CV} (h : closed? d = some c) (hk : cellOk d = true) : cvOk c = true := by
  cases d <;> simp [closed?] at h <;> subst h
  · exact hk
  · rfl
/-- Each with some right. -/
inductive RDw (e : E) : List DV → List Value → Prop
  | nil : RDw e [] []
  | cons {s : Addr → Prop} {d : DV} {v : Value} {ds : List DV} {vs : List Value} (h : RD e s d v) (hs : RDw e ds vs) : RDw e (d :: ds) (v :: vs)
theorem RDs.w {e : E} : ∀ {ds : List DV} {vs : List Value}, RDs e ds vs → RDw e ds vs
  | _, _, .nil => .nil
  | _, _, .cons a b => .cons a b.w
theorem RDw.of_get {e : E} : ∀ {cs : List DV} {vs : List Value}, cs.length = vs.length → (∀ (i : Nat) (c : DV) (v : Value), cs[i]? = some c → vs[i]? = some v → ∃ s, RD e s c v) → RDw e cs vs
  | [], [], _, _ => .nil
  | c :: cs, v :: vs, hl, h => by
    obtain ⟨s, h0⟩ := h 0 c v rfl rfl
    exact .cons h0 (RDw.of_get (by simpa using hl) fun i c' v' hc hv => h (i + 1) c' v' (by simpa using hc) (by simpa using hv))
  | [], _ :: _, hl, _ => by simp at hl
  | _ :: _, [], hl, _ => by simp at hl
theorem closeL_rds {e : E} : ∀ {ds : List DV} {cs : List CV} {vs : List Value}, closeL ds = some cs → ds.all cellOk = true → RDw e ds vs → RCs e.im e.w cs vs
  | [], cs, _, h, _, .nil => by simp [closeL] at h; subst h; exact .nil
  | d :: ds, cs, _, h, hk, .cons a b => by
    simp only [closeL] at h
    simp only [List.all_cons, Bool.and_eq_true] at hk
    split at h
    · rename_i c cs' h1 h2
      cases h
      exact .cons (closed_ok h1 hk.1) (closed_rd h1 a) (closeL_rds h2 hk.2 b)
    · cases h
theorem RDw.unflags {e : E} : ∀ {ds : List DV} {vs : List Value}, RDw e ds vs → RDs e (ds.map Abs.unflag) vs
  | _, _, .nil => .nil
  | _, _, .cons a b => .cons a.unflag b.unflags
theorem unflag_ok {d : DV} (h : cellOk d = true) : cellOk (unflag d) = true := by cases d <;> first | exact h | rfl
theorem unflags_ok {ds : List DV} (h : ds.all cellOk = true) : (ds.map unflag).all cellOk = true := by
  simp only [List.all_eq_true, List.mem_map] at *
  rintro x ⟨d, hd, rfl⟩
  exact unflag_ok (h d hd)
theorem mkAgg_rd {e : E} {s : Addr → Prop} {ds : List DV} {vs : List Value} (hk : ds.all cellOk = true) (h : RDw e ds vs) : RD e s (mkAgg ds) (.agg ⟨vs⟩) := by
  unfold mkAgg
  split
  · rename_i cs hc; exact .c (.agg (closeL_rds hc hk h))
  · exact .agg (unflags_ok hk) h.unflags

theorem ofV_rc {im : Addr → Prop} {w : World} {v : Value} {c : CV} (h : ofV v = some c) : RC im w c v := by
  unfold ofV at h
  split at h
  · cases h; exact .sc (by assumption)
  · split at h
    · cases h; exact .nil
    · cases h
theorem ofV_ok {v : Value} {c : CV} (h : ofV v = some c) : cvOk c = true := by
  unfold ofV at h
  split at h
  · cases h; rfl
  · split at h
    · cases h; rfl
    · cases h
theorem ofVs_rcs {im : Addr → Prop} {w : World} : ∀ {vs : List Value} {cs : List CV}, ofVs vs = some cs → RCs im w cs vs
  | [], cs, h => by simp [ofVs] at h; subst h; exact .nil
  | v :: vs, cs, h => by
    simp only [ofVs] at h
    split at h
    · rename_i c cs' h1 h2; cases h; exact .cons (ofV_ok h1) (ofV_rc h1) (ofVs_rcs h2)
    · cases h
theorem ofVal_rd {e : E} {s : Addr → Prop} (v : Value) : RD e s (ofVal v) v := by
  unfold ofVal
  split
  · rename_i vs
    split
    · rename_i cs h; exact .c (.agg (vs := vs.toList) (ofVs_rcs h))
    · exact .un
  · split
    · rename_i c h; exact .c (ofV_rc h)
    · exact .un

end Go.Abs
