/-
  The program's structures, as cells: printed by the session's own tool.
-/
import Derived.Test.YtkfmoodaplelnaaAbs43
set_option linter.unusedVariables false
set_option linter.unusedSimpArgs false
namespace Go.Abs
open Go
structure GNest where
  outer : Int
  inner : Int
  deriving DecidableEq
instance : Enc GNest := ⟨2, fun a => [cInt a.outer] ++ [cInt a.inner], fun a => by simp [Enc.len, Enc.sz]⟩
instance : EncX GNest := ⟨fun a => [cInt a.outer] ++ [cInt a.inner], fun a => by simp [EncX.eq, Enc.enc]⟩
structure GExpr where
  op : Int
  mon : ByteArray
  name : ByteArray
  n_ : Int
  kids : Sl GExpr
  at_ : Int
mutual
def GExpr.encR : GExpr → List CV
  | ⟨a0, a1, a2, a3, ⟨nl4, x4, l4⟩, a5⟩ => [cInt a0] ++ [.sc (.string a1)] ++ [.sc (.string a2)] ++ [cInt a3] ++ [.sl nl4 x4 (GExpr.encL1 l4) l4.length] ++ [cInt a5]
def GExpr.encL1 : List GExpr → List CV
  | [] => []
  | a :: tl => a.encR ++ GExpr.encL1 tl
end
theorem GExpr.encR_len (a : GExpr) : a.encR.length = 6 := by
  obtain ⟨a0, a1, a2, a3, ⟨nl4, x4, l4⟩, a5⟩ := a
  simp [GExpr.encR, Enc.len, Enc.sz]
instance : Enc GExpr := ⟨6, GExpr.encR, GExpr.encR_len⟩
theorem GExpr.encL1_eq : ∀ l : List GExpr, GExpr.encL1 l = cells l
  | [] => rfl
  | a :: tl => by rw [GExpr.encL1, GExpr.encL1_eq tl]; rfl
instance : EncX GExpr := ⟨fun a => [cInt a.op] ++ [.sc (.string a.mon)] ++ [.sc (.string a.name)] ++ [cInt a.n_] ++ [eSl a.kids] ++ [cInt a.at_], fun a => by
  obtain ⟨a0, a1, a2, a3, ⟨nl4, x4, l4⟩, a5⟩ := a
  simp [Enc.enc, GExpr.encR, EncX.eq, GExpr.encL1_eq, eSl]⟩
structure GEdge where
  from_ : Int
  to_ : Int
  kind : Int
  mon : Int
  var : Int
  e_ : GExpr
  n_ : Int
  site : Int
  out : Int
  at_ : Int
instance : Enc GEdge := ⟨15, fun a => [cInt a.from_] ++ [cInt a.to_] ++ [cInt a.kind] ++ [cInt a.mon] ++ [cInt a.var] ++ Enc.enc a.e_ ++ [cInt a.n_] ++ [cInt a.site] ++ [cInt a.out] ++ [cInt a.at_], fun a => by simp [Enc.len, Enc.sz]⟩
instance : EncX GEdge := ⟨fun a => [cInt a.from_] ++ [cInt a.to_] ++ [cInt a.kind] ++ [cInt a.mon] ++ [cInt a.var] ++ EncX.encX a.e_ ++ [cInt a.n_] ++ [cInt a.site] ++ [cInt a.out] ++ [cInt a.at_], fun a => by simp [EncX.eq, Enc.enc]⟩
structure GGuard where
  mon : Int
  e_ : GExpr
  loop : Bool
instance : Enc GGuard := ⟨8, fun a => [cInt a.mon] ++ Enc.enc a.e_ ++ [.sc (.bool a.loop)], fun a => by simp [Enc.len, Enc.sz]⟩
instance : EncX GGuard := ⟨fun a => [cInt a.mon] ++ EncX.encX a.e_ ++ [.sc (.bool a.loop)], fun a => by simp [EncX.eq, Enc.enc]⟩
structure GFlow where
  name : ByteArray
  star : Bool
  locs : Int
  edges : Sl GEdge
  guards : Sl GGuard
instance : Enc GFlow := ⟨5, fun a => [.sc (.string a.name)] ++ [.sc (.bool a.star)] ++ [cInt a.locs] ++ [eSl a.edges] ++ [eSl a.guards], fun a => by simp [Enc.len, Enc.sz]⟩
instance : EncX GFlow := ⟨fun a => [.sc (.string a.name)] ++ [.sc (.bool a.star)] ++ [cInt a.locs] ++ [eSl a.edges] ++ [eSl a.guards], fun a => by simp [EncX.eq, Enc.enc]⟩
structure Held_owned where
  a0 : Int
  a1 : Int
  a2 : Int
  a3 : Int
  a4 : Int
  a5 : Int
  a6 : Int
  a7 : Int
  deriving DecidableEq
instance : Enc Held_owned := ⟨8, fun a => [cInt a.a0] ++ [cInt a.a1] ++ [cInt a.a2] ++ [cInt a.a3] ++ [cInt a.a4] ++ [cInt a.a5] ++ [cInt a.a6] ++ [cInt a.a7], fun a => by simp [Enc.len, Enc.sz]⟩
instance : EncX Held_owned := ⟨fun a => [cInt a.a0] ++ [cInt a.a1] ++ [cInt a.a2] ++ [cInt a.a3] ++ [cInt a.a4] ++ [cInt a.a5] ++ [cInt a.a6] ++ [cInt a.a7], fun a => by simp [EncX.eq, Enc.enc]⟩
instance : EncD Held_owned := ⟨fun a => .agg (EncX.encX a)⟩
def Held_owned.get (a : Held_owned) : Nat → Int
  | 0 => a.a0
  | 1 => a.a1
  | 2 => a.a2
  | 3 => a.a3
  | 4 => a.a4
  | 5 => a.a5
  | 6 => a.a6
  | 7 => a.a7
  | _ => 0
def Held_owned.upd (a : Held_owned) (i : Nat) (x : Int) : Held_owned :=
  ⟨if i = 0 then x else a.a0, if i = 1 then x else a.a1, if i = 2 then x else a.a2, if i = 3 then x else a.a3, if i = 4 then x else a.a4, if i = 5 then x else a.a5, if i = 6 then x else a.a6, if i = 7 then x else a.a7⟩
theorem Held_owned.get_at (a : Held_owned) {i : Int} (h : 0 ≤ i ∧ i < (8 : Int)) : ((EncX.encX a).map DV.c)[0 + i.toNat * 1 + 0]? = some (.c (cInt (a.get i.toNat))) := by
  obtain ⟨j, rfl⟩ := Int.eq_ofNat_of_zero_le h.1
  have hj : j < 8 := by omega
  simp only [Int.toNat_natCast, Nat.zero_add, Nat.mul_one, Nat.add_zero]
  match j, hj with
  | 0, _ => rfl
  | 1, _ => rfl
  | 2, _ => rfl
  | 3, _ => rfl
  | 4, _ => rfl
  | 5, _ => rfl
  | 6, _ => rfl
  | 7, _ => rfl
  | j + 8, h => omega
theorem Held_owned.upd_at (a : Held_owned) (x : Int) {i : Int} (h : 0 ≤ i ∧ i < (8 : Int)) : (0 + i.toNat * 1 + 0) + 1 ≤ ((EncX.encX a).map DV.c).length ∧ setL ((EncX.encX a).map DV.c) (0 + i.toNat * 1 + 0) [dInt x] = (EncX.encX (a.upd i.toNat x)).map DV.c := by
  obtain ⟨j, rfl⟩ := Int.eq_ofNat_of_zero_le h.1
  have hj : j < 8 := by omega
  simp only [Int.toNat_natCast, Nat.zero_add, Nat.mul_one, Nat.add_zero]
  match j, hj with
  | 0, _ => exact ⟨Nat.le_of_ble_eq_true rfl, rfl⟩
  | 1, _ => exact ⟨Nat.le_of_ble_eq_true rfl, rfl⟩
  | 2, _ => exact ⟨Nat.le_of_ble_eq_true rfl, rfl⟩
  | 3, _ => exact ⟨Nat.le_of_ble_eq_true rfl, rfl⟩
  | 4, _ => exact ⟨Nat.le_of_ble_eq_true rfl, rfl⟩
  | 5, _ => exact ⟨Nat.le_of_ble_eq_true rfl, rfl⟩
  | 6, _ => exact ⟨Nat.le_of_ble_eq_true rfl, rfl⟩
  | 7, _ => exact ⟨Nat.le_of_ble_eq_true rfl, rfl⟩
  | j + 8, h => omega
end Go.Abs
