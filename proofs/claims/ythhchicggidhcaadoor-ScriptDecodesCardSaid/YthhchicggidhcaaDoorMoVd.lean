/- Numbers, amounts, bytes and collections, read from bytes: plain functions. -/
import Derived.Test.YthhchicggidhcaaDoorMoInfo
namespace Go.Proofs.YthhchicggidhcaaDoor
open Go.RowKit

def mk (l : List UInt8) : ByteArray := ⟨l.toArray⟩
theorem mk_list (l : List UInt8) : (mk l).data.toList = l := by simp [mk]
theorem mk_size (l : List UInt8) : (mk l).size = l.length := by simp [mk, ByteArray.size]
theorem mk_self (s : ByteArray) : mk s.data.toList = s := by simp [mk]
theorem mk_inj {a b : List UInt8} (h : mk a = mk b) : a = b := by rw [← mk_list a, h, mk_list]

theorem mk_empty {s : ByteArray} (h : s.size = 0) : s = mk [] := by
  have e : s.data.toList = [] := List.eq_nil_of_length_eq_zero (by rw [Array.length_toList]; exact h)
  rw [← mk_self s, e]
/-- A number's bytes, read on from place i, where x has come. -/
def vd : Nat → Nat → List UInt8 → Option (Nat × List UInt8)
  | _, _, [] => none
  | i, x, c :: r => if 10 ≤ i then none else
    if c.toNat < 128 then (if i = 9 ∧ 1 < c.toNat ∨ 0 < i ∧ c.toNat = 0 then none else some (x + c.toNat * 128 ^ i, r))
    else vd (i + 1) (x + c.toNat % 128 * 128 ^ i) r
def unz (x : Nat) : Int := if x % 2 = 1 then -((x / 2 : Nat) : Int) - 1 else ((x / 2 : Nat) : Int)
def dnum (l : List UInt8) : Option (Int × List UInt8) := (vd 0 0 l).map fun p => (unz p.1, p.2)
def damt (l : List UInt8) : Option (Nat × List UInt8) := match dnum l with
  | some (n, r) => if 0 ≤ n ∧ n ≤ r.length then some (n.toNat, r) else none
  | none => none
def dtext (l : List UInt8) : Option (List UInt8 × List UInt8) := (damt l).map fun p => (p.2.take p.1, p.2.drop p.1)
def dcolls : Nat → List UInt8 → Option (List (Int × Int × Int) × List UInt8)
  | 0, l => some ([], l)
  | k + 1, l => match dnum l with
    | none => none
    | some (x, l1) => match dnum l1 with
      | none => none
      | some (y, l2) => match dnum l2 with
        | none => none
        | some (z, l3) => match dcolls k l3 with
          | none => none
          | some (fs, l4) => some ((x, y, z) :: fs, l4)
end Go.Proofs.YthhchicggidhcaaDoor
