/- The program's bytes of a number are the document's. -/
import Derived.Test.YthhchicggidhcaaDoorMoRNum
namespace Go.Proofs.YthhchicggidhcaaDoor
open Go.RowKit

theorem or128 : ∀ a : Nat, a < 256 → bits .or .u8 (a : Int) 128 = ((128 + a % 128 : Nat) : Int) := by decide +kernel

theorem venc_renc : ∀ (n x : Nat), x < n → venc x = renc x
  | 0, x, h => by omega
  | n + 1, x, h => by
    by_cases h1 : x < 128
    · rw [venc_small h1, renc_small h1]
    · rw [venc_more h1, renc_more h1, venc_renc n (x / 128) (by omega)]
      have h2 := or128 (x % 256) (by omega)
      rw [show ((x : Int) % 256) = ((x % 256 : Nat) : Int) by omega, h2]
      congr 1
      omega

theorem xor_bv (x y : Int) : bits .xor .u64 x y = IntKind.u64.wrap (((BitVec.ofInt 64 x) ^^^ (BitVec.ofInt 64 y)).toNat : Int) := rfl
theorem xor_ones (a : Nat) (h : a < 18446744073709551616) : bits .xor .u64 (a : Int) 18446744073709551615 = 18446744073709551615 - (a : Int) := by
  rw [xor_bv, show BitVec.ofInt 64 18446744073709551615 = BitVec.allOnes 64 by decide, BitVec.xor_allOnes, BitVec.toNat_not, BitVec.ofInt_natCast, BitVec.toNat_ofNat,
    Nat.mod_eq_of_lt (show a < 2 ^ 64 from h), IntKind.wrap_u64]
  omega
theorem xor_zero (a : Nat) (h : a < 18446744073709551616) : bits .xor .u64 (a : Int) 0 = (a : Int) := by
  rw [xor_bv, show BitVec.ofInt 64 0 = 0#64 by decide, BitVec.xor_zero, BitVec.ofInt_natCast, BitVec.toNat_ofNat, Nat.mod_eq_of_lt (show a < 2 ^ 64 from h), IntKind.wrap_u64]
  omega

theorem zig_rzig (n : Int) (h1 : -9223372036854775808 ≤ n) (h2 : n ≤ 9223372036854775807) : zig n = rzig n := by
  unfold zig rzig wrap64
  by_cases h : n < 0
  · rw [if_pos h]
    have e1 : IntKind.u64.wrap (n / 9223372036854775808) = 18446744073709551615 := by rw [IntKind.wrap_u64]; omega
    have e2 : IntKind.u64.wrap (IntKind.u64.wrap n * 2) = ((2 * n + 18446744073709551616).toNat : Int) := by simp only [IntKind.wrap_u64]; omega
    rw [e1, e2, xor_ones _ (by omega)]
    simp only [IntKind.wrap_u64]
    omega
  · rw [if_neg h]
    have e1 : IntKind.u64.wrap (n / 9223372036854775808) = 0 := by rw [IntKind.wrap_u64]; omega
    have e2 : IntKind.u64.wrap (IntKind.u64.wrap n * 2) = ((2 * n).toNat : Int) := by simp only [IntKind.wrap_u64]; omega
    rw [e1, e2, xor_zero _ (by omega)]

/-- A number of 64 bits. -/
def I64 (n : Int) : Prop := -9223372036854775808 ≤ n ∧ n ≤ 9223372036854775807
theorem rnum_enc {n : Int} (h : I64 n) : rnum n = encs [n] := by
  simp only [encs, List.flatMap_cons, List.flatMap_nil, List.append_nil, rnum]
  have : rzigN n = zigN n := by unfold rzigN zigN; rw [zig_rzig n h.1 h.2]
  rw [this, venc_renc _ _ (Nat.lt_succ_self _)]
end Go.Proofs.YthhchicggidhcaaDoor
