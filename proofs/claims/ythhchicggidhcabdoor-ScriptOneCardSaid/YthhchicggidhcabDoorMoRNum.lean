/- The document's num and Encode: a job's bytes. -/
import Derived.Test.YthhchicggidhcabDoorMoEnc
import Derived.Deep.RegionHeld3
import Derived.Deep.DeepCutAuto
import Derived.Deep.CutBlock
namespace Go.Proofs.YthhchicggidhcabDoor
open Go.RowKit

/-- The reference's bytes of a number. -/
def rzig (n : Int) : Int := if n < 0 then IntKind.u64.wrap (IntKind.u64.wrap (IntKind.u64.wrap (wrap64 (-(wrap64 (n + 1)))) * 2) + 1) else IntKind.u64.wrap (IntKind.u64.wrap n * 2)
theorem rzig_range (n : Int) : 0 ≤ rzig n := by
  unfold rzig
  simp only [IntKind.wrap_u64]
  split <;> omega
def rzigN (n : Int) : Nat := (rzig n).toNat
theorem rzigN_eq (n : Int) : rzig n = (rzigN n : Int) := (Int.toNat_of_nonneg (rzig_range n)).symm
theorem rzig_neg {n : Int} (h : n < 0) : IntKind.u64.wrap (IntKind.u64.wrap (IntKind.u64.wrap (wrap64 (-(wrap64 (n + 1)))) * 2) + 1) = (rzigN n : Int) := by
  rw [← rzigN_eq, rzig, if_pos h]
theorem rzig_pos {n : Int} (h : ¬ n < 0) : IntKind.u64.wrap (IntKind.u64.wrap n * 2) = (rzigN n : Int) := by
  rw [← rzigN_eq, rzig, if_neg h]
def renc (x : Nat) : List Int := if h : x < 128 then [(x : Int)] else (128 + (x : Int) % 128) :: renc (x / 128)
termination_by x
decreasing_by omega
theorem renc_small {x : Nat} (h : x < 128) : renc x = [(x : Int)] := by rw [renc, dif_pos h]
theorem renc_more {x : Nat} (h : ¬ x < 128) : renc x = (128 + (x : Int) % 128) :: renc (x / 128) := by rw [renc, dif_neg h]
theorem renc_len : ∀ (n x : Nat), x < 128 ^ (n + 1) → (renc x).length ≤ n + 1
  | 0, x, h => by rw [renc_small (by omega)]; simp
  | n + 1, x, h => by
    by_cases h1 : x < 128
    · rw [renc_small h1]; simp
    · rw [renc_more h1]
      have := renc_len n (x / 128) (by rw [Nat.div_lt_iff_lt_mul (by omega)]; rw [Nat.pow_succ] at h; exact h)
      simp only [List.length_cons]; omega
theorem rzigN_lt64 (n : Int) : rzigN n < 18446744073709551616 := by
  have h : rzig n < 18446744073709551616 := by
    unfold rzig
    simp only [IntKind.wrap_u64]
    split <;> omega
  have := rzigN_eq n
  omega
theorem u64_small {x : Nat} (h : x < 18446744073709551616) : IntKind.u64.wrap ((x : Int) / 128) = ((x / 128 : Nat) : Int) := by
  rw [IntKind.wrap_u64]; omega
theorem rzigN_lt (n : Int) : rzigN n < 128 ^ 10 := by
  have h : rzig n < 18446744073709551616 := by
    unfold rzig
    simp only [IntKind.wrap_u64]
    split <;> omega
  have := rzigN_eq n
  omega
def rnum (n : Int) : List Int := renc (rzigN n)
theorem rnum_len (n : Int) : (rnum n).length ≤ 10 := renc_len 9 _ (rzigN_lt n)
end Go.Proofs.YthhchicggidhcabDoor
