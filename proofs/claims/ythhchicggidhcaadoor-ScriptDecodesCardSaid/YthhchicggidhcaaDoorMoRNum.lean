/- The document's num and Encode: a job's bytes. -/
import Derived.Test.YthhchicggidhcaaDoorMoEnc
import Derived.Deep.RegionHeld3
import Derived.Deep.DeepCutAuto
import Derived.Deep.CutBlock
namespace Go.Proofs.YthhchicggidhcaaDoor
open Go.RowKit

/-- The reference's bytes of a number. -/
def rzig (n : Int) : Int := if n < 0 then IntKind.u64.wrap (IntKind.u64.wrap (IntKind.u64.wrap (wrap64 (-(wrap64 (n + 1)))) * 2) + 1) else IntKind.u64.wrap (IntKind.u64.wrap n * 2)
theorem rzig_range (n : Int) : 0 ≤ rzig n := by
  unfold rzig
  simp only [IntKind.wrap_u64]
  split <;> omega
def rzigN (n : Int) : Nat := (rzig n).toNat
theorem rzigN_eq (n : Int) : rzig n = (rzigN n : Int) := (Int.toNat_of_nonneg (rzig_range n)).symm
theorem rzig_neg {n : Int} (h : n < 0) : IntKind.u64.wrap (IntKind.u64.wrap (IntKind.u64.wrap (wrap64 (-(wrap64 (n + 1)))) * 2) + 1) = (rzigN n : Int) := by
  rw [← rzigN_eq, rzig, if_pos h]
theorem rzig_pos {n : Int} (h : ¬ n < 0) : IntKind.u64.wrap (IntKind.u64.wrap n * 2) = (rzigN n : Int) := by
  rw [← rzigN_eq, rzig, if_neg h]
def renc (x : Nat) : List Int := if h : x < 128 then [(x : Int)] else (128 + (x : Int) % 128) :: renc (x / 128)
termination_by x
decreasing_by omega
theorem renc_small {x : Nat} (h : x < 128) : renc x = [(x : Int)] := by rw [renc, dif_pos h]
theorem renc_more {x : Nat} (h : ¬ x < 128) : renc x = (128 + (x : Int) % 128) :: renc (x / 128) := by rw [renc, dif_neg h]
theorem renc_len : ∀ (n x : Nat), x < 128 ^ (n + 1) → (renc x).length ≤ n + 1
  | 0, x, h => by rw [renc_small (by omega)]; simp
  | n + 1, x, h => by
    by_cases h1 : x < 128
    · rw [renc_small h1]; simp
    · rw [renc_more h1]
      have := renc_len n (x / 128) (by rw [Nat.div_lt_iff_lt_mul (by omega)]; rw [Nat.pow_succ] at h; exact h)
      simp only [List.length_cons]; omega
theorem rzigN_lt64 (n : Int) : rzigN n < 18446744073709551616 := by
  have h : rzig n < 18446744073709551616 := by
    unfold rzig
    simp only [IntKind.wrap_u64]
    split <;> omega
  have := rzigN_eq n
  omega
theorem u64_small {x : Nat} (h : x < 18446744073709551616) : IntKind.u64.wrap ((x : Int) / 128) = ((x / 128 : Nat) : Int) := by
  rw [IntKind.wrap_u64]; omega
theorem rzigN_lt (n : Int) : rzigN n < 128 ^ 10 := by
  have h : rzig n < 18446744073709551616 := by
    unfold rzig
    simp only [IntKind.wrap_u64]
    split <;> omega
  have := rzigN_eq n
  omega
def rnum (n : Int) : List Int := renc (rzigN n)
theorem rnum_len (n : Int) : (rnum n).length ≤ 10 := renc_len 9 _ (rzigN_lt n)

set_option maxRecDepth 100000 in
set_option maxHeartbeats 400000 in
theorem rnum_any (n : Int) (w : World) :
    Calls Tryd.prog 32 #[.int .i64 n] w fun e w' =>
      ∃ A c, e = .returned (.slice A (rnum n).length c) ∧ w'.ownsRow w.heap.size 5 1 (.slice A (rnum n).length c) (rnum n).length (ints .u8 (rnum n)) ∧ Below w.heap.size w w' := by
  have HLen := Lib.hid (rnum_len n)
  by_cases h0 : n < 0
  case' pos =>
    have HZ := Lib.hid (rzig_neg h0)
    go_enter Tryd.func32, Tryd.ntmps32
    go_wp2_with fail
    rw [HZ.out]
    clear HZ
  case' neg =>
    have HZ := Lib.hid (rzig_pos h0)
    go_enter Tryd.func32, Tryd.ntmps32
    go_wp2_with fail
    rw [HZ.out]
    clear HZ
  all_goals
    clear h0
    obtain ⟨T, hT⟩ : ∃ T, T = rnum n := ⟨_, rfl⟩
    have HTE := Lib.hid hT
    have HD := Lib.hid (show renc (rzigN n) = T from hT ▸ rfl)
    rw [← hT] at HLen
    clear hT
    have HX0 := Lib.hid (rzigN_lt64 n)
    generalize rzigN n = x0 at *
    go_loopw [3, 4] (fun xv bv wr => ∃ (x : Nat) (ys : List Int) (A : Option Addr) (c : Nat), xv = .int .u64 x ∧ Hid (x < 18446744073709551616) ∧ bv = .slice A ys.length c ∧ Hid (ys ++ renc x = T) ∧ wr.ownsRow w.heap.size 5 1 (.slice A ys.length c) ys.length (ints .u8 ys) ∧ Below w.heap.size w wr) (fun xv _ _ => (intOf xv).toNat)
    case atStart => exact ⟨x0, [], none, 0, rfl, HX0, rfl, Lib.hid (by rw [List.nil_append]; exact HD.out), own_nil' _ _ _ _, Below.refl _ _⟩
    case round =>
      clear HD
      obtain ⟨x, ys, A, c, rfl, HX, rfl, HY, hown, hB⟩ := hrel
      have hyl : ys.length + 1 ≤ 10 := by
        have h1 := HLen.out
        have h2 : 0 < (renc x).length := by rw [renc]; split <;> simp
        rw [← HY.out, List.length_append] at h1; omega
      have hbs := hB.size
      by_cases h127 : x < 128
      · go_wp2_with (at_builtin; go_must (refine app1 hown Tryd.underlying59 infoU8 rfl (by decide) (by unfold maxLen; omega) (by omega) hbs rfl rfl rfl rfl _ rfl (by simp [Value.oneCell']) ?_); intro A' c' w' hown' hg)
        go_ret
        have hT := HY.out
        rw [renc_small h127] at hT
        have hTE := HTE.out
        subst hT
        rw [← hTE]
        have hF := Fr.app (T := [5]) _ hown hg (by decide) (Nat.le_refl _)
        refine ⟨A', c', by simp, ?_, hB.trans (hF.below hbs)⟩
        simpa [ints] using hown'
      · go_wp2_with (at_builtin; go_must (refine app1 hown Tryd.underlying59 infoU8 rfl (by decide) (by unfold maxLen; omega) (by omega) hbs rfl rfl rfl rfl _ rfl (by simp [Value.oneCell']) ?_); intro A' c' w' hown' hg)
        have hT := HY.out
        rw [renc_more h127] at hT
        have hF := Fr.app (T := [5]) _ hown hg (by decide) (Nat.le_refl _)
        go_roundw
        case rel => exact ⟨x / 128, ys ++ [128 + (x : Int) % 128], A', c', by rw [u64_small HX.out], Lib.hid (by have := HX.out; omega), by simp, Lib.hid (by simpa using hT), by simpa [ints] using hown', hB.trans (hF.below hbs)⟩
        case measure => rw [u64_small HX.out]; simp [intOf]; omega
end Go.Proofs.YthhchicggidhcaaDoor
