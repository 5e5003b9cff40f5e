/- The document's Same, of two jobs that are the same. -/
import Derived.Test.YthhchicggidhcabDoorPSamex2
import Derived.Test.YthhchicggidhcabDoorMoEnc
namespace Go.Proofs.YthhchicggidhcabDoor
open Go.RowKit Go.Proofs.YthhchicggidhcabDoorW.PrintWords

def s65 (c : Int × Int × Int) : PSame.S43 := ⟨c.1, c.2.1, c.2.2⟩
theorem colls_C {w : World} {T : Nat} {A : Option Addr} {fs : List (Int × Int × Int)} (h : Reads w T A (colls fs)) (hl : fs.length ≤ 9223372036854775807) : Kd.C PSame.k43 w A (fs.map s65).length (fs.map s65) := by
  refine ⟨rfl, by rw [List.length_map]; exact hl, fun hn => ?_⟩
  rw [List.length_map] at hn
  obtain ⟨b, o, c, f, rfl, hb, hc⟩ := h (by rw [colls_length]; omega)
  refine ⟨_, rfl, fun j p hp => ⟨[.int .i64 p.f0, .int .i64 p.f1, .int .i64 p.f2], rfl, PSame.k43_mk w p, fun i u hu => ?_⟩⟩
  rw [List.getElem?_map] at hp
  have hj : j < fs.length := by
    refine Nat.lt_of_not_le fun hge => ?_
    rw [List.getElem?_eq_none hge] at hp; cases hp
  rw [List.getElem?_eq_getElem hj] at hp
  obtain rfl : s65 fs[j] = p := by simpa using hp
  obtain ⟨q0, q1, q2⟩ := colls_get fs j hj
  have e3 : (PSame.k43).sz = 3 := rfl
  have hi : i = 0 ∨ i = 1 ∨ i = 2 := by
    have := (List.getElem?_eq_some_iff.1 hu).1
    simp only [List.length_cons, List.length_nil] at this
    omega
  rw [add_plain', blk_cell hb, e3]
  rcases hi with rfl | rfl | rfl
  · rw [show o + (j * 3 + 0) = o + 3 * j by omega, hc _ (by rw [colls_length]; omega), q0]; exact hu
  · rw [show o + (j * 3 + 1) = o + (3 * j + 1) by omega, hc _ (by rw [colls_length]; omega), q1]; exact hu
  · rw [show o + (j * 3 + 2) = o + (3 * j + 2) by omega, hc _ (by rw [colls_length]; omega), q2]; exact hu
theorem same_l0 (a b : ByteArray) (x y : Int) (xs : List PSame.S43) (hx : xs.length ≤ 1048576) : ∀ (d k i : Nat), xs.length - i = d → i ≤ xs.length → d < k →
    PSame.moraineref27_Same.l0 k (i : Int) a b x y xs a b x y xs = some true := by
  intro d
  induction d with
  | zero =>
    intro k i hd hi hk
    obtain ⟨k, rfl⟩ : ∃ m, k = m + 1 := ⟨k - 1, by omega⟩
    simp only [PSame.moraineref27_Same.l0]
    rw [if_neg (by omega)]
  | succ d ih =>
    intro k i hd hi hk
    obtain ⟨k, rfl⟩ : ∃ m, k = m + 1 := ⟨k - 1, by omega⟩
    simp only [PSame.moraineref27_Same.l0]
    rw [if_pos (by omega), if_pos (by omega), if_pos (by omega)]
    simp only [beq_self_eq_true, Bool.not_true, Bool.or_self]
    rw [if_neg (by decide)]
    have e : wrap64 ((i : Int) + 1) = ((i + 1 : Nat) : Int) := by unfold wrap64; omega
    rw [e]
    exact ih k (i + 1) (by omega) (by omega) (by omega)
theorem same_f (a b : ByteArray) (x y : Int) (xs : List PSame.S43) (hx : xs.length ≤ 1048576) : PSame.moraineref27_Same.f (xs.length + 2) a b x y xs a b x y xs = some true := by
  unfold PSame.moraineref27_Same.f
  rw [if_pos rfl, if_pos rfl, if_pos rfl, if_pos rfl]
  simp only [bne_self_eq_false, PSame.moraineref27_Same.j0]
  rw [if_neg (by decide)]
  exact same_l0 a b x y xs hx xs.length (xs.length + 1) 0 (by omega) (by omega) (by omega)
theorem same_any (src inp : ByteArray) (lim fuel : Int) (fs : List (Int × Int × Int)) (A B : Option Addr) (c d : Nat) (w : World) {T U : Nat} (hA : Reads w T A (colls fs)) (hB : Reads w U B (colls fs)) (hl : fs.length ≤ 1048576) (hc : fs.length ≤ c) (hd : fs.length ≤ d) :
    Calls Tryd.prog 9 #[.agg #[.string src, .string inp, .int .i64 lim, .int .i64 fuel, .slice A fs.length c], .agg #[.string src, .string inp, .int .i64 lim, .int .i64 fuel, .slice B fs.length d]] w fun e w' => e = .returned (.bool true) ∧ Below w.heap.size w w' := by
  have h := PSame.moraineref27_Same.calls ((fs.map s65).length + 2) src inp lim fuel A c (fs.map s65) src inp lim fuel B d (fs.map s65) true w (colls_C hA (by omega)) (by rw [List.length_map]; exact hc) (colls_C hB (by omega)) (by rw [List.length_map]; exact hd) (same_f _ _ _ _ _ (by rw [List.length_map]; exact hl))
  rw [List.length_map] at h
  exact h
end Go.Proofs.YthhchicggidhcabDoor
