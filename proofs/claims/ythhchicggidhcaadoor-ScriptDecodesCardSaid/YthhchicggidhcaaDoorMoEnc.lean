/- The program's Encode: a job's bytes. -/
import Derived.Test.YthhchicggidhcaaDoorMoPut
namespace Go.Proofs.YthhchicggidhcaaDoor
open Go.RowKit

theorem IsW.below {base b : Nat} {w w' : World} {xs : List Int} (h : IsW base b w xs) (hb : Below w.heap.size w w') : IsW base b w' xs := by
  obtain ⟨h1, v, h2, h3⟩ := h
  exact ⟨h1, v, blk_belowS hb h2, own_below' h3 hb⟩
theorem IsW.alloc {base b : Nat} {w : World} {xs : List Int} (h : IsW base b w xs) (o : Obj) : IsW base b (w.alloc o) xs := h.below ((Below.refl _ _).alloc (Nat.le_refl _) o)

theorem Reads.lit1 (w : World) (T : Nat) (v : Value) : Reads (w.alloc (.cells #[v] T)) T (some ⟨w.heap.size, 0, none⟩) [v] := Reads.lit w T [v]

theorem venc_len : ∀ (n x : Nat), x < 128 ^ (n + 1) → (venc x).length ≤ n + 1
  | 0, x, h => by rw [venc_small (by omega)]; simp
  | n + 1, x, h => by
    by_cases h1 : x < 128
    · rw [venc_small h1]; simp
    · rw [venc_more h1]
      have := venc_len n (x / 128) (by rw [Nat.div_lt_iff_lt_mul (by omega)]; rw [Nat.pow_succ] at h; exact h)
      simp only [List.length_cons]; omega
theorem zigN_lt (n : Int) : zigN n < 128 ^ 10 := by
  have h : zig n < 18446744073709551616 := by
    unfold zig bits
    simp only [IntKind.wrap_u64]
    omega
  have := zigN_eq n
  omega
theorem encs_len (ns : List Int) : (encs ns).length ≤ 10 * ns.length := by
  induction ns with
  | nil => simp [encs]
  | cons n ns ih =>
    have h := venc_len 9 (zigN n) (zigN_lt n)
    simp only [encs, List.flatMap_cons, List.length_append, List.length_cons] at ih ⊢
    omega
theorem encs_app (xs ys : List Int) : encs (xs ++ ys) = encs xs ++ encs ys := by simp [encs]

set_option maxRecDepth 100000 in
set_option maxHeartbeats 400000 in
theorem text_any (b : Nat) (s : ByteArray) (base : Nat) (xs : List Int) (w : World) (hW : IsW base b w xs)
    (hs : s.size ≤ 1048576) (hx : xs.length ≤ 1048576) :
    Calls Tryd.prog 31 #[.pointer (some ⟨b, 0, none⟩), .string s] w fun e w' =>
      e = .returned (.tuple #[]) ∧ IsW base b w' (xs ++ encs [(s.size : Int)] ++ bytesOf' s) ∧ Fr [61, 5] base w w' := by
  have hl := encs_len [(s.size : Int)]
  simp only [List.length_cons, List.length_nil] at hl
  go_enter Tryd.func31, Tryd.ntmps31
  go_wp2_with fail
  refine (put_any b _ [(s.size : Int)] 1 1 rfl base xs _ (hW.alloc _) (Reads.lit1 w _ _) (by simp) (by simp; omega)).mono ?_
  rintro e w1 ⟨rfl, hW1, hF⟩
  have hln : (xs ++ encs [(s.size : Int)]).length ≤ 1048586 := by simp; omega
  generalize hz : xs ++ encs [(s.size : Int)] = zs at *
  have HZ := Lib.hid hz
  clear hz
  obtain ⟨hbb, v, hv, hown⟩ := hW1
  have hc1 : w1.cell? ⟨b, 0, none⟩ = some v := by rw [blk_cell hv]; rfl
  have hf1 : w1.frozen? ⟨b, 0, none⟩ = false := blk_free hv
  have hne := own_far hown hv (by decide)
  have hbs : base ≤ w1.heap.size := Nat.le_of_lt (Nat.lt_of_le_of_lt hbb (blk_lt hv))
  obtain ⟨va, vc, rfl, hvc⟩ := own_lt' hown
  go_wp2_with (at_builtin; go_must (refine appS hown Tryd.underlying59 Tryd.underlying9 infoU8 s (by unfold maxLen; omega) (by omega) hbs rfl rfl rfl rfl ?_); intro A' c' w' hown' hg; have hb' := blk_grown hg hv hne; have hc' := blk_cell (j := 0) hb'; have hf' := blk_free (j := 0) hb')
  go_end0
  rw [strCells_ints, ← bytesOf'_length] at hown'
  rw [HZ.out]
  rw [← bytesOf'_length]
  obtain ⟨g1, g2⟩ := W_app0 hbb hv hown hg hown'
  exact ⟨rfl, g1, (((Fr.refl _ _ _).alloc _).trans hF).trans g2⟩

/-- A collection's cells. -/
def colls (fs : List (Int × Int × Int)) : List Value := fs.flatMap fun c => [.int .i64 c.1, .int .i64 c.2.1, .int .i64 c.2.2]
theorem colls_length (fs : List (Int × Int × Int)) : (colls fs).length = 3 * fs.length := by
  induction fs with
  | nil => rfl
  | cons c fs ih => simp only [colls, List.flatMap_cons, List.length_append, List.length_cons, List.length_nil] at ih ⊢; omega
theorem colls_get (fs : List (Int × Int × Int)) (k : Nat) (h : k < fs.length) : (colls fs)[3 * k]? = some (.int .i64 fs[k].1) ∧ (colls fs)[3 * k + 1]? = some (.int .i64 fs[k].2.1) ∧ (colls fs)[3 * k + 2]? = some (.int .i64 fs[k].2.2) := by
  induction fs generalizing k with
  | nil => simp at h
  | cons c fs ih =>
    cases k with
    | zero => simp [colls]
    | succ k =>
      have := ih k (by simpa using h)
      simp only [colls, List.flatMap_cons, List.getElem_cons_succ] at this ⊢
      rw [show 3 * (k + 1) = 3 * k + 3 by omega, show 3 * k + 3 + 1 = 3 * k + 1 + 3 by omega, show 3 * k + 3 + 2 = 3 * k + 2 + 3 by omega]
      simpa using this

def collBytes (fs : List (Int × Int × Int)) : List Int := fs.flatMap fun c => encs [c.1, c.2.1, c.2.2]
theorem collBytes_len (fs : List (Int × Int × Int)) : (collBytes fs).length ≤ 30 * fs.length := by
  induction fs with
  | nil => simp [collBytes]
  | cons c fs ih =>
    have h := encs_len [c.1, c.2.1, c.2.2]
    simp only [collBytes, List.flatMap_cons, List.length_append, List.length_cons, List.length_nil] at ih h ⊢
    omega
theorem collBytes_take (fs : List (Int × Int × Int)) (k : Nat) (h : k < fs.length) : collBytes (fs.take (k + 1)) = collBytes (fs.take k) ++ encs [fs[k].1, fs[k].2.1, fs[k].2.2] := by
  rw [List.take_succ_eq_append_getElem h]; simp only [collBytes, List.flatMap_append, List.flatMap_cons, List.flatMap_nil, List.append_nil]
/-- A job's bytes. -/
def jobBytes (src inp : ByteArray) (lim fuel : Int) (fs : List (Int × Int × Int)) : List Int :=
  encs [lim, fuel] ++ (encs [(inp.size : Int)] ++ bytesOf' inp) ++ encs [(fs.length : Int)] ++ collBytes fs ++ (encs [(src.size : Int)] ++ bytesOf' src)

def encRes1 (Y : List Int) : Value := if 65536 < Y.length then .tuple #[.string ⟨#[]⟩, .int .i64 12] else .tuple #[.string (strOfNums Y), .int .i64 0]
def encRes (src inp : ByteArray) (lim fuel : Int) (fs : List (Int × Int × Int)) : Value := encRes1 (jobBytes src inp lim fuel fs)

set_option maxRecDepth 100000 in
set_option maxHeartbeats 400000 in
theorem Encode_long (src inp : ByteArray) (lim fuel : Int) (fs : List (Int × Int × Int)) (A : Option Addr) (c : Nat) (w : World) (hfl : fs.length ≤ 9223372036854775807) (hs : src.size + inp.size ≤ 9223372036854775807)
    (h : 1000 < fs.length ∨ 65536 < src.size + inp.size) :
    Calls Tryd.prog 13 #[.agg #[.string src, .string inp, .int .i64 lim, .int .i64 fuel, .slice A fs.length c]] w fun e w' =>
      e = .returned (.tuple #[.string ⟨#[]⟩, .int .i64 12]) ∧ Below w.heap.size w w' := by
  by_cases h1 : 1000 < fs.length
  · clear h
    go_enter Tryd.func13, Tryd.ntmps13
    go_wp2_with fail
    go_ret2
    exact ⟨rfl, (Below.refl _ _).alloc (Nat.le_refl _) _⟩
  · have h2 : 65536 < src.size + inp.size := by omega
    clear h
    go_enter Tryd.func13, Tryd.ntmps13
    go_wp2_with fail
    go_ret2
    exact ⟨rfl, (Below.refl _ _).alloc (Nat.le_refl _) _⟩

set_option maxRecDepth 100000 in
set_option maxHeartbeats 400000 in
theorem Encode_any (src inp : ByteArray) (lim fuel : Int) (fs : List (Int × Int × Int)) (A : Option Addr) (c : Nat) (w : World) {T : Nat} (hR : Reads w T A (colls fs))
    (h1 : fs.length ≤ 1000) (h2 : src.size + inp.size ≤ 65536) :
    Calls Tryd.prog 13 #[.agg #[.string src, .string inp, .int .i64 lim, .int .i64 fuel, .slice A fs.length c]] w fun e w' =>
      e = .returned (encRes src inp lim fuel fs) ∧ Below w.heap.size w w' := by
  go_enter Tryd.func13, Tryd.ntmps13
  go_wp2_with fail
  have hJ := heap_alloc_new w (.cells #[.string src, .string inp, .int .i64 lim, .int .i64 fuel, .slice A fs.length c] 24)
  have hB : Below w.heap.size w (w.alloc (.cells #[.string src, .string inp, .int .i64 lim, .int .i64 fuel, .slice A fs.length c] 24)) := (Below.refl _ _).alloc (Nat.le_refl _) _
  have hS : w.heap.size + 1 = (w.alloc (.cells #[.string src, .string inp, .int .i64 lim, .int .i64 fuel, .slice A fs.length c] 24)).heap.size := by simp
  generalize w.alloc (.cells #[.string src, .string inp, .int .i64 lim, .int .i64 fuel, .slice A fs.length c] 24) = W at *
  have hw1 := blk_new (.cells #[.slice none 0 0] 61) hS
  have hS2 : w.heap.size + 1 + 1 = (W.alloc (.cells #[.slice none 0 0] 61)).heap.size := by rw [hS]; simp
  have HJ := Lib.hid hJ
  have HS := Lib.hid hS
  clear hJ hS
  have hl1 := encs_len [lim, fuel]
  have hl2 := encs_len [(inp.size : Int)]
  have hl3 := encs_len [(fs.length : Int)]
  have hl4 := encs_len [(src.size : Int)]
  simp only [List.length_cons, List.length_nil] at hl1 hl2 hl3 hl4
  with_reducible refine (put_any (w.heap.size + 1) _ [lim, fuel] 2 2 rfl w.heap.size [] _ ((IsW.empty (by omega) hw1).alloc _) (Reads.litAt _ [.int .i64 lim, .int .i64 fuel] hS2) (by simp) (by simp; omega)).mono ?_
  rintro e w1 ⟨rfl, hW1, hF1⟩
  rw [List.nil_append] at hW1
  have hG1 : Fr [61, 5] w.heap.size W w1 := (((Fr.refl _ _ _).alloc _).alloc _).trans hF1
  clear hF1 hw1 hS2
  have hj1 := blk_fr hG1 HJ.out (by decide)
  have hj1_1 : w1.cell? ⟨w.heap.size, 1, none⟩ = some (.string inp) := by rw [blk_cell hj1]; rfl
  go_wp2_with fail
  with_reducible refine (text_any (w.heap.size + 1) inp w.heap.size _ w1 hW1 (by omega) (by omega)).mono ?_
  rintro e w2 ⟨rfl, hW2, hF2⟩
  have hG2 := hG1.trans hF2
  clear hG1 hF2 hj1_1 hW1
  have hj2 := blk_fr hG2 HJ.out (by decide)
  have hj2_4 : w2.cell? ⟨w.heap.size, 4, none⟩ = some (.slice A fs.length c) := by rw [blk_cell hj2]; rfl
  go_wp2_with fail
  with_reducible refine (put_any (w.heap.size + 1) _ [(fs.length : Int)] 1 1 rfl w.heap.size _ _ (hW2.alloc _) (Reads.lit _ _ [.int .i64 (fs.length : Int)]) (by simp) (by simp [bytesOf'_length]; omega)).mono ?_
  rintro e w3 ⟨rfl, hW3, hF3⟩
  have hG3 := (hG2.alloc _).trans hF3
  clear hG2 hF3 hj2_4 hW2
  have hj3 := blk_fr hG3 HJ.out (by decide)
  have hj3_4 : w3.cell? ⟨w.heap.size, 4, none⟩ = some (.slice A fs.length c) := by rw [blk_cell hj3]; rfl
  have hX : (encs [lim, fuel] ++ encs [(inp.size : Int)] ++ bytesOf' inp ++ encs [(fs.length : Int)]).length ≤ 70000 := by
    simp only [List.length_append, bytesOf'_length]; omega
  generalize hXe : encs [lim, fuel] ++ encs [(inp.size : Int)] ++ bytesOf' inp ++ encs [(fs.length : Int)] = X at hW3 hX
  have HX := Lib.hid hXe
  clear hXe hl1 hl2 hl3
  go_wp2_with fail
  clear hj1 hj2 hj3 hj3_4
  go_loopw [43] (fun i wr => ∃ k : Nat, k ≤ fs.length ∧ i = .int .i64 k ∧ IsW w.heap.size (w.heap.size + 1) wr (X ++ collBytes (fs.take k)) ∧ Fr [61, 5, 65] w.heap.size W wr) (fun i _ => fs.length - (intOf i).toNat)
  case atStart => exact ⟨0, Nat.zero_le _, rfl, by simpa [collBytes] using hW3, hG3.mono (by decide) (Nat.le_refl _)⟩
  case round =>
    clear hG3 hW3
    obtain ⟨k, hk, rfl, hW4, hG4⟩ := hrel
    by_cases hlt : k < fs.length
    · have hRk := hR.below (hB.trans (hG4.below (by have := HS.out; omega)))
      obtain ⟨ab, ao, cc, ff, rfl, hbk, hck⟩ := hRk (by rw [colls_length]; omega)
      obtain ⟨q0, q1, q2⟩ := colls_get fs k hlt
      have c0 : wr.cell? ⟨ab, ao + k * 3, none⟩ = some (.int .i64 fs[k].1) := by rw [blk_cell hbk, show ao + k * 3 = ao + 3 * k by omega, hck _ (by rw [colls_length]; omega), q0]
      have c1 : wr.cell? ⟨ab, ao + k * 3 + 1, none⟩ = some (.int .i64 fs[k].2.1) := by rw [blk_cell hbk, show ao + k * 3 + 1 = ao + (3 * k + 1) by omega, hck _ (by rw [colls_length]; omega), q1]
      have c2 : wr.cell? ⟨ab, ao + k * 3 + 2, none⟩ = some (.int .i64 fs[k].2.2) := by rw [blk_cell hbk, show ao + k * 3 + 2 = ao + (3 * k + 2) by omega, hck _ (by rw [colls_length]; omega), q2]
      clear q0 q1 q2 hck
      go_wp2_with fail
      have hS3 : wr.heap.size + 1 = (wr.alloc (.cells #[.int .i64 fs[k].1, .int .i64 fs[k].2.1, .int .i64 fs[k].2.2] 65)).heap.size := by simp
      have hl5 := encs_len [fs[k].1, fs[k].2.1, fs[k].2.2]
      simp only [List.length_cons, List.length_nil] at hl5
      have hl6 : (collBytes (fs.take k)).length ≤ 30 * 1000 := by
        have := collBytes_len (fs.take k)
        rw [List.length_take] at this; omega
      with_reducible refine (put_any (w.heap.size + 1) _ [fs[k].1, fs[k].2.1, fs[k].2.2] 3 3 rfl w.heap.size _ _ ((hW4.alloc _).alloc _) (Reads.litAt _ [.int .i64 fs[k].1, .int .i64 fs[k].2.1, .int .i64 fs[k].2.2] hS3) (by simp) (by simp only [List.length_append]; omega)).mono ?_
      rintro e w5 ⟨rfl, hW5, hF5⟩
      have hG5 := ((hG4.alloc _).alloc _).trans (hF5.mono (T' := [61, 5, 65]) (by decide) (Nat.le_refl _))
      clear hl5 hl6 hS3 hF5 hG4 c0 c1 c2 hW4 hbk
      go_wp2_with fail
      go_roundw
      case rel => exact ⟨k + 1, by omega, by go_num, by rw [collBytes_take _ _ hlt, ← List.append_assoc]; exact hW5, hG5⟩
      case measure => simp [intOf]; omega
    · have hke : k = fs.length := by omega
      subst hke
      rw [List.take_length] at hW4
      have hj4 := blk_fr hG4 HJ.out (by decide)
      have hj4_0 : wr.cell? ⟨w.heap.size, 0, none⟩ = some (.string src) := by rw [blk_cell hj4]; rfl
      have hl6 : (collBytes fs).length ≤ 30 * 1000 := by
        have := collBytes_len fs; omega
      clear hj4
      go_wp2_with fail
      with_reducible refine (text_any (w.heap.size + 1) src w.heap.size _ wr hW4 (by omega) (by simp only [List.length_append]; omega)).mono ?_
      rintro e w5 ⟨rfl, hW5, hF5⟩
      have hG5 := hG4.trans (hF5.mono (T' := [61, 5, 65]) (by decide) (Nat.le_refl _))
      have hB5 := hB.trans (hG5.below (by have := HS.out; omega))
      have hYe : X ++ collBytes fs ++ encs [(src.size : Int)] ++ bytesOf' src = jobBytes src inp lim fuel fs := by
        rw [← HX.out]; simp only [jobBytes, List.append_assoc]
      have hYl : (X ++ collBytes fs ++ encs [(src.size : Int)] ++ bytesOf' src).length ≤ 1048576 := by
        simp only [List.length_append, bytesOf'_length]; omega
      rw [hYe] at hW5 hYl
      have HFin := Lib.hid (show encRes src inp lim fuel fs = encRes1 (jobBytes src inp lim fuel fs) from rfl)
      clear hYe hF5 hG5 hG4 hW4 hl6 hj4_0 hl4
      generalize jobBytes src inp lim fuel fs = Y at *
      obtain ⟨hbb, v, hv, hown⟩ := hW5
      have hc1 : w5.cell? ⟨w.heap.size + 1, 0, none⟩ = some v := by rw [blk_cell hv]; rfl
      have hcv := own_str (src := 59) (dst := 9) Tryd.underlying59 Tryd.underlying5 Tryd.underlying9 hown
      obtain ⟨va, vc, rfl, hvc⟩ := own_lt' hown
      by_cases hlong : 65536 < Y.length
      · go_wp2_with fail
        go_ret2
        refine ⟨?_, hB5⟩
        rw [HFin.out, encRes1, if_pos hlong]; rfl
      · go_wp2_with fail
        go_ret2
        refine ⟨?_, hB5⟩
        rw [HFin.out, encRes1, if_neg hlong]; rfl
end Go.Proofs.YthhchicggidhcaaDoor
