/- ScriptPrints, walked. -/
import Derived.Test.YthhchicggidhcaaDoorMoAwake
import Derived.Test.YthhchicggidhcaaDoorMoRPrint
namespace Go.Proofs.YthhchicggidhcaaDoor
open Go.RowKit

set_option maxRecDepth 100000 in
set_option maxHeartbeats 400000 in
theorem Print_long (src inp : ByteArray) (lim fuel : Int) (fs : List (Int × Int × Int)) (A : Option Addr) (c : Nat) (w : World) (hfl : fs.length ≤ 1048576) (hs : src.size ≤ 1048576) (hi : inp.size ≤ 1048576)
    (h : 1000 < fs.length ∨ 65536 < src.size + 2 * inp.size) :
    Calls Tryd.prog 17 #[.agg #[.string src, .string inp, .int .i64 lim, .int .i64 fuel, .slice A fs.length c]] w fun e w' =>
      e = .returned (.tuple #[.string ⟨#[]⟩, .int .i64 12]) ∧ Below w.heap.size w w' := by
  by_cases h1 : 1000 < fs.length
  · clear h
    go_enter Tryd.func17, Tryd.ntmps17
    go_wp2_with fail
    go_ret2
    exact ⟨rfl, (Below.refl _ _).alloc (Nat.le_refl _) _⟩
  · have h2 : 65536 < src.size + 2 * inp.size := by omega
    clear h
    go_enter Tryd.func17, Tryd.ntmps17
    go_wp2_with fail
    go_ret2
    exact ⟨rfl, (Below.refl _ _).alloc (Nat.le_refl _) _⟩
set_option maxRecDepth 100000 in
set_option maxHeartbeats 400000 in
theorem RPrint_long (src inp : ByteArray) (lim fuel : Int) (fs : List (Int × Int × Int)) (A : Option Addr) (c : Nat) (w : World) (hfl : fs.length ≤ 1048576) (hs : src.size ≤ 1048576) (hi : inp.size ≤ 1048576)
    (h : 1000 < fs.length ∨ 65536 < src.size ∨ 65536 < inp.size) :
    Calls Tryd.prog 18 #[.agg #[.string src, .string inp, .int .i64 lim, .int .i64 fuel, .slice A fs.length c]] w fun e w' =>
      e = .returned (.tuple #[.string ⟨#[]⟩, .int .i64 12]) ∧ Below w.heap.size w w' := by
  by_cases h1 : 1000 < fs.length
  · clear h
    go_enter Tryd.func18, Tryd.ntmps18
    go_wp2_with fail
    go_ret2
    exact ⟨rfl, (Below.refl _ _).alloc (Nat.le_refl _) _⟩
  · by_cases h2 : 65536 < src.size
    · clear h
      go_enter Tryd.func18, Tryd.ntmps18
      go_wp2_with fail
      go_ret2
      exact ⟨rfl, (Below.refl _ _).alloc (Nat.le_refl _) _⟩
    · have h3 : 65536 < inp.size := by omega
      clear h
      go_enter Tryd.func18, Tryd.ntmps18
      go_wp2_with fail
      go_ret2
      exact ⟨rfl, (Below.refl _ _).alloc (Nat.le_refl _) _⟩

theorem prB_long (src inp : ByteArray) (lim fuel : Int) (fs : List (Int × Int × Int)) : src.size + 2 * inp.size ≤ (prB src inp lim fuel fs).size := by
  have h1 : 2 * inp.size ≤ (inB inp).size := by
    unfold inB
    split
    · rename_i h; subst h; show 0 ≤ _; omega
    · have := hexT_size inp
      simp only [ByteArray.size_append', ByteArray.size_mk', List.size_toArray, List.length_cons, List.length_nil]; omega
  have h2 : src.size ≤ (srcB src).size := by
    unfold srcB
    split
    · rename_i h; subst h; show 0 ≤ _; omega
    · simp only [ByteArray.size_append', ByteArray.size_mk', List.size_toArray, List.length_cons, List.length_nil]; omega
  unfold prB
  simp only [ByteArray.size_append']
  omega
/-- What both come to. -/
def prBoth (src inp : ByteArray) (lim fuel : Int) (fs : List (Int × Int × Int)) : ByteArray × Int :=
  if 1000 < fs.length ∨ 65536 < (prB src inp lim fuel fs).size then (⟨#[]⟩, 12) else (prB src inp lim fuel fs, 0)
theorem prBoth_res {src inp : ByteArray} {lim fuel : Int} {fs : List (Int × Int × Int)} (h : fs.length ≤ 1000) : .tuple #[.string (prBoth src inp lim fuel fs).1, .int .i64 (prBoth src inp lim fuel fs).2] = prRes (prB src inp lim fuel fs) := by
  unfold prRes prBoth
  by_cases hb : 65536 < (prB src inp lim fuel fs).size
  · rw [if_pos hb, if_pos (.inr hb)]
  · rw [if_neg hb, if_neg (by omega)]
theorem Print_both (src inp : ByteArray) {lim fuel : Int} {fs : List (Int × Int × Int)} (A : Option Addr) (c : Nat) (w : World) (hL : Lw w) {T : Nat} (hR : Reads w T A (colls fs)) (hl : fs.length ≤ 1048576) (hs : src.size ≤ 1048576) (hi : inp.size ≤ 1048576)
    (h1 : I64 lim) (h2 : I64 fuel) (hf : ∀ c ∈ fs, I64 c.1 ∧ I64 c.2.1 ∧ I64 c.2.2) :
    Calls Tryd.prog 17 #[.agg #[.string src, .string inp, .int .i64 lim, .int .i64 fuel, .slice A fs.length c]] w fun e w' =>
      e = .returned (.tuple #[.string (prBoth src inp lim fuel fs).1, .int .i64 (prBoth src inp lim fuel fs).2]) ∧ Below w.heap.size w w' := by
  have hb := prB_long src inp lim fuel fs
  by_cases h : 1000 < fs.length ∨ 65536 < src.size + 2 * inp.size
  · have he : prBoth src inp lim fuel fs = (⟨#[]⟩, 12) := by rw [prBoth, if_pos (by omega)]
    rw [he]
    exact Print_long src inp lim fuel fs A c w hl hs hi h
  · rw [prBoth_res (by omega)]
    exact Print_any src inp lim fuel fs A c w hL hR (by omega) (by omega) (by omega) (by omega) h1 h2 hf
theorem RPrint_both (src inp : ByteArray) {lim fuel : Int} {fs : List (Int × Int × Int)} (A : Option Addr) (c : Nat) (w : World) {T : Nat} (hR : Reads w T A (colls fs)) (hl : fs.length ≤ 1048576) (hs : src.size ≤ 1048576) (hi : inp.size ≤ 1048576)
    (h1 : I64 lim) (h2 : I64 fuel) (hf : ∀ c ∈ fs, I64 c.1 ∧ I64 c.2.1 ∧ I64 c.2.2) :
    Calls Tryd.prog 18 #[.agg #[.string src, .string inp, .int .i64 lim, .int .i64 fuel, .slice A fs.length c]] w fun e w' =>
      e = .returned (.tuple #[.string (prBoth src inp lim fuel fs).1, .int .i64 (prBoth src inp lim fuel fs).2]) ∧ Below w.heap.size w w' := by
  have hb := prB_long src inp lim fuel fs
  by_cases h : 1000 < fs.length ∨ 65536 < src.size ∨ 65536 < inp.size
  · have he : prBoth src inp lim fuel fs = (⟨#[]⟩, 12) := by rw [prBoth, if_pos (by omega)]
    rw [he]
    exact RPrint_long src inp lim fuel fs A c w hl hs hi h
  · rw [prBoth_res (by omega)]
    exact RPrint_any src inp lim fuel fs A c w hR (by omega) (by omega) (by omega) h1 h2 hf

def longJobP (src inp : ByteArray) (n : Nat) : Bool := decide (1200 < (n : Int)) || decide (70000 < (src.size : Int)) || decide (70000 < (inp.size : Int))
theorem longJobP_no {src inp : ByteArray} {n : Nat} (h : longJobP src inp n = false) : n ≤ 1200 ∧ src.size ≤ 70000 ∧ inp.size ≤ 70000 := by
  simp only [longJobP, Bool.or_eq_false_iff, decide_eq_false_iff_not] at h
  omega
set_option maxRecDepth 100000 in
set_option maxHeartbeats 400000 in
theorem long_anyP (src inp : ByteArray) (lim fuel : Int) (n : Nat) (A : Option Addr) (c : Nat) (w : World) (hn : n ≤ 9223372036854775807) (hs : src.size ≤ 9223372036854775807) (_hi : inp.size ≤ 9223372036854775807) :
    Calls Tryd.prog 11 #[.agg #[.string src, .string inp, .int .i64 lim, .int .i64 fuel, .slice A n c]] w fun e w' =>
      e = .returned (.bool (longJobP src inp n)) ∧ Below w.heap.size w w' := by
  go_enter Tryd.func11, Tryd.ntmps11
  by_cases h1 : 1200 < n
  · have hq : longJobP src inp n = true := by rw [longJobP, decide_eq_true (by omega)]; rfl
    rw [hq]
    clear hq
    go_wp2_with fail
    go_ret
    exact ⟨rfl, (Below.refl _ _).alloc (Nat.le_refl _) _⟩
  · by_cases h2 : 70000 < src.size
    · have hq : longJobP src inp n = true := by rw [longJobP, decide_eq_true (p := 70000 < (src.size : Int)) (by omega), Bool.or_true]; rfl
      rw [hq]
      clear hq
      go_wp2_with fail
      go_ret
      exact ⟨rfl, (Below.refl _ _).alloc (Nat.le_refl _) _⟩
    · unfold longJobP
      go_wp2_with fail
      go_ret
      exact ⟨rfl, (Below.refl _ _).alloc (Nat.le_refl _) _⟩

set_option maxRecDepth 100000 in
set_option maxHeartbeats 400000 in
theorem ScriptPrints_any (src inp : ByteArray) {lim fuel : Int} {fs : List (Int × Int × Int)} (A : Option Addr) (c : Nat) (w : World) (hL : Lw w) {T : Nat} (hR : Reads w T A (colls fs))
    (hn : fs.length ≤ 9223372036854775807) (hs : src.size ≤ 9223372036854775807) (hi : inp.size ≤ 9223372036854775807) (h1 : I64 lim) (h2 : I64 fuel) (hf : ∀ c ∈ fs, I64 c.1 ∧ I64 c.2.1 ∧ I64 c.2.2) :
    Calls Tryd.prog 5 #[.agg #[.string src, .string inp, .int .i64 lim, .int .i64 fuel, .slice A fs.length c]] w fun e w' =>
      e = .returned (.bool true) ∧ Below w.heap.size w w' := by
  have HN := Lib.hid (And.intro hn (And.intro hs hi))
  have HI := Lib.hid (And.intro h1 (And.intro h2 hf))
  clear hn hs hi h1 h2 hf
  go_enter Tryd.func5, Tryd.ntmps5
  go_wp2_with fail
  have hj := blk_new (w := w) (n := w.heap.size) (.cells #[.string src, .string inp, .int .i64 lim, .int .i64 fuel, .slice A fs.length c] 24) rfl
  have hB : Below w.heap.size w (w.alloc (.cells #[.string src, .string inp, .int .i64 lim, .int .i64 fuel, .slice A fs.length c] 24)) := (Below.refl _ _).alloc (Nat.le_refl _) _
  generalize w.alloc (.cells #[.string src, .string inp, .int .i64 lim, .int .i64 fuel, .slice A fs.length c] 24) = w1 at *
  refine (long_anyP src inp lim fuel fs.length A c w1 HN.out.1 HN.out.2.1 HN.out.2.2).mono ?_
  rintro e w2 ⟨rfl, hb2⟩
  replace hj := blk_belowS hb2 hj
  replace hB := hB.trans (hb2.mono hB.size)
  clear hb2
  cases hl : longJobP src inp fs.length with
  | true =>
    go_wp2_with fail
    refine (awake_any _ (hL.below hB)).mono ?_
    rintro e w3 ⟨rfl, hb3⟩
    have hB3 := hB.trans (hb3.mono hB.size)
    clear hb3 hB hj
    go_wp2_with fail
    go_ret
    exact ⟨rfl, hB3⟩
  | false =>
    have hll := longJobP_no hl
    have c0 : w2.cell? ⟨w.heap.size, 0, none⟩ = some (.string src) := (blk_cell hj).trans rfl
    have c1 : w2.cell? ⟨w.heap.size, 1, none⟩ = some (.string inp) := (blk_cell hj).trans rfl
    have c2 : w2.cell? ⟨w.heap.size, 2, none⟩ = some (.int .i64 lim) := (blk_cell hj).trans rfl
    have c3 : w2.cell? ⟨w.heap.size, 3, none⟩ = some (.int .i64 fuel) := (blk_cell hj).trans rfl
    have c4 : w2.cell? ⟨w.heap.size, 4, none⟩ = some (.slice A fs.length c) := (blk_cell hj).trans rfl
    go_wp2_with fail
    refine (Print_both src inp A c w2 (hL.below hB) (hR.below hB) (by omega) (by omega) (by omega) HI.out.1 HI.out.2.1 HI.out.2.2).mono ?_
    rintro e w3 ⟨rfl, hb3⟩
    replace hj := blk_belowS hb3 hj
    replace hB := hB.trans (hb3.mono hB.size)
    clear hb3 c0 c1 c2 c3 c4
    have c0 : w3.cell? ⟨w.heap.size, 0, none⟩ = some (.string src) := (blk_cell hj).trans rfl
    have c1 : w3.cell? ⟨w.heap.size, 1, none⟩ = some (.string inp) := (blk_cell hj).trans rfl
    have c2 : w3.cell? ⟨w.heap.size, 2, none⟩ = some (.int .i64 lim) := (blk_cell hj).trans rfl
    have c3 : w3.cell? ⟨w.heap.size, 3, none⟩ = some (.int .i64 fuel) := (blk_cell hj).trans rfl
    have c4 : w3.cell? ⟨w.heap.size, 4, none⟩ = some (.slice A fs.length c) := (blk_cell hj).trans rfl
    obtain ⟨X, hX⟩ : ∃ X, prBoth src inp lim fuel fs = X := ⟨_, rfl⟩
    rw [hX]
    have HX := Lib.hid hX
    clear hX
    go_wp2_with fail
    refine (RPrint_both src inp A c w3 (hR.below hB) (by omega) (by omega) (by omega) HI.out.1 HI.out.2.1 HI.out.2.2).mono ?_
    rintro e w4 ⟨rfl, hb4⟩
    rw [HX.out]
    replace hB := hB.trans (hb4.mono hB.size)
    clear hb4 c0 c1 c2 c3 c4 hj
    obtain ⟨t, k⟩ := X
    go_wp2_with fail
    refine (awake_any _ (hL.below hB)).mono ?_
    rintro e w5 ⟨rfl, hb5⟩
    have hB5 := hB.trans (hb5.mono hB.size)
    clear hb5 hB
    go_wp2_with fail
    go_ret
    exact ⟨rfl, hB5⟩
end Go.Proofs.YthhchicggidhcaaDoor
