/- The program's Print at every job. -/
import Derived.Test.YthhchicggidhcabDoorMoPrint
namespace Go.Proofs.YthhchicggidhcabDoor
open Go.RowKit

set_option maxRecDepth 100000 in
set_option maxHeartbeats 400000 in
theorem Print_long (src inp : ByteArray) (lim fuel : Int) (fs : List (Int × Int × Int)) (A : Option Addr) (c : Nat) (w : World) (hfl : fs.length ≤ 1048576) (hs : src.size ≤ 1048576) (hi : inp.size ≤ 1048576)
    (h : 1000 < fs.length ∨ 65536 < src.size + 2 * inp.size) :
    Calls Tryd.prog 8 #[.agg #[.string src, .string inp, .int .i64 lim, .int .i64 fuel, .slice A fs.length c]] w fun e w' =>
      e = .returned (.tuple #[.string ⟨#[]⟩, .int .i64 12]) ∧ Below w.heap.size w w' := by
  by_cases h1 : 1000 < fs.length
  · clear h
    go_enter Tryd.func8, Tryd.ntmps8
    go_wp2_with fail
    go_ret2
    exact ⟨rfl, (Below.refl _ _).alloc (Nat.le_refl _) _⟩
  · have h2 : 65536 < src.size + 2 * inp.size := by omega
    clear h
    go_enter Tryd.func8, Tryd.ntmps8
    go_wp2_with fail
    go_ret2
    exact ⟨rfl, (Below.refl _ _).alloc (Nat.le_refl _) _⟩
theorem prB_long (src inp : ByteArray) (lim fuel : Int) (fs : List (Int × Int × Int)) : src.size + 2 * inp.size ≤ (prB src inp lim fuel fs).size := by
  have h1 : 2 * inp.size ≤ (inB inp).size := by
    unfold inB
    split
    · rename_i h; subst h; show 0 ≤ _; omega
    · have := hexT_size inp
      simp only [ByteArray.size_append', ByteArray.size_mk', List.size_toArray, List.length_cons, List.length_nil]; omega
  have h2 : src.size ≤ (srcB src).size := by
    unfold srcB
    split
    · rename_i h; subst h; show 0 ≤ _; omega
    · simp only [ByteArray.size_append', ByteArray.size_mk', List.size_toArray, List.length_cons, List.length_nil]; omega
  unfold prB
  simp only [ByteArray.size_append']
  omega
/-- What both come to. -/
def prBoth (src inp : ByteArray) (lim fuel : Int) (fs : List (Int × Int × Int)) : ByteArray × Int :=
  if 1000 < fs.length ∨ 65536 < (prB src inp lim fuel fs).size then (⟨#[]⟩, 12) else (prB src inp lim fuel fs, 0)
theorem prBoth_res {src inp : ByteArray} {lim fuel : Int} {fs : List (Int × Int × Int)} (h : fs.length ≤ 1000) : .tuple #[.string (prBoth src inp lim fuel fs).1, .int .i64 (prBoth src inp lim fuel fs).2] = prRes (prB src inp lim fuel fs) := by
  unfold prRes prBoth
  by_cases hb : 65536 < (prB src inp lim fuel fs).size
  · rw [if_pos hb, if_pos (.inr hb)]
  · rw [if_neg hb, if_neg (by omega)]
theorem Print_both (src inp : ByteArray) {lim fuel : Int} {fs : List (Int × Int × Int)} (A : Option Addr) (c : Nat) (w : World) (hL : Lw w) {T : Nat} (hR : Reads w T A (colls fs)) (hl : fs.length ≤ 1048576) (hs : src.size ≤ 1048576) (hi : inp.size ≤ 1048576)
    (h1 : I64 lim) (h2 : I64 fuel) (hf : ∀ c ∈ fs, I64 c.1 ∧ I64 c.2.1 ∧ I64 c.2.2) :
    Calls Tryd.prog 8 #[.agg #[.string src, .string inp, .int .i64 lim, .int .i64 fuel, .slice A fs.length c]] w fun e w' =>
      e = .returned (.tuple #[.string (prBoth src inp lim fuel fs).1, .int .i64 (prBoth src inp lim fuel fs).2]) ∧ Below w.heap.size w w' := by
  have hb := prB_long src inp lim fuel fs
  by_cases h : 1000 < fs.length ∨ 65536 < src.size + 2 * inp.size
  · have he : prBoth src inp lim fuel fs = (⟨#[]⟩, 12) := by rw [prBoth, if_pos (by omega)]
    rw [he]
    exact Print_long src inp lim fuel fs A c w hl hs hi h
  · rw [prBoth_res (by omega)]
    exact Print_any src inp lim fuel fs A c w hL hR (by omega) (by omega) (by omega) (by omega) h1 h2 hf
end Go.Proofs.YthhchicggidhcabDoor
