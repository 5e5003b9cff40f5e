/- The document's Same, of data that are the same: walked. -/
import Derived.Test.YtkgebnbdgiengaaDoorMoLxW
import Derived.Deep.QuietTactic
import Derived.BigQuiet
namespace Go.Proofs.YtkgebnbdgiengaaDoor
open Go.RowKit Lx

theorem below_drewN' {B : Nat} {w w' : World} (h : Below B w w') (n : Nat) : Below B w (w'.drewN n) := ⟨h.os, h.tape, h.output, h.size, h.block⟩
set_option maxRecDepth 100000 in
set_option maxHeartbeats 1600000 in
theorem same2_any (neg : Bool) (A B : Option Addr) (c d : Nat) (xs : List Int) (w : World) (hA : Reads w 69 A (ints .u32 xs)) (hB : Reads w 69 B (ints .u32 xs)) (hn : xs.length ≤ 1000000) :
    Calls Tryd.prog 17 #[.agg #[.bool neg, .slice A xs.length c], .agg #[.bool neg, .slice B xs.length d]] w fun e w' => e = .returned (.bool true) ∧ Below w.heap.size w w' := by
  have hg : (neg != neg) = false := by simp
  go_enter Tryd.func17, Tryd.ntmps17
  go_wp2_with fail
  have hA0 := hA.below (((Below.refl _ _).alloc (Nat.le_refl _) (.cells #[.bool neg, .slice A xs.length c] 28)).alloc (by simp) (.cells #[.bool neg, .slice B xs.length d] 28))
  have hB0 := hB.below (((Below.refl _ _).alloc (Nat.le_refl _) (.cells #[.bool neg, .slice A xs.length c] 28)).alloc (by simp) (.cells #[.bool neg, .slice B xs.length d] 28))
  have h0 : ((w.alloc (.cells #[.bool neg, .slice A xs.length c] 28)).alloc (.cells #[.bool neg, .slice B xs.length d] 28)).heap[w.heap.size]? = _ := blk_alloc (heap_alloc_new _ _) _
  have h1 : ((w.alloc (.cells #[.bool neg, .slice A xs.length c] 28)).alloc (.cells #[.bool neg, .slice B xs.length d] 28)).heap[w.heap.size + 1]? = _ := blk_new _ (by simp)
  have hb : Below w.heap.size w ((w.alloc (.cells #[.bool neg, .slice A xs.length c] 28)).alloc (.cells #[.bool neg, .slice B xs.length d] 28)) := ((Below.refl _ _).alloc (Nat.le_refl _) _).alloc (by simp) _
  generalize (w.alloc (.cells #[.bool neg, .slice A xs.length c] 28)).alloc (.cells #[.bool neg, .slice B xs.length d] 28) = w0 at *
  generalize w.heap.size + 1 = r1 at *
  clear hA hB hg
  go_loopw [5] (fun t wr => ∃ k : Nat, k ≤ xs.length ∧ t = .int .i64 k ∧ Reads wr 69 A (ints .u32 xs) ∧ Reads wr 69 B (ints .u32 xs) ∧ wr.heap[w.heap.size]? = some (.cells #[.bool neg, .slice A xs.length c] 28 (0, 0)) ∧
    wr.heap[r1]? = some (.cells #[.bool neg, .slice B xs.length d] 28 (0, 0)) ∧ Below w.heap.size w wr) (fun t _ => xs.length - (intOf t).toNat)
  case atStart => exact ⟨0, Nat.zero_le _, rfl, hA0, hB0, h0, h1, hb⟩
  case round =>
    obtain ⟨k, hk, rfl, hA, hB, h2, h3, hbr⟩ := hrel
    clear hA0 hB0 h0 h1 hb
    have hc0 : wr.cell? ⟨w.heap.size, 1, none⟩ = some (.slice A xs.length c) := (blk_cell h2).trans rfl
    have hc1 : wr.cell? ⟨r1, 1, none⟩ = some (.slice B xs.length d) := (blk_cell h3).trans rfl
    by_cases hlt : k < xs.length
    · obtain ⟨b1, o1, rfl, ha⟩ := reads_int hA hlt
      obtain ⟨b2, o2, rfl, hb'⟩ := reads_int hB hlt
      generalize xs[k] = x at ha hb'
      have hi : (k : Int) < (xs.length : Int) := by omega
      go_wp2_with fail
      go_quiet (fail)
      have hA' : Reads (wr.drewN nq) 69 (some ⟨b1, o1, none⟩) (ints .u32 xs) := hA
      have hB' : Reads (wr.drewN nq) 69 (some ⟨b2, o2, none⟩) (ints .u32 xs) := hB
      have h2' : (wr.drewN nq).heap[w.heap.size]? = _ := h2
      have h3' : (wr.drewN nq).heap[r1]? = _ := h3
      have hbr' : Below w.heap.size w (wr.drewN nq) := below_drewN' hbr nq
      clear hA hB h2 h3 hbr hc0 hc1 ha hb'
      generalize wr.drewN nq = wq at *
      go_wp2_with fail
      go_roundw
      case rel => exact ⟨k + 1, by omega, by go_num, hA', hB', h2', h3', hbr'⟩
      case measure => simp [intOf]; omega
    · go_wp2_with fail
      go_ret
      exact ⟨rfl, hbr⟩

set_option maxRecDepth 100000 in
set_option maxHeartbeats 1600000 in
theorem same3_any (k cv : Int) (neg : Bool) (A B : Option Addr) (c d : Nat) (xs : List Int) (t : ByteArray) (w : World) (hA : Reads w 69 A (ints .u32 xs)) (hB : Reads w 69 B (ints .u32 xs)) (hn : xs.length ≤ 1000000) :
    Calls Tryd.prog 12 #[.agg #[.int .i64 k, .int .i32 cv, .bool neg, .slice A xs.length c, .string t, .slice none 0 0], .agg #[.int .i64 k, .int .i32 cv, .bool neg, .slice B xs.length d, .string t, .slice none 0 0]] w fun e w' => e = .returned (.bool true) ∧ Below w.heap.size w w' := by
  have hA0 := hA.below (((Below.refl _ _).alloc (Nat.le_refl _) (.cells #[.int .i64 k, .int .i32 cv, .bool neg, .slice A xs.length c, .string t, .slice none 0 0] 31)).alloc (by simp) (.cells #[.int .i64 k, .int .i32 cv, .bool neg, .slice B xs.length d, .string t, .slice none 0 0] 31))
  have hB0 := hB.below (((Below.refl _ _).alloc (Nat.le_refl _) (.cells #[.int .i64 k, .int .i32 cv, .bool neg, .slice A xs.length c, .string t, .slice none 0 0] 31)).alloc (by simp) (.cells #[.int .i64 k, .int .i32 cv, .bool neg, .slice B xs.length d, .string t, .slice none 0 0] 31))
  have hb : Below w.heap.size w ((w.alloc (.cells #[.int .i64 k, .int .i32 cv, .bool neg, .slice A xs.length c, .string t, .slice none 0 0] 31)).alloc (.cells #[.int .i64 k, .int .i32 cv, .bool neg, .slice B xs.length d, .string t, .slice none 0 0] 31)) := ((Below.refl _ _).alloc (Nat.le_refl _) _).alloc (by simp) _
  have h0 : ((w.alloc (.cells #[.int .i64 k, .int .i32 cv, .bool neg, .slice A xs.length c, .string t, .slice none 0 0] 31)).alloc (.cells #[.int .i64 k, .int .i32 cv, .bool neg, .slice B xs.length d, .string t, .slice none 0 0] 31)).heap[w.heap.size]? = _ := blk_alloc (heap_alloc_new _ _) _
  have h1 : ((w.alloc (.cells #[.int .i64 k, .int .i32 cv, .bool neg, .slice A xs.length c, .string t, .slice none 0 0] 31)).alloc (.cells #[.int .i64 k, .int .i32 cv, .bool neg, .slice B xs.length d, .string t, .slice none 0 0] 31)).heap[w.heap.size + 1]? = _ := blk_new _ (by simp)
  go_enter Tryd.func12, Tryd.ntmps12
  go_wp2_with fail
  refine (same2_any neg A B c d xs _ hA0 hB0 hn).mono ?_
  rintro e w2 ⟨rfl, hb2⟩
  have h2 := blk_belowS hb2 h0
  have h3 := blk_belowS hb2 h1
  replace hb := hb.trans (hb2.mono hb.size)
  clear hA0 hB0 h0 h1 hb2
  have c3 : w2.cell? ⟨w.heap.size, 4, none⟩ = some (.string t) := (blk_cell h2).trans rfl
  have d3 : w2.cell? ⟨w.heap.size + 1, 4, none⟩ = some (.string t) := (blk_cell h3).trans rfl
  have c4 : w2.cell? ⟨w.heap.size, 5, none⟩ = some (.slice none 0 0) := (blk_cell h2).trans rfl
  have d4 : w2.cell? ⟨w.heap.size + 1, 5, none⟩ = some (.slice none 0 0) := (blk_cell h3).trans rfl
  go_wp2_with fail
  refine wp_loop_rounds 1 ?_
  rw [rounds_succ]
  go_wp2_with fail
  go_ret
  exact ⟨rfl, hb⟩

set_option maxRecDepth 100000 in
set_option maxHeartbeats 1600000 in
theorem same4_any (x : Tk) (u v : Value) (w : World) (hu : TkV w x u) (hv : TkV w x v) (hn : x.mag.length ≤ 1000000) :
    Calls Tryd.prog 9 #[u, v] w fun e w' => e = .returned (.bool true) ∧ Below w.heap.size w w' := by
  obtain ⟨A, c, rfl, hA⟩ := hu
  obtain ⟨B, d, rfl, hB⟩ := hv
  have hA0 := hA.below (((Below.refl _ _).alloc (Nat.le_refl _) (.cells (tkCs x (.slice A x.mag.length c)).toArray 33)).alloc (by simp) (.cells (tkCs x (.slice B x.mag.length d)).toArray 33))
  have hB0 := hB.below (((Below.refl _ _).alloc (Nat.le_refl _) (.cells (tkCs x (.slice A x.mag.length c)).toArray 33)).alloc (by simp) (.cells (tkCs x (.slice B x.mag.length d)).toArray 33))
  have hb : Below w.heap.size w ((w.alloc (.cells (tkCs x (.slice A x.mag.length c)).toArray 33)).alloc (.cells (tkCs x (.slice B x.mag.length d)).toArray 33)) := ((Below.refl _ _).alloc (Nat.le_refl _) _).alloc (by simp) _
  unfold tkVal tkCs
  unfold tkCs at hA0 hB0 hb
  go_enter Tryd.func9, Tryd.ntmps9
  go_wp2_with fail
  refine (same3_any _ _ _ A B c d x.mag _ _ hA0 hB0 hn).mono ?_
  rintro e w2 ⟨rfl, hb2⟩
  replace hb := hb.trans (hb2.mono hb.size)
  clear hb2
  go_wp2_with fail
  go_ret
  exact ⟨rfl, hb⟩
end Go.Proofs.YtkgebnbdgiengaaDoor
