/- ScriptTells, walked. -/
import Derived.Test.YthhchicggidhcaaDoorMoAwake
import Derived.Test.YthhchicggidhcaaDoorMoRTell
namespace Go.Proofs.YthhchicggidhcaaDoor
open Go.RowKit

theorem keep5 {W : World} {N : Nat} {a b c d e : Value} {t : TypeId} {f : Nat × Nat} (h : W.heap[N]? = some (.cells #[a, b, c, d, e] t f)) :
    W.cell? ⟨N, 0, none⟩ = some a ∧ W.cell? ⟨N, 1, none⟩ = some b ∧ W.cell? ⟨N, 2, none⟩ = some c ∧ W.cell? ⟨N, 3, none⟩ = some d ∧ W.cell? ⟨N, 4, none⟩ = some e :=
  ⟨(blk_cell h).trans rfl, (blk_cell h).trans rfl, (blk_cell h).trans rfl, (blk_cell h).trans rfl, (blk_cell h).trans rfl⟩

set_option maxRecDepth 100000 in
set_option maxHeartbeats 400000 in
theorem ScriptTells_any (out : ByteArray) (err place steps : Int) (fs : List (Int × Int × Int)) (A : Option Addr) (c : Nat) (w : World) (hL : Lw w) {T : Nat} (hR : Reads w T A (colls fs))
    (h1 : out.size ≤ 9223372036854775807) (h2 : fs.length ≤ 9223372036854775807) (i1 : I64 err) (i2 : I64 place) (i3 : I64 steps) (hf : ∀ c ∈ fs, I64 c.1 ∧ I64 c.2.1 ∧ I64 c.2.2) :
    Calls Tryd.prog 4 #[.agg #[.string out, .int .i64 err, .int .i64 place, .int .i64 steps, .slice A fs.length c]] w fun e w' =>
      e = .returned (.bool true) ∧ Below w.heap.size w w' := by
  have HI := Lib.hid (And.intro i1 (And.intro i2 (And.intro i3 hf)))
  clear i1 i2 i3 hf
  have hj := blk_new (w := w) (n := w.heap.size) (.cells #[.string out, .int .i64 err, .int .i64 place, .int .i64 steps, .slice A fs.length c] 31) rfl
  have hB : Below w.heap.size w (w.alloc (.cells #[.string out, .int .i64 err, .int .i64 place, .int .i64 steps, .slice A fs.length c] 31)) := (Below.refl _ _).alloc (Nat.le_refl _) _
  have hn : w.heap.size ≤ (w.alloc (.cells #[.string out, .int .i64 err, .int .i64 place, .int .i64 steps, .slice A fs.length c] 31)).heap.size := by simp
  by_cases hl : 1200 < fs.length
  · go_enter Tryd.func4, Tryd.ntmps4
    go_wp2_with fail
    refine (awake_any _ (hL.below hB)).mono ?_
    rintro e w3 ⟨rfl, hb3⟩
    have hB3 := bel0 hB hn hb3
    go_wp2_with fail
    go_ret
    exact ⟨rfl, hB3⟩
  · by_cases hs : 70000 < out.size
    · go_enter Tryd.func4, Tryd.ntmps4
      go_wp2_with fail
      refine (awake_any _ (hL.below hB)).mono ?_
      rintro e w3 ⟨rfl, hb3⟩
      have hB3 := bel0 hB hn hb3
      go_wp2_with fail
      go_ret
      exact ⟨rfl, hB3⟩
    · go_enter Tryd.func4, Tryd.ntmps4
      go_upto_region 3 with (fail)
      generalize w.alloc (.cells #[.string out, .int .i64 err, .int .i64 place, .int .i64 steps, .slice A fs.length c] 31) = w1 at *
      have hL1 := hL.below hB
      have hR1 := hR.below hB
      obtain ⟨X, hX⟩ : ∃ X, tellB out err place steps fs = X := ⟨_, rfl⟩
      have HX := Lib.hid hX
      clear hX
      go_region_held3 (fun w' => w'.cell? ⟨w.heap.size, 0, none⟩ = some (.string out) ∧ w'.cell? ⟨w.heap.size, 1, none⟩ = some (.int .i64 err) ∧ w'.cell? ⟨w.heap.size, 2, none⟩ = some (.int .i64 place) ∧ w'.cell? ⟨w.heap.size, 3, none⟩ = some (.int .i64 steps) ∧ w'.cell? ⟨w.heap.size, 4, none⟩ = some (.slice A fs.length c)) (exact keep5 hj) (first
        | (go_at_call 15; (with_reducible refine (Tell_any out err place steps fs A c _ ?_ (T := T) ?_ (by omega) (by omega) HI.out.1 HI.out.2.1 HI.out.2.2.1 HI.out.2.2.2).mono ?_); exact hL1.drew; exact hR1; rintro e wa ⟨rfl, ha⟩; rw [HX.out]; have hBa := bel0 hB.drew hn ha; replace hj := blk_belowS ha hj; have hL2 := hL1.drew.below ha; have hR2 := Reads.below (w := w1.drew) hR1 ha)
        | (go_at_call 16; (with_reducible refine (RTell_any out err place steps fs A c _ (T := T) ?_ (by omega) (by omega) HI.out.1 HI.out.2.1 HI.out.2.2.1 HI.out.2.2.2).mono ?_); exact hR2; rintro e wb ⟨rfl, hb⟩; rw [HX.out]; have hBb := bel0 hBa hBa.size hb; replace hj := blk_belowS hb hj; have hL3 := hL2.below hb)
        | (go_at_call 12; (with_reducible refine (awake_any _ hL3).mono ?_); rintro e wd ⟨rfl, hd⟩; have hBd := bel0 hBb hBb.size hd; replace hj := blk_belowS hd hj))
      go_wp2_with fail
      go_ret
      exact ⟨rfl, hBd⟩
end Go.Proofs.YthhchicggidhcaaDoor
