/- The statements' own example: awake tells true. -/
import Derived.Test.YtkgebnbdgiengaaDoorMoLxX
import Derived.KernelRfl
namespace Go.Proofs.YtkgebnbdgiengaaDoor
open Go.RowKit Lx

def awakeT : ByteArray := ⟨#[40, 97, 32, 46, 32, 55, 41, 32, 59, 120]⟩
theorem awakeL : lexAll awakeT.data.toList = ([tk0 1 0 1 false, { tkD 6 1 2 with t := [97] }, tk0 8 3 4 false, { tkD 4 5 6 with mag := [7] }, tk0 2 6 7 false], 0, 0) := by kernel_rfl
/-- A token's cell, of a row that is read. -/
theorem row_cell {w : World} {A : Option Addr} {cs : List Value} {ts : List Tk} (hR : Reads w 33 A cs) (ht : TkRow w ts cs) {i : Nat} (hi : i < ts.length) : ∃ b o B c, A = some ⟨b, o, none⟩ ∧ Reads w 69 B (ints .u32 ts[i].mag) ∧ ∀ j, (hj : j < 10) → w.cell? ⟨b, o + (i * 10 + j), none⟩ = some ((tkCs ts[i] (.slice B ts[i].mag.length c))[j]'hj) := by
  have hl := ht.length
  obtain ⟨B, c, h1, h2⟩ := ht.get hi
  obtain ⟨b, o, cc, f, rfl, hb, hc⟩ := hR (by omega)
  refine ⟨b, o, B, c, rfl, h1, fun j hj => ?_⟩
  rw [blk_cell hb, hc _ (by omega), h2 j hj]
  exact List.getElem?_eq_getElem hj

set_option maxRecDepth 100000 in
set_option maxHeartbeats 1600000 in
theorem awake_any (w : World) (hL : Lu w) : Calls Tryd.prog 10 #[] w fun e w' => e = .returned (.bool true) ∧ Below w.heap.size w w' := by
  go_enter Tryd.func10, Tryd.ntmps10
  go_wp2_with fail
  refine (All_any awakeT (by decide) w hL).mono ?_
  rintro e w1 ⟨hb1, A, c, cs, rfl, hR, ht⟩
  rw [awakeL] at ht ⊢
  obtain ⟨b, o, B0, c0, rfl, _, h0⟩ := row_cell hR ht (i := 0) (by simp)
  obtain ⟨b', o', B1, c1, he, _, h1⟩ := row_cell hR ht (i := 1) (by simp)
  cases he
  obtain ⟨b', o', B2, c2, he, _, h2⟩ := row_cell hR ht (i := 2) (by simp)
  cases he
  obtain ⟨b', o', B3, c3, he, _, h3⟩ := row_cell hR ht (i := 3) (by simp)
  cases he
  obtain ⟨b', o', B4, c4, he, _, h4⟩ := row_cell hR ht (i := 4) (by simp)
  cases he
  have k0 : w1.cell? ⟨b, o, none⟩ = some (.int .i64 1) := h0 0 (by decide)
  have k1 : w1.cell? ⟨b, o + 18, none⟩ = some (.string ⟨#[97]⟩) := h1 8 (by decide)
  have k2 : w1.cell? ⟨b, o + 20, none⟩ = some (.int .i64 8) := h2 0 (by decide)
  have k3 : w1.cell? ⟨b, o + 31, none⟩ = some (.int .i64 5) := h3 1 (by decide)
  have k4 : w1.cell? ⟨b, o + 42, none⟩ = some (.int .i64 7) := h4 2 (by decide)
  have k1' : w1.cell? ⟨b, o + 10 + 8, none⟩ = some (.string ⟨#[97]⟩) := k1
  have k3' : w1.cell? ⟨b, o + 30 + 1, none⟩ = some (.int .i64 5) := k3
  have k4' : w1.cell? ⟨b, o + 40 + 2, none⟩ = some (.int .i64 7) := k4
  clear h0 h1 h2 h3 h4
  go_wp2_with fail
  go_ret
  exact ⟨rfl, hb1⟩
end Go.Proofs.YtkgebnbdgiengaaDoor
