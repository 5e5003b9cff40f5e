/- The statements' own examples: awake tells true. -/
import Derived.Test.YthhchicggidhcaaDoorMoParse
namespace Go.Proofs.YthhchicggidhcaaDoor
open Go.RowKit

def txt1 : ByteArray := ⟨#[108, 105, 109, 105, 116, 32, 49, 54, 10, 102, 117, 101, 108, 32, 49, 48, 48, 10, 112, 114, 111, 103, 114, 97, 109, 10, 40, 99, 97, 114, 32, 50, 41, 10]⟩
def txt2 : ByteArray := ⟨#[108, 105, 109, 105, 116, 32, 49, 54, 10, 108, 105, 109, 105, 116, 32, 49, 54, 10]⟩
theorem prs1 : prs js0 [] (lns txt1) = .ok ⟨⟨#[40, 99, 97, 114, 32, 50, 41, 10]⟩, ⟨#[]⟩, 16, 100, []⟩ := by kernel_rfl
theorem prs2 : prs js0 [] (lns txt2) = .error (2, 9) := by kernel_rfl
theorem enc1 : encRes ⟨#[]⟩ ⟨#[]⟩ 8 1 [] = .tuple #[.string ⟨#[16, 2, 0, 0, 0]⟩, .int .i64 0] := by
  have h8 : zigN 8 = 16 := by kernel_rfl
  have h1 : zigN 1 = 2 := by kernel_rfl
  have h0 : zigN 0 = 0 := by kernel_rfl
  have : jobBytes ⟨#[]⟩ ⟨#[]⟩ 8 1 [] = [16, 2, 0, 0, 0] := by
    simp [jobBytes, encs, h8, h1, h0, venc_small, collBytes, bytesOf', ByteArray.size]
  rw [encRes, this, encRes1]
  rfl

set_option maxRecDepth 100000 in
set_option maxHeartbeats 400000 in
theorem awake_any (w : World) (hL : Lw w) : Calls Tryd.prog 12 #[] w fun e w' => e = .returned (.bool true) ∧ Below w.heap.size w w' := by
  go_enter Tryd.func12, Tryd.ntmps12
  go_wp2_with fail
  refine (parse_any txt1 w hL (by decide)).mono ?_
  rintro e w1 ⟨he, hb1⟩
  rw [if_neg (by decide), prs1] at he
  obtain ⟨A, c, rfl, ho⟩ := he
  clear ho
  go_wp2_with fail
  have hb2 := hb1.alloc hb1.size (.cells #[.string ⟨#[40, 99, 97, 114, 32, 50, 41, 10]⟩, .string ⟨#[]⟩, .int .i64 16, .int .i64 100, .slice A 0 c] 24)
  have hj := blk_new (w := w1) (n := w1.heap.size) (.cells #[.string ⟨#[40, 99, 97, 114, 32, 50, 41, 10]⟩, .string ⟨#[]⟩, .int .i64 16, .int .i64 100, .slice A 0 c] 24) rfl
  generalize w1.alloc (.cells #[.string ⟨#[40, 99, 97, 114, 32, 50, 41, 10]⟩, .string ⟨#[]⟩, .int .i64 16, .int .i64 100, .slice A 0 c] 24) = w2 at *
  refine (parse_any txt2 w2 (hL.below hb2) (by decide)).mono ?_
  rintro e w3 ⟨he, hb3⟩
  rw [if_neg (by decide), prs2] at he
  unfold zeroJob at he
  subst he
  have hb4 := hb2.trans (hb3.mono hb2.size)
  replace hj := blk_belowS hb3 hj
  clear hb3 hb2
  go_wp2_with fail
  have hb5 := hb4.alloc hb4.size (.cells #[.string ⟨#[]⟩, .string ⟨#[]⟩, .int .i64 0, .int .i64 0, .slice none 0 0] 24)
  replace hj := blk_alloc hj (.cells #[.string ⟨#[]⟩, .string ⟨#[]⟩, .int .i64 0, .int .i64 0, .slice none 0 0] 24)
  generalize w3.alloc (.cells #[.string ⟨#[]⟩, .string ⟨#[]⟩, .int .i64 0, .int .i64 0, .slice none 0 0] 24) = w4 at *
  refine (Encode_any ⟨#[]⟩ ⟨#[]⟩ 8 1 [] none 0 w4 (Reads.nil _ 0 _) (by decide) (by decide)).mono ?_
  rintro e w5 ⟨rfl, hb6⟩
  rw [enc1]
  replace hj := blk_belowS hb6 hj
  have hb7 := hb5.trans (hb6.mono hb5.size)
  have c0 : w5.cell? ⟨w1.heap.size, 0, none⟩ = some (.string ⟨#[40, 99, 97, 114, 32, 50, 41, 10]⟩) := (blk_cell hj).trans rfl
  have c2 : w5.cell? ⟨w1.heap.size, 2, none⟩ = some (.int .i64 16) := (blk_cell hj).trans rfl
  have c3 : w5.cell? ⟨w1.heap.size, 3, none⟩ = some (.int .i64 100) := (blk_cell hj).trans rfl
  clear hj hb5 hb6 hb4
  go_wp2_with fail
  go_ret
  exact ⟨rfl, hb7⟩
end Go.Proofs.YthhchicggidhcaaDoor
