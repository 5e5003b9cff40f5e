/- A world that fits: the settled one, the listed variables holding what their initialisers lay. -/
import Derived.Test.YthhchicggidhcaaDoorCards
import Derived.Test.YthhchicggidhcaaDoorTie
import Derived.Test.YthhchicggidhcaaDoorMoLw
import Derived.WalkKit
import Derived.ProofKit
import Derived.Deep.DeepHandedRow
import Derived.Deep.DeepWitnessRowRef
import Derived.SizedLaws
import Derived.Lib.LaidU8
import Derived.Lib.DecodeN
namespace Go.Proofs.YthhchicggidhcaaDoor
open Go.ChangeShapes Go.WideShapes Go.ChangeAt Go.RowKit

theorem own : ownKnob Tryd.prog.godebug = none := by kernel_rfl
noncomputable def laidWorld (os : Os) : World :=
  let N := (World.settled Tryd.prog os).heap.size
  let w0 := World.holding Tryd.prog os ⟨#[
    .cells #[.string ⟨#[118, 97, 108, 117, 101, 32, 111, 117, 116, 32, 111, 102, 32, 114, 97, 110, 103, 101]⟩] 221,
    .cells #[.string ⟨#[105, 110, 118, 97, 108, 105, 100, 32, 115, 121, 110, 116, 97, 120]⟩] 221], #[], []⟩
  let put (h : Array Obj) (g : Nat) (cs : Array Value) : Array Obj := h.modify g fun
    | .cells _ t frozen => .cells cs t frozen
    | o => o
  let h1 := put w0.heap 1 (Lib.firstTab.map fun z => Value.int .u8 z).toArray
  let h2 := put h1 2 ((List.range 16).flatMap fun i => [Value.int .u8 (Lib.accLo i), Value.int .u8 (Lib.accHi i)]).toArray
  let h3 := put h2 4 (Lib.pow10Tab.map fun z => Value.int .u64 z).toArray
  let h4 := put h3 6 #[.iface 219 (.pointer (some ⟨N, 0, none⟩))]
  let h5 := put h4 5 #[.iface 219 (.pointer (some ⟨N + 1, 0, none⟩))]
  let h6 := put h5 7 #[.int .u8 0, .int .u8 1, .int .u8 28, .int .u8 2, .int .u8 29, .int .u8 14, .int .u8 24, .int .u8 3, .int .u8 30, .int .u8 22, .int .u8 20, .int .u8 15, .int .u8 25, .int .u8 17, .int .u8 4, .int .u8 8, .int .u8 31, .int .u8 27, .int .u8 13, .int .u8 23, .int .u8 21, .int .u8 19, .int .u8 16, .int .u8 7, .int .u8 26, .int .u8 12, .int .u8 18, .int .u8 6, .int .u8 11, .int .u8 5, .int .u8 10, .int .u8 9]
  let h7 := put h6 8 #[.int .u8 0, .int .u8 1, .int .u8 56, .int .u8 2, .int .u8 57, .int .u8 49, .int .u8 28, .int .u8 3, .int .u8 61, .int .u8 58, .int .u8 42, .int .u8 50, .int .u8 38, .int .u8 29, .int .u8 17, .int .u8 4, .int .u8 62, .int .u8 47, .int .u8 59, .int .u8 36, .int .u8 45, .int .u8 43, .int .u8 51, .int .u8 22, .int .u8 53, .int .u8 39, .int .u8 33, .int .u8 30, .int .u8 24, .int .u8 18, .int .u8 12, .int .u8 5, .int .u8 63, .int .u8 55, .int .u8 48, .int .u8 27, .int .u8 60, .int .u8 41, .int .u8 37, .int .u8 16, .int .u8 46, .int .u8 35, .int .u8 44, .int .u8 21, .int .u8 52, .int .u8 32, .int .u8 23, .int .u8 11, .int .u8 54, .int .u8 26, .int .u8 40, .int .u8 15, .int .u8 34, .int .u8 20, .int .u8 31, .int .u8 10, .int .u8 25, .int .u8 14, .int .u8 19, .int .u8 9, .int .u8 13, .int .u8 8, .int .u8 7, .int .u8 6]
  { w0 with heap := h7 }

theorem laid_met (os : Os) (args : Array Value) : laidMet Tryd.prog Rows.scriptEncodesRow.laid ((laidWorld os).forCall (fun _ _ => 0) ⟨#[], args, []⟩).memory :=
  laidMet_of_run' 8 (by kernel_rfl) (by kernel_rfl)

theorem tPow : (Tryd.prog.globals[4]?).map (·.type) = some 199 := by kernel_rfl
theorem tSyn : (Tryd.prog.globals[5]?).map (·.type) = some 74 := by kernel_rfl
theorem tRng : (Tryd.prog.globals[6]?).map (·.type) = some 74 := by kernel_rfl
theorem lw_of {W : World} (h : laidMetH Tryd.prog Rows.scriptEncodesRow.laid W) (hsh : W.ShapedOpen Tryd.prog) : Lw W where
  shaped := hsh
  syn := err_of_laid gSyn tSyn Tryd.underlying74 (one_of_laid (d := Rows.laid_strconv_ErrSyntax) (by kernel_rfl) rfl h)
  rng := err_of_laid gRng tRng Tryd.underlying74 (one_of_laid (d := Rows.laid_strconv_ErrRange) (by kernel_rfl) rfl h)
  tab := Lib.tabIs_of_head (rest := []) gPow tPow Tryd.underlying199 Tryd.underlying99 (by kernel_rfl) (by kernel_rfl) (one_of_laid (d := Rows.laid_internal_strconv_uint64pow10) (by kernel_rfl) rfl h)
end Go.Proofs.YthhchicggidhcaaDoor
