/- The elements' types, as the translation has them. -/
import Derived.Test.YtkgebnbdgiengaaDoorProg
import Derived.Test.YtkgebnbdgiengaaDoorMoBase
namespace Go.Proofs.YtkgebnbdgiengaaDoor
open Go.RowKit
theorem infoU8 : (Tryd.prog.info? 5).map (fun i => (i.zero, i.size, i.bytes)) = some (some (.int .u8 0), 1, 1) := by kernel_rfl
theorem infoI64 : (Tryd.prog.info? 3).map (fun i => (i.zero, i.size, i.bytes)) = some (some (.int .i64 0), 1, 8) := by kernel_rfl
end Go.Proofs.YtkgebnbdgiengaaDoor
