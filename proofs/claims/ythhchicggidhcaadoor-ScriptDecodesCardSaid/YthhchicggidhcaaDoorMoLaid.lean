/- What the row's list gives of the library's variables, and that it stays. -/
import Derived.Test.YthhchicggidhcaaDoorMoBase
import Derived.Test.YthhchicggidhcaaDoorProg
import Derived.Lib.LaidTab
import Derived.ChangeAgain
import Derived.WalkSmall
import Derived.Lib.ItoaMem
namespace Go.Proofs.YthhchicggidhcaaDoor
open Go.RowKit

theorem var_stays {P : Program} {W W' : World} {n : String} {cs : Array Value} (h : Below W.heap.size W W') (hv : W.var? P n = some cs) : W'.var? P n = some cs := by
  unfold World.var? at hv ⊢
  cases hg : P.globalNamed n with
  | none => rw [hg] at hv; cases hv
  | some g =>
    rw [hg] at hv
    simp only [Option.bind_some] at hv ⊢
    by_cases hlt : g < W.heap.size
    · rw [h.block g hlt]; exact hv
    · rw [Array.getElem?_eq_none (by omega)] at hv; cases hv

/-- What the walks ask of the library's variables. -/
structure Lw (w : World) : Prop where
  shaped : w.ShapedOpen Tryd.prog
  syn : ∃ tp p, w.var? Tryd.prog "strconv.ErrSyntax" = some #[.iface tp p]
  rng : ∃ tp p, w.var? Tryd.prog "strconv.ErrRange" = some #[.iface tp p]
  tab : Lib.TabIs Tryd.prog w "internal/strconv.uint64pow10" .u64 Lib.pow10Tab

theorem Lw.below {w w' : World} (h : Lw w) (hb : Below w.heap.size w w') : Lw w' where
  shaped := h.shaped.keptBut (hb.frame (fun _ => False)) (fun _ h => h.elim)
  syn := by obtain ⟨t, p, hv⟩ := h.syn; exact ⟨t, p, var_stays hb hv⟩
  rng := by obtain ⟨t, p, hv⟩ := h.rng; exact ⟨t, p, var_stays hb hv⟩
  tab := var_stays hb h.tab

theorem Lw.alloc {w : World} (h : Lw w) (o : Obj) : Lw (w.alloc o) := h.below ((Below.refl _ _).alloc (Nat.le_refl _) o)
theorem Lw.drew {w : World} (h : Lw w) : Lw w.drew := h.below (Below.refl _ _).drew
theorem Lw.drewN {w : World} (h : Lw w) (n : Nat) : Lw (w.drewN n) := h.below (below_drewN (Below.refl _ _) n)
end Go.Proofs.YthhchicggidhcaaDoor
