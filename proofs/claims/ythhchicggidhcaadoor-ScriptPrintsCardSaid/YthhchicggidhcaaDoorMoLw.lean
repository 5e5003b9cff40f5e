/- What the row's list gives: the library's variables. -/
import Derived.Test.YthhchicggidhcaaDoorMoLaid
import Derived.LaidSub
import Derived.Lib.LaidTab
namespace Go.Proofs.YthhchicggidhcaaDoor
open Go.ChangeShapes Go.WideShapes Go.RowKit

theorem one_of_laid {P : Program} {W : World} {l : List (String × DataW Unit)} {name : String} {d : DataW Unit} (hl : (l.filter fun x => x.1 == name) = [(name, d)]) (hd : d.handleName?.isNone = true) (h : laidMetH P l W) : laidMet P [(name, d)] W := by
  have h1 := h.filter (fun x => x.1 == name)
  rw [hl] at h1
  have h2 := (laidMetH_iff.1 h1).1
  rwa [List.filter_cons_of_pos (by exact hd), List.filter_nil] at h2

theorem iface_form {H : Type} {enc : TypeId × Value → H} {P : Program} {w : World} {base fuel : Nat} {sp : Nat → Bool} {held : Bool} {t : TypeId} {ms : Array (String × TypeId)} {cs : List Value} {nm : String} {d : DataW H} {p : List MemPlace}
    (ht : P.underlying t = some (.interface ms)) (h : DataW.trod enc P w base sp held fuel t cs = some (.iface nm d, p)) : ∃ u v, cs = [.iface u v] := by
  cases fuel with
  | zero => simp [DataW.trod] at h
  | succ n =>
    unfold DataW.trod at h
    rw [ht] at h
    split at h <;> simp_all

theorem err_of_laid {P : Program} {W : World} {name : String} {nm : String} {d : DataW Unit} {g : Nat} {t : TypeId} {ms : Array (String × TypeId)} (hg : P.globalNamed name = some g) (hty : (P.globals[g]?).map (·.type) = some t)
    (ht : P.underlying t = some (.interface ms)) (h : laidMet P [(name, .iface nm d)] W) : ∃ tp p, W.var? P name = some #[.iface tp p] := by
  obtain ⟨ps, ⟨g', t', cs, fuel, p, q, hg', ht', hvar, hd, _, _⟩, _⟩ := h
  obtain rfl := Option.some.inj (hg.symm.trans hg')
  obtain rfl := Option.some.inj (hty.symm.trans ht')
  obtain ⟨u, v, e⟩ := iface_form ht hd
  obtain ⟨l⟩ := cs
  simp only at e
  subst e
  exact ⟨u, v, hvar⟩

theorem gPow : Tryd.prog.globalNamed "internal/strconv.uint64pow10" = some 4 := by kernel_rfl
theorem gSyn : Tryd.prog.globalNamed "strconv.ErrSyntax" = some 5 := by kernel_rfl
theorem gRng : Tryd.prog.globalNamed "strconv.ErrRange" = some 6 := by kernel_rfl
end Go.Proofs.YthhchicggidhcaaDoor
