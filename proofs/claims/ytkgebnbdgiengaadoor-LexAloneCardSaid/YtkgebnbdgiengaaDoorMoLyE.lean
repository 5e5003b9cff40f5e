/- moved: walked. -/
import Derived.Test.YtkgebnbdgiengaaDoorMoLxZ
import Derived.Test.YtkgebnbdgiengaaDoorMoLyD
import Derived.Deep.MidRow
namespace Go.Proofs.YtkgebnbdgiengaaDoor
open Go.RowKit Lx

theorem row_range {w : World} {A : Option Addr} {cs : List Value} {ts : List Tk} (hR : Reads w 33 A cs) (ht : TkRow w ts cs) {i : Nat} (hi : i < ts.length) : ∃ b o B c, A = some ⟨b, o, none⟩ ∧ Reads w 69 B (ints .u32 ts[i].mag) ∧ w.rangeAt b (o + i * 10) (tkCs ts[i] (.slice B ts[i].mag.length c)) := by
  obtain ⟨b, o, B, c, h1, h2, h3⟩ := row_cell hR ht hi
  refine ⟨b, o, B, c, h1, h2, fun j v hv => ?_⟩
  obtain ⟨hj, hv⟩ := List.getElem?_eq_some_iff.1 hv
  rw [← hv, Nat.add_assoc]
  exact h3 j hj
/-- A token loaded out of a row. -/
theorem load_el {ops : Array Oper} {rest : List Oper} {o : Oper} {a : Act} {W : World} {Q : Exit → Act → World → Prop} (hgd : o.guard = none) (x : Operand) (ho : o.op = .load 33 x)
    (b f : Nat) (hx : a.eval x = .pointer (some ⟨b, f, none⟩)) (cs : List Value) (hc : W.rangeAt b f cs) (hcs : cs.length = 10)
    (h : wpList Tryd.prog ops Q rest (a.put o.dst (.agg cs.toArray)) W) : wpList Tryd.prog ops Q (o :: rest) a W :=
  wpList_load_mid hgd 33 x ho b f hx cs _ hc Tryd.underlying33 rfl (by rw [infoTok, hcs]) h
set_option maxRecDepth 100000 in
set_option maxHeartbeats 1600000 in
theorem moved_any (x : Tk) (d : Nat) (u v : Value) (w : World) (hu : TkV w x u) (hv : TkV w (x.sh d) v) (hn : x.mag.length ≤ 1000000) (ha : x.a + d ≤ 1000000) (he : x.e + d ≤ 1000000) :
    Calls Tryd.prog 11 #[u, v, .int .i64 d] w fun e w' => e = .returned (.bool true) ∧ Below w.heap.size w w' := by
  obtain ⟨A, c, rfl, hA⟩ := hu
  obtain ⟨B, d', rfl, hB⟩ := hv
  have hmag : (x.sh d).mag = x.mag := rfl
  have hb : Below w.heap.size w ((w.alloc (.cells (tkCs (x.sh d) (.slice A x.mag.length c)).toArray 33)).alloc (.cells (tkCs (x.sh d) (.slice B x.mag.length d')).toArray 33)) := ((Below.refl _ _).alloc (Nat.le_refl _) _).alloc (by simp) _
  have hu5 : TkV ((w.alloc (.cells (tkCs (x.sh d) (.slice A x.mag.length c)).toArray 33)).alloc (.cells (tkCs (x.sh d) (.slice B x.mag.length d')).toArray 33)) (x.sh d) (tkVal (x.sh d) (.slice A x.mag.length c)) := ⟨A, c, rfl, hA.below hb⟩
  have hv5 : TkV ((w.alloc (.cells (tkCs (x.sh d) (.slice A x.mag.length c)).toArray 33)).alloc (.cells (tkCs (x.sh d) (.slice B x.mag.length d')).toArray 33)) (x.sh d) (tkVal (x.sh d) (.slice B x.mag.length d')) := ⟨B, d', rfl, hB.below hb⟩
  obtain ⟨xk, xa, xe, xs, xd, xc, xn, xm, xt⟩ := x
  simp only [Tk.sh, tkVal, tkCs, Int.natCast_add] at *
  go_enter Tryd.func11, Tryd.ntmps11
  go_wp2_with fail
  refine (same4_any (Tk.mk xk (xa + d) (xe + d) xs xd xc xn xm xt) _ _ _ hu5 hv5 hn).mono ?_
  rintro e w2 ⟨rfl, hb2⟩
  go_wp2_with fail
  go_ret
  exact ⟨rfl, hb.trans (hb2.mono hb.size)⟩
end Go.Proofs.YtkgebnbdgiengaaDoor
