/- LexRises, walked. -/
import Derived.Test.YtkgebnbdgiengaaDoorMoLxZ
import Derived.Test.YtkgebnbdgiengaaDoorMoLxY
import Derived.Deep.MidRow
namespace Go.Proofs.YtkgebnbdgiengaaDoor
open Go.RowKit Lx

theorem row_range {w : World} {A : Option Addr} {cs : List Value} {ts : List Tk} (hR : Reads w 33 A cs) (ht : TkRow w ts cs) {i : Nat} (hi : i < ts.length) : ∃ b o B c, A = some ⟨b, o, none⟩ ∧ Reads w 69 B (ints .u32 ts[i].mag) ∧ w.rangeAt b (o + i * 10) (tkCs ts[i] (.slice B ts[i].mag.length c)) := by
  obtain ⟨b, o, B, c, h1, h2, h3⟩ := row_cell hR ht hi
  refine ⟨b, o, B, c, h1, h2, fun j v hv => ?_⟩
  obtain ⟨hj, hv⟩ := List.getElem?_eq_some_iff.1 hv
  rw [← hv, Nat.add_assoc]
  exact h3 j hj
/-- A token loaded out of a row. -/
theorem load_el {ops : Array Oper} {rest : List Oper} {o : Oper} {a : Act} {W : World} {Q : Exit → Act → World → Prop} (hgd : o.guard = none) (x : Operand) (ho : o.op = .load 33 x)
    (b f : Nat) (hx : a.eval x = .pointer (some ⟨b, f, none⟩)) (cs : List Value) (hc : W.rangeAt b f cs) (hcs : cs.length = 10)
    (h : wpList Tryd.prog ops Q rest (a.put o.dst (.agg cs.toArray)) W) : wpList Tryd.prog ops Q (o :: rest) a W :=
  wpList_load_mid hgd 33 x ho b f hx cs _ hc Tryd.underlying33 rfl (by rw [infoTok, hcs]) h

theorem rskip_same (s : ByteArray) (k : Nat) (hk : k ≤ s.size) (hs : s.size ≤ 9223372036854775800) (w : World) :
    Calls Tryd.prog 7 #[.string s, .int .i64 k] w fun e w' => e = .returned (.int .i64 (skI (skp .base k (s.data.toList.drop k)))) ∧ w' = w :=
  (rskip_any s k hk hs w).mono fun _ _ ⟨h1, h2⟩ => ⟨h1, h2.symm⟩
set_option maxRecDepth 100000 in
set_option maxHeartbeats 3200000 in
theorem LexRises_any (s : ByteArray) (hs : s.size ≤ 9223372036854775800) (w : World) (hL : Lu w) : Calls Tryd.prog 3 #[.string s] w fun e w' => e = .returned (.bool true) ∧ Below w.heap.size w w' := by
  have hch := chain_all s.data.toList
  have hall := fun W hW => All_any s (by omega) W hW
  obtain ⟨R, hR⟩ : ∃ R, lexAll s.data.toList = R := ⟨_, rfl⟩
  rw [hR] at hch hall
  obtain ⟨ts, p, c⟩ := R
  have HC := Lib.hid hch
  have HA := Lib.hid hall
  have HS := Lib.hid hs
  clear hR hch hall hs
  go_enter Tryd.func3, Tryd.ntmps3
  go_wp2_with fail
  refine (HA.out w hL).mono ?_
  rintro e w1 ⟨hb1, A, cap, cs, rfl, hR1, ht1⟩
  simp only
  dsimp only at ht1
  go_wp2_with fail
  go_loopw [6, 7] (fun v t wr => ∃ i : Nat, i ≤ ts.length ∧ t = .int .i64 i ∧ v = .int .i64 (atOf ts i) ∧ Reads wr 33 A cs ∧ TkRow wr ts cs ∧ Below w.heap.size w wr) (fun _ t _ => ts.length - (intOf t).toNat)
  case atStart => exact ⟨0, Nat.zero_le _, rfl, rfl, hR1, ht1, hb1⟩
  case round =>
    obtain ⟨i, hi, rfl, rfl, hR, ht, hB⟩ := hrel
    clear hR1 ht1 hb1
    by_cases hlt : i < ts.length
    · obtain ⟨b, o, B, cc, rfl, hRm, hrg⟩ := row_range hR ht hlt
      have htok := HC.out.tok i hlt
      have hbd := nextG_end htok.1 htok.2
      have hag := nextG_again htok.1 htok.2
      have hmag := Nat.le_trans (nextG_mag htok.1) (by decide : 48 ≤ 1000000)
      have hsk := nextG_skip htok.1 htok.2
      have hxe : atOf ts (i + 1) = ts[i].e := atOf_succ hlt
      have hik := chain_ge HC.out.tok hi
      rw [← Lib.size_eq] at hbd
      obtain ⟨k, hk⟩ : ∃ k, atOf ts i = k := ⟨_, rfl⟩
      rw [hk] at hbd hsk hik ⊢
      obtain ⟨x, hx⟩ : ∃ x, ts[i] = x := ⟨_, rfl⟩
      rw [hx] at hbd hsk hag hxe hRm hrg hmag
      have HAG := Lib.hid hag
      have HSK := Lib.hid hsk
      have HXE := Lib.hid hxe
      clear hag hsk hxe hk hx htok
      obtain ⟨hb1, hb2, hb3, hb4⟩ := hbd
      have hgw := hB.size
      have hBB := hB
      go_wp2_with (refine load_el rfl (.tmp 26) rfl b (o + i * 10) (by rfl) (tkCs x (.slice B x.mag.length cc)) hrg rfl ?_; unfold tkCs)
      have hg2 := heap_alloc_new wr (.cells (tkCs x (.slice B x.mag.length cc)).toArray 33)
      have hbb : Below wr.heap.size wr (wr.alloc (.cells (tkCs x (.slice B x.mag.length cc)).toArray 33)) := (Below.refl _ _).alloc (Nat.le_refl _) _
      unfold tkCs at hg2 hbb
      generalize hw2 : wr.alloc (.cells #[.int .i64 x.kind, .int .i64 x.a, .int .i64 x.e, .bool x.sq, .int .i64 x.dk, .int .i32 x.c, .bool x.neg, .slice B x.mag.length cc, .string ⟨x.t.toArray⟩, .slice none 0 0] 33) = w2 at *
      clear hw2
      obtain ⟨g, hG⟩ : ∃ g, wr.heap.size = g := ⟨_, rfl⟩
      rw [hG] at hg2 hbb hgw ⊢
      have HG := Lib.hid hG
      clear hG
      have c1 : w2.cell? ⟨g, 1, none⟩ = some (.int .i64 x.a) := (blk_cell hg2).trans rfl
      have c2 : w2.cell? ⟨g, 2, none⟩ = some (.int .i64 x.e) := (blk_cell hg2).trans rfl
      have q1 : decide (x.a < k) = false := decide_eq_false (by omega)
      have q2 : decide (x.e ≤ x.a) = false := decide_eq_false (by omega)
      have q3 : decide (s.size < x.e) = false := decide_eq_false (by omega)
      have q4 : ((x.a : Int) != (x.a : Int)) = false := by simp
      have hsk := fun W => rskip_same s k (by omega) (by omega) W
      rw [HSK.out, skI] at hsk
      have HSKI := Lib.hid hsk
      clear hsk
      go_quiet ((go_at_call 7; exact Calls.quiet_of_same (HSKI.out _)))
      have hg3 : (w2.drewN nq).heap[g]? = _ := hg2
      have hb3' : Below g wr (w2.drewN nq) := below_drewN' hbb nq
      clear c1 c2 hg2 hbb q4 hrg
      generalize w2.drewN nq = w3 at *
      have c1 : w3.cell? ⟨g, 1, none⟩ = some (.int .i64 x.a) := (blk_cell hg3).trans rfl
      go_wp2_with fail
      have hnx := fun W hW => Next_any s (x.a : Int) (by omega) (by omega) (by omega) W hW
      rw [HAG.out] at hnx
      have hL3 : Lu w3 := hL.below ((hBB.trans (hb3'.mono hgw)))
      refine (hnx w3 hL3).mono ?_
      rintro e w4 ⟨hb4', v, rfl, A2, c2, rfl, hR4⟩
      have hg5 : (w4.alloc (.cells (tkCs x (.slice A2 x.mag.length c2)).toArray 33)).heap[g]? = _ := blk_alloc (blk_belowS hb4' hg3) _
      have hB5 : Below g wr (w4.alloc (.cells (tkCs x (.slice A2 x.mag.length c2)).toArray 33)) := (hb3'.trans (hb4'.mono (Nat.le_of_lt (blk_lt hg3)))).alloc (Nat.le_trans (Nat.le_of_lt (blk_lt hg3)) hb4'.size) _
      have hu5 : TkV (w4.alloc (.cells (tkCs x (.slice A2 x.mag.length c2)).toArray 33)) x (tkVal x (.slice A2 x.mag.length c2)) := ⟨A2, c2, rfl, hR4.below ((Below.refl _ _).alloc (Nat.le_refl _) _)⟩
      have hv5 : TkV (w4.alloc (.cells (tkCs x (.slice A2 x.mag.length c2)).toArray 33)) x (tkVal x (.slice B x.mag.length cc)) := ⟨B, cc, rfl, hRm.below (HG.out ▸ hB5)⟩
      have he5 : (w4.alloc (.cells (tkCs x (.slice A2 x.mag.length c2)).toArray 33)).heap[w4.heap.size]? = _ := heap_alloc_new _ _
      clear hnx hL3 hb4' hR4 hg3 hb3' c1
      unfold tkVal tkCs at *
      have d0 : (w4.alloc (.cells #[.int .i64 x.kind, .int .i64 x.a, .int .i64 x.e, .bool x.sq, .int .i64 x.dk, .int .i32 x.c, .bool x.neg, .slice A2 x.mag.length c2, .string ⟨x.t.toArray⟩, .slice none 0 0] 33)).cell? ⟨g, 0, none⟩ = some (.int .i64 x.kind) := (blk_cell hg5).trans rfl
      have d1 : (w4.alloc (.cells #[.int .i64 x.kind, .int .i64 x.a, .int .i64 x.e, .bool x.sq, .int .i64 x.dk, .int .i32 x.c, .bool x.neg, .slice A2 x.mag.length c2, .string ⟨x.t.toArray⟩, .slice none 0 0] 33)).cell? ⟨g, 1, none⟩ = some (.int .i64 x.a) := (blk_cell hg5).trans rfl
      have d2 : (w4.alloc (.cells #[.int .i64 x.kind, .int .i64 x.a, .int .i64 x.e, .bool x.sq, .int .i64 x.dk, .int .i32 x.c, .bool x.neg, .slice A2 x.mag.length c2, .string ⟨x.t.toArray⟩, .slice none 0 0] 33)).cell? ⟨g, 2, none⟩ = some (.int .i64 x.e) := (blk_cell hg5).trans rfl
      have d3 : (w4.alloc (.cells #[.int .i64 x.kind, .int .i64 x.a, .int .i64 x.e, .bool x.sq, .int .i64 x.dk, .int .i32 x.c, .bool x.neg, .slice A2 x.mag.length c2, .string ⟨x.t.toArray⟩, .slice none 0 0] 33)).cell? ⟨g, 3, none⟩ = some (.bool x.sq) := (blk_cell hg5).trans rfl
      have d4 : (w4.alloc (.cells #[.int .i64 x.kind, .int .i64 x.a, .int .i64 x.e, .bool x.sq, .int .i64 x.dk, .int .i32 x.c, .bool x.neg, .slice A2 x.mag.length c2, .string ⟨x.t.toArray⟩, .slice none 0 0] 33)).cell? ⟨g, 4, none⟩ = some (.int .i64 x.dk) := (blk_cell hg5).trans rfl
      have d5 : (w4.alloc (.cells #[.int .i64 x.kind, .int .i64 x.a, .int .i64 x.e, .bool x.sq, .int .i64 x.dk, .int .i32 x.c, .bool x.neg, .slice A2 x.mag.length c2, .string ⟨x.t.toArray⟩, .slice none 0 0] 33)).cell? ⟨g, 5, none⟩ = some (.int .i32 x.c) := (blk_cell hg5).trans rfl
      have d6 : (w4.alloc (.cells #[.int .i64 x.kind, .int .i64 x.a, .int .i64 x.e, .bool x.sq, .int .i64 x.dk, .int .i32 x.c, .bool x.neg, .slice A2 x.mag.length c2, .string ⟨x.t.toArray⟩, .slice none 0 0] 33)).cell? ⟨g, 6, none⟩ = some (.bool x.neg) := (blk_cell hg5).trans rfl
      have d7 : (w4.alloc (.cells #[.int .i64 x.kind, .int .i64 x.a, .int .i64 x.e, .bool x.sq, .int .i64 x.dk, .int .i32 x.c, .bool x.neg, .slice A2 x.mag.length c2, .string ⟨x.t.toArray⟩, .slice none 0 0] 33)).cell? ⟨g, 7, none⟩ = some (.slice B x.mag.length cc) := (blk_cell hg5).trans rfl
      have d8 : (w4.alloc (.cells #[.int .i64 x.kind, .int .i64 x.a, .int .i64 x.e, .bool x.sq, .int .i64 x.dk, .int .i32 x.c, .bool x.neg, .slice A2 x.mag.length c2, .string ⟨x.t.toArray⟩, .slice none 0 0] 33)).cell? ⟨g, 8, none⟩ = some (.string ⟨x.t.toArray⟩) := (blk_cell hg5).trans rfl
      have d9 : (w4.alloc (.cells #[.int .i64 x.kind, .int .i64 x.a, .int .i64 x.e, .bool x.sq, .int .i64 x.dk, .int .i32 x.c, .bool x.neg, .slice A2 x.mag.length c2, .string ⟨x.t.toArray⟩, .slice none 0 0] 33)).cell? ⟨g, 9, none⟩ = some (.slice none 0 0) := (blk_cell hg5).trans rfl
      go_wp2_with fail
      generalize (w4.alloc (.cells #[.int .i64 x.kind, .int .i64 x.a, .int .i64 x.e, .bool x.sq, .int .i64 x.dk, .int .i32 x.c, .bool x.neg, .slice A2 x.mag.length c2, .string ⟨x.t.toArray⟩, .slice none 0 0] 33)) = w5 at *
      refine (same4_any x _ _ w5 hv5 hu5 hmag).mono ?_
      rintro e w6 ⟨rfl, hb6⟩
      have hg6 := blk_belowS hb6 hg5
      have hB6 : Below g wr w6 := hB5.trans (hb6.mono (Nat.le_of_lt (blk_lt hg5)))
      clear hb6 hg5 hB5 hu5 hv5 he5 d0 d1 d2 d3 d4 d5 d6 d7 d8 d9
      have d2 : w6.cell? ⟨g, 2, none⟩ = some (.int .i64 x.e) := (blk_cell hg6).trans rfl
      have hR6 : Reads w6 33 (some ⟨b, o, none⟩) cs := hR.below (HG.out ▸ hB6)
      have ht6 : TkRow w6 ts cs := ht.below (HG.out ▸ hB6)
      have hBw : Below w.heap.size w w6 := hBB.trans (hB6.mono hgw)
      clear hR ht hB hBB hB6 hg6 hRm
      go_wp2_with fail
      go_roundw
      case rel => exact ⟨i + 1, by omega, by go_num, by rw [HXE.out], hR6, ht6, hBw⟩
      case measure => simp [intOf]; omega
    · have hie : i = ts.length := by omega
      subst hie
      have hle : atOf ts ts.length ≤ s.size := by
        rw [Lib.size_eq]
        exact chain_le HC.out.tok (Nat.le_refl _)
      rcases HC.out.fin with ⟨hc, _⟩ | ⟨hc, _, t, ht0, ht1⟩
      · have hcf : ((c : Int) != 0) = true := by rw [bne_iff_ne]; omega
        clear hc hR ht
        go_wp2_with fail
        refine (awake_any wr (hL.below hB)).mono ?_
        rintro e w4 ⟨rfl, hb4⟩
        go_wp2_with fail
        go_ret
        exact ⟨rfl, hB.trans (hb4.mono hB.size)⟩
      · subst hc
        have hsk := nextG_last ht0 ht1
        rw [← Lib.size_eq] at hsk
        obtain ⟨k, hk⟩ : ∃ k, atOf ts ts.length = k := ⟨_, rfl⟩
        rw [hk] at hsk hle ⊢
        have HSK := Lib.hid hsk
        have hss := HS.out
        have hrs := fun W => rskip_any s k hle hss W
        rw [hsk, skI] at hrs
        have HRS := Lib.hid hrs
        clear hsk hrs ht0 ht1 hk hR ht
        go_wp2_with fail
        refine (HRS.out wr).mono ?_
        rintro e w4 ⟨rfl, rfl⟩
        go_wp2_with fail
        refine (awake_any wr (hL.below hB)).mono ?_
        rintro e w5 ⟨rfl, hb5⟩
        go_wp2_with fail
        go_ret
        exact ⟨rfl, hB.trans (hb5.mono hB.size)⟩
end Go.Proofs.YtkgebnbdgiengaaDoor
