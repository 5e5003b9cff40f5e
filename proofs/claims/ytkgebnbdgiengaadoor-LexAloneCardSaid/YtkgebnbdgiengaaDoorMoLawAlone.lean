/- LexAlone, walked. -/
import Derived.Test.YtkgebnbdgiengaaDoorMoLyF
import Derived.StillTailTactics
import Derived.Deep.DeepCutAuto
import Derived.IntWalk
namespace Go.Proofs.YtkgebnbdgiengaaDoor
open Go.RowKit Lx

theorem ext_list (s : ByteArray) (a e : Nat) : (s.extract a e).data.toList = (s.data.toList.drop a).take (e - a) := by
  simp [ByteArray.data_extract]
/-- All, of a text of one token. -/
theorem all_one (s : ByteArray) (hs : s.size ≤ 9223372036854775807) (t : Tk) (h : lexAll s.data.toList = ([t], 0, 0)) (w : World) (hL : Lu w) :
    Calls Tryd.prog 6 #[.string s] w fun e w' => Below w.heap.size w w' ∧ ∃ A c, e = .returned (.tuple #[.slice A 1 c, .int .i64 0, .int .i64 0]) ∧ R2 w' A [t] := by
  have := All_any s hs w hL
  rw [h] at this
  exact this.mono fun _ _ h => all_r2 h
theorem R2.one {w : World} {A : Option Addr} {t : Tk} (h : R2 w A [t]) : ∃ b o B c, A = some ⟨b, o, none⟩ ∧ Reads w 69 B (ints .u32 t.mag) ∧ w.rangeAt b o (tkCs t (.slice B t.mag.length c)) := by
  obtain ⟨b, o, B, c, h1, h2, h3⟩ := h.tok (i := 0) (by simp)
  exact ⟨b, o, B, c, h1, h2, by simpa using h3⟩
set_option maxRecDepth 100000 in
set_option maxHeartbeats 3200000 in
theorem LexAlone_any (s : ByteArray) (hs : s.size ≤ 9223372036854775807) (w : World) (hL : Lu w) : Calls Tryd.prog 5 #[.string s] w fun e w' => e = .returned (.bool true) ∧ Below w.heap.size w w' := by
  have hA := fun W hW => (All_any s hs W hW).mono (fun _ _ h => all_r2 h)
  have hsl : s.data.toList.length = s.size := by rw [← Lib.size_eq]
  have hch := chain_all s.data.toList
  have hbd := fun i hi => all_bd s.data.toList (i := i) hi
  have hmg := fun i hi => all_mag s.data.toList (i := i) hi
  rw [hsl] at hbd
  generalize lexAll s.data.toList = RA at *
  obtain ⟨ts, p, c⟩ := RA
  simp only at hA hch hbd hmg
  have HA := Lib.hid hA
  have HCH := Lib.hid hch
  have HBD := Lib.hid hbd
  have HMG := Lib.hid hmg
  have HS := Lib.hid hs
  clear hA hch hbd hmg hsl hs
  go_enter Tryd.func5, Tryd.ntmps5
  go_wp2_with fail
  refine (HA.out w hL).mono ?_
  rintro e w1 ⟨hb1, A, cA, rfl, hrA⟩
  have hL1 := hL.below hb1
  by_cases h200 : 200 < ts.length
  · have hlt : (200 : Int) < (ts.length : Int) := by omega
    clear h200 hrA
    go_wp2_with fail
    refine (awake_any w1 hL1).mono ?_
    rintro e w4 ⟨rfl, hb4⟩
    go_wp2_with fail
    go_ret
    exact ⟨rfl, hb1.trans (hb4.mono hb1.size)⟩
  have hn200 : ¬ (200 : Int) < (ts.length : Int) := by omega
  clear h200
  go_wp2_with fail
  go_loopw [6] (fun t wr => ∃ i : Nat, i ≤ ts.length ∧ t = .int .i64 i ∧ R2 wr A ts ∧ Below w.heap.size w wr) (fun t _ => ts.length - (intOf t).toNat)
  case atStart => exact ⟨0, Nat.zero_le _, rfl, hrA, hb1⟩
  case round =>
    obtain ⟨i, hi, rfl, hrA1, hB⟩ := hrel
    clear hrA hb1 hL1
    by_cases hlt : i < ts.length
    · obtain ⟨b, o, B, cc, rfl, hRm, hrg⟩ := hrA1.tok hlt
      have hb3 := HBD.out i hlt
      have hmag := HMG.out i hlt
      have hal := alone (HCH.out.tok i hlt).1 (HCH.out.tok i hlt).2
      obtain ⟨x, hx⟩ : ∃ x, ts[i] = x := ⟨_, rfl⟩
      rw [hx] at hRm hrg hb3 hmag hal
      have HAL := Lib.hid hal
      clear hal hx
      obtain ⟨hb1, hb2, hb4⟩ := hb3
      have hgw := hB.size
      have hLr := hL.below hB
      go_wp2_with (refine load_el rfl (.tmp 33) rfl b (o + i * 10) (by rfl) (tkCs x (.slice B x.mag.length cc)) hrg rfl ?_; unfold tkCs)
      have hg2 := heap_alloc_new wr (.cells (tkCs x (.slice B x.mag.length cc)).toArray 33)
      have hbb : Below wr.heap.size wr (wr.alloc (.cells (tkCs x (.slice B x.mag.length cc)).toArray 33)) := (Below.refl _ _).alloc (Nat.le_refl _) _
      unfold tkCs at hg2 hbb
      generalize hw2 : wr.alloc (.cells #[.int .i64 x.kind, .int .i64 x.a, .int .i64 x.e, .bool x.sq, .int .i64 x.dk, .int .i32 x.c, .bool x.neg, .slice B x.mag.length cc, .string ⟨x.t.toArray⟩, .slice none 0 0] 33) = w2 at *
      clear hw2
      have hL2 := hLr.below hbb
      obtain ⟨g, hG⟩ : ∃ g, wr.heap.size = g := ⟨_, rfl⟩
      rw [hG] at hg2 hbb hgw ⊢
      have HG := Lib.hid hG
      obtain ⟨t0, hte, ht0, hw1, hw2⟩ := HAL.out
      have hwsz : (s.extract x.a x.e).size = x.e - x.a := by rw [ByteArray.size_extract]; omega
      have hwd := ext_list s x.a x.e
      rw [← hwd] at hw1 hw2
      clear hG HAL hrg hLr hwd
      obtain ⟨w0, hw0⟩ : ∃ w0, s.extract x.a x.e = w0 := ⟨_, rfl⟩
      rw [hw0] at hwsz hw1 hw2 ⊢
      clear hw0
      have HW2 := Lib.hid hw2
      clear hw2
      refine (all_one w0 (by omega) t0 hw1 w2 hL2).mono ?_
      rintro e w3 ⟨hb3, A1, cA1, rfl, hr1⟩
      obtain ⟨b1, o1, B1, k1, rfl, hm1, hg1⟩ := hr1.one
      have hg3 := blk_belowS hb3 hg2
      have hB3 : Below g wr w3 := hbb.trans (hb3.mono (Nat.le_of_lt (blk_lt hg2)))
      have hL3 := hL2.below hb3
      have hRm3 : Reads w3 69 B (ints .u32 x.mag) := hRm.below (HG.out ▸ hB3)
      have hte' := hte
      have e1 : t0.mag = x.mag := by rw [hte]; rfl
      have e2 : t0.e ≤ 1000000 - x.a := by
        have : x.e = t0.e + x.a := congrArg Tk.e hte
        omega
      have hmv := fun (W : World) u v hu hv => moved_any t0 x.a u v W hu hv (by rw [e1]; exact hmag) (by omega) (by omega)
      rw [← hte] at hmv
      have HMV := Lib.hid hmv
      have HTE := Lib.hid hte
      have hu : TkV w3.drew t0 (tkVal t0 (.slice B1 t0.mag.length k1)) := ⟨B1, k1, rfl, hm1⟩
      have hv : TkV w3.drew x (tkVal x (.slice B x.mag.length cc)) := ⟨B, cc, rfl, hRm3⟩
      have HT0 := Lib.hid ht0
      clear hmv hte hte' ht0 e1 e2 hm1 hr1 hb3 hL2 hg2 hbb hw1
      obtain ⟨c0, c1, c2, c3, c4, c5, c6, c7, c8, c9⟩ := cells10 hg1
      unfold tkVal tkCs at hu hv
      clear hg1
      have d0 : w3.cell? ⟨g, 0, none⟩ = some (.int .i64 x.kind) := (blk_cell hg3).trans rfl
      have d1 : w3.cell? ⟨g, 1, none⟩ = some (.int .i64 x.a) := (blk_cell hg3).trans rfl
      have d2 : w3.cell? ⟨g, 2, none⟩ = some (.int .i64 x.e) := (blk_cell hg3).trans rfl
      have d3 : w3.cell? ⟨g, 3, none⟩ = some (.bool x.sq) := (blk_cell hg3).trans rfl
      have d4 : w3.cell? ⟨g, 4, none⟩ = some (.int .i64 x.dk) := (blk_cell hg3).trans rfl
      have d5 : w3.cell? ⟨g, 5, none⟩ = some (.int .i32 x.c) := (blk_cell hg3).trans rfl
      have d6 : w3.cell? ⟨g, 6, none⟩ = some (.bool x.neg) := (blk_cell hg3).trans rfl
      have d7 : w3.cell? ⟨g, 7, none⟩ = some (.slice B x.mag.length cc) := (blk_cell hg3).trans rfl
      have d8 : w3.cell? ⟨g, 8, none⟩ = some (.string ⟨x.t.toArray⟩) := (blk_cell hg3).trans rfl
      have d9 : w3.cell? ⟨g, 9, none⟩ = some (.slice none 0 0) := (blk_cell hg3).trans rfl
      go_wp2_with fail
      go_still_tail 14, (by kernel_rfl)
      have hg4 : w3.drew.heap[g]? = _ := hg3
      have hB4 : Below g wr w3.drew := hB3.drew
      have hL4 : Lu w3.drew := hL3.below ((Below.refl _ _).drew)
      have hRm4 : Reads w3.drew 69 B (ints .u32 x.mag) := hRm3
      clear c0 c1 c2 c3 c4 c5 c6 c7 c8 c9 d0 d1 d2 d3 d4 d5 d6 d7 d8 d9 hg3 hB3 hL3 hRm3
      change wpList _ _ _ _ _ w3.drew
      generalize w3.drew = w5 at *
      go_wp2_with fail
      refine (HMV.out w5 _ _ hu hv).mono ?_
      rintro e w6 ⟨rfl, hb6⟩
      have hg6 := blk_belowS hb6 hg4
      have hB6 : Below g wr w6 := hB4.trans (hb6.mono (Nat.le_of_lt (blk_lt hg4)))
      have hL6 := hL4.below hb6
      have hRm6 := hRm4.below hb6
      clear hu hv hg4 hB4 hL4 hRm4 hb6 HMV
      by_cases h4 : 4000 < w0.size
      · have h4' : (4000 : Int) < (w0.size : Int) := by omega
        have hRA : R2 w6 (some ⟨b, o, none⟩) ts := hrA1.below (HG.out ▸ hB6)
        have hBw : Below w.heap.size w w6 := hB.trans (hB6.mono hgw)
        clear hrA1 hB hB6 hg6 hRm6 hL6 h4
        go_wp2_with fail
        go_roundw
        case rel => first | exact ⟨i + 1, by omega, by go_num, hRA, hBw⟩ | ((repeat apply Exists.intro); exact ⟨⟨i + 1, by omega, by go_num, hRA, hBw⟩, rfl⟩)
        case measure => simp [intOf]; omega
      · have h4' : ¬ (4000 : Int) < (w0.size : Int) := by omega
        have hall := HW2.out (by omega)
        rw [show 32 :: w0.data.toList ++ tail4 = (⟨#[32]⟩ ++ w0 ++ ⟨#[32, 35, 124, 32, 59, 32, 124, 35, 32, 59]⟩ : ByteArray).data.toList by simp [ByteArray.data_append, tail4]] at hall
        have hsz : (⟨#[32]⟩ ++ w0 ++ ⟨#[32, 35, 124, 32, 59, 32, 124, 35, 32, 59]⟩ : ByteArray).size ≤ 9223372036854775807 := by
          simp only [ByteArray.size_append]
          show 1 + w0.size + 10 ≤ _
          omega
        have HQ := Lib.hid (fun W hW => all_one _ hsz _ hall W hW)
        clear hall hsz h4
        go_wp2_with fail
        refine (HQ.out w6 hL6).mono ?_
        rintro e w7 ⟨hb7, A2, cA2, rfl, hr2⟩
        obtain ⟨b2, o2, B2, k2, rfl, hm2, hg2⟩ := hr2.one
        have hg7 := blk_belowS hb7 hg6
        have hB7 : Below g wr w7 := hB6.trans (hb7.mono (Nat.le_of_lt (blk_lt hg6)))
        have hRm7 : Reads w7 69 B (ints .u32 x.mag) := hRm6.below hb7
        have q0 : t0.kind = x.kind := (congrArg Tk.kind HTE.out).symm
        have q1 : t0.dk = x.dk := (congrArg Tk.dk HTE.out).symm
        have q2 : t0.c = x.c := (congrArg Tk.c HTE.out).symm
        have q3 : t0.neg = x.neg := (congrArg Tk.neg HTE.out).symm
        have q4 : t0.mag = x.mag := (congrArg Tk.mag HTE.out).symm
        have q5 : t0.t = x.t := (congrArg Tk.t HTE.out).symm
        obtain ⟨c0, c1, c2, c3, c4, c5, c6, c7, c8, c9⟩ := cells10 hg2
        have hm2' : Reads w7 69 B2 (ints .u32 t0.mag) := hm2
        simp only [Tk.sh, q0, q1, q2, q3, q4, q5, HT0.out, Nat.zero_add] at c0 c1 c4 c5 c6 c7 c8 hm2'
        have d0 : w7.cell? ⟨g, 0, none⟩ = some (.int .i64 x.kind) := (blk_cell hg7).trans rfl
        have d4 : w7.cell? ⟨g, 4, none⟩ = some (.int .i64 x.dk) := (blk_cell hg7).trans rfl
        have d5 : w7.cell? ⟨g, 5, none⟩ = some (.int .i32 x.c) := (blk_cell hg7).trans rfl
        have d6 : w7.cell? ⟨g, 6, none⟩ = some (.bool x.neg) := (blk_cell hg7).trans rfl
        have d7 : w7.cell? ⟨g, 7, none⟩ = some (.slice B x.mag.length cc) := (blk_cell hg7).trans rfl
        have d8 : w7.cell? ⟨g, 8, none⟩ = some (.string ⟨x.t.toArray⟩) := (blk_cell hg7).trans rfl
        have d9 : w7.cell? ⟨g, 9, none⟩ = some (.slice none 0 0) := (blk_cell hg7).trans rfl
        have hk : ((x.kind : Int) != (x.kind : Int)) = false := by simp
        have hu7 : Reads w7.drew 69 B2 (ints .u32 x.mag) := hm2'
        have hv7 : Reads w7.drew 69 B (ints .u32 x.mag) := hRm7
        clear q0 q1 q2 q3 q4 q5 c2 c3 hm2 hm2' hg2 hr2 hb7 hg6 hB6 hL6 hRm6
        go_wp2_with fail
        go_still_tail 30, (by kernel_rfl)
        have hB8 : Below g wr w7.drew := hB7.drew
        clear c0 c1 c4 c5 c6 c7 c8 c9 d0 d4 d5 d6 d7 d8 d9 hg7 hB7 hRm7 hk
        change wpList _ _ _ _ _ w7.drew
        generalize w7.drew = w8 at *
        go_wp2_with fail
        refine (same3_any _ _ _ B2 B k2 cc x.mag _ w8 hu7 hv7 hmag).mono ?_
        rintro e w9 ⟨rfl, hb9⟩
        have hBx : Below g wr w9 := hB8.trans (hb9.mono (by have := hB8.size; have := HG.out; omega))
        have hRA : R2 w9 (some ⟨b, o, none⟩) ts := hrA1.below (HG.out ▸ hBx)
        have hBw : Below w.heap.size w w9 := hB.trans (hBx.mono hgw)
        clear hrA1 hB hB8 hb9 hu7 hv7 hBx
        go_wp2_with fail
        go_roundw
        case rel => first | exact ⟨i + 1, by omega, by go_num, hRA, hBw⟩ | ((repeat apply Exists.intro); exact ⟨⟨i + 1, by omega, by go_num, hRA, hBw⟩, rfl⟩)
        case measure => simp [intOf]; omega
    · have hie : i = ts.length := by omega
      clear hrA1
      go_wp2_with fail
      refine (awake_any wr (hL.below hB)).mono ?_
      rintro e w4 ⟨rfl, hb4⟩
      go_wp2_with fail
      go_ret
      exact ⟨rfl, hB.trans (hb4.mono hB.size)⟩
end Go.Proofs.YtkgebnbdgiengaaDoor
