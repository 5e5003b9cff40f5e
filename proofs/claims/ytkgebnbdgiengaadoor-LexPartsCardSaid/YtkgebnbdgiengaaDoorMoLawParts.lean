/- LexParts, walked. -/
import Derived.Test.YtkgebnbdgiengaaDoorMoLyF
import Derived.StillTailTactics
import Derived.Deep.DeepCutAuto
import Derived.IntWalk
namespace Go.Proofs.YtkgebnbdgiengaaDoor
open Go.RowKit Lx

/-- What stands behind 'if e != OK'. -/
structure Pt (ts ms vs : List Tk) (D : Nat) (q : Int) (f g : Nat) (r : Nat) : Prop where
  row : vs = ts ++ ms.map (Tk.sh D)
  err : g = f
  place : f ≠ 0 → (r : Int) = q + D
  lo : -10000 ≤ q
  hi : q ≤ 10000
set_option maxRecDepth 100000 in
set_option maxHeartbeats 3200000 in
theorem LexParts_short (a b : ByteArray) (ha : a.size ≤ 2000) (hb : b.size ≤ 2000) (w : World) (hL : Lu w) : Calls Tryd.prog 4 #[.string a, .string b] w fun e w' => e = .returned (.bool true) ∧ Below w.heap.size w w' := by
  have hA := fun W hW => (All_any a (by omega) W hW).mono (fun _ _ h => all_r2 h)
  have hB := fun W hW => (All_any b (by omega) W hW).mono (fun _ _ h => all_r2 h)
  have hC := fun W hW => (All_any (a ++ ⟨#[10]⟩ ++ b) (by simp [ByteArray.size_append]; show a.size + 1 + b.size ≤ _; omega) W hW).mono (fun _ _ h => all_r2 h)
  have hal : a.data.toList.length = a.size := by rw [← Lib.size_eq]
  have hbl : b.data.toList.length = b.size := by rw [← Lib.size_eq]
  have hpa := all_place a.data.toList
  have hpb := all_place b.data.toList
  have hfa := all_few a.data.toList
  have hfb := all_few b.data.toList
  have hma := fun i hi => all_mag a.data.toList (i := i) hi
  have hmb := fun i hi => all_mag b.data.toList (i := i) hi
  have heb := fun i hi => all_bd b.data.toList (i := i) hi
  have hdat : (a ++ ⟨#[10]⟩ ++ b).data.toList = a.data.toList ++ 10 :: b.data.toList := by simp [ByteArray.data_append]
  have hp := parts (a := a.data.toList) (b := b.data.toList) (by omega) (by omega)
  rw [hdat] at hC
  rw [hal] at hp hpa hfa
  rw [hbl] at hpb hfb
  generalize lexAll a.data.toList = RA at *
  generalize lexAll b.data.toList = RB at *
  generalize lexAll (a.data.toList ++ 10 :: b.data.toList) = RC at *
  obtain ⟨ts, p, c⟩ := RA
  obtain ⟨us, q, d⟩ := RB
  obtain ⟨vs, r, g⟩ := RC
  simp only at hA hB hC hpa hpb hfa hfb hma hmb heb hp
  have HA := Lib.hid hA
  have HB := Lib.hid hB
  have HC := Lib.hid hC
  have HMA := Lib.hid hma
  have HMB := Lib.hid hmb
  have HEB := Lib.hid heb
  have HP := Lib.hid hp
  clear hA hB hC hma hmb heb hp hdat hal hbl
  go_enter Tryd.func4, Tryd.ntmps4
  go_wp2_with fail
  refine (HA.out w hL).mono ?_
  rintro e w1 ⟨hb1, A, cA, rfl, hrA⟩
  go_wp2_with fail
  refine (HB.out w1 (hL.below hb1)).mono ?_
  rintro e w2 ⟨hb2, B, cB, rfl, hrB⟩
  go_wp2_with fail
  have hb12 := hb1.trans (hb2.mono hb1.size)
  refine (HC.out w2 (hL.below hb12)).mono ?_
  rintro e w3 ⟨hb3, C, cC, rfl, hrC⟩
  replace hb12 := hb12.trans (hb3.mono hb12.size)
  replace hrA := (hrA.below hb2).below hb3
  replace hrB := hrB.below hb3
  clear hb1 hb2 hb3
  have hL3 := hL.below hb12
  by_cases hc11 : c = 11
  · subst hc11
    clear hrA hrB hrC HP
    go_wp2_with fail
    refine (awake_any w3 hL3).mono ?_
    rintro e w4 ⟨rfl, hb4⟩
    go_wp2_with fail
    go_ret
    exact ⟨rfl, hb12.trans (hb4.mono hb12.size)⟩
  have hce : ((c : Int) == 11) = false := by rw [beq_eq_false_iff_ne]; omega
  go_upto_if 50 with (fail)
  go_cut [8, 9, 10] (fun v8 v9 v10 wc => ∃ (M : Option Addr) (cM : Nat) (ms : List Tk) (q' : Int) (f' : Nat), v8 = .slice M ms.length cM ∧ v9 = .int .i64 q' ∧ v10 = .int .i64 f' ∧ wc = w3 ∧ R2 w3 M ms ∧ Hid (Pt ts ms vs (a.size + 1) q' f' g r) ∧ ms.length ≤ 2000 ∧
    Hid (∀ i, (h : i < ms.length) → ms[i].mag.length ≤ 1000000 ∧ ms[i].e ≤ 10000 ∧ ms[i].a ≤ 10000))
  case first =>
    by_cases hc0 : c = 0
    · have hcf : ((c : Int) != 0) = false := by rw [hc0]; rfl
      have HPt : Hid (Pt ts us vs (a.size + 1) q d g r) := by
        have h := (HP.out hc11).2 hc0
        simp only [Prod.mk.injEq] at h
        obtain ⟨h1, h2, h3⟩ := h
        refine Lib.hid ⟨h1, h3, fun hd => ?_, by omega, by omega⟩
        rw [if_neg hd] at h2
        omega
      have HE : Hid (∀ i, (h : i < us.length) → us[i].mag.length ≤ 1000000 ∧ us[i].e ≤ 10000 ∧ us[i].a ≤ 10000) := Lib.hid (fun i hi => by
        have h1 := HMB.out i hi
        have h2 := HEB.out i hi
        exact ⟨h1, by omega, by omega⟩)
      have hul : us.length ≤ 2000 := by omega
      clear hc0 hce hc11 HP HEB HMB
      go_wp2_with fail
      go_meet
      exact ⟨B, cB, us, q, d, rfl, rfl, rfl, rfl, hrB, HPt, hul, HE⟩
    · have hcf : ((c : Int) != 0) = true := by rw [bne_iff_ne]; omega
      have HPt : Hid (Pt ts [] vs (a.size + 1) (p - a.size - 1) c g r) := by
        have h := (HP.out hc11).1 hc0
        simp only [Prod.mk.injEq] at h
        obtain ⟨rfl, rfl, rfl⟩ := h
        exact Lib.hid ⟨by simp, rfl, fun hd => by omega, by omega, by omega⟩
      have HE : Hid (∀ i, (h : i < ([] : List Tk).length) → ([] : List Tk)[i].mag.length ≤ 1000000 ∧ ([] : List Tk)[i].e ≤ 10000 ∧ ([] : List Tk)[i].a ≤ 10000) := Lib.hid (fun i hi => absurd hi (by simp))
      clear hc0 hce hc11 HP HEB HMB
      go_wp2_with fail
      go_meet
      exact ⟨none, 0, [], p - a.size - 1, c, rfl, by first | rfl | go_num | (simp; omega), rfl, rfl, R2.nil _, HPt, by simp, HE⟩
  case rest =>
    obtain ⟨M, cM, ms, q', f', rfl, rfl, rfl, rfl, hrM, HPt, hml, HE⟩ := hcut
    have HVL := Lib.hid (show vs.length = ts.length + ms.length by rw [HPt.out.row]; simp)
    have hnl : ¬ ((vs.length : Int) < (ts.length : Int)) := by have := HVL.out; omega
    have hge := HPt.out.err
    have hlo := HPt.out.lo
    have hhi := HPt.out.hi
    clear hce hc11 HP HEB HMB hrB hpa hpb hfb
    go_wp2_with fail
    go_loopw [14] (fun t wr => ∃ i : Nat, i ≤ ts.length ∧ t = .int .i64 i ∧ R2 wr A ts ∧ R2 wr C vs ∧ R2 wr M ms ∧ Below w.heap.size w wr) (fun t _ => ts.length - (intOf t).toNat)
    case atStart => exact ⟨0, Nat.zero_le _, rfl, hrA, hrC, hrM, hb12⟩
    case round =>
      obtain ⟨i, hi, rfl, hrA1, hrC1, hrM1, hB1⟩ := hrel
      clear hrA hrC hrM hb12 hL3
      by_cases hlt : i < ts.length
      · have hiv : i < vs.length := by have := HVL.out; omega
        obtain ⟨b1, o1, B1, k1, rfl, hm1, hg1⟩ := hrA1.tok hlt
        obtain ⟨b2, o2, B2, k2, rfl, hm2, hg2⟩ := hrC1.tok hiv
        have hx : vs[i] = ts[i] := by
          have := HPt.out.row
          subst this
          rw [List.getElem_append_left hlt]
        rw [hx] at hm2 hg2
        have hmag := HMA.out i hlt
        obtain ⟨x, hx'⟩ : ∃ x, ts[i] = x := ⟨_, rfl⟩
        rw [hx'] at hm1 hg1 hm2 hg2 hmag
        clear hx hx'
        obtain ⟨c0, c1, c2, c3, c4, c5, c6, c7, c8, c9⟩ := cells10 hg1
        obtain ⟨d0, d1, d2, d3, d4, d5, d6, d7, d8, d9⟩ := cells10 hg2
        have hu : TkV wr.drew x (tkVal x (.slice B1 x.mag.length k1)) := ⟨B1, k1, rfl, hm1⟩
        have hv : TkV wr.drew x (tkVal x (.slice B2 x.mag.length k2)) := ⟨B2, k2, rfl, hm2⟩
        unfold tkVal tkCs at hu hv
        clear hg1 hg2 hm1 hm2
        go_wp2_with fail
        have hcc : (i : Int) < (vs.length : Int) := by omega
        go_still_tail 8, (by kernel_rfl)
        have hrA2 : R2 wr.drew (some ⟨b1, o1, none⟩) ts := hrA1.below ((Below.refl _ _).drew)
        have hrC2 : R2 wr.drew (some ⟨b2, o2, none⟩) vs := hrC1.below ((Below.refl _ _).drew)
        have hrM2 : R2 wr.drew M ms := hrM1.below ((Below.refl _ _).drew)
        have hB2 : Below w.heap.size w wr.drew := hB1.drew
        clear c0 c1 c2 c3 c4 c5 c6 c7 c8 c9 d0 d1 d2 d3 d4 d5 d6 d7 d8 d9 hrA1 hrC1 hrM1 hB1
        change wpList _ _ _ _ _ wr.drew
        generalize wr.drew = w5 at *
        go_wp2_with fail
        refine (same4_any x _ _ w5 hu hv hmag).mono ?_
        rintro e w6 ⟨rfl, hb6⟩
        go_wp2_with fail
        go_roundw
        case rel => exact ⟨i + 1, by omega, by go_num, hrA2.below hb6, hrC2.below hb6, hrM2.below hb6, hB2.trans (hb6.mono hB2.size)⟩
        case measure => simp [intOf]; omega
      · have hie : i = ts.length := by omega
        subst hie
        have hvm : ((vs.length : Int) != (ts.length : Int) + (ms.length : Int)) = false := by
          have := HVL.out
          rw [bne_eq_false_iff_eq]
          omega
        clear hrA1 hlt hi hnl
        by_cases hf : f' = 0
        · subst hf
          go_wp2_with fail
          go_loopw [15] (fun t wr => ∃ k : Nat, k ≤ ms.length ∧ t = .int .i64 k ∧ R2 wr C vs ∧ R2 wr M ms ∧ Below w.heap.size w wr) (fun t _ => ms.length - (intOf t).toNat)
          case atStart => exact ⟨0, Nat.zero_le _, rfl, hrC1, hrM1, hB1⟩
          case round =>
            obtain ⟨k, hk, rfl, hrC2, hrM2, hB2⟩ := hrel
            clear hrC1 hrM1 hB1
            by_cases hlt : k < ms.length
            · have hjv : ts.length + k < vs.length := by have := HVL.out; omega
              obtain ⟨b1, o1, B1, k1, rfl, hm1, hg1⟩ := hrM2.tok hlt
              obtain ⟨b2, o2, B2, k2, rfl, hm2, hg2⟩ := hrC2.tok hjv
              have hx : vs[ts.length + k] = ms[k].sh (a.size + 1) := by
                have := HPt.out.row
                subst this
                rw [List.getElem_append_right (by omega)]
                simp
              rw [hx] at hm2 hg2
              obtain ⟨e1, e2, e3⟩ := HE.out k hlt
              obtain ⟨x, hx'⟩ : ∃ x, ms[k] = x := ⟨_, rfl⟩
              rw [hx'] at hm1 hg1 hm2 hg2 e1 e2 e3
              have hmv := fun (W : World) u v hu hv => moved_any x (a.size + 1) u v W hu hv e1 (by omega) (by omega)
              rw [show ((a.size + 1 : Nat) : Int) = (a.size : Int) + 1 by omega] at hmv
              have hyl : (x.sh (a.size + 1)).mag.length = x.mag.length := rfl
              rw [hyl] at hg2
              have hm2' : Reads wr 69 B2 (ints .u32 (x.sh (a.size + 1)).mag) := hm2
              obtain ⟨y, hy⟩ : ∃ y, x.sh (a.size + 1) = y := ⟨_, rfl⟩
              rw [hy] at hg2 hmv hm2' hyl
              have HMV := Lib.hid hmv
              clear hx hx' hy hmv hm2 e1 e2 e3
              obtain ⟨c0, c1, c2, c3, c4, c5, c6, c7, c8, c9⟩ := cells10 hg1
              obtain ⟨d0, d1, d2, d3, d4, d5, d6, d7, d8, d9⟩ := cells10 hg2
              have hu : TkV wr.drew x (tkVal x (.slice B1 x.mag.length k1)) := ⟨B1, k1, rfl, hm1⟩
              have hv : TkV wr.drew y (tkVal y (.slice B2 x.mag.length k2)) := ⟨B2, k2, by rw [hyl], hm2'⟩
              unfold tkVal tkCs at hu hv
              clear hg1 hg2 hm1 hm2' hyl
              go_wp2_with fail
              have z1 : IntKind.i64.wrap ((ts.length : Int) + (k : Int)) = (ts.length : Int) + (k : Int) := IntWalk.i64_in _ (by omega)
              have z2 : (0 : Int) ≤ (ts.length : Int) + (k : Int) := by omega
              have z3 : ((ts.length : Int) + (k : Int)).toNat = ts.length + k := by omega
              have z4 : (ts.length : Int) + (k : Int) < (vs.length : Int) := by omega
              have z5 : IntKind.i64.wrap ((a.size : Int) + 1) = (a.size : Int) + 1 := IntWalk.i64_in _ (by omega)
              have z6 : (k : Int) < (ms.length : Int) := by omega
              go_still_tail 14, (by kernel_rfl)
              have hrC3 : R2 wr.drew (some ⟨b2, o2, none⟩) vs := hrC2.below ((Below.refl _ _).drew)
              have hrM3 : R2 wr.drew (some ⟨b1, o1, none⟩) ms := hrM2.below ((Below.refl _ _).drew)
              have hB3 : Below w.heap.size w wr.drew := hB2.drew
              clear c0 c1 c2 c3 c4 c5 c6 c7 c8 c9 d0 d1 d2 d3 d4 d5 d6 d7 d8 d9 hrC2 hrM2 hB2 z1 z2 z3 z4 z5 z6
              change wpList _ _ _ _ _ wr.drew
              generalize wr.drew = w5 at *
              go_wp2_with fail
              refine (HMV.out w5 _ _ hu hv).mono ?_
              rintro e w6 ⟨rfl, hb6⟩
              go_wp2_with fail
              go_roundw
              case rel => first | exact ⟨k + 1, by omega, by go_num, hrC3.below hb6, hrM3.below hb6, hB3.trans (hb6.mono hB3.size)⟩ | ((repeat apply Exists.intro); exact ⟨⟨k + 1, by omega, by go_num, hrC3.below hb6, hrM3.below hb6, hB3.trans (hb6.mono hB3.size)⟩, rfl⟩)
              case measure => simp [intOf]; omega
            · have hie : k = ms.length := by omega
              clear hrC2 hrM2
              go_wp2_with fail
              refine (awake_any wr (hL.below hB2)).mono ?_
              rintro e w4 ⟨rfl, hb4⟩
              go_wp2_with fail
              go_ret
              exact ⟨rfl, hB2.trans (hb4.mono hB2.size)⟩
        · have hfn : ((f' : Int) != 0) = true := by rw [bne_iff_ne]; omega
          have hr : ((r : Int) != q' + (a.size : Int) + 1) = false := by
            have := HPt.out.place hf
            rw [bne_eq_false_iff_eq]
            omega
          clear hf
          go_wp2_with fail
          go_loopw [15] (fun t wr => ∃ k : Nat, k ≤ ms.length ∧ t = .int .i64 k ∧ R2 wr C vs ∧ R2 wr M ms ∧ Below w.heap.size w wr) (fun t _ => ms.length - (intOf t).toNat)
          case atStart => exact ⟨0, Nat.zero_le _, rfl, hrC1, hrM1, hB1⟩
          case round =>
            obtain ⟨k, hk, rfl, hrC2, hrM2, hB2⟩ := hrel
            clear hrC1 hrM1 hB1
            by_cases hlt : k < ms.length
            · have hjv : ts.length + k < vs.length := by have := HVL.out; omega
              obtain ⟨b1, o1, B1, k1, rfl, hm1, hg1⟩ := hrM2.tok hlt
              obtain ⟨b2, o2, B2, k2, rfl, hm2, hg2⟩ := hrC2.tok hjv
              have hx : vs[ts.length + k] = ms[k].sh (a.size + 1) := by
                have := HPt.out.row
                subst this
                rw [List.getElem_append_right (by omega)]
                simp
              rw [hx] at hm2 hg2
              obtain ⟨e1, e2, e3⟩ := HE.out k hlt
              obtain ⟨x, hx'⟩ : ∃ x, ms[k] = x := ⟨_, rfl⟩
              rw [hx'] at hm1 hg1 hm2 hg2 e1 e2 e3
              have hmv := fun (W : World) u v hu hv => moved_any x (a.size + 1) u v W hu hv e1 (by omega) (by omega)
              rw [show ((a.size + 1 : Nat) : Int) = (a.size : Int) + 1 by omega] at hmv
              have hyl : (x.sh (a.size + 1)).mag.length = x.mag.length := rfl
              rw [hyl] at hg2
              have hm2' : Reads wr 69 B2 (ints .u32 (x.sh (a.size + 1)).mag) := hm2
              obtain ⟨y, hy⟩ : ∃ y, x.sh (a.size + 1) = y := ⟨_, rfl⟩
              rw [hy] at hg2 hmv hm2' hyl
              have HMV := Lib.hid hmv
              clear hx hx' hy hmv hm2 e1 e2 e3
              obtain ⟨c0, c1, c2, c3, c4, c5, c6, c7, c8, c9⟩ := cells10 hg1
              obtain ⟨d0, d1, d2, d3, d4, d5, d6, d7, d8, d9⟩ := cells10 hg2
              have hu : TkV wr.drew x (tkVal x (.slice B1 x.mag.length k1)) := ⟨B1, k1, rfl, hm1⟩
              have hv : TkV wr.drew y (tkVal y (.slice B2 x.mag.length k2)) := ⟨B2, k2, by rw [hyl], hm2'⟩
              unfold tkVal tkCs at hu hv
              clear hg1 hg2 hm1 hm2' hyl
              go_wp2_with fail
              have z1 : IntKind.i64.wrap ((ts.length : Int) + (k : Int)) = (ts.length : Int) + (k : Int) := IntWalk.i64_in _ (by omega)
              have z2 : (0 : Int) ≤ (ts.length : Int) + (k : Int) := by omega
              have z3 : ((ts.length : Int) + (k : Int)).toNat = ts.length + k := by omega
              have z4 : (ts.length : Int) + (k : Int) < (vs.length : Int) := by omega
              have z5 : IntKind.i64.wrap ((a.size : Int) + 1) = (a.size : Int) + 1 := IntWalk.i64_in _ (by omega)
              have z6 : (k : Int) < (ms.length : Int) := by omega
              go_still_tail 14, (by kernel_rfl)
              have hrC3 : R2 wr.drew (some ⟨b2, o2, none⟩) vs := hrC2.below ((Below.refl _ _).drew)
              have hrM3 : R2 wr.drew (some ⟨b1, o1, none⟩) ms := hrM2.below ((Below.refl _ _).drew)
              have hB3 : Below w.heap.size w wr.drew := hB2.drew
              clear c0 c1 c2 c3 c4 c5 c6 c7 c8 c9 d0 d1 d2 d3 d4 d5 d6 d7 d8 d9 hrC2 hrM2 hB2 z1 z2 z3 z4 z5 z6
              change wpList _ _ _ _ _ wr.drew
              generalize wr.drew = w5 at *
              go_wp2_with fail
              refine (HMV.out w5 _ _ hu hv).mono ?_
              rintro e w6 ⟨rfl, hb6⟩
              go_wp2_with fail
              go_roundw
              case rel => first | exact ⟨k + 1, by omega, by go_num, hrC3.below hb6, hrM3.below hb6, hB3.trans (hb6.mono hB3.size)⟩ | ((repeat apply Exists.intro); exact ⟨⟨k + 1, by omega, by go_num, hrC3.below hb6, hrM3.below hb6, hB3.trans (hb6.mono hB3.size)⟩, rfl⟩)
              case measure => simp [intOf]; omega
            · have hie : k = ms.length := by omega
              clear hrC2 hrM2
              go_wp2_with fail
              refine (awake_any wr (hL.below hB2)).mono ?_
              rintro e w4 ⟨rfl, hb4⟩
              go_wp2_with fail
              go_ret
              exact ⟨rfl, hB2.trans (hb4.mono hB2.size)⟩

theorem LexParts_any (a b : ByteArray) (ha : a.size ≤ 9223372036854775807) (hb : b.size ≤ 9223372036854775807) (w : World) (hL : Lu w) : Calls Tryd.prog 4 #[.string a, .string b] w fun e w' => e = .returned (.bool true) ∧ Below w.heap.size w w' := by
  by_cases h1 : 2000 < a.size
  · have h : (2000 : Int) < (a.size : Int) := by omega
    clear h1
    go_enter Tryd.func4, Tryd.ntmps4
    go_wp2_with fail
    refine (awake_any w hL).mono ?_
    rintro e w4 ⟨rfl, hb4⟩
    go_wp2_with fail
    go_ret
    exact ⟨rfl, hb4⟩
  · by_cases h2 : 2000 < b.size
    · have h : (2000 : Int) < (b.size : Int) := by omega
      have h' : ¬ (2000 : Int) < (a.size : Int) := by omega
      clear h1 h2
      go_enter Tryd.func4, Tryd.ntmps4
      go_wp2_with fail
      refine (awake_any w hL).mono ?_
      rintro e w4 ⟨rfl, hb4⟩
      go_wp2_with fail
      go_ret
      exact ⟨rfl, hb4⟩
    · exact LexParts_short a b (by omega) (by omega) w hL
end Go.Proofs.YtkgebnbdgiengaaDoor
