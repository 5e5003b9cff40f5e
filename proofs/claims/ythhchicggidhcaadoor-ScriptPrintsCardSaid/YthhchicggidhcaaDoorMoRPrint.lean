/- The document's Print: a job's text. -/
import Derived.Test.YthhchicggidhcaaDoorMoPrint
namespace Go.Proofs.YthhchicggidhcaaDoor
open Go.RowKit

set_option maxRecDepth 100000 in
set_option maxHeartbeats 400000 in
theorem RPrint_any (src inp : ByteArray) (lim fuel : Int) (fs : List (Int × Int × Int)) (A : Option Addr) (c : Nat) (w : World) {T : Nat} (hR : Reads w T A (colls fs))
    (h1 : fs.length ≤ 1000) (h2 : src.size ≤ 65536) (h3 : inp.size ≤ 65536) (i1 : I64 lim) (i2 : I64 fuel) (hf : ∀ c ∈ fs, I64 c.1 ∧ I64 c.2.1 ∧ I64 c.2.2) :
    Calls Tryd.prog 18 #[.agg #[.string src, .string inp, .int .i64 lim, .int .i64 fuel, .slice A fs.length c]] w fun e w' =>
      e = .returned (prRes (prB src inp lim fuel fs)) ∧ Below w.heap.size w w' := by
  have HI := Lib.hid (And.intro i1 i2)
  clear i1 i2
  go_enter Tryd.func18, Tryd.ntmps18
  go_upto_region 3 with (fail)
  have hj := blk_new (w := w) (n := w.heap.size) (.cells #[.string src, .string inp, .int .i64 lim, .int .i64 fuel, .slice A fs.length c] 24) rfl
  have hB : Below w.heap.size w (w.alloc (.cells #[.string src, .string inp, .int .i64 lim, .int .i64 fuel, .slice A fs.length c] 24)) := (Below.refl _ _).alloc (Nat.le_refl _) _
  generalize w.alloc (.cells #[.string src, .string inp, .int .i64 lim, .int .i64 fuel, .slice A fs.length c] 24) = w1 at *
  have HI1 := Lib.hid (all1 HI.out.1)
  have HI2 := Lib.hid (all1 HI.out.2)
  have hs1 := lineB_size ⟨#[108, 105, 109, 105, 116]⟩ [lim] HI1.out
  have hs2 := lineB_size ⟨#[102, 117, 101, 108]⟩ [fuel] HI2.out
  have e1 : (ByteArray.mk #[108, 105, 109, 105, 116]).size = 5 := rfl
  have e2 : (ByteArray.mk #[102, 117, 101, 108]).size = 4 := rfl
  simp only [List.length_cons, List.length_nil, e1, e2] at hs1 hs2
  clear e1 e2
  have hsl : w.heap.size < w1.heap.size := blk_lt hj
  go_cut [4] (fun v4 wd => v4 = .string (lnB wLimit [lim] ++ lnB wFuel [fuel]) ∧ Below w.heap.size w wd ∧ wd.heap[w.heap.size]? = some (.cells #[.string src, .string inp, .int .i64 lim, .int .i64 fuel, .slice A fs.length c] 24 (0, 0)))
  case first =>
    have r1 : ∀ w, (Op.stringOp .add (lineB ⟨#[108, 105, 109, 105, 116]⟩ [lim] ++ ⟨#[10]⟩) (lineB ⟨#[102, 117, 101, 108]⟩ [fuel] ++ ⟨#[10]⟩)).run Tryd.prog w = .ok (.string ((lineB ⟨#[108, 105, 109, 105, 116]⟩ [lim] ++ ⟨#[10]⟩) ++ (lineB ⟨#[102, 117, 101, 108]⟩ [fuel] ++ ⟨#[10]⟩))) w := fun w => run_string_add_sum w _ _ (by simp only [ByteArray.size_append', ByteArray.size_mk', List.size_toArray, List.length_cons, List.length_nil]; omega)
    go_region_held3 (fun w' => w'.cell? ⟨w.heap.size, 2, none⟩ = some (.int .i64 lim) ∧ w'.cell? ⟨w.heap.size, 3, none⟩ = some (.int .i64 fuel)) (first | exact (keep5 hj).2.2.imp id And.left | exact (keep5 (blk_alloc hj _)).2.2.imp id And.left | exact (keep5 (blk_alloc (blk_alloc hj _) _)).2.2.imp id And.left) (first
      | (go_at_call 36; (with_reducible refine (rline_any (T := 3) ⟨#[108, 105, 109, 105, 116]⟩ [lim] _ 1 1 rfl _ ?_ (by decide) (by decide) HI1.out).mono ?_); (first | exact blk_reads (vs := [_]) (blk_new _ rfl) | exact blk_reads (vs := [_]) (blk_new _ (by simp)) | exact blk_reads (vs := [_]) (blk_alloc (blk_new _ rfl) _)); rintro e wa ⟨rfl, ha⟩; (first | have hB1 := belA hB (Nat.le_of_lt hsl) ha | have hB1 := belAA hB (Nat.le_of_lt hsl) ha); (first | replace hj := blk_belowS ha (blk_alloc hj _) | replace hj := blk_belowS ha (blk_alloc (blk_alloc hj _) _)))
      | (go_at_call 36; (with_reducible refine (rline_any (T := 3) ⟨#[102, 117, 101, 108]⟩ [fuel] _ 1 1 rfl _ ?_ (by decide) (by decide) HI2.out).mono ?_); (first | exact blk_reads (vs := [_]) (blk_new _ rfl) | exact blk_reads (vs := [_]) (blk_belowS ha (blk_new _ (by simp))) | exact blk_reads (vs := [_]) (blk_belowS ha (blk_alloc (blk_new _ rfl) _))); rintro e wb ⟨rfl, hb⟩; (first | have hB2 := bel0 hB1 (Nat.le_of_lt (blk_lt hj)) hb | have hB2 := belA' hB1 (Nat.le_of_lt (blk_lt hj)) hb); (first | replace hj := blk_belowS hb hj | replace hj := blk_belowS hb (blk_alloc hj _))))
    all_goals
      go_wp2_with fail
      go_meet
      case rel => exact ⟨rfl, hB2, hj⟩
  case rest =>
    clear hj hB hsl 
    obtain ⟨rfl, hB, hj⟩ := hcut
    have hP : (lnB wLimit [lim] ++ lnB wFuel [fuel]).size ≤ 100 := by
      unfold lnB wLimit wFuel
      simp only [ByteArray.size_append', ByteArray.size_mk', List.size_toArray, List.length_cons, List.length_nil]; omega
    generalize hPe : lnB wLimit [lim] ++ lnB wFuel [fuel] = P at hP ⊢
    have HP := Lib.hid hPe
    clear hPe hs1 hs2
    have c1 : wc.cell? ⟨w.heap.size, 1, none⟩ = some (.string inp) := (blk_cell hj).trans rfl
    go_upto_if 34 with (fail)
    clear c1
    go_cut [4] (fun v4 wd => v4 = .string (P ++ inB inp) ∧ Below w.heap.size w wd ∧ wd.heap[w.heap.size]? = some (.cells #[.string src, .string inp, .int .i64 lim, .int .i64 fuel, .slice A fs.length c] 24 (0, 0)))
    case first =>
      have c1 : wc.cell? ⟨w.heap.size, 1, none⟩ = some (.string inp) := (blk_cell hj).trans rfl
      go_wp2_with fail
      · have h0 : ¬ inp = ⟨#[]⟩ := fun e => by
          have := ‹(!inp.toList.isEmpty) = true›
          simp [bs_none e] at this
        with_reducible refine (rbytes_any inp wc (by omega)).mono ?_
        rintro e w2 ⟨rfl, hb2⟩
        have hz := hexT_size inp
        unfold hexT at hz
        have hB2 := bel0 hB hB.size hb2
        replace hj := blk_belowS hb2 hj
        clear hb2 c1
        go_wp2_with fail
        go_meet
        case rel => exact ⟨by unfold inB hexT; rw [if_neg h0]; simp only [app_assoc], hB2, hj⟩
      · have h0 : inp = ⟨#[]⟩ := Classical.byContradiction fun e => by
          have h := ‹(!inp.toList.isEmpty) = false›
          simp [bs_some e] at h
        go_meet
        case rel => exact ⟨by unfold inB; rw [if_pos h0, app_nil], hB, hj⟩
    case rest =>
      clear hj hB
      obtain ⟨rfl, hB, hj⟩ := hcut
      have hQ : (P ++ inB inp).size ≤ 200000 := by
        have := inB_size inp
        simp only [ByteArray.size_append']; omega
      generalize hQe : P ++ inB inp = R at hQ ⊢
      have HQ := Lib.hid hQe
      clear hQe hP
      go_wp2_with fail
      go_loopw [4, 5] (fun v4 v5 wr => ∃ k : Nat, k ≤ fs.length ∧ v5 = .int .i64 k ∧ v4 = .string (R ++ colB (fs.take k)) ∧ Below w.heap.size w wr ∧ wr.heap[w.heap.size]? = some (.cells #[.string src, .string inp, .int .i64 lim, .int .i64 fuel, .slice A fs.length c] 24 (0, 0))) (fun _ v5 _ => fs.length - (intOf v5).toNat)
      case atStart => exact ⟨0, Nat.zero_le _, rfl, by simp [colB, app_nil], hB, hj⟩
      case round =>
        clear hB hj
        obtain ⟨k, hk, rfl, rfl, hB, hj⟩ := hrel
        have hls := colB_size fs hf k hk
        have c4 : wr.cell? ⟨w.heap.size, 4, none⟩ = some (.slice A fs.length c) := (blk_cell hj).trans rfl
        by_cases hlt : k < fs.length
        · obtain ⟨ab, ao, cc, ff, rfl, hbk, hck⟩ := hR.below hB (by rw [colls_length]; omega)
          obtain ⟨q0, q1, q2⟩ := colls_get fs k hlt
          have d0 : wr.cell? ⟨ab, ao + k * 3, none⟩ = some (.int .i64 fs[k].1) := by rw [blk_cell hbk, show ao + k * 3 = ao + 3 * k by omega, hck _ (by rw [colls_length]; omega), q0]
          have d1 : wr.cell? ⟨ab, ao + k * 3 + 1, none⟩ = some (.int .i64 fs[k].2.1) := by rw [blk_cell hbk, show ao + k * 3 + 1 = ao + (3 * k + 1) by omega, hck _ (by rw [colls_length]; omega), q1]
          have d2 : wr.cell? ⟨ab, ao + k * 3 + 2, none⟩ = some (.int .i64 fs[k].2.2) := by rw [blk_cell hbk, show ao + k * 3 + 2 = ao + (3 * k + 2) by omega, hck _ (by rw [colls_length]; omega), q2]
          clear q0 q1 q2 hck
          obtain ⟨i1, i2, i3⟩ := hf _ (List.getElem_mem hlt)
          have HI3 := Lib.hid (all3 i1 i2 i3)
          have hs3 := lineB_size ⟨#[99, 111, 108, 108, 101, 99, 116]⟩ [fs[k].1, fs[k].2.1, fs[k].2.2] HI3.out
          have e3 : (ByteArray.mk #[99, 111, 108, 108, 101, 99, 116]).size = 7 := rfl
          simp only [List.length_cons, List.length_nil, e3] at hs3
          clear e3 i1 i2 i3
          have hn : w.heap.size ≤ wr.heap.size := hB.size
          go_wp2_with fail
          with_reducible refine (rline_any (T := 3) ⟨#[99, 111, 108, 108, 101, 99, 116]⟩ [fs[k].1, fs[k].2.1, fs[k].2.2] _ 3 3 rfl _ (Reads.litAt _ [_, _, _] (by simp)) (by decide) (by decide) HI3.out).mono ?_
          rintro e wa ⟨rfl, ha⟩
          have hBa := belAA' hB hn ha
          replace hj := blk_belowS ha (blk_alloc (blk_alloc hj _) _)
          clear ha d0 d1 d2 hbk c4
          go_wp2_with fail
          go_roundw
          case rel => exact ⟨k + 1, by omega, by go_num, by rw [colB_snoc fs k hlt]; simp only [app_assoc, lnB, wCollect], hBa, hj⟩
          case measure => simp [intOf]; omega
        · have hke : k = fs.length := by omega
          subst hke
          rw [List.take_length] at hls ⊢
          have c0 : wr.cell? ⟨w.heap.size, 0, none⟩ = some (.string src) := (blk_cell hj).trans rfl
          go_upto_if 66 with (fail)
          clear c4
          go_cut [4] (fun v4 wd => v4 = .string (prB src inp lim fuel fs) ∧ Below w.heap.size w wd)
          case first =>
            go_wp2_with fail
            · have h0 : ¬ src = ⟨#[]⟩ := fun e => by
                have := ‹(!src.toList.isEmpty) = true›
                simp [bs_none e] at this
              go_wp2_with fail
              go_meet
              case rel => exact ⟨by unfold prB srcB; rw [if_neg h0, HP.out, HQ.out, show (⟨#[112, 114, 111, 103, 114, 97, 109]⟩ ++ ⟨#[10]⟩ : ByteArray) = ⟨#[112, 114, 111, 103, 114, 97, 109, 10]⟩ from rfl, app_assoc (R ++ colB fs)], hB⟩
            · have h0 : src = ⟨#[]⟩ := Classical.byContradiction fun e => by
                have h := ‹(!src.toList.isEmpty) = false›
                simp [bs_some e] at h
              go_meet
              case rel => exact ⟨by unfold prB srcB; rw [if_pos h0, HP.out, HQ.out, app_nil], hB⟩
          case rest =>
            clear hB hj c0 hls hQ
            obtain ⟨rfl, hB⟩ := hcut
            have hY := prB_size src inp HI.out.1 HI.out.2 hf
            obtain ⟨Y, hYe⟩ : ∃ Y, prB src inp lim fuel fs = Y := ⟨_, rfl⟩
            rw [hYe] at hY ⊢
            have HY := Lib.hid hYe
            clear hYe
            by_cases hlong : 65536 < Y.size
            · go_wp2_with fail
              go_ret2
              refine ⟨?_, hB⟩
              rw [HY.out, prRes, if_pos hlong]; rfl
            · go_wp2_with fail
              go_ret2
              refine ⟨?_, hB⟩
              rw [HY.out, prRes, if_neg hlong]; rfl
end Go.Proofs.YthhchicggidhcaaDoor
