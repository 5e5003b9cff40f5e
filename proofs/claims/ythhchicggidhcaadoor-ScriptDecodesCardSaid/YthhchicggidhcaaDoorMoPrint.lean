/- The program's Print: a job's text. -/
import Derived.Test.YthhchicggidhcaaDoorMoWords
import Derived.Test.YthhchicggidhcaaDoorMoStood
namespace Go.Proofs.YthhchicggidhcaaDoor
open Go.RowKit

theorem lineB_nil (w : ByteArray) : lineB w [] = w := by apply ByteArray.ext; simp [lineB, lineL]
theorem keep5 {W : World} {N : Nat} {a b c d e : Value} {t : TypeId} {f : Nat × Nat} (h : W.heap[N]? = some (.cells #[a, b, c, d, e] t f)) :
    W.cell? ⟨N, 0, none⟩ = some a ∧ W.cell? ⟨N, 1, none⟩ = some b ∧ W.cell? ⟨N, 2, none⟩ = some c ∧ W.cell? ⟨N, 3, none⟩ = some d ∧ W.cell? ⟨N, 4, none⟩ = some e :=
  ⟨(blk_cell h).trans rfl, (blk_cell h).trans rfl, (blk_cell h).trans rfl, (blk_cell h).trans rfl, (blk_cell h).trans rfl⟩
def inB (inp : ByteArray) : ByteArray := if inp = ⟨#[]⟩ then ⟨#[]⟩ else ⟨#[105, 110, 32]⟩ ++ hexT inp ++ ⟨#[10]⟩
theorem inB_size (inp : ByteArray) : (inB inp).size ≤ 2 * inp.size + 4 := by
  unfold inB
  split
  · show 0 ≤ _; omega
  · have := hexT_size inp
    simp only [ByteArray.size_append', ByteArray.size_mk', List.size_toArray, List.length_cons, List.length_nil]; omega
def srcB (src : ByteArray) : ByteArray := if src = ⟨#[]⟩ then ⟨#[]⟩ else ⟨#[112, 114, 111, 103, 114, 97, 109]⟩ ++ ⟨#[10]⟩ ++ src
def colB (fs : List (Int × Int × Int)) : ByteArray := fs.foldl (fun s c => s ++ lnB wCollect [c.1, c.2.1, c.2.2]) ⟨#[]⟩
theorem colB_snoc (fs : List (Int × Int × Int)) (k : Nat) (h : k < fs.length) : colB (fs.take (k + 1)) = colB (fs.take k) ++ lnB wCollect [fs[k].1, fs[k].2.1, fs[k].2.2] := by
  rw [List.take_succ_eq_append_getElem h, colB, List.foldl_append]; rfl
theorem colB_size (fs : List (Int × Int × Int)) (h : ∀ c ∈ fs, I64 c.1 ∧ I64 c.2.1 ∧ I64 c.2.2) : ∀ k, k ≤ fs.length → (colB (fs.take k)).size ≤ 74 * k
  | 0, _ => by simp [colB]; rfl
  | k + 1, hk => by
    have ih := colB_size fs h k (by omega)
    obtain ⟨h1, h2, h3⟩ := h _ (List.getElem_mem (show k < fs.length by omega))
    rw [colB_snoc fs k (by omega), ByteArray.size_append]
    have := lnB_size wCollect [fs[k].1, fs[k].2.1, fs[k].2.2] (all3 h1 h2 h3)
    have e : wCollect.size = 7 := rfl
    simp only [List.length_cons, List.length_nil] at this
    omega
/-- A job's text. -/
def prB (src inp : ByteArray) (lim fuel : Int) (fs : List (Int × Int × Int)) : ByteArray := lnB wLimit [lim] ++ lnB wFuel [fuel] ++ inB inp ++ colB fs ++ srcB src
theorem srcB_size (src : ByteArray) : (srcB src).size ≤ src.size + 8 := by
  unfold srcB
  split
  · show 0 ≤ _; omega
  · simp only [ByteArray.size_append', ByteArray.size_mk', List.size_toArray, List.length_cons, List.length_nil]; omega
theorem prB_size (src inp : ByteArray) {lim fuel : Int} {fs : List (Int × Int × Int)} (i1 : I64 lim) (i2 : I64 fuel) (hf : ∀ c ∈ fs, I64 c.1 ∧ I64 c.2.1 ∧ I64 c.2.2) : (prB src inp lim fuel fs).size ≤ 200 + 2 * inp.size + 74 * fs.length + src.size := by
  have h1 := lnB_size wLimit [lim] (all1 i1)
  have h2 := lnB_size wFuel [fuel] (all1 i2)
  have h3 := inB_size inp
  have h4 := srcB_size src
  have h5 := colB_size fs hf fs.length (Nat.le_refl _)
  have e1 : wLimit.size = 5 := rfl
  have e2 : wFuel.size = 4 := rfl
  rw [List.take_length] at h5
  simp only [List.length_cons, List.length_nil] at h1 h2
  unfold prB
  simp only [ByteArray.size_append']
  omega
def prRes (Y : ByteArray) : Value := if 65536 < Y.size then .tuple #[.string ⟨#[]⟩, .int .i64 12] else .tuple #[.string Y, .int .i64 0]

set_option maxRecDepth 100000 in
set_option maxHeartbeats 400000 in
theorem Print_any (src inp : ByteArray) (lim fuel : Int) (fs : List (Int × Int × Int)) (A : Option Addr) (c : Nat) (w : World) (hL : Lw w) {T : Nat} (hR : Reads w T A (colls fs))
    (h1 : fs.length ≤ 1000) (h2 : src.size ≤ 65536) (h3 : inp.size ≤ 65536) (h4 : src.size + 2 * inp.size ≤ 65536) (i1 : I64 lim) (i2 : I64 fuel) (hf : ∀ c ∈ fs, I64 c.1 ∧ I64 c.2.1 ∧ I64 c.2.2) :
    Calls Tryd.prog 17 #[.agg #[.string src, .string inp, .int .i64 lim, .int .i64 fuel, .slice A fs.length c]] w fun e w' =>
      e = .returned (prRes (prB src inp lim fuel fs)) ∧ Below w.heap.size w w' := by
  have HI := Lib.hid (And.intro i1 i2)
  clear i1 i2
  go_enter Tryd.func17, Tryd.ntmps17
  go_upto_region 3 with (fail)
  have hj := blk_new (w := w) (n := w.heap.size) (.cells #[.string src, .string inp, .int .i64 lim, .int .i64 fuel, .slice A fs.length c] 24) rfl
  have hB : Below w.heap.size w (w.alloc (.cells #[.string src, .string inp, .int .i64 lim, .int .i64 fuel, .slice A fs.length c] 24)) := (Below.refl _ _).alloc (Nat.le_refl _) _
  generalize w.alloc (.cells #[.string src, .string inp, .int .i64 lim, .int .i64 fuel, .slice A fs.length c] 24) = w1 at *
  have hL0 := hL.below hB
  have HI1 := Lib.hid (all1 HI.out.1)
  have HI2 := Lib.hid (all1 HI.out.2)
  have hs1 := lineB_size ⟨#[108, 105, 109, 105, 116]⟩ [lim] HI1.out
  have hs2 := lineB_size ⟨#[102, 117, 101, 108]⟩ [fuel] HI2.out
  have e1 : (ByteArray.mk #[108, 105, 109, 105, 116]).size = 5 := rfl
  have e2 : (ByteArray.mk #[102, 117, 101, 108]).size = 4 := rfl
  simp only [List.length_cons, List.length_nil, e1, e2] at hs1 hs2
  clear e1 e2
  have hsl : w.heap.size < w1.heap.size := blk_lt hj
  go_cut [4] (fun v4 wd => v4 = .string (lnB wLimit [lim] ++ lnB wFuel [fuel]) ∧ Below w.heap.size w wd ∧ wd.heap[w.heap.size]? = some (.cells #[.string src, .string inp, .int .i64 lim, .int .i64 fuel, .slice A fs.length c] 24 (0, 0)))
  case first =>
    have r1 : ∀ w, (Op.stringOp .add (lineB ⟨#[108, 105, 109, 105, 116]⟩ [lim] ++ ⟨#[10]⟩) (lineB ⟨#[102, 117, 101, 108]⟩ [fuel] ++ ⟨#[10]⟩)).run Tryd.prog w = .ok (.string ((lineB ⟨#[108, 105, 109, 105, 116]⟩ [lim] ++ ⟨#[10]⟩) ++ (lineB ⟨#[102, 117, 101, 108]⟩ [fuel] ++ ⟨#[10]⟩))) w := fun w => run_string_add_sum w _ _ (by simp only [ByteArray.size_append', ByteArray.size_mk', List.size_toArray, List.length_cons, List.length_nil]; omega)
    go_region_held3 (fun w' => w'.cell? ⟨w.heap.size, 2, none⟩ = some (.int .i64 lim) ∧ w'.cell? ⟨w.heap.size, 3, none⟩ = some (.int .i64 fuel)) (first | exact (keep5 hj).2.2.imp id And.left | exact (keep5 (blk_alloc hj _)).2.2.imp id And.left | exact (keep5 (blk_alloc (blk_alloc hj _) _)).2.2.imp id And.left) (first
      | (go_at_call 34; (with_reducible refine (line_any (T := 3) ⟨#[108, 105, 109, 105, 116]⟩ [lim] _ 1 1 rfl _ ?_ ?_ (by decide) (by decide) HI1.out).mono ?_); (first | exact (hL0.alloc _).drew | exact ((hL0.alloc _).alloc _).drew); (first | exact blk_reads (vs := [_]) (blk_new _ rfl) | exact blk_reads (vs := [_]) (blk_new _ (by simp)) | exact blk_reads (vs := [_]) (blk_alloc (blk_new _ rfl) _)); rintro e wa ⟨rfl, ha⟩; (first | have hB1 := belA hB (Nat.le_of_lt hsl) ha | have hB1 := belAA hB (Nat.le_of_lt hsl) ha); (first | have hL1 := (hL0.alloc _).drew.below ha | have hL1 := ((hL0.alloc _).alloc _).drew.below ha); (first | replace hj := blk_belowS ha (blk_alloc hj _) | replace hj := blk_belowS ha (blk_alloc (blk_alloc hj _) _)))
      | (go_at_call 34; (with_reducible refine (line_any (T := 3) ⟨#[102, 117, 101, 108]⟩ [fuel] _ 1 1 rfl _ ?_ ?_ (by decide) (by decide) HI2.out).mono ?_); (first | exact hL1 | exact hL1.alloc _); (first | exact blk_reads (vs := [_]) (blk_new _ rfl) | exact blk_reads (vs := [_]) (blk_belowS ha (blk_new _ (by simp))) | exact blk_reads (vs := [_]) (blk_belowS ha (blk_alloc (blk_new _ rfl) _))); rintro e wb ⟨rfl, hb⟩; (first | have hB2 := bel0 hB1 (Nat.le_of_lt (blk_lt hj)) hb | have hB2 := belA' hB1 (Nat.le_of_lt (blk_lt hj)) hb); (first | replace hj := blk_belowS hb hj | replace hj := blk_belowS hb (blk_alloc hj _))))
    all_goals
      go_wp2_with fail
      go_meet
      case rel => exact ⟨rfl, hB2, hj⟩
  case rest =>
    clear hj hB hsl hL0
    obtain ⟨rfl, hB, hj⟩ := hcut
    have hP : (lnB wLimit [lim] ++ lnB wFuel [fuel]).size ≤ 100 := by
      unfold lnB wLimit wFuel
      simp only [ByteArray.size_append', ByteArray.size_mk', List.size_toArray, List.length_cons, List.length_nil]; omega
    generalize hPe : lnB wLimit [lim] ++ lnB wFuel [fuel] = P at hP ⊢
    have HP := Lib.hid hPe
    clear hPe hs1 hs2
    have c1 : wc.cell? ⟨w.heap.size, 1, none⟩ = some (.string inp) := (blk_cell hj).trans rfl
    go_upto_if 33 with (fail)
    clear c1
    go_cut [4] (fun v4 wd => v4 = .string (P ++ inB inp) ∧ Below w.heap.size w wd ∧ wd.heap[w.heap.size]? = some (.cells #[.string src, .string inp, .int .i64 lim, .int .i64 fuel, .slice A fs.length c] 24 (0, 0)))
    case first =>
      have c1 : wc.cell? ⟨w.heap.size, 1, none⟩ = some (.string inp) := (blk_cell hj).trans rfl
      go_wp2_with fail
      · have h0 : ¬ inp = ⟨#[]⟩ := fun e => by
          have := ‹(!inp.toList.isEmpty) = true›
          simp [bs_none e] at this
        with_reducible refine (bytes_any inp wc (by omega)).mono ?_
        rintro e w2 ⟨rfl, hb2⟩
        have hz := hexT_size inp
        unfold hexT at hz
        have hB2 := bel0 hB hB.size hb2
        replace hj := blk_belowS hb2 hj
        clear hb2 c1
        go_wp2_with fail
        have hz2 : (⟨#[105, 110, 32]⟩ ++ strOfNums (hexes inp.data.toList) : ByteArray).size ≤ 200000 := (by simp only [ByteArray.size_append', ByteArray.size_mk', List.size_toArray, List.length_cons, List.length_nil]; omega)
        with_reducible refine (line_any (T := 3) (⟨#[105, 110, 32]⟩ ++ strOfNums (hexes inp.data.toList)) [] _ 0 0 rfl _ (hL.below hB2) (Reads.nil _ _ _) (by decide) (by omega) (by simp)).mono ?_
        rintro e w3 ⟨rfl, hb3⟩
        have hz3 := lineB_size (⟨#[105, 110, 32]⟩ ++ strOfNums (hexes inp.data.toList)) [] (by simp)
        rw [List.length_nil, Nat.mul_zero, Nat.add_zero] at hz3
        replace hB2 := bel0 hB2 hB2.size hb3
        replace hj := blk_belowS hb3 hj
        clear hb3
        go_wp2_with fail
        go_meet
        case rel => exact ⟨by unfold inB hexT; rw [if_neg h0, lineB_nil], hB2, hj⟩
      · have h0 : inp = ⟨#[]⟩ := Classical.byContradiction fun e => by
          have h := ‹(!inp.toList.isEmpty) = false›
          simp [bs_some e] at h
        go_meet
        case rel => exact ⟨by unfold inB; rw [if_pos h0, app_nil], hB, hj⟩
    case rest =>
      clear hj hB
      obtain ⟨rfl, hB, hj⟩ := hcut
      have hQ : (P ++ inB inp).size ≤ 200000 := by
        have := inB_size inp
        simp only [ByteArray.size_append']; omega
      generalize hQe : P ++ inB inp = R at hQ ⊢
      have HQ := Lib.hid hQe
      clear hQe hP
      have hjc : wc.cell? ⟨w.heap.size, 4, none⟩ = some (.slice A fs.length c) := (blk_cell hj).trans rfl
      go_wp2_with fail
      clear hjc
      go_loopw [4, 44] (fun v4 v5 wr => ∃ k : Nat, k ≤ fs.length ∧ v5 = .int .i64 k ∧ v4 = .string (R ++ colB (fs.take k)) ∧ Below w.heap.size w wr ∧ wr.heap[w.heap.size]? = some (.cells #[.string src, .string inp, .int .i64 lim, .int .i64 fuel, .slice A fs.length c] 24 (0, 0))) (fun _ v5 _ => fs.length - (intOf v5).toNat)
      case atStart => exact ⟨0, Nat.zero_le _, rfl, by simp [colB, app_nil], hB, hj⟩
      case round =>
        clear hB hj
        obtain ⟨k, hk, rfl, rfl, hB, hj⟩ := hrel
        have hls := colB_size fs hf k hk
        have c4 : wr.cell? ⟨w.heap.size, 4, none⟩ = some (.slice A fs.length c) := (blk_cell hj).trans rfl
        by_cases hlt : k < fs.length
        · obtain ⟨ab, ao, cc, ff, rfl, hbk, hck⟩ := hR.below hB (by rw [colls_length]; omega)
          obtain ⟨q0, q1, q2⟩ := colls_get fs k hlt
          have d0 : wr.cell? ⟨ab, ao + k * 3, none⟩ = some (.int .i64 fs[k].1) := by rw [blk_cell hbk, show ao + k * 3 = ao + 3 * k by omega, hck _ (by rw [colls_length]; omega), q0]
          have d1 : wr.cell? ⟨ab, ao + k * 3 + 1, none⟩ = some (.int .i64 fs[k].2.1) := by rw [blk_cell hbk, show ao + k * 3 + 1 = ao + (3 * k + 1) by omega, hck _ (by rw [colls_length]; omega), q1]
          have d2 : wr.cell? ⟨ab, ao + k * 3 + 2, none⟩ = some (.int .i64 fs[k].2.2) := by rw [blk_cell hbk, show ao + k * 3 + 2 = ao + (3 * k + 2) by omega, hck _ (by rw [colls_length]; omega), q2]
          clear q0 q1 q2 hck
          obtain ⟨i1, i2, i3⟩ := hf _ (List.getElem_mem hlt)
          have HI3 := Lib.hid (all3 i1 i2 i3)
          have hs3 := lineB_size ⟨#[99, 111, 108, 108, 101, 99, 116]⟩ [fs[k].1, fs[k].2.1, fs[k].2.2] HI3.out
          have e3 : (ByteArray.mk #[99, 111, 108, 108, 101, 99, 116]).size = 7 := rfl
          simp only [List.length_cons, List.length_nil, e3] at hs3
          clear e3 i1 i2 i3
          have hn : w.heap.size ≤ wr.heap.size := hB.size
          go_wp2_with fail
          with_reducible refine (line_any (T := 3) ⟨#[99, 111, 108, 108, 101, 99, 116]⟩ [fs[k].1, fs[k].2.1, fs[k].2.2] _ 3 3 rfl _ (((hL.below hB).alloc _).alloc _) (Reads.litAt _ [_, _, _] (by simp)) (by decide) (by decide) HI3.out).mono ?_
          rintro e wa ⟨rfl, ha⟩
          have hBa := belAA' hB hn ha
          replace hj := blk_belowS ha (blk_alloc (blk_alloc hj _) _)
          clear ha d0 d1 d2 hbk c4
          go_wp2_with fail
          go_roundw
          case rel => exact ⟨k + 1, by omega, by go_num, by rw [colB_snoc fs k hlt]; simp only [app_assoc, lnB, wCollect], hBa, hj⟩
          case measure => simp [intOf]; omega
        · have hke : k = fs.length := by omega
          subst hke
          rw [List.take_length] at hls ⊢
          have c0 : wr.cell? ⟨w.heap.size, 0, none⟩ = some (.string src) := (blk_cell hj).trans rfl
          go_upto_if 61 with (fail)
          clear c4
          go_cut [4] (fun v4 wd => v4 = .string (prB src inp lim fuel fs) ∧ Below w.heap.size w wd)
          case first =>
            go_wp2_with fail
            · have h0 : ¬ src = ⟨#[]⟩ := fun e => by
                have := ‹(!src.toList.isEmpty) = true›
                simp [bs_none e] at this
              have hs5 := lineB_size ⟨#[112, 114, 111, 103, 114, 97, 109]⟩ [] (by simp)
              rw [List.length_nil, Nat.mul_zero, Nat.add_zero, show (ByteArray.mk #[112, 114, 111, 103, 114, 97, 109]).size = 7 from rfl] at hs5
              have r1 : ∀ w, (Op.stringOp .add (lineB ⟨#[112, 114, 111, 103, 114, 97, 109]⟩ [] ++ ⟨#[10]⟩) src).run Tryd.prog w = .ok (.string ((lineB ⟨#[112, 114, 111, 103, 114, 97, 109]⟩ [] ++ ⟨#[10]⟩) ++ src)) w := fun w => run_string_add_sum w _ _ (by simp only [ByteArray.size_append', ByteArray.size_mk', List.size_toArray, List.length_cons, List.length_nil]; omega)
              have r2 : ∀ w, (Op.stringOp .add (R ++ colB fs) ((lineB ⟨#[112, 114, 111, 103, 114, 97, 109]⟩ [] ++ ⟨#[10]⟩) ++ src)).run Tryd.prog w = .ok (.string (R ++ colB fs ++ ((lineB ⟨#[112, 114, 111, 103, 114, 97, 109]⟩ [] ++ ⟨#[10]⟩) ++ src))) w := fun w => run_string_add_sum w _ _ (by simp only [ByteArray.size_append', ByteArray.size_mk', List.size_toArray, List.length_cons, List.length_nil]; omega)
              go_region_held3 (fun w' => w'.cell? ⟨w.heap.size, 0, none⟩ = some (.string src)) (exact c0) (first
                | (go_at_call 34; (with_reducible refine (line_any (T := 3) ⟨#[112, 114, 111, 103, 114, 97, 109]⟩ [] _ 0 0 rfl _ ?_ (Reads.nil _ _ _) (by decide) (by decide) (by simp)).mono ?_); exact (hL.below hB).drew; rintro e wa ⟨rfl, ha⟩; have hBa := bel0 hB.drew hB.size ha; replace c0 := cell_below (w := wr.drew) ha c0))
              go_wp2_with fail
              go_meet
              case rel => exact ⟨by unfold prB srcB; rw [if_neg h0, HP.out, HQ.out, lineB_nil], hBa⟩
            · have h0 : src = ⟨#[]⟩ := Classical.byContradiction fun e => by
                have h := ‹(!src.toList.isEmpty) = false›
                simp [bs_some e] at h
              go_meet
              case rel => exact ⟨by unfold prB srcB; rw [if_pos h0, HP.out, HQ.out, app_nil], hB⟩
          case rest =>
            clear hB hj c0 hls hQ
            obtain ⟨rfl, hB⟩ := hcut
            have hY := prB_size src inp HI.out.1 HI.out.2 hf
            obtain ⟨Y, hYe⟩ : ∃ Y, prB src inp lim fuel fs = Y := ⟨_, rfl⟩
            rw [hYe] at hY ⊢
            have HY := Lib.hid hYe
            clear hYe
            by_cases hlong : 65536 < Y.size
            · go_wp2_with fail
              go_ret2
              refine ⟨?_, hB⟩
              rw [HY.out, prRes, if_pos hlong]; rfl
            · go_wp2_with fail
              go_ret2
              refine ⟨?_, hB⟩
              rw [HY.out, prRes, if_neg hlong]; rfl
end Go.Proofs.YthhchicggidhcaaDoor
