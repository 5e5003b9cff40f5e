/- The document's Encode. -/
import Derived.Test.YthhchicggidhcaaDoorMoRNum
namespace Go.Proofs.YthhchicggidhcaaDoor
open Go.RowKit

def rcoll (fs : List (Int × Int × Int)) : List Int := fs.flatMap fun c => rnum c.1 ++ rnum c.2.1 ++ rnum c.2.2
theorem rcoll_len (fs : List (Int × Int × Int)) : (rcoll fs).length ≤ 30 * fs.length := by
  induction fs with
  | nil => simp [rcoll]
  | cons c fs ih =>
    have h1 := rnum_len c.1
    have h2 := rnum_len c.2.1
    have h3 := rnum_len c.2.2
    simp only [rcoll, List.flatMap_cons, List.length_append, List.length_cons] at ih ⊢
    omega
theorem rcoll_take (fs : List (Int × Int × Int)) (k : Nat) (h : k < fs.length) : rcoll (fs.take (k + 1)) = rcoll (fs.take k) ++ (rnum fs[k].1 ++ rnum fs[k].2.1 ++ rnum fs[k].2.2) := by
  rw [List.take_succ_eq_append_getElem h]; simp only [rcoll, List.flatMap_append, List.flatMap_cons, List.flatMap_nil, List.append_nil]

def rjobBytes (src inp : ByteArray) (lim fuel : Int) (fs : List (Int × Int × Int)) : List Int :=
  rnum lim ++ rnum fuel ++ rnum inp.size ++ bytesOf' inp ++ rnum fs.length ++ rcoll fs ++ rnum src.size ++ bytesOf' src

set_option maxRecDepth 100000 in
set_option maxHeartbeats 400000 in
theorem REncode_any (src inp : ByteArray) (lim fuel : Int) (fs : List (Int × Int × Int)) (A : Option Addr) (c : Nat) (w : World) {T : Nat} (hR : Reads w T A (colls fs))
    (h1 : fs.length ≤ 1000) (h2 : src.size ≤ 65536) (h3 : inp.size ≤ 65536) :
    Calls Tryd.prog 14 #[.agg #[.string src, .string inp, .int .i64 lim, .int .i64 fuel, .slice A fs.length c]] w fun e w' =>
      e = .returned (encRes1 (rjobBytes src inp lim fuel fs)) ∧ Below w.heap.size w w' := by
  go_enter Tryd.func14, Tryd.ntmps14
  go_wp2_with fail
  have hJ := heap_alloc_new w (.cells #[.string src, .string inp, .int .i64 lim, .int .i64 fuel, .slice A fs.length c] 24)
  have hB : Below w.heap.size w (w.alloc (.cells #[.string src, .string inp, .int .i64 lim, .int .i64 fuel, .slice A fs.length c] 24)) := (Below.refl _ _).alloc (Nat.le_refl _) _
  have hS : w.heap.size + 1 = (w.alloc (.cells #[.string src, .string inp, .int .i64 lim, .int .i64 fuel, .slice A fs.length c] 24)).heap.size := by simp
  generalize w.alloc (.cells #[.string src, .string inp, .int .i64 lim, .int .i64 fuel, .slice A fs.length c] 24) = W at *
  have HJ := Lib.hid hJ
  have HS := Lib.hid hS
  clear hJ hS
  go_upto_region 3 with (fail)
  go_cut [4] (fun v4 wc => ∃ (A' : Option Addr) (c' : Nat), v4 = .slice A' (rnum lim ++ rnum fuel).length c' ∧ wc.ownsRow w.heap.size 5 1 (.slice A' (rnum lim ++ rnum fuel).length c') (rnum lim ++ rnum fuel).length (ints .u8 (rnum lim ++ rnum fuel)) ∧ Fr [5] w.heap.size W wc)
  case first =>
    have hj := HJ.out
    have hl1 := rnum_len lim
    have hl2 := rnum_len fuel
    have hWs : w.heap.size < W.drew.heap.size := by have := HS.out; show w.heap.size < W.heap.size; omega
    go_region_held3 (fun w' => w'.cell? ⟨w.heap.size, 2, none⟩ = some (.int .i64 lim) ∧ w'.cell? ⟨w.heap.size, 3, none⟩ = some (.int .i64 fuel)) (exact ⟨(blk_cell hj).trans rfl, (blk_cell hj).trans rfl⟩) (first
      | (go_at_call 32; (with_reducible refine (rnum_any lim _).mono ?_); rintro e w1 ⟨A1, c1, rfl, ho1, hb1⟩; replace hj := blk_belowS hb1 hj; (try replace ho2 := own_below' ho2 hb1))
      | (go_at_call 32; (with_reducible refine (rnum_any fuel _).mono ?_); rintro e w2 ⟨A2, c2, rfl, ho2, hb2⟩; replace hj := blk_belowS hb2 hj; (try replace ho1 := own_below' ho1 hb2))
      | (refine stepR ho1 Tryd.underlying59 infoU8 rfl (by decide) (own_reads ho2) (by rw [ints_length, Nat.mul_one]) (fun e_ => by subst e_; exact own_none ho2) (by unfold maxLen; omega) (by omega) (by have := hb1.size; have := hb2.size; omega) rfl rfl rfl rfl (ints_one _ _) ?_; intro A' c' w' hown' hg; replace hj := blk_grown hg hj (own_far ho1 hj (by decide))))
    all_goals
      have hF := Fr.app0 (T := [5]) (b0 := w.heap.size) ho1 hg (by decide) (by have := hb1.size; have := hb2.size; omega)
      have hF0 : Fr [5] w.heap.size W w' := by
        first
        | exact ((((Fr.refl _ _ _).drew).trans (Fr.of_below hb1)).trans (Fr.of_below hb2)).trans hF
        | exact ((((Fr.refl _ _ _).drew).trans (Fr.of_below hb2)).trans (Fr.of_below hb1)).trans hF
      have hown2 : w'.ownsRow w.heap.size 5 1 (.slice A' ((rnum lim).length + (rnum fuel).length) c') ((rnum lim).length + (rnum fuel).length) (ints .u8 (rnum lim ++ rnum fuel)) := by
        rw [ints_append]; exact own_less' hown' (by have := hb1.size; have := hb2.size; omega)
      clear hF hown' hg ho1 ho2
      go_wp2_with fail
      go_meet
      case rel => exact ⟨A', c', by simp, by simpa using hown2, hF0⟩
  case rest =>
    obtain ⟨A0, c0, rfl, ho, hF⟩ := hcut
    have hl1 := rnum_len lim
    have hl2 := rnum_len fuel
    have hX : (rnum lim ++ rnum fuel).length ≤ 20 := by simp; omega
    have HE := Lib.hid (show rnum lim ++ rnum fuel = rnum lim ++ rnum fuel from rfl)
    clear hl1 hl2
    generalize hXe : rnum lim ++ rnum fuel = X at *
    have HX := Lib.hid hXe
    clear hXe HE
    go_upto_region 4 with (fail)
    go_cut [4] (fun v4 wd => ∃ (A' : Option Addr) (c' : Nat), v4 = .slice A' (X ++ rnum inp.size ++ bytesOf' inp).length c' ∧ wd.ownsRow w.heap.size 5 1 (.slice A' (X ++ rnum inp.size ++ bytesOf' inp).length c') (X ++ rnum inp.size ++ bytesOf' inp).length (ints .u8 (X ++ rnum inp.size ++ bytesOf' inp)) ∧ Fr [5] w.heap.size W wd)
    case first =>
      have hj := blk_fr hF HJ.out (by decide)
      have hl1 := rnum_len (inp.size : Int)
      have hWs : w.heap.size < wc.drew.heap.size := by have := HS.out; have := hF.size; show w.heap.size < wc.heap.size; omega
      go_region_held3 (fun w' => w'.cell? ⟨w.heap.size, 1, none⟩ = some (.string inp)) (exact (blk_cell hj).trans rfl) (first
        | (go_at_call 32; (with_reducible refine (rnum_any (inp.size : Int) _).mono ?_); rintro e w1 ⟨A1, c1, rfl, ho1, hb1⟩; replace hj := blk_belowS hb1 hj; replace ho := own_below' (w := wc.drew) ho hb1)
        | (refine stepR ho Tryd.underlying59 infoU8 rfl (by decide) (own_reads ho1) (by rw [ints_length, Nat.mul_one]) (fun e_ => by subst e_; exact own_none ho1) (by unfold maxLen; omega) (by omega) (by have := hb1.size; omega) rfl rfl rfl rfl (ints_one _ _) ?_; intro A2 c2 w2 ho2 hg2; replace hj := blk_grown hg2 hj (own_far ho hj (by decide)))
        | (refine stepS ho2 Tryd.underlying59 Tryd.underlying9 infoU8 inp (by unfold maxLen; omega) (by omega) (by have := hb1.size; have := hg2.size; omega) rfl rfl rfl rfl ?_; intro A3 c3 w3 ho3 hg3; replace hj := blk_grown hg3 hj (own_far ho2 hj (by decide))))
      have hF1 := Fr.app0 (T := [5]) (b0 := w.heap.size) ho hg2 (by decide) (Nat.le_refl _)
      have hF2 := Fr.app0 (T := [5]) (b0 := w.heap.size) ho2 hg3 (by decide) (Nat.le_refl _)
      have hF3 := ((hF.drew.trans (Fr.of_below hb1)).trans hF1).trans hF2
      have hlen : (X ++ rnum inp.size ++ bytesOf' inp).length = X.length + (rnum inp.size).length + inp.size := by simp only [List.length_append, bytesOf'_length]
      have HLen := Lib.hid hlen
      clear hlen hF1 hF2 hg2 hg3 ho1 ho2 ho hb1
      go_wp2_with fail
      go_meet
      case rel => exact ⟨A3, c3, by rw [HLen.out], by rw [HLen.out, ints_append, ints_append, ← strCells_ints]; exact ho3, hF3⟩
    case rest =>
      clear ho hF
      obtain ⟨A1, c1, rfl, ho, hF⟩ := hcut
      have hl1 := rnum_len (inp.size : Int)
      have hY : (X ++ rnum inp.size ++ bytesOf' inp).length ≤ 70000 := by simp only [List.length_append, bytesOf'_length]; omega
      clear hl1 hX
      generalize hYe : X ++ rnum inp.size ++ bytesOf' inp = Y at *
      have HY := Lib.hid hYe
      clear hYe
      have hj := blk_fr hF HJ.out (by decide)
      have hj4 : wc.cell? ⟨w.heap.size, 4, none⟩ = some (.slice A fs.length c) := by rw [blk_cell hj]; rfl
      go_wp2_with fail
      (with_reducible refine (rnum_any (fs.length : Int) _).mono ?_)
      rintro e w1 ⟨A2, c2, rfl, ho2, hb2⟩
      have hbs : w.heap.size ≤ wc.heap.size := by have := HS.out; have := hF.size; omega
      replace ho := own_below' ho hb2
      have hl2 := rnum_len (fs.length : Int)
      go_wp2_with (at_builtin; go_must (refine appR ho Tryd.underlying59 infoU8 rfl (by decide) (own_reads ho2) (by rw [ints_length, Nat.mul_one]) (fun e_ => by subst e_; exact own_none ho2) (by unfold maxLen; omega) (by omega) (by have := hb2.size; omega) rfl rfl rfl rfl (ints_one _ _) ?_); intro A3 c3 w3 ho3 hg3)
      have hF3 := (hF.trans (Fr.of_below hb2)).trans (Fr.app0 (T := [5]) (b0 := w.heap.size) ho hg3 (by decide) (Nat.le_refl _))
      rw [← ints_append, ← List.length_append] at ho3
      rw [← List.length_append]
      have hZ : (Y ++ rnum fs.length).length ≤ 70010 := by simp only [List.length_append]; omega
      clear hl2 hY ho ho2 hb2 hg3 hj4 hj hF hbs
      generalize hZe : Y ++ rnum fs.length = Z at *
      have HZ := Lib.hid hZe
      clear hZe
      go_wp2_with fail
      go_loopw [4, 5] (fun v4 v5 wr => ∃ (k : Nat) (A' : Option Addr) (c' : Nat), k ≤ fs.length ∧ v5 = .int .i64 k ∧ v4 = .slice A' (Z ++ rcoll (fs.take k)).length c' ∧ wr.ownsRow w.heap.size 5 1 (.slice A' (Z ++ rcoll (fs.take k)).length c') (Z ++ rcoll (fs.take k)).length (ints .u8 (Z ++ rcoll (fs.take k))) ∧ Fr [5, 65] w.heap.size W wr) (fun _ v5 _ => fs.length - (intOf v5).toNat)
      case atStart => exact ⟨0, A3, c3, Nat.zero_le _, rfl, by simp [rcoll], by simpa [rcoll] using ho3, hF3.mono (by decide) (Nat.le_refl _)⟩
      case round =>
        clear hF3 ho3
        obtain ⟨k, A4, c4, hk, rfl, rfl, ho0, hG⟩ := hrel
        have hj := blk_fr hG HJ.out (by decide)
        have hj4 : wr.cell? ⟨w.heap.size, 4, none⟩ = some (.slice A fs.length c) := by rw [blk_cell hj]; rfl
        have hbs : w.heap.size ≤ wr.heap.size := by have := HS.out; have := hG.size; omega
        by_cases hlt : k < fs.length
        · have hRk := hR.below (hB.trans (hG.below (by have := HS.out; omega)))
          obtain ⟨ab, ao, cc, ff, rfl, hbk, hck⟩ := hRk (by rw [colls_length]; omega)
          obtain ⟨q0, q1, q2⟩ := colls_get fs k hlt
          have d0 : wr.cell? ⟨ab, ao + k * 3, none⟩ = some (.int .i64 fs[k].1) := by rw [blk_cell hbk, show ao + k * 3 = ao + 3 * k by omega, hck _ (by rw [colls_length]; omega), q0]
          have d1 : wr.cell? ⟨ab, ao + k * 3 + 1, none⟩ = some (.int .i64 fs[k].2.1) := by rw [blk_cell hbk, show ao + k * 3 + 1 = ao + (3 * k + 1) by omega, hck _ (by rw [colls_length]; omega), q1]
          have d2 : wr.cell? ⟨ab, ao + k * 3 + 2, none⟩ = some (.int .i64 fs[k].2.2) := by rw [blk_cell hbk, show ao + k * 3 + 2 = ao + (3 * k + 2) by omega, hck _ (by rw [colls_length]; omega), q2]
          clear q0 q1 q2 hck hRk
          have hle : (Z ++ rcoll (fs.take k)).length ≤ 110010 := by
            have := rcoll_len (fs.take k); rw [List.length_take] at this; simp only [List.length_append]; omega
          have hV := Lib.hid (rcoll_take fs k hlt)
          generalize hVe : Z ++ rcoll (fs.take k) = V at *
          have HV := Lib.hid hVe
          clear hVe
          go_upto_block 1 with (fail)
          go_cut [4] (fun v4 wd => ∃ (A' : Option Addr) (c' : Nat), v4 = .slice A' (V ++ (rnum fs[k].1 ++ rnum fs[k].2.1 ++ rnum fs[k].2.2)).length c' ∧ wd.ownsRow w.heap.size 5 1 (.slice A' (V ++ (rnum fs[k].1 ++ rnum fs[k].2.1 ++ rnum fs[k].2.2)).length c') (V ++ (rnum fs[k].1 ++ rnum fs[k].2.1 ++ rnum fs[k].2.2)).length (ints .u8 (V ++ (rnum fs[k].1 ++ rnum fs[k].2.1 ++ rnum fs[k].2.2))) ∧ Fr [5, 65] w.heap.size W wd)
          case first =>
            go_upto_region 10 with (fail)
            clear d0 d1 d2 hj4 hj hbk
            have hj := blk_new (w := wr) (n := wr.heap.size) (.cells #[.int .i64 fs[k].1, .int .i64 fs[k].2.1, .int .i64 fs[k].2.2] 65) rfl
            have hN : wr.heap.size < (wr.alloc (.cells #[.int .i64 fs[k].1, .int .i64 fs[k].2.1, .int .i64 fs[k].2.2] 65)).heap.size := by simp
            replace hG := hG.alloc (.cells #[.int .i64 fs[k].1, .int .i64 fs[k].2.1, .int .i64 fs[k].2.2] 65)
            replace ho0 := ho0.alloc (.cells #[.int .i64 fs[k].1, .int .i64 fs[k].2.1, .int .i64 fs[k].2.2] 65)
            generalize wr.alloc (.cells #[.int .i64 fs[k].1, .int .i64 fs[k].2.1, .int .i64 fs[k].2.2] 65) = W6 at *
            generalize wr.heap.size = N6 at *
            have hl1 := rnum_len fs[k].1
            have hl2 := rnum_len fs[k].2.1
            have hl3 := rnum_len fs[k].2.2
            replace hbs : w.heap.size ≤ W6.drew.heap.size := by show w.heap.size ≤ W6.heap.size; omega
            replace hG := hG.drew
            replace hj : W6.drew.heap[N6]? = _ := hj
            replace ho0 : W6.drew.ownsRow _ _ _ _ _ _ := ho0
            go_region_held3 (fun w' => w'.cell? ⟨N6, 0, none⟩ = some (.int .i64 fs[k].1) ∧ w'.cell? ⟨N6, 1, none⟩ = some (.int .i64 fs[k].2.1) ∧ w'.cell? ⟨N6, 2, none⟩ = some (.int .i64 fs[k].2.2)) (exact ⟨(blk_cell hj).trans rfl, (blk_cell hj).trans rfl, (blk_cell hj).trans rfl⟩) (first
            | (go_at_call 32; (with_reducible refine (rnum_any fs[k].1 _).mono ?_); rintro e wa ⟨Aa, ca, rfl, hoa, hba⟩; (first | have na := own_apart ho0 hoa (Nat.le_refl _)); replace hj := blk_belowS hba hj; replace hbs := Nat.le_trans hbs hba.size; replace hG := hG.trans (Fr.of_below hba); (try replace ho0 := own_below' ho0 hba); (try replace ho1 := own_below' ho1 hba); (try replace ho2 := own_below' ho2 hba); (try replace hob := own_below' hob hba); (try replace hoc := own_below' hoc hba); clear hba)
            | (go_at_call 32; (with_reducible refine (rnum_any fs[k].2.1 _).mono ?_); rintro e wb ⟨Ab, cb, rfl, hob, hbb⟩; (first | have nb := own_apart ho0 hob (Nat.le_refl _) | have nb := own_apart ho1 hob (Nat.le_refl _)); replace hj := blk_belowS hbb hj; replace hbs := Nat.le_trans hbs hbb.size; replace hG := hG.trans (Fr.of_below hbb); (try replace ho0 := own_below' ho0 hbb); (try replace ho1 := own_below' ho1 hbb); (try replace ho2 := own_below' ho2 hbb); (try replace hoa := own_below' hoa hbb); (try replace hoc := own_below' hoc hbb); clear hbb)
            | (go_at_call 32; (with_reducible refine (rnum_any fs[k].2.2 _).mono ?_); rintro e wc ⟨Ac, cc, rfl, hoc, hbc⟩; (first | have nc := own_apart ho0 hoc (Nat.le_refl _) | have nc := own_apart ho1 hoc (Nat.le_refl _) | have nc := own_apart ho2 hoc (Nat.le_refl _)); replace hj := blk_belowS hbc hj; replace hbs := Nat.le_trans hbs hbc.size; replace hG := hG.trans (Fr.of_below hbc); (try replace ho0 := own_below' ho0 hbc); (try replace ho1 := own_below' ho1 hbc); (try replace ho2 := own_below' ho2 hbc); (try replace hoa := own_below' hoa hbc); (try replace hob := own_below' hob hbc); clear hbc)
            | (refine stepRat ho0 Tryd.underlying59 infoU8 rfl (by decide) (own_reads hoa) (by rw [ints_length, Nat.mul_one]) (fun e_ => by subst e_; exact own_none hoa) (by unfold maxLen; omega) (by omega) hbs rfl rfl rfl rfl (ints_one _ _) ?_; intro A1' c1' w1' ho1 hg hat; replace hj := blk_grown hg hj (own_far ho0 hj (by decide)); replace hbs := Nat.le_trans hbs hg.size; replace hG := hG.trans (Fr.app0 (T := [5, 65]) (b0 := w.heap.size) ho0 hg (by decide) (Nat.le_refl _)); (try (have mb := apart_step hob hat nb; replace hob := own_grown hob hg nb; replace nb := mb; clear mb)); (try (have mc := apart_step hoc hat nc; replace hoc := own_grown hoc hg nc; replace nc := mc; clear mc)); clear hat hg ho0 hoa)
            | (refine stepRat ho1 Tryd.underlying59 infoU8 rfl (by decide) (own_reads hob) (by rw [ints_length, Nat.mul_one]) (fun e_ => by subst e_; exact own_none hob) (by unfold maxLen; omega) (by omega) hbs rfl rfl rfl rfl (ints_one _ _) ?_; intro A2' c2' w2' ho2 hg hat; replace hj := blk_grown hg hj (own_far ho1 hj (by decide)); replace hbs := Nat.le_trans hbs hg.size; replace hG := hG.trans (Fr.app0 (T := [5, 65]) (b0 := w.heap.size) ho1 hg (by decide) (Nat.le_refl _)); (try (have mc := apart_step hoc hat nc; replace hoc := own_grown hoc hg nc; replace nc := mc; clear mc)); clear hat hg ho1 hob)
            | (refine stepRat ho2 Tryd.underlying59 infoU8 rfl (by decide) (own_reads hoc) (by rw [ints_length, Nat.mul_one]) (fun e_ => by subst e_; exact own_none hoc) (by unfold maxLen; omega) (by omega) hbs rfl rfl rfl rfl (ints_one _ _) ?_; intro A3' c3' w3' ho3 hg hat; replace hj := blk_grown hg hj (own_far ho2 hj (by decide)); replace hbs := Nat.le_trans hbs hg.size; replace hG := hG.trans (Fr.app0 (T := [5, 65]) (b0 := w.heap.size) ho2 hg (by decide) (Nat.le_refl _)); clear hat hg ho2 hoc))
            all_goals
              have hlen : (V ++ (rnum fs[k].1 ++ rnum fs[k].2.1 ++ rnum fs[k].2.2)).length = V.length + (rnum fs[k].1).length + (rnum fs[k].2.1).length + (rnum fs[k].2.2).length := by simp only [List.length_append]; omega
              have HLen := Lib.hid hlen
              clear hlen hl1 hl2 hl3
              go_wp2_with fail
              go_meet
              case rel => exact ⟨A3', c3', by rw [HLen.out], by rw [HLen.out, ints_append, ints_append, ints_append, ← List.append_assoc, ← List.append_assoc]; exact ho3, hG⟩
          case rest =>
            clear ho0 hG hj d0 d1 d2 hbk hj4 hbs
            obtain ⟨A5, c5, rfl, ho5, hG5⟩ := hcut
            go_wp2_with fail
            go_roundw
            case rel =>
              have e1 : Z ++ rcoll (fs.take (k + 1)) = V ++ (rnum fs[k].1 ++ rnum fs[k].2.1 ++ rnum fs[k].2.2) := by rw [hV.out, ← HV.out]; simp only [List.append_assoc]
              exact ⟨k + 1, A5, c5, by omega, by go_num, by rw [e1], by rw [e1]; exact ho5, hG5⟩
            case measure => simp [intOf]; omega
        · have hke : k = fs.length := by omega
          subst hke
          rw [List.take_length] at ho0
          rw [List.take_length]
          have hle : (Z ++ rcoll fs).length ≤ 110010 := by
            have := rcoll_len fs; simp only [List.length_append]; omega
          generalize hVe : Z ++ rcoll fs = V at *
          have HV := Lib.hid hVe
          clear hVe
          go_upto_region 11 with (fail)
          go_cut [4] (fun v4 wd => ∃ (A' : Option Addr) (c' : Nat), v4 = .slice A' (V ++ rnum src.size ++ bytesOf' src).length c' ∧ wd.ownsRow w.heap.size 5 1 (.slice A' (V ++ rnum src.size ++ bytesOf' src).length c') (V ++ rnum src.size ++ bytesOf' src).length (ints .u8 (V ++ rnum src.size ++ bytesOf' src)) ∧ Fr [5, 65] w.heap.size W wd)
          case first =>
            have hl1 := rnum_len (src.size : Int)
            have hWs : w.heap.size ≤ wr.drew.heap.size := hbs
            replace ho0 : wr.drew.ownsRow _ _ _ _ _ _ := ho0
            go_region_held3 (fun w' => w'.cell? ⟨w.heap.size, 0, none⟩ = some (.string src)) (exact (blk_cell hj).trans rfl) (first
              | (go_at_call 32; (with_reducible refine (rnum_any (src.size : Int) _).mono ?_); rintro e w1 ⟨A1, c1, rfl, ho1, hb1⟩; replace hj := blk_belowS (w := wr.drew) hb1 hj; replace ho0 := own_below' ho0 hb1)
              | (refine stepR ho0 Tryd.underlying59 infoU8 rfl (by decide) (own_reads ho1) (by rw [ints_length, Nat.mul_one]) (fun e_ => by subst e_; exact own_none ho1) (by unfold maxLen; omega) (by omega) (by have := hb1.size; omega) rfl rfl rfl rfl (ints_one _ _) ?_; intro A2 c2 w2 ho2 hg2; replace hj := blk_grown hg2 hj (own_far ho0 hj (by decide)))
              | (refine stepS ho2 Tryd.underlying59 Tryd.underlying9 infoU8 src (by unfold maxLen; omega) (by omega) (by have := hb1.size; have := hg2.size; omega) rfl rfl rfl rfl ?_; intro A3 c3 w3 ho3 hg3; replace hj := blk_grown hg3 hj (own_far ho2 hj (by decide))))
            have hF1 := Fr.app0 (T := [5, 65]) (b0 := w.heap.size) ho0 hg2 (by decide) (Nat.le_refl _)
            have hF2 := Fr.app0 (T := [5, 65]) (b0 := w.heap.size) ho2 hg3 (by decide) (Nat.le_refl _)
            have hF3 := ((hG.drew.trans (Fr.of_below hb1)).trans hF1).trans hF2
            have hlen : (V ++ rnum src.size ++ bytesOf' src).length = V.length + (rnum src.size).length + src.size := by simp only [List.length_append, bytesOf'_length]
            have HLen := Lib.hid hlen
            clear hlen hF1 hF2 hg2 hg3 ho1 ho2 ho0 hb1
            go_wp2_with fail
            go_meet
            case rel => exact ⟨A3, c3, by rw [HLen.out], by rw [HLen.out, ints_append, ints_append, ← strCells_ints]; exact ho3, hF3⟩
          case rest =>
            clear ho0 hj hj4
            obtain ⟨A1, c1, rfl, hown, hG1⟩ := hcut
            have hl1 := rnum_len (src.size : Int)
            have hB5 := hB.trans (hG1.below (by have := HS.out; omega))
            have hYe : V ++ rnum src.size ++ bytesOf' src = rjobBytes src inp lim fuel fs := by
              rw [← HV.out, ← HZ.out, ← HY.out, ← HX.out]; rfl
            have hYl : (V ++ rnum src.size ++ bytesOf' src).length ≤ 1048576 := by
              simp only [List.length_append, bytesOf'_length]; omega
            rw [hYe] at hown hYl
            rw [hYe]
            clear hYe hl1 hG hG1 hle hZ HV HZ HY HX HJ HS
            obtain ⟨J, hJe⟩ : ∃ J, rjobBytes src inp lim fuel fs = J := ⟨_, rfl⟩
            rw [hJe] at hown hYl
            rw [hJe]
            have HJe := Lib.hid hJe
            clear hJe
            have hcv := own_str (src := 59) (dst := 9) Tryd.underlying59 Tryd.underlying5 Tryd.underlying9 hown
            by_cases hlong : 65536 < J.length
            · go_wp2_with fail
              go_ret2
              refine ⟨?_, hB5⟩
              rw [HJe.out, encRes1, if_pos hlong]; rfl
            · go_wp2_with fail
              go_ret2
              refine ⟨?_, hB5⟩
              rw [HJe.out, encRes1, if_neg hlong]; rfl
end Go.Proofs.YthhchicggidhcaaDoor
