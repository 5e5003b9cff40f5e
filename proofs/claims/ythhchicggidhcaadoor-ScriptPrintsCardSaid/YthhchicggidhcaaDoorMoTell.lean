/- The program's Tell, and the document's. -/
import Derived.Test.YthhchicggidhcaaDoorMoRLine
import Derived.Deep.RegionHeld3
import Derived.Deep.CutBlock
namespace Go.Proofs.YthhchicggidhcaaDoor
open Go.RowKit

abbrev wOut : ByteArray := ⟨#[111, 117, 116]⟩
abbrev wEnd : ByteArray := ⟨#[101, 110, 100]⟩
abbrev wSteps : ByteArray := ⟨#[115, 116, 101, 112, 115]⟩
abbrev wLog : ByteArray := ⟨#[108, 111, 103]⟩
def hexT (s : ByteArray) : ByteArray := strOfNums (hexes s.data.toList)
theorem hexT_size (s : ByteArray) : (hexT s).size = 2 * s.size := by
  unfold hexT strOfNums
  show (List.toArray _).size = _
  rw [List.size_toArray, List.length_map, hexes_len, Array.length_toList]; rfl
/-- A line, its end with it. -/
def lnB (w : ByteArray) (ns : List Int) : ByteArray := lineB w ns ++ ⟨#[10]⟩
theorem lnB_size (w : ByteArray) (ns : List Int) (h : ∀ n ∈ ns, I64 n) : (lnB w ns).size ≤ w.size + 22 * ns.length + 1 := by
  have := lineB_size w ns h
  unfold lnB
  rw [ByteArray.size_append]
  show _ + 1 ≤ _
  omega
def preB (out : ByteArray) : ByteArray := if out = ⟨#[]⟩ then wOut else wOut ++ (⟨#[32]⟩ ++ hexT out)
def logB (fs : List (Int × Int × Int)) : ByteArray := fs.foldl (fun s c => s ++ lnB wLog [c.1, c.2.1, c.2.2]) ⟨#[]⟩
theorem app_assoc (a b c : ByteArray) : a ++ b ++ c = a ++ (b ++ c) := by apply ByteArray.ext; simp
theorem app_nil (a : ByteArray) : a ++ ⟨#[]⟩ = a := by apply ByteArray.ext; simp
theorem logB_snoc (fs : List (Int × Int × Int)) (k : Nat) (h : k < fs.length) : logB (fs.take (k + 1)) = logB (fs.take k) ++ lnB wLog [fs[k].1, fs[k].2.1, fs[k].2.2] := by
  rw [List.take_succ_eq_append_getElem h, logB, List.foldl_append]; rfl
theorem logB_size (fs : List (Int × Int × Int)) (h : ∀ c ∈ fs, I64 c.1 ∧ I64 c.2.1 ∧ I64 c.2.2) : ∀ k, k ≤ fs.length → (logB (fs.take k)).size ≤ 70 * k
  | 0, _ => by simp [logB]; rfl
  | k + 1, hk => by
    have ih := logB_size fs h k (by omega)
    obtain ⟨h1, h2, h3⟩ := h _ (List.getElem_mem (show k < fs.length by omega))
    rw [logB_snoc fs k (by omega), ByteArray.size_append]
    have := lnB_size wLog [fs[k].1, fs[k].2.1, fs[k].2.2] (by simp; exact ⟨h1, h2, h3⟩)
    have e : wLog.size = 3 := rfl
    simp only [List.length_cons, List.length_nil] at this
    omega

theorem bs_some {s : ByteArray} (h : s ≠ ⟨#[]⟩) : ¬ s.toList = [] := by
  intro e
  apply h
  rw [ByteArray.toList_eq] at e
  cases s; simpa using e
theorem bs_none {s : ByteArray} (h : s = ⟨#[]⟩) : s.toList = [] := by
  subst h; rw [ByteArray.toList_eq]
theorem all1 {P : Int → Prop} {a : Int} (h : P a) : ∀ n ∈ [a], P n := by simpa using h
theorem all2 {P : Int → Prop} {a b : Int} (h : P a) (h' : P b) : ∀ n ∈ [a, b], P n := by simp [h, h']
theorem all3 {P : Int → Prop} {a b c : Int} (h : P a) (h' : P b) (h'' : P c) : ∀ n ∈ [a, b, c], P n := by simp [h, h', h'']
theorem keep3 {W : World} {N : Nat} {a b c d e : Value} {t : TypeId} {f : Nat × Nat} (h : W.heap[N]? = some (.cells #[a, b, c, d, e] t f)) :
    W.cell? ⟨N, 1, none⟩ = some b ∧ W.cell? ⟨N, 2, none⟩ = some c ∧ W.cell? ⟨N, 3, none⟩ = some d := ⟨(blk_cell h).trans rfl, (blk_cell h).trans rfl, (blk_cell h).trans rfl⟩
theorem blk_reads {W : World} {N T : Nat} {vs : List Value} {f : Nat × Nat} (h : W.heap[N]? = some (.cells vs.toArray T f)) : Reads W T (some ⟨N, 0, none⟩) vs := fun _ =>
  ⟨N, 0, _, f, rfl, h, fun j hj => by simp⟩
theorem bel0 {n : Nat} {w W wa : World} (hB : Below n w W) (hn : n ≤ W.heap.size) (ha : Below W.heap.size W wa) : Below n w wa := hB.trans (ha.mono hn)
theorem belA {n : Nat} {w W wa : World} {o : Obj} (hB : Below n w W) (hn : n ≤ W.heap.size) (ha : Below (W.alloc o).drew.heap.size (W.alloc o).drew wa) : Below n w wa :=
  bel0 ((hB.alloc hn o).drew) (by show n ≤ (W.alloc o).heap.size; simp; omega) ha
theorem belAA {n : Nat} {w W wa : World} {o o' : Obj} (hB : Below n w W) (hn : n ≤ W.heap.size) (ha : Below ((W.alloc o).alloc o').drew.heap.size ((W.alloc o).alloc o').drew wa) : Below n w wa :=
  bel0 (((hB.alloc hn o).alloc (by simp; omega) o').drew) (by show n ≤ ((W.alloc o).alloc o').heap.size; simp; omega) ha
theorem belA' {n : Nat} {w W wa : World} {o : Obj} (hB : Below n w W) (hn : n ≤ W.heap.size) (ha : Below (W.alloc o).heap.size (W.alloc o) wa) : Below n w wa :=
  bel0 (hB.alloc hn o) (by simp; omega) ha
theorem belAA' {n : Nat} {w W wa : World} {o o' : Obj} (hB : Below n w W) (hn : n ≤ W.heap.size) (ha : Below ((W.alloc o).alloc o').heap.size ((W.alloc o).alloc o') wa) : Below n w wa :=
  bel0 ((hB.alloc hn o).alloc (by simp; omega) o') (by simp; omega) ha
def tellB (out : ByteArray) (err place steps : Int) (fs : List (Int × Int × Int)) : ByteArray := preB out ++ (⟨#[10]⟩ ++ lnB wEnd [err, place] ++ lnB wSteps [steps]) ++ logB fs

set_option maxRecDepth 100000 in
set_option maxHeartbeats 400000 in
theorem Tell_any (out : ByteArray) (err place steps : Int) (fs : List (Int × Int × Int)) (A : Option Addr) (c : Nat) (w : World) (hL : Lw w) {T : Nat} (hR : Reads w T A (colls fs))
    (h1 : out.size ≤ 1048576) (h2 : fs.length ≤ 1048576) (i1 : I64 err) (i2 : I64 place) (i3 : I64 steps) (hf : ∀ c ∈ fs, I64 c.1 ∧ I64 c.2.1 ∧ I64 c.2.2) :
    Calls Tryd.prog 15 #[.agg #[.string out, .int .i64 err, .int .i64 place, .int .i64 steps, .slice A fs.length c]] w fun e w' =>
      e = .returned (.string (tellB out err place steps fs)) ∧ Below w.heap.size w w' := by
  have HI := Lib.hid (And.intro i1 (And.intro i2 i3))
  clear i1 i2 i3
  go_enter Tryd.func15, Tryd.ntmps15
  go_upto_if 8 with (fail)
  have hj := blk_new (w := w) (n := w.heap.size) (.cells #[.string out, .int .i64 err, .int .i64 place, .int .i64 steps, .slice A fs.length c] 31) rfl
  have hB : Below w.heap.size w (w.alloc (.cells #[.string out, .int .i64 err, .int .i64 place, .int .i64 steps, .slice A fs.length c] 31)) := (Below.refl _ _).alloc (Nat.le_refl _) _
  generalize w.alloc (.cells #[.string out, .int .i64 err, .int .i64 place, .int .i64 steps, .slice A fs.length c] 31) = w1 at *
  go_cut [3] (fun v3 wc => v3 = .string (preB out) ∧ Below w.heap.size w wc ∧ wc.heap[w.heap.size]? = some (.cells #[.string out, .int .i64 err, .int .i64 place, .int .i64 steps, .slice A fs.length c] 31 (0, 0)))
  case first =>
    have c0 : w1.cell? ⟨w.heap.size, 0, none⟩ = some (.string out) := (blk_cell hj).trans rfl
    go_wp2_with fail
    · have h0 : ¬ out = ⟨#[]⟩ := fun e => by
        have := ‹(!out.toList.isEmpty) = true›
        simp [bs_none e] at this
      with_reducible refine (bytes_any out w1 h1).mono ?_
      rintro e w2 ⟨rfl, hb2⟩
      have hz := hexT_size out
      unfold hexT at hz
      go_wp2_with fail
      go_meet
      case rel => exact ⟨by unfold preB hexT; rw [if_neg h0], hB.trans (hb2.mono hB.size), blk_belowS hb2 hj⟩
    · have h0 : out = ⟨#[]⟩ := Classical.byContradiction fun e => by
        have h := ‹(!out.toList.isEmpty) = false›
        simp [bs_some e] at h
      go_meet
      case rel => exact ⟨by unfold preB; rw [if_pos h0], hB, hj⟩
  case rest =>
    clear hj hB
    obtain ⟨rfl, hB, hj⟩ := hcut
    have hps : (preB out).size ≤ 3 + 1 + 2 * out.size := by
      unfold preB
      split
      · show 3 ≤ _; omega
      · rw [ByteArray.size_append, ByteArray.size_append, hexT_size]
        show 3 + (1 + _) ≤ _; omega
    generalize hP : preB out = P at *
    have HP := Lib.hid hP
    clear hP
    go_upto_region 4 with (fail)
    have hL0 := hL.below hB
    have hs1 := lineB_size wEnd [err, place] (all2 HI.out.1 HI.out.2.1)
    have hs2 := lineB_size wSteps [steps] (all1 HI.out.2.2)
    have e1 : wEnd.size = 3 := rfl
    have e2 : wSteps.size = 5 := rfl
    simp only [List.length_cons, List.length_nil, e1, e2] at hs1 hs2
    clear e1 e2
    dsimp only [wEnd, wSteps] at hs1 hs2
    have hi1 : ∀ n ∈ [err, place], I64 n := all2 HI.out.1 HI.out.2.1
    have hi2 : ∀ n ∈ [steps], I64 n := all1 HI.out.2.2
    have HI1 := Lib.hid hi1
    have HI2 := Lib.hid hi2
    clear hi1 hi2
    have hsl : w.heap.size < wc.heap.size := blk_lt hj
    go_cut [3] (fun v3 wd => v3 = .string (P ++ (⟨#[10]⟩ ++ lnB wEnd [err, place] ++ lnB wSteps [steps])) ∧ Below w.heap.size w wd ∧ wd.heap[w.heap.size]? = some (.cells #[.string out, .int .i64 err, .int .i64 place, .int .i64 steps, .slice A fs.length c] 31 (0, 0)))
    case first =>
      have r1 : ∀ w, (Op.stringOp .add ⟨#[10]⟩ (lineB ⟨#[101, 110, 100]⟩ [err, place] ++ ⟨#[10]⟩)).run Tryd.prog w = .ok (.string (⟨#[10]⟩ ++ (lineB ⟨#[101, 110, 100]⟩ [err, place] ++ ⟨#[10]⟩))) w := fun w => run_string_add_sum w _ _ (by simp only [ByteArray.size_append', ByteArray.size_mk', List.size_toArray, List.length_cons, List.length_nil]; omega)
      have r2 : ∀ w, (Op.stringOp .add (⟨#[10]⟩ ++ (lineB ⟨#[101, 110, 100]⟩ [err, place] ++ ⟨#[10]⟩)) (lineB ⟨#[115, 116, 101, 112, 115]⟩ [steps] ++ ⟨#[10]⟩)).run Tryd.prog w = .ok (.string (⟨#[10]⟩ ++ (lineB ⟨#[101, 110, 100]⟩ [err, place] ++ ⟨#[10]⟩) ++ (lineB ⟨#[115, 116, 101, 112, 115]⟩ [steps] ++ ⟨#[10]⟩))) w := fun w => run_string_add_sum w _ _ (by simp only [ByteArray.size_append', ByteArray.size_mk', List.size_toArray, List.length_cons, List.length_nil]; omega)
      have r3 : ∀ w, (Op.stringOp .add P (⟨#[10]⟩ ++ (lineB ⟨#[101, 110, 100]⟩ [err, place] ++ ⟨#[10]⟩) ++ (lineB ⟨#[115, 116, 101, 112, 115]⟩ [steps] ++ ⟨#[10]⟩))).run Tryd.prog w = .ok (.string (P ++ (⟨#[10]⟩ ++ (lineB ⟨#[101, 110, 100]⟩ [err, place] ++ ⟨#[10]⟩) ++ (lineB ⟨#[115, 116, 101, 112, 115]⟩ [steps] ++ ⟨#[10]⟩)))) w := fun w => run_string_add_sum w _ _ (by simp only [ByteArray.size_append', ByteArray.size_mk', List.size_toArray, List.length_cons, List.length_nil]; omega)
      go_region_held3 (fun w' => w'.cell? ⟨w.heap.size, 1, none⟩ = some (.int .i64 err) ∧ w'.cell? ⟨w.heap.size, 2, none⟩ = some (.int .i64 place) ∧ w'.cell? ⟨w.heap.size, 3, none⟩ = some (.int .i64 steps)) (first | exact keep3 hj | exact keep3 (blk_alloc hj _) | exact keep3 (blk_alloc (blk_alloc hj _) _)) (first
        | (go_at_call 34; (with_reducible refine (line_any (T := 3) ⟨#[101, 110, 100]⟩ [err, place] _ 2 2 rfl _ ?_ ?_ (by decide) (by decide) HI1.out).mono ?_); (first | exact (hL0.alloc _).drew | exact ((hL0.alloc _).alloc _).drew); (first | exact blk_reads (vs := [_, _]) (blk_new _ rfl) | exact blk_reads (vs := [_, _]) (blk_new _ (by simp)) | exact blk_reads (vs := [_, _]) (blk_alloc (blk_new _ rfl) _)); rintro e wa ⟨rfl, ha⟩; (first | have hB1 := belA hB (Nat.le_of_lt hsl) ha | have hB1 := belAA hB (Nat.le_of_lt hsl) ha); (first | have hL1 := (hL0.alloc _).drew.below ha | have hL1 := ((hL0.alloc _).alloc _).drew.below ha); (first | replace hj := blk_belowS ha (blk_alloc hj _) | replace hj := blk_belowS ha (blk_alloc (blk_alloc hj _) _)))
        | (go_at_call 34; (with_reducible refine (line_any (T := 3) ⟨#[115, 116, 101, 112, 115]⟩ [steps] _ 1 1 rfl _ ?_ ?_ (by decide) (by decide) HI2.out).mono ?_); (first | exact hL1 | exact hL1.alloc _); (first | exact blk_reads (vs := [_]) (blk_new _ rfl) | exact blk_reads (vs := [_]) (blk_belowS ha (blk_new _ (by simp))) | exact blk_reads (vs := [_]) (blk_belowS ha (blk_alloc (blk_new _ rfl) _))); rintro e wb ⟨rfl, hb⟩; (first | have hB2 := bel0 hB1 (Nat.le_of_lt (blk_lt hj)) hb | have hB2 := belA' hB1 (Nat.le_of_lt (blk_lt hj)) hb); (first | replace hj := blk_belowS hb hj | replace hj := blk_belowS hb (blk_alloc hj _))))
      all_goals
        go_wp2_with fail
        go_meet
        case rel => exact ⟨rfl, hB2, hj⟩
    case rest =>
      clear hj hB hL0 hsl
      obtain ⟨rfl, hB, hj⟩ := hcut
      have hQ : (P ++ (⟨#[10]⟩ ++ lnB wEnd [err, place] ++ lnB wSteps [steps])).size ≤ 3 * out.size + 300 := by
        unfold lnB
        dsimp only [wEnd, wSteps]
        simp only [ByteArray.size_append', ByteArray.size_mk', List.size_toArray, List.length_cons, List.length_nil]; omega
      generalize hQe : P ++ (⟨#[10]⟩ ++ lnB wEnd [err, place] ++ lnB wSteps [steps]) = R at hQ ⊢
      have HQ := Lib.hid hQe
      clear hQe hs1 hs2 hps
      have hjc : wc.cell? ⟨w.heap.size, 4, none⟩ = some (.slice A fs.length c) := (blk_cell hj).trans rfl
      go_wp2_with fail
      clear hjc
      go_loopw [3, 32] (fun v3 v32 wr => ∃ k : Nat, k ≤ fs.length ∧ v32 = .int .i64 k ∧ v3 = .string (R ++ logB (fs.take k)) ∧ Below w.heap.size w wr) (fun _ v32 _ => fs.length - (intOf v32).toNat)
      case atStart => exact ⟨0, Nat.zero_le _, rfl, by simp [logB, app_nil], hB⟩
      case round =>
        clear hB hj
        obtain ⟨k, hk, rfl, rfl, hB⟩ := hrel
        have hls := logB_size fs hf k hk
        have hks : 70 * k ≤ 70 * 1048576 := by omega
        by_cases hlt : k < fs.length
        · obtain ⟨ab, ao, cc, ff, rfl, hbk, hck⟩ := hR.below hB (by rw [colls_length]; omega)
          obtain ⟨q0, q1, q2⟩ := colls_get fs k hlt
          have d0 : wr.cell? ⟨ab, ao + k * 3, none⟩ = some (.int .i64 fs[k].1) := by rw [blk_cell hbk, show ao + k * 3 = ao + 3 * k by omega, hck _ (by rw [colls_length]; omega), q0]
          have d1 : wr.cell? ⟨ab, ao + k * 3 + 1, none⟩ = some (.int .i64 fs[k].2.1) := by rw [blk_cell hbk, show ao + k * 3 + 1 = ao + (3 * k + 1) by omega, hck _ (by rw [colls_length]; omega), q1]
          have d2 : wr.cell? ⟨ab, ao + k * 3 + 2, none⟩ = some (.int .i64 fs[k].2.2) := by rw [blk_cell hbk, show ao + k * 3 + 2 = ao + (3 * k + 2) by omega, hck _ (by rw [colls_length]; omega), q2]
          clear q0 q1 q2 hck
          obtain ⟨i1, i2, i3⟩ := hf _ (List.getElem_mem hlt)
          have HI3 := Lib.hid (all3 i1 i2 i3)
          have hs3 := lineB_size ⟨#[108, 111, 103]⟩ [fs[k].1, fs[k].2.1, fs[k].2.2] HI3.out
          have e3 : (ByteArray.mk #[108, 111, 103]).size = 3 := rfl
          simp only [List.length_cons, List.length_nil, e3] at hs3
          clear e3 i1 i2 i3
          have hn : w.heap.size ≤ wr.heap.size := hB.size
          go_wp2_with fail
          with_reducible refine (line_any (T := 3) ⟨#[108, 111, 103]⟩ [fs[k].1, fs[k].2.1, fs[k].2.2] _ 3 3 rfl _ (((hL.below hB).alloc _).alloc _) (Reads.litAt _ [_, _, _] (by simp)) (by decide) (by decide) HI3.out).mono ?_
          rintro e wa ⟨rfl, ha⟩
          have hBa := belAA' hB hn ha
          clear ha d0 d1 d2 hbk
          go_wp2_with fail
          go_roundw
          case rel => exact ⟨k + 1, by omega, by go_num, by rw [logB_snoc fs k hlt]; simp only [app_assoc, lnB], hBa⟩
          case measure => simp [intOf]; omega
        · have hke : k = fs.length := by omega
          subst hke
          rw [List.take_length]
          go_wp2_with fail
          go_ret
          exact ⟨by unfold tellB; rw [HP.out, HQ.out]; rfl, hB⟩
end Go.Proofs.YthhchicggidhcaaDoor
