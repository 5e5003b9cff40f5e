/- ScriptBack, walked. -/
import Derived.Test.YthhchicggidhcaaDoorMoAwake
import Derived.Test.YthhchicggidhcaaDoorMoSame
import Derived.Test.YthhchicggidhcaaDoorMoBackP
import Derived.Test.YthhchicggidhcaaDoorMoPrintB
namespace Go.Proofs.YthhchicggidhcaaDoor
open Go.RowKit

theorem jobBytes_longB {src inp : ByteArray} {lim fuel : Int} {fs : List (Int × Int × Int)} (h : 65536 < src.size + inp.size) : 65536 < (jobBytes src inp lim fuel fs).length := by
  unfold jobBytes
  simp only [List.length_append, bytesOf'_length]; omega

/-- What both come to, where the job is not gone through in vain. -/
def encBothB (src inp : ByteArray) (lim fuel : Int) (fs : List (Int × Int × Int)) : ByteArray × Int :=
  if 1000 < fs.length ∨ 65536 < src.size + inp.size ∨ 65536 < (jobBytes src inp lim fuel fs).length then (⟨#[]⟩, 12) else (strOfNums (jobBytes src inp lim fuel fs), 0)

theorem Encode_bothB (src inp : ByteArray) (lim fuel : Int) (fs : List (Int × Int × Int)) (A : Option Addr) (c : Nat) (w : World) {T : Nat} (hR : Reads w T A (colls fs)) (hl : fs.length ≤ 1048576) (hs : src.size ≤ 1048576) (hi : inp.size ≤ 1048576) :
    Calls Tryd.prog 13 #[.agg #[.string src, .string inp, .int .i64 lim, .int .i64 fuel, .slice A fs.length c]] w fun e w' =>
      e = .returned (.tuple #[.string (encBothB src inp lim fuel fs).1, .int .i64 (encBothB src inp lim fuel fs).2]) ∧ Below w.heap.size w w' := by
  by_cases h : 1000 < fs.length ∨ 65536 < src.size + inp.size
  · have he : encBothB src inp lim fuel fs = (⟨#[]⟩, 12) := by rw [encBothB, if_pos (by rcases h with h | h <;> simp [h])]
    rw [he]
    exact Encode_long src inp lim fuel fs A c w (by omega) (by omega) h
  · have he : .tuple #[.string (encBothB src inp lim fuel fs).1, .int .i64 (encBothB src inp lim fuel fs).2] = encRes src inp lim fuel fs := by
      unfold encRes encRes1 encBothB
      by_cases hb : 65536 < (jobBytes src inp lim fuel fs).length
      · rw [if_pos hb, if_pos (.inr (.inr hb))]
      · rw [if_neg hb, if_neg (by omega)]
    rw [he]
    exact Encode_any src inp lim fuel fs A c w hR (by omega) (by omega)

def longJobB (src inp : ByteArray) (n : Nat) : Bool := decide (1200 < (n : Int)) || decide (70000 < (src.size : Int)) || decide (70000 < (inp.size : Int))
theorem longJobB_no {src inp : ByteArray} {n : Nat} (h : longJobB src inp n = false) : n ≤ 1200 ∧ src.size ≤ 70000 ∧ inp.size ≤ 70000 := by
  simp only [longJobB, Bool.or_eq_false_iff, decide_eq_false_iff_not] at h
  omega
set_option maxRecDepth 100000 in
set_option maxHeartbeats 400000 in
theorem long_anyB (src inp : ByteArray) (lim fuel : Int) (n : Nat) (A : Option Addr) (c : Nat) (w : World) (hn : n ≤ 9223372036854775807) (hs : src.size ≤ 9223372036854775807) (_hi : inp.size ≤ 9223372036854775807) :
    Calls Tryd.prog 11 #[.agg #[.string src, .string inp, .int .i64 lim, .int .i64 fuel, .slice A n c]] w fun e w' =>
      e = .returned (.bool (longJobB src inp n)) ∧ Below w.heap.size w w' := by
  go_enter Tryd.func11, Tryd.ntmps11
  by_cases h1 : 1200 < n
  · have hq : longJobB src inp n = true := by rw [longJobB, decide_eq_true (by omega)]; rfl
    rw [hq]
    clear hq
    go_wp2_with fail
    go_ret
    exact ⟨rfl, (Below.refl _ _).alloc (Nat.le_refl _) _⟩
  · by_cases h2 : 70000 < src.size
    · have hq : longJobB src inp n = true := by rw [longJobB, decide_eq_true (p := 70000 < (src.size : Int)) (by omega), Bool.or_true]; rfl
      rw [hq]
      clear hq
      go_wp2_with fail
      go_ret
      exact ⟨rfl, (Below.refl _ _).alloc (Nat.le_refl _) _⟩
    · unfold longJobB
      go_wp2_with fail
      go_ret
      exact ⟨rfl, (Below.refl _ _).alloc (Nat.le_refl _) _⟩


/-- What Parse hands back of a job's text, laid into a variable: read. -/
theorem parse_at (t : ByteArray) (src inp : ByteArray) (lim fuel : Int) (fs : List (Int × Int × Int)) (w : World) (hL : Lw w) (hs : t.size ≤ 65536) (hp : prs js0 [] (lns t) = .ok ⟨src, inp, lim, fuel, fs⟩) :
    Calls Tryd.prog 29 #[.string t] w fun e w' => ∃ A c, e = .returned (.tuple #[.agg #[.string src, .string inp, .int .i64 lim, .int .i64 fuel, .slice A fs.length c], .int .i64 0, .int .i64 0]) ∧ Reads w' 65 A (colls fs) ∧ fs.length ≤ c ∧ Below w.heap.size w w' := by
  refine (parse_any t w hL (by omega)).mono fun e w' ⟨he, hb⟩ => ?_
  rw [if_neg (by omega), hp] at he
  obtain ⟨A, c, rfl, ho⟩ := he
  obtain ⟨A', c', he, hc⟩ := own_lt' ho
  cases he
  exact ⟨A, c, rfl, own_reads ho, hc, hb⟩
theorem decode_at (t : ByteArray) (src inp : ByteArray) (lim fuel : Int) (fs : List (Int × Int × Int)) (w : World) (hs : t.size ≤ 1048576) (hp : sDec t.data.toList = .ok ⟨src, inp, lim, fuel, fs⟩) :
    Calls Tryd.prog 26 #[.string t] w fun e w' => ∃ A c, e = .returned (.tuple #[.agg #[.string src, .string inp, .int .i64 lim, .int .i64 fuel, .slice A fs.length c], .int .i64 0]) ∧ Reads w' 65 A (colls fs) ∧ fs.length ≤ c ∧ Below w.heap.size w w' := by
  refine (Decode_any t w hs).mono fun e w' ⟨he, hb⟩ => ?_
  rw [hp] at he
  obtain ⟨A, c, rfl, ho⟩ := he
  obtain ⟨A', c', he, hc⟩ := own_lt' ho
  cases he
  exact ⟨A, c, rfl, own_reads ho, hc, hb⟩

set_option maxRecDepth 100000 in
set_option maxHeartbeats 4000000 in
theorem ScriptBack_any (src inp : ByteArray) {lim fuel : Int} {fs : List (Int × Int × Int)} (A : Option Addr) (c : Nat) (w : World) (hL : Lw w) {T : Nat} (hR : Reads w T A (colls fs))
    (hn : fs.length ≤ 9223372036854775807) (hs : src.size ≤ 9223372036854775807) (hi : inp.size ≤ 9223372036854775807) (hcap : fs.length ≤ c) (h1 : I64 lim) (h2 : I64 fuel) (hf : ∀ c ∈ fs, I64 c.1 ∧ I64 c.2.1 ∧ I64 c.2.2) :
    Calls Tryd.prog 10 #[.agg #[.string src, .string inp, .int .i64 lim, .int .i64 fuel, .slice A fs.length c]] w fun e w' =>
      e = .returned (.bool true) ∧ Below w.heap.size w w' := by
  have HN := Lib.hid (And.intro hn (And.intro hs (And.intro hi hcap)))
  have HI := Lib.hid (And.intro h1 (And.intro h2 hf))
  clear hn hs hi h1 h2 hf hcap
  go_enter Tryd.func10, Tryd.ntmps10
  go_wp2_with fail
  have hj := blk_new (w := w) (n := w.heap.size) (.cells #[.string src, .string inp, .int .i64 lim, .int .i64 fuel, .slice A fs.length c] 24) rfl
  have hB : Below w.heap.size w (w.alloc (.cells #[.string src, .string inp, .int .i64 lim, .int .i64 fuel, .slice A fs.length c] 24)) := (Below.refl _ _).alloc (Nat.le_refl _) _
  generalize w.alloc (.cells #[.string src, .string inp, .int .i64 lim, .int .i64 fuel, .slice A fs.length c] 24) = w1 at *
  refine (long_anyB src inp lim fuel fs.length A c w1 HN.out.1 HN.out.2.1 HN.out.2.2.1).mono ?_
  rintro e w2 ⟨rfl, hb2⟩
  replace hj := blk_belowS hb2 hj
  replace hB := hB.trans (hb2.mono hB.size)
  clear hb2
  cases hl : longJobB src inp fs.length with
  | true =>
    go_wp2_with fail
    with_reducible refine (awake_any _ (hL.below hB)).mono ?_
    rintro e w3 ⟨rfl, hb3⟩
    have hB3 := hB.trans (hb3.mono hB.size)
    clear hb3 hB hj
    go_wp2_with fail
    go_ret
    exact ⟨rfl, hB3⟩
  | false =>
    have hll := longJobB_no hl
    obtain ⟨c0, c1, c2, c3, c4⟩ := keep5 hj
    go_wp2_with fail
    with_reducible refine (Print_both src inp A c w2 (hL.below hB) (hR.below hB) (by omega) (by omega) (by omega) HI.out.1 HI.out.2.1 HI.out.2.2).mono ?_
    rintro e w3 ⟨rfl, hb3⟩
    replace hj := blk_belowS hb3 hj
    replace hB := hB.trans (hb3.mono hB.size)
    clear hb3 c0 c1 c2 c3 c4
    have hE : (prBoth src inp lim fuel fs).2 = 0 ∧ (prBoth src inp lim fuel fs).1 = prB src inp lim fuel fs ∧ fs.length ≤ 1000 ∧ (prB src inp lim fuel fs).size ≤ 65536 ∨ (prBoth src inp lim fuel fs).2 = 12 := by
      unfold prBoth
      by_cases h : 1000 < fs.length ∨ 65536 < (prB src inp lim fuel fs).size
      · rw [if_pos h]; exact .inr rfl
      · rw [if_neg h]; exact .inl ⟨rfl, rfl, by omega, by omega⟩
    generalize prBoth src inp lim fuel fs = Y at *
    obtain ⟨t, ee⟩ := Y
    dsimp only at hE ⊢
    go_upto_if 21 with (fail)
    go_cut [] (fun wd => Below w.heap.size w wd ∧ wd.heap[w.heap.size]? = some (.cells #[.string src, .string inp, .int .i64 lim, .int .i64 fuel, .slice A fs.length c] 24 (0, 0)))
    case first =>
      rcases hE with ⟨rfl, ht, hl1, hsz⟩ | rfl
      · have hp1 := prs_print src inp HI.out.1 HI.out.2.1 HI.out.2.2 hl1
        have hp2 := prs_more src inp HI.out.1 HI.out.2.1 HI.out.2.2 hl1
        rw [← ht] at hp1 hp2 hsz
        have HP := Lib.hid (And.intro hp1 hp2)
        clear ht hp1 hp2
        go_wp2_with fail
        with_reducible refine (parse_at t src inp lim fuel fs w3 (hL.below hB) hsz HP.out.1).mono ?_
        rintro e w4 ⟨A4, c4, rfl, hR4, hc4, hb4⟩
        have hj4 := blk_belowS hb4 hj
        have hB4 := hB.trans (hb4.mono hB.size)
        clear hb4
        have hlt := blk_lt hj4
        obtain ⟨d0, d1, d2, d3, d4⟩ := keep5 hj4
        have hRk := hR4.below ((Below.refl _ _).alloc (Nat.le_refl _) (.cells #[.string src, .string inp, .int .i64 lim, .int .i64 fuel, .slice A4 fs.length c4] 24))
        have hRj := (hR.below hB4).below ((Below.refl _ _).alloc (Nat.le_refl _) (.cells #[.string src, .string inp, .int .i64 lim, .int .i64 fuel, .slice A4 fs.length c4] 24))
        go_wp2_with fail
        with_reducible refine (same_any src inp lim fuel fs A4 A c4 c _ hRk hRj (by omega) hc4 HN.out.2.2.2).mono ?_
        rintro e w5 ⟨rfl, hb5⟩
        have hk5 := blk_belowS hb5 (blk_new (w := w4) (n := w4.heap.size) (.cells #[.string src, .string inp, .int .i64 lim, .int .i64 fuel, .slice A4 fs.length c4] 24) rfl)
        have hj5 := blk_belowS hb5 (blk_alloc hj4 _)
        have hB5 := belA' hB4 hB4.size hb5
        have hlt5 := blk_lt hk5
        clear hb5 hRk hRj hR4 d0 d1 d2 d3 d4
        have HSZ := Lib.hid hsz
        clear hsz
        by_cases h65 : t.size < 65526
        · have hd : decide ((t.size : Int) < 65526) = true := decide_eq_true (by omega)
          have H65 := Lib.hid h65
          have r1 : ∀ w, (Op.stringOp .add (⟨#[35, 32, 109, 111, 114, 101, 10, 10]⟩ : ByteArray) t).run Tryd.prog w = .ok (.string (⟨#[35, 32, 109, 111, 114, 101, 10, 10]⟩ ++ t)) w := fun w => run_string_add_sum w _ _ (by have e8 : (ByteArray.mk #[35, 32, 109, 111, 114, 101, 10, 10]).size = 8 := rfl; rw [e8]; omega)
          clear h65
          go_upto_region 9 with (fail)
          clear hd
          go_wp2_with fail
          with_reducible refine (parse_at (⟨#[35, 32, 109, 111, 114, 101, 10, 10]⟩ ++ t) src inp lim fuel fs w5 (hL.below hB5) (by have := H65.out; have e8 : (ByteArray.mk #[35, 32, 109, 111, 114, 101, 10, 10]).size = 8 := rfl; rw [ByteArray.size_append, e8]; omega) HP.out.2).mono ?_
          rintro e w6 ⟨A6, c6, rfl, hR6, hc6, hb6⟩
          have hk6 := blk_belowS hb6 hk5
          have hj6 := blk_belowS hb6 hj5
          have hB6 := hB5.trans (hb6.mono hB5.size)
          clear hb6 r1
          obtain ⟨d0, d1, d2, d3, d4⟩ := keep5 hj6
          obtain ⟨k0, k1, k2, k3, k4, f0, f1, f2, f3, f4⟩ := blk10 hk6
          have h5 := put5 (v0 := .string src) (v1 := .string inp) (v2 := .int .i64 lim) (v3 := .int .i64 fuel) (v4 := .slice A6 fs.length c6) hk6
          have hB7 := hB6.trans ((h5.2.below (Nat.le_of_lt (blk_lt hk6))).mono (Nat.le_of_lt hlt))
          have hRk := hR6.fr h5.2 (by decide)
          have hRj := hR.below hB7
          have hj7 := blk_lt_base h5.2 hj6 hlt
          have hne : w4.heap.size ≠ w.heap.size := by omega
          have H5 := Lib.hid h5
          clear h5
          go_wp2_with fail
          clear k0 k1 k2 k3 k4 f0 f1 f2 f3 f4 d0 d1 d2 d3 d4
          with_reducible refine (same_any src inp lim fuel fs A6 A c6 c _ hRk hRj (by omega) hc6 HN.out.2.2.2).mono ?_
          rintro e w8 ⟨rfl, hb8⟩
          have hj8 := blk_belowS hb8 hj7
          have hB8 := hB7.trans (hb8.mono hB7.size)
          clear hb8 hRk hRj hR6 hj7 hB7
          go_wp2_with fail
          go_meet
          case rel => exact ⟨hB8, hj8⟩
        · have hd : decide ((t.size : Int) < 65526) = false := decide_eq_false (by omega)
          clear h65
          go_wp2_with fail
          go_meet
          case rel => exact ⟨hB5, hj5⟩
      · go_wp2_with fail
        go_meet
        case rel => exact ⟨hB, hj⟩
    case rest =>
      clear hB hj
      obtain ⟨hB, hj⟩ := hcut
      obtain ⟨c0, c1, c2, c3, c4⟩ := keep5 hj
      have hE2 : ee = 0 ∨ ee = 12 := hE.imp And.left id
      clear hE
      go_wp2_with fail
      with_reducible refine (Encode_bothB src inp lim fuel fs A c wc (hR.below hB) (by omega) (by omega) (by omega)).mono ?_
      rintro e w4 ⟨rfl, hb4⟩
      have hj4 := blk_belowS hb4 hj
      have hB4 := hB.trans (hb4.mono hB.size)
      clear hb4 hj hB c0 c1 c2 c3 c4
      have hG : (encBothB src inp lim fuel fs).2 = 0 ∧ (encBothB src inp lim fuel fs).1 = strOfNums (jobBytes src inp lim fuel fs) ∧ fs.length ≤ 1000 ∧ (jobBytes src inp lim fuel fs).length ≤ 65536 ∨ (encBothB src inp lim fuel fs).2 = 12 := by
        unfold encBothB
        by_cases h : 1000 < fs.length ∨ 65536 < src.size + inp.size ∨ 65536 < (jobBytes src inp lim fuel fs).length
        · rw [if_pos h]; exact .inr rfl
        · rw [if_neg h]; exact .inl ⟨rfl, rfl, by omega, by omega⟩
      generalize encBothB src inp lim fuel fs = Z at *
      obtain ⟨b, g⟩ := Z
      dsimp only at hG ⊢
      go_upto_if 68 with (fail)
      go_cut [] (fun wd => Below w.heap.size w wd)
      case first =>
        rcases hG with ⟨rfl, ht, hl1, hsz⟩ | rfl
        · have hp1 := dec_encoded src inp HI.out.1 HI.out.2.1 HI.out.2.2 hl1 hsz
          rw [← ht] at hp1
          have hbs : b.size ≤ 65536 := by
            rw [ht]
            show (List.toArray _).size ≤ _
            rw [List.size_toArray, List.length_map]; exact hsz
          have HP := Lib.hid hp1
          have HBS := Lib.hid hbs
          clear ht hp1 hsz hbs
          go_wp2_with fail
          with_reducible refine (decode_at b src inp lim fuel fs w4 (by have := HBS.out; omega) HP.out).mono ?_
          rintro e w5 ⟨A4, c4, rfl, hR4, hc4, hb5⟩
          have hj5 := blk_belowS hb5 hj4
          have hB5 := hB4.trans (hb5.mono hB4.size)
          clear hb5
          have hlt := blk_lt hj5
          obtain ⟨d0, d1, d2, d3, d4⟩ := keep5 hj5
          have hRk := hR4.below ((Below.refl _ _).alloc (Nat.le_refl _) (.cells #[.string src, .string inp, .int .i64 lim, .int .i64 fuel, .slice A4 fs.length c4] 24))
          have hRj := (hR.below hB5).below ((Below.refl _ _).alloc (Nat.le_refl _) (.cells #[.string src, .string inp, .int .i64 lim, .int .i64 fuel, .slice A4 fs.length c4] 24))
          go_wp2_with fail
          with_reducible refine (same_any src inp lim fuel fs A4 A c4 c _ hRk hRj (by omega) hc4 HN.out.2.2.2).mono ?_
          rintro e w6 ⟨rfl, hb6⟩
          have hB6 := belA' hB5 hB5.size hb6
          clear hb6 hRk hRj hR4 d0 d1 d2 d3 d4
          go_wp2_with fail
          go_meet
          case rel => exact hB6
        · go_wp2_with fail
          go_meet
          case rel => exact hB4
      case rest =>
        clear hB4 hj4
        have hG2 : g = 0 ∨ g = 12 := hG.imp And.left id
        clear hG
        rcases hE2 with rfl | rfl
        all_goals
          rcases hG2 with rfl | rfl
          all_goals
            go_wp2_with fail
            with_reducible refine (awake_any _ (hL.below hcut)).mono ?_
            rintro e w9 ⟨rfl, hb9⟩
            have hB9 := hcut.trans (hb9.mono hcut.size)
            clear hb9
            go_wp2_with fail
            go_ret
            exact ⟨rfl, hB9⟩
end Go.Proofs.YthhchicggidhcaaDoor
