/- The program's source and reader: numbers, amounts and bytes from the front. -/
import Derived.Test.YthhchicggidhcaaDoorMoVd
import Derived.Deep.CutBlock
import Derived.Deep.LoopGhost
import Derived.Lib.IndexBytes
namespace Go.Proofs.YthhchicggidhcaaDoor
open Go.RowKit

/-- The source at block b has the bytes l before it; bad: what was read was none. -/
def SrcAt (w : World) (T b : Nat) (l : List UInt8) (bad : Bool) : Prop := ∃ s : ByteArray, s.data.toList = l ∧ w.heap[b]? = some (.cells #[.string s, .int .i64 (if bad then 1 else 0)] T (0, 0))

/-- A number read: the number, and the state behind it. -/
def snum (l : List UInt8) (bad : Bool) : Int × List UInt8 × Bool := if bad = true then (0, l, true) else match dnum l with
  | some (n, r) => (n, r, false)
  | none => (0, l, true)

theorem and127 : ∀ a : Nat, a < 256 → bits .and .u8 (a : Int) 127 = ((a % 128 : Nat) : Int) := by decide +kernel
theorem or_bv (x y : Int) : bits .or .u64 x y = IntKind.u64.wrap (((BitVec.ofInt 64 x) ||| (BitVec.ofInt 64 y)).toNat : Int) := rfl
theorem pow_sum {i x d : Nat} (hi : i ≤ 9) (hx : x < 128 ^ i) (hd : d < 128) (h9 : i = 9 → d ≤ 1) : x + d * 128 ^ i < 18446744073709551616 := by
  by_cases h : i = 9
  · subst h
    have := h9 rfl
    have e : (128 : Nat) ^ 9 = 9223372036854775808 := by decide
    rw [e] at hx ⊢
    omega
  · have h1 : d * 128 ^ i + 128 ^ i ≤ 128 * 128 ^ i := by
      rw [← Nat.succ_mul]; exact Nat.mul_le_mul_right _ (by omega)
    have h2 : 128 * 128 ^ i = 128 ^ (i + 1) := by rw [Nat.pow_succ, Nat.mul_comm]
    have h3 : 128 ^ (i + 1) ≤ 128 ^ 9 := Nat.pow_le_pow_right (by omega) (by omega)
    have e : (128 : Nat) ^ 9 = 9223372036854775808 := by decide
    omega
/-- The bits of a number's next seven, above what has come. -/
theorem or_step {i x d : Nat} (hi : i ≤ 9) (hx : x < 128 ^ i) (hd : d < 128) (h9 : i = 9 → d ≤ 1) : bits .or .u64 (x : Int) ((d * 128 ^ i : Nat) : Int) = ((x + d * 128 ^ i : Nat) : Int) := by
  have hlt := pow_sum hi hx hd h9
  have hp : 128 ^ i = 2 ^ (7 * i) := by rw [Nat.pow_mul]
  have e64 : (2 : Nat) ^ 64 = 18446744073709551616 := by decide
  have hor : x ||| d * 128 ^ i = x + d * 128 ^ i := by
    rw [hp] at hx ⊢
    rw [Nat.or_comm, Nat.mul_comm d, ← Nat.two_pow_add_eq_or_of_lt hx, Nat.add_comm]
  rw [or_bv, BitVec.ofInt_natCast, BitVec.ofInt_natCast, BitVec.toNat_or, BitVec.toNat_ofNat, BitVec.toNat_ofNat, Nat.mod_eq_of_lt (show x < 2 ^ 64 by omega), Nat.mod_eq_of_lt (show d * 128 ^ i < 2 ^ 64 by omega), hor, IntKind.wrap_u64]
  omega

set_option maxRecDepth 100000 in
set_option maxHeartbeats 400000 in
theorem num_bad (T b : Nat) (l : List UInt8) (w : World) (hS : SrcAt w T b l true) (hbd : l.length ≤ 1048576) :
    Calls Tryd.prog 42 #[.pointer (some ⟨b, 0, none⟩)] w fun e w' => e = .returned (.int .i64 0) ∧ SrcAt w' T b l true ∧ Fr [T] b w w' := by
  obtain ⟨s, hs, hb⟩ := hS
  have hsz : s.size ≤ 1048576 := by rw [← hs, Array.length_toList] at hbd; exact hbd
  have HS := Lib.hid hs
  clear hs hbd
  simp only [if_true] at hb
  have c0 : w.cell? ⟨b, 0, none⟩ = some (.string s) := (blk_cell hb).trans rfl
  have c1 : w.cell? ⟨b, 1, none⟩ = some (.int .i64 1) := (blk_cell hb).trans rfl
  have f1 : w.frozen? ⟨b, 1, none⟩ = false := blk_free hb
  go_enter Tryd.func42, Tryd.ntmps42
  go_wp2_with fail
  go_loop [4] (fun v => v = .int .i64 0) (fun _ => 0)
  case atStart => rfl
  case round =>
    subst hrel
    by_cases h0 : 0 < s.size
    · go_wp2_with fail
      go_ret
      exact ⟨rfl, ⟨s, HS.out, by rw [blk_set hb]; rfl⟩, Fr.setCell _ (Nat.le_refl _) ⟨_, _, _, hb, by simp⟩⟩
    · go_wp2_with fail
      go_ret
      exact ⟨rfl, ⟨s, HS.out, by rw [blk_set hb]; rfl⟩, Fr.setCell _ (Nat.le_refl _) ⟨_, _, _, hb, by simp⟩⟩

theorem vd_cons (i x : Nat) (c : UInt8) (r : List UInt8) : vd i x (c :: r) = if 10 ≤ i then none else
    if c.toNat < 128 then (if i = 9 ∧ 1 < c.toNat ∨ 0 < i ∧ c.toNat = 0 then none else some (x + c.toNat * 128 ^ i, r))
    else vd (i + 1) (x + c.toNat % 128 * 128 ^ i) r := rfl
theorem vd_ten (x : Nat) (l : List UInt8) : vd 10 x l = none := by
  cases l with
  | nil => rfl
  | cons c r => rw [vd_cons, if_pos (by omega)]
theorem xor_bv64 (x y : Int) : bits .xor .i64 x y = IntKind.i64.wrap (((BitVec.ofInt 64 x) ^^^ (BitVec.ofInt 64 y)).toNat : Int) := rfl
theorem and_bv (x y : Int) : bits .and .u64 x y = IntKind.u64.wrap (((BitVec.ofInt 64 x) &&& (BitVec.ofInt 64 y)).toNat : Int) := rfl
theorem unz_walk {Y : Nat} (h : Y < 18446744073709551616) : bits .xor .i64 (wrap64 ((Y : Int) / 2)) (wrap64 (-wrap64 (bits .and .u64 (Y : Int) 1))) = unz Y := by
  have e64 : (2 : Nat) ^ 64 = 18446744073709551616 := by decide
  have ha : bits .and .u64 (Y : Int) 1 = ((Y % 2 : Nat) : Int) := by
    rw [and_bv, BitVec.ofInt_natCast, show BitVec.ofInt 64 1 = BitVec.ofNat 64 1 from rfl, BitVec.toNat_and, BitVec.toNat_ofNat, BitVec.toNat_ofNat, Nat.mod_eq_of_lt (show Y < 2 ^ 64 by omega), show 1 % 2 ^ 64 = 1 from rfl, Nat.and_one_is_mod, IntKind.wrap_u64]
    omega
  have hq : wrap64 ((Y : Int) / 2) = ((Y / 2 : Nat) : Int) := by unfold wrap64; omega
  rw [ha, hq]
  unfold unz
  by_cases h2 : Y % 2 = 1
  · rw [if_pos h2, h2, show wrap64 (-wrap64 ((1 : Nat) : Int)) = -1 from by unfold wrap64; omega, xor_bv64, BitVec.ofInt_natCast, show BitVec.ofInt 64 (-1) = BitVec.allOnes 64 by decide, BitVec.xor_allOnes, BitVec.toNat_not, BitVec.toNat_ofNat, Nat.mod_eq_of_lt (show Y / 2 < 2 ^ 64 by omega), IntKind.wrap_i64]
    omega
  · have h0 : Y % 2 = 0 := by omega
    rw [if_neg h2, h0, show wrap64 (-wrap64 ((0 : Nat) : Int)) = 0 from by unfold wrap64; omega, xor_bv64, BitVec.ofInt_natCast, show BitVec.ofInt 64 0 = 0#64 by decide, BitVec.xor_zero, BitVec.toNat_ofNat, Nat.mod_eq_of_lt (show Y / 2 < 2 ^ 64 by omega), IntKind.wrap_i64]
    omega
/-- The loop's state: what has come, and that the number is what is read on from here. -/
def NumI (l : List UInt8) (i : Nat) (X : Int) : Prop := (i < 10 → ∃ x : Nat, X = x ∧ x < 128 ^ i ∧ vd 0 0 l = vd i x (l.drop i)) ∧ (i = 10 → vd 0 0 l = none)

set_option maxRecDepth 100000 in
set_option maxHeartbeats 400000 in
theorem num_ok (T b : Nat) (l : List UInt8) (w : World) (hS : SrcAt w T b l false) (hbd : l.length ≤ 1048576) :
    Calls Tryd.prog 42 #[.pointer (some ⟨b, 0, none⟩)] w fun e w' => e = .returned (.int .i64 (snum l false).1) ∧ SrcAt w' T b (snum l false).2.1 (snum l false).2.2 ∧ Fr [T] b w w' := by
  obtain ⟨s, hs, hb⟩ := hS
  have hsz : s.size ≤ 1048576 := by rw [← hs, Array.length_toList] at hbd; exact hbd
  have hln : s.size = l.length := by rw [← hs, Array.length_toList]; rfl
  have HS := Lib.hid hs
  have HN := Lib.hid hln
  clear hs hbd hln
  simp only [Bool.false_eq_true, if_false] at hb
  have c0 : w.cell? ⟨b, 0, none⟩ = some (.string s) := (blk_cell hb).trans rfl
  have c1 : w.cell? ⟨b, 1, none⟩ = some (.int .i64 0) := (blk_cell hb).trans rfl
  have f0 : w.frozen? ⟨b, 0, none⟩ = false := blk_free hb
  have f1 : w.frozen? ⟨b, 1, none⟩ = false := blk_free hb
  have fin : vd 0 0 l = none → (Ending.returned (.int .i64 0) = .returned (.int .i64 (snum l false).1) ∧ SrcAt (w.setCell ⟨b, 1, none⟩ (.int .i64 1)) T b (snum l false).2.1 (snum l false).2.2 ∧ Fr [T] b w (w.setCell ⟨b, 1, none⟩ (.int .i64 1))) := by
    intro h1
    have e : snum l false = (0, l, true) := by
      unfold snum dnum
      rw [h1]; rfl
    rw [e]
    exact ⟨rfl, ⟨s, HS.out, by rw [blk_set hb]; rfl⟩, Fr.setCell _ (Nat.le_refl _) ⟨_, _, _, hb, by simp⟩⟩
  have FIN := Lib.hid fin
  clear fin
  go_enter Tryd.func42, Tryd.ntmps42
  go_wp2_with fail
  go_loop [3, 4] (fun v3 v4 => ∃ (i : Nat) (X : Int), i ≤ 10 ∧ i ≤ s.size ∧ v4 = .int .i64 i ∧ v3 = .int .u64 X ∧ Hid (NumI l i X)) (fun _ v4 => 10 - (intOf v4).toNat)
  case atStart => exact ⟨0, 0, by omega, by omega, rfl, rfl, Lib.hid ⟨fun _ => ⟨0, rfl, by simp, by simp⟩, fun h => by omega⟩⟩
  case round =>
    obtain ⟨i, X, hi, hil, rfl, rfl, HI⟩ := hrel
    by_cases hlt : i < s.size
    · by_cases h10 : i < 10
      · obtain ⟨x, rfl, hx, hv⟩ := HI.out.1 h10
        have hd : l.drop i = s[i] :: l.drop (i + 1) := by
          rw [← HS.out, List.drop_eq_getElem_cons (by rw [Array.length_toList]; exact hlt)]; rfl
        rw [hd, vd_cons, if_neg (by omega)] at hv
        have h8 := s[i].toNat_lt
        obtain ⟨c, hce⟩ : ∃ c, s[i].toNat = c := ⟨_, rfl⟩
        rw [hce] at hv h8
        have HV := Lib.hid hv
        clear hv hd HI
        have HC := Lib.hid hce
        by_cases hc : c < 128
        · have hA := and127 c h8
          rw [Nat.mod_eq_of_lt hc] at hA
          by_cases hq : i = 9 ∧ 1 < c ∨ 0 < i ∧ c = 0
          · have hn := HV.out
            rw [if_pos hc, if_pos hq] at hn
            have HNN := Lib.hid (FIN.out hn)
            clear hn HV
            rcases hq with ⟨rfl, h1⟩ | ⟨h1, rfl⟩
            · go_wp2_with fail
              go_ret
              exact HNN.out
            · go_wp2_with fail
              all_goals
                go_ret
                exact HNN.out
          · have hY := pow_sum (x := x) (d := c) (i := i) (by omega) hx hc (by omega)
            have hO := or_step (x := x) (d := c) (i := i) (by omega) hx hc (by omega)
            have hs2 : snum l false = (unz (x + c * 128 ^ i), l.drop (i + 1), false) := by
              have h := HV.out
              rw [if_pos hc, if_neg hq] at h
              unfold snum dnum
              rw [h]; rfl
            have hw2 : bits .or .u64 (x : Int) (IntKind.u64.wrap ((c : Int) * 2 ^ (7 * i))) = ((x + c * 128 ^ i : Nat) : Int) := by
              rw [← hO]
              congr 1
              have hp : 128 ^ i = 2 ^ (7 * i) := by rw [Nat.pow_mul]
              rw [IntKind.wrap_u64]
              have : ((c * 128 ^ i : Nat) : Int) = (c : Int) * 2 ^ (7 * i) := by rw [hp]; push_cast; rfl
              rw [this]
              omega
            have HF := Lib.hid (And.intro hw2 (And.intro hs2 (unz_walk hY)))
            have hex : (s.extract (i + 1) s.size).data.toList = l.drop (i + 1) := by rw [Lib.extract_to_end, HS.out]
            have HX := Lib.hid hex
            have h5 : (7 : Int) * i ≤ 63 := by omega
            clear hw2 hs2 hex hY hO HV
            by_cases h9 : i = 9
            · subst h9
              obtain rfl : c = 1 := by omega
              go_wp2_with fail
              go_ret
              rw [HF.out.2.1]
              refine ⟨?_, ⟨_, HX.out, by rw [blk_set hb]; rfl⟩, Fr.setCell _ (Nat.le_refl _) ⟨_, _, _, hb, by simp⟩⟩
              show Ending.returned (.int .i64 _) = _
              rw [show IntKind.u64.wrap (IntKind.u64.wrap (bits BinOp.and IntKind.u8 1 127) * 9223372036854775808) = IntKind.u64.wrap (((1 : Nat) : Int) * 2 ^ (7 * 9)) from by decide +kernel, HF.out.1, HF.out.2.2]
            · have hi9 : ((i : Int) == 9) = false := by rw [beq_eq_false_iff_ne]; omega
              by_cases hz : i = 0
              · subst hz
                go_wp2_with fail
                go_ret
                rw [HF.out.2.1]
                refine ⟨?_, ⟨_, HX.out, by rw [blk_set hb]; rfl⟩, Fr.setCell _ (Nat.le_refl _) ⟨_, _, _, hb, by simp⟩⟩
                show Ending.returned (.int .i64 _) = _
                have h1 := HF.out.1
                rw [show IntKind.u64.wrap ((c : Int) * 2 ^ (7 * 0)) = c from by rw [IntKind.wrap_u64]; simp; omega] at h1
                rw [h1, HF.out.2.2]
              · have hc0 : ((c : Int) == 0) = false := by rw [beq_eq_false_iff_ne]; omega
                go_wp2_with fail
                go_ret
                rw [HF.out.2.1]
                refine ⟨?_, ⟨_, HX.out, by rw [blk_set hb]; rfl⟩, Fr.setCell _ (Nat.le_refl _) ⟨_, _, _, hb, by simp⟩⟩
                show Ending.returned (.int .i64 _) = _
                rw [HF.out.1, HF.out.2.2]
        · have hA := and127 c h8
          have hA2 : c % 128 < 128 := Nat.mod_lt _ (by omega)
          have h5 : (7 : Int) * i ≤ 63 := by omega
          have hnx : NumI l (i + 1) (bits .or .u64 (x : Int) (IntKind.u64.wrap (((c % 128 : Nat) : Int) * 2 ^ (7 * i)))) := by
            have h := HV.out
            rw [if_neg hc] at h
            refine ⟨fun h9 => ⟨x + c % 128 * 128 ^ i, ?_, ?_, h⟩, fun h9 => ?_⟩
            · rw [← or_step (by omega) hx hA2 (by omega)]
              congr 1
              have hp : 128 ^ i = 2 ^ (7 * i) := by rw [Nat.pow_mul]
              have hY := pow_sum (x := x) (i := i) (by omega) hx hA2 (by omega)
              rw [IntKind.wrap_u64]
              have : ((c % 128 * 128 ^ i : Nat) : Int) = ((c % 128 : Nat) : Int) * 2 ^ (7 * i) := by rw [hp]; push_cast; rfl
              rw [this]
              omega
            · have h1 : c % 128 * 128 ^ i + 128 ^ i ≤ 128 * 128 ^ i := by
                rw [← Nat.succ_mul]; exact Nat.mul_le_mul_right _ (by omega)
              rw [Nat.pow_succ, Nat.mul_comm (128 ^ i)]; omega
            · rw [h, h9, vd_ten]
          have HNX := Lib.hid hnx
          clear hnx HV
          go_wp2_with fail
          go_round
          case rel => exact ⟨i + 1, _, by omega, by omega, by go_num, rfl, HNX⟩
          case measure => simp [intOf]; omega
      · obtain rfl : i = 10 := by omega
        have hn := FIN.out (HI.out.2 rfl)
        have HNN := Lib.hid hn
        clear hn HI
        go_wp2_with fail
        go_ret
        exact HNN.out
    · have hn : vd 0 0 l = none := by
        by_cases h10 : i < 10
        · obtain ⟨x, _, _, hv⟩ := HI.out.1 h10
          rw [hv, List.drop_eq_nil_of_le (by rw [← HN.out]; omega)]; rfl
        · exact HI.out.2 (by omega)
      have HNN := Lib.hid (FIN.out hn)
      clear hn HI
      go_wp2_with fail
      go_ret
      exact HNN.out

/-- Both at once. -/
theorem num_any (T b : Nat) (l : List UInt8) (bad : Bool) (w : World) (hS : SrcAt w T b l bad) (hbd : l.length ≤ 1048576) :
    Calls Tryd.prog 42 #[.pointer (some ⟨b, 0, none⟩)] w fun e w' => e = .returned (.int .i64 (snum l bad).1) ∧ SrcAt w' T b (snum l bad).2.1 (snum l bad).2.2 ∧ Fr [T] b w w' := by
  cases bad with
  | false => exact num_ok T b l w hS hbd
  | true => exact num_bad T b l w hS hbd
theorem vd_len : ∀ (l : List UInt8) (i x y : Nat) (r : List UInt8), vd i x l = some (y, r) → r.length ≤ l.length
  | [], i, x, y, r, h => by simp [vd] at h
  | c :: l, i, x, y, r, h => by
    rw [vd_cons] at h
    split at h
    · cases h
    · split at h
      · split at h
        · cases h
        · cases h; simp
      · have := vd_len l _ _ _ _ h
        simp only [List.length_cons]; omega
theorem snum_len (l : List UInt8) (bad : Bool) : (snum l bad).2.1.length ≤ l.length := by
  unfold snum
  split
  · exact Nat.le_refl _
  · split
    · rename_i n r h
      unfold dnum at h
      cases hv : vd 0 0 l with
      | none => rw [hv] at h; cases h
      | some p =>
        rw [hv] at h
        cases h
        exact vd_len l 0 0 p.1 p.2 hv
    · exact Nat.le_refl _

/-- An amount read. -/
def samt (l : List UInt8) (bad : Bool) : Nat × List UInt8 × Bool :=
  if (snum l bad).1 < 0 ∨ ((snum l bad).2.1.length : Int) < (snum l bad).1 then (0, (snum l bad).2.1, true) else ((snum l bad).1.toNat, (snum l bad).2.1, (snum l bad).2.2)
theorem samt_le (l : List UInt8) (bad : Bool) : (samt l bad).1 ≤ (samt l bad).2.1.length := by
  unfold samt
  split
  · exact Nat.zero_le _
  · show (snum l bad).1.toNat ≤ (snum l bad).2.1.length; omega
theorem samt_len (l : List UInt8) (bad : Bool) : (samt l bad).2.1.length ≤ l.length := by
  have := snum_len l bad
  unfold samt
  split <;> exact this

set_option maxRecDepth 100000 in
set_option maxHeartbeats 400000 in
theorem amount_any (T b : Nat) (l : List UInt8) (bad : Bool) (w : World) (hS : SrcAt w T b l bad) (hbd : l.length ≤ 1048576) :
    Calls Tryd.prog 44 #[.pointer (some ⟨b, 0, none⟩)] w fun e w' => e = .returned (.int .i64 ((samt l bad).1 : Nat)) ∧ SrcAt w' T b (samt l bad).2.1 (samt l bad).2.2 ∧ Fr [T] b w w' := by
  have hl := snum_len l bad
  go_enter Tryd.func44, Tryd.ntmps44
  go_wp2_with fail
  refine (num_any T b l bad w hS hbd).mono ?_
  rintro e w1 ⟨rfl, ⟨s, hs, hb⟩, hF⟩
  have hE := Lib.hid (show samt l bad = if (snum l bad).1 < 0 ∨ ((snum l bad).2.1.length : Int) < (snum l bad).1 then (0, (snum l bad).2.1, true) else ((snum l bad).1.toNat, (snum l bad).2.1, (snum l bad).2.2) from rfl)
  generalize hq : snum l bad = q at *
  have HQ := Lib.hid hq
  clear hq
  obtain ⟨n, r, bd⟩ := q
  simp only at hs hb hE hl ⊢
  have hn : s.size = r.length := by rw [← hs, Array.length_toList]; rfl
  have HS := Lib.hid (And.intro hs hn)
  have hsz : s.size ≤ 1048576 := by omega
  clear hs
  have c0 : w1.cell? ⟨b, 0, none⟩ = some (.string s) := (blk_cell hb).trans rfl
  have c1 : w1.cell? ⟨b, 1, none⟩ = some (.int .i64 (if bd = true then 1 else 0)) := (blk_cell hb).trans rfl
  have f1 : w1.frozen? ⟨b, 1, none⟩ = false := blk_free hb
  by_cases h0 : n < 0
  · have hE2 := hE.out
    rw [if_pos (.inl h0)] at hE2
    have HE := Lib.hid hE2
    clear hE hE2 hn
    go_wp2_with fail
    go_ret
    rw [HE.out]
    exact ⟨rfl, ⟨s, HS.out.1, by rw [blk_set hb]; rfl⟩, hF.trans (Fr.setCell _ (Nat.le_refl _) ⟨_, _, _, hb, by simp⟩)⟩
  · by_cases h1 : (s.size : Int) < n
    · have hE2 := hE.out
      rw [if_pos (.inr (by rw [← hn]; exact h1))] at hE2
      have HE := Lib.hid hE2
      clear hE hE2 hn
      go_wp2_with fail
      go_ret
      rw [HE.out]
      exact ⟨rfl, ⟨s, HS.out.1, by rw [blk_set hb]; rfl⟩, hF.trans (Fr.setCell _ (Nat.le_refl _) ⟨_, _, _, hb, by simp⟩)⟩
    · have hE2 := hE.out
      rw [if_neg (by rw [← hn]; omega)] at hE2
      have HE := Lib.hid hE2
      clear hE hE2 hn
      go_wp2_with fail
      go_ret
      rw [HE.out]
      exact ⟨by rw [Int.toNat_of_nonneg (by omega)]; rfl, ⟨s, HS.out.1, hb⟩, hF⟩

/-- Bytes read. -/
def stext (l : List UInt8) (bad : Bool) : List UInt8 × List UInt8 × Bool := ((samt l bad).2.1.take (samt l bad).1, (samt l bad).2.1.drop (samt l bad).1, (samt l bad).2.2)
theorem stext_len (l : List UInt8) (bad : Bool) : (stext l bad).1.length ≤ l.length ∧ (stext l bad).2.1.length ≤ l.length := by
  have := samt_len l bad
  unfold stext
  simp only [List.length_take, List.length_drop]
  omega

set_option maxRecDepth 100000 in
set_option maxHeartbeats 400000 in
theorem rtext_any (T b : Nat) (l : List UInt8) (bad : Bool) (w : World) (hS : SrcAt w T b l bad) (hbd : l.length ≤ 1048576) :
    Calls Tryd.prog 43 #[.pointer (some ⟨b, 0, none⟩)] w fun e w' => e = .returned (.string (mk (stext l bad).1)) ∧ SrcAt w' T b (stext l bad).2.1 (stext l bad).2.2 ∧ Fr [T] b w w' := by
  have hl := samt_len l bad
  have hle := samt_le l bad
  go_enter Tryd.func43, Tryd.ntmps43
  go_wp2_with fail
  refine (amount_any T b l bad w hS hbd).mono ?_
  rintro e w1 ⟨rfl, ⟨s, hs, hb⟩, hF⟩
  have hE := Lib.hid (show stext l bad = ((samt l bad).2.1.take (samt l bad).1, (samt l bad).2.1.drop (samt l bad).1, (samt l bad).2.2) from rfl)
  generalize hq : samt l bad = q at *
  clear hq
  obtain ⟨n, r, bd⟩ := q
  simp only at hs hb hE hl hle ⊢
  have hn : s.size = r.length := by rw [← hs, Array.length_toList]; rfl
  have hsz : s.size ≤ 1048576 := by omega
  have hns : n ≤ s.size := by omega
  have HS := Lib.hid hs
  clear hs hn
  have c0 : w1.cell? ⟨b, 0, none⟩ = some (.string s) := (blk_cell hb).trans rfl
  have f0 : w1.frozen? ⟨b, 0, none⟩ = false := blk_free hb
  go_wp2_with fail
  go_ret
  rw [hE.out]
  refine ⟨?_, ⟨s.extract n s.size, by rw [Lib.extract_to_end, HS.out], by rw [blk_set hb]; rfl⟩, hF.trans (Fr.setCell _ (Nat.le_refl _) ⟨_, _, _, hb, by simp⟩)⟩
  show Ending.returned (.string _) = .returned (.string (mk (r.take n)))
  rw [← HS.out, ← mk_self (s.extract 0 n), Lib.extract_data]
  simp
end Go.Proofs.YthhchicggidhcaaDoor
