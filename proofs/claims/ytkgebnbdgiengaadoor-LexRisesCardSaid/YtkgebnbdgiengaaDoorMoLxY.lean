/- The document's Skip: walked. -/
import Derived.Test.YtkgebnbdgiengaaDoorMoLxC
import Derived.Test.YtkgebnbdgiengaaDoorMoLxQ
namespace Go.Proofs.YtkgebnbdgiengaaDoor
open Go.RowKit Lx

theorem rblank_any (c : UInt8) (w : World) : Calls Tryd.prog 13 #[.int .u8 (c.toNat : Int)] w fun e w' => e = .returned (.bool (isBlank c)) ∧ w = w' := by
  have hlt := u8_lt c
  rw [isBlank_eq]
  generalize c.toNat = z at *
  by_cases h : ((z : Int) = 32 ∨ 9 ≤ (z : Int) ∧ (z : Int) ≤ 13 ∧ (z : Int) ≠ 11)
  · rw [decide_eq_true h]
    go_enter Tryd.func13, Tryd.ntmps13
    go_wp2
    all_goals
      go_ret
      exact ⟨ret_bool (by first | rfl | (simp; omega) | simp), rfl⟩
  · rw [decide_eq_false h]
    go_enter Tryd.func13, Tryd.ntmps13
    go_wp2
    all_goals
      go_ret
      exact ⟨ret_bool (by first | rfl | (simp; omega) | simp), rfl⟩
theorem rblank_is {c : UInt8} {b : Bool} (h : isBlank c = b) (w : World) : Calls Tryd.prog 13 #[.int .u8 (c.toNat : Int)] w fun e w' => e = .returned (.bool b) ∧ w = w' := h ▸ rblank_any c w

theorem two_yes (s : ByteArray) (j a b : Nat) (ha : a < 256) (hb : b < 256) (h : j + 1 < s.size) (h0 : s[j] = UInt8.ofNat a) (h1 : s[j + 1] = UInt8.ofNat b) (hs : s.size ≤ 9223372036854775800) (w : World) :
    Calls Tryd.prog 14 #[.string s, .int .i64 j, .int .u8 a, .int .u8 b] w fun e w' => e = .returned (.bool true) ∧ w = w' := by
  have z0 := u8_yes ha h0
  have z1 := u8_yes hb h1
  clear h0 h1
  go_enter Tryd.func14, Tryd.ntmps14
  go_wp2
  go_ret
  exact ⟨rfl, rfl⟩
theorem two_no (s : ByteArray) (j a b : Nat) (ha : a < 256) (hb : b < 256) (hj : j ≤ s.size) (h : ¬ ∃ h : j + 1 < s.size, s[j] = UInt8.ofNat a ∧ s[j + 1] = UInt8.ofNat b) (hs : s.size ≤ 9223372036854775800) (w : World) :
    Calls Tryd.prog 14 #[.string s, .int .i64 j, .int .u8 a, .int .u8 b] w fun e w' => e = .returned (.bool false) ∧ w = w' := by
  by_cases hl : j + 1 < s.size
  · by_cases h0 : s[j] = UInt8.ofNat a
    · have h1 : s[j + 1] ≠ UInt8.ofNat b := fun h1 => h ⟨hl, h0, h1⟩
      have z0 := u8_yes ha h0
      have z1 := u8_ne hb h1
      clear h0 h1 h
      go_enter Tryd.func14, Tryd.ntmps14
      go_wp2
      go_ret
      exact ⟨rfl, rfl⟩
    · have z0 := u8_ne ha h0
      clear h0 h
      go_enter Tryd.func14, Tryd.ntmps14
      go_wp2
      go_ret
      exact ⟨rfl, rfl⟩
  · clear h
    go_enter Tryd.func14, Tryd.ntmps14
    go_wp2
    go_ret
    exact ⟨rfl, rfl⟩

def skI : Except Nat Nat → Int
  | .ok j => j
  | .error p => -1 - p

set_option maxRecDepth 100000 in
set_option maxHeartbeats 3200000 in
theorem rskip_any (s : ByteArray) (k : Nat) (hk : k ≤ s.size) (hs : s.size ≤ 9223372036854775800) (w : World) :
    Calls Tryd.prog 7 #[.string s, .int .i64 k] w fun e w' => e = .returned (.int .i64 (skI (skp .base k (s.data.toList.drop k)))) ∧ w = w' := by
  obtain ⟨R, hR⟩ : ∃ R, skp .base k (s.data.toList.drop k) = R := ⟨_, rfl⟩
  rw [hR]
  have HR := Lib.hid hR
  clear hR
  obtain ⟨V, hV⟩ : ∃ V, skI R = V := ⟨_, rfl⟩
  rw [hV]
  have HV := Lib.hid hV
  clear hV
  go_enter Tryd.func7, Tryd.ntmps7
  go_wp2_with fail
  go_loop [1] (fun t => ∃ j : Nat, j ≤ s.size ∧ Hid (skp .base j (s.data.toList.drop j) = R) ∧ t = .int .i64 j) (fun t => s.size - (intOf t).toNat)
  case atStart => exact ⟨k, hk, HR, rfl⟩
  case round =>
    obtain ⟨j, hj, H, rfl⟩ := hrel
    by_cases hlt : j < s.size
    · cases hb : isBlank s[j]
      · have HB := Lib.hid hb
        by_cases h59 : s[j] = 59
        · have hz : ((s[j].toNat : Int) == 59) = true := by rw [h59]; rfl
          have H2 : Hid (skp .line j (s.data.toList.drop j) = R) := Lib.hid (by
            have := H.out
            rw [drop_at s hlt, h59] at this ⊢
            have e : skp .line j (59 :: s.data.toList.drop (j + 1)) = skp .line (j + 1) (s.data.toList.drop (j + 1)) := by rw [skp, if_neg (by decide)]
            rw [e, ← this]
            cases s.data.toList.drop (j + 1) with
            | nil => rfl
            | cons x l => rfl)
          have HJ := Lib.hid h59
          clear hb h59
          go_wp2_with fail
          (with_reducible refine (rblank_is (c := s[j]) HB.out w).mono ?_)
          rintro e w' ⟨rfl, rfl⟩
          go_wp2_with fail
          go_loop [1] (fun t => ∃ i : Nat, j ≤ i ∧ i ≤ s.size ∧ Hid (skp .line i (s.data.toList.drop i) = R) ∧ t = .int .i64 i) (fun t => s.size - (intOf t).toNat)
          case atStart => exact ⟨j, Nat.le_refl _, hj, H2, rfl⟩
          case round =>
            obtain ⟨i, hji, hi, H3, rfl⟩ := hrel
            clear hz
            by_cases hlt2 : i < s.size
            · by_cases h10 : s[i] = 10
              · have f2 : ((s[i].toNat : Int) != 10) = false := by rw [h10]; rfl
                have hne : i ≠ j := fun h => by
                  subst h
                  have := HJ.out
                  rw [h10] at this
                  exact absurd this (by decide)
                have H4 : Hid (skp .base i (s.data.toList.drop i) = R) := Lib.hid (by
                  have := H3.out
                  rw [drop_at s hlt2, h10] at this ⊢
                  have e : skp .line i (10 :: s.data.toList.drop (i + 1)) = skp .base (i + 1) (s.data.toList.drop (i + 1)) := by rw [skp, if_pos rfl]
                  rw [← this, e]
                  cases s.data.toList.drop (i + 1) with
                  | nil => rfl
                  | cons x l => rfl)
                clear h10
                go_wp2_with fail
                go_round
                case rel => exact ⟨i, by omega, H4, rfl⟩
                case measure => simp [intOf]; omega
              · have f2 : ((s[i].toNat : Int) != 10) = true := by
                  rw [bne_iff_ne]; exact fun h => h10 ((u8_toNat (n := 10) (by decide)).2 h)
                have H4 : Hid (skp .line (i + 1) (s.data.toList.drop (i + 1)) = R) := Lib.hid (by
                  have := H3.out
                  rw [drop_at s hlt2, skp, if_neg h10] at this
                  exact this)
                clear h10
                go_wp2_with fail
                go_round
                case rel => exact ⟨i + 1, by omega, by omega, H4, by go_num⟩
                case measure => simp [intOf]; omega
            · have H4 : Hid (skp .base i (s.data.toList.drop i) = R) := Lib.hid (by
                have := H3.out
                rw [drop_end s (by omega)] at this ⊢
                exact this)
              have hne : i ≠ j := fun h => by omega
              go_wp2_with fail
              go_round
              case rel => exact ⟨i, by omega, H4, rfl⟩
              case measure => simp [intOf]; omega
        · have hz : ((s[j].toNat : Int) == 59) = false := u8_ne (n := 59) (by decide) h59
          by_cases hp : ∃ h : j + 1 < s.size, s[j] = 35 ∧ s[j + 1] = 124
          · have HP := Lib.hid hp
            obtain ⟨hl2, ha, hc⟩ := hp
            have H2 : Hid (skp (.deep 1 j) (j + 2) (s.data.toList.drop (j + 2)) = R) := Lib.hid (by
              have := H.out
              rw [drop_at s hlt, drop_at s hl2, skp, if_neg (by simp [hb]), if_neg h59, if_pos ⟨ha, hc⟩] at this
              exact this)
            clear hb h59 ha hc
            go_wp2_with fail
            (with_reducible refine (rblank_is (c := s[j]) HB.out w).mono ?_)
            rintro e w' ⟨rfl, rfl⟩
            go_wp2_with fail
            refine (two_yes s j 35 124 (by decide) (by decide) hl2 (by obtain ⟨_, h, _⟩ := HP.out; exact h) (by obtain ⟨_, _, h⟩ := HP.out; exact h) hs w).mono ?_
            rintro e w' ⟨rfl, rfl⟩
            go_wp2_with fail
            go_loop [1, 6] (fun t d => ∃ i n : Nat, j + 2 ≤ i ∧ i ≤ s.size ∧ n ≤ i ∧ Hid (n ≠ 0 → skp (.deep n j) i (s.data.toList.drop i) = R) ∧ Hid (n = 0 → skp .base i (s.data.toList.drop i) = R) ∧ t = .int .i64 i ∧ d = .int .i64 n) (fun t _ => s.size - (intOf t).toNat)
            case atStart => exact ⟨j + 2, 1, by omega, by omega, by omega, Lib.hid (fun _ => H2.out), Lib.hid (fun h => by omega), by go_num, by go_num⟩
            case round =>
              obtain ⟨i, n, hji, hi, hni, H3, H4, rfl, rfl⟩ := hrel
              clear hz
              by_cases hn0 : n = 0
              · subst hn0
                go_wp2_with fail
                go_round
                case rel => exact ⟨i, by omega, Lib.hid (H4.out rfl), rfl⟩
                case measure => simp [intOf]; omega
              · have H5 := H3.out hn0
                have hn1 : 0 < (n : Int) := by omega
                by_cases hl3 : i + 1 < s.size
                · have hge : ¬ ((s.size : Int) ≤ (i : Int) + 1) := by omega
                  by_cases hA : s[i] = 35 ∧ s[i + 1] = 124
                  · have HA := Lib.hid hA
                    have H6 : Hid (skp (.deep (n + 1) j) (i + 2) (s.data.toList.drop (i + 2)) = R) := Lib.hid (by
                      rw [drop_at s (by omega : i < s.size), drop_at s hl3, skp, if_pos hA] at H5
                      exact H5)
                    clear H5 hA
                    go_wp2_with fail
                    refine (two_yes s i 35 124 (by decide) (by decide) hl3 HA.out.1 HA.out.2 hs w).mono ?_
                    rintro e w' ⟨rfl, rfl⟩
                    go_wp2_with fail
                    go_round
                    case rel => exact ⟨i + 2, n + 1, by omega, by omega, by omega, Lib.hid (fun _ => H6.out), Lib.hid (fun h => by omega), by go_num, by go_num⟩
                    case measure => simp [intOf]; omega
                  · have HA := Lib.hid hA
                    by_cases hBb : s[i] = 124 ∧ s[i + 1] = 35
                    · have HB2 := Lib.hid hBb
                      have H6 : Hid ((n - 1 ≠ 0 → skp (.deep (n - 1) j) (i + 2) (s.data.toList.drop (i + 2)) = R) ∧ (n - 1 = 0 → skp .base (i + 2) (s.data.toList.drop (i + 2)) = R)) := Lib.hid (by
                        rw [drop_at s (by omega : i < s.size), drop_at s hl3, skp, if_neg hA, if_pos hBb] at H5
                        by_cases h1 : n = 1
                        · rw [if_pos h1] at H5; exact ⟨fun h => by omega, fun _ => H5⟩
                        · rw [if_neg h1] at H5; exact ⟨fun _ => H5, fun h => by omega⟩)
                      have HE : Hid (((n - 1 : Nat) : Int) = (n : Int) - 1) := Lib.hid (by omega)
                      clear H5 hA hBb
                      go_wp2_with fail
                      refine (two_no s i 35 124 (by decide) (by decide) hi (by rintro ⟨_, h⟩; exact HA.out h) hs w).mono ?_
                      rintro e w' ⟨rfl, rfl⟩
                      go_wp2_with fail
                      refine (two_yes s i 124 35 (by decide) (by decide) hl3 HB2.out.1 HB2.out.2 hs w).mono ?_
                      rintro e w' ⟨rfl, rfl⟩
                      go_wp2_with fail
                      go_round
                      case rel => exact ⟨i + 2, n - 1, by omega, by omega, by omega, Lib.hid H6.out.1, Lib.hid H6.out.2, by go_num, by rw [HE.out]⟩
                      case measure => simp [intOf]; omega
                    · have HB2 := Lib.hid hBb
                      have H6 : Hid (skp (.deep n j) (i + 1) (s.data.toList.drop (i + 1)) = R) := Lib.hid (by
                        rw [drop_at s (by omega : i < s.size), drop_at s hl3, skp, if_neg hA, if_neg hBb, ← drop_at s hl3] at H5
                        exact H5)
                      clear H5 hA hBb
                      go_wp2_with fail
                      refine (two_no s i 35 124 (by decide) (by decide) hi (by rintro ⟨_, h⟩; exact HA.out h) hs w).mono ?_
                      rintro e w' ⟨rfl, rfl⟩
                      go_wp2_with fail
                      refine (two_no s i 124 35 (by decide) (by decide) hi (by rintro ⟨_, h⟩; exact HB2.out h) hs w).mono ?_
                      rintro e w' ⟨rfl, rfl⟩
                      go_wp2_with fail
                      go_round
                      case rel => exact ⟨i + 1, n, by omega, by omega, by omega, Lib.hid (fun _ => H6.out), Lib.hid (fun h => by omega), by go_num, rfl⟩
                      case measure => simp [intOf]; omega
                · have hge : (s.size : Int) ≤ (i : Int) + 1 := by omega
                  have H6 : Hid (V = -1 - (j : Int)) := Lib.hid (by
                    rw [← HV.out, ← H5]
                    by_cases hl : i < s.size
                    · rw [drop_at s hl, drop_end s (by omega)]; rfl
                    · rw [drop_end s (by omega)]; rfl)
                  clear H5
                  go_wp2_with fail
                  go_ret
                  exact ⟨ret_int' (by rw [H6.out]), rfl⟩
          · have HP := Lib.hid hp
            have H2 : Hid (V = (j : Int)) := Lib.hid (by
              have := H.out
              rw [drop_at s hlt] at this
              rw [← HV.out, ← this]
              by_cases hl : j + 1 < s.size
              · rw [drop_at s hl, skp, if_neg (by simp [hb]), if_neg h59, if_neg (fun h => hp ⟨hl, h⟩)]; rfl
              · rw [drop_end s (by omega), skp, if_neg (by simp [hb]), if_neg h59]; rfl)
            clear hb h59 hp
            go_wp2_with fail
            (with_reducible refine (rblank_is (c := s[j]) HB.out w).mono ?_)
            rintro e w' ⟨rfl, rfl⟩
            go_wp2_with fail
            refine (two_no s j 35 124 (by decide) (by decide) hj HP.out hs w).mono ?_
            rintro e w' ⟨rfl, rfl⟩
            go_wp2_with fail
            go_ret
            exact ⟨ret_int' (by rw [H2.out]), rfl⟩
      · have HB := Lib.hid hb
        have H2 : Hid (skp .base (j + 1) (s.data.toList.drop (j + 1)) = R) := Lib.hid (by
          have := H.out
          rw [drop_at s hlt] at this
          cases hl : s.data.toList.drop (j + 1) with
          | nil => rw [hl, skp, if_pos hb] at this; exact this
          | cons x l => rw [hl, skp, if_pos hb] at this; exact this)
        clear hb
        go_wp2_with fail
        (with_reducible refine (rblank_is (c := s[j]) HB.out w).mono ?_)
        rintro e w' ⟨rfl, rfl⟩
        go_wp2_with fail
        go_round
        case rel => exact ⟨j + 1, by omega, H2, by go_num⟩
        case measure => simp [intOf]; omega
    · have H2 : Hid (V = (j : Int)) := Lib.hid (by
        have := H.out
        rw [drop_end s (by omega)] at this
        rw [← HV.out, ← this]; rfl)
      go_wp2_with fail
      go_ret
      exact ⟨ret_int' (by rw [H2.out]), rfl⟩
end Go.Proofs.YtkgebnbdgiengaaDoor
