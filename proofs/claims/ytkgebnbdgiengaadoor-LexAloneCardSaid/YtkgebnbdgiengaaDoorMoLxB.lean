/- The lexer's comment and skip, walked. -/
import Derived.Test.YtkgebnbdgiengaaDoorMoLxA
namespace Go.Proofs.YtkgebnbdgiengaaDoor
open Go.RowKit Lx

def CmtRes (s : ByteArray) (k : Nat) (R : Except Nat Nat) (w : World) (e : Ending) (w' : World) : Prop :=
  (∃ j : Nat, k + 2 ≤ j ∧ j ≤ s.size ∧ skp .base j (s.data.toList.drop j) = R ∧ e = .returned (.tuple #[.int .i64 j, .nilIface]) ∧ w = w') ∨
  (R = .error k ∧ ∃ v, e = .returned (.tuple #[.int .i64 0, v]) ∧ Wrong w' v k 11 ∧ Below w.heap.size w w')

theorem ret_tup {k : IntKind} {a b : Int} (v : Value) (h : a = b) : Ending.returned (.tuple #[.int k a, v]) = .returned (.tuple #[.int k b, v]) := by rw [h]
theorem ext2 (s : ByteArray) {j : Nat} (h : j + 1 < s.size) : (s.extract j (j + 2)).toList = [s[j], s[j + 1]] := by
  rw [Lib.toList_data, Lib.extract_data]
  have : (s.data.toList.drop j).take 2 = [s[j], s[j + 1]] := by rw [drop_at s (by omega), drop_at s h]; rfl
  simpa using this

set_option maxHeartbeats 1600000 in
theorem comment_any (s : ByteArray) (k : Nat) (hk : k + 1 < s.size) (hs : s.size ≤ 9223372036854775800) (h0 : s[k] = 35) (h1 : s[k + 1] = 124) (w : World) :
    Calls Tryd.prog 26 #[.string s, .int .i64 k] w (CmtRes s k (skp (.deep 1 k) (k + 2) (s.data.toList.drop (k + 2))) w) := by
  obtain ⟨R, hR⟩ : ∃ R, skp (.deep 1 k) (k + 2) (s.data.toList.drop (k + 2)) = R := ⟨_, rfl⟩
  have hR0 : skp (.deep 0 k) k (s.data.toList.drop k) = R := by
    rw [drop_at s (by omega), drop_at s hk, h0, h1, ← hR]; rfl
  rw [hR]
  have HR := Lib.hid hR0
  have H01 := Lib.hid (And.intro h0 h1)
  clear hR hR0 h0 h1
  go_enter Tryd.func26, Tryd.ntmps26
  go_wp2_with fail
  go_loop [6, 7] (fun d t => ∃ n j : Nat, k ≤ j ∧ j ≤ s.size ∧ n ≤ j ∧ (n = 0 → j = k) ∧ (n ≠ 0 → k + 2 ≤ j) ∧ Hid (skp (.deep n k) j (s.data.toList.drop j) = R) ∧ d = .int .i64 n ∧ t = .int .i64 j) (fun _ t => s.size - (intOf t).toNat)
  case atStart => exact ⟨0, k, Nat.le_refl _, by omega, by omega, fun _ => rfl, fun h => absurd rfl h, HR, rfl, rfl⟩
  case round =>
    obtain ⟨n, j, hkj, hj, hnj, hn0, hn1, H, rfl, rfl⟩ := hrel
    have HN := Lib.hid hn0
    have HN1 := Lib.hid hn1
    clear hn0 hn1
    by_cases hlt : j + 1 < s.size
    · have hx := ext2 s hlt
      have e1 := drop_at s (k := j) (by omega)
      have e2 := drop_at s hlt
      by_cases hA : s[j] = 35 ∧ s[j + 1] = 124
      · have f1 : ((s.extract j (j + 2)).toList == [35, 124]) = true := by rw [hx, hA.1, hA.2]; rfl
        have H2 : Hid (skp (.deep (n + 1) k) (j + 2) (s.data.toList.drop (j + 2)) = R) := Lib.hid (by
          have := H.out
          rw [e1, e2, skp, if_pos hA] at this
          exact this)
        clear hx e1 e2 hA
        go_wp2_with fail
        go_round
        case rel => exact ⟨n + 1, j + 2, by omega, by omega, by omega, by omega, by omega, H2, by go_num, by go_num⟩
        case measure => simp [intOf]; omega
      · have f1 : ((s.extract j (j + 2)).toList == [35, 124]) = false := by
          rw [hx]; simp; exact fun h h' => hA ⟨h, h'⟩
        by_cases hB : s[j] = 124 ∧ s[j + 1] = 35
        · have f2 : ((s.extract j (j + 2)).toList == [124, 35]) = true := by rw [hx, hB.1, hB.2]; rfl
          have hn : n ≠ 0 := fun h => by
            have := HN.out h
            subst this
            have := H01.out.1
            rw [hB.1] at this
            exact absurd this (by decide)
          by_cases hn2 : n = 1
          · have H2 : Hid (skp .base (j + 2) (s.data.toList.drop (j + 2)) = R) := Lib.hid (by
              have := H.out
              rw [e1, e2, skp, if_neg hA, if_pos hB, if_pos hn2] at this
              exact this)
            have f3 : ((n : Int) - 1 == 0) = true := by rw [beq_iff_eq]; omega
            have hk2 := HN1.out hn
            clear hx e1 e2 hA hB hn hn2
            go_wp2_with fail
            go_ret2
            exact .inl ⟨j + 2, by omega, by omega, H2.out, ret_tup _ (by omega), rfl⟩
          · have H2 : Hid (skp (.deep (n - 1) k) (j + 2) (s.data.toList.drop (j + 2)) = R) := Lib.hid (by
              have := H.out
              rw [e1, e2, skp, if_neg hA, if_pos hB, if_neg hn2] at this
              exact this)
            have f3 : ((n : Int) - 1 == 0) = false := by rw [beq_eq_false_iff_ne]; omega
            have hk2 := HN1.out hn
            have HE : Hid (((n - 1 : Nat) : Int) = (n : Int) - 1) := Lib.hid (by omega)
            have HZ := Lib.hid hn2
            clear hx e1 e2 hA hB hn2
            go_wp2_with fail
            go_round
            case rel => exact ⟨n - 1, j + 2, by omega, by omega, by omega, fun h => absurd h (by have := HZ.out; omega), by omega, H2, by rw [HE.out], by go_num⟩
            case measure => simp [intOf]; omega
        · have f2 : ((s.extract j (j + 2)).toList == [124, 35]) = false := by
            rw [hx]; simp; exact fun h h' => hB ⟨h, h'⟩
          have H2 : Hid (skp (.deep n k) (j + 1) (s.data.toList.drop (j + 1)) = R) := Lib.hid (by
            have := H.out
            rw [e1, e2, skp, if_neg hA, if_neg hB, ← e2] at this
            exact this)
          have hn : n ≠ 0 := fun h => by
            have := HN.out h
            subst this
            exact hA H01.out
          have hk2 := HN1.out hn
          clear hx e1 e2 hA hB
          go_wp2_with fail
          go_round
          case rel => exact ⟨n, j + 1, by omega, by omega, by omega, fun h => absurd h hn, by omega, H2, rfl, by go_num⟩
          case measure => simp [intOf]; omega
    · have H2 : Hid (R = .error k) := Lib.hid (by
        have := H.out
        by_cases hl : j < s.size
        · rw [drop_at s hl, drop_end s (by omega)] at this
          rw [← this]; rfl
        · rw [drop_end s (by omega)] at this
          rw [← this]; rfl)
      go_wp2_with fail
      refine (wrong_any _ _ _ _).mono ?_
      rintro e w' ⟨v, rfl, hv, hb⟩
      go_wp2_with fail
      go_ret2
      exact .inr ⟨H2.out, v, rfl, hv, hb⟩

def SkRes (s : ByteArray) (R : Except Nat Nat) (w : World) (e : Ending) (w' : World) : Prop :=
  (∃ j : Nat, R = .ok j ∧ j ≤ s.size ∧ e = .returned (.tuple #[.int .i64 j, .nilIface]) ∧ w = w') ∨
  (∃ k : Nat, ∃ v, R = .error k ∧ e = .returned (.tuple #[.int .i64 0, v]) ∧ Wrong w' v k 11 ∧ Below w.heap.size w w')

theorem ext_pre (s : ByteArray) (j : Nat) (a b : UInt8) : [a, b].isPrefixOf (s.extract j s.size).data.toList = true ↔ ∃ h : j + 1 < s.size, s[j] = a ∧ s[j + 1] = b := by
  rw [Lib.extract_to_end]
  by_cases h1 : j < s.size
  · rw [drop_at s h1]
    by_cases h2 : j + 1 < s.size
    · rw [drop_at s h2]
      simp [List.isPrefixOf, h2]
      exact ⟨fun h => ⟨h.1.symm, h.2.symm⟩, fun h => ⟨h.1.symm, h.2.symm⟩⟩
    · rw [drop_end s (by omega)]
      simp [List.isPrefixOf, h2]
  · rw [drop_end s (by omega)]
    simp [List.isPrefixOf]
    omega

theorem pre_is {s p : ByteArray} {b : Bool} (h : p.data.toList.isPrefixOf s.data.toList = b) (w : World) :
    Calls Tryd.prog 25 #[.string s, .string p] w fun e w' => e = .returned (.bool b) ∧ w = w' :=
  (Tryd.strings_HasPrefix s p w).mono fun _ _ ⟨h1, h2⟩ => ⟨h1.trans (ret_bool h), h2.symm⟩
set_option maxHeartbeats 1600000 in
theorem skip_any (s : ByteArray) (k : Nat) (hk : k ≤ s.size) (hs : s.size ≤ 9223372036854775800) (w : World) :
    Calls Tryd.prog 18 #[.string s, .int .i64 k] w (SkRes s (skp .base k (s.data.toList.drop k)) w) := by
  obtain ⟨R, hR⟩ : ∃ R, skp .base k (s.data.toList.drop k) = R := ⟨_, rfl⟩
  rw [hR]
  have HR := Lib.hid hR
  clear hR
  go_enter Tryd.func18, Tryd.ntmps18
  go_wp2_with fail
  go_loop [1] (fun t => ∃ j : Nat, j ≤ s.size ∧ Hid (skp .base j (s.data.toList.drop j) = R) ∧ t = .int .i64 j) (fun t => s.size - (intOf t).toNat)
  case atStart => exact ⟨k, hk, HR, rfl⟩
  case round =>
    obtain ⟨j, hj, H, rfl⟩ := hrel
    by_cases hlt : j < s.size
    · cases hb : isBlank s[j]
      · have HB := Lib.hid hb
        by_cases h59 : s[j] = 59
        · have f1 : ((s[j].toNat : Int) == 59) = true := by rw [h59]; rfl
          have H2 : Hid (skp .line j (s.data.toList.drop j) = R) := Lib.hid (by
            have := H.out
            rw [drop_at s hlt, h59] at this ⊢
            have e : skp .line j (59 :: s.data.toList.drop (j + 1)) = skp .line (j + 1) (s.data.toList.drop (j + 1)) := by rw [skp, if_neg (by decide)]
            rw [e, ← this]
            cases s.data.toList.drop (j + 1) with
            | nil => rfl
            | cons x l => rfl)
          have HJ := Lib.hid h59
          clear hb h59
          go_wp2_with fail
          refine (blank_is HB.out w).mono ?_
          rintro e w' ⟨rfl, rfl⟩
          go_wp2_with fail
          go_loop [1] (fun t => ∃ i : Nat, j ≤ i ∧ i ≤ s.size ∧ Hid (skp .line i (s.data.toList.drop i) = R) ∧ t = .int .i64 i) (fun t => s.size - (intOf t).toNat)
          case atStart => exact ⟨j, Nat.le_refl _, hj, H2, rfl⟩
          case round =>
            obtain ⟨i, hji, hi, H3, rfl⟩ := hrel
            by_cases hlt2 : i < s.size
            · by_cases h10 : s[i] = 10
              · have f2 : ((s[i].toNat : Int) != 10) = false := by rw [h10]; rfl
                have hne : i ≠ j := fun h => by
                  subst h
                  have := HJ.out
                  rw [h10] at this
                  exact absurd this (by decide)
                have H4 : Hid (skp .base i (s.data.toList.drop i) = R) := Lib.hid (by
                  have := H3.out
                  rw [drop_at s hlt2, h10] at this ⊢
                  have e : skp .line i (10 :: s.data.toList.drop (i + 1)) = skp .base (i + 1) (s.data.toList.drop (i + 1)) := by rw [skp, if_pos rfl]
                  rw [← this, e]
                  cases s.data.toList.drop (i + 1) with
                  | nil => rfl
                  | cons x l => rfl)
                clear h10
                go_wp2_with fail
                go_round
                case rel => exact ⟨i, by omega, H4, rfl⟩
                case measure => simp [intOf]; omega
              · have f2 : ((s[i].toNat : Int) != 10) = true := by
                  rw [bne_iff_ne]; exact fun h => h10 ((u8_toNat (n := 10) (by decide)).2 h)
                have H4 : Hid (skp .line (i + 1) (s.data.toList.drop (i + 1)) = R) := Lib.hid (by
                  have := H3.out
                  rw [drop_at s hlt2, skp, if_neg h10] at this
                  exact this)
                clear h10
                go_wp2_with fail
                go_round
                case rel => exact ⟨i + 1, by omega, by omega, H4, by go_num⟩
                case measure => simp [intOf]; omega
            · have H4 : Hid (skp .base i (s.data.toList.drop i) = R) := Lib.hid (by
                have := H3.out
                rw [drop_end s (by omega)] at this ⊢
                exact this)
              have hne : i ≠ j := fun h => by omega
              go_wp2_with fail
              go_round
              case rel => exact ⟨i, by omega, H4, rfl⟩
              case measure => simp [intOf]; omega
        · have f1 : ((s[j].toNat : Int) == 59) = false := by
            rw [beq_eq_false_iff_ne]; exact fun h => h59 ((u8_toNat (n := 59) (by decide)).2 h)
          by_cases hp : ∃ h : j + 1 < s.size, s[j] = 35 ∧ s[j + 1] = 124
          · obtain ⟨hl2, ha, hc⟩ := hp
            have H2 : Hid (skp (.deep 1 j) (j + 2) (s.data.toList.drop (j + 2)) = R) := Lib.hid (by
              have := H.out
              rw [drop_at s hlt, drop_at s hl2, skp, if_neg (by simp [hb]), if_neg h59, if_pos ⟨ha, hc⟩] at this
              exact this)
            have HP := Lib.hid ((ext_pre s j 35 124).2 ⟨hl2, ha, hc⟩)
            have HA := Lib.hid (And.intro ha hc)
            clear hb h59 ha hc
            go_wp2_with fail
            refine (blank_is HB.out w).mono ?_
            rintro e w' ⟨rfl, rfl⟩
            go_wp2_with fail
            refine (pre_is (p := ⟨#[35, 124]⟩) HP.out w).mono ?_
            rintro e w' ⟨rfl, rfl⟩
            go_wp2_with fail
            refine (comment_any s j hl2 hs HA.out.1 HA.out.2 w).mono ?_
            rintro e w' (⟨i, hi1, hi2, hi3, rfl, rfl⟩ | ⟨hR, v, rfl, hv, hb2⟩)
            · have H3 : Hid (skp .base i (s.data.toList.drop i) = R) := Lib.hid (hi3.trans H2.out)
              clear hi3
              go_wp2_with fail
              go_round
              case rel => exact ⟨i, by omega, H3, rfl⟩
              case measure => simp [intOf]; omega
            · have H3 : Hid (R = .error j) := Lib.hid (H2.out.symm.trans hR)
              clear hR
              obtain ⟨b, c, what, rfl, hv1, hv2⟩ := hv
              go_wp2_with fail
              go_ret2
              exact .inr ⟨j, _, H3.out, rfl, ⟨b, c, what, rfl, hv1, hv2⟩, hb2⟩
          · have H2 : Hid (.ok j = R) := Lib.hid (by
              have := H.out
              rw [drop_at s hlt] at this
              by_cases hl : j + 1 < s.size
              · rw [drop_at s hl, skp, if_neg (by simp [hb]), if_neg h59, if_neg (fun h => hp ⟨hl, h⟩)] at this
                exact this
              · rw [drop_end s (by omega), skp, if_neg (by simp [hb]), if_neg h59] at this
                exact this)
            have hpf : [35, 124].isPrefixOf (s.extract j s.size).data.toList = false := by
              rw [← Bool.not_eq_true, ext_pre]; exact hp
            have HP := Lib.hid hpf
            clear hb h59 hp hpf
            go_wp2_with fail
            refine (blank_is HB.out w).mono ?_
            rintro e w' ⟨rfl, rfl⟩
            go_wp2_with fail
            refine (pre_is (p := ⟨#[35, 124]⟩) HP.out w).mono ?_
            rintro e w' ⟨rfl, rfl⟩
            go_wp2_with fail
            go_ret2
            exact .inl ⟨j, H2.out.symm, hj, rfl, rfl⟩
      · have HB := Lib.hid hb
        have H2 : Hid (skp .base (j + 1) (s.data.toList.drop (j + 1)) = R) := Lib.hid (by
          have := H.out
          rw [drop_at s hlt] at this
          cases hl : s.data.toList.drop (j + 1) with
          | nil => rw [hl, skp, if_pos hb] at this; exact this
          | cons x l => rw [hl, skp, if_pos hb] at this; exact this)
        clear hb
        go_wp2_with fail
        refine (blank_is HB.out w).mono ?_
        rintro e w' ⟨rfl, rfl⟩
        go_wp2_with fail
        go_round
        case rel => exact ⟨j + 1, by omega, H2, by go_num⟩
        case measure => simp [intOf]; omega
    · have H2 : Hid (R = .ok j) := Lib.hid (by
        have := H.out
        rw [drop_end s (by omega)] at this
        exact this.symm)
      go_wp2_with fail
      go_ret2
      exact .inl ⟨j, H2.out, hj, rfl, rfl⟩
end Go.Proofs.YtkgebnbdgiengaaDoor
