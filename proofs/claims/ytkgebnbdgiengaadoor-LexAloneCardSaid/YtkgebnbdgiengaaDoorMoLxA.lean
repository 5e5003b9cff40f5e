/- The lexer's small functions, walked: blank, delimiter, run, wrong. -/
import Derived.Test.YtkgebnbdgiengaaDoorProg
import Derived.Test.YtkgebnbdgiengaaDoorMoBase
import Derived.Test.YtkgebnbdgiengaaDoorMoLxP
import Derived.Test.YtkgebnbdgiengaaDoorShelf
namespace Go.Proofs.YtkgebnbdgiengaaDoor
open Go.RowKit Lx

theorem u8_eq (c : UInt8) (n : Nat) (hn : n < 256) : ((c == UInt8.ofNat n) : Bool) = decide ((c.toNat : Int) = n) := by
  rw [Bool.eq_iff_iff, beq_iff_eq, decide_eq_true_iff]
  constructor
  · rintro rfl; simp; omega
  · intro h
    apply UInt8.toNat_inj.1
    simp; omega
theorem u8_lt (c : UInt8) : c.toNat < 256 := UInt8.toNat_lt c
theorem u8_toNat {c : UInt8} {n : Nat} (hn : n < 256) : c = UInt8.ofNat n ↔ (c.toNat : Int) = n := by
  rw [← beq_iff_eq, u8_eq c n hn, decide_eq_true_iff]

theorem ret_bool {a b : Bool} (h : a = b) : Ending.returned (.bool a) = .returned (.bool b) := by rw [h]
theorem ret_int' {k : IntKind} {a b : Int} (h : a = b) : Ending.returned (.int k a) = .returned (.int k b) := by rw [h]

theorem isBlank_eq (c : UInt8) : isBlank c = decide ((c.toNat : Int) = 32 ∨ 9 ≤ (c.toNat : Int) ∧ (c.toNat : Int) ≤ 13 ∧ (c.toNat : Int) ≠ 11) := by
  unfold isBlank
  rw [show (32 : UInt8) = UInt8.ofNat 32 from rfl, show (9 : UInt8) = UInt8.ofNat 9 from rfl, show (10 : UInt8) = UInt8.ofNat 10 from rfl, show (12 : UInt8) = UInt8.ofNat 12 from rfl, show (13 : UInt8) = UInt8.ofNat 13 from rfl]
  rw [u8_eq, u8_eq, u8_eq, u8_eq, u8_eq] <;> try decide
  rw [Bool.eq_iff_iff]
  simp only [Bool.or_eq_true, decide_eq_true_iff]
  omega

theorem blank_any (c : UInt8) (w : World) : Calls Tryd.prog 24 #[.int .u8 (c.toNat : Int)] w fun e w' => e = .returned (.bool (isBlank c)) ∧ w = w' := by
  have hlt := u8_lt c
  rw [isBlank_eq]
  generalize c.toNat = z at *
  by_cases h : ((z : Int) = 32 ∨ 9 ≤ (z : Int) ∧ (z : Int) ≤ 13 ∧ (z : Int) ≠ 11)
  · rw [decide_eq_true h]
    go_enter Tryd.func24, Tryd.ntmps24
    go_wp2
    all_goals
      go_ret
      exact ⟨ret_bool (by first | rfl | (simp; omega) | simp), rfl⟩
  · rw [decide_eq_false h]
    go_enter Tryd.func24, Tryd.ntmps24
    go_wp2
    all_goals
      go_ret
      exact ⟨ret_bool (by first | rfl | (simp; omega) | simp), rfl⟩
theorem blank_is {c : UInt8} {b : Bool} (h : isBlank c = b) (w : World) : Calls Tryd.prog 24 #[.int .u8 (c.toNat : Int)] w fun e w' => e = .returned (.bool b) ∧ w = w' := h ▸ blank_any c w

theorem index_delim (c : UInt8) : isDelim c = (isBlank c || decide (0 ≤ Lib.indexByte [40, 41, 91, 93, 34, 59, 39, 96, 44] c)) := by
  unfold isDelim
  simp only [Bool.or_assoc]
  congr 1
  rw [Bool.eq_iff_iff]
  simp only [Bool.or_eq_true, beq_iff_eq, decide_eq_true_iff]
  constructor
  · intro h
    rcases h with rfl | rfl | rfl | rfl | rfl | rfl | rfl | rfl | rfl <;> decide
  · intro h
    have h2 := @Lib.indexByte_some [40, 41, 91, 93, 34, 59, 39, 96, 44] c (Lib.indexByte [40, 41, 91, 93, 34, 59, 39, 96, 44] c).toNat (by omega)
    have h3 := List.mem_of_getElem? h2.1
    simpa using h3

set_option maxHeartbeats 400000 in
theorem delim_any (c : UInt8) (w : World) : Calls Tryd.prog 53 #[.int .u8 (c.toNat : Int)] w fun e w' => e = .returned (.bool (isDelim c)) ∧ w = w' := by
  rw [index_delim]
  cases hb : isBlank c
  · have HB := Lib.hid hb
    clear hb
    go_enter Tryd.func53, Tryd.ntmps53
    go_wp2_with fail
    refine (blank_is HB.out w).mono ?_
    rintro e w' ⟨rfl, rfl⟩
    go_wp2_with fail
    refine (Tryd.strings_IndexByte ⟨#[40, 41, 91, 93, 34, 59, 39, 96, 44]⟩ (c.toNat : Int) w).mono ?_
    rintro e w' ⟨rfl, rfl⟩
    have hu : (c.toNat : Int).toNat.toUInt8 = c := by simp
    rw [hu]
    clear hu
    go_wp2_with fail
    go_ret
    exact ⟨ret_bool (by simp), rfl⟩
  · have HB := Lib.hid hb
    clear hb
    go_enter Tryd.func53, Tryd.ntmps53
    go_wp2_with fail
    refine (blank_is HB.out w).mono ?_
    rintro e w' ⟨rfl, rfl⟩
    go_wp2_with fail
    go_ret
    exact ⟨rfl, rfl⟩
theorem delim_is {c : UInt8} {b : Bool} (h : isDelim c = b) (w : World) : Calls Tryd.prog 53 #[.int .u8 (c.toNat : Int)] w fun e w' => e = .returned (.bool b) ∧ w = w' := h ▸ delim_any c w

theorem drop_at (s : ByteArray) {k : Nat} (h : k < s.size) : s.data.toList.drop k = s[k] :: s.data.toList.drop (k + 1) := by
  rw [List.drop_eq_getElem_cons (by simpa using h)]; rfl
theorem drop_end (s : ByteArray) {k : Nat} (h : s.size ≤ k) : s.data.toList.drop k = [] := List.drop_eq_nil_of_le (by simpa using h)
theorem spanN_nil (m : UInt8) : spanN m [] = 0 := rfl
theorem spanN_cons (m c : UInt8) (l : List UInt8) : spanN m (c :: l) = if goes m c then 1 + spanN m l else 0 := by
  unfold spanN
  rw [List.takeWhile_cons]
  split <;> simp [Nat.add_comm]
theorem spanN_le (m : UInt8) (l : List UInt8) : spanN m l ≤ l.length := by
  unfold spanN
  exact (List.takeWhile_sublist _).length_le


set_option maxHeartbeats 800000 in
theorem run0_any (s : ByteArray) (k : Nat) (hk : k ≤ s.size) (hs : s.size ≤ 9223372036854775806) (w : World) :
    Calls Tryd.prog 44 #[.string s, .int .i64 k, .int .u8 0] w fun e w' => e = .returned (.int .i64 ((k + spanN 0 (s.data.toList.drop k) : Nat) : Int)) ∧ w = w' := by
  obtain ⟨R, hR⟩ : ∃ R, k + spanN 0 (s.data.toList.drop k) = R := ⟨_, rfl⟩
  rw [hR]
  have HR := Lib.hid hR
  clear hR
  go_enter Tryd.func44, Tryd.ntmps44
  go_wp2_with fail
  go_loop [1] (fun t => ∃ j : Nat, j ≤ s.size ∧ Hid (j + spanN 0 (s.data.toList.drop j) = R) ∧ t = .int .i64 j) (fun t => s.size - (intOf t).toNat)
  case atStart => exact ⟨k, hk, HR, rfl⟩
  case round =>
    obtain ⟨j, hj, H, rfl⟩ := hrel
    by_cases hlt : j < s.size
    · cases hd : isDelim s[j]
      · have H2 : Hid (j + 1 + spanN 0 (s.data.toList.drop (j + 1)) = R) := Lib.hid (by
          have := H.out
          rw [drop_at s hlt, spanN_cons, if_pos (by simp [goes, hd])] at this
          omega)
        have HD := Lib.hid hd
        clear hd
        go_wp2_with fail
        refine (delim_is HD.out w).mono ?_
        rintro e w' ⟨rfl, rfl⟩
        go_wp2_with fail
        go_round
        case rel => exact ⟨j + 1, by omega, H2, by go_num⟩
        case measure => simp [intOf]; omega
      · have H2 : Hid (j = R) := Lib.hid (by
          have := H.out
          rw [drop_at s hlt, spanN_cons, if_neg (by simp [goes, hd])] at this
          omega)
        have HD := Lib.hid hd
        clear hd
        go_wp2_with fail
        refine (delim_is HD.out w).mono ?_
        rintro e w' ⟨rfl, rfl⟩
        go_wp2_with fail
        go_ret
        exact ⟨ret_int' (by rw [H2.out]), rfl⟩
    · have H2 : Hid (j = R) := Lib.hid (by
        have := H.out
        rw [drop_end s (by omega), spanN_nil] at this
        omega)
      go_wp2_with fail
      go_ret
      exact ⟨ret_int' (by rw [H2.out]), rfl⟩

set_option maxHeartbeats 800000 in
theorem run124_any (s : ByteArray) (k : Nat) (hk : k ≤ s.size) (hs : s.size ≤ 9223372036854775806) (w : World) :
    Calls Tryd.prog 44 #[.string s, .int .i64 k, .int .u8 124] w fun e w' => e = .returned (.int .i64 ((k + spanN 124 (s.data.toList.drop k) : Nat) : Int)) ∧ w = w' := by
  obtain ⟨R, hR⟩ : ∃ R, k + spanN 124 (s.data.toList.drop k) = R := ⟨_, rfl⟩
  rw [hR]
  have HR := Lib.hid hR
  clear hR
  go_enter Tryd.func44, Tryd.ntmps44
  go_wp2_with fail
  go_loop [1] (fun t => ∃ j : Nat, j ≤ s.size ∧ Hid (j + spanN 124 (s.data.toList.drop j) = R) ∧ t = .int .i64 j) (fun t => s.size - (intOf t).toNat)
  case atStart => exact ⟨k, hk, HR, rfl⟩
  case round =>
    obtain ⟨j, hj, H, rfl⟩ := hrel
    by_cases hlt : j < s.size
    · cases hd : isDelim s[j]
      · by_cases hb : s[j] = 124
        · have H2 : Hid (j = R) := Lib.hid (by
            have := H.out
            rw [drop_at s hlt, spanN_cons, if_neg (by simp [goes, hb])] at this
            omega)
          have hq : ((s[j].toNat : Int) != 124) = false := by rw [hb]; rfl
          have HD := Lib.hid hd
          clear hd hb
          go_wp2_with fail
          refine (delim_is HD.out w).mono ?_
          rintro e w' ⟨rfl, rfl⟩
          go_wp2_with fail
          go_ret
          exact ⟨ret_int' (by rw [H2.out]), rfl⟩
        · have H2 : Hid (j + 1 + spanN 124 (s.data.toList.drop (j + 1)) = R) := Lib.hid (by
            have := H.out
            rw [drop_at s hlt, spanN_cons, if_pos (by simp [goes, hd, hb])] at this
            omega)
          have hq : ((s[j].toNat : Int) != 124) = true := by
            rw [bne_iff_ne]
            exact fun h => hb ((u8_toNat (n := 124) (by decide)).2 h)
          have HD := Lib.hid hd
          clear hd hb
          go_wp2_with fail
          refine (delim_is HD.out w).mono ?_
          rintro e w' ⟨rfl, rfl⟩
          go_wp2_with fail
          go_round
          case rel => exact ⟨j + 1, by omega, H2, by go_num⟩
          case measure => simp [intOf]; omega
      · have H2 : Hid (j = R) := Lib.hid (by
          have := H.out
          rw [drop_at s hlt, spanN_cons, if_neg (by simp [goes, hd])] at this
          omega)
        have HD := Lib.hid hd
        clear hd
        go_wp2_with fail
        refine (delim_is HD.out w).mono ?_
        rintro e w' ⟨rfl, rfl⟩
        go_wp2_with fail
        go_ret
        exact ⟨ret_int' (by rw [H2.out]), rfl⟩
    · have H2 : Hid (j = R) := Lib.hid (by
        have := H.out
        rw [drop_end s (by omega), spanN_nil] at this
        omega)
      go_wp2_with fail
      go_ret
      exact ⟨ret_int' (by rw [H2.out]), rfl⟩

/-- An error, in what it was found, at a place. -/
def Wrong (w : World) (v : Value) (p code : Int) : Prop :=
  ∃ b c what, v = .iface 106 (.pointer (some ⟨b, 0, none⟩)) ∧ w.heap[b]? = some (.cells #[.string what, .iface 49 (.pointer (some ⟨c, 0, none⟩))] 108) ∧
    w.heap[c]? = some (.cells #[.int .i64 p, .int .i64 code] 53)
theorem Wrong.below {w w' : World} {v : Value} {p code : Int} (h : Wrong w v p code) (hb : Below w.heap.size w w') : Wrong w' v p code := by
  obtain ⟨b, c, what, rfl, h1, h2⟩ := h
  exact ⟨b, c, what, rfl, blk_belowS hb h1, blk_belowS hb h2⟩
/-- What wrong comes to. -/
def WrongRes (w : World) (p code : Int) (e : Ending) (w' : World) : Prop := ∃ v, e = .returned v ∧ Wrong w' v p code ∧ Below w.heap.size w w'
theorem wrong_any (what : ByteArray) (p code : Int) (w : World) : Calls Tryd.prog 35 #[.string what, .int .i64 p, .int .i64 code] w (WrongRes w p code) := by
  go_enter Tryd.func35, Tryd.ntmps35
  go_wp2_with fail
  go_ret
  refine ⟨_, rfl, ⟨_, _, what, rfl, blk_new _ (by simp), ?_⟩, ?_⟩
  · exact blk_alloc (blk_new _ rfl) _
  · exact ((Below.refl _ _).alloc (Nat.le_refl _) _).alloc (by simp) _
end Go.Proofs.YtkgebnbdgiengaaDoor
