/- The lexer's digits, escape, quoted, walked. -/
import Derived.Test.YtkgebnbdgiengaaDoorMoLxB
import Derived.Lib.ConvBytes
namespace Go.Proofs.YtkgebnbdgiengaaDoor
open Go.RowKit Lx

def DigRes (l : List UInt8) (w : World) (e : Ending) (w' : World) : Prop :=
  Below w.heap.size w w' ∧ match hexV l with
  | some n => e = .returned (.tuple #[.int .i32 n, .bool true])
  | none => ∃ r : Int, e = .returned (.tuple #[.int .i32 r, .bool false])

theorem hex_slot {a d : Nat} {x : Int} (ha : a < 1048576) (hx : x = (d : Int)) (hd : d < 16) : Value.int .i32 (bits .or .i32 ((a : Int) * 16) x) = .int .i32 ((a * 16 + d : Nat) : Int) := by
  rw [hx, bits_join .i32 31 (by decide) wraps_i32 4 _ _ (by omega) (by omega) (by omega) (by omega) (by omega) (by omega)]
  rw [Int.natCast_add, Int.natCast_mul]; rfl
theorem le_u8 (n : Nat) (hn : n < 256) (c : UInt8) : UInt8.ofNat n ≤ c ↔ n ≤ c.toNat := by
  rw [UInt8.le_iff_toNat_le]; simp; omega
theorem u8_le (n : Nat) (hn : n < 256) (c : UInt8) : c ≤ UInt8.ofNat n ↔ c.toNat ≤ n := by
  rw [UInt8.le_iff_toNat_le]; simp; omega
theorem hexD_nat (c : UInt8) : hexD c = if 48 ≤ c.toNat ∧ c.toNat ≤ 57 then some (c.toNat - 48) else if 97 ≤ c.toNat ∧ c.toNat ≤ 102 then some (c.toNat - 87) else if 65 ≤ c.toNat ∧ c.toNat ≤ 70 then some (c.toNat - 55) else none := by
  have e1 := le_u8 48 (by decide) c
  have e2 := u8_le 57 (by decide) c
  have e3 := le_u8 97 (by decide) c
  have e4 := u8_le 102 (by decide) c
  have e5 := le_u8 65 (by decide) c
  have e6 := u8_le 70 (by decide) c
  unfold hexD
  simp only [← e1, ← e2, ← e3, ← e4, ← e5, ← e6]
  rfl
theorem hexD_ways (c : UInt8) : (48 ≤ (c.toNat : Int) ∧ (c.toNat : Int) ≤ 57 ∧ hexD c = some (c.toNat - 48)) ∨ (97 ≤ (c.toNat : Int) ∧ (c.toNat : Int) ≤ 102 ∧ hexD c = some (c.toNat - 87)) ∨
    (65 ≤ (c.toNat : Int) ∧ (c.toNat : Int) ≤ 70 ∧ hexD c = some (c.toNat - 55)) ∨
    (((c.toNat : Int) < 48 ∨ 57 < (c.toNat : Int)) ∧ ((c.toNat : Int) < 97 ∨ 102 < (c.toNat : Int)) ∧ ((c.toNat : Int) < 65 ∨ 70 < (c.toNat : Int)) ∧ hexD c = none) := by
  rw [hexD_nat]
  by_cases h1 : 48 ≤ c.toNat ∧ c.toNat ≤ 57
  · rw [if_pos h1]; exact .inl ⟨by omega, by omega, rfl⟩
  · rw [if_neg h1]
    by_cases h2 : 97 ≤ c.toNat ∧ c.toNat ≤ 102
    · rw [if_pos h2]; exact .inr (.inl ⟨by omega, by omega, rfl⟩)
    · rw [if_neg h2]
      by_cases h3 : 65 ≤ c.toNat ∧ c.toNat ≤ 70
      · rw [if_pos h3]; exact .inr (.inr (.inl ⟨by omega, by omega, rfl⟩))
      · rw [if_neg h3]; exact .inr (.inr (.inr ⟨by omega, by omega, by omega, rfl⟩))
theorem hexD_lt {c : UInt8} {d : Nat} (h : hexD c = some d) : d < 16 := by
  rw [hexD_nat] at h
  split at h
  · cases h; omega
  · split at h
    · cases h; omega
    · split at h
      · cases h; omega
      · cases h
theorem dig_end {bs : List UInt8} {a : Nat} (h1 : 1 ≤ bs.length) (h2 : bs.length ≤ 6) (h : hexGo 0 bs = some a) :
    match hexV bs with
    | some n => Ending.returned (.tuple #[.int .i32 a, .bool (Lib.validRune a)]) = .returned (.tuple #[.int .i32 n, .bool true])
    | none => ∃ r : Int, Ending.returned (.tuple #[.int .i32 a, .bool (Lib.validRune a)]) = .returned (.tuple #[.int .i32 r, .bool false]) := by
  have e0 : hexV bs = if okRune a then some a else none := by rw [hexV, if_neg (by omega), h]
  rw [e0]
  clear e0
  have e : Lib.validRune a = okRune a := by
    unfold Lib.validRune okRune
    rw [Bool.eq_iff_iff]
    simp only [Bool.or_eq_true, decide_eq_true_iff]
    omega
  rw [e]
  cases okRune a
  · rw [if_neg (by decide)]; exact ⟨_, rfl⟩
  · rw [if_pos rfl]

set_option maxRecDepth 100000 in
set_option maxHeartbeats 1600000 in
theorem digits_any (s : ByteArray) (hs : s.size ≤ 9223372036854775800) (w : World) : Calls Tryd.prog 46 #[.string s] w (DigRes s.data.toList w) := by
  by_cases hlen : s.size < 1 ∨ 6 < s.size
  · have hv : hexV s.data.toList = none := by
      rw [hexV, if_pos (by rw [← Lib.size_eq]; exact hlen)]
    have HV := Lib.hid hv
    clear hv
    go_enter Tryd.func46, Tryd.ntmps46
    rcases hlen with h | h
    all_goals
      go_wp2_with fail
      go_ret2
      exact ⟨Below.refl _ _, by rw [HV.out]; exact ⟨_, rfl⟩⟩
  · have h1 : 1 ≤ s.size := by omega
    have h2 : s.size ≤ 6 := by omega
    clear hlen hs
    have hcv := Lib.run_convert_string_bytes (P := Tryd.prog) w 9 89 5 s (u := .string) Tryd.underlying9 Tryd.underlying89 Tryd.underlying5
    have hB : ∀ j, j < s.size → (Lib.bytesWorld w 5 s).cell? ⟨w.heap.size, j, none⟩ = some (.int .u8 (s.data.toList.getD j 0).toNat) := fun j hj => Lib.bytesWorld_cell w 5 s j hj
    obtain ⟨W1, hW1⟩ : ∃ W1, W1 = Lib.bytesWorld w 5 s := ⟨_, rfl⟩
    have hbel : Below w.heap.size w W1 := by
      rw [hW1]
      exact ⟨rfl, rfl, rfl, by rw [Lib.bytesWorld_size]; omega, fun j hj => Lib.bytesWorld_at_old w 5 s j hj⟩
    rw [← hW1] at hcv hB
    clear hW1
    obtain ⟨bs, hL⟩ : ∃ bs, bs = s.data.toList := ⟨_, rfl⟩
    have hLn : bs.length = s.size := by rw [hL, Lib.size_eq]
    rw [← hL] at hB ⊢
    clear hL
    have HB := Lib.hid hB
    clear hB
    go_enter Tryd.func46, Tryd.ntmps46
    go_wp2_with fail
    go_loop [4, 18] (fun vn vi => ∃ (k : Nat) (a : Nat), vn = .int .i32 a ∧ vi = .int .i64 k ∧ k ≤ s.size ∧ Hid (a < 16 ^ k ∧ hexGo a (bs.drop k) = hexGo 0 bs)) (fun _ vi => s.size - (intOf vi).toNat)
    case atStart => exact ⟨0, 0, rfl, rfl, by omega, Lib.hid ⟨by decide, rfl⟩⟩
    case round =>
      obtain ⟨k, a, rfl, rfl, hk, H⟩ := hrel
      by_cases hkn : k < s.size
      · have hc := HB.out k hkn
        have hget : bs.getD k 0 = bs[k]'(by omega) := by simp [List.getD, List.getElem?_eq_getElem (show k < bs.length by omega)]
        rw [hget] at hc
        have hdrop : bs.drop k = bs[k]'(by omega) :: bs.drop (k + 1) := List.drop_eq_getElem_cons (by omega)
        have H1 := H.out
        rw [hdrop] at H1
        generalize bs[k]'(by omega) = c at hc H1
        have hc256 : c.toNat < 256 := c.toNat_lt
        clear hget hdrop
        have hp : 16 ^ k ≤ 16 ^ 5 := Nat.pow_le_pow_right (by decide) (by omega)
        have hp2 : 16 ^ (k + 1) = 16 ^ k * 16 := Nat.pow_succ 16 k
        have ha : a < 1048576 := Nat.lt_of_lt_of_le H1.1 hp
        have h3 := hexD_ways c
        have HN : ∀ d, hexD c = some d → Hid (a * 16 + d < 16 ^ (k + 1) ∧ hexGo (a * 16 + d) (bs.drop (k + 1)) = hexGo 0 bs) := fun d hd => Lib.hid (by
          have hd16 := hexD_lt hd
          have h2 := H1.2
          rw [hexGo, hd] at h2
          exact ⟨by rw [hp2]; have := H1.1; omega, h2⟩)
        have HV : hexD c = none → Hid (hexV bs = none) := fun hd => Lib.hid (by
          have h2 := H1.2
          rw [hexGo, hd] at h2
          rw [hexV, ← h2]
          split <;> rfl)
        clear hp hp2 H1 H
        rcases h3 with ⟨h3, h4, hd⟩ | ⟨h3, h4, hd⟩ | ⟨h3, h4, hd⟩ | ⟨h3, h4, h5, hd⟩
        · have H2 := HN _ hd
          clear HN HV hd
          go_wp2_with fail
          go_roundw
          case rel => exact ⟨k + 1, a * 16 + (c.toNat - 48), hex_slot ha (by omega) (by omega), by go_num, by omega, H2⟩
          case measure => simp [intOf]; omega
        · have H2 := HN _ hd
          clear HN HV hd
          go_wp2_with fail
          go_roundw
          case rel => exact ⟨k + 1, a * 16 + (c.toNat - 87), hex_slot ha (by omega) (by omega), by go_num, by omega, H2⟩
          case measure => simp [intOf]; omega
        · have H2 := HN _ hd
          clear HN HV hd
          go_wp2_with fail
          go_roundw
          case rel => exact ⟨k + 1, a * 16 + (c.toNat - 55), hex_slot ha (by omega) (by omega), by go_num, by omega, H2⟩
          case measure => simp [intOf]; omega
        · have H2 := HV hd
          clear HN HV hd
          go_wp2_with fail
          all_goals
            go_ret2
            exact ⟨hbel, by rw [H2.out]; exact ⟨_, rfl⟩⟩
      · have H2 : Hid (a < 16777216 ∧ hexGo 0 bs = some a) := Lib.hid (by
          have H1 := H.out
          obtain rfl : k = s.size := by omega
          rw [List.drop_eq_nil_of_le (by omega)] at H1
          exact ⟨Nat.lt_of_lt_of_le H1.1 (Nat.le_trans (Nat.pow_le_pow_right (by decide) h2) (by decide)), H1.2.symm⟩)
        have ha : a < 16777216 := H2.out.1
        clear H
        go_wp2_with fail
        refine (Tryd.utf8_ValidRune (a : Int) _).mono ?_
        rintro e w' ⟨rfl, rfl⟩
        go_wp2_with fail
        go_ret2
        exact ⟨hbel, dig_end (by omega) (by omega) H2.out.2⟩

/-- An escape: what it is, and how many bytes it takes behind the backslash. -/
def escR (by' : UInt8) : List UInt8 → Option (List UInt8 × Nat)
  | [] => none
  | c :: l => if c = 120 then
      (if Lib.indexByte l 59 < 0 then none else match hexV (l.take (Lib.indexByte l 59).toNat) with | some r => some (Lib.encodeRune (r : Int), (Lib.indexByte l 59).toNat + 2) | none => none)
    else (esc1 by' c).map fun x => ([x], 1)
def EscRes (k : Nat) (R : Option (List UInt8 × Nat)) (w : World) (e : Ending) (w' : World) : Prop :=
  Below w.heap.size w w' ∧ match R with
  | some (x, n) => e = .returned (.tuple #[.string ⟨x.toArray⟩, .int .i64 ((k + n : Nat) : Int), .bool true])
  | none => ∃ (x : ByteArray) (m : Int), e = .returned (.tuple #[.string x, .int .i64 m, .bool false])
theorem u8_ne {c : UInt8} {n : Nat} (hn : n < 256) (h : c ≠ UInt8.ofNat n) : ((c.toNat : Int) == (n : Int)) = false := by
  rw [beq_eq_false_iff_ne]; exact fun h' => h ((u8_toNat hn).2 h')
theorem u8_yes {c : UInt8} {n : Nat} (hn : n < 256) (h : c = UInt8.ofNat n) : c.toNat = n := by
  subst h; simp; omega

theorem ret_esc {x y : ByteArray} {a b : Int} (v : Value) (h1 : x = y) (h2 : a = b) : Ending.returned (.tuple #[.string x, .int .i64 a, v]) = .returned (.tuple #[.string y, .int .i64 b, v]) := by rw [h1, h2]

set_option maxRecDepth 100000 in
set_option maxHeartbeats 1600000 in
theorem escape_one (s : ByteArray) (k : Nat) (hk : k < s.size) (hs : s.size ≤ 9223372036854775800) (by' : UInt8) (hby : by' = 34 ∨ by' = 124) (hx : s[k] ≠ 120) (w : World) :
    Calls Tryd.prog 37 #[.string s, .int .i64 k, .int .u8 (by'.toNat : Int)] w (EscRes k (escR by' (s.data.toList.drop k)) w) := by
  rw [drop_at s hk, escR, if_neg hx]
  have n120 := u8_ne (c := s[k]) (n := 120) (by decide) hx
  by_cases h92 : s[k] = 92
  · have hz := u8_yes (n := 92) (by decide) h92
    rw [h92]
    clear hx n120 h92
    go_enter Tryd.func37, Tryd.ntmps37
    go_wp2_with fail
    go_ret3
    exact ⟨Below.refl _ _, ret_esc _ rfl (by omega)⟩
  have n92 := u8_ne (c := s[k]) (n := 92) (by decide) h92
  by_cases h34 : s[k] = 34
  · have hz := u8_yes (n := 34) (by decide) h34
    rw [h34]
    clear hx n120 h34 n92
    go_enter Tryd.func37, Tryd.ntmps37
    go_wp2_with fail
    go_ret3
    exact ⟨Below.refl _ _, ret_esc _ rfl (by omega)⟩
  have n34 := u8_ne (c := s[k]) (n := 34) (by decide) h34
  by_cases h110 : s[k] = 110
  · have hz := u8_yes (n := 110) (by decide) h110
    rw [h110]
    clear hx n120 h110 n92 n34
    go_enter Tryd.func37, Tryd.ntmps37
    go_wp2_with fail
    go_ret3
    exact ⟨Below.refl _ _, ret_esc _ rfl (by omega)⟩
  have n110 := u8_ne (c := s[k]) (n := 110) (by decide) h110
  by_cases h116 : s[k] = 116
  · have hz := u8_yes (n := 116) (by decide) h116
    rw [h116]
    clear hx n120 h116 n92 n34 n110
    go_enter Tryd.func37, Tryd.ntmps37
    go_wp2_with fail
    go_ret3
    exact ⟨Below.refl _ _, ret_esc _ rfl (by omega)⟩
  have n116 := u8_ne (c := s[k]) (n := 116) (by decide) h116
  by_cases h114 : s[k] = 114
  · have hz := u8_yes (n := 114) (by decide) h114
    rw [h114]
    clear hx n120 h114 n92 n34 n110 n116
    go_enter Tryd.func37, Tryd.ntmps37
    go_wp2_with fail
    go_ret3
    exact ⟨Below.refl _ _, ret_esc _ rfl (by omega)⟩
  have n114 := u8_ne (c := s[k]) (n := 114) (by decide) h114
  by_cases h124 : s[k] = 124
  · have hz := u8_yes (n := 124) (by decide) h124
    rw [h124]
    clear hx n120 n92 n34 n110 n116 n114 h92 h34 h110 h116 h114 h124
    rcases hby with rfl | rfl
    all_goals
      go_enter Tryd.func37, Tryd.ntmps37
      go_wp2_with fail
      go_ret3
      first | exact ⟨Below.refl _ _, ret_esc _ rfl (by omega)⟩ | exact ⟨Below.refl _ _, _, _, rfl⟩
  · have n124 := u8_ne (c := s[k]) (n := 124) (by decide) h124
    have hn : esc1 by' s[k] = none := by
      unfold esc1
      rw [if_neg (fun h => h.elim h92 h34), if_neg h110, if_neg h116, if_neg h114, if_neg (fun h => h124 h.1)]
    rw [hn]
    clear hx hn h92 h34 h110 h116 h114 h124
    go_enter Tryd.func37, Tryd.ntmps37
    go_wp2_with fail
    go_ret3
    exact ⟨Below.refl _ _, _, _, rfl⟩

theorem drop_eq_extract (s : ByteArray) (k : Nat) : (s.extract k s.size).data.toList = s.data.toList.drop k := Lib.extract_to_end s k
theorem index_cons {c d : UInt8} {l : List UInt8} (h : c ≠ d) : Lib.indexByte (c :: l) d = if Lib.indexByte l d < 0 then -1 else Lib.indexByte l d + 1 := by
  have hg := Lib.indexByte_ge l d
  rw [Lib.indexByte, if_neg (by simpa using h)]
  by_cases h1 : Lib.indexByte l d = -1
  · rw [h1]; rfl
  · rw [if_neg (by simpa using h1), if_neg (by omega)]
theorem encode_rune {n : Nat} (h : okRune n = true) : Utf8.encode (n : Int) = ⟨(Lib.encodeRune (n : Int)).toArray⟩ := by
  unfold okRune at h
  simp only [Bool.or_eq_true, decide_eq_true_iff] at h
  have hv : Utf8.valid (n : Int) = true := by
    unfold Utf8.valid
    simp only [Bool.or_eq_true, Bool.and_eq_true, decide_eq_true_iff]
    omega
  unfold Utf8.encode Lib.encodeRune
  have hU : ∀ (a : Nat) (x : Int), x = a → x.toNat.toUInt8 = UInt8.ofNat a := by rintro a x rfl; rfl
  rw [if_pos hv]
  simp only [Int.toNat_natCast]
  by_cases h1 : n < 128
  · rw [if_pos h1, Lib.encodeRuneZ_one (by omega) (by omega), List.map_cons, List.map_nil, hU n _ rfl]
  · rw [if_neg h1]
    by_cases h2 : n < 2048
    · rw [if_pos h2, Lib.encodeRuneZ_two (by omega) (by omega), List.map_cons, List.map_cons, List.map_nil, hU (192 + n / 64) _ (by omega), hU (128 + n % 64) _ (by omega)]
    · rw [if_neg h2]
      by_cases h3 : n < 65536
      · rw [if_pos h3, Lib.encodeRuneZ_three (by omega), List.map_cons, List.map_cons, List.map_cons, List.map_nil, hU (224 + n / 4096) _ (by omega), hU (128 + n / 64 % 64) _ (by omega), hU (128 + n % 64) _ (by omega)]
      · rw [if_neg h3, Lib.encodeRuneZ_four (by omega) (by omega), List.map_cons, List.map_cons, List.map_cons, List.map_cons, List.map_nil, hU (240 + n / 262144) _ (by omega), hU (128 + n / 4096 % 64) _ (by omega), hU (128 + n / 64 % 64) _ (by omega), hU (128 + n % 64) _ (by omega)]

set_option maxRecDepth 100000 in
set_option maxHeartbeats 1600000 in
theorem escape_hex (s : ByteArray) (k : Nat) (hk : k < s.size) (hs : s.size ≤ 9223372036854775800) (by' : UInt8) (hx : s[k] = 120) (w : World) :
    Calls Tryd.prog 37 #[.string s, .int .i64 k, .int .u8 (by'.toNat : Int)] w (EscRes k (escR by' (s.data.toList.drop k)) w) := by
  have hz := u8_yes (n := 120) (by decide) hx
  have hi := index_cons (c := 120) (d := 59) (l := s.data.toList.drop (k + 1)) (by decide)
  have hd := drop_eq_extract s k
  rw [drop_at s hk, hx] at hd
  rw [drop_at s hk, hx, escR, if_pos rfl]
  rw [← hd] at hi
  clear hd hx
  have hg := Lib.indexByte_ge (s.data.toList.drop (k + 1)) 59
  by_cases h0 : Lib.indexByte (s.data.toList.drop (k + 1)) 59 < 0
  · rw [if_pos h0]
    rw [if_pos h0] at hi
    have HI := Lib.hid hi
    clear hi h0 hg
    go_enter Tryd.func37, Tryd.ntmps37
    go_wp2_with fail
    refine (Tryd.strings_IndexByte _ 59 w).mono ?_
    rintro e w' ⟨rfl, rfl⟩
    rw [show (59 : Int).toNat.toUInt8 = 59 from rfl, HI.out]
    go_wp2_with fail
    go_ret3
    exact ⟨Below.refl _ _, _, _, rfl⟩
  · rw [if_neg h0]
    rw [if_neg h0] at hi
    obtain ⟨i, hi'⟩ : ∃ i : Nat, Lib.indexByte (s.data.toList.drop (k + 1)) 59 = i := ⟨(Lib.indexByte (s.data.toList.drop (k + 1)) 59).toNat, by omega⟩
    have hlt := (List.getElem?_eq_some_iff.1 (Lib.indexByte_some hi').1).1
    rw [List.length_drop, ← Lib.size_eq] at hlt
    rw [hi'] at hi ⊢
    rw [Int.toNat_natCast]
    have he : (s.extract (k + 1) (k + (i + 1))).data.toList = (s.data.toList.drop (k + 1)).take i := by
      rw [Lib.extract_data]; congr 1; omega
    rw [← he]
    have hsz : (s.extract (k + 1) (k + (i + 1))).size ≤ 9223372036854775800 := by rw [ByteArray.size_extract]; omega
    have HI := Lib.hid hi
    clear hi h0 hg hi' he
    cases hv : hexV (s.extract (k + 1) (k + (i + 1))).data.toList with
    | some n =>
      have hok : okRune n = true := by
        unfold hexV at hv
        split at hv
        · cases hv
        · split at hv
          · split at hv
            · cases hv; assumption
            · cases hv
          · cases hv
      have HE := Lib.hid (encode_rune hok)
      have HV := Lib.hid hv
      dsimp only
      clear hv hok
      generalize (Lib.encodeRune (n : Int)) = en at HE ⊢
      obtain ⟨r0, hr0⟩ : ∃ r0 : Int, r0 = (n : Int) := ⟨_, rfl⟩
      rw [← hr0] at HE
      have HR0 := Lib.hid hr0
      clear hr0
      go_enter Tryd.func37, Tryd.ntmps37
      go_wp2_with fail
      refine (Tryd.strings_IndexByte _ 59 w).mono ?_
      rintro e w' ⟨rfl, rfl⟩
      rw [show (59 : Int).toNat.toUInt8 = 59 from rfl, HI.out]
      go_wp2_with fail
      refine (digits_any _ hsz _).mono ?_
      rintro e w1 ⟨hb, hm⟩
      rw [HV.out] at hm
      simp only at hm
      rw [← HR0.out] at hm
      subst hm
      go_wp2_with fail
      go_ret3
      exact ⟨hb, ret_esc _ HE.out (by omega)⟩
    | none =>
      have HV := Lib.hid hv
      clear hv
      go_enter Tryd.func37, Tryd.ntmps37
      go_wp2_with fail
      refine (Tryd.strings_IndexByte _ 59 w).mono ?_
      rintro e w' ⟨rfl, rfl⟩
      rw [show (59 : Int).toNat.toUInt8 = 59 from rfl, HI.out]
      go_wp2_with fail
      refine (digits_any _ hsz _).mono ?_
      rintro e w1 ⟨hb, hm⟩
      rw [HV.out] at hm
      simp only at hm
      obtain ⟨r, rfl⟩ := hm
      go_wp2_with fail
      go_ret3
      exact ⟨hb, _, _, rfl⟩
end Go.Proofs.YtkgebnbdgiengaaDoor
