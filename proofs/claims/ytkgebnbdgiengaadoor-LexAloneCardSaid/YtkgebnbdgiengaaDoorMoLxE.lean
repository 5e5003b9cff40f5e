/- The lexer's quoted, walked. -/
import Derived.Test.YtkgebnbdgiengaaDoorMoLxD
namespace Go.Proofs.YtkgebnbdgiengaaDoor
open Go.RowKit Lx

theorem escape_any (s : ByteArray) (k : Nat) (hk : k < s.size) (hs : s.size ≤ 9223372036854775800) (by' : UInt8) (hby : by' = 34 ∨ by' = 124) (w : World) :
    Calls Tryd.prog 37 #[.string s, .int .i64 k, .int .u8 (by'.toNat : Int)] w (EscRes k (escR by' (s.data.toList.drop k)) w) := by
  by_cases hx : s[k] = 120
  · exact escape_hex s k hk hs by' hx w
  · exact escape_one s k hk hs by' hby hx w

theorem qtd_hex (by' : UInt8) (at' p : Nat) (acc : List UInt8) : ∀ (l hs : List UInt8) (n : Nat), qtd by' at' (.hex p hs) n acc l =
    if Lib.indexByte l 59 < 0 then .error (p, 9) else match hexV (hs ++ l.take (Lib.indexByte l 59).toNat) with
      | some r => qtd by' at' .plain (n + (Lib.indexByte l 59).toNat + 1) (acc ++ Lib.encodeRune (r : Int)) (l.drop ((Lib.indexByte l 59).toNat + 1))
      | none => .error (p, 9) := by
  intro l
  induction l with
  | nil => intro hs n; rfl
  | cons c l ih =>
    intro hs n
    by_cases hc : c = 59
    · subst hc
      have e : Lib.indexByte (59 :: l) 59 = 0 := by rw [Lib.indexByte, if_pos (by simp)]
      rw [e, if_neg (by decide), qtd, if_pos rfl]
      simp only [Int.toNat_zero, List.take_zero, List.append_nil, Nat.add_zero, Nat.zero_add, List.drop_succ_cons, List.drop_zero]
      cases hexV hs <;> rfl
    · have hg := Lib.indexByte_ge l 59
      rw [qtd, if_neg hc, ih, index_cons hc]
      by_cases h0 : Lib.indexByte l 59 < 0
      · rw [if_pos h0, if_pos h0, if_pos (by decide)]
      · rw [if_neg h0, if_neg h0, if_neg (by omega)]
        obtain ⟨i, hi⟩ : ∃ i : Nat, Lib.indexByte l 59 = i := ⟨(Lib.indexByte l 59).toNat, by omega⟩
        rw [hi, show ((i : Int) + 1).toNat = i + 1 by omega, Int.toNat_natCast, List.take_succ_cons, List.drop_succ_cons, List.append_assoc, List.singleton_append, Nat.add_right_comm n 1 i, Nat.add_assoc n i 1]

theorem qtd_bs (by' : UInt8) (at' n : Nat) (acc l : List UInt8) (hl : l ≠ []) : qtd by' at' .bs n acc l =
    match escR by' l with
    | some (x, m) => qtd by' at' .plain (n + m) (acc ++ x) (l.drop m)
    | none => .error (n - 1, 9) := by
  cases l with
  | nil => exact absurd rfl hl
  | cons c l =>
    rw [qtd, escR]
    by_cases hc : c = 120
    · rw [if_pos hc, if_pos hc, qtd_hex]
      by_cases h0 : Lib.indexByte l 59 < 0
      · rw [if_pos h0, if_pos h0]
      · rw [if_neg h0, if_neg h0, List.nil_append]
        cases hexV (l.take (Lib.indexByte l 59).toNat) with
        | none => rfl
        | some r =>
          simp only [List.drop_succ_cons]
          rw [show n + 1 + (Lib.indexByte l 59).toNat + 1 = n + ((Lib.indexByte l 59).toNat + 2) by omega]
    · rw [if_neg hc, if_neg hc]
      cases esc1 by' c with
      | none => rfl
      | some x => rfl

theorem encodeRune_le (r : Int) : (Lib.encodeRune r).length ≤ 4 := by
  unfold Lib.encodeRune
  rw [List.length_map]
  exact (Lib.encodeRuneZ_length r).2
theorem escR_le {by' : UInt8} {l x : List UInt8} {m : Nat} (h : escR by' l = some (x, m)) : x.length ≤ 4 ∧ 1 ≤ m ∧ m ≤ l.length := by
  cases l with
  | nil => simp [escR] at h
  | cons c l =>
    rw [escR] at h
    split at h
    · split at h
      · cases h
      · rename_i hi
        split at h
        · cases h
          obtain ⟨i, hi'⟩ : ∃ i : Nat, Lib.indexByte l 59 = i := ⟨(Lib.indexByte l 59).toNat, by have := Lib.indexByte_ge l 59; omega⟩
          have hlt := (List.getElem?_eq_some_iff.1 (Lib.indexByte_some hi').1).1
          rw [hi'] at *
          exact ⟨encodeRune_le _, by omega, by simp; omega⟩
        · cases h
    · simp only [Option.map_eq_some_iff] at h
      obtain ⟨a, _, h⟩ := h
      cases h
      simp

def QtRes (s : ByteArray) (k : Nat) (R : Except (Nat × Nat) (List UInt8 × Nat)) (w : World) (e : Ending) (w' : World) : Prop :=
  Below w.heap.size w w' ∧ match R with
  | .ok (x, n) => k + 2 ≤ n ∧ n ≤ s.size ∧ x.length ≤ 4 * n ∧ e = .returned (.tuple #[.string ⟨x.toArray⟩, .int .i64 n, .nilIface])
  | .error (p, c) => ∃ v, e = .returned (.tuple #[.string ⟨#[]⟩, .int .i64 0, v]) ∧ Wrong w' v p c

theorem builder_below {B b : Nat} {bs : List Value} {w w' : World} (h : Lib.IsBuilder 91 5 B b bs w) (hb : Below w.heap.size w w') : Lib.IsBuilder 91 5 B b bs w' := by
  rcases h with ⟨h1, v, h2, h3, h4⟩ | ⟨h1, v, h2, h3, h4⟩
  · exact .inl ⟨h1, v, blk_belowS hb h2, own_below' h3 hb, h4⟩
  · exact .inr ⟨h1, v, blk_belowS hb h2, own_below' h3 hb, h4⟩
theorem builder_new (w : World) : Lib.IsBuilder 91 5 w.heap.size w.heap.size (Lib.byteCells []) (w.alloc (.cells #[.pointer none, .slice none 0 0] 91)) :=
  .inl ⟨Nat.le_refl _, _, heap_alloc_new _ _, own_nil' _ _ _ _, by simp [Value.ownBlock]⟩

set_option maxRecDepth 100000 in
set_option maxHeartbeats 1600000 in
theorem quoted_any (s : ByteArray) (k : Nat) (hk : k < s.size) (hs : s.size ≤ 4096) (by' : UInt8) (hby : by' = 34 ∨ by' = 124) (hq : s[k] = by') (w : World) :
    Calls Tryd.prog 27 #[.string s, .int .i64 k] w (QtRes s k (qtd by' k .plain (k + 1) [] (s.data.toList.drop (k + 1))) w) := by
  obtain ⟨R, hR⟩ : ∃ R, qtd by' k .plain (k + 1) [] (s.data.toList.drop (k + 1)) = R := ⟨_, rfl⟩
  rw [hR]
  have HR := Lib.hid hR
  have HQ := Lib.hid hq
  have hz : s[k].toNat = by'.toNat := by rw [hq]
  clear hR hq
  go_enter Tryd.func27, Tryd.ntmps27
  go_wp2_with fail
  have hbl := builder_new w
  have hB : Below w.heap.size w (w.alloc (.cells #[.pointer none, .slice none 0 0] 91)) := (Below.refl _ _).alloc (Nat.le_refl _) _
  have hsz : w.heap.size < (w.alloc (.cells #[.pointer none, .slice none 0 0] 91)).heap.size := by simp
  generalize w.alloc (.cells #[.pointer none, .slice none 0 0] 91) = w0 at *
  go_loopw [9] (fun t wr => ∃ (n : Nat) (acc : List UInt8), t = .int .i64 n ∧ k + 1 ≤ n ∧ n ≤ s.size ∧ acc.length ≤ 4 * n ∧ Lib.IsBuilder 91 5 w.heap.size w.heap.size (Lib.byteCells acc) wr ∧ Below w.heap.size w wr ∧ w.heap.size < wr.heap.size ∧ Hid (qtd by' k .plain n acc (s.data.toList.drop n) = R)) (fun t _ => s.size - (intOf t).toNat)
  case atStart => exact ⟨k + 1, [], by go_num, by omega, by omega, by simp, hbl, hB, hsz, HR⟩
  case round =>
    obtain ⟨n, acc, rfl, hn1, hn2, hacc, hbl', hB', hsz', H⟩ := hrel
    clear hbl hB hsz
    by_cases hlt : n < s.size
    · by_cases hc : s[n] = by'
      · have hzn : s[n].toNat = by'.toNat := by rw [hc]
        have H2 : Hid (R = .ok (acc, n + 1)) := Lib.hid (by
          have := H.out
          rw [drop_at s hlt, qtd, if_pos hc] at this
          exact this.symm)
        clear hc H
        go_wp2_with fail
        refine (Tryd.Builder_String_any w.heap.size w.heap.size acc wr hbl' (by omega)).mono ?_
        rintro e w2 ⟨rfl, hb2⟩
        go_wp2_with fail
        go_ret3
        exact ⟨hB'.trans hb2, by rw [H2.out]; exact ⟨by omega, by omega, by omega, rfl⟩⟩
      · have n1 : ((s[n].toNat : Int) == (by'.toNat : Int)) = false := by
          rw [beq_eq_false_iff_ne]; exact fun h => hc (UInt8.toNat_inj.1 (by omega))
        by_cases h92 : s[n] = 92
        · have n2 : ((s[n].toNat : Int) == 92) = true := by rw [h92]; rfl
          by_cases hl2 : n + 1 < s.size
          · have H2 := H.out
            rw [drop_at s hlt, qtd, if_neg hc, if_pos h92, qtd_bs _ _ _ _ _ (by rw [drop_at s hl2]; simp)] at H2
            cases hx : escR by' (s.data.toList.drop (n + 1)) with
            | none =>
              rw [hx] at H2
              have HR2 : Hid (R = .error (n, 9)) := Lib.hid H2.symm
              have HX := Lib.hid hx
              clear H2 hx hc h92 H
              go_wp2_with fail
              refine (escape_any s (n + 1) hl2 (by omega) by' hby _).mono ?_
              rintro e w2 ⟨hb2, hm⟩
              rw [HX.out] at hm
              simp only at hm
              obtain ⟨x, m, rfl⟩ := hm
              go_wp2_with fail
              refine (wrong_any _ _ _ _).mono ?_
              rintro e w3 ⟨v, rfl, hv, hb3⟩
              go_wp2_with fail
              go_ret3
              exact ⟨(hB'.trans (hb2.mono (by omega))).trans (hb3.mono (by have := hb2.size; omega)), by rw [HR2.out]; exact ⟨v, rfl, hv⟩⟩
            | some xm =>
              obtain ⟨x, m⟩ := xm
              rw [hx] at H2
              have hle := escR_le hx
              rw [List.length_drop, ← Lib.size_eq] at hle
              simp only [List.drop_drop] at H2
              have HR2 : Hid (qtd by' k .plain (n + 1 + m) (acc ++ x) (s.data.toList.drop (n + 1 + m)) = R) := Lib.hid H2
              have HX := Lib.hid hx
              clear H2 hx hc h92 H
              go_wp2_with fail
              refine (escape_any s (n + 1) hl2 (by omega) by' hby _).mono ?_
              rintro e w2 ⟨hb2, hm⟩
              rw [HX.out] at hm
              simp only at hm
              subst hm
              have hs2 := hb2.size
              have hbl2 : Lib.IsBuilder 91 5 w.heap.size w.heap.size (Lib.byteCells acc) w2 := builder_below hbl' hb2
              have hxs : (⟨x.toArray⟩ : ByteArray).size ≤ 4 := by
                show x.toArray.size ≤ 4
                simpa using hle.1
              go_wp2_with fail
              refine (writeString_any _ _ _ ⟨x.toArray⟩ w2 hbl2 (by rw [Lib.byteCells_length]; omega) (by omega)).mono ?_
              rintro e w3 ⟨rfl, hbl3, hb3⟩
              have hbl4 : Lib.IsBuilder 91 5 w.heap.size w.heap.size (Lib.byteCells (acc ++ x)) w3 := by
                rw [Lib.byteCells_append]
                exact hbl3
              have hB4 := (hB'.trans (hb2.mono (Nat.le_of_lt hsz'))).trans hb3
              have hs4 := hb3.size
              clear hbl3 hbl2 hbl' hb2 hb3
              go_wp2_with fail
              go_roundw
              case rel => exact ⟨n + 1 + m, acc ++ x, by go_num, by omega, by omega, by rw [List.length_append]; omega, hbl4, hB4, by omega, HR2⟩
              case measure => simp [intOf]; omega
          · have HR2 : Hid (R = .error (k, 11)) := Lib.hid (by
              have := H.out
              rw [drop_at s hlt, qtd, if_neg hc, if_pos h92, drop_end s (by omega)] at this
              exact this.symm)
            have hne : ((n : Int) + 1 == (s.size : Int)) = true := by rw [beq_iff_eq]; omega
            clear hc h92 H
            go_wp2_with fail
            refine (wrong_any _ _ _ _).mono ?_
            rintro e w3 ⟨v, rfl, hv, hb3⟩
            go_wp2_with fail
            go_ret3
            exact ⟨hB'.trans (hb3.mono (by omega)), by rw [HR2.out]; exact ⟨v, rfl, hv⟩⟩
        · have n2 : ((s[n].toNat : Int) == 92) = false := u8_ne (n := 92) (by decide) h92
          have HR2 : Hid (qtd by' k .plain (n + 1) (acc ++ [s[n]]) (s.data.toList.drop (n + 1)) = R) := Lib.hid (by
            have := H.out
            rw [drop_at s hlt, qtd, if_neg hc, if_neg h92] at this
            exact this)
          clear hc h92 H
          go_wp2_with fail
          refine (writeByte_any _ _ _ _ wr hbl' (by rw [Lib.byteCells_length]; omega) (by omega)).mono ?_
          rintro e w3 ⟨rfl, hbl3, hb3⟩
          have hbl4 : Lib.IsBuilder 91 5 w.heap.size w.heap.size (Lib.byteCells (acc ++ [s[n]])) w3 := by
            rw [Lib.byteCells_append]
            exact hbl3
          have hB4 := hB'.trans hb3
          have hs4 := hb3.size
          clear hbl3 hbl' hb3
          go_wp2_with fail
          go_roundw
          case rel => exact ⟨n + 1, acc ++ [s[n]], by go_num, by omega, by omega, by rw [List.length_append]; simp; omega, hbl4, hB4, by omega, HR2⟩
          case measure => simp [intOf]; omega
    · have HR2 : Hid (R = .error (k, 11)) := Lib.hid (by
        have := H.out
        rw [drop_end s (by omega)] at this
        exact this.symm)
      go_wp2_with fail
      refine (wrong_any _ _ _ _).mono ?_
      rintro e w3 ⟨v, rfl, hv, hb3⟩
      go_wp2_with fail
      go_ret3
      exact ⟨hB'.trans (hb3.mono (by omega)), by rw [HR2.out]; exact ⟨v, rfl, hv⟩⟩
end Go.Proofs.YtkgebnbdgiengaaDoor
