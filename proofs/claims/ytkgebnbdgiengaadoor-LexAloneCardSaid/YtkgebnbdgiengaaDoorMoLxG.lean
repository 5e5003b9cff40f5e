/- The lexer's named, char: walked. -/
import Derived.Test.YtkgebnbdgiengaaDoorMoLxF
namespace Go.Proofs.YtkgebnbdgiengaaDoor
open Go.RowKit Lx

def NamRes (l : List UInt8) (e : Ending) : Prop := match nameV l with
  | some r => e = .returned (.tuple #[.int .i32 r, .bool true])
  | none => e = .returned (.tuple #[.int .i32 0, .bool false])
set_option maxRecDepth 100000 in
set_option maxHeartbeats 1600000 in
theorem named_any (x : ByteArray) (w : World) : Calls Tryd.prog 45 #[.string x] w fun e w' => NamRes x.data.toList e ∧ w = w' := by
  rw [← Lib.toList_data]
  unfold NamRes nameV
  by_cases h0 : x.toList = [110, 117, 108]
  · rw [if_pos h0]
    have f0 : (x.toList == [110, 117, 108]) = true := by rw [h0]; rfl
    clear h0
    go_enter Tryd.func45, Tryd.ntmps45
    go_wp2_with fail
    go_ret2
    exact ⟨rfl, rfl⟩
  rw [if_neg h0]
  have f0 : (x.toList == [110, 117, 108]) = false := by simpa using h0
  clear h0
  by_cases h1 : x.toList = [97, 108, 97, 114, 109]
  · rw [if_pos h1]
    have f1 : (x.toList == [97, 108, 97, 114, 109]) = true := by rw [h1]; rfl
    clear h1
    go_enter Tryd.func45, Tryd.ntmps45
    go_wp2_with fail
    go_ret2
    exact ⟨rfl, rfl⟩
  rw [if_neg h1]
  have f1 : (x.toList == [97, 108, 97, 114, 109]) = false := by simpa using h1
  clear h1
  by_cases h2 : x.toList = [98, 97, 99, 107, 115, 112, 97, 99, 101]
  · rw [if_pos h2]
    have f2 : (x.toList == [98, 97, 99, 107, 115, 112, 97, 99, 101]) = true := by rw [h2]; rfl
    clear h2
    go_enter Tryd.func45, Tryd.ntmps45
    go_wp2_with fail
    go_ret2
    exact ⟨rfl, rfl⟩
  rw [if_neg h2]
  have f2 : (x.toList == [98, 97, 99, 107, 115, 112, 97, 99, 101]) = false := by simpa using h2
  clear h2
  by_cases h3 : x.toList = [116, 97, 98]
  · rw [if_pos h3]
    have f3 : (x.toList == [116, 97, 98]) = true := by rw [h3]; rfl
    clear h3
    go_enter Tryd.func45, Tryd.ntmps45
    go_wp2_with fail
    go_ret2
    exact ⟨rfl, rfl⟩
  rw [if_neg h3]
  have f3 : (x.toList == [116, 97, 98]) = false := by simpa using h3
  clear h3
  by_cases h4 : x.toList = [110, 101, 119, 108, 105, 110, 101]
  · rw [if_pos h4]
    have f4 : (x.toList == [110, 101, 119, 108, 105, 110, 101]) = true := by rw [h4]; rfl
    clear h4
    go_enter Tryd.func45, Tryd.ntmps45
    go_wp2_with fail
    go_ret2
    exact ⟨rfl, rfl⟩
  rw [if_neg h4]
  have f4 : (x.toList == [110, 101, 119, 108, 105, 110, 101]) = false := by simpa using h4
  clear h4
  by_cases h5 : x.toList = [114, 101, 116, 117, 114, 110]
  · rw [if_pos h5]
    have f5 : (x.toList == [114, 101, 116, 117, 114, 110]) = true := by rw [h5]; rfl
    clear h5
    go_enter Tryd.func45, Tryd.ntmps45
    go_wp2_with fail
    go_ret2
    exact ⟨rfl, rfl⟩
  rw [if_neg h5]
  have f5 : (x.toList == [114, 101, 116, 117, 114, 110]) = false := by simpa using h5
  clear h5
  by_cases h6 : x.toList = [101, 115, 99, 97, 112, 101]
  · rw [if_pos h6]
    have f6 : (x.toList == [101, 115, 99, 97, 112, 101]) = true := by rw [h6]; rfl
    clear h6
    go_enter Tryd.func45, Tryd.ntmps45
    go_wp2_with fail
    go_ret2
    exact ⟨rfl, rfl⟩
  rw [if_neg h6]
  have f6 : (x.toList == [101, 115, 99, 97, 112, 101]) = false := by simpa using h6
  clear h6
  by_cases h7 : x.toList = [115, 112, 97, 99, 101]
  · rw [if_pos h7]
    have f7 : (x.toList == [115, 112, 97, 99, 101]) = true := by rw [h7]; rfl
    clear h7
    go_enter Tryd.func45, Tryd.ntmps45
    go_wp2_with fail
    go_ret2
    exact ⟨rfl, rfl⟩
  rw [if_neg h7]
  have f7 : (x.toList == [115, 112, 97, 99, 101]) = false := by simpa using h7
  clear h7
  by_cases h8 : x.toList = [100, 101, 108, 101, 116, 101]
  · rw [if_pos h8]
    have f8 : (x.toList == [100, 101, 108, 101, 116, 101]) = true := by rw [h8]; rfl
    clear h8
    go_enter Tryd.func45, Tryd.ntmps45
    go_wp2_with fail
    go_ret2
    exact ⟨rfl, rfl⟩
  rw [if_neg h8]
  have f8 : (x.toList == [100, 101, 108, 101, 116, 101]) = false := by simpa using h8
  clear h8
  go_enter Tryd.func45, Tryd.ntmps45
  go_wp2_with fail
  go_ret2
  exact ⟨rfl, rfl⟩

theorem decodeGo_drop (s : ByteArray) (k : Nat) (hk : k < s.size) : Lib.decodeGo (s.extract k s.size) = Lib.decodeL (s.data.toList.drop k) := by
  unfold Lib.decodeGo Lib.decodeL
  rw [if_neg (by rw [ByteArray.size_extract]; omega), ← Lib.extract_to_end, Lib.mk_data]

set_option maxRecDepth 100000 in
set_option maxHeartbeats 1600000 in
theorem char_any (s : ByteArray) (k : Nat) (hk : k + 2 ≤ s.size) (hs : s.size ≤ 4096) (w : World) (hL : Lu w) :
    Calls Tryd.prog 29 #[.string s, .int .i64 k] w (TokRes (chr k (s.data.toList.drop (k + 2))) w) := by
  obtain ⟨G, hG⟩ : ∃ G, chr k (s.data.toList.drop (k + 2)) = G := ⟨_, rfl⟩
  rw [hG]
  by_cases hend : k + 2 = s.size
  · rw [chr, if_pos (drop_end s (by omega))] at hG
    have HG := Lib.hid hG.symm
    have hne : ((k : Int) + 2 == (s.size : Int)) = true := by rw [beq_iff_eq]; omega
    clear hG hend
    go_enter Tryd.func29, Tryd.ntmps29
    go_wp2_with fail
    have hz := Zd.new w
    change Zd w (w.alloc (.cells #[.int .i64 0, .int .i64 0, .int .i64 0, .bool false, .int .i64 0, .int .i32 0, .bool false, .slice none 0 0, .string ⟨#[]⟩, .slice none 0 0] 33)) at hz
    generalize w.alloc (.cells #[.int .i64 0, .int .i64 0, .int .i64 0, .bool false, .int .i64 0, .int .i32 0, .bool false, .slice none 0 0, .string ⟨#[]⟩, .slice none 0 0] 33) = w0 at *
    refine (wrong_any _ _ _ _).mono ?_
    rintro e w9 ⟨v, rfl, hv, hb9⟩
    replace hz := hz.step hb9
    clear hb9
    go_wp2_with (refine store_tok rfl (.tmp 4) (.tmp 17) rfl w.heap.size zeroCs (by rfl) (by rfl) _ hz.1 rfl rfl one_zeroCs ?_)
    exact bodyPost_ret (results_te Tryd.results29 rfl rfl (setRow_at hz.1) rfl) rfl (tok_bad HG.out (below_setRow hz.2 (Nat.le_refl _) _) (wrong_set hv hz.1 _))
  · have hne : ((k : Int) + 2 == (s.size : Int)) = false := by rw [beq_eq_false_iff_ne]; omega
    have hnl : s.data.toList.drop (k + 2) ≠ [] := by rw [drop_at s (by omega)]; simp
    have hw := Lib.decodeL_width (s.data.toList.drop (k + 2))
    have hle := Lib.decodeL_le (s.data.toList.drop (k + 2)) hnl
    rw [List.length_drop, ← Lib.size_eq] at hle
    have hd := decodeGo_drop s (k + 2) (by omega)
    rw [chr, if_neg hnl] at hG
    simp only at hG
    obtain ⟨c, n, hcn⟩ : ∃ c n, Lib.decodeL (s.data.toList.drop (k + 2)) = (c, n) := ⟨_, _, rfl⟩
    rw [hcn] at hG hw hle hd
    simp only at hG hw hle
    have HD1 : Hid (((Lib.decodeGo (s.extract (k + 2) s.size)).1 : Int) = c) := Lib.hid (by rw [hd])
    have HD2 : Hid (((Lib.decodeGo (s.extract (k + 2) s.size)).2 : Int) = n) := Lib.hid (by rw [hd])
    clear hd hcn hnl hend
    by_cases hbad : c = 65533 ∧ n < 2
    · rw [if_pos hbad] at hG
      have HG := Lib.hid hG.symm
      have hc1 : ((c : Int) == 65533) = true := by rw [beq_iff_eq]; omega
      have hn2 : (n : Int) < 2 := by omega
      clear hG hbad hw hle
      go_enter Tryd.func29, Tryd.ntmps29
      go_wp2_with fail
      have hz := Zd.new w
      change Zd w (w.alloc (.cells #[.int .i64 0, .int .i64 0, .int .i64 0, .bool false, .int .i64 0, .int .i32 0, .bool false, .slice none 0 0, .string ⟨#[]⟩, .slice none 0 0] 33)) at hz
      generalize w.alloc (.cells #[.int .i64 0, .int .i64 0, .int .i64 0, .bool false, .int .i64 0, .int .i32 0, .bool false, .slice none 0 0, .string ⟨#[]⟩, .slice none 0 0] 33) = w0 at *
      refine (Tryd.utf8_DecodeRuneInString (s.extract (k + 2) s.size) _ (hL.below hz.2).tabs).mono ?_
      rintro e w1 ⟨rfl, hb1⟩
      rw [HD1.out, HD2.out]
      replace hz := hz.step hb1
      clear hb1
      go_wp2_with fail
      refine (wrong_any _ _ _ _).mono ?_
      rintro e w9 ⟨v, rfl, hv, hb9⟩
      replace hz := hz.step hb9
      clear hb9
      go_wp2_with (refine store_tok rfl (.tmp 4) (.tmp 34) rfl w.heap.size zeroCs (by rfl) (by rfl) _ hz.1 rfl rfl one_zeroCs ?_)
      exact bodyPost_ret (results_te Tryd.results29 rfl rfl (setRow_at hz.1) rfl) rfl (tok_bad HG.out (below_setRow hz.2 (Nat.le_refl _) _) (wrong_set hv hz.1 _))
    · rw [if_neg hbad] at hG
      have hdd : (s.data.toList.drop (k + 2)).drop n = s.data.toList.drop (k + 2 + n) := by rw [List.drop_drop]
      rw [hdd] at hG
      have hml := spanN_le 0 (s.data.toList.drop (k + 2 + n))
      rw [List.length_drop, ← Lib.size_eq] at hml
      obtain ⟨m, hm⟩ : ∃ m, spanN 0 (s.data.toList.drop (k + 2 + n)) = m := ⟨_, rfl⟩
      rw [hm] at hG hml
      have HM : Hid (((k + 2 + n + spanN 0 (s.data.toList.drop (k + 2 + n)) : Nat) : Int) = ((k + 2 + n + m : Nat) : Int)) := Lib.hid (by rw [hm])
      clear hm
      have hx1 : (s.extract (k + 2) (k + 2 + n + m)).data.toList = (s.data.toList.drop (k + 2)).take (n + m) := by rw [Lib.extract_data]; congr 1; omega
      have hx2 : (s.extract (k + 2 + n) (k + 2 + n + m)).data.toList = (s.data.toList.drop (k + 2 + n)).take m := by rw [Lib.extract_data]; congr 1; omega
      rw [← hx1] at hG
      have hx3 : (s.extract (k + 2) (k + 2 + n + m)).data.toList.drop n = (s.extract (k + 2 + n) (k + 2 + n + m)).data.toList := by rw [hx1, hx2, List.drop_take, hdd]; congr 1; omega
      rw [hx3] at hG
      clear hx1 hx3 hdd
      by_cases hcc : c = 65533
      · have hc1 : ((c : Int) == 65533) = true := by rw [beq_iff_eq]; omega
        have hn2 : 2 ≤ (n : Int) := by omega
        clear hw hbad hcc
        by_cases hm0 : m = 0
        · subst hm0
          rw [if_pos rfl] at hG
          have HG := Lib.hid hG.symm
          clear hG hx2
          go_enter Tryd.func29, Tryd.ntmps29
          go_wp2_with fail
          have hz := Zd.new w
          change Zd w (w.alloc (.cells #[.int .i64 0, .int .i64 0, .int .i64 0, .bool false, .int .i64 0, .int .i32 0, .bool false, .slice none 0 0, .string ⟨#[]⟩, .slice none 0 0] 33)) at hz
          generalize w.alloc (.cells #[.int .i64 0, .int .i64 0, .int .i64 0, .bool false, .int .i64 0, .int .i32 0, .bool false, .slice none 0 0, .string ⟨#[]⟩, .slice none 0 0] 33) = w0 at *
          refine (Tryd.utf8_DecodeRuneInString (s.extract (k + 2) s.size) _ (hL.below hz.2).tabs).mono ?_
          rintro e w1 ⟨rfl, hb1⟩
          rw [HD1.out, HD2.out]
          replace hz := hz.step hb1
          clear hb1
          go_wp2_with fail
          refine (run0_any s (k + 2 + n) (by omega) (by omega) _).mono ?_
          rintro e w2 ⟨rfl, rfl⟩
          rw [HM.out]
          go_wp2_with fail
          refine (atom_any 3 c false none 0 0 ⟨#[]⟩ k _ _).mono ?_
          rintro e w6 ⟨rfl, hb6⟩
          replace hz := hz.step hb6
          clear hb6
          go_wp2_with (refine store_tok rfl (.tmp 4) (.tmp 82) rfl w.heap.size (tkCs { tkD 3 k (k + 2 + n) with c := c } (.slice none 0 0)) (by rfl) (by rfl) _ hz.1 rfl rfl (one_tkCs _ _ _ _) ?_)
          exact bodyPost_ret (results_te Tryd.results29 rfl rfl (setRow_at hz.1) rfl) rfl (tok_ok HG.out (below_setRow hz.2 (Nat.le_refl _) _) ⟨_, _, rfl, Reads.nil _ _ _⟩)
        · rw [if_neg hm0] at hG
          have hemp : (s.extract (k + 2 + n) (k + 2 + n + m)).toList.isEmpty = false := by
            rw [Lib.toList_data, hx2, drop_at s (by omega)]
            obtain ⟨m', rfl⟩ : ∃ m', m = m' + 1 := ⟨m - 1, by omega⟩
            rfl
          have hemp2 : ¬ (s.extract (k + 2 + n) (k + 2 + n + m)).toList = [] := by
            intro h; rw [h] at hemp; cases hemp
          have hsz : (s.extract (k + 2 + n) (k + 2 + n + m)).size ≤ 9223372036854775800 := by rw [ByteArray.size_extract]; omega
          clear hx2
          cases hv : nameV (s.extract (k + 2) (k + 2 + n + m)).data.toList with
          | some r =>
            rw [hv] at hG
            have HG := Lib.hid hG.symm
            have HV := Lib.hid hv
            clear hG hv
            go_enter Tryd.func29, Tryd.ntmps29
            go_wp2_with fail
            have hz := Zd.new w
            change Zd w (w.alloc (.cells #[.int .i64 0, .int .i64 0, .int .i64 0, .bool false, .int .i64 0, .int .i32 0, .bool false, .slice none 0 0, .string ⟨#[]⟩, .slice none 0 0] 33)) at hz
            generalize w.alloc (.cells #[.int .i64 0, .int .i64 0, .int .i64 0, .bool false, .int .i64 0, .int .i32 0, .bool false, .slice none 0 0, .string ⟨#[]⟩, .slice none 0 0] 33) = w0 at *
            refine (Tryd.utf8_DecodeRuneInString (s.extract (k + 2) s.size) _ (hL.below hz.2).tabs).mono ?_
            rintro e w1 ⟨rfl, hb1⟩
            rw [HD1.out, HD2.out]
            replace hz := hz.step hb1
            clear hb1
            go_wp2_with fail
            refine (run0_any s (k + 2 + n) (by omega) (by omega) _).mono ?_
            rintro e w2 ⟨rfl, rfl⟩
            rw [HM.out]
            go_wp2_with fail
            refine (named_any _ _).mono ?_
            rintro e w3 ⟨hn, rfl⟩
            unfold NamRes at hn
            rw [HV.out] at hn
            simp only at hn
            obtain ⟨r0, hr0⟩ : ∃ r0 : Int, r0 = (r : Int) := ⟨_, rfl⟩
            rw [← hr0] at hn
            have HR0 := Lib.hid hr0
            clear hr0
            subst hn
            go_wp2_with fail
            rw [HR0.out]
            refine (atom_any 3 r false none 0 0 ⟨#[]⟩ k _ _).mono ?_
            rintro e w6 ⟨rfl, hb6⟩
            replace hz := hz.step hb6
            clear hb6
            go_wp2_with (refine store_tok rfl (.tmp 4) (.tmp 82) rfl w.heap.size (tkCs { tkD 3 k (k + 2 + n + m) with c := r } (.slice none 0 0)) (by rfl) (by rfl) _ hz.1 rfl rfl (one_tkCs _ _ _ _) ?_)
            exact bodyPost_ret (results_te Tryd.results29 rfl rfl (setRow_at hz.1) rfl) rfl (tok_ok HG.out (below_setRow hz.2 (Nat.le_refl _) _) ⟨_, _, rfl, Reads.nil _ _ _⟩)
          | none =>
            rw [hv] at hG
            have HV := Lib.hid hv
            clear hv
            simp only at hG
            by_cases hx : c = 120
            · rw [if_pos hx] at hG
              have hc2 : ((c : Int) == 120) = true := by rw [beq_iff_eq]; omega
              clear hx
              cases hx : hexV (s.extract (k + 2 + n) (k + 2 + n + m)).data.toList with
              | some r =>
                rw [hx] at hG
                have HG := Lib.hid hG.symm
                have HX := Lib.hid hx
                clear hG hx
                go_enter Tryd.func29, Tryd.ntmps29
                go_wp2_with fail
                have hz := Zd.new w
                change Zd w (w.alloc (.cells #[.int .i64 0, .int .i64 0, .int .i64 0, .bool false, .int .i64 0, .int .i32 0, .bool false, .slice none 0 0, .string ⟨#[]⟩, .slice none 0 0] 33)) at hz
                generalize w.alloc (.cells #[.int .i64 0, .int .i64 0, .int .i64 0, .bool false, .int .i64 0, .int .i32 0, .bool false, .slice none 0 0, .string ⟨#[]⟩, .slice none 0 0] 33) = w0 at *
                refine (Tryd.utf8_DecodeRuneInString (s.extract (k + 2) s.size) _ (hL.below hz.2).tabs).mono ?_
                rintro e w1 ⟨rfl, hb1⟩
                rw [HD1.out, HD2.out]
                replace hz := hz.step hb1
                clear hb1
                go_wp2_with fail
                refine (run0_any s (k + 2 + n) (by omega) (by omega) _).mono ?_
                rintro e w2 ⟨rfl, rfl⟩
                rw [HM.out]
                go_wp2_with fail
                refine (named_any _ _).mono ?_
                rintro e w3 ⟨hn, rfl⟩
                unfold NamRes at hn
                rw [HV.out] at hn
                simp only at hn
                subst hn
                go_wp2_with fail
                refine (digits_any _ hsz _).mono ?_
                rintro e w4 ⟨hb4, hm⟩
                rw [HX.out] at hm
                simp only at hm
                obtain ⟨r0, hr0⟩ : ∃ r0 : Int, r0 = (r : Int) := ⟨_, rfl⟩
                rw [← hr0] at hm
                have HR0 := Lib.hid hr0
                clear hr0
                subst hm
                replace hz := hz.step hb4
                clear hb4
                go_wp2_with fail
                rw [HR0.out]
                refine (atom_any 3 r false none 0 0 ⟨#[]⟩ k _ _).mono ?_
                rintro e w6 ⟨rfl, hb6⟩
                replace hz := hz.step hb6
                clear hb6
                go_wp2_with (refine store_tok rfl (.tmp 4) (.tmp 82) rfl w.heap.size (tkCs { tkD 3 k (k + 2 + n + m) with c := r } (.slice none 0 0)) (by rfl) (by rfl) _ hz.1 rfl rfl (one_tkCs _ _ _ _) ?_)
                exact bodyPost_ret (results_te Tryd.results29 rfl rfl (setRow_at hz.1) rfl) rfl (tok_ok HG.out (below_setRow hz.2 (Nat.le_refl _) _) ⟨_, _, rfl, Reads.nil _ _ _⟩)
              | none =>
                rw [hx] at hG
                have HG := Lib.hid hG.symm
                have HX := Lib.hid hx
                clear hG hx
                go_enter Tryd.func29, Tryd.ntmps29
                go_wp2_with fail
                have hz := Zd.new w
                change Zd w (w.alloc (.cells #[.int .i64 0, .int .i64 0, .int .i64 0, .bool false, .int .i64 0, .int .i32 0, .bool false, .slice none 0 0, .string ⟨#[]⟩, .slice none 0 0] 33)) at hz
                generalize w.alloc (.cells #[.int .i64 0, .int .i64 0, .int .i64 0, .bool false, .int .i64 0, .int .i32 0, .bool false, .slice none 0 0, .string ⟨#[]⟩, .slice none 0 0] 33) = w0 at *
                refine (Tryd.utf8_DecodeRuneInString (s.extract (k + 2) s.size) _ (hL.below hz.2).tabs).mono ?_
                rintro e w1 ⟨rfl, hb1⟩
                rw [HD1.out, HD2.out]
                replace hz := hz.step hb1
                clear hb1
                go_wp2_with fail
                refine (run0_any s (k + 2 + n) (by omega) (by omega) _).mono ?_
                rintro e w2 ⟨rfl, rfl⟩
                rw [HM.out]
                go_wp2_with fail
                refine (named_any _ _).mono ?_
                rintro e w3 ⟨hn, rfl⟩
                unfold NamRes at hn
                rw [HV.out] at hn
                simp only at hn
                subst hn
                go_wp2_with fail
                refine (digits_any _ hsz _).mono ?_
                rintro e w4 ⟨hb4, hm⟩
                rw [HX.out] at hm
                simp only at hm
                obtain ⟨r0, rfl⟩ := hm
                replace hz := hz.step hb4
                clear hb4
                go_wp2_with fail
                refine (wrong_any _ _ _ _).mono ?_
                rintro e w9 ⟨v, rfl, hv, hb9⟩
                replace hz := hz.step hb9
                clear hb9
                go_wp2_with (refine store_tok rfl (.tmp 4) (.tmp 74) rfl w.heap.size zeroCs (by rfl) (by rfl) _ hz.1 rfl rfl one_zeroCs ?_)
                exact bodyPost_ret (results_te Tryd.results29 rfl rfl (setRow_at hz.1) rfl) rfl (tok_bad HG.out (below_setRow hz.2 (Nat.le_refl _) _) (wrong_set hv hz.1 _))
            · rw [if_neg hx] at hG
              have HG := Lib.hid hG.symm
              have hc2 : ((c : Int) == 120) = false := by rw [beq_eq_false_iff_ne]; omega
              clear hG hx
              go_enter Tryd.func29, Tryd.ntmps29
              go_wp2_with fail
              have hz := Zd.new w
              change Zd w (w.alloc (.cells #[.int .i64 0, .int .i64 0, .int .i64 0, .bool false, .int .i64 0, .int .i32 0, .bool false, .slice none 0 0, .string ⟨#[]⟩, .slice none 0 0] 33)) at hz
              generalize w.alloc (.cells #[.int .i64 0, .int .i64 0, .int .i64 0, .bool false, .int .i64 0, .int .i32 0, .bool false, .slice none 0 0, .string ⟨#[]⟩, .slice none 0 0] 33) = w0 at *
              refine (Tryd.utf8_DecodeRuneInString (s.extract (k + 2) s.size) _ (hL.below hz.2).tabs).mono ?_
              rintro e w1 ⟨rfl, hb1⟩
              rw [HD1.out, HD2.out]
              replace hz := hz.step hb1
              clear hb1
              go_wp2_with fail
              refine (run0_any s (k + 2 + n) (by omega) (by omega) _).mono ?_
              rintro e w2 ⟨rfl, rfl⟩
              rw [HM.out]
              go_wp2_with fail
              refine (named_any _ _).mono ?_
              rintro e w3 ⟨hn, rfl⟩
              unfold NamRes at hn
              rw [HV.out] at hn
              simp only at hn
              subst hn
              go_wp2_with fail
              refine (wrong_any _ _ _ _).mono ?_
              rintro e w9 ⟨v, rfl, hv, hb9⟩
              replace hz := hz.step hb9
              clear hb9
              go_wp2_with (refine store_tok rfl (.tmp 4) (.tmp 74) rfl w.heap.size zeroCs (by rfl) (by rfl) _ hz.1 rfl rfl one_zeroCs ?_)
              exact bodyPost_ret (results_te Tryd.results29 rfl rfl (setRow_at hz.1) rfl) rfl (tok_bad HG.out (below_setRow hz.2 (Nat.le_refl _) _) (wrong_set hv hz.1 _))
      · have hc1 : ((c : Int) == 65533) = false := by rw [beq_eq_false_iff_ne]; omega
        clear hw hbad hcc
        by_cases hm0 : m = 0
        · subst hm0
          rw [if_pos rfl] at hG
          have HG := Lib.hid hG.symm
          clear hG hx2
          go_enter Tryd.func29, Tryd.ntmps29
          go_wp2_with fail
          have hz := Zd.new w
          change Zd w (w.alloc (.cells #[.int .i64 0, .int .i64 0, .int .i64 0, .bool false, .int .i64 0, .int .i32 0, .bool false, .slice none 0 0, .string ⟨#[]⟩, .slice none 0 0] 33)) at hz
          generalize w.alloc (.cells #[.int .i64 0, .int .i64 0, .int .i64 0, .bool false, .int .i64 0, .int .i32 0, .bool false, .slice none 0 0, .string ⟨#[]⟩, .slice none 0 0] 33) = w0 at *
          refine (Tryd.utf8_DecodeRuneInString (s.extract (k + 2) s.size) _ (hL.below hz.2).tabs).mono ?_
          rintro e w1 ⟨rfl, hb1⟩
          rw [HD1.out, HD2.out]
          replace hz := hz.step hb1
          clear hb1
          go_wp2_with fail
          refine (run0_any s (k + 2 + n) (by omega) (by omega) _).mono ?_
          rintro e w2 ⟨rfl, rfl⟩
          rw [HM.out]
          go_wp2_with fail
          refine (atom_any 3 c false none 0 0 ⟨#[]⟩ k _ _).mono ?_
          rintro e w6 ⟨rfl, hb6⟩
          replace hz := hz.step hb6
          clear hb6
          go_wp2_with (refine store_tok rfl (.tmp 4) (.tmp 82) rfl w.heap.size (tkCs { tkD 3 k (k + 2 + n) with c := c } (.slice none 0 0)) (by rfl) (by rfl) _ hz.1 rfl rfl (one_tkCs _ _ _ _) ?_)
          exact bodyPost_ret (results_te Tryd.results29 rfl rfl (setRow_at hz.1) rfl) rfl (tok_ok HG.out (below_setRow hz.2 (Nat.le_refl _) _) ⟨_, _, rfl, Reads.nil _ _ _⟩)
        · rw [if_neg hm0] at hG
          have hemp : (s.extract (k + 2 + n) (k + 2 + n + m)).toList.isEmpty = false := by
            rw [Lib.toList_data, hx2, drop_at s (by omega)]
            obtain ⟨m', rfl⟩ : ∃ m', m = m' + 1 := ⟨m - 1, by omega⟩
            rfl
          have hemp2 : ¬ (s.extract (k + 2 + n) (k + 2 + n + m)).toList = [] := by
            intro h; rw [h] at hemp; cases hemp
          have hsz : (s.extract (k + 2 + n) (k + 2 + n + m)).size ≤ 9223372036854775800 := by rw [ByteArray.size_extract]; omega
          clear hx2
          cases hv : nameV (s.extract (k + 2) (k + 2 + n + m)).data.toList with
          | some r =>
            rw [hv] at hG
            have HG := Lib.hid hG.symm
            have HV := Lib.hid hv
            clear hG hv
            go_enter Tryd.func29, Tryd.ntmps29
            go_wp2_with fail
            have hz := Zd.new w
            change Zd w (w.alloc (.cells #[.int .i64 0, .int .i64 0, .int .i64 0, .bool false, .int .i64 0, .int .i32 0, .bool false, .slice none 0 0, .string ⟨#[]⟩, .slice none 0 0] 33)) at hz
            generalize w.alloc (.cells #[.int .i64 0, .int .i64 0, .int .i64 0, .bool false, .int .i64 0, .int .i32 0, .bool false, .slice none 0 0, .string ⟨#[]⟩, .slice none 0 0] 33) = w0 at *
            refine (Tryd.utf8_DecodeRuneInString (s.extract (k + 2) s.size) _ (hL.below hz.2).tabs).mono ?_
            rintro e w1 ⟨rfl, hb1⟩
            rw [HD1.out, HD2.out]
            replace hz := hz.step hb1
            clear hb1
            go_wp2_with fail
            refine (run0_any s (k + 2 + n) (by omega) (by omega) _).mono ?_
            rintro e w2 ⟨rfl, rfl⟩
            rw [HM.out]
            go_wp2_with fail
            refine (named_any _ _).mono ?_
            rintro e w3 ⟨hn, rfl⟩
            unfold NamRes at hn
            rw [HV.out] at hn
            simp only at hn
            obtain ⟨r0, hr0⟩ : ∃ r0 : Int, r0 = (r : Int) := ⟨_, rfl⟩
            rw [← hr0] at hn
            have HR0 := Lib.hid hr0
            clear hr0
            subst hn
            go_wp2_with fail
            rw [HR0.out]
            refine (atom_any 3 r false none 0 0 ⟨#[]⟩ k _ _).mono ?_
            rintro e w6 ⟨rfl, hb6⟩
            replace hz := hz.step hb6
            clear hb6
            go_wp2_with (refine store_tok rfl (.tmp 4) (.tmp 82) rfl w.heap.size (tkCs { tkD 3 k (k + 2 + n + m) with c := r } (.slice none 0 0)) (by rfl) (by rfl) _ hz.1 rfl rfl (one_tkCs _ _ _ _) ?_)
            exact bodyPost_ret (results_te Tryd.results29 rfl rfl (setRow_at hz.1) rfl) rfl (tok_ok HG.out (below_setRow hz.2 (Nat.le_refl _) _) ⟨_, _, rfl, Reads.nil _ _ _⟩)
          | none =>
            rw [hv] at hG
            have HV := Lib.hid hv
            clear hv
            simp only at hG
            by_cases hx : c = 120
            · rw [if_pos hx] at hG
              have hc2 : ((c : Int) == 120) = true := by rw [beq_iff_eq]; omega
              clear hx
              cases hx : hexV (s.extract (k + 2 + n) (k + 2 + n + m)).data.toList with
              | some r =>
                rw [hx] at hG
                have HG := Lib.hid hG.symm
                have HX := Lib.hid hx
                clear hG hx
                go_enter Tryd.func29, Tryd.ntmps29
                go_wp2_with fail
                have hz := Zd.new w
                change Zd w (w.alloc (.cells #[.int .i64 0, .int .i64 0, .int .i64 0, .bool false, .int .i64 0, .int .i32 0, .bool false, .slice none 0 0, .string ⟨#[]⟩, .slice none 0 0] 33)) at hz
                generalize w.alloc (.cells #[.int .i64 0, .int .i64 0, .int .i64 0, .bool false, .int .i64 0, .int .i32 0, .bool false, .slice none 0 0, .string ⟨#[]⟩, .slice none 0 0] 33) = w0 at *
                refine (Tryd.utf8_DecodeRuneInString (s.extract (k + 2) s.size) _ (hL.below hz.2).tabs).mono ?_
                rintro e w1 ⟨rfl, hb1⟩
                rw [HD1.out, HD2.out]
                replace hz := hz.step hb1
                clear hb1
                go_wp2_with fail
                refine (run0_any s (k + 2 + n) (by omega) (by omega) _).mono ?_
                rintro e w2 ⟨rfl, rfl⟩
                rw [HM.out]
                go_wp2_with fail
                refine (named_any _ _).mono ?_
                rintro e w3 ⟨hn, rfl⟩
                unfold NamRes at hn
                rw [HV.out] at hn
                simp only at hn
                subst hn
                go_wp2_with fail
                refine (digits_any _ hsz _).mono ?_
                rintro e w4 ⟨hb4, hm⟩
                rw [HX.out] at hm
                simp only at hm
                obtain ⟨r0, hr0⟩ : ∃ r0 : Int, r0 = (r : Int) := ⟨_, rfl⟩
                rw [← hr0] at hm
                have HR0 := Lib.hid hr0
                clear hr0
                subst hm
                replace hz := hz.step hb4
                clear hb4
                go_wp2_with fail
                rw [HR0.out]
                refine (atom_any 3 r false none 0 0 ⟨#[]⟩ k _ _).mono ?_
                rintro e w6 ⟨rfl, hb6⟩
                replace hz := hz.step hb6
                clear hb6
                go_wp2_with (refine store_tok rfl (.tmp 4) (.tmp 82) rfl w.heap.size (tkCs { tkD 3 k (k + 2 + n + m) with c := r } (.slice none 0 0)) (by rfl) (by rfl) _ hz.1 rfl rfl (one_tkCs _ _ _ _) ?_)
                exact bodyPost_ret (results_te Tryd.results29 rfl rfl (setRow_at hz.1) rfl) rfl (tok_ok HG.out (below_setRow hz.2 (Nat.le_refl _) _) ⟨_, _, rfl, Reads.nil _ _ _⟩)
              | none =>
                rw [hx] at hG
                have HG := Lib.hid hG.symm
                have HX := Lib.hid hx
                clear hG hx
                go_enter Tryd.func29, Tryd.ntmps29
                go_wp2_with fail
                have hz := Zd.new w
                change Zd w (w.alloc (.cells #[.int .i64 0, .int .i64 0, .int .i64 0, .bool false, .int .i64 0, .int .i32 0, .bool false, .slice none 0 0, .string ⟨#[]⟩, .slice none 0 0] 33)) at hz
                generalize w.alloc (.cells #[.int .i64 0, .int .i64 0, .int .i64 0, .bool false, .int .i64 0, .int .i32 0, .bool false, .slice none 0 0, .string ⟨#[]⟩, .slice none 0 0] 33) = w0 at *
                refine (Tryd.utf8_DecodeRuneInString (s.extract (k + 2) s.size) _ (hL.below hz.2).tabs).mono ?_
                rintro e w1 ⟨rfl, hb1⟩
                rw [HD1.out, HD2.out]
                replace hz := hz.step hb1
                clear hb1
                go_wp2_with fail
                refine (run0_any s (k + 2 + n) (by omega) (by omega) _).mono ?_
                rintro e w2 ⟨rfl, rfl⟩
                rw [HM.out]
                go_wp2_with fail
                refine (named_any _ _).mono ?_
                rintro e w3 ⟨hn, rfl⟩
                unfold NamRes at hn
                rw [HV.out] at hn
                simp only at hn
                subst hn
                go_wp2_with fail
                refine (digits_any _ hsz _).mono ?_
                rintro e w4 ⟨hb4, hm⟩
                rw [HX.out] at hm
                simp only at hm
                obtain ⟨r0, rfl⟩ := hm
                replace hz := hz.step hb4
                clear hb4
                go_wp2_with fail
                refine (wrong_any _ _ _ _).mono ?_
                rintro e w9 ⟨v, rfl, hv, hb9⟩
                replace hz := hz.step hb9
                clear hb9
                go_wp2_with (refine store_tok rfl (.tmp 4) (.tmp 74) rfl w.heap.size zeroCs (by rfl) (by rfl) _ hz.1 rfl rfl one_zeroCs ?_)
                exact bodyPost_ret (results_te Tryd.results29 rfl rfl (setRow_at hz.1) rfl) rfl (tok_bad HG.out (below_setRow hz.2 (Nat.le_refl _) _) (wrong_set hv hz.1 _))
            · rw [if_neg hx] at hG
              have HG := Lib.hid hG.symm
              have hc2 : ((c : Int) == 120) = false := by rw [beq_eq_false_iff_ne]; omega
              clear hG hx
              go_enter Tryd.func29, Tryd.ntmps29
              go_wp2_with fail
              have hz := Zd.new w
              change Zd w (w.alloc (.cells #[.int .i64 0, .int .i64 0, .int .i64 0, .bool false, .int .i64 0, .int .i32 0, .bool false, .slice none 0 0, .string ⟨#[]⟩, .slice none 0 0] 33)) at hz
              generalize w.alloc (.cells #[.int .i64 0, .int .i64 0, .int .i64 0, .bool false, .int .i64 0, .int .i32 0, .bool false, .slice none 0 0, .string ⟨#[]⟩, .slice none 0 0] 33) = w0 at *
              refine (Tryd.utf8_DecodeRuneInString (s.extract (k + 2) s.size) _ (hL.below hz.2).tabs).mono ?_
              rintro e w1 ⟨rfl, hb1⟩
              rw [HD1.out, HD2.out]
              replace hz := hz.step hb1
              clear hb1
              go_wp2_with fail
              refine (run0_any s (k + 2 + n) (by omega) (by omega) _).mono ?_
              rintro e w2 ⟨rfl, rfl⟩
              rw [HM.out]
              go_wp2_with fail
              refine (named_any _ _).mono ?_
              rintro e w3 ⟨hn, rfl⟩
              unfold NamRes at hn
              rw [HV.out] at hn
              simp only at hn
              subst hn
              go_wp2_with fail
              refine (wrong_any _ _ _ _).mono ?_
              rintro e w9 ⟨v, rfl, hv, hb9⟩
              replace hz := hz.step hb9
              clear hb9
              go_wp2_with (refine store_tok rfl (.tmp 4) (.tmp 74) rfl w.heap.size zeroCs (by rfl) (by rfl) _ hz.1 rfl rfl one_zeroCs ?_)
              exact bodyPost_ret (results_te Tryd.results29 rfl rfl (setRow_at hz.1) rfl) rfl (tok_bad HG.out (below_setRow hz.2 (Nat.le_refl _) _) (wrong_set hv hz.1 _))
end Go.Proofs.YtkgebnbdgiengaaDoor
