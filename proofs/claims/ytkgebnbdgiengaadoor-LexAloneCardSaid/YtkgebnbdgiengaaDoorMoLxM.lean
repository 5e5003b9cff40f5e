/- The lexer's token: walked. -/
import Derived.Test.YtkgebnbdgiengaaDoorMoLxL
namespace Go.Proofs.YtkgebnbdgiengaaDoor
open Go.RowKit Lx

theorem head_drop (s : ByteArray) (k : Nat) (b : UInt8) : (s.data.toList.drop k).head? = some b ↔ ∃ h : k < s.size, s[k] = b := by
  by_cases h : k < s.size
  · rw [drop_at s h]; simp [h]
  · rw [drop_end s (by omega)]; simp [h]

set_option maxRecDepth 100000 in
set_option maxHeartbeats 3200000 in
theorem token_any (s : ByteArray) (k : Nat) (hk : k < s.size) (hs : s.size ≤ 4096) (hb : isBlank s[k] = false) (h59 : s[k] ≠ 59) (w : World) (hL : Lu w) :
    Calls Tryd.prog 19 #[.string s, .int .i64 k] w (TokRes (tkn k s[k] (s.data.toList.drop (k + 1))) w) := by
  obtain ⟨G, hG⟩ : ∃ G, tkn k s[k] (s.data.toList.drop (k + 1)) = G := ⟨_, rfl⟩
  rw [hG]
  rw [tkn] at hG
  by_cases h40 : s[k] = 40
  · rw [if_pos (.inl h40)] at hG
    have hz := u8_yes (n := 40) (by decide) h40
    rw [h40] at hG
    have HG := Lib.hid hG.symm
    clear hG hb h59 h40
    go_enter Tryd.func19, Tryd.ntmps19
    go_wp2_with fail
    exact bodyPost_ret (v := .tuple #[tkVal (tk0 1 k (k + 1) (decide ((40 : UInt8) = 91))) (.slice none 0 0), .nilIface]) (by simp [results, Tryd.results19, go_sem, tkVal, tkCs, tk0]) rfl
      (tok_ok HG.out (((Below.refl _ _).alloc (Nat.le_refl _) _).alloc (by simp) _) ⟨none, 0, rfl, Reads.nil _ _ _⟩)
  have n40 : ((s[k].toNat : Int) == 40) = false := u8_ne (n := 40) (by decide) h40
  by_cases h91 : s[k] = 91
  · rw [if_pos (.inr h91)] at hG
    have hz := u8_yes (n := 91) (by decide) h91
    rw [h91] at hG
    have HG := Lib.hid hG.symm
    clear hG hb h59 h91 h40 n40
    go_enter Tryd.func19, Tryd.ntmps19
    go_wp2_with fail
    exact bodyPost_ret (v := .tuple #[tkVal (tk0 1 k (k + 1) (decide ((91 : UInt8) = 91))) (.slice none 0 0), .nilIface]) (by simp [results, Tryd.results19, go_sem, tkVal, tkCs, tk0]) rfl
      (tok_ok HG.out (((Below.refl _ _).alloc (Nat.le_refl _) _).alloc (by simp) _) ⟨none, 0, rfl, Reads.nil _ _ _⟩)
  have n91 : ((s[k].toNat : Int) == 91) = false := u8_ne (n := 91) (by decide) h91
  rw [if_neg (fun h => h.elim h40 h91)] at hG
  by_cases h41 : s[k] = 41
  · rw [if_pos (.inl h41)] at hG
    have hz := u8_yes (n := 41) (by decide) h41
    rw [h41] at hG
    have HG := Lib.hid hG.symm
    clear hG hb h59 h41 h40 n40 h91 n91
    go_enter Tryd.func19, Tryd.ntmps19
    go_wp2_with fail
    exact bodyPost_ret (v := .tuple #[tkVal (tk0 2 k (k + 1) (decide ((41 : UInt8) = 93))) (.slice none 0 0), .nilIface]) (by simp [results, Tryd.results19, go_sem, tkVal, tkCs, tk0]) rfl
      (tok_ok HG.out (((Below.refl _ _).alloc (Nat.le_refl _) _).alloc (by simp) _) ⟨none, 0, rfl, Reads.nil _ _ _⟩)
  have n41 : ((s[k].toNat : Int) == 41) = false := u8_ne (n := 41) (by decide) h41
  by_cases h93 : s[k] = 93
  · rw [if_pos (.inr h93)] at hG
    have hz := u8_yes (n := 93) (by decide) h93
    rw [h93] at hG
    have HG := Lib.hid hG.symm
    clear hG hb h59 h93 h40 n40 h91 n91 h41 n41
    go_enter Tryd.func19, Tryd.ntmps19
    go_wp2_with fail
    exact bodyPost_ret (v := .tuple #[tkVal (tk0 2 k (k + 1) (decide ((93 : UInt8) = 93))) (.slice none 0 0), .nilIface]) (by simp [results, Tryd.results19, go_sem, tkVal, tkCs, tk0]) rfl
      (tok_ok HG.out (((Below.refl _ _).alloc (Nat.le_refl _) _).alloc (by simp) _) ⟨none, 0, rfl, Reads.nil _ _ _⟩)
  have n93 : ((s[k].toNat : Int) == 93) = false := u8_ne (n := 93) (by decide) h93
  rw [if_neg (fun h => h.elim h41 h93)] at hG
  by_cases h39 : s[k] = 39
  · rw [if_pos (h39)] at hG
    have hz := u8_yes (n := 39) (by decide) h39
    skip
    have HG := Lib.hid hG.symm
    clear hG hb h59 h39 h40 n40 h91 n91 h41 n41 h93 n93
    go_enter Tryd.func19, Tryd.ntmps19
    go_wp2_with fail
    exact bodyPost_ret (v := .tuple #[tkVal (tk0 4 k (k + 1) false) (.slice none 0 0), .nilIface]) (by simp [results, Tryd.results19, go_sem, tkVal, tkCs, tk0]) rfl
      (tok_ok HG.out (((Below.refl _ _).alloc (Nat.le_refl _) _).alloc (by simp) _) ⟨none, 0, rfl, Reads.nil _ _ _⟩)
  have n39 : ((s[k].toNat : Int) == 39) = false := u8_ne (n := 39) (by decide) h39
  rw [if_neg h39] at hG
  by_cases h96 : s[k] = 96
  · rw [if_pos (h96)] at hG
    have hz := u8_yes (n := 96) (by decide) h96
    skip
    have HG := Lib.hid hG.symm
    clear hG hb h59 h96 h40 n40 h91 n91 h41 n41 h93 n93 h39 n39
    go_enter Tryd.func19, Tryd.ntmps19
    go_wp2_with fail
    exact bodyPost_ret (v := .tuple #[tkVal (tk0 5 k (k + 1) false) (.slice none 0 0), .nilIface]) (by simp [results, Tryd.results19, go_sem, tkVal, tkCs, tk0]) rfl
      (tok_ok HG.out (((Below.refl _ _).alloc (Nat.le_refl _) _).alloc (by simp) _) ⟨none, 0, rfl, Reads.nil _ _ _⟩)
  have n96 : ((s[k].toNat : Int) == 96) = false := u8_ne (n := 96) (by decide) h96
  rw [if_neg h96] at hG
  by_cases h44 : s[k] = 44
  · rw [if_pos h44] at hG
    have hz := u8_yes (n := 44) (by decide) h44
    by_cases h64 : (s.data.toList.drop (k + 1)).head? = some 64
    · rw [if_pos h64] at hG
      have HG := Lib.hid hG.symm
      have HP := Lib.hid ((ext_pre s k 44 64).2 (by obtain ⟨h, h'⟩ := (head_drop s (k + 1) 64).1 h64; exact ⟨h, h44, h'⟩))
      clear hG hb h59 h44 h64 h40 n40 h91 n91 h41 n41 h93 n93 h39 n39 h96 n96
      go_enter Tryd.func19, Tryd.ntmps19
      go_wp2_with fail
      refine (pre_is (p := ⟨#[44, 64]⟩) HP.out _).mono ?_
      rintro e w' ⟨rfl, rfl⟩
      go_wp2_with fail
      exact bodyPost_ret (v := .tuple #[tkVal (tk0 7 k (k + 2) false) (.slice none 0 0), .nilIface]) (by simp [results, Tryd.results19, go_sem, tkVal, tkCs, tk0]) rfl
        (tok_ok HG.out (((Below.refl _ _).alloc (Nat.le_refl _) _).alloc (by simp) _) ⟨none, 0, rfl, Reads.nil _ _ _⟩)
    · rw [if_neg h64] at hG
      have HG := Lib.hid hG.symm
      have HP : Hid ([44, 64].isPrefixOf (s.extract k s.size).data.toList = false) := Lib.hid (by
        rw [← Bool.not_eq_true, ext_pre]
        rintro ⟨h, _, h'⟩
        exact h64 ((head_drop s (k + 1) 64).2 ⟨h, h'⟩))
      clear hG hb h59 h44 h64 h40 n40 h91 n91 h41 n41 h93 n93 h39 n39 h96 n96
      go_enter Tryd.func19, Tryd.ntmps19
      go_wp2_with fail
      refine (pre_is (p := ⟨#[44, 64]⟩) HP.out _).mono ?_
      rintro e w' ⟨rfl, rfl⟩
      go_wp2_with fail
      exact bodyPost_ret (v := .tuple #[tkVal (tk0 6 k (k + 1) false) (.slice none 0 0), .nilIface]) (by simp [results, Tryd.results19, go_sem, tkVal, tkCs, tk0]) rfl
        (tok_ok HG.out (((Below.refl _ _).alloc (Nat.le_refl _) _).alloc (by simp) _) ⟨none, 0, rfl, Reads.nil _ _ _⟩)
  have n44 : ((s[k].toNat : Int) == 44) = false := u8_ne (n := 44) (by decide) h44
  rw [if_neg h44] at hG
  by_cases h34 : s[k] = 34
  · rw [if_pos (.inl h34), h34] at hG
    have hz0 := u8_yes (n := 34) (by decide) h34
    obtain ⟨Q, hQ⟩ : ∃ Q, qtd 34 k .plain (k + 1) [] (s.data.toList.drop (k + 1)) = Q := ⟨_, rfl⟩
    rw [hQ] at hG
    have hqa := fun W => quoted_any s k hk hs 34 (.inl rfl) h34 W
    rw [hQ] at hqa
    have HQ := Lib.hid hqa
    clear hQ hqa hb h59 h34 h40 n40 h91 n91 h41 n41 h93 n93 h39 n39 h96 n96 h44 n44
    cases Q with
    | error pc =>
      obtain ⟨p, cc⟩ := pc
      have HG : Hid (G = .error (p, cc)) := Lib.hid hG.symm
      clear hG
      go_enter Tryd.func19, Tryd.ntmps19
      go_wp2_with fail
      have hz := (Zd.new w).alloc (.cells #[.int .i64 0, .int .i64 (k : Int), .int .i64 ((k : Int) + 1), .bool false, .int .i64 0, .int .i32 0, .bool false, .slice none 0 0, .string ⟨#[]⟩, .slice none 0 0] 33)
      change Zd w ((w.alloc (.cells #[.int .i64 0, .int .i64 0, .int .i64 0, .bool false, .int .i64 0, .int .i32 0, .bool false, .slice none 0 0, .string ⟨#[]⟩, .slice none 0 0] 33)).alloc (.cells #[.int .i64 0, .int .i64 (k : Int), .int .i64 ((k : Int) + 1), .bool false, .int .i64 0, .int .i32 0, .bool false, .slice none 0 0, .string ⟨#[]⟩, .slice none 0 0] 33)) at hz
      generalize (w.alloc (.cells #[.int .i64 0, .int .i64 0, .int .i64 0, .bool false, .int .i64 0, .int .i32 0, .bool false, .slice none 0 0, .string ⟨#[]⟩, .slice none 0 0] 33)).alloc (.cells #[.int .i64 0, .int .i64 (k : Int), .int .i64 ((k : Int) + 1), .bool false, .int .i64 0, .int .i32 0, .bool false, .slice none 0 0, .string ⟨#[]⟩, .slice none 0 0] 33) = w0 at *
      refine (HQ.out w0).mono ?_
      rintro e w2 ⟨hb2, hm⟩
      simp only at hm
      obtain ⟨v, rfl, hv⟩ := hm
      obtain ⟨bb, kk, what, rfl, hv1, hv2⟩ := hv
      replace hz := hz.step hb2
      clear hb2
      go_wp2_with (refine store_tok rfl (.tmp 4) (.tmp 66) rfl w.heap.size zeroCs (by rfl) (by rfl) _ hz.1 rfl rfl one_zeroCs ?_)
      exact bodyPost_ret (results_te Tryd.results19 rfl rfl (setRow_at hz.1) rfl) rfl (tok_bad HG.out (below_setRow hz.2 (Nat.le_refl _) _) (wrong_set ⟨bb, kk, what, rfl, hv1, hv2⟩ hz.1 _))
    | ok xn =>
      obtain ⟨x, n⟩ := xn
      have HG : Hid (txd 5 x k n = G) := Lib.hid hG
      clear hG
      go_enter Tryd.func19, Tryd.ntmps19
      go_wp2_with fail
      have hz := (Zd.new w).alloc (.cells #[.int .i64 0, .int .i64 (k : Int), .int .i64 ((k : Int) + 1), .bool false, .int .i64 0, .int .i32 0, .bool false, .slice none 0 0, .string ⟨#[]⟩, .slice none 0 0] 33)
      change Zd w ((w.alloc (.cells #[.int .i64 0, .int .i64 0, .int .i64 0, .bool false, .int .i64 0, .int .i32 0, .bool false, .slice none 0 0, .string ⟨#[]⟩, .slice none 0 0] 33)).alloc (.cells #[.int .i64 0, .int .i64 (k : Int), .int .i64 ((k : Int) + 1), .bool false, .int .i64 0, .int .i32 0, .bool false, .slice none 0 0, .string ⟨#[]⟩, .slice none 0 0] 33)) at hz
      generalize (w.alloc (.cells #[.int .i64 0, .int .i64 0, .int .i64 0, .bool false, .int .i64 0, .int .i32 0, .bool false, .slice none 0 0, .string ⟨#[]⟩, .slice none 0 0] 33)).alloc (.cells #[.int .i64 0, .int .i64 (k : Int), .int .i64 ((k : Int) + 1), .bool false, .int .i64 0, .int .i32 0, .bool false, .slice none 0 0, .string ⟨#[]⟩, .slice none 0 0] 33) = w0 at *
      refine (HQ.out w0).mono ?_
      rintro e w2 ⟨hb2, hm⟩
      simp only at hm
      obtain ⟨hn1, hn2, hxl, rfl⟩ := hm
      replace hz := hz.step hb2
      clear hb2
      go_wp2_with fail
      refine (texted_any 5 (.inl rfl) ⟨x.toArray⟩ (by show x.toArray.size ≤ 1000000; simp; omega) k n w2 (hL.below hz.2)).mono ?_
      rintro e w3 ⟨hb3, hm⟩
      have hxx : (⟨x.toArray⟩ : ByteArray).data.toList = x := rfl
      rw [hxx, HG.out] at hm
      replace hz := hz.step hb3
      clear hb3 hxx
      cases G with
      | ok x =>
        simp only at hm
        obtain ⟨v, rfl, A, c, rfl, hRd⟩ := hm
        go_wp2_with (refine store_tok rfl (.tmp 4) (.tmp 77) rfl w.heap.size (tkCs x (.slice A x.mag.length c)) (by rfl) (by rfl) _ hz.1 rfl rfl (one_tkCs _ _ _ _) ?_)
        exact bodyPost_ret (results_te Tryd.results19 rfl rfl (setRow_at hz.1) rfl) rfl (tok_ok rfl (below_setRow hz.2 (Nat.le_refl _) _) (tkv_set ⟨A, c, rfl, hRd⟩ hz.1 _))
      | error pc =>
        obtain ⟨p, c⟩ := pc
        simp only at hm
        obtain ⟨v, rfl, hv⟩ := hm
        obtain ⟨bb, kk, what, rfl, hv1, hv2⟩ := hv
        go_wp2_with (refine store_tok rfl (.tmp 4) (.tmp 77) rfl w.heap.size zeroCs (by rfl) (by rfl) _ hz.1 rfl rfl one_zeroCs ?_)
        exact bodyPost_ret (results_te Tryd.results19 rfl rfl (setRow_at hz.1) rfl) rfl (tok_bad rfl (below_setRow hz.2 (Nat.le_refl _) _) (wrong_set ⟨bb, kk, what, rfl, hv1, hv2⟩ hz.1 _))
  have n34 : ((s[k].toNat : Int) == 34) = false := u8_ne (n := 34) (by decide) h34
  by_cases h124 : s[k] = 124
  · rw [if_pos (.inr h124), h124] at hG
    have hz0 := u8_yes (n := 124) (by decide) h124
    obtain ⟨Q, hQ⟩ : ∃ Q, qtd 124 k .plain (k + 1) [] (s.data.toList.drop (k + 1)) = Q := ⟨_, rfl⟩
    rw [hQ] at hG
    have hqa := fun W => quoted_any s k hk hs 124 (.inr rfl) h124 W
    rw [hQ] at hqa
    have HQ := Lib.hid hqa
    clear hQ hqa hb h59 h124 h40 n40 h91 n91 h41 n41 h93 n93 h39 n39 h96 n96 h44 n44 h34 n34
    cases Q with
    | error pc =>
      obtain ⟨p, cc⟩ := pc
      have HG : Hid (G = .error (p, cc)) := Lib.hid hG.symm
      clear hG
      go_enter Tryd.func19, Tryd.ntmps19
      go_wp2_with fail
      have hz := (Zd.new w).alloc (.cells #[.int .i64 0, .int .i64 (k : Int), .int .i64 ((k : Int) + 1), .bool false, .int .i64 0, .int .i32 0, .bool false, .slice none 0 0, .string ⟨#[]⟩, .slice none 0 0] 33)
      change Zd w ((w.alloc (.cells #[.int .i64 0, .int .i64 0, .int .i64 0, .bool false, .int .i64 0, .int .i32 0, .bool false, .slice none 0 0, .string ⟨#[]⟩, .slice none 0 0] 33)).alloc (.cells #[.int .i64 0, .int .i64 (k : Int), .int .i64 ((k : Int) + 1), .bool false, .int .i64 0, .int .i32 0, .bool false, .slice none 0 0, .string ⟨#[]⟩, .slice none 0 0] 33)) at hz
      generalize (w.alloc (.cells #[.int .i64 0, .int .i64 0, .int .i64 0, .bool false, .int .i64 0, .int .i32 0, .bool false, .slice none 0 0, .string ⟨#[]⟩, .slice none 0 0] 33)).alloc (.cells #[.int .i64 0, .int .i64 (k : Int), .int .i64 ((k : Int) + 1), .bool false, .int .i64 0, .int .i32 0, .bool false, .slice none 0 0, .string ⟨#[]⟩, .slice none 0 0] 33) = w0 at *
      refine (HQ.out w0).mono ?_
      rintro e w2 ⟨hb2, hm⟩
      simp only at hm
      obtain ⟨v, rfl, hv⟩ := hm
      obtain ⟨bb, kk, what, rfl, hv1, hv2⟩ := hv
      replace hz := hz.step hb2
      clear hb2
      go_wp2_with (refine store_tok rfl (.tmp 4) (.tmp 66) rfl w.heap.size zeroCs (by rfl) (by rfl) _ hz.1 rfl rfl one_zeroCs ?_)
      exact bodyPost_ret (results_te Tryd.results19 rfl rfl (setRow_at hz.1) rfl) rfl (tok_bad HG.out (below_setRow hz.2 (Nat.le_refl _) _) (wrong_set ⟨bb, kk, what, rfl, hv1, hv2⟩ hz.1 _))
    | ok xn =>
      obtain ⟨x, n⟩ := xn
      have HG : Hid (txd 6 x k n = G) := Lib.hid hG
      clear hG
      go_enter Tryd.func19, Tryd.ntmps19
      go_wp2_with fail
      have hz := (Zd.new w).alloc (.cells #[.int .i64 0, .int .i64 (k : Int), .int .i64 ((k : Int) + 1), .bool false, .int .i64 0, .int .i32 0, .bool false, .slice none 0 0, .string ⟨#[]⟩, .slice none 0 0] 33)
      change Zd w ((w.alloc (.cells #[.int .i64 0, .int .i64 0, .int .i64 0, .bool false, .int .i64 0, .int .i32 0, .bool false, .slice none 0 0, .string ⟨#[]⟩, .slice none 0 0] 33)).alloc (.cells #[.int .i64 0, .int .i64 (k : Int), .int .i64 ((k : Int) + 1), .bool false, .int .i64 0, .int .i32 0, .bool false, .slice none 0 0, .string ⟨#[]⟩, .slice none 0 0] 33)) at hz
      generalize (w.alloc (.cells #[.int .i64 0, .int .i64 0, .int .i64 0, .bool false, .int .i64 0, .int .i32 0, .bool false, .slice none 0 0, .string ⟨#[]⟩, .slice none 0 0] 33)).alloc (.cells #[.int .i64 0, .int .i64 (k : Int), .int .i64 ((k : Int) + 1), .bool false, .int .i64 0, .int .i32 0, .bool false, .slice none 0 0, .string ⟨#[]⟩, .slice none 0 0] 33) = w0 at *
      refine (HQ.out w0).mono ?_
      rintro e w2 ⟨hb2, hm⟩
      simp only at hm
      obtain ⟨hn1, hn2, hxl, rfl⟩ := hm
      replace hz := hz.step hb2
      clear hb2
      go_wp2_with fail
      refine (texted_any 6 (.inr rfl) ⟨x.toArray⟩ (by show x.toArray.size ≤ 1000000; simp; omega) k n w2 (hL.below hz.2)).mono ?_
      rintro e w3 ⟨hb3, hm⟩
      have hxx : (⟨x.toArray⟩ : ByteArray).data.toList = x := rfl
      rw [hxx, HG.out] at hm
      replace hz := hz.step hb3
      clear hb3 hxx
      cases G with
      | ok x =>
        simp only at hm
        obtain ⟨v, rfl, A, c, rfl, hRd⟩ := hm
        go_wp2_with (refine store_tok rfl (.tmp 4) (.tmp 77) rfl w.heap.size (tkCs x (.slice A x.mag.length c)) (by rfl) (by rfl) _ hz.1 rfl rfl (one_tkCs _ _ _ _) ?_)
        exact bodyPost_ret (results_te Tryd.results19 rfl rfl (setRow_at hz.1) rfl) rfl (tok_ok rfl (below_setRow hz.2 (Nat.le_refl _) _) (tkv_set ⟨A, c, rfl, hRd⟩ hz.1 _))
      | error pc =>
        obtain ⟨p, c⟩ := pc
        simp only at hm
        obtain ⟨v, rfl, hv⟩ := hm
        obtain ⟨bb, kk, what, rfl, hv1, hv2⟩ := hv
        go_wp2_with (refine store_tok rfl (.tmp 4) (.tmp 77) rfl w.heap.size zeroCs (by rfl) (by rfl) _ hz.1 rfl rfl one_zeroCs ?_)
        exact bodyPost_ret (results_te Tryd.results19 rfl rfl (setRow_at hz.1) rfl) rfl (tok_bad rfl (below_setRow hz.2 (Nat.le_refl _) _) (wrong_set ⟨bb, kk, what, rfl, hv1, hv2⟩ hz.1 _))
  have n124 : ((s[k].toNat : Int) == 124) = false := u8_ne (n := 124) (by decide) h124
  rw [if_neg (fun h => h.elim h34 h124)] at hG
  by_cases hv : s[k] = 35 ∧ (s.data.toList.drop (k + 1)).head? = some 40
  · rw [if_pos hv] at hG
    have HG := Lib.hid hG.symm
    have HP1 := Lib.hid ((ext_pre s k 35 40).2 (by obtain ⟨h, h'⟩ := (head_drop s (k + 1) 40).1 hv.2; exact ⟨h, hv.1, h'⟩))
    clear hG hb h59 hv h40 h91 h41 h93 h39 h96 h44 h34 h124
    go_enter Tryd.func19, Tryd.ntmps19
    go_wp2_with fail
    refine (pre_is (p := ⟨#[35, 40]⟩) HP1.out _).mono ?_
    rintro e w' ⟨rfl, rfl⟩
    go_wp2_with fail
    exact bodyPost_ret (v := .tuple #[tkVal (tk0 3 k (k + 2) false) (.slice none 0 0), .nilIface]) (by simp [results, Tryd.results19, go_sem, tkVal, tkCs, tk0]) rfl
      (tok_ok HG.out (((Below.refl _ _).alloc (Nat.le_refl _) _).alloc (by simp) _) ⟨none, 0, rfl, Reads.nil _ _ _⟩)
  rw [if_neg hv] at hG
  have HP1 : Hid ([35, 40].isPrefixOf (s.extract k s.size).data.toList = false) := Lib.hid (by
    rw [← Bool.not_eq_true, ext_pre]
    rintro ⟨h, h0, h'⟩
    exact hv ⟨h0, (head_drop s (k + 1) 40).2 ⟨h, h'⟩⟩)
  by_cases hc : s[k] = 35 ∧ (s.data.toList.drop (k + 1)).head? = some 92
  · rw [if_pos hc, List.tail_drop] at hG
    have hk2 := (head_drop s (k + 1) 92).1 hc.2
    have HP2 := Lib.hid ((ext_pre s k 35 92).2 (by obtain ⟨h, h'⟩ := hk2; exact ⟨h, hc.1, h'⟩))
    have hk3 : k + 2 ≤ s.size := by obtain ⟨h, _⟩ := hk2; omega
    have HG := Lib.hid hG
    clear hG hb h59 hv hc hk2 h40 h91 h41 h93 h39 h96 h44 h34 h124
    go_enter Tryd.func19, Tryd.ntmps19
    go_wp2_with fail
    have hz := (Zd.new w).alloc (.cells #[.int .i64 0, .int .i64 (k : Int), .int .i64 ((k : Int) + 1), .bool false, .int .i64 0, .int .i32 0, .bool false, .slice none 0 0, .string ⟨#[]⟩, .slice none 0 0] 33)
    change Zd w ((w.alloc (.cells #[.int .i64 0, .int .i64 0, .int .i64 0, .bool false, .int .i64 0, .int .i32 0, .bool false, .slice none 0 0, .string ⟨#[]⟩, .slice none 0 0] 33)).alloc (.cells #[.int .i64 0, .int .i64 (k : Int), .int .i64 ((k : Int) + 1), .bool false, .int .i64 0, .int .i32 0, .bool false, .slice none 0 0, .string ⟨#[]⟩, .slice none 0 0] 33)) at hz
    generalize (w.alloc (.cells #[.int .i64 0, .int .i64 0, .int .i64 0, .bool false, .int .i64 0, .int .i32 0, .bool false, .slice none 0 0, .string ⟨#[]⟩, .slice none 0 0] 33)).alloc (.cells #[.int .i64 0, .int .i64 (k : Int), .int .i64 ((k : Int) + 1), .bool false, .int .i64 0, .int .i32 0, .bool false, .slice none 0 0, .string ⟨#[]⟩, .slice none 0 0] 33) = w0 at *
    refine (pre_is (p := ⟨#[35, 40]⟩) HP1.out _).mono ?_
    rintro e w' ⟨rfl, rfl⟩
    go_wp2_with fail
    refine (pre_is (p := ⟨#[35, 92]⟩) HP2.out _).mono ?_
    rintro e w' ⟨rfl, rfl⟩
    go_wp2_with fail
    refine (char_any s k hk3 hs _ (hL.below hz.2)).mono ?_
    rintro e w3 ⟨hb3, hm⟩
    rw [HG.out] at hm
    replace hz := hz.step hb3
    clear hb3
    cases G with
    | ok x =>
      simp only at hm
      obtain ⟨v, rfl, A, c, rfl, hRd⟩ := hm
      go_wp2_with (refine store_tok rfl (.tmp 4) (.tmp 101) rfl w.heap.size (tkCs x (.slice A x.mag.length c)) (by rfl) (by rfl) _ hz.1 rfl rfl (one_tkCs _ _ _ _) ?_)
      exact bodyPost_ret (results_te Tryd.results19 rfl rfl (setRow_at hz.1) rfl) rfl (tok_ok rfl (below_setRow hz.2 (Nat.le_refl _) _) (tkv_set ⟨A, c, rfl, hRd⟩ hz.1 _))
    | error pc =>
      obtain ⟨p, c⟩ := pc
      simp only at hm
      obtain ⟨v, rfl, hv⟩ := hm
      obtain ⟨bb, kk, what, rfl, hv1, hv2⟩ := hv
      go_wp2_with (refine store_tok rfl (.tmp 4) (.tmp 101) rfl w.heap.size zeroCs (by rfl) (by rfl) _ hz.1 rfl rfl one_zeroCs ?_)
      exact bodyPost_ret (results_te Tryd.results19 rfl rfl (setRow_at hz.1) rfl) rfl (tok_bad rfl (below_setRow hz.2 (Nat.le_refl _) _) (wrong_set ⟨bb, kk, what, rfl, hv1, hv2⟩ hz.1 _))
  rw [if_neg hc] at hG
  have HP2 : Hid ([35, 92].isPrefixOf (s.extract k s.size).data.toList = false) := Lib.hid (by
    rw [← Bool.not_eq_true, ext_pre]
    rintro ⟨h, h0, h'⟩
    exact hc ⟨h0, (head_drop s (k + 1) 92).2 ⟨h, h'⟩⟩)
  rw [← drop_at s hk] at hG
  have hgo : goes 124 s[k] = true := by
    unfold goes isDelim
    simp [hb, h40, h91, h41, h93, h39, h96, h44, h34, h59, h124]
  have HG := Lib.hid hG
  clear hG hb h59 hv hc h40 h91 h41 h93 h39 h96 h44 h34 h124
  go_enter Tryd.func19, Tryd.ntmps19
  go_wp2_with fail
  have hz := (Zd.new w).alloc (.cells #[.int .i64 0, .int .i64 (k : Int), .int .i64 ((k : Int) + 1), .bool false, .int .i64 0, .int .i32 0, .bool false, .slice none 0 0, .string ⟨#[]⟩, .slice none 0 0] 33)
  change Zd w ((w.alloc (.cells #[.int .i64 0, .int .i64 0, .int .i64 0, .bool false, .int .i64 0, .int .i32 0, .bool false, .slice none 0 0, .string ⟨#[]⟩, .slice none 0 0] 33)).alloc (.cells #[.int .i64 0, .int .i64 (k : Int), .int .i64 ((k : Int) + 1), .bool false, .int .i64 0, .int .i32 0, .bool false, .slice none 0 0, .string ⟨#[]⟩, .slice none 0 0] 33)) at hz
  generalize (w.alloc (.cells #[.int .i64 0, .int .i64 0, .int .i64 0, .bool false, .int .i64 0, .int .i32 0, .bool false, .slice none 0 0, .string ⟨#[]⟩, .slice none 0 0] 33)).alloc (.cells #[.int .i64 0, .int .i64 (k : Int), .int .i64 ((k : Int) + 1), .bool false, .int .i64 0, .int .i32 0, .bool false, .slice none 0 0, .string ⟨#[]⟩, .slice none 0 0] 33) = w0 at *
  refine (pre_is (p := ⟨#[35, 40]⟩) HP1.out _).mono ?_
  rintro e w' ⟨rfl, rfl⟩
  go_wp2_with fail
  refine (pre_is (p := ⟨#[35, 92]⟩) HP2.out _).mono ?_
  rintro e w' ⟨rfl, rfl⟩
  go_wp2_with fail
  refine (word_any s k hk hs hgo _ (hL.below hz.2)).mono ?_
  rintro e w3 ⟨hb3, hm⟩
  rw [HG.out] at hm
  replace hz := hz.step hb3
  clear hb3
  cases G with
  | ok x =>
    simp only at hm
    obtain ⟨v, rfl, A, c, rfl, hRd⟩ := hm
    go_wp2_with (refine store_tok rfl (.tmp 4) (.tmp 82) rfl w.heap.size (tkCs x (.slice A x.mag.length c)) (by rfl) (by rfl) _ hz.1 rfl rfl (one_tkCs _ _ _ _) ?_)
    exact bodyPost_ret (results_te Tryd.results19 rfl rfl (setRow_at hz.1) rfl) rfl (tok_ok rfl (below_setRow hz.2 (Nat.le_refl _) _) (tkv_set ⟨A, c, rfl, hRd⟩ hz.1 _))
  | error pc =>
    obtain ⟨p, c⟩ := pc
    simp only at hm
    obtain ⟨v, rfl, hv⟩ := hm
    obtain ⟨bb, kk, what, rfl, hv1, hv2⟩ := hv
    go_wp2_with (refine store_tok rfl (.tmp 4) (.tmp 82) rfl w.heap.size zeroCs (by rfl) (by rfl) _ hz.1 rfl rfl one_zeroCs ?_)
    exact bodyPost_ret (results_te Tryd.results19 rfl rfl (setRow_at hz.1) rfl) rfl (tok_bad rfl (below_setRow hz.2 (Nat.le_refl _) _) (wrong_set ⟨bb, kk, what, rfl, hv1, hv2⟩ hz.1 _))
end Go.Proofs.YtkgebnbdgiengaaDoor
