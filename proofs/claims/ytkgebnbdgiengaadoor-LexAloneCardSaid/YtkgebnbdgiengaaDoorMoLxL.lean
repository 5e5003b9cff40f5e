/- The lexer's word: walked. -/
import Derived.Test.YtkgebnbdgiengaaDoorMoLxG
import Derived.Test.YtkgebnbdgiengaaDoorMoLxK
namespace Go.Proofs.YtkgebnbdgiengaaDoor
open Go.RowKit Lx

theorem Zd.alloc {w0 w : World} (h : Zd w0 w) (o : Obj) : Zd w0 (w.alloc o) := h.step ((Below.refl _ _).alloc (Nat.le_refl _) o)
theorem lim_pos (v : Nat) : decide (0 < (limbsOf v).length) = decide (0 < v) := by
  have := @limbsOf_nil v
  rw [Bool.eq_iff_iff, decide_eq_true_iff, decide_eq_true_iff]
  omega
theorem extract_at (s : ByteArray) {k n : Nat} (h : k + n ≤ s.size) (h0 : 0 < n) (h1 : 0 < (s.extract k (k + n)).size) : (s.extract k (k + n))[0] = s[k] := by
  have e : (s.extract k (k + n)).data.toList = (s.data.toList.drop k).take n := by rw [Lib.extract_data]; congr 1; omega
  have e2 := drop1 _ h1
  rw [e, drop_at s (by omega)] at e2
  obtain ⟨m, rfl⟩ : ∃ m, n = m + 1 := ⟨n - 1, by omega⟩
  rw [List.take_succ_cons] at e2
  exact (List.cons.inj e2).1.symm

set_option maxRecDepth 100000 in
set_option maxHeartbeats 3200000 in
theorem word_any (s : ByteArray) (k : Nat) (hk : k < s.size) (hs : s.size ≤ 4096) (hgo : goes 124 s[k] = true) (w : World) (hL : Lu w) :
    Calls Tryd.prog 30 #[.string s, .int .i64 k] w (TokRes (wrd k (s.data.toList.drop k)) w) := by
  obtain ⟨G, hG⟩ : ∃ G, wrd k (s.data.toList.drop k) = G := ⟨_, rfl⟩
  rw [hG]
  rw [wrd] at hG
  have hnl := spanN_le 124 (s.data.toList.drop k)
  rw [List.length_drop, ← Lib.size_eq] at hnl
  have hn1 : 1 ≤ spanN 124 (s.data.toList.drop k) := by
    rw [drop_at s hk, spanN_cons, if_pos hgo]; omega
  obtain ⟨n, hn⟩ : ∃ n, spanN 124 (s.data.toList.drop k) = n := ⟨_, rfl⟩
  rw [hn] at hG hnl hn1
  have HN : Hid (((k + spanN 124 (s.data.toList.drop k) : Nat) : Int) = ((k + n : Nat) : Int)) := Lib.hid (by rw [hn])
  clear hn hgo
  have hxl : (s.extract k (k + n)).data.toList = (s.data.toList.drop k).take n := by rw [Lib.extract_data]; congr 1; omega
  rw [← hxl] at hG
  have hxs : (s.extract k (k + n)).size = n := by rw [ByteArray.size_extract]; omega
  have hx0 : 0 < (s.extract k (k + n)).size := by omega
  have hat := extract_at s (by omega) hn1 hx0
  have hx1 := drop1 (s.extract k (k + n)) hx0
  rw [← Lib.toList_data] at hG
  by_cases h1 : (s.extract k (k + n)).toList = [46]
  · rw [if_pos h1] at hG
    have HG := Lib.hid hG.symm
    have f1 : ((s.extract k (k + n)).toList == [46]) = true := by rw [h1]; rfl
    clear hG h1 hx1 hxl hat
    go_enter Tryd.func30, Tryd.ntmps30
    go_wp2_with fail
    have hz := Zd.new w
    change Zd w (w.alloc (.cells #[.int .i64 0, .int .i64 0, .int .i64 0, .bool false, .int .i64 0, .int .i32 0, .bool false, .slice none 0 0, .string ⟨#[]⟩, .slice none 0 0] 33)) at hz
    generalize w.alloc (.cells #[.int .i64 0, .int .i64 0, .int .i64 0, .bool false, .int .i64 0, .int .i32 0, .bool false, .slice none 0 0, .string ⟨#[]⟩, .slice none 0 0] 33) = w0 at *
    refine (run124_any s k (by omega) (by omega) _).mono ?_
    rintro e w1 ⟨rfl, rfl⟩
    rw [HN.out]
    go_wp2_with (refine store_tok rfl (.tmp 4) (.tmp 22) rfl w.heap.size (tkCs (tk0 8 k (k + n) false) (.slice none 0 0)) (by rfl) (by rfl) _ hz.1 rfl rfl (one_tkCs _ _ _ _) ?_)
    exact bodyPost_ret (results_te Tryd.results30 rfl rfl (setRow_at hz.1) rfl) rfl (tok_ok HG.out (below_setRow hz.2 (Nat.le_refl _) _) ⟨_, _, rfl, Reads.nil _ _ _⟩)
  rw [if_neg h1] at hG
  have f1 : ((s.extract k (k + n)).toList == [46]) = false := by simpa using h1
  clear h1
  by_cases h2 : (s.extract k (k + n)).toList = [35, 116]
  · rw [if_pos (.inl h2)] at hG
    have HG := Lib.hid hG.symm
    have f2 : ((s.extract k (k + n)).toList == [35, 116]) = true := by rw [h2]; rfl
    clear hG h2 hx1 hxl hat
    go_enter Tryd.func30, Tryd.ntmps30
    go_wp2_with fail
    have hz := Zd.new w
    change Zd w (w.alloc (.cells #[.int .i64 0, .int .i64 0, .int .i64 0, .bool false, .int .i64 0, .int .i32 0, .bool false, .slice none 0 0, .string ⟨#[]⟩, .slice none 0 0] 33)) at hz
    generalize w.alloc (.cells #[.int .i64 0, .int .i64 0, .int .i64 0, .bool false, .int .i64 0, .int .i32 0, .bool false, .slice none 0 0, .string ⟨#[]⟩, .slice none 0 0] 33) = w0 at *
    refine (run124_any s k (by omega) (by omega) _).mono ?_
    rintro e w1 ⟨rfl, rfl⟩
    rw [HN.out]
    go_wp2_with fail
    refine (atom_any 1 0 false none 0 0 ⟨#[]⟩ k _ _).mono ?_
    rintro e w6 ⟨rfl, hb6⟩
    replace hz := hz.step hb6
    clear hb6
    go_wp2_with (refine store_tok rfl (.tmp 4) (.tmp 29) rfl w.heap.size (tkCs (tkD 1 k (k + n)) (.slice none 0 0)) (by rfl) (by rfl) _ hz.1 rfl rfl (one_tkCs _ _ _ _) ?_)
    exact bodyPost_ret (results_te Tryd.results30 rfl rfl (setRow_at hz.1) rfl) rfl (tok_ok HG.out (below_setRow hz.2 (Nat.le_refl _) _) ⟨_, _, rfl, Reads.nil _ _ _⟩)
  have f2 : ((s.extract k (k + n)).toList == [35, 116]) = false := by simpa using h2
  by_cases h3 : (s.extract k (k + n)).toList = [35, 116, 114, 117, 101]
  · rw [if_pos (.inr h3)] at hG
    have HG := Lib.hid hG.symm
    have f3 : ((s.extract k (k + n)).toList == [35, 116, 114, 117, 101]) = true := by rw [h3]; rfl
    clear hG h3 hx1 hxl hat
    go_enter Tryd.func30, Tryd.ntmps30
    go_wp2_with fail
    have hz := Zd.new w
    change Zd w (w.alloc (.cells #[.int .i64 0, .int .i64 0, .int .i64 0, .bool false, .int .i64 0, .int .i32 0, .bool false, .slice none 0 0, .string ⟨#[]⟩, .slice none 0 0] 33)) at hz
    generalize w.alloc (.cells #[.int .i64 0, .int .i64 0, .int .i64 0, .bool false, .int .i64 0, .int .i32 0, .bool false, .slice none 0 0, .string ⟨#[]⟩, .slice none 0 0] 33) = w0 at *
    refine (run124_any s k (by omega) (by omega) _).mono ?_
    rintro e w1 ⟨rfl, rfl⟩
    rw [HN.out]
    go_wp2_with fail
    refine (atom_any 1 0 false none 0 0 ⟨#[]⟩ k _ _).mono ?_
    rintro e w6 ⟨rfl, hb6⟩
    replace hz := hz.step hb6
    clear hb6
    go_wp2_with (refine store_tok rfl (.tmp 4) (.tmp 29) rfl w.heap.size (tkCs (tkD 1 k (k + n)) (.slice none 0 0)) (by rfl) (by rfl) _ hz.1 rfl rfl (one_tkCs _ _ _ _) ?_)
    exact bodyPost_ret (results_te Tryd.results30 rfl rfl (setRow_at hz.1) rfl) rfl (tok_ok HG.out (below_setRow hz.2 (Nat.le_refl _) _) ⟨_, _, rfl, Reads.nil _ _ _⟩)
  have f3 : ((s.extract k (k + n)).toList == [35, 116, 114, 117, 101]) = false := by simpa using h3
  rw [if_neg (fun h => h.elim h2 h3)] at hG
  clear h2 h3
  by_cases h4 : (s.extract k (k + n)).toList = [35, 102]
  · rw [if_pos (.inl h4)] at hG
    have HG := Lib.hid hG.symm
    have f4 : ((s.extract k (k + n)).toList == [35, 102]) = true := by rw [h4]; rfl
    clear hG h4 hx1 hxl hat
    go_enter Tryd.func30, Tryd.ntmps30
    go_wp2_with fail
    have hz := Zd.new w
    change Zd w (w.alloc (.cells #[.int .i64 0, .int .i64 0, .int .i64 0, .bool false, .int .i64 0, .int .i32 0, .bool false, .slice none 0 0, .string ⟨#[]⟩, .slice none 0 0] 33)) at hz
    generalize w.alloc (.cells #[.int .i64 0, .int .i64 0, .int .i64 0, .bool false, .int .i64 0, .int .i32 0, .bool false, .slice none 0 0, .string ⟨#[]⟩, .slice none 0 0] 33) = w0 at *
    refine (run124_any s k (by omega) (by omega) _).mono ?_
    rintro e w1 ⟨rfl, rfl⟩
    rw [HN.out]
    go_wp2_with fail
    refine (atom_any 2 0 false none 0 0 ⟨#[]⟩ k _ _).mono ?_
    rintro e w6 ⟨rfl, hb6⟩
    replace hz := hz.step hb6
    clear hb6
    go_wp2_with (refine store_tok rfl (.tmp 4) (.tmp 36) rfl w.heap.size (tkCs (tkD 2 k (k + n)) (.slice none 0 0)) (by rfl) (by rfl) _ hz.1 rfl rfl (one_tkCs _ _ _ _) ?_)
    exact bodyPost_ret (results_te Tryd.results30 rfl rfl (setRow_at hz.1) rfl) rfl (tok_ok HG.out (below_setRow hz.2 (Nat.le_refl _) _) ⟨_, _, rfl, Reads.nil _ _ _⟩)
  have f4 : ((s.extract k (k + n)).toList == [35, 102]) = false := by simpa using h4
  by_cases h5 : (s.extract k (k + n)).toList = [35, 102, 97, 108, 115, 101]
  · rw [if_pos (.inr h5)] at hG
    have HG := Lib.hid hG.symm
    have f5 : ((s.extract k (k + n)).toList == [35, 102, 97, 108, 115, 101]) = true := by rw [h5]; rfl
    clear hG h5 hx1 hxl hat
    go_enter Tryd.func30, Tryd.ntmps30
    go_wp2_with fail
    have hz := Zd.new w
    change Zd w (w.alloc (.cells #[.int .i64 0, .int .i64 0, .int .i64 0, .bool false, .int .i64 0, .int .i32 0, .bool false, .slice none 0 0, .string ⟨#[]⟩, .slice none 0 0] 33)) at hz
    generalize w.alloc (.cells #[.int .i64 0, .int .i64 0, .int .i64 0, .bool false, .int .i64 0, .int .i32 0, .bool false, .slice none 0 0, .string ⟨#[]⟩, .slice none 0 0] 33) = w0 at *
    refine (run124_any s k (by omega) (by omega) _).mono ?_
    rintro e w1 ⟨rfl, rfl⟩
    rw [HN.out]
    go_wp2_with fail
    refine (atom_any 2 0 false none 0 0 ⟨#[]⟩ k _ _).mono ?_
    rintro e w6 ⟨rfl, hb6⟩
    replace hz := hz.step hb6
    clear hb6
    go_wp2_with (refine store_tok rfl (.tmp 4) (.tmp 36) rfl w.heap.size (tkCs (tkD 2 k (k + n)) (.slice none 0 0)) (by rfl) (by rfl) _ hz.1 rfl rfl (one_tkCs _ _ _ _) ?_)
    exact bodyPost_ret (results_te Tryd.results30 rfl rfl (setRow_at hz.1) rfl) rfl (tok_ok HG.out (below_setRow hz.2 (Nat.le_refl _) _) ⟨_, _, rfl, Reads.nil _ _ _⟩)
  have f5 : ((s.extract k (k + n)).toList == [35, 102, 97, 108, 115, 101]) = false := by simpa using h5
  rw [if_neg (fun h => h.elim h4 h5)] at hG
  clear h4 h5
  rw [Lib.toList_data] at hG
  have hh : (s.extract k (k + n)).data.toList.head? = some s[k] := by rw [hx1, hat]; rfl
  rw [hh] at hG
  by_cases h35 : s[k] = 35
  · rw [if_pos (by rw [h35])] at hG
    have HG := Lib.hid hG.symm
    have hz35 := u8_yes (n := 35) (by decide) h35
    have hz36 : (s.extract k (k + n))[0].toNat = 35 := by rw [hat, h35]; rfl
    clear hG hx1 hxl hat hh h35
    go_enter Tryd.func30, Tryd.ntmps30
    go_wp2_with fail
    have hz := Zd.new w
    change Zd w (w.alloc (.cells #[.int .i64 0, .int .i64 0, .int .i64 0, .bool false, .int .i64 0, .int .i32 0, .bool false, .slice none 0 0, .string ⟨#[]⟩, .slice none 0 0] 33)) at hz
    generalize w.alloc (.cells #[.int .i64 0, .int .i64 0, .int .i64 0, .bool false, .int .i64 0, .int .i32 0, .bool false, .slice none 0 0, .string ⟨#[]⟩, .slice none 0 0] 33) = w0 at *
    refine (run124_any s k (by omega) (by omega) _).mono ?_
    rintro e w1 ⟨rfl, rfl⟩
    rw [HN.out]
    go_wp2_with fail
    refine (wrong_any _ _ _ _).mono ?_
    rintro e w9 ⟨v, rfl, hv, hb9⟩
    replace hz := hz.step hb9
    clear hb9
    go_wp2_with (refine store_tok rfl (.tmp 4) (.tmp 41) rfl w.heap.size zeroCs (by rfl) (by rfl) _ hz.1 rfl rfl one_zeroCs ?_)
    exact bodyPost_ret (results_te Tryd.results30 rfl rfl (setRow_at hz.1) rfl) rfl (tok_bad HG.out (below_setRow hz.2 (Nat.le_refl _) _) (wrong_set hv hz.1 _))
  · rw [if_neg (by simpa using h35)] at hG
    have hz35 : ((s[k].toNat : Int) == 35) = false := u8_ne (n := 35) (by decide) h35
    have hz36 : (((s.extract k (k + n))[0].toNat : Int) == 35) = false := by rw [hat]; exact hz35
    have hsz : (s.extract k (k + n)).size ≤ 4096 := by omega
    cases hnum : isNum (s.extract k (k + n)).data.toList with
    | false =>
      rw [hnum] at hG
      rw [if_neg (by decide)] at hG
      have HG := Lib.hid hG
      have HNUM := Lib.hid hnum
      clear hG hnum hx1 hxl hat hh h35
      go_enter Tryd.func30, Tryd.ntmps30
      go_wp2_with fail
      have hz := Zd.new w
      change Zd w (w.alloc (.cells #[.int .i64 0, .int .i64 0, .int .i64 0, .bool false, .int .i64 0, .int .i32 0, .bool false, .slice none 0 0, .string ⟨#[]⟩, .slice none 0 0] 33)) at hz
      generalize w.alloc (.cells #[.int .i64 0, .int .i64 0, .int .i64 0, .bool false, .int .i64 0, .int .i32 0, .bool false, .slice none 0 0, .string ⟨#[]⟩, .slice none 0 0] 33) = w0 at *
      refine (run124_any s k (by omega) (by omega) _).mono ?_
      rintro e w1 ⟨rfl, rfl⟩
      rw [HN.out]
      go_wp2_with fail
      refine (number_any _ hx0 hsz _).mono ?_
      rintro e w2 ⟨rfl, hb2⟩
      rw [HNUM.out]
      replace hz := hz.step hb2
      clear hb2
      go_wp2_with fail
      refine (texted_any 6 (.inr rfl) (s.extract k (k + n)) (by omega) k (k + n) w2 (hL.below hz.2)).mono ?_
      rintro e w3 ⟨hb3, hm⟩
      rw [HG.out] at hm
      replace hz := hz.step hb3
      clear hb3
      cases G with
      | ok x =>
        simp only at hm
        obtain ⟨v, rfl, A, c, rfl, hRd⟩ := hm
        go_wp2_with (refine store_tok rfl (.tmp 4) (.tmp 66) rfl w.heap.size (tkCs x (.slice A x.mag.length c)) (by rfl) (by rfl) _ hz.1 rfl rfl (one_tkCs _ _ _ _) ?_)
        exact bodyPost_ret (results_te Tryd.results30 rfl rfl (setRow_at hz.1) rfl) rfl (tok_ok rfl (below_setRow hz.2 (Nat.le_refl _) _) (tkv_set ⟨A, c, rfl, hRd⟩ hz.1 _))
      | error pc =>
        obtain ⟨p, c⟩ := pc
        simp only at hm
        obtain ⟨v, rfl, hv⟩ := hm
        obtain ⟨bb, kk, what, rfl, hv1, hv2⟩ := hv
        go_wp2_with (refine store_tok rfl (.tmp 4) (.tmp 66) rfl w.heap.size zeroCs (by rfl) (by rfl) _ hz.1 rfl rfl one_zeroCs ?_)
        exact bodyPost_ret (results_te Tryd.results30 rfl rfl (setRow_at hz.1) rfl) rfl (tok_bad rfl (below_setRow hz.2 (Nat.le_refl _) _) (wrong_set ⟨bb, kk, what, rfl, hv1, hv2⟩ hz.1 _))
    | true =>
      rw [hnum] at hG
      rw [if_pos rfl, numV] at hG
      simp only at hG
      have hsgn : decide ((s.extract k (k + n)).data.toList.head? = some 45) = decide ((s.extract k (k + n))[0] = 45) := by
        rw [hh, hat, Bool.eq_iff_iff]; simp
      rw [hsgn] at hG
      obtain ⟨v, hv⟩ : ∃ v, decV (signed (s.extract k (k + n)).data.toList) = v := ⟨_, rfl⟩
      rw [hv] at hG
      have hpar := fun W => parse_any (s.extract k (k + n)) hx0 hsz hnum W
      rw [hv] at hpar
      generalize decide ((s.extract k (k + n))[0] = 45) = ng at hG hpar
      have HP := Lib.hid hpar
      have HNUM := Lib.hid hnum
      clear hpar hv hsgn hnum hx1 hxl hat hh h35
      by_cases hbig : 48 < (limbsOf v).length
      · rw [if_pos hbig] at hG
        have HG := Lib.hid hG.symm
        have HBIG := Lib.hid hbig
        clear hG hbig
        go_enter Tryd.func30, Tryd.ntmps30
        go_wp2_with fail
        have hz := Zd.new w
        change Zd w (w.alloc (.cells #[.int .i64 0, .int .i64 0, .int .i64 0, .bool false, .int .i64 0, .int .i32 0, .bool false, .slice none 0 0, .string ⟨#[]⟩, .slice none 0 0] 33)) at hz
        generalize w.alloc (.cells #[.int .i64 0, .int .i64 0, .int .i64 0, .bool false, .int .i64 0, .int .i32 0, .bool false, .slice none 0 0, .string ⟨#[]⟩, .slice none 0 0] 33) = w0 at *
        refine (run124_any s k (by omega) (by omega) _).mono ?_
        rintro e w1 ⟨rfl, rfl⟩
        rw [HN.out]
        go_wp2_with fail
        refine (number_any _ hx0 hsz _).mono ?_
        rintro e w2 ⟨rfl, hb2⟩
        rw [HNUM.out]
        replace hz := hz.step hb2
        clear hb2
        go_wp2_with fail
        refine (HP.out w2).mono ?_
        rintro e w3 ⟨hb3, hm⟩
        replace hz := hz.step hb3
        clear hb3
        rw [if_pos HBIG.out] at hm
        subst hm
        go_wp2_with fail
        replace hz := hz.alloc (.cells #[.bool false, .slice none 0 0] 28)
        refine (wrong_any _ _ _ _).mono ?_
        rintro e w9 ⟨v, rfl, hv, hb9⟩
        replace hz := hz.step hb9
        clear hb9
        go_wp2_with (refine store_tok rfl (.tmp 4) (.tmp 54) rfl w.heap.size zeroCs (by rfl) (by rfl) _ hz.1 rfl rfl one_zeroCs ?_)
        exact bodyPost_ret (results_te Tryd.results30 rfl rfl (setRow_at hz.1) rfl) rfl (tok_bad HG.out (below_setRow hz.2 (Nat.le_refl _) _) (wrong_set hv hz.1 _))
      · rw [if_neg hbig] at hG
        have HG := Lib.hid hG.symm
        have HBIG := Lib.hid hbig
        clear hG hbig
        go_enter Tryd.func30, Tryd.ntmps30
        go_wp2_with fail
        have hz := Zd.new w
        change Zd w (w.alloc (.cells #[.int .i64 0, .int .i64 0, .int .i64 0, .bool false, .int .i64 0, .int .i32 0, .bool false, .slice none 0 0, .string ⟨#[]⟩, .slice none 0 0] 33)) at hz
        generalize w.alloc (.cells #[.int .i64 0, .int .i64 0, .int .i64 0, .bool false, .int .i64 0, .int .i32 0, .bool false, .slice none 0 0, .string ⟨#[]⟩, .slice none 0 0] 33) = w0 at *
        refine (run124_any s k (by omega) (by omega) _).mono ?_
        rintro e w1 ⟨rfl, rfl⟩
        rw [HN.out]
        go_wp2_with fail
        refine (number_any _ hx0 hsz _).mono ?_
        rintro e w2 ⟨rfl, hb2⟩
        rw [HNUM.out]
        replace hz := hz.step hb2
        clear hb2
        go_wp2_with fail
        refine (HP.out w2).mono ?_
        rintro e w3 ⟨hb3, hm⟩
        replace hz := hz.step hb3
        clear hb3
        rw [if_neg HBIG.out] at hm
        obtain ⟨A, c, rfl, hRd⟩ := hm
        go_wp2_with fail
        rw [lim_pos]
        have hRd2 := hRd.below ((Below.refl _ _).alloc (Nat.le_refl _) (.cells #[.bool (ng && decide (0 < v)), .slice A (limbsOf v).length c] 28))
        replace hz := hz.alloc (.cells #[.bool (ng && decide (0 < v)), .slice A (limbsOf v).length c] 28)
        refine (atom_any 4 0 (ng && decide (0 < v)) A (limbsOf v).length c ⟨#[]⟩ k _ _).mono ?_
        rintro e w6 ⟨rfl, hb6⟩
        replace hz := hz.step hb6
        have hRd3 := hRd2.below hb6
        clear hb6 hRd2
        go_wp2_with (refine store_tok rfl (.tmp 4) (.tmp 61) rfl w.heap.size (tkCs { tkD 4 k (k + n) with neg := ng && decide (0 < v), mag := limbsOf v } (.slice A (limbsOf v).length c)) (by rfl) (by rfl) _ hz.1 rfl rfl (one_tkCs _ _ _ _) ?_)
        exact bodyPost_ret (results_te Tryd.results30 rfl rfl (setRow_at hz.1) rfl) rfl (tok_ok HG.out (below_setRow hz.2 (Nat.le_refl _) _) ⟨_, _, rfl, reads_set hRd3 (by decide) hz.1 _⟩)
end Go.Proofs.YtkgebnbdgiengaaDoor
