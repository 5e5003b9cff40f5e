/- The lexer's next: walked. -/
import Derived.Test.YtkgebnbdgiengaaDoorMoLxM
import Derived.Test.YtkgebnbdgiengaaDoorMoLxQ
namespace Go.Proofs.YtkgebnbdgiengaaDoor
open Go.RowKit Lx

set_option maxRecDepth 100000 in
set_option maxHeartbeats 3200000 in
theorem next_any (s : ByteArray) (k : Nat) (hk : k ≤ s.size) (hs : s.size ≤ 4096) (w : World) (hL : Lu w) :
    Calls Tryd.prog 15 #[.string s, .int .i64 k] w (TokRes (nxt s.data.toList k) w) := by
  obtain ⟨G, hG⟩ : ∃ G, nxt s.data.toList k = G := ⟨_, rfl⟩
  rw [hG]
  rw [nxt] at hG
  have hst := skp_ok .base k (s.data.toList.drop k)
  have hsk := fun W => skip_any s k hk (by omega) W
  obtain ⟨R, hR⟩ : ∃ R, skp .base k (s.data.toList.drop k) = R := ⟨_, rfl⟩
  rw [hR] at hG hst hsk
  have HS := Lib.hid hsk
  clear hR hsk
  cases R with
  | error p =>
    have HG : Hid (G = .error (p, 11)) := Lib.hid hG.symm
    clear hG hst
    go_enter Tryd.func15, Tryd.ntmps15
    go_wp2_with fail
    have hz := Zd.new w
    change Zd w (w.alloc (.cells #[.int .i64 0, .int .i64 0, .int .i64 0, .bool false, .int .i64 0, .int .i32 0, .bool false, .slice none 0 0, .string ⟨#[]⟩, .slice none 0 0] 33)) at hz
    generalize w.alloc (.cells #[.int .i64 0, .int .i64 0, .int .i64 0, .bool false, .int .i64 0, .int .i32 0, .bool false, .slice none 0 0, .string ⟨#[]⟩, .slice none 0 0] 33) = w0 at *
    refine (HS.out w0).mono ?_
    rintro e w2 (⟨j, hj, _⟩ | ⟨p', v, hp, rfl, hv, hb2⟩)
    · cases hj
    cases hp
    obtain ⟨bb, kk, what, rfl, hv1, hv2⟩ := hv
    replace hz := hz.step hb2
    clear hb2
    go_wp2_with (refine store_tok rfl (.tmp 4) (.tmp 15) rfl w.heap.size zeroCs (by rfl) (by rfl) _ hz.1 rfl rfl one_zeroCs ?_)
    exact bodyPost_ret (results_te Tryd.results15 rfl rfl (setRow_at hz.1) rfl) rfl (tok_bad HG.out (below_setRow hz.2 (Nat.le_refl _) _) (wrong_set ⟨bb, kk, what, rfl, hv1, hv2⟩ hz.1 _))
  | ok j =>
    obtain ⟨hj1, hj2, hj3⟩ := hst j rfl
    rw [List.length_drop, ← Lib.size_eq] at hj2
    rw [List.drop_drop, show k + (j - k) = j by omega] at hj3
    by_cases hje : j = s.size
    · have hd : s.data.toList.drop j = [] := drop_end s (by omega)
      dsimp only at hG
      rw [hd] at hG
      have HG : Hid (G = .ok (tk0 0 j j false)) := Lib.hid hG.symm
      have hjf : ((j : Int) == (s.size : Int)) = true := by rw [beq_iff_eq]; omega
      clear hG hj3 hd hje
      go_enter Tryd.func15, Tryd.ntmps15
      go_wp2_with fail
      have hz := Zd.new w
      change Zd w (w.alloc (.cells #[.int .i64 0, .int .i64 0, .int .i64 0, .bool false, .int .i64 0, .int .i32 0, .bool false, .slice none 0 0, .string ⟨#[]⟩, .slice none 0 0] 33)) at hz
      generalize w.alloc (.cells #[.int .i64 0, .int .i64 0, .int .i64 0, .bool false, .int .i64 0, .int .i32 0, .bool false, .slice none 0 0, .string ⟨#[]⟩, .slice none 0 0] 33) = w0 at *
      refine (HS.out w0).mono ?_
      rintro e w2 (⟨j', hj, hjs, rfl, rfl⟩ | ⟨p', v, hp, _⟩)
      · cases hj
        go_wp2_with (refine store_tok rfl (.tmp 4) (.tmp 23) rfl w.heap.size (tkCs (tk0 0 j j false) (.slice none 0 0)) (by rfl) (by rfl) _ hz.1 rfl rfl (one_tkCs _ _ _ _) ?_)
        exact bodyPost_ret (results_te Tryd.results15 rfl rfl (setRow_at hz.1) rfl) rfl (tok_ok HG.out (below_setRow hz.2 (Nat.le_refl _) _) ⟨_, _, rfl, Reads.nil _ _ _⟩)
      · cases hp
    · have hlt : j < s.size := by omega
      have hd := drop_at s hlt
      dsimp only at hG
      rw [hd] at hG hj3
      have HG : Hid (tkn j s[j] (s.data.toList.drop (j + 1)) = G) := Lib.hid hG
      have hjf : ((j : Int) == (s.size : Int)) = false := by rw [beq_eq_false_iff_ne]; omega
      have HST := Lib.hid hj3.head
      clear hG hj3 hd hje
      go_enter Tryd.func15, Tryd.ntmps15
      go_wp2_with fail
      have hz := Zd.new w
      change Zd w (w.alloc (.cells #[.int .i64 0, .int .i64 0, .int .i64 0, .bool false, .int .i64 0, .int .i32 0, .bool false, .slice none 0 0, .string ⟨#[]⟩, .slice none 0 0] 33)) at hz
      generalize w.alloc (.cells #[.int .i64 0, .int .i64 0, .int .i64 0, .bool false, .int .i64 0, .int .i32 0, .bool false, .slice none 0 0, .string ⟨#[]⟩, .slice none 0 0] 33) = w0 at *
      refine (HS.out w0).mono ?_
      rintro e w2 (⟨j', hj, hjs, rfl, rfl⟩ | ⟨p', v, hp, _⟩)
      · cases hj
        go_wp2_with fail
        refine (token_any s j hlt hs HST.out.1 HST.out.2 _ (hL.below hz.2)).mono ?_
        rintro e w3 ⟨hb3, hm⟩
        rw [HG.out] at hm
        replace hz := hz.step hb3
        clear hb3
        cases G with
        | ok x =>
          simp only at hm
          obtain ⟨v, rfl, A, c, rfl, hRd⟩ := hm
          go_wp2_with (refine store_tok rfl (.tmp 4) (.tmp 27) rfl w.heap.size (tkCs x (.slice A x.mag.length c)) (by rfl) (by rfl) _ hz.1 rfl rfl (one_tkCs _ _ _ _) ?_)
          exact bodyPost_ret (results_te Tryd.results15 rfl rfl (setRow_at hz.1) rfl) rfl (tok_ok rfl (below_setRow hz.2 (Nat.le_refl _) _) (tkv_set ⟨A, c, rfl, hRd⟩ hz.1 _))
        | error pc =>
          obtain ⟨p, c⟩ := pc
          simp only at hm
          obtain ⟨v, rfl, hv⟩ := hm
          obtain ⟨bb, kk, what, rfl, hv1, hv2⟩ := hv
          go_wp2_with (refine store_tok rfl (.tmp 4) (.tmp 27) rfl w.heap.size zeroCs (by rfl) (by rfl) _ hz.1 rfl rfl one_zeroCs ?_)
          exact bodyPost_ret (results_te Tryd.results15 rfl rfl (setRow_at hz.1) rfl) rfl (tok_bad rfl (below_setRow hz.2 (Nat.le_refl _) _) (wrong_set ⟨bb, kk, what, rfl, hv1, hv2⟩ hz.1 _))
      · cases hp
end Go.Proofs.YtkgebnbdgiengaaDoor
