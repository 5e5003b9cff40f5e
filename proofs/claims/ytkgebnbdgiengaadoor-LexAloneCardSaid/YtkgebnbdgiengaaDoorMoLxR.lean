/- Laws of the plain lexer: where tokens lie. -/
import Derived.Test.YtkgebnbdgiengaaDoorMoLxQ
namespace Go.Proofs.YtkgebnbdgiengaaDoor.Lx

theorem qtd_ok (by' : UInt8) (at' : Nat) (st : Qs) (n : Nat) (acc l : List UInt8) : ∀ (x : List UInt8) (e : Nat), qtd by' at' st n acc l = .ok (x, e) → n < e ∧ e ≤ n + l.length := by
  fun_induction qtd by' at' st n acc l
  all_goals
    intro x e h
    first
      | (cases h; done)
      | (cases h; simp; done)
      | (rename_i ih; have := ih x e h; simp; omega)
theorem txd_ok {dk : Nat} {x : List UInt8} {a e : Nat} {t : Tk} (h : txd dk x a e = .ok t) : t = { tkD dk a e with t := x } ∧ (dk = 6 → x ≠ []) := by
  unfold txd at h
  split at h
  · cases h
  · rename_i h1
    split at h
    · cases h
    · cases h
      exact ⟨rfl, fun h2 h3 => h1 (.inr ⟨h2, h3⟩)⟩
theorem txd_err {dk : Nat} {x : List UInt8} {a e p c : Nat} (h : txd dk x a e = .error (p, c)) : p = a ∧ (c = 9 ∨ c = 6) := by
  unfold txd at h
  split at h
  · cases h; exact ⟨rfl, .inl rfl⟩
  · split at h
    · cases h; exact ⟨rfl, .inr rfl⟩
    · cases h
theorem spanN_le' (m : UInt8) (l : List UInt8) : spanN m l ≤ l.length := by
  unfold spanN
  exact (List.takeWhile_sublist _).length_le
theorem chr_ok {a : Nat} {l : List UInt8} {t : Tk} (h : chr a l = .ok t) : t.kind = 9 ∧ t.a = a ∧ a < t.e ∧ t.e ≤ a + 2 + l.length := by
  unfold chr at h
  split at h
  · cases h
  · rename_i hne
    have hd := Lib.decodeL_le l hne
    have hs := spanN_le' 0 (l.drop (Lib.decodeL l).2)
    rw [List.length_drop] at hs
    simp only at h
    split at h
    · cases h
    · split at h
      · cases h
        dsimp only [tkD]
        refine ⟨rfl, rfl, by omega, by omega⟩
      · split at h
        · cases h
          dsimp only [tkD]
          refine ⟨rfl, rfl, by omega, by omega⟩
        · split at h
          · cases h
            dsimp only [tkD]
            refine ⟨rfl, rfl, by omega, by omega⟩
          · cases h
theorem numV_ok {w : List UInt8} {a e : Nat} {t : Tk} (h : numV w a e = .ok t) : t.kind = 9 ∧ t.a = a ∧ t.e = e := by
  unfold numV at h
  simp only at h
  split at h
  · cases h
  · cases h; exact ⟨rfl, rfl, rfl⟩
theorem wrd_ok {a : Nat} {l : List UInt8} {t : Tk} (h : wrd a l = .ok t) : t.kind ≠ 0 ∧ t.a = a ∧ a < t.e ∧ t.e ≤ a + l.length := by
  have hs := spanN_le' 124 l
  unfold wrd at h
  simp only at h
  by_cases h0 : spanN 124 l = 0
  · rw [h0] at h
    simp [isNum, signed, txd, Lib.validD, Lib.validGoD] at h
  · split at h
    · cases h; dsimp only [tk0]; refine ⟨by decide, rfl, by omega, by omega⟩
    · split at h
      · cases h; dsimp only [tkD]; refine ⟨by decide, rfl, by omega, by omega⟩
      · split at h
        · cases h; dsimp only [tkD]; refine ⟨by decide, rfl, by omega, by omega⟩
        · split at h
          · cases h
          · split at h
            · obtain ⟨h1, h2, h3⟩ := numV_ok h
              refine ⟨by omega, h2, by omega, by omega⟩
            · obtain ⟨rfl, _⟩ := txd_ok h
              dsimp only [tkD]; refine ⟨by decide, rfl, by omega, by omega⟩
theorem tkn_ok {a : Nat} {c : UInt8} {l : List UInt8} {t : Tk} (h : tkn a c l = .ok t) : t.kind ≠ 0 ∧ t.a = a ∧ a < t.e ∧ t.e ≤ a + 1 + l.length := by
  unfold tkn at h
  split at h
  · cases h; dsimp only [tk0]; refine ⟨by decide, rfl, by omega, by omega⟩
  · split at h
    · cases h; dsimp only [tk0]; refine ⟨by decide, rfl, by omega, by omega⟩
    · split at h
      · cases h; dsimp only [tk0]; refine ⟨by decide, rfl, by omega, by omega⟩
      · split at h
        · cases h; dsimp only [tk0]; refine ⟨by decide, rfl, by omega, by omega⟩
        · split at h
          · split at h
            · rename_i hh
              have : 1 ≤ l.length := by cases l with | nil => simp at hh | cons b l => simp
              cases h; dsimp only [tk0]; refine ⟨by decide, rfl, by omega, by omega⟩
            · cases h; dsimp only [tk0]; refine ⟨by decide, rfl, by omega, by omega⟩
          · split at h
            · split at h
              · cases h
              · rename_i x e hq
                have := qtd_ok _ _ _ _ _ _ _ _ hq
                obtain ⟨rfl, _⟩ := txd_ok h
                dsimp only [tkD]; refine ⟨by decide, rfl, by omega, by omega⟩
            · split at h
              · rename_i hh
                have : 1 ≤ l.length := by cases l with | nil => simp at hh | cons b l => simp
                cases h; dsimp only [tk0]; refine ⟨by decide, rfl, by omega, by omega⟩
              · split at h
                · rename_i hh
                  have : 1 ≤ l.length := by cases l with | nil => simp at hh | cons b l => simp
                  obtain ⟨h1, h2, h3, h4⟩ := chr_ok h
                  rw [List.length_tail] at h4
                  refine ⟨by omega, h2, h3, by omega⟩
                · obtain ⟨h1, h2, h3, h4⟩ := wrd_ok h
                  simp at h4
                  refine ⟨h1, h2, h3, by omega⟩
/-- Where a token lies. -/
theorem nxt_ok {l : List UInt8} {k : Nat} (hk : k ≤ l.length) {t : Tk} (h : nxt l k = .ok t) : (t = tk0 0 l.length l.length false) ∨
    (t.kind ≠ 0 ∧ k ≤ t.a ∧ t.a < t.e ∧ t.e ≤ l.length ∧ skp .base k (l.drop k) = .ok t.a ∧ Stops (l.drop t.a)) := by
  unfold nxt at h
  split at h
  · cases h
  · rename_i n hn
    obtain ⟨h1, h2, h3⟩ := skp_ok _ _ _ _ hn
    rw [List.length_drop] at h2
    rw [List.drop_drop, show k + (n - k) = n by omega] at h3
    split at h
    · rename_i hd
      have : l.length ≤ n := List.drop_eq_nil_iff.1 hd
      cases h
      left
      rw [show n = l.length by omega]
    · rename_i c r hd
      obtain ⟨h4, h5, h6, h7⟩ := tkn_ok h
      have hl : l.length - n = r.length + 1 := by rw [← List.length_drop, hd, List.length_cons]
      right
      rw [h5]
      exact ⟨h4, h1, by omega, by omega, hn, h3⟩
theorem qtd_err (by' : UInt8) (at' : Nat) (st : Qs) (n : Nat) (acc l : List UInt8) : ∀ (p c : Nat), qtd by' at' st n acc l = .error (p, c) → c = 11 ∨ c = 9 := by
  fun_induction qtd by' at' st n acc l
  all_goals
    intro p c h
    first
      | (cases h; done)
      | (cases h; simp; done)
      | (rename_i ih; exact ih p c h)
theorem chr_err {a : Nat} {l : List UInt8} {p c : Nat} (h : chr a l = .error (p, c)) : c ≠ 0 := by
  unfold chr at h
  split at h
  · cases h; decide
  · simp only at h
    split at h
    · cases h; decide
    · split at h
      · cases h
      · split at h
        · cases h
        · split at h
          · cases h
          · cases h; decide
theorem wrd_err {a : Nat} {l : List UInt8} {p c : Nat} (h : wrd a l = .error (p, c)) : c ≠ 0 := by
  unfold wrd at h
  simp only at h
  split at h
  · cases h
  · split at h
    · cases h
    · split at h
      · cases h
      · split at h
        · cases h; decide
        · split at h
          · unfold numV at h
            simp only at h
            split at h
            · cases h; decide
            · cases h
          · have := txd_err h; omega
theorem tkn_err {a : Nat} {c : UInt8} {l : List UInt8} {p k : Nat} (h : tkn a c l = .error (p, k)) : k ≠ 0 := by
  unfold tkn at h
  split at h
  · cases h
  · split at h
    · cases h
    · split at h
      · cases h
      · split at h
        · cases h
        · split at h
          · split at h <;> cases h
          · split at h
            · split at h
              · rename_i pp hq
                cases h
                have := qtd_err _ _ _ _ _ _ _ _ hq
                omega
              · have := txd_err h; omega
            · split at h
              · cases h
              · split at h
                · exact chr_err h
                · exact wrd_err h
theorem nxt_err {l : List UInt8} {k p c : Nat} (h : nxt l k = .error (p, c)) : c ≠ 0 := by
  unfold nxt at h
  split at h
  · cases h; decide
  · split at h
    · cases h
    · exact tkn_err h
theorem nextG_in {l : List UInt8} {k : Nat} (hl : l.length ≤ 4096) (hk : k ≤ l.length) : nextG l k = nxt l k := by
  unfold nextG
  rw [if_neg (by omega), if_neg (by omega), Int.toNat_natCast]
theorem nextG_err {l : List UInt8} {k : Int} {p c : Nat} (h : nextG l k = .error (p, c)) : c ≠ 0 := by
  unfold nextG at h
  split at h
  · cases h; decide
  · split at h
    · cases h; decide
    · exact nxt_err h
theorem nextG_ok {l : List UInt8} {k : Nat} {t : Tk} (h : nextG l k = .ok t) : l.length ≤ 4096 ∧ k ≤ l.length ∧ nxt l k = .ok t := by
  unfold nextG at h
  split at h
  · cases h
  · split at h
    · cases h
    · rw [Int.toNat_natCast] at h
      exact ⟨by omega, by omega, h⟩
end Go.Proofs.YtkgebnbdgiengaaDoor.Lx
