/- Laws of the plain lexer: a token's own text; a token alone; two texts. -/
import Derived.Test.YtkgebnbdgiengaaDoorMoLyB
namespace Go.Proofs.YtkgebnbdgiengaaDoor.Lx

theorem qtd_cut (by' : UInt8) (at' : Nat) (st : Qs) (n : Nat) (acc l : List UInt8) : ∀ x e, qtd by' at' st n acc l = .ok (x, e) → n < e ∧ qtd by' at' st n acc (l.take (e - n)) = .ok (x, e) := by
  have step : ∀ {n e : Nat} (c : UInt8) (l : List UInt8), n + 1 < e → (c :: l).take (e - n) = c :: l.take (e - (n + 1)) := by
    intro n e c l h
    rw [show e - n = (e - (n + 1)) + 1 by omega, List.take_succ_cons]
  fun_induction qtd by' at' st n acc l with
  | case1 n acc l =>
    intro x e h
    cases h
    rw [show n + 1 - n = 0 + 1 by omega, List.take_succ_cons]
    exact ⟨by omega, by rw [qtd, if_pos rfl]⟩
  | case2 n acc l hc ih => intro x e h; obtain ⟨h1, h2⟩ := ih x e h; rw [step _ _ h1, qtd, if_neg hc, if_pos rfl]; exact ⟨by omega, h2⟩
  | case3 n acc c l h2 h3 ih => intro x e h; obtain ⟨h4, h5⟩ := ih x e h; rw [step _ _ h4, qtd, if_neg h2, if_neg h3]; exact ⟨by omega, h5⟩
  | case4 n acc l ih => intro x e h; obtain ⟨h1, h2⟩ := ih x e h; rw [step _ _ h1, qtd, if_pos rfl]; exact ⟨by omega, h2⟩
  | case5 n acc c l h2 y hy ih => intro x e h; obtain ⟨h4, h5⟩ := ih x e h; rw [step _ _ h4, qtd, if_neg h2, hy]; exact ⟨by omega, h5⟩
  | case6 n acc c l h2 hx => intro x e h; cases h
  | case7 p hs n acc l r hr ih => intro x e h; obtain ⟨h4, h5⟩ := ih x e h; rw [step _ _ h4, qtd, if_pos rfl, hr]; exact ⟨by omega, h5⟩
  | case8 p hs n acc l hr => intro x e h; cases h
  | case9 p hs n acc c l hc ih => intro x e h; obtain ⟨h4, h5⟩ := ih x e h; rw [step _ _ h4, qtd, if_neg hc]; exact ⟨by omega, h5⟩
  | case10 => intro x e h; cases h
  | case11 => intro x e h; cases h
  | case12 => intro x e h; cases h
theorem decodeN_cut {n m b0 b1 b2 b3 c1 c2 c3 : Nat} (hv : ¬ ((Lib.decodeN n b0 b1 b2 b3).1 = 65533 ∧ (Lib.decodeN n b0 b1 b2 b3).2 < 2)) (hm : (Lib.decodeN n b0 b1 b2 b3).2 ≤ m)
    (h1 : 1 < m → c1 = b1) (h2 : 2 < m → c2 = b2) (h3 : 3 < m → c3 = b3) : Lib.decodeN (min m n) b0 c1 c2 c3 = Lib.decodeN n b0 b1 b2 b3 := by
  by_cases p1 : b0 < 128
  · simp [Lib.decodeN, p1]
  have lost : ∀ {x : Nat × Nat}, x = (65533, 1) → ¬ (x.1 = 65533 ∧ x.2 < 2) → False := by rintro x rfl h; exact h ⟨rfl, by decide⟩
  by_cases p2 : b0 / 32 = 6 ∧ (1 < n ∧ b1 / 64 = 2)
  · by_cases q : b0 % 32 * 64 + b1 % 64 ≥ 128
    · have e : Lib.decodeN n b0 b1 b2 b3 = (b0 % 32 * 64 + b1 % 64, 2) := by unfold Lib.decodeN; rw [if_neg p1, if_pos p2, if_pos q]
      rw [e] at hm ⊢
      simp only at hm
      obtain rfl := h1 (by omega)
      unfold Lib.decodeN
      rw [if_neg p1, if_pos ⟨p2.1, by omega, p2.2.2⟩, if_pos q]
    · exact (lost (by unfold Lib.decodeN; rw [if_neg p1, if_pos p2, if_neg q]) hv).elim
  by_cases p3 : b0 / 16 = 14 ∧ (1 < n ∧ b1 / 64 = 2) ∧ (2 < n ∧ b2 / 64 = 2)
  · by_cases q : b0 % 16 * 4096 + b1 % 64 * 64 + b2 % 64 ≥ 2048 ∧ (b0 % 16 * 4096 + b1 % 64 * 64 + b2 % 64 < 55296 ∨ (57344 ≤ b0 % 16 * 4096 + b1 % 64 * 64 + b2 % 64 ∧ b0 % 16 * 4096 + b1 % 64 * 64 + b2 % 64 ≤ 1114111))
    · have e : Lib.decodeN n b0 b1 b2 b3 = (b0 % 16 * 4096 + b1 % 64 * 64 + b2 % 64, 3) := by unfold Lib.decodeN; rw [if_neg p1, if_neg p2, if_pos p3, if_pos q]
      rw [e] at hm ⊢
      simp only at hm
      obtain rfl := h1 (by omega)
      obtain rfl := h2 (by omega)
      unfold Lib.decodeN
      rw [if_neg p1, if_neg (by rintro ⟨h, _⟩; omega), if_pos ⟨p3.1, ⟨by omega, p3.2.1.2⟩, by omega, p3.2.2.2⟩, if_pos q]
    · exact (lost (by unfold Lib.decodeN; rw [if_neg p1, if_neg p2, if_pos p3, if_neg q]) hv).elim
  by_cases p4 : b0 / 8 = 30 ∧ (1 < n ∧ b1 / 64 = 2) ∧ (2 < n ∧ b2 / 64 = 2) ∧ (3 < n ∧ b3 / 64 = 2)
  · by_cases q : b0 % 8 * 262144 + b1 % 64 * 4096 + b2 % 64 * 64 + b3 % 64 ≥ 65536 ∧ (b0 % 8 * 262144 + b1 % 64 * 4096 + b2 % 64 * 64 + b3 % 64 < 55296 ∨ (57344 ≤ b0 % 8 * 262144 + b1 % 64 * 4096 + b2 % 64 * 64 + b3 % 64 ∧ b0 % 8 * 262144 + b1 % 64 * 4096 + b2 % 64 * 64 + b3 % 64 ≤ 1114111))
    · have e : Lib.decodeN n b0 b1 b2 b3 = (b0 % 8 * 262144 + b1 % 64 * 4096 + b2 % 64 * 64 + b3 % 64, 4) := by unfold Lib.decodeN; rw [if_neg p1, if_neg p2, if_neg p3, if_pos p4, if_pos q]
      rw [e] at hm ⊢
      simp only at hm
      obtain rfl := h1 (by omega)
      obtain rfl := h2 (by omega)
      obtain rfl := h3 (by omega)
      unfold Lib.decodeN
      rw [if_neg p1, if_neg (by rintro ⟨h, _⟩; omega), if_neg (by rintro ⟨h, _⟩; omega), if_pos ⟨p4.1, ⟨by omega, p4.2.1.2⟩, ⟨by omega, p4.2.2.1.2⟩, by omega, p4.2.2.2.2⟩, if_pos q]
    · exact (lost (by unfold Lib.decodeN; rw [if_neg p1, if_neg p2, if_neg p3, if_pos p4, if_neg q]) hv).elim
  exact (lost (by unfold Lib.decodeN; rw [if_neg p1, if_neg p2, if_neg p3, if_neg p4]) hv).elim
theorem getD_take {l : List UInt8} {m i : Nat} (h : i < m) : (l.take m).getD i 0 = l.getD i 0 := by
  simp [List.getD_eq_getElem?_getD, h]
theorem decode_cut {l : List UInt8} (hv : ¬ ((Lib.decodeL l).1 = 65533 ∧ (Lib.decodeL l).2 < 2)) {m : Nat} (hm : (Lib.decodeL l).2 ≤ m) : Lib.decodeL (l.take m) = Lib.decodeL l := by
  have hw := Lib.decodeL_width l
  rw [Lib.decodeL_N] at hv hm hw ⊢
  rw [Lib.decodeL_N l, List.length_take, getD_take (i := 0) (by omega)]
  exact decodeN_cut hv hm (fun h => by rw [getD_take h]) (fun h => by rw [getD_take h]) (fun h => by rw [getD_take h])
theorem takeWhile_take (p : UInt8 → Bool) : ∀ l : List UInt8, (l.take (l.takeWhile p).length).takeWhile p = l.takeWhile p
  | [] => by simp
  | c :: l => by
    by_cases h : p c = true
    · simp [h, takeWhile_take p l]
    · simp [h]
theorem spanN_cut (more : UInt8) (l : List UInt8) : spanN more (l.take (spanN more l)) = spanN more l := by
  unfold spanN
  rw [takeWhile_take]
theorem wrd_cut (a : Nat) (l : List UInt8) : wrd a (l.take (spanN 124 l)) = wrd a l := by
  unfold wrd
  simp only
  rw [spanN_cut, List.take_take, Nat.min_self]
theorem numV_end {w : List UInt8} {a e : Nat} {t : Tk} (h : numV w a e = .ok t) : t.e = e := by
  unfold numV at h
  simp only at h
  split at h
  · cases h
  · cases h; rfl
theorem wrd_end {a : Nat} {l : List UInt8} {t : Tk} (h : wrd a l = .ok t) : t.e = a + spanN 124 l := by
  unfold wrd at h
  simp only at h
  split at h
  · cases h; rfl
  · split at h
    · cases h; rfl
    · split at h
      · cases h; rfl
      · split at h
        · cases h
        · split at h
          · exact numV_end h
          · rw [(txd_ok h).1]; rfl
theorem chr_end {a : Nat} {l : List UInt8} {t : Tk} (h : chr a l = .ok t) : l ≠ [] ∧ ¬ ((Lib.decodeL l).1 = 65533 ∧ (Lib.decodeL l).2 < 2) ∧ t.e = a + 2 + ((Lib.decodeL l).2 + spanN 0 (l.drop (Lib.decodeL l).2)) := by
  unfold chr at h
  split at h
  · cases h
  · rename_i h1
    simp only at h
    split at h
    · cases h
    · rename_i h2
      refine ⟨h1, h2, ?_⟩
      split at h
      · rename_i h3; cases h; simp only [tkD]; omega
      · split at h
        · cases h; simp only [tkD]; omega
        · split at h
          · cases h; simp only [tkD]; omega
          · cases h
theorem chr_cut {a : Nat} {l : List UInt8} {t : Tk} (h : chr a l = .ok t) : chr a (l.take (t.e - a - 2)) = .ok t := by
  obtain ⟨h1, h2, h3⟩ := chr_end h
  obtain ⟨m, hm⟩ : ∃ m, t.e - a - 2 = m := ⟨_, rfl⟩
  rw [hm]
  have hw := Lib.decodeL_width l
  have hk : m = (Lib.decodeL l).2 + spanN 0 (l.drop (Lib.decodeL l).2) := by omega
  have hd := decode_cut h2 (m := m) (by omega)
  rw [← h]
  unfold chr
  rw [if_neg h1, if_neg (by
    intro h5
    rcases List.take_eq_nil_iff.1 h5 with h5 | h5
    · omega
    · exact h1 h5), hd]
  simp only
  have h4 : (l.take m).drop (Lib.decodeL l).2 = (l.drop (Lib.decodeL l).2).take (spanN 0 (l.drop (Lib.decodeL l).2)) := by
    rw [List.drop_take]
    congr 1
    omega
  rw [h4, spanN_cut, ← hk, List.take_take, Nat.min_self]
theorem head_take {l : List UInt8} {j : Nat} {x : UInt8} (h : (l.take j).head? = some x) : l.head? = some x := by
  cases l with
  | nil => simp at h
  | cons c l =>
    cases j with
    | zero => simp at h
    | succ j => simpa using h
/-- A token's own text is enough. -/
theorem tkn_cut {a : Nat} {c : UInt8} {l : List UInt8} {t : Tk} (h : tkn a c l = .ok t) : tkn a c (l.take (t.e - a - 1)) = .ok t := by
  have hok := tkn_ok h
  obtain ⟨m, hm⟩ : ∃ m, t.e - a - 1 = m := ⟨_, rfl⟩
  rw [hm]
  unfold tkn at h ⊢
  split at h
  · rename_i h1; rw [if_pos h1]; exact h
  rename_i h1
  rw [if_neg h1]
  split at h
  · rename_i h2; rw [if_pos h2]; exact h
  rename_i h2
  rw [if_neg h2]
  split at h
  · rename_i h3; rw [if_pos h3]; exact h
  rename_i h3
  rw [if_neg h3]
  split at h
  · rename_i h4; rw [if_pos h4]; exact h
  rename_i h4
  rw [if_neg h4]
  split at h
  · rename_i h5
    rw [if_pos h5]
    split at h
    · rename_i h6
      cases h
      simp only [tk0] at hm
      obtain rfl : m = 1 := by omega
      rw [if_pos (by
        cases l with
        | nil => simp at h6
        | cons y l => simpa using h6)]
    · rename_i h6
      rw [if_neg (fun h7 => h6 (head_take h7))]
      exact h
  rename_i h5
  rw [if_neg h5]
  split at h
  · rename_i h6
    rw [if_pos h6]
    split at h
    · cases h
    · rename_i x e hq
      have he : t.e = e := by rw [(txd_ok h).1]; rfl
      have := (qtd_cut _ _ _ _ _ _ _ _ hq).2
      rw [show e - (a + 1) = m by omega] at this
      rw [this]
      exact h
  rename_i h6
  rw [if_neg h6]
  split at h
  · rename_i h7
    cases h
    simp only [tk0] at hm
    obtain rfl : m = 1 := by omega
    rw [if_pos (by
      cases l with
      | nil => simp at h7
      | cons y l => simpa using h7)]
  rename_i h7
  rw [if_neg (fun h8 => h7 ⟨h8.1, head_take h8.2⟩)]
  split at h
  · rename_i h8
    obtain ⟨l, rfl⟩ : ∃ l', l = 92 :: l' := by
      cases l with
      | nil => simp at h8
      | cons y l => exact ⟨l, by simpa using h8.2⟩
    simp only [List.tail_cons] at h
    have he := chr_end h
    have hw := Lib.decodeL_width l
    obtain ⟨m, rfl⟩ : ∃ j, m = j + 1 := ⟨m - 1, by omega⟩
    rw [List.take_succ_cons, if_pos ⟨h8.1, rfl⟩, List.tail_cons]
    have := chr_cut h
    rw [show t.e - a - 2 = m by omega] at this
    exact this
  · rename_i h8
    rw [if_neg (fun h9 => h8 ⟨h9.1, head_take h9.2⟩)]
    have he := wrd_end h
    have hk : spanN 124 (c :: l) = m + 1 := by omega
    have := wrd_cut a (c :: l)
    rw [hk, List.take_succ_cons] at this
    rw [this]
    exact h
end Go.Proofs.YtkgebnbdgiengaaDoor.Lx
