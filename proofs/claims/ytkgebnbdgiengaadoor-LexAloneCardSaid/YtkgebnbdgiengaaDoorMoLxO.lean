/- Laws of the plain lexer: all tokens of a text. -/
import Derived.Test.YtkgebnbdgiengaaDoorMoLxR
namespace Go.Proofs.YtkgebnbdgiengaaDoor.Lx

/-- Where the i-th token is looked for. -/
def atOf (ts : List Tk) : Nat → Nat
  | 0 => 0
  | i + 1 => match ts[i]? with | some t => t.e | none => 0
theorem atOf_app (ts r : List Tk) : ∀ {i : Nat}, i ≤ ts.length → atOf (ts ++ r) i = atOf ts i
  | 0, _ => rfl
  | i + 1, h => by simp only [atOf]; rw [List.getElem?_append_left (by omega)]
theorem atOf_succ {ts : List Tk} {i : Nat} (h : i < ts.length) : atOf ts (i + 1) = ts[i].e := by simp only [atOf]; rw [List.getElem?_eq_getElem h]
/-- What is known of a row of tokens. -/
structure Chain (l : List UInt8) (ts : List Tk) (p c : Nat) : Prop where
  tok : ∀ i, (h : i < ts.length) → nextG l (atOf ts i) = .ok ts[i] ∧ ts[i].kind ≠ 0
  fin : (c ≠ 0 ∧ nextG l (atOf ts ts.length) = .error (p, c)) ∨ (c = 0 ∧ p = 0 ∧ ∃ t, nextG l (atOf ts ts.length) = .ok t ∧ t.kind = 0)
theorem nextG_end {l : List UInt8} {k : Nat} {t : Tk} (h : nextG l k = .ok t) (h0 : t.kind ≠ 0) : k ≤ t.a ∧ t.a < t.e ∧ t.e ≤ l.length ∧ l.length ≤ 4096 := by
  obtain ⟨h1, h2, h3⟩ := nextG_ok h
  rcases nxt_ok h2 h3 with h4 | h4
  · rw [h4] at h0; exact absurd rfl h0
  · omega
theorem chain_le {l : List UInt8} {ts : List Tk} (h : ∀ i, (h : i < ts.length) → nextG l (atOf ts i) = .ok ts[i] ∧ ts[i].kind ≠ 0) : ∀ {i : Nat}, i ≤ ts.length → atOf ts i ≤ l.length
  | 0, _ => Nat.zero_le _
  | i + 1, hi => by
    rw [atOf_succ (by omega : i < ts.length)]
    exact (nextG_end (h i (by omega)).1 (h i (by omega)).2).2.2.1
theorem chain_ge {l : List UInt8} {ts : List Tk} (h : ∀ i, (h : i < ts.length) → nextG l (atOf ts i) = .ok ts[i] ∧ ts[i].kind ≠ 0) : ∀ {i : Nat}, i ≤ ts.length → i ≤ atOf ts i
  | 0, _ => Nat.zero_le _
  | i + 1, hi => by
    have h1 := chain_ge h (i := i) (by omega)
    rw [atOf_succ (by omega : i < ts.length)]
    have h2 := nextG_end (h i (by omega)).1 (h i (by omega)).2
    omega
theorem allGo_succ (l : List UInt8) (f k : Nat) : allGo l (f + 1) k = match nextG l k with
    | .error (p, c) => ([], p, c)
    | .ok t => if t.kind = 0 then ([], 0, 0) else (t :: (allGo l f t.e).1, (allGo l f t.e).2) := rfl
theorem chain_go (l : List UInt8) : ∀ (f k : Nat) (pre : List Tk), l.length < f + k → k = atOf pre pre.length → (∀ i, (h : i < pre.length) → nextG l (atOf pre i) = .ok pre[i] ∧ pre[i].kind ≠ 0) →
    Chain l (pre ++ (allGo l f k).1) (allGo l f k).2.1 (allGo l f k).2.2 := by
  intro f
  induction f with
  | zero =>
    intro k pre hk hp hpre
    have := chain_le hpre (Nat.le_refl _)
    omega
  | succ f ih =>
    intro k pre hk hp hpre
    rw [allGo_succ]
    cases hG : nextG l k with
    | error pc =>
      obtain ⟨p, c⟩ := pc
      refine ⟨by simpa using hpre, .inl ⟨nextG_err hG, ?_⟩⟩
      simp only [List.append_nil]
      rw [← hp]; exact hG
    | ok t =>
      simp only
      by_cases h0 : t.kind = 0
      · rw [if_pos h0]
        refine ⟨by simpa using hpre, .inr ⟨rfl, rfl, t, ?_, h0⟩⟩
        simp only [List.append_nil]
        rw [← hp]; exact hG
      · rw [if_neg h0]
        have hb := nextG_end hG h0
        have := ih t.e (pre ++ [t]) (by omega) (by simp [atOf]) (fun i hi => by
          simp at hi
          by_cases hl : i < pre.length
          · rw [atOf_app _ _ (by omega)]
            have := hpre i hl
            rw [List.getElem_append_left hl]
            exact this
          · have he : i = pre.length := by omega
            subst he
            rw [atOf_app _ _ (Nat.le_refl _), ← hp]
            simp [hG, h0])
        simpa using this
theorem chain_all (l : List UInt8) : Chain l (lexAll l).1 (lexAll l).2.1 (lexAll l).2.2 := by
  have := chain_go l (l.length + 1) 0 [] (by omega) rfl (fun i h => by simp at h)
  rw [List.nil_append] at this
  exact this
/-- A token is there again at its own place. -/
theorem nxt_again {l : List UInt8} {k : Nat} (hk : k ≤ l.length) {t : Tk} (h : nxt l k = .ok t) (h0 : t.kind ≠ 0) : nxt l t.a = .ok t := by
  rcases nxt_ok hk h with h1 | ⟨_, h2, h3, h4, h5, h6⟩
  · rw [h1] at h0; exact absurd rfl h0
  · rw [nxt, h5] at h
    rw [nxt, skp_stops h6]
    exact h
theorem nextG_again {l : List UInt8} {k : Nat} {t : Tk} (h : nextG l k = .ok t) (h0 : t.kind ≠ 0) : nextG l t.a = .ok t := by
  obtain ⟨h1, h2, h3⟩ := nextG_ok h
  have := nextG_end h h0
  rw [nextG_in h1 (by omega)]
  exact nxt_again h2 h3 h0
theorem nextG_skip {l : List UInt8} {k : Nat} {t : Tk} (h : nextG l k = .ok t) (h0 : t.kind ≠ 0) : skp .base k (l.drop k) = .ok t.a := by
  obtain ⟨h1, h2, h3⟩ := nextG_ok h
  rcases nxt_ok h2 h3 with h4 | ⟨_, _, _, _, h5, _⟩
  · rw [h4] at h0; exact absurd rfl h0
  · exact h5
/-- Behind the last token: blanks and comments. -/
theorem nextG_last {l : List UInt8} {k : Nat} {t : Tk} (h : nextG l k = .ok t) (h0 : t.kind = 0) : skp .base k (l.drop k) = .ok l.length := by
  obtain ⟨h1, h2, h3⟩ := nextG_ok h
  unfold nxt at h3
  split at h3
  · cases h3
  · rename_i n hn
    obtain ⟨h4, h5, _⟩ := skp_ok _ _ _ _ hn
    rw [List.length_drop] at h5
    split at h3
    · rename_i hd
      have : l.length ≤ n := List.drop_eq_nil_iff.1 hd
      rw [hn, show n = l.length by omega]
    · exact absurd h0 (tkn_ok h3).1
theorem txd_mag {dk : Nat} {x : List UInt8} {a e : Nat} {t : Tk} (h : txd dk x a e = .ok t) : t.mag.length ≤ 48 := by
  obtain ⟨rfl, _⟩ := txd_ok h
  simp [tkD]
theorem numV_mag {w : List UInt8} {a e : Nat} {t : Tk} (h : numV w a e = .ok t) : t.mag.length ≤ 48 := by
  unfold numV at h
  simp only at h
  split at h
  · cases h
  · cases h; simp only; omega
theorem chr_mag {a : Nat} {l : List UInt8} {t : Tk} (h : chr a l = .ok t) : t.mag.length ≤ 48 := by
  unfold chr at h
  split at h
  · cases h
  · simp only at h
    split at h
    · cases h
    · split at h
      · cases h; simp [tkD]
      · split at h
        · cases h; simp [tkD]
        · split at h
          · cases h; simp [tkD]
          · cases h
theorem wrd_mag {a : Nat} {l : List UInt8} {t : Tk} (h : wrd a l = .ok t) : t.mag.length ≤ 48 := by
  unfold wrd at h
  simp only at h
  split at h
  · cases h; simp [tk0]
  · split at h
    · cases h; simp [tkD]
    · split at h
      · cases h; simp [tkD]
      · split at h
        · cases h
        · split at h
          · exact numV_mag h
          · exact txd_mag h
theorem tkn_mag {a : Nat} {c : UInt8} {l : List UInt8} {t : Tk} (h : tkn a c l = .ok t) : t.mag.length ≤ 48 := by
  unfold tkn at h
  split at h
  · cases h; simp [tk0]
  · split at h
    · cases h; simp [tk0]
    · split at h
      · cases h; simp [tk0]
      · split at h
        · cases h; simp [tk0]
        · split at h
          · split at h
            · cases h; simp [tk0]
            · cases h; simp [tk0]
          · split at h
            · split at h
              · cases h
              · exact txd_mag h
            · split at h
              · cases h; simp [tk0]
              · split at h
                · exact chr_mag h
                · exact wrd_mag h
theorem nextG_mag {l : List UInt8} {k : Nat} {t : Tk} (h : nextG l k = .ok t) : t.mag.length ≤ 48 := by
  obtain ⟨_, _, h3⟩ := nextG_ok h
  unfold nxt at h3
  split at h3
  · cases h3
  · split at h3
    · cases h3; simp [tk0]
    · exact tkn_mag h3
end Go.Proofs.YtkgebnbdgiengaaDoor.Lx
