/- Laws of the plain lexer: what is skipped. -/
import Derived.Test.YtkgebnbdgiengaaDoorMoLxP
namespace Go.Proofs.YtkgebnbdgiengaaDoor.Lx

/-- A place where a token begins, or nothing. -/
def Stops : List UInt8 → Prop
  | [] => True
  | [c] => isBlank c = false ∧ c ≠ 59
  | c :: b :: _ => isBlank c = false ∧ c ≠ 59 ∧ ¬ (c = 35 ∧ b = 124)
theorem Stops.head {c : UInt8} {l : List UInt8} (h : Stops (c :: l)) : isBlank c = false ∧ c ≠ 59 := by
  cases l with
  | nil => exact h
  | cons b l => exact ⟨h.1, h.2.1⟩
theorem stops_step {c : UInt8} {t : List UInt8} {n j : Nat} (h : n + 1 ≤ j ∧ j ≤ n + 1 + t.length ∧ Stops (t.drop (j - (n + 1)))) : n ≤ j ∧ j ≤ n + (c :: t).length ∧ Stops ((c :: t).drop (j - n)) := by
  obtain ⟨h1, h2, h3⟩ := h
  refine ⟨by omega, by simp; omega, ?_⟩
  rw [show j - n = (j - (n + 1)) + 1 by omega, List.drop_succ_cons]
  exact h3
theorem stops_step2 {c b : UInt8} {t : List UInt8} {n j : Nat} (h : n + 2 ≤ j ∧ j ≤ n + 2 + t.length ∧ Stops (t.drop (j - (n + 2)))) : n ≤ j ∧ j ≤ n + (c :: b :: t).length ∧ Stops ((c :: b :: t).drop (j - n)) := by
  obtain ⟨h1, h2, h3⟩ := h
  refine ⟨by omega, by simp; omega, ?_⟩
  rw [show j - n = (j - (n + 2)) + 1 + 1 by omega, List.drop_succ_cons, List.drop_succ_cons]
  exact h3
theorem skp_ok (st : Sk) (n : Nat) (l : List UInt8) : ∀ (j : Nat), skp st n l = .ok j → n ≤ j ∧ j ≤ n + l.length ∧ Stops (l.drop (j - n)) := by
  fun_induction skp st n l with
  | case1 n => intro j h; cases h; simp [Stops]
  | case2 n c hb ih => intro j h; exact stops_step (ih j h)
  | case3 n hb ih => intro j h; exact stops_step (ih j h)
  | case4 n c hb h59 => intro j h; cases h; rw [Nat.sub_self]; exact ⟨Nat.le_refl _, by simp, by simpa using hb, h59⟩
  | case5 n c b l hb ih => intro j h; exact stops_step (ih j h)
  | case6 n b l hb ih => intro j h; exact stops_step (ih j h)
  | case7 n c b l hb h59 hc ih => intro j h; exact stops_step2 (ih j h)
  | case8 n c b l hb h59 hc => intro j h; cases h; rw [Nat.sub_self]; exact ⟨Nat.le_refl _, by simp, by simpa using hb, h59, hc⟩
  | case9 n => intro j h; cases h; simp [Stops]
  | case10 n l ih => intro j h; exact stops_step (ih j h)
  | case11 n c l hc ih => intro j h; exact stops_step (ih j h)
  | case12 => intro j h; cases h
  | case13 => intro j h; cases h
  | case14 d p n c b l hc ih => intro j h; exact stops_step2 (ih j h)
  | case15 p n c b l hc hd ih => intro j h; exact stops_step2 (ih j h)
  | case16 d p n c b l hc hd h1 ih => intro j h; exact stops_step2 (ih j h)
  | case17 d p n c b l hc hd ih => intro j h; exact stops_step (ih j h)
theorem skp_stops {n : Nat} {l : List UInt8} (h : Stops l) : skp .base n l = .ok n := by
  match l with
  | [] => rfl
  | [c] => rw [skp, if_neg (by simp [h.1]), if_neg h.2]
  | c :: b :: l => rw [skp, if_neg (by simp [h.1]), if_neg h.2.1, if_neg h.2.2]
theorem skp_bad (st : Sk) (n : Nat) (l : List UInt8) : ∀ (p : Nat), skp st n l = .error p → (match st with | .deep _ q => p = q ∨ (n ≤ p ∧ p ≤ n + l.length) | _ => n ≤ p ∧ p ≤ n + l.length) := by
  fun_induction skp st n l with
  | case1 => intro p h; cases h
  | case2 n c hb ih => intro p h; have := ih p h; simp at this ⊢; omega
  | case3 n hb ih => intro p h; have := ih p h; simp at this ⊢; omega
  | case4 => intro p h; cases h
  | case5 n c b l hb ih => intro p h; have := ih p h; simp at this ⊢; omega
  | case6 n b l hb ih => intro p h; have := ih p h; simp at this ⊢; omega
  | case7 n c b l hb h59 hc ih => intro p h; have := ih p h; simp at this ⊢; omega
  | case8 => intro p h; cases h
  | case9 => intro p h; cases h
  | case10 n l ih => intro p h; have := ih p h; simp at this ⊢; omega
  | case11 n c l hc ih => intro p h; have := ih p h; simp at this ⊢; omega
  | case12 => intro p h; cases h; exact .inl rfl
  | case13 => intro p h; cases h; exact .inl rfl
  | case14 d q n c b l hc ih => intro p h; have := ih p h; simp at this ⊢; omega
  | case15 q n c b l hc hd ih => intro p h; have := ih p h; simp at this ⊢; omega
  | case16 d q n c b l hc hd h1 ih => intro p h; have := ih p h; simp at this ⊢; omega
  | case17 d q n c b l hc hd ih => intro p h; have := ih p h; simp at this ⊢; omega
end Go.Proofs.YtkgebnbdgiengaaDoor.Lx
