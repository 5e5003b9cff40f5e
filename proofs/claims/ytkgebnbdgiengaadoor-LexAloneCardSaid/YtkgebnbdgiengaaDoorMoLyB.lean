/- Laws of the plain lexer: a text behind. -/
import Derived.Test.YtkgebnbdgiengaaDoorMoLyA
import Derived.Lib.TrimUEq
namespace Go.Proofs.YtkgebnbdgiengaaDoor.Lx

/-- Nothing, or a blank first. -/
def Br (r : List UInt8) : Prop := ∀ c r', r = c :: r' → isBlank c = true
theorem Br.nil : Br [] := fun _ _ h => by cases h
theorem Br.cons {c : UInt8} {r : List UInt8} (h : isBlank c = true) : Br (c :: r) := fun _ _ e => by cases e; exact h
theorem blank_lt {c : UInt8} (h : isBlank c = true) : c.toNat < 128 := by
  simp only [isBlank, Bool.or_eq_true, beq_iff_eq] at h
  rcases h with (((h | h) | h) | h) | h <;> subst h <;> decide
theorem blank_ne {c : UInt8} (h : isBlank c = true) {x : UInt8} (hx : isBlank x = false) : c ≠ x := by
  rintro rfl; rw [h] at hx; cases hx
theorem blank_hex {c : UInt8} (h : isBlank c = true) : hexD c = none := by
  simp only [isBlank, Bool.or_eq_true, beq_iff_eq] at h
  rcases h with (((h | h) | h) | h) | h <;> subst h <;> decide
theorem blank_goes {c : UInt8} (h : isBlank c = true) (more : UInt8) : goes more c = false := by
  simp [goes, isDelim, h]

theorem skp_app {r : List UInt8} (hr : Br r) (st : Sk) (n : Nat) (l : List UInt8) : ∀ j, skp st n l = .ok j → j < n + l.length → skp st n (l ++ r) = .ok j := by
  fun_induction skp st n l with
  | case1 n => intro j h hj; cases h; simp at hj
  | case2 n c hb ih =>
    intro j h hj
    have := ih j h
    have h2 := (skp_ok _ _ _ _ h).1
    simp at hj; omega
  | case3 n hb ih =>
    intro j h hj
    have h2 := (skp_ok _ _ _ _ h).1
    simp at hj; omega
  | case4 n c hb h59 =>
    intro j h hj
    cases h
    cases r with
    | nil => simp only [List.append_nil]; rw [skp, if_neg hb, if_neg h59]
    | cons x r =>
      have hx := blank_ne (hr _ _ rfl) (x := 124) (by decide)
      simp only [List.cons_append, List.nil_append]
      rw [skp, if_neg hb, if_neg h59, if_neg (by rintro ⟨_, h⟩; exact hx h)]
  | case5 n c b l hb ih => intro j h hj; simp only [List.cons_append] at ih ⊢; rw [skp, if_pos hb]; exact ih j h (by simp at hj ⊢; omega)
  | case6 n b l hb ih => intro j h hj; simp only [List.cons_append] at ih ⊢; rw [skp, if_neg hb, if_pos rfl]; exact ih j h (by simp at hj ⊢; omega)
  | case7 n c b l hb h59 hc ih => intro j h hj; simp only [List.cons_append] at ih ⊢; rw [skp, if_neg hb, if_neg h59, if_pos hc]; exact ih j h (by simp at hj ⊢; omega)
  | case8 n c b l hb h59 hc => intro j h hj; simp only [List.cons_append]; rw [skp, if_neg hb, if_neg h59, if_neg hc]; exact h
  | case9 n => intro j h hj; cases h; simp at hj
  | case10 n l ih => intro j h hj; simp only [List.cons_append]; rw [skp, if_pos rfl]; exact ih j h (by simp at hj ⊢; omega)
  | case11 n c l hc ih => intro j h hj; simp only [List.cons_append]; rw [skp, if_neg hc]; exact ih j h (by simp at hj ⊢; omega)
  | case12 => intro j h; cases h
  | case13 => intro j h; cases h
  | case14 d p n c b l hc ih => intro j h hj; simp only [List.cons_append]; rw [skp, if_pos hc]; exact ih j h (by simp at hj ⊢; omega)
  | case15 p n c b l hc hd ih => intro j h hj; simp only [List.cons_append]; rw [skp, if_neg hc, if_pos hd, if_pos rfl]; exact ih j h (by simp at hj ⊢; omega)
  | case16 d p n c b l hc hd h1 ih => intro j h hj; simp only [List.cons_append]; rw [skp, if_neg hc, if_pos hd, if_neg h1]; exact ih j h (by simp at hj ⊢; omega)
  | case17 d p n c b l hc hd ih => intro j h hj; simp only [List.cons_append] at ih ⊢; rw [skp, if_neg hc, if_neg hd]; exact ih j h (by simp at hj ⊢; omega)
theorem skp_nl (st : Sk) (n : Nat) (b : List UInt8) (h : ∀ d p, st ≠ .deep d p) : skp st n (10 :: b) = skp .base (n + 1) b := by
  cases st with
  | base =>
    cases b with
    | nil => simp [skp, isBlank]
    | cons x b => rw [skp, if_pos (by decide)]
  | line => rw [skp, if_pos rfl]
  | deep d p => exact absurd rfl (h d p)
/-- All skipped: it goes on behind the line's end. -/
theorem skp_thru (b : List UInt8) (st : Sk) (n : Nat) (l : List UInt8) : ∀ j, skp st n l = .ok j → j = n + l.length → skp st n (l ++ 10 :: b) = skp .base (j + 1) b := by
  fun_induction skp st n l with
  | case1 n => intro j h hj; cases h; exact skp_nl _ _ _ (fun _ _ h => by cases h)
  | case2 n c hb ih => intro j h hj; simp only [List.cons_append, List.nil_append] at ih ⊢; rw [skp, if_pos hb]; exact ih j h (by simp at hj ⊢; omega)
  | case3 n hb ih => intro j h hj; simp only [List.cons_append, List.nil_append] at ih ⊢; rw [skp, if_neg hb, if_pos rfl]; exact ih j h (by simp at hj ⊢; omega)
  | case4 n c hb h59 => intro j h hj; cases h; simp at hj
  | case5 n c b' l hb ih => intro j h hj; simp only [List.cons_append] at ih ⊢; rw [skp, if_pos hb]; exact ih j h (by simp at hj ⊢; omega)
  | case6 n b' l hb ih => intro j h hj; simp only [List.cons_append] at ih ⊢; rw [skp, if_neg hb, if_pos rfl]; exact ih j h (by simp at hj ⊢; omega)
  | case7 n c b' l hb h59 hc ih => intro j h hj; simp only [List.cons_append] at ih ⊢; rw [skp, if_neg hb, if_neg h59, if_pos hc]; exact ih j h (by simp at hj ⊢; omega)
  | case8 n c b' l hb h59 hc => intro j h hj; cases h; simp at hj
  | case9 n => intro j h hj; cases h; exact skp_nl _ _ _ (fun _ _ h => by cases h)
  | case10 n l ih => intro j h hj; simp only [List.cons_append]; rw [skp, if_pos rfl]; exact ih j h (by simp at hj ⊢; omega)
  | case11 n c l hc ih => intro j h hj; simp only [List.cons_append]; rw [skp, if_neg hc]; exact ih j h (by simp at hj ⊢; omega)
  | case12 => intro j h; cases h
  | case13 => intro j h; cases h
  | case14 d p n c b' l hc ih => intro j h hj; simp only [List.cons_append]; rw [skp, if_pos hc]; exact ih j h (by simp at hj ⊢; omega)
  | case15 p n c b' l hc hd ih => intro j h hj; simp only [List.cons_append]; rw [skp, if_neg hc, if_pos hd, if_pos rfl]; exact ih j h (by simp at hj ⊢; omega)
  | case16 d p n c b' l hc hd h1 ih => intro j h hj; simp only [List.cons_append]; rw [skp, if_neg hc, if_pos hd, if_neg h1]; exact ih j h (by simp at hj ⊢; omega)
  | case17 d p n c b' l hc hd ih => intro j h hj; simp only [List.cons_append] at ih ⊢; rw [skp, if_neg hc, if_neg hd]; exact ih j h (by simp at hj ⊢; omega)

/-! ### texts -/
theorem hexGo_none {x : UInt8} (hx : hexD x = none) : ∀ (l : List UInt8) (n : Nat), x ∈ l → hexGo n l = none
  | c :: l, n, h => by
    rw [hexGo]
    rcases List.mem_cons.1 h with rfl | h
    · rw [hx]
    · cases hexD c with
      | none => rfl
      | some d => exact hexGo_none hx l _ h
theorem hexV_none {x : UInt8} (hx : hexD x = none) {l : List UInt8} (h : x ∈ l) : hexV l = none := by
  unfold hexV
  split
  · rfl
  · rw [hexGo_none hx l 0 h]
theorem qtd_lost {x : UInt8} (hx : hexD x = none) (by' : UInt8) (at' p : Nat) : ∀ (l : List UInt8) (hs : List UInt8) (n : Nat) (acc : List UInt8), x ∈ hs → qtd by' at' (.hex p hs) n acc l = .error (p, 9)
  | [], hs, n, acc, h => by rw [qtd]
  | c :: l, hs, n, acc, h => by
    rw [qtd]
    split
    · rw [hexV_none hx h]
    · exact qtd_lost hx by' at' p l _ _ _ (List.mem_append_left _ h)
theorem qtd_app {r : List UInt8} (hr : Br r) (by' : UInt8) (at' : Nat) (st : Qs) (n : Nat) (acc l : List UInt8) : (∀ p, qtd by' at' st n acc l ≠ .error (p, 11)) → qtd by' at' st n acc (l ++ r) = qtd by' at' st n acc l := by
  fun_induction qtd by' at' st n acc l with
  | case1 n acc l => intro h; simp only [List.cons_append]; rw [qtd, if_pos rfl]
  | case2 n acc l hc ih => intro h; simp only [List.cons_append]; rw [qtd, if_neg hc, if_pos rfl]; exact ih h
  | case3 n acc c l h2 h3 ih => intro h; simp only [List.cons_append]; rw [qtd, if_neg h2, if_neg h3]; exact ih h
  | case4 n acc l ih => intro h; simp only [List.cons_append]; rw [qtd, if_pos rfl]; exact ih h
  | case5 n acc c l h2 x hx ih => intro h; simp only [List.cons_append]; rw [qtd, if_neg h2, hx]; exact ih h
  | case6 n acc c l h2 hx => intro h; simp only [List.cons_append]; rw [qtd, if_neg h2, hx]
  | case7 p hs n acc l r' hr' ih => intro h; simp only [List.cons_append]; rw [qtd, if_pos rfl, hr']; exact ih h
  | case8 p hs n acc l hr' => intro h; simp only [List.cons_append]; rw [qtd, if_pos rfl, hr']
  | case9 p hs n acc c l hc ih => intro h; simp only [List.cons_append]; rw [qtd, if_neg hc]; exact ih h
  | case10 => intro h; exact absurd rfl (h _)
  | case11 => intro h; exact absurd rfl (h _)
  | case12 p hs n acc =>
    intro h
    cases r with
    | nil => simp only [List.append_nil]; rw [qtd]
    | cons x r =>
      have hb := hr _ _ rfl
      simp only [List.nil_append]
      rw [qtd, if_neg (blank_ne hb (by decide))]
      exact qtd_lost (blank_hex hb) _ _ _ _ _ _ _ (by simp)

/-! ### words -/
theorem takeWhile_app {p : UInt8 → Bool} {r : List UInt8} (hr : ∀ c r', r = c :: r' → p c = false) : ∀ l : List UInt8, (l ++ r).takeWhile p = l.takeWhile p
  | [] => by
    cases r with
    | nil => rfl
    | cons c r => simp [hr _ _ rfl]
  | c :: l => by
    simp only [List.cons_append, List.takeWhile_cons]
    split
    · rw [takeWhile_app hr l]
    · rfl
theorem spanN_app {r : List UInt8} (hr : Br r) (more : UInt8) (l : List UInt8) : spanN more (l ++ r) = spanN more l := by
  unfold spanN
  rw [takeWhile_app (fun c r' e => blank_goes (hr c r' e) more)]
theorem spanN_le (more : UInt8) (l : List UInt8) : spanN more l ≤ l.length := (List.takeWhile_sublist _).length_le
theorem take_app {r l : List UInt8} {k : Nat} (h : k ≤ l.length) : (l ++ r).take k = l.take k := by
  rw [List.take_append_of_le_length h]
theorem wrd_app {r : List UInt8} (hr : Br r) (a : Nat) (l : List UInt8) : wrd a (l ++ r) = wrd a l := by
  unfold wrd
  simp only
  rw [spanN_app hr, take_app (spanN_le _ _)]
set_option maxRecDepth 100000 in
open Lib in
theorem decode_app {r : List UInt8} (hr : Br r) {l : List UInt8} (hl : l ≠ []) : decodeL (l ++ r) = decodeL l := by
  cases r with
  | nil => simp
  | cons x r =>
    have hx := blank_lt (hr _ _ rfl)
    rw [decodeL_N, decodeL_N]
    match l with
    | [a] =>
      simp only [List.cons_append, List.nil_append, List.length_cons, List.length_nil, List.getD_cons_zero, List.getD_cons_succ]
      have h1 : ¬ x.toNat / 64 = 2 := by omega
      simp [decodeN, h1]
    | [a, b] =>
      simp only [List.cons_append, List.nil_append, List.length_cons, List.length_nil, List.getD_cons_zero, List.getD_cons_succ]
      have h1 : ¬ x.toNat / 64 = 2 := by omega
      simp [decodeN, h1]
    | [a, b, c] =>
      simp only [List.cons_append, List.nil_append, List.length_cons, List.length_nil, List.getD_cons_zero, List.getD_cons_succ]
      have h1 : ¬ x.toNat / 64 = 2 := by omega
      simp [decodeN, h1]
    | a :: b :: c :: d :: l =>
      simp only [List.cons_append, List.length_cons, List.length_append, List.getD_cons_zero, List.getD_cons_succ]
      unfold decodeN
      have e1 : (1 < l.length + (r.length + 1) + 1 + 1 + 1 + 1) = (1 < l.length + 1 + 1 + 1 + 1) := propext ⟨fun _ => by omega, fun _ => by omega⟩
      have e2 : (2 < l.length + (r.length + 1) + 1 + 1 + 1 + 1) = (2 < l.length + 1 + 1 + 1 + 1) := propext ⟨fun _ => by omega, fun _ => by omega⟩
      have e3 : (3 < l.length + (r.length + 1) + 1 + 1 + 1 + 1) = (3 < l.length + 1 + 1 + 1 + 1) := propext ⟨fun _ => by omega, fun _ => by omega⟩
      simp only [e1, e2, e3]
theorem chr_app {r : List UInt8} (hr : Br r) (a : Nat) {l : List UInt8} (hl : l ≠ []) : chr a (l ++ r) = chr a l := by
  have h1 := Lib.decodeL_le l hl
  unfold chr
  rw [if_neg hl, if_neg (by simp [hl]), decode_app hr hl]
  simp only
  have h2 : (l ++ r).drop (Lib.decodeL l).2 = l.drop (Lib.decodeL l).2 ++ r := by rw [List.drop_append_of_le_length h1]
  have h3 := spanN_le 0 (l.drop (Lib.decodeL l).2)
  rw [List.length_drop] at h3
  rw [h2, spanN_app hr, take_app (by omega)]
theorem tkn_app {r : List UInt8} (hr : Br r) (a : Nat) (c : UInt8) (l : List UInt8) (h : ∀ p, tkn a c l ≠ .error (p, 11)) : tkn a c (l ++ r) = tkn a c l := by
  have hh : ∀ x : UInt8, isBlank x = false → ((l ++ r).head? = some x ↔ l.head? = some x) := by
    intro x hx
    cases l with
    | nil =>
      cases r with
      | nil => simp
      | cons y r =>
        have := blank_ne (hr _ _ rfl) hx
        simp [this]
    | cons y l => simp
  unfold tkn at h ⊢
  simp only [hh 64 (by decide), hh 40 (by decide), hh 92 (by decide)]
  split
  · rfl
  · split
    · rfl
    · split
      · rfl
      · split
        · rfl
        · split
          · rfl
          · rename_i h1 h2 h3 h4 h5
            rw [if_neg h1, if_neg h2, if_neg h3, if_neg h4, if_neg h5] at h
            split
            · rename_i h6
              rw [if_pos h6] at h
              rw [qtd_app hr]
              intro p hp
              rw [hp] at h
              exact h p rfl
            · rename_i h6
              rw [if_neg h6] at h
              split
              · rfl
              · rename_i h7
                rw [if_neg h7] at h
                split
                · rename_i h8
                  rw [if_pos h8] at h
                  obtain ⟨l', rfl⟩ : ∃ l', l = 92 :: l' := by
                    cases l with
                    | nil => simp at h8
                    | cons y l => exact ⟨l, by simpa using h8.2⟩
                  simp only [List.cons_append, List.tail_cons] at h ⊢
                  refine chr_app hr a ?_
                  rintro rfl
                  exact h a (by simp [chr])
                · exact wrd_app hr a (c :: l)
/-! ### the token at a place -/
theorem nxt_app_ok {r l : List UInt8} (hr : Br r) {k : Nat} (hk : k ≤ l.length) {t : Tk} (h : nxt l k = .ok t) (h0 : t.kind ≠ 0) : nxt (l ++ r) k = .ok t := by
  unfold nxt at h ⊢
  rw [List.drop_append_of_le_length hk]
  cases hs : skp .base k (l.drop k) with
  | error p => rw [hs] at h; cases h
  | ok n =>
    rw [hs] at h
    simp only at h
    have hb := skp_ok _ _ _ _ hs
    rw [List.length_drop] at hb
    cases hd : l.drop n with
    | nil => rw [hd] at h; cases h; exact absurd rfl h0
    | cons c l' =>
      rw [hd] at h
      simp only at h
      have hn : n < l.length := by
        have := congrArg List.length hd
        simp at this; omega
      rw [skp_app hr _ _ _ n hs (by rw [List.length_drop]; omega)]
      simp only
      rw [List.drop_append_of_le_length (by omega), hd]
      simp only [List.cons_append]
      rw [tkn_app hr _ _ _ (by rw [h]; intro p hp; cases hp)]
      exact h
theorem nxt_app_err {r l : List UInt8} (hr : Br r) {k : Nat} (hk : k ≤ l.length) {p c : Nat} (h : nxt l k = .error (p, c)) (h0 : c ≠ 11) : nxt (l ++ r) k = .error (p, c) := by
  unfold nxt at h ⊢
  rw [List.drop_append_of_le_length hk]
  cases hs : skp .base k (l.drop k) with
  | error q => rw [hs] at h; cases h; exact absurd rfl h0
  | ok n =>
    rw [hs] at h
    simp only at h
    have hb := skp_ok _ _ _ _ hs
    rw [List.length_drop] at hb
    cases hd : l.drop n with
    | nil => rw [hd] at h; cases h
    | cons c' l' =>
      rw [hd] at h
      simp only at h
      have hn : n < l.length := by
        have := congrArg List.length hd
        simp at this; omega
      rw [skp_app hr _ _ _ n hs (by rw [List.length_drop]; omega)]
      simp only
      rw [List.drop_append_of_le_length (by omega), hd]
      simp only [List.cons_append]
      rw [tkn_app hr _ _ _ (by rw [h]; intro q hq; cases hq; exact h0 rfl)]
      exact h
theorem nxt_thru {l : List UInt8} (b : List UInt8) {k : Nat} (hk : k ≤ l.length) (h : skp .base k (l.drop k) = .ok l.length) : nxt (l ++ 10 :: b) k = nxt (l ++ 10 :: b) (l.length + 1) := by
  unfold nxt
  have h1 : (l ++ 10 :: b).drop (l.length + 1) = b := by
    rw [List.drop_append, List.drop_eq_nil_of_le (by omega), show l.length + 1 - l.length = 1 by omega]
    simp
  rw [List.drop_append_of_le_length hk, skp_thru b _ _ _ _ h (by rw [List.length_drop]; omega), h1]
end Go.Proofs.YtkgebnbdgiengaaDoor.Lx
