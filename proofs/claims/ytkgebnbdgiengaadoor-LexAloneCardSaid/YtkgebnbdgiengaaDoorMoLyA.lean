/- Laws of the plain lexer: places moved; a text ahead. -/
import Derived.Test.YtkgebnbdgiengaaDoorMoLxO
namespace Go.Proofs.YtkgebnbdgiengaaDoor.Lx

def Tk.sh (d : Nat) (t : Tk) : Tk := { t with a := t.a + d, e := t.e + d }
def shG (d : Nat) : Got → Got
  | .ok t => .ok (t.sh d)
  | .error (p, c) => .error (p + d, c)
def Sk.sh (d : Nat) : Sk → Sk
  | .base => .base
  | .line => .line
  | .deep k p => .deep k (p + d)
def skR (d : Nat) : Except Nat Nat → Except Nat Nat
  | .ok j => .ok (j + d)
  | .error p => .error (p + d)
def Qs.sh (d : Nat) : Qs → Qs
  | .plain => .plain
  | .bs => .bs
  | .hex p hs => .hex (p + d) hs
def qR (d : Nat) : Except (Nat × Nat) (List UInt8 × Nat) → Except (Nat × Nat) (List UInt8 × Nat)
  | .ok (x, e) => .ok (x, e + d)
  | .error (p, c) => .error (p + d, c)
theorem skp_sh (d : Nat) (st : Sk) (n : Nat) (l : List UInt8) : ∀ m, m = n + d → skp (st.sh d) m l = skR d (skp st n l) := by
  fun_induction skp st n l with
  | case1 n => intro m h; subst h; simp [Sk.sh, skp, skR]
  | case2 n c hb ih => intro m h; simp only [Sk.sh, skp, hb, if_true] at ih ⊢; exact ih _ (by omega)
  | case3 n hb ih => intro m h; simp only [Sk.sh] at ih ⊢; rw [skp, if_neg hb, if_pos rfl]; exact ih _ (by omega)
  | case4 n c hb h59 => intro m h; subst h; simp only [Sk.sh]; rw [skp, if_neg hb, if_neg h59]; rfl
  | case5 n c b l hb ih => intro m h; simp only [Sk.sh] at ih ⊢; rw [skp, if_pos hb]; exact ih _ (by omega)
  | case6 n b l hb ih => intro m h; simp only [Sk.sh] at ih ⊢; rw [skp, if_neg hb, if_pos rfl]; exact ih _ (by omega)
  | case7 n c b l hb h59 hc ih => intro m h; simp only [Sk.sh] at ih ⊢; rw [skp, if_neg hb, if_neg h59, if_pos hc, h]; exact ih _ (by omega)
  | case8 n c b l hb h59 hc => intro m h; subst h; simp only [Sk.sh]; rw [skp, if_neg hb, if_neg h59, if_neg hc]; rfl
  | case9 n => intro m h; subst h; simp [Sk.sh, skp, skR]
  | case10 n l ih => intro m h; simp only [Sk.sh] at ih ⊢; rw [skp, if_pos rfl]; exact ih _ (by omega)
  | case11 n c l hc ih => intro m h; simp only [Sk.sh] at ih ⊢; rw [skp, if_neg hc]; exact ih _ (by omega)
  | case12 => intro m h; simp [Sk.sh, skp, skR]
  | case13 => intro m h; simp [Sk.sh, skp, skR]
  | case14 d p n c b l hc ih => intro m h; simp only [Sk.sh] at ih ⊢; rw [skp, if_pos hc]; exact ih _ (by omega)
  | case15 p n c b l hc hd ih => intro m h; simp only [Sk.sh] at ih ⊢; rw [skp, if_neg hc, if_pos hd, if_pos rfl]; exact ih _ (by omega)
  | case16 d p n c b l hc hd h1 ih => intro m h; simp only [Sk.sh] at ih ⊢; rw [skp, if_neg hc, if_pos hd, if_neg h1]; exact ih _ (by omega)
  | case17 d p n c b l hc hd ih => intro m h; simp only [Sk.sh] at ih ⊢; rw [skp, if_neg hc, if_neg hd]; exact ih _ (by omega)
theorem qtd_sh (d : Nat) (by' : UInt8) (at' : Nat) (st : Qs) (n : Nat) (acc l : List UInt8) : ∀ m, m = n + d → 1 ≤ n → qtd by' (at' + d) (st.sh d) m acc l = qR d (qtd by' at' st n acc l) := by
  fun_induction qtd by' at' st n acc l with
  | case1 n acc l => intro m h h1; simp only [Qs.sh]; rw [qtd, if_pos rfl]; simp [qR]; omega
  | case2 n acc l hc ih => intro m h h1; simp only [Qs.sh] at ih ⊢; rw [qtd, if_neg hc, if_pos rfl]; exact ih _ (by omega) (by omega)
  | case3 n acc c l h2 h3 ih => intro m h h1; simp only [Qs.sh] at ih ⊢; rw [qtd, if_neg h2, if_neg h3]; exact ih _ (by omega) (by omega)
  | case4 n acc l ih => intro m h h1; simp only [Qs.sh] at ih ⊢; rw [qtd, if_pos rfl, show m - 1 = n - 1 + d by omega]; exact ih _ (by omega) (by omega)
  | case5 n acc c l h2 x hx ih => intro m h h1; simp only [Qs.sh] at ih ⊢; rw [qtd, if_neg h2, hx]; exact ih _ (by omega) (by omega)
  | case6 n acc c l h2 hx => intro m h h1; simp only [Qs.sh]; rw [qtd, if_neg h2, hx]; simp [qR]; omega
  | case7 p hs n acc l r hr ih => intro m h h1; simp only [Qs.sh] at ih ⊢; rw [qtd, if_pos rfl, hr]; exact ih _ (by omega) (by omega)
  | case8 p hs n acc l hr => intro m h h1; simp only [Qs.sh]; rw [qtd, if_pos rfl, hr]; simp [qR]
  | case9 p hs n acc c l hc ih => intro m h h1; simp only [Qs.sh] at ih ⊢; rw [qtd, if_neg hc]; exact ih _ (by omega) (by omega)
  | case10 => intro m h h1; simp [Qs.sh, qtd, qR]
  | case11 => intro m h h1; simp [Qs.sh, qtd, qR]
  | case12 => intro m h h1; simp [Qs.sh, qtd, qR]
theorem txd_sh (d dk : Nat) (x : List UInt8) (a e : Nat) : txd dk x (a + d) (e + d) = shG d (txd dk x a e) := by
  unfold txd
  split
  · rfl
  · split <;> rfl
theorem txd_sh' {d dk : Nat} {x : List UInt8} {a e e' : Nat} (h : e' = e + d) : txd dk x (a + d) e' = shG d (txd dk x a e) := h ▸ txd_sh d dk x a e
theorem numV_sh' {d : Nat} {w : List UInt8} {a e e' : Nat} (h : e' = e + d) : numV w (a + d) e' = shG d (numV w a e) := by
  subst h
  unfold numV
  simp only
  split <;> rfl
theorem chr_sh (d a : Nat) (l : List UInt8) : chr (a + d) l = shG d (chr a l) := by
  unfold chr
  split
  · rfl
  · simp only
    split
    · rfl
    · split
      · simp only [shG, Tk.sh, tkD]
        congr 2
        omega
      · split
        · simp only [shG, Tk.sh, tkD]
          congr 2
          omega
        · split
          · simp only [shG, Tk.sh, tkD]
            congr 2
            omega
          · rfl
theorem wrd_sh (d a : Nat) (l : List UInt8) : wrd (a + d) l = shG d (wrd a l) := by
  unfold wrd
  simp only
  have e : a + d + spanN 124 l = a + spanN 124 l + d := by omega
  rw [e]
  split
  · rfl
  · split
    · rfl
    · split
      · rfl
      · split
        · rfl
        · split
          · exact numV_sh' rfl
          · exact txd_sh' rfl
theorem tkn_sh (d a : Nat) (c : UInt8) (l : List UInt8) : tkn (a + d) c l = shG d (tkn a c l) := by
  unfold tkn
  have e1 : a + d + 1 = a + 1 + d := by omega
  have e2 : a + d + 2 = a + 2 + d := by omega
  rw [e1, e2]
  split
  · rfl
  · split
    · rfl
    · split
      · rfl
      · split
        · rfl
        · split
          · split <;> rfl
          · split
            · have hq := qtd_sh d c a .plain (a + 1) [] l _ rfl (by omega)
              simp only [Qs.sh] at hq
              rw [hq]
              cases qtd c a .plain (a + 1) [] l with
              | error p => rfl
              | ok x => exact txd_sh _ _ _ _ _
            · split
              · rfl
              · split
                · exact chr_sh _ _ _
                · exact wrd_sh _ _ _
/-- Behind a text ahead. -/
theorem nxt_pre (pre l : List UInt8) (k : Nat) : nxt (pre ++ l) (pre.length + k) = shG pre.length (nxt l k) := by
  unfold nxt
  have h1 : (pre ++ l).drop (pre.length + k) = l.drop k := by
    rw [List.drop_append, List.drop_eq_nil_of_le (by omega)]
    simp
  have h2 := skp_sh pre.length .base k (l.drop k) (pre.length + k) (by omega)
  simp only [Sk.sh] at h2
  rw [h1, h2]
  cases skp .base k (l.drop k) with
  | error p => rfl
  | ok n =>
    simp only [skR]
    have h3 : (pre ++ l).drop (n + pre.length) = l.drop n := by
      rw [List.drop_append, List.drop_eq_nil_of_le (by omega)]
      simp
    rw [h3]
    cases l.drop n with
    | nil => rfl
    | cons c r => exact tkn_sh _ _ _ _
theorem nextG_pre {pre l : List UInt8} {k : Nat} (h : (pre ++ l).length ≤ 4096) (hk : k ≤ l.length) : nextG (pre ++ l) ((pre.length + k : Nat) : Int) = shG pre.length (nextG l k) := by
  have hl : l.length ≤ 4096 := by simp at h; omega
  rw [nextG_in h (by simp; omega), nextG_in hl hk, nxt_pre]
end Go.Proofs.YtkgebnbdgiengaaDoor.Lx
