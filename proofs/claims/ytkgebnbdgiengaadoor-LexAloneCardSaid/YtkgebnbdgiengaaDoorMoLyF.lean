/- Where an error stands; rows of tokens. -/
import Derived.Test.YtkgebnbdgiengaaDoorMoLyE
namespace Go.Proofs.YtkgebnbdgiengaaDoor
open Go.RowKit Lx

/-! ### where an error stands -/
theorem qtd_bad (by' : UInt8) (at' : Nat) (st : Qs) (n : Nat) (acc l : List UInt8) : ∀ p c, qtd by' at' st n acc l = .error (p, c) → p = at' ∨ p ≤ n + l.length ∨ (match st with | .hex q _ => p = q | _ => False) := by
  fun_induction qtd by' at' st n acc l with
  | case1 n acc l => intro p c h; cases h
  | case2 n acc l hc ih => intro p c h; have := ih p c h; simp at this ⊢; omega
  | case3 n acc c' l h2 h3 ih => intro p c h; have := ih p c h; simp at this ⊢; omega
  | case4 n acc l ih => intro p c h; have := ih p c h; simp at this ⊢; omega
  | case5 n acc c' l h2 x hx ih => intro p c h; have := ih p c h; simp at this ⊢; omega
  | case6 n acc c' l h2 hx => intro p c h; cases h; simp; omega
  | case7 q hs n acc l r hr ih => intro p c h; have := ih p c h; simp at this ⊢; omega
  | case8 q hs n acc l hr => intro p c h; cases h; simp
  | case9 q hs n acc c' l hc ih => intro p c h; have := ih p c h; simp at this ⊢; omega
  | case10 => intro p c h; cases h; simp
  | case11 => intro p c h; cases h; simp
  | case12 => intro p c h; cases h; simp
theorem txd_bad {dk : Nat} {x : List UInt8} {a e p c : Nat} (h : txd dk x a e = .error (p, c)) : p = a := by
  unfold txd at h
  split at h
  · cases h; rfl
  · split at h
    · cases h; rfl
    · cases h
theorem chr_bad {a : Nat} {l : List UInt8} {p c : Nat} (h : chr a l = .error (p, c)) : p = a := by
  unfold chr at h
  split at h
  · cases h; rfl
  · simp only at h
    split at h
    · cases h; rfl
    · split at h
      · cases h
      · split at h
        · cases h
        · split at h
          · cases h
          · cases h; rfl
theorem wrd_bad {a : Nat} {l : List UInt8} {p c : Nat} (h : wrd a l = .error (p, c)) : p = a := by
  unfold wrd at h
  simp only at h
  split at h
  · cases h
  · split at h
    · cases h
    · split at h
      · cases h
      · split at h
        · cases h; rfl
        · split at h
          · unfold numV at h
            simp only at h
            split at h
            · cases h; rfl
            · cases h
          · exact txd_bad h
theorem tkn_bad {a : Nat} {x : UInt8} {l : List UInt8} {p c : Nat} (h : tkn a x l = .error (p, c)) : p ≤ a + 1 + l.length := by
  unfold tkn at h
  split at h
  · cases h
  · split at h
    · cases h
    · split at h
      · cases h
      · split at h
        · cases h
        · split at h
          · split at h <;> cases h
          · split at h
            · split at h
              · rename_i q hq
                cases h
                have := qtd_bad _ _ _ _ _ _ _ _ hq
                simp at this
                omega
              · have := txd_bad h; omega
            · split at h
              · cases h
              · split at h
                · have := chr_bad h; omega
                · have := wrd_bad h; omega
theorem nxt_bad {l : List UInt8} {k p c : Nat} (hk : k ≤ l.length) (h : nxt l k = .error (p, c)) : p ≤ l.length := by
  unfold nxt at h
  split at h
  · rename_i q hq
    cases h
    have := skp_bad _ _ _ _ hq
    simp at this
    omega
  · rename_i n hn
    have hb := skp_ok _ _ _ _ hn
    rw [List.length_drop] at hb
    split at h
    · cases h
    · rename_i x r hd
      have h1 := tkn_bad h
      have h2 := congrArg List.length hd
      simp at h2
      omega
theorem all_place (l : List UInt8) : (lexAll l).2.1 ≤ l.length := by
  have h := chain_all l
  rcases h.fin with ⟨_, h1⟩ | ⟨_, h1, _⟩
  · have hk := chain_le h.tok (Nat.le_refl _)
    generalize atOf (lexAll l).1 (lexAll l).1.length = k at *
    unfold nextG at h1
    split at h1
    · have := congrArg (fun x : Got => match x with | .error (p, _) => p | _ => 0) h1
      simp at this
      omega
    · split at h1
      · have := congrArg (fun x : Got => match x with | .error (p, _) => p | _ => 0) h1
        simp at this
        omega
      · exact nxt_bad (by omega) h1
  · omega
/-! ### rows -/
def R2 (w : World) (A : Option Addr) (ts : List Tk) : Prop := ∃ cs, Reads w 33 A cs ∧ TkRow w ts cs
theorem R2.below {w w' : World} {A : Option Addr} {ts : List Tk} (h : R2 w A ts) (hb : Below w.heap.size w w') : R2 w' A ts := by
  obtain ⟨cs, h1, h2⟩ := h
  exact ⟨cs, h1.below hb, h2.below hb⟩
theorem R2.tok {w : World} {A : Option Addr} {ts : List Tk} (h : R2 w A ts) {i : Nat} (hi : i < ts.length) : ∃ b o B c, A = some ⟨b, o, none⟩ ∧ Reads w 69 B (ints .u32 ts[i].mag) ∧ w.rangeAt b (o + i * 10) (tkCs ts[i] (.slice B ts[i].mag.length c)) := by
  obtain ⟨cs, h1, h2⟩ := h
  exact row_range h1 h2 hi
theorem R2.nil (w : World) : R2 w none [] := ⟨[], fun h => absurd h (by simp), rfl⟩
theorem cells10 {w : World} {b f : Nat} {x : Tk} {M : Value} (h : w.rangeAt b f (tkCs x M)) :
    w.cell? ⟨b, f, none⟩ = some (.int .i64 x.kind) ∧ w.cell? ⟨b, f + 1, none⟩ = some (.int .i64 x.a) ∧ w.cell? ⟨b, f + 2, none⟩ = some (.int .i64 x.e) ∧ w.cell? ⟨b, f + 3, none⟩ = some (.bool x.sq) ∧ w.cell? ⟨b, f + 4, none⟩ = some (.int .i64 x.dk) ∧
    w.cell? ⟨b, f + 5, none⟩ = some (.int .i32 x.c) ∧ w.cell? ⟨b, f + 6, none⟩ = some (.bool x.neg) ∧ w.cell? ⟨b, f + 7, none⟩ = some M ∧ w.cell? ⟨b, f + 8, none⟩ = some (.string ⟨x.t.toArray⟩) ∧ w.cell? ⟨b, f + 9, none⟩ = some (.slice none 0 0) :=
  ⟨h 0 _ rfl, h 1 _ rfl, h 2 _ rfl, h 3 _ rfl, h 4 _ rfl, h 5 _ rfl, h 6 _ rfl, h 7 _ rfl, h 8 _ rfl, h 9 _ rfl⟩
theorem all_r2 {R : List Tk × Nat × Nat} {w w' : World} {e : Ending} (h : AllRes R w e w') : Below w.heap.size w w' ∧ ∃ A c, e = .returned (.tuple #[.slice A R.1.length c, .int .i64 R.2.1, .int .i64 R.2.2]) ∧ R2 w' A R.1 := by
  obtain ⟨h1, A, c, cs, h2, h3, h4⟩ := h
  exact ⟨h1, A, c, h2, cs, h3, h4⟩
theorem all_mag (l : List UInt8) {i : Nat} (hi : i < (lexAll l).1.length) : (lexAll l).1[i].mag.length ≤ 1000000 :=
  Nat.le_trans (nextG_mag ((chain_all l).tok i hi).1) (by decide)
theorem all_bd (l : List UInt8) {i : Nat} (hi : i < (lexAll l).1.length) : (lexAll l).1[i].a < (lexAll l).1[i].e ∧ (lexAll l).1[i].e ≤ l.length ∧ l.length ≤ 4096 :=
  (nextG_end ((chain_all l).tok i hi).1 ((chain_all l).tok i hi).2).2
theorem all_few (l : List UInt8) : (lexAll l).1.length ≤ l.length :=
  Nat.le_trans (chain_ge (chain_all l).tok (Nat.le_refl _)) (chain_le (chain_all l).tok (Nat.le_refl _))
end Go.Proofs.YtkgebnbdgiengaaDoor
