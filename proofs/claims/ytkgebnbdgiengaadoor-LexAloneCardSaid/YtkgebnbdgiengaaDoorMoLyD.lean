/- Laws of the plain lexer: a token alone; two texts. -/
import Derived.Test.YtkgebnbdgiengaaDoorMoLyC
namespace Go.Proofs.YtkgebnbdgiengaaDoor.Lx

theorem Stops.cut {l : List UInt8} (h : Stops l) {m : Nat} (hm : 0 < m) : Stops (l.take m) := by
  match l, m, hm with
  | [], _, _ => simp [Stops]
  | [c], m + 1, _ => simpa using h
  | c :: b :: l, 1, _ => exact ⟨h.1, h.2.1⟩
  | c :: b :: l, m + 2, _ => exact h
theorem Stops.app {c : UInt8} {l r : List UInt8} (hr : Br r) (h : Stops (c :: l)) : Stops (c :: l ++ r) := by
  cases l with
  | nil =>
    cases r with
    | nil => exact h
    | cons x r => exact ⟨h.1, h.2, fun e => blank_ne (hr _ _ rfl) (by decide) e.2⟩
  | cons b l => exact h
theorem nxt_stops {l : List UInt8} {k : Nat} {c : UInt8} {r : List UInt8} (hd : l.drop k = c :: r) (h : Stops (c :: r)) : nxt l k = tkn k c r := by
  unfold nxt
  rw [hd, skp_stops h]
  simp only
  rw [hd]
theorem nxt_last {l : List UInt8} {k : Nat} (h : skp .base k (l.drop k) = .ok l.length) : nxt l k = .ok (tk0 0 l.length l.length false) := by
  unfold nxt
  rw [h]
  simp
theorem lexAll_one {w : List UInt8} {t t1 : Tk} (hw : 1 ≤ w.length) (h : nextG w (0 : Nat) = .ok t) (h0 : t.kind ≠ 0) (h1 : nextG w t.e = .ok t1) (h2 : t1.kind = 0) : lexAll w = ([t], 0, 0) := by
  unfold lexAll
  obtain ⟨n, hn⟩ : ∃ n, w.length = n + 1 := ⟨w.length - 1, by omega⟩
  rw [hn, allGo_succ, h]
  simp only
  rw [if_neg h0, allGo_succ, h1]
  simp only
  rw [if_pos h2]
/-- " #| ; |# ;" -/
def tail4 : List UInt8 := [32, 35, 124, 32, 59, 32, 124, 35, 32, 59]
theorem skp_tail4 (n : Nat) : skp .base n tail4 = .ok (n + 10) := by
  simp [tail4, skp, isBlank]
theorem alone {s : List UInt8} {k : Nat} {t : Tk} (h : nextG s k = .ok t) (h0 : t.kind ≠ 0) :
    ∃ t0 : Tk, t = t0.sh t.a ∧ t0.a = 0 ∧ lexAll ((s.drop t.a).take (t.e - t.a)) = ([t0], 0, 0) ∧ (t.e - t.a ≤ 4000 → lexAll (32 :: (s.drop t.a).take (t.e - t.a) ++ tail4) = ([t0.sh 1], 0, 0)) := by
  obtain ⟨hl, hk, hn⟩ := nextG_ok h
  have hn2 := nxt_again hk hn h0
  rcases nxt_ok hk hn with e | ⟨_, h2, h3, h4, h5, h6⟩
  · rw [e] at h0; exact absurd rfl h0
  obtain ⟨c, l, hd⟩ : ∃ c l, s.drop t.a = c :: l := by
    cases hd : s.drop t.a with
    | nil => have := List.drop_eq_nil_iff.1 hd; omega
    | cons c l => exact ⟨c, l, rfl⟩
  have hdl := congrArg List.length hd
  rw [List.length_drop, List.length_cons] at hdl
  rw [hd] at h6
  rw [nxt_stops hd h6] at hn2
  have hcut := tkn_cut hn2
  obtain ⟨m, hm⟩ : ∃ m, t.e - t.a = m + 1 := ⟨t.e - t.a - 1, by omega⟩
  rw [show t.e - t.a - 1 = m by omega] at hcut
  rw [hd, hm, List.take_succ_cons]
  have hs := h6.cut (m := m + 1) (by omega)
  rw [List.take_succ_cons] at hs
  obtain ⟨w, hw⟩ : ∃ w, l.take m = w := ⟨_, rfl⟩
  have hwl : w.length = m := by rw [← hw, List.length_take]; omega
  rw [hw] at hcut hs ⊢
  have hsh := tkn_sh t.a 0 c w
  rw [Nat.zero_add, hcut] at hsh
  cases ht0 : tkn 0 c w with
  | error p => obtain ⟨p, q⟩ := p; rw [ht0] at hsh; cases hsh
  | ok t0 =>
    rw [ht0] at hsh
    have hte : t = t0.sh t.a := Except.ok.inj hsh
    have hok := tkn_ok ht0
    have he : t0.e = m + 1 := by
      have := congrArg Tk.e hte
      simp only [Tk.sh] at this
      omega
    refine ⟨t0, hte, hok.2.1, ?_, fun h4000 => ?_⟩
    · refine lexAll_one (by simp) (t1 := tk0 0 (c :: w).length (c :: w).length false) ?_ hok.1 ?_ rfl
      · rw [nextG_in (by simp; omega) (by omega), nxt_stops (by rw [List.drop_zero]) hs]
        exact ht0
      · rw [nextG_in (by simp; omega) (by simp; omega)]
        refine nxt_last ?_
        rw [he, ← hwl, List.drop_eq_nil_of_le (by simp)]
        rfl
    · have hB : Br tail4 := Br.cons (by decide)
      have hsh1 := tkn_sh 1 0 c w
      rw [ht0] at hsh1
      refine lexAll_one (by simp) (t1 := tk0 0 (32 :: (c :: w) ++ tail4).length (32 :: (c :: w) ++ tail4).length false) ?_ hok.1 ?_ rfl
      · rw [nextG_in (by simp [tail4]; omega) (by omega)]
        unfold nxt
        have hst := hs.app hB
        have e1 : skp .base 0 ((32 :: (c :: w) ++ tail4).drop 0) = .ok 1 := by
          rw [List.drop_zero]
          simp only [List.cons_append] at hst ⊢
          rw [skp, if_pos (by decide)]
          exact skp_stops hst
        rw [e1]
        simp only [List.cons_append, List.drop_succ_cons, List.drop_zero]
        rw [tkn_app hB _ _ _ (by rw [hsh1]; intro p hp; cases hp), hsh1]
        rfl
      · have e2 : (32 :: (c :: w) ++ tail4).drop (t0.sh 1).e = tail4 := by
          show (32 :: (c :: w) ++ tail4).drop (t0.e + 1) = tail4
          rw [he, ← hwl]
          simp
        have e3 : (32 :: (c :: w) ++ tail4).length = m + 12 := by simp [tail4, hwl]
        have e4 : (t0.sh 1).e = m + 2 := by show t0.e + 1 = m + 2; omega
        rw [nextG_in (by omega) (by omega)]
        refine nxt_last ?_
        rw [e2, skp_tail4, e3, e4]
/-! ### two texts -/
theorem chain_same {l : List UInt8} {ts us : List Tk} {p c q d : Nat} (h1 : Chain l ts p c) (h2 : Chain l us q d) : ∀ i, i ≤ ts.length → i ≤ us.length → (∀ j, (a : j < i) → (b : j < ts.length) → (e : j < us.length) → ts[j] = us[j]) ∧ atOf ts i = atOf us i
  | 0, _, _ => ⟨fun j hj => by omega, rfl⟩
  | i + 1, a, b => by
    obtain ⟨h3, h4⟩ := chain_same h1 h2 i (by omega) (by omega)
    have e1 := (h1.tok i (by omega)).1
    have e2 := (h2.tok i (by omega)).1
    rw [h4, e2] at e1
    have e3 := Except.ok.inj e1
    refine ⟨fun j hj hb he => ?_, by rw [atOf_succ (by omega), atOf_succ (by omega), e3]⟩
    by_cases hji : j = i
    · subst hji; exact e3.symm
    · exact h3 j (by omega) hb he
theorem chain_stop {l : List UInt8} {ts us : List Tk} {p c q d : Nat} (h1 : Chain l ts p c) (h2 : Chain l us q d) : ¬ ts.length < us.length := by
  intro h
  have h3 := (chain_same h1 h2 ts.length (Nat.le_refl _) (by omega)).2
  have h4 := h2.tok ts.length h
  rw [← h3] at h4
  rcases h1.fin with ⟨_, h5⟩ | ⟨_, _, t, h5, h6⟩
  · rw [h5] at h4; cases h4.1
  · rw [h5] at h4
    have := Except.ok.inj h4.1
    rw [← this] at h4
    exact h4.2 h6
theorem chain_unique {l : List UInt8} {ts us : List Tk} {p c q d : Nat} (h1 : Chain l ts p c) (h2 : Chain l us q d) : (ts, p, c) = (us, q, d) := by
  have hl : ts.length = us.length := by
    have := chain_stop h1 h2
    have := chain_stop h2 h1
    omega
  obtain ⟨h3, h4⟩ := chain_same h1 h2 ts.length (Nat.le_refl _) (by omega)
  have e : ts = us := List.ext_getElem hl (fun j a b => h3 j a a b)
  subst e
  rcases h1.fin with ⟨n1, h5⟩ | ⟨n1, n2, t, h5, h6⟩
  · rcases h2.fin with ⟨m1, h7⟩ | ⟨m1, m2, u, h7, h8⟩
    · rw [h5] at h7; cases h7; rfl
    · rw [h5] at h7; cases h7
  · rcases h2.fin with ⟨m1, h7⟩ | ⟨m1, m2, u, h7, h8⟩
    · rw [h5] at h7; cases h7
    · rw [n1, n2, m1, m2]
theorem lexAll_chain {l : List UInt8} {ts : List Tk} {p c : Nat} (h : Chain l ts p c) : lexAll l = (ts, p, c) := chain_unique (chain_all l) h
/-- All tokens of two texts with a line's end between them. -/
theorem parts {a b : List UInt8} (ha : a.length ≤ 2000) (hb : b.length ≤ 2000) (h11 : (lexAll a).2.2 ≠ 11) :
    ((lexAll a).2.2 ≠ 0 → lexAll (a ++ 10 :: b) = lexAll a) ∧
    ((lexAll a).2.2 = 0 → lexAll (a ++ 10 :: b) = ((lexAll a).1 ++ (lexAll b).1.map (Tk.sh (a.length + 1)), (if (lexAll b).2.2 = 0 then 0 else (lexAll b).2.1 + (a.length + 1)), (lexAll b).2.2)) := by
  have ca := chain_all a
  have cb := chain_all b
  generalize lexAll a = A at *
  generalize lexAll b = B at *
  obtain ⟨ts, p, c⟩ := A
  obtain ⟨us, q, d⟩ := B
  simp only at ca cb h11 ⊢
  have hB : Br (10 :: b) := Br.cons (by decide)
  have hlen : (a ++ 10 :: b).length = a.length + 1 + b.length := by simp; omega
  have hle := fun i (hi : i ≤ ts.length) => chain_le ca.tok hi
  have tok : ∀ i, (h : i < ts.length) → nextG (a ++ 10 :: b) (atOf ts i) = .ok ts[i] ∧ ts[i].kind ≠ 0 := by
    intro i hi
    obtain ⟨h1, h2⟩ := ca.tok i hi
    obtain ⟨_, h3, h4⟩ := nextG_ok h1
    exact ⟨by rw [nextG_in (by omega) (by omega)]; exact nxt_app_ok hB h3 h4 h2, h2⟩
  constructor
  · intro hc
    refine lexAll_chain ⟨tok, .inl ⟨hc, ?_⟩⟩
    rcases ca.fin with ⟨_, h1⟩ | ⟨h1, _⟩
    · have hk := hle ts.length (Nat.le_refl _)
      rw [nextG_in (by omega) hk] at h1
      rw [nextG_in (by omega) (by omega)]
      exact nxt_app_err hB hk h1 h11
    · exact absurd h1 hc
  · intro hc
    rcases ca.fin with ⟨h1, _⟩ | ⟨_, _, t, h1, h2⟩
    · exact absurd hc h1
    have hk := hle ts.length (Nat.le_refl _)
    have hpre : ∀ k, k ≤ b.length → nextG (a ++ 10 :: b) ((a.length + 1 + k : Nat) : Int) = shG (a.length + 1) (nextG b k) := by
      intro k hk
      have := nextG_pre (pre := a ++ [10]) (l := b) (k := k) (by simp; omega) hk
      simpa using this
    have hat : ∀ j, j ≤ us.length → nextG (a ++ 10 :: b) (atOf (ts ++ us.map (Tk.sh (a.length + 1))) (ts.length + j)) = shG (a.length + 1) (nextG b (atOf us j)) := by
      intro j hj
      cases j with
      | zero =>
        show nextG _ ((atOf (ts ++ us.map (Tk.sh (a.length + 1))) ts.length : Nat) : Int) = shG _ (nextG b ((0 : Nat) : Int))
        rw [atOf_app _ _ (Nat.le_refl _)]
        have h3 := nextG_last h1 h2
        rw [nextG_in (by omega) (by omega), nxt_thru b hk h3, ← nextG_in (by omega) (by omega)]
        exact hpre 0 (by omega)
      | succ j =>
        rw [← Nat.add_assoc, atOf_succ (by simp; omega), atOf_succ (by omega)]
        have e : (ts ++ us.map (Tk.sh (a.length + 1)))[ts.length + j]'(by simp; omega) = us[j].sh (a.length + 1) := by
          rw [List.getElem_append_right (by omega)]
          simp
        rw [e]
        have h3 := nextG_end (cb.tok j (by omega)).1 (cb.tok j (by omega)).2
        have := hpre us[j].e h3.2.2.1
        rw [← this]
        show nextG _ ((us[j].e + (a.length + 1) : Nat) : Int) = _
        rw [Nat.add_comm]
    refine lexAll_chain ⟨fun i hi => ?_, ?_⟩
    · by_cases hi2 : i < ts.length
      · rw [atOf_app _ _ (by omega), List.getElem_append_left hi2]
        exact tok i hi2
      · obtain ⟨j, rfl⟩ : ∃ j, i = ts.length + j := ⟨i - ts.length, by omega⟩
        have hj : j < us.length := by simp at hi; omega
        have e : (ts ++ us.map (Tk.sh (a.length + 1)))[ts.length + j]'hi = us[j].sh (a.length + 1) := by
          rw [List.getElem_append_right (by omega)]
          simp
        rw [hat j (by omega), e, (cb.tok j hj).1]
        exact ⟨rfl, (cb.tok j hj).2⟩
    · rw [List.length_append, List.length_map, hat us.length (Nat.le_refl _)]
      rcases cb.fin with ⟨h3, h4⟩ | ⟨h3, h4, u, h5, h6⟩
      · left
        rw [if_neg h3, h4]
        exact ⟨h3, rfl⟩
      · right
        rw [if_pos h3, h5]
        exact ⟨h3, rfl, _, rfl, h6⟩
end Go.Proofs.YtkgebnbdgiengaaDoor.Lx
