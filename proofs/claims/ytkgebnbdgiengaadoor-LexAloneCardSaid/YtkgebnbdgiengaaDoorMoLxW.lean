/- The lexer's All: walked. -/
import Derived.Test.YtkgebnbdgiengaaDoorMoLxV
import Derived.Test.YtkgebnbdgiengaaDoorMoLxO
namespace Go.Proofs.YtkgebnbdgiengaaDoor
open Go.RowKit Lx

theorem infoTokF : (Tryd.prog.info? 33).map (fun i => (i.zero, i.size, i.bytes)) = some (some (.agg zeroCs.toArray), 10, 120) := by kernel_rfl

/-- Cells that lay tokens, one behind the other. -/
def TkRow (w : World) : List Tk → List Value → Prop
  | [], cs => cs = []
  | x :: ts, cs => ∃ A c rest, cs = tkCs x (.slice A x.mag.length c) ++ rest ∧ Reads w 69 A (ints .u32 x.mag) ∧ TkRow w ts rest
theorem tkCs_length (x : Tk) (M : Value) : (tkCs x M).length = 10 := rfl
theorem TkRow.length {w : World} : ∀ {ts : List Tk} {cs : List Value}, TkRow w ts cs → cs.length = ts.length * 10
  | [], cs, h => by cases h; rfl
  | x :: ts, cs, h => by
    obtain ⟨A, c, rest, rfl, _, h⟩ := h
    have := TkRow.length h
    rw [List.length_append, tkCs_length, this, List.length_cons]; omega
theorem TkRow.imp {w w' : World} (hR : ∀ A m, Reads w 69 A (ints .u32 m) → Reads w' 69 A (ints .u32 m)) : ∀ {ts : List Tk} {cs : List Value}, TkRow w ts cs → TkRow w' ts cs
  | [], cs, h => h
  | x :: ts, cs, h => by
    obtain ⟨A, c, rest, rfl, h1, h⟩ := h
    exact ⟨A, c, rest, rfl, hR _ _ h1, TkRow.imp hR h⟩
theorem TkRow.below {w w' : World} {ts : List Tk} {cs : List Value} (h : TkRow w ts cs) (hb : Below w.heap.size w w') : TkRow w' ts cs := h.imp fun _ _ h => h.below hb
theorem TkRow.snoc {w : World} {x : Tk} {A : Option Addr} {c : Nat} (hx : Reads w 69 A (ints .u32 x.mag)) : ∀ {ts : List Tk} {cs : List Value}, TkRow w ts cs → TkRow w (ts ++ [x]) (cs ++ tkCs x (.slice A x.mag.length c))
  | [], cs, h => by cases h; exact ⟨A, c, [], by simp, hx, rfl⟩
  | y :: ts, cs, h => by
    obtain ⟨B, d, rest, rfl, h1, h⟩ := h
    exact ⟨B, d, rest ++ tkCs x (.slice A x.mag.length c), by simp, h1, TkRow.snoc hx h⟩
/-- The i-th token's cells. -/
theorem TkRow.get {w : World} : ∀ {ts : List Tk} {cs : List Value}, TkRow w ts cs → ∀ {i : Nat} (hi : i < ts.length), ∃ A c, Reads w 69 A (ints .u32 ts[i].mag) ∧ ∀ j, j < 10 → cs[i * 10 + j]? = (tkCs ts[i] (.slice A ts[i].mag.length c))[j]?
  | [], cs, h, i, hi => by simp at hi
  | x :: ts, cs, h, i, hi => by
    obtain ⟨A, c, rest, rfl, h1, h⟩ := h
    cases i with
    | zero =>
      refine ⟨A, c, h1, fun j hj => ?_⟩
      rw [List.getElem?_append_left (by rw [tkCs_length]; omega)]
      simp
    | succ i =>
      obtain ⟨B, d, h2, h3⟩ := TkRow.get h (i := i) (by simpa using hi)
      refine ⟨B, d, h2, fun j hj => ?_⟩
      rw [List.getElem?_append_right (by rw [tkCs_length]; omega), tkCs_length, show (i + 1) * 10 + j - 10 = i * 10 + j by omega]
      simpa using h3 j hj

theorem reads_grown {W w' : World} {T : Nat} {A : Option Addr} {vs : List Value} (h : Reads W T A vs) {base e size n : Nat} {v : Value} {xs : List Value} (hown : W.ownsRow base e size v n xs) (hg : W.grownBy w' v.ownBlock) (hne : e ≠ T) : Reads w' T A vs := fun hp => by
  obtain ⟨b, o, c, f, e', hb, hc⟩ := h hp
  exact ⟨b, o, c, f, e', blk_grown hg hb (own_far hown hb hne), hc⟩
theorem TkRow.grown {W w' : World} {ts : List Tk} {cs : List Value} (h : TkRow W ts cs) {base size n : Nat} {v : Value} {xs : List Value} (hown : W.ownsRow base 33 size v n xs) (hg : W.grownBy w' v.ownBlock) : TkRow w' ts cs :=
  h.imp fun _ _ h => reads_grown h hown hg (by decide)
/-- What All comes to: tokens in memory, a place, an error. -/
def AllRes (R : List Tk × Nat × Nat) (w : World) (e : Ending) (w' : World) : Prop :=
  Below w.heap.size w w' ∧ ∃ A c cs, e = .returned (.tuple #[.slice A R.1.length c, .int .i64 R.2.1, .int .i64 R.2.2]) ∧ Reads w' 33 A cs ∧ TkRow w' R.1 cs
theorem all_end {R : List Tk × Nat × Nat} {ts : List Tk} {p c : Nat} {w w' : World} {A : Option Addr} {cap : Nat} {cs : List Value} (hR : R = (ts, p, c)) (hb : Below w.heap.size w w') (ho : w'.ownsRow w.heap.size 33 10 (.slice A ts.length cap) ts.length cs) (ht : TkRow w' ts cs) {pi ci : Int} (hp : pi = p) (hc : ci = c) :
    AllRes R w (.returned (.tuple #[.slice A ts.length cap, .int .i64 pi, .int .i64 ci])) w' := by
  subst hR hp hc
  exact ⟨hb, A, cap, cs, rfl, own_reads ho, ht⟩
set_option maxRecDepth 100000 in
set_option maxHeartbeats 3200000 in
theorem All_any (s : ByteArray) (hs : s.size ≤ 9223372036854775807) (w : World) (hL : Lu w) : Calls Tryd.prog 6 #[.string s] w (AllRes (lexAll s.data.toList) w) := by
  obtain ⟨R, hR⟩ : ∃ R, lexAll s.data.toList = R := ⟨_, rfl⟩
  rw [hR]
  have HS := Lib.hid hs
  have H0 : Hid (∃ f, s.data.toList.length < f + 0 ∧ R = ([] ++ (allGo s.data.toList f 0).1, (allGo s.data.toList f 0).2)) := Lib.hid ⟨s.data.toList.length + 1, by omega, hR.symm⟩
  clear hs hR
  go_enter Tryd.func6, Tryd.ntmps6
  go_wp2_with fail
  go_loopw [2, 5] (fun v t wr => ∃ (A : Option Addr) (c : Nat) (ts : List Tk) (k : Nat) (cs : List Value), v = .slice A ts.length c ∧ t = .int .i64 k ∧ k ≤ s.size ∧ ts.length ≤ k ∧ wr.ownsRow w.heap.size 33 10 (.slice A ts.length c) ts.length cs ∧ TkRow wr ts cs ∧ Below w.heap.size w wr ∧
    Hid (∃ f, s.data.toList.length < f + k ∧ R = (ts ++ (allGo s.data.toList f k).1, (allGo s.data.toList f k).2))) (fun _ t _ => s.size - (intOf t).toNat)
  case atStart => exact ⟨none, 0, [], 0, [], rfl, rfl, Nat.zero_le _, Nat.le_refl _, own_nil' _ _ _ _, rfl, Below.refl _ _, H0⟩
  case round =>
    obtain ⟨A, c, ts, k, cs, rfl, rfl, hk, htk, ho, ht, hB, H⟩ := hrel
    have hLr := hL.below hB
    obtain ⟨f, hf, hRf⟩ := H.out
    obtain ⟨f, rfl⟩ : ∃ m, f = m + 1 := ⟨f - 1, by rw [← Lib.size_eq] at hf; omega⟩
    rw [allGo_succ] at hRf
    obtain ⟨G, hG⟩ : ∃ G, nextG s.data.toList k = G := ⟨_, rfl⟩
    rw [hG] at hRf
    have hnx := fun W hW => Next_any s k (by omega) (by have := HS.out; omega) HS.out W hW
    rw [hG] at hnx
    have HX := Lib.hid hnx
    clear hnx H
    cases G with
    | error pc =>
      obtain ⟨p, cd⟩ := pc
      have hcd := nextG_err hG
      have HRf : Hid (R = (ts, p, cd)) := Lib.hid (by rw [hRf]; simp)
      have hne : ((cd : Int) != 0) = true := by rw [bne_iff_ne]; omega
      clear hG hRf hf hcd
      go_wp2_with fail
      refine (HX.out wr hLr).mono ?_
      rintro e w2 ⟨hb2, hm⟩
      simp only at hm
      subst hm
      unfold zeroTok
      go_wp2_with fail
      go_ret3
      have hbb := hb2.trans ((Below.refl w2.heap.size w2).alloc (Nat.le_refl _) (.cells zeroCs.toArray 33) |>.mono hb2.size)
      exact all_end HRf.out (hB.trans (hbb.mono hB.size)) (own_below' ho hbb) (ht.below hbb) rfl rfl
    | ok x =>
      by_cases hk0 : x.kind = 0
      · have HRf : Hid (R = (ts, 0, 0)) := Lib.hid (by rw [hRf]; simp [hk0])
        have hkf : ((x.kind : Int) == 0) = true := by rw [hk0]; rfl
        clear hG hRf hf hk0
        go_wp2_with fail
        refine (HX.out wr hLr).mono ?_
        rintro e w2 ⟨hb2, hm⟩
        simp only at hm
        obtain ⟨v, rfl, A', c', rfl, hRx⟩ := hm
        unfold tkVal tkCs
        go_wp2_with fail
        go_ret3
        have hbb := hb2.trans ((Below.refl w2.heap.size w2).alloc (Nat.le_refl _) (.cells (tkCs x (.slice A' x.mag.length c')).toArray 33) |>.mono hb2.size)
        exact all_end HRf.out (hB.trans (hbb.mono hB.size)) (own_below' ho hbb) (ht.below hbb) rfl rfl
      · have HRf : Hid (∃ f, s.data.toList.length < f + x.e ∧ R = ((ts ++ [x]) ++ (allGo s.data.toList f x.e).1, (allGo s.data.toList f x.e).2)) := Lib.hid ⟨f, by
            obtain ⟨h1, h2, h3⟩ := nextG_ok hG
            rcases nxt_ok h2 h3 with h4 | h4
            · rw [h4] at hk0; exact absurd rfl hk0
            · omega, by rw [hRf]; simp [hk0]⟩
        have hbd : k < x.e ∧ x.e ≤ s.size ∧ s.size ≤ 4096 := by
          obtain ⟨h1, h2, h3⟩ := nextG_ok hG
          rw [← Lib.size_eq] at h1
          rcases nxt_ok h2 h3 with h4 | h4
          · rw [h4] at hk0; exact absurd rfl hk0
          · rw [← Lib.size_eq] at h4; omega
        obtain ⟨hb1, hb3, hb4⟩ := hbd
        have hkf : ((x.kind : Int) == 0) = false := by rw [beq_eq_false_iff_ne]; omega
        clear hG hRf hf hk0
        go_wp2_with fail
        refine (HX.out wr hLr).mono ?_
        rintro e w2 ⟨hb2, hm⟩
        simp only at hm
        obtain ⟨v, rfl, A', c', rfl, hRx⟩ := hm
        have hown := (own_below' ho hb2).alloc (.cells (tkCs x (.slice A' x.mag.length c')).toArray 33)
        have hgl := fun j hj => Nat.lt_of_lt_of_le (own_lt ho j hj) hb2.size
        have hB2 := (hB.trans (hb2.mono hB.size)).alloc (Nat.le_trans hB.size hb2.size) (.cells (tkCs x (.slice A' x.mag.length c')).toArray 33)
        have ht2 := (ht.below hb2).below ((Below.refl _ _).alloc (Nat.le_refl _) (.cells (tkCs x (.slice A' x.mag.length c')).toArray 33))
        have hR2 := hRx.below ((Below.refl _ _).alloc (Nat.le_refl _) (.cells (tkCs x (.slice A' x.mag.length c')).toArray 33))
        have hg2 := heap_alloc_new w2 (.cells (tkCs x (.slice A' x.mag.length c')).toArray 33)
        unfold tkVal
        unfold tkCs at hown hB2 ht2 hR2 hg2 ⊢
        go_wp2_with (at_builtin; go_must (refine app1 hown Tryd.underlying22 infoTokF rfl (by decide) ?c3 ?c4 ?c5 rfl rfl rfl (by simp [Act.eval]) (tkCs x (.slice A' x.mag.length c')) rfl ?c1 ?_))
        case c1 => exact List.all_eq_true.1 (one_tkCs x A' _ c')
        case c3 => unfold maxLen; omega
        case c4 => omega
        case c5 => exact hB2.size
        intro A3 c3 w3 hown3 hgrow
        have hne : some w2.heap.size ≠ (Value.slice A ts.length c).ownBlock := fun h => by
          have := hgl w2.heap.size h.symm
          omega
        have hg3 := blk_grown hgrow (blk_alloc hg2 _) hne
        have hc3 := (blk_cell (j := 2) hg3).trans rfl
        have hB3 : Below w.heap.size w w3 := (hB2.alloc hB2.size _).grown hgrow (by rw [World.size_alloc]; exact Nat.le_succ_of_le hB2.size) (fun j hj => (hown.lt j hj).1)
        have ht3 := ((ht2.below ((Below.refl _ _).alloc (Nat.le_refl _) _)).grown (hown.alloc _) hgrow).snoc (c := c') (reads_grown (hR2.below ((Below.refl _ _).alloc (Nat.le_refl _) _)) (hown.alloc _) hgrow (by decide))
        clear hown hgl hB2 ht2 hR2 hg2 hgrow hne ho ht hRx hB hLr hg3 hb2 HX
        have hlen : Hid ((ts ++ [x]).length = ts.length + 1) := Lib.hid (by simp)
        go_wp2_with fail
        go_roundw
        case rel => exact ⟨A3, c3, ts ++ [x], x.e, _, by rw [hlen.out], rfl, hb3, by rw [hlen.out]; omega, by rw [hlen.out]; exact hown3, ht3, hB3, HRf⟩
        case measure => simp [intOf]; omega
end Go.Proofs.YtkgebnbdgiengaaDoor
