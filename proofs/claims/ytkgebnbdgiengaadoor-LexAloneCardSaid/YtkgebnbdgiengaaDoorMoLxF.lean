/- The lexer's named, texted, atom, char, number: walked. -/
import Derived.Test.YtkgebnbdgiengaaDoorMoLxE
import Derived.Shelf.Unicode.DecodeSlow
namespace Go.Proofs.YtkgebnbdgiengaaDoor
open Go.RowKit Lx

/-- What the walks ask of the library's variables. -/
structure Lu (w : World) : Prop where
  tabs : Lib.Utf8Tabs 1 2 w
  et : w.cell? ⟨0, 0, none⟩ = some (.iface 74 (.agg #[.pointer (some ⟨4, 46, none⟩)]))
theorem Lu.below {w w' : World} (h : Lu w) (hb : Below w.heap.size w w') : Lu w' := ⟨Utf8Tabs_below h.tabs hb, cell_below hb h.et⟩

/-- A token's value. -/
def tkCs (x : Tk) (M : Value) : List Value := [.int .i64 x.kind, .int .i64 x.a, .int .i64 x.e, .bool x.sq, .int .i64 x.dk, .int .i32 x.c, .bool x.neg, M, .string ⟨x.t.toArray⟩, .slice none 0 0]
def tkVal (x : Tk) (M : Value) : Value := .agg (tkCs x M).toArray
theorem one_tkCs (x : Tk) (A : Option Addr) (n c : Nat) : (tkCs x (.slice A n c)).all (·.oneCell') = true := rfl
def zeroCs : List Value := [.int .i64 0, .int .i64 0, .int .i64 0, .bool false, .int .i64 0, .int .i32 0, .bool false, .slice none 0 0, .string ⟨#[]⟩, .slice none 0 0]
theorem one_zeroCs : zeroCs.all (·.oneCell') = true := rfl
def zeroTok : Value := .agg #[.int .i64 0, .int .i64 0, .int .i64 0, .bool false, .int .i64 0, .int .i32 0, .bool false, .slice none 0 0, .string ⟨#[]⟩, .slice none 0 0]
/-- A value lays a token in memory. -/
def TkV (w : World) (x : Tk) (v : Value) : Prop := ∃ A c, v = tkVal x (.slice A x.mag.length c) ∧ Reads w 69 A (ints .u32 x.mag)
theorem TkV.below {w w' : World} {x : Tk} {v : Value} (h : TkV w x v) (hb : Below w.heap.size w w') : TkV w' x v := by
  obtain ⟨A, c, h1, h2⟩ := h
  exact ⟨A, c, h1, h2.below hb⟩
def TokRes (G : Got) (w : World) (e : Ending) (w' : World) : Prop :=
  Below w.heap.size w w' ∧ match G with
  | .ok x => ∃ v, e = .returned (.tuple #[v, .nilIface]) ∧ TkV w' x v
  | .error (p, c) => ∃ v, e = .returned (.tuple #[zeroTok, v]) ∧ Wrong w' v p c
theorem infoTok : (Tryd.prog.info? 33).map (·.size) = some 10 := by kernel_rfl
theorem setRow_at {w : World} {g : Nat} {old cs : Array Value} {t : TypeId} {f : Nat × Nat} (h : w.heap[g]? = some (.cells old t f)) : (w.setRow g cs).heap[g]? = some (.cells cs t f) := setRow_heap w g old cs t f h
theorem below_setRow {B : Nat} {w w' : World} (h : Below B w w') {g : Nat} (hg : B ≤ g) (cs : Array Value) : Below B w (w'.setRow g cs) :=
  h.trans ⟨rfl, rfl, rfl, by simp [World.setRow], fun k hk => by
    have : g ≠ k := by omega
    simp [World.setRow, Array.getElem?_modify, this]⟩
/-- A token stored whole. -/
theorem store_tok {ops : Array Oper} {rest : List Oper} {o : Oper} {a : Act} {W : World} {Q : Exit → Act → World → Prop} (hgd : o.guard = none) (x y : Operand) (ho : o.op = .store 33 x y)
    (g : Nat) (cs : List Value) (hx : a.eval x = .pointer (some ⟨g, 0, none⟩)) (hy : a.eval y = .agg cs.toArray) (old : Array Value) (hg : W.heap[g]? = some (.cells old 33 (0, 0))) (hold : old.size = 10) (hcs : cs.length = 10)
    (h1 : cs.all (·.oneCell') = true) (h : wpList Tryd.prog ops Q rest (a.put o.dst undef) (W.setRow g cs.toArray)) : wpList Tryd.prog ops Q (o :: rest) a W :=
  wpList_store_row hgd 33 x y ho g cs.toArray hx hy 33 old hg (by rw [infoTok]; simp [hcs]) (by simp [hcs, hold]) (by rw [Array.all_eq_true_iff_forall_mem]; intro v hv; exact (List.all_eq_true.1 h1) v (by simpa using hv)) h
/-- The results: a token in cells, an error in a slot. -/
theorem results_te {fn : Func} {p q : Nat} (hr : fn.results = #[.cell p 33, .tmp q]) {tmps : Array Value} {W : World} {g : Nat} {cs : Array Value} {t : TypeId} {f : Nat × Nat} {u : Value}
    (hp : tmps[p]?.getD undef = .pointer (some ⟨g, 0, none⟩)) (hq : tmps[q]?.getD undef = u) (hg : W.heap[g]? = some (.cells cs t f)) (hcs : cs.size = 10) : (results fn tmps).run Tryd.prog W = .ok (.tuple #[.agg cs, u]) W := by
  have e := run_loadVar_row (P := Tryd.prog) W g t 33 cs f _ hg Tryd.underlying33 rfl (by rw [infoTok, hcs])
  simp [results, hr, hp, hq, asAddr, e]
theorem wrong_set {w : World} {v : Value} {p c : Int} (h : Wrong w v p c) {g : Nat} {old : Array Value} {f : Nat × Nat} (hg : w.heap[g]? = some (.cells old 33 f)) (cs : Array Value) : Wrong (w.setRow g cs) v p c := by
  obtain ⟨b, k, what, rfl, h1, h2⟩ := h
  have far : ∀ {j : Nat} {o : Obj}, w.heap[j]? = some o → j ≠ g → (w.setRow g cs).heap[j]? = some o := fun hj hne => by
    simp [World.setRow, Array.getElem?_modify, Ne.symm hne, hj]
  refine ⟨b, k, what, rfl, far h1 ?_, far h2 ?_⟩
  · rintro rfl; rw [hg] at h1; simp at h1
  · rintro rfl; rw [hg] at h2; simp at h2
theorem reads_set {w : World} {T : Nat} {A : Option Addr} {vs : List Value} (h : Reads w T A vs) (hT : T ≠ 33) {g : Nat} {old : Array Value} {f : Nat × Nat} (hg : w.heap[g]? = some (.cells old 33 f)) (cs : Array Value) : Reads (w.setRow g cs) T A vs := fun hp => by
  obtain ⟨b, o, c, f', e, hb, hc⟩ := h hp
  refine ⟨b, o, c, f', e, ?_, hc⟩
  have hne : g ≠ b := by rintro rfl; rw [hg] at hb; simp at hb; exact hT hb.2.1.symm
  simp [World.setRow, Array.getElem?_modify, hne, hb]
theorem tkv_set {w : World} {x : Tk} {v : Value} (h : TkV w x v) {g : Nat} {old : Array Value} {f : Nat × Nat} (hg : w.heap[g]? = some (.cells old 33 f)) (cs : Array Value) : TkV (w.setRow g cs) x v := by
  obtain ⟨A, c, h1, h2⟩ := h
  exact ⟨A, c, h1, reads_set h2 (by decide) hg cs⟩
/-- The result's own cells, as they were laid; nothing older has turned. -/
def Zd (w0 w : World) : Prop := w.heap[w0.heap.size]? = some (.cells zeroCs.toArray 33 (0, 0)) ∧ Below w0.heap.size w0 w
theorem Zd.new (w : World) : Zd w (w.alloc (.cells zeroCs.toArray 33)) := ⟨heap_alloc_new _ _, (Below.refl _ _).alloc (Nat.le_refl _) _⟩
theorem Zd.step {w0 w w' : World} (h : Zd w0 w) (hb : Below w.heap.size w w') : Zd w0 w' := ⟨blk_belowS hb h.1, h.2.trans (hb.mono h.2.size)⟩
theorem tok_ok {G : Got} {w w' : World} {x : Tk} {v : Value} (hG : G = .ok x) (hb : Below w.heap.size w w') (hv : TkV w' x v) : TokRes G w (.returned (.tuple #[v, .nilIface])) w' := by
  subst hG; exact ⟨hb, v, rfl, hv⟩
theorem tok_bad {G : Got} {w w' : World} {p c : Nat} {v : Value} (hG : G = .error (p, c)) (hb : Below w.heap.size w w') (hv : Wrong w' v p c) : TokRes G w (.returned (.tuple #[zeroTok, v])) w' := by
  subst hG; exact ⟨hb, v, rfl, hv⟩

set_option maxRecDepth 100000 in
set_option maxHeartbeats 1600000 in
theorem atom_any (k : Int) (c : Int) (neg : Bool) (A : Option Addr) (n cp : Nat) (t : ByteArray) (a e' : Int) (w : World) :
    Calls Tryd.prog 42 #[.agg #[.int .i64 k, .int .i32 c, .bool neg, .slice A n cp, .string t, .slice none 0 0], .int .i64 a, .int .i64 e'] w fun e w' =>
      e = .returned (.agg #[.int .i64 9, .int .i64 a, .int .i64 e', .bool false, .int .i64 k, .int .i32 c, .bool neg, .slice A n cp, .string t, .slice none 0 0]) ∧ Below w.heap.size w w' := by
  go_enter Tryd.func42, Tryd.ntmps42
  go_wp2
  exact bodyPost_ret (v := .agg #[.int .i64 9, .int .i64 a, .int .i64 e', .bool false, .int .i64 k, .int .i32 c, .bool neg, .slice A n cp, .string t, .slice none 0 0]) (by simp [results, Tryd.results42, go_sem]) rfl
    ⟨rfl, (((Below.refl _ _).alloc (Nat.le_refl _) _).alloc (by simp) _)⟩

theorem valid_any (s : ByteArray) (w : World) (hL : Lu w) (hs : s.size ≤ 9223372036854775807) :
    Calls Tryd.prog 40 #[.string s] w fun e w' => e = .returned (.bool (Lib.validD s.data.toList)) ∧ Below w.heap.size w w' := Any.utf8_ValidString Tryd.lays196 s w hs hL.tabs

set_option maxRecDepth 100000 in
set_option maxHeartbeats 1600000 in
theorem texted_any (dk : Nat) (hdk : dk = 5 ∨ dk = 6) (x : ByteArray) (hx : x.size ≤ 1000000) (a e' : Nat) (w : World) (hL : Lu w) :
    Calls Tryd.prog 28 #[.int .i64 dk, .string x, .int .i64 a, .int .i64 e'] w (TokRes (txd dk x.data.toList a e') w) := by
  obtain ⟨G, hG⟩ : ∃ G, txd dk x.data.toList a e' = G := ⟨_, rfl⟩
  rw [hG]
  rw [txd] at hG
  cases hv : Lib.validD x.data.toList
  · rw [if_pos (.inl hv)] at hG
    have HG := Lib.hid hG.symm
    have HV := Lib.hid hv
    clear hG hv
    go_enter Tryd.func28, Tryd.ntmps28
    go_wp2_with fail
    have hz := Zd.new w
    change Zd w (w.alloc (.cells #[.int .i64 0, .int .i64 0, .int .i64 0, .bool false, .int .i64 0, .int .i32 0, .bool false, .slice none 0 0, .string ⟨#[]⟩, .slice none 0 0] 33)) at hz
    generalize w.alloc (.cells #[.int .i64 0, .int .i64 0, .int .i64 0, .bool false, .int .i64 0, .int .i32 0, .bool false, .slice none 0 0, .string ⟨#[]⟩, .slice none 0 0] 33) = w0 at *
    refine (valid_any x _ (hL.below hz.2) (by omega)).mono ?_
    rintro e w1 ⟨rfl, hb1⟩
    rw [HV.out]
    replace hz := hz.step hb1
    clear hb1
    go_wp2_with fail
    refine (wrong_any _ _ _ _).mono ?_
    rintro e w9 ⟨v, rfl, hv, hb9⟩
    replace hz := hz.step hb9
    clear hb9
    go_wp2_with (refine store_tok rfl (.tmp 8) (.tmp 22) rfl w.heap.size zeroCs (by rfl) (by rfl) _ hz.1 rfl rfl one_zeroCs ?_)
    exact bodyPost_ret (results_te Tryd.results28 rfl rfl (setRow_at hz.1) rfl) rfl (tok_bad HG.out (below_setRow hz.2 (Nat.le_refl _) _) (wrong_set hv hz.1 _))
  · have HV := Lib.hid hv
    rcases hdk with rfl | rfl
    · rw [if_neg (by rintro (h | ⟨h, _⟩); · rw [hv] at h; cases h
                     · omega), Lib.runeCountL_eq] at hG
      clear hv
      obtain ⟨C, hC⟩ : ∃ C, Lib.runeCount x = C := ⟨_, rfl⟩
      rw [hC] at hG
      have HC := Lib.hid hC
      clear hC
      by_cases hc : 62 < C
      · rw [if_pos hc] at hG
        have HG := Lib.hid hG.symm
        clear hG
        go_enter Tryd.func28, Tryd.ntmps28
        go_wp2_with fail
        have hz := Zd.new w
        change Zd w (w.alloc (.cells #[.int .i64 0, .int .i64 0, .int .i64 0, .bool false, .int .i64 0, .int .i32 0, .bool false, .slice none 0 0, .string ⟨#[]⟩, .slice none 0 0] 33)) at hz
        generalize w.alloc (.cells #[.int .i64 0, .int .i64 0, .int .i64 0, .bool false, .int .i64 0, .int .i32 0, .bool false, .slice none 0 0, .string ⟨#[]⟩, .slice none 0 0] 33) = w0 at *
        refine (valid_any x _ (hL.below hz.2) (by omega)).mono ?_
        rintro e w1 ⟨rfl, hb1⟩
        rw [HV.out]
        replace hz := hz.step hb1
        clear hb1
        go_wp2_with fail
        refine (Tryd.utf8_RuneCountInString x _ (by omega)).mono ?_
        rintro e w2 ⟨rfl, pos, hw2⟩
        have hb2 : Below w1.heap.size w1 w2 := by rw [hw2]; exact (Below.refl _ _).alloc (Nat.le_refl _) _
        replace hz := hz.step hb2
        clear hb2 hw2
        rw [HC.out]
        go_wp2_with fail
        refine (wrong_any _ _ _ _).mono ?_
        rintro e w9 ⟨v, rfl, hv, hb9⟩
        replace hz := hz.step hb9
        clear hb9
        go_wp2_with (refine store_tok rfl (.tmp 8) (.tmp 29) rfl w.heap.size zeroCs (by rfl) (by rfl) _ hz.1 rfl rfl one_zeroCs ?_)
        exact bodyPost_ret (results_te Tryd.results28 rfl rfl (setRow_at hz.1) rfl) rfl (tok_bad HG.out (below_setRow hz.2 (Nat.le_refl _) _) (wrong_set hv hz.1 _))
      · rw [if_neg hc] at hG
        have HG := Lib.hid hG.symm
        clear hG
        go_enter Tryd.func28, Tryd.ntmps28
        go_wp2_with fail
        have hz := Zd.new w
        change Zd w (w.alloc (.cells #[.int .i64 0, .int .i64 0, .int .i64 0, .bool false, .int .i64 0, .int .i32 0, .bool false, .slice none 0 0, .string ⟨#[]⟩, .slice none 0 0] 33)) at hz
        generalize w.alloc (.cells #[.int .i64 0, .int .i64 0, .int .i64 0, .bool false, .int .i64 0, .int .i32 0, .bool false, .slice none 0 0, .string ⟨#[]⟩, .slice none 0 0] 33) = w0 at *
        refine (valid_any x _ (hL.below hz.2) (by omega)).mono ?_
        rintro e w1 ⟨rfl, hb1⟩
        rw [HV.out]
        replace hz := hz.step hb1
        clear hb1
        go_wp2_with fail
        refine (Tryd.utf8_RuneCountInString x _ (by omega)).mono ?_
        rintro e w2 ⟨rfl, pos, hw2⟩
        have hb2 : Below w1.heap.size w1 w2 := by rw [hw2]; exact (Below.refl _ _).alloc (Nat.le_refl _) _
        replace hz := hz.step hb2
        clear hb2 hw2
        rw [HC.out]
        go_wp2_with fail
        refine (atom_any 5 0 false none 0 0 x a e' _).mono ?_
        rintro e w3 ⟨rfl, hb3⟩
        replace hz := hz.step hb3
        clear hb3
        go_wp2_with (refine store_tok rfl (.tmp 8) (.tmp 37) rfl w.heap.size (tkCs { tkD 5 a e' with t := x.data.toList } (.slice none 0 0)) (by rfl) (by rfl) _ hz.1 rfl rfl (one_tkCs _ _ _ _) ?_)
        exact bodyPost_ret (results_te Tryd.results28 rfl rfl (setRow_at hz.1) rfl) rfl (tok_ok HG.out (below_setRow hz.2 (Nat.le_refl _) _) ⟨_, _, rfl, Reads.nil _ _ _⟩)
    · by_cases hne : x.data.toList = []
      · rw [if_pos (.inr ⟨rfl, hne⟩)] at hG
        have HG := Lib.hid hG.symm
        have he : x.toList = [] := by rw [Lib.toList_data]; exact hne
        clear hG hv hne
        go_enter Tryd.func28, Tryd.ntmps28
        go_wp2_with fail
        have hz := Zd.new w
        change Zd w (w.alloc (.cells #[.int .i64 0, .int .i64 0, .int .i64 0, .bool false, .int .i64 0, .int .i32 0, .bool false, .slice none 0 0, .string ⟨#[]⟩, .slice none 0 0] 33)) at hz
        generalize w.alloc (.cells #[.int .i64 0, .int .i64 0, .int .i64 0, .bool false, .int .i64 0, .int .i32 0, .bool false, .slice none 0 0, .string ⟨#[]⟩, .slice none 0 0] 33) = w0 at *
        refine (valid_any x _ (hL.below hz.2) (by omega)).mono ?_
        rintro e w1 ⟨rfl, hb1⟩
        rw [HV.out]
        replace hz := hz.step hb1
        clear hb1
        go_wp2_with fail
        refine (wrong_any _ _ _ _).mono ?_
        rintro e w9 ⟨v, rfl, hv, hb9⟩
        replace hz := hz.step hb9
        clear hb9
        go_wp2_with (refine store_tok rfl (.tmp 8) (.tmp 22) rfl w.heap.size zeroCs (by rfl) (by rfl) _ hz.1 rfl rfl one_zeroCs ?_)
        exact bodyPost_ret (results_te Tryd.results28 rfl rfl (setRow_at hz.1) rfl) rfl (tok_bad HG.out (below_setRow hz.2 (Nat.le_refl _) _) (wrong_set hv hz.1 _))
      · rw [if_neg (by rintro (h | ⟨_, h⟩); · rw [hv] at h; cases h
                       · exact hne h), Lib.runeCountL_eq] at hG
        have he : x.toList.isEmpty = false := by rw [Lib.toList_data]; simpa using hne
        have he2 : ¬ x.toList = [] := by rw [Lib.toList_data]; exact hne
        clear hv hne
        obtain ⟨C, hC⟩ : ∃ C, Lib.runeCount x = C := ⟨_, rfl⟩
        rw [hC] at hG
        have HC := Lib.hid hC
        clear hC
        by_cases hc : 62 < C
        · rw [if_pos hc] at hG
          have HG := Lib.hid hG.symm
          clear hG
          go_enter Tryd.func28, Tryd.ntmps28
          go_wp2_with fail
          have hz := Zd.new w
          change Zd w (w.alloc (.cells #[.int .i64 0, .int .i64 0, .int .i64 0, .bool false, .int .i64 0, .int .i32 0, .bool false, .slice none 0 0, .string ⟨#[]⟩, .slice none 0 0] 33)) at hz
          generalize w.alloc (.cells #[.int .i64 0, .int .i64 0, .int .i64 0, .bool false, .int .i64 0, .int .i32 0, .bool false, .slice none 0 0, .string ⟨#[]⟩, .slice none 0 0] 33) = w0 at *
          refine (valid_any x _ (hL.below hz.2) (by omega)).mono ?_
          rintro e w1 ⟨rfl, hb1⟩
          rw [HV.out]
          replace hz := hz.step hb1
          clear hb1
          go_wp2_with fail
          refine (Tryd.utf8_RuneCountInString x _ (by omega)).mono ?_
          rintro e w2 ⟨rfl, pos, hw2⟩
          have hb2 : Below w1.heap.size w1 w2 := by rw [hw2]; exact (Below.refl _ _).alloc (Nat.le_refl _) _
          replace hz := hz.step hb2
          clear hb2 hw2
          rw [HC.out]
          go_wp2_with fail
          refine (wrong_any _ _ _ _).mono ?_
          rintro e w9 ⟨v, rfl, hv, hb9⟩
          replace hz := hz.step hb9
          clear hb9
          go_wp2_with (refine store_tok rfl (.tmp 8) (.tmp 29) rfl w.heap.size zeroCs (by rfl) (by rfl) _ hz.1 rfl rfl one_zeroCs ?_)
          exact bodyPost_ret (results_te Tryd.results28 rfl rfl (setRow_at hz.1) rfl) rfl (tok_bad HG.out (below_setRow hz.2 (Nat.le_refl _) _) (wrong_set hv hz.1 _))
        · rw [if_neg hc] at hG
          have HG := Lib.hid hG.symm
          clear hG
          go_enter Tryd.func28, Tryd.ntmps28
          go_wp2_with fail
          have hz := Zd.new w
          change Zd w (w.alloc (.cells #[.int .i64 0, .int .i64 0, .int .i64 0, .bool false, .int .i64 0, .int .i32 0, .bool false, .slice none 0 0, .string ⟨#[]⟩, .slice none 0 0] 33)) at hz
          generalize w.alloc (.cells #[.int .i64 0, .int .i64 0, .int .i64 0, .bool false, .int .i64 0, .int .i32 0, .bool false, .slice none 0 0, .string ⟨#[]⟩, .slice none 0 0] 33) = w0 at *
          refine (valid_any x _ (hL.below hz.2) (by omega)).mono ?_
          rintro e w1 ⟨rfl, hb1⟩
          rw [HV.out]
          replace hz := hz.step hb1
          clear hb1
          go_wp2_with fail
          refine (Tryd.utf8_RuneCountInString x _ (by omega)).mono ?_
          rintro e w2 ⟨rfl, pos, hw2⟩
          have hb2 : Below w1.heap.size w1 w2 := by rw [hw2]; exact (Below.refl _ _).alloc (Nat.le_refl _) _
          replace hz := hz.step hb2
          clear hb2 hw2
          rw [HC.out]
          go_wp2_with fail
          refine (atom_any 6 0 false none 0 0 x a e' _).mono ?_
          rintro e w3 ⟨rfl, hb3⟩
          replace hz := hz.step hb3
          clear hb3
          go_wp2_with (refine store_tok rfl (.tmp 8) (.tmp 37) rfl w.heap.size (tkCs { tkD 6 a e' with t := x.data.toList } (.slice none 0 0)) (by rfl) (by rfl) _ hz.1 rfl rfl (one_tkCs _ _ _ _) ?_)
          exact bodyPost_ret (results_te Tryd.results28 rfl rfl (setRow_at hz.1) rfl) rfl (tok_ok HG.out (below_setRow hz.2 (Nat.le_refl _) _) ⟨_, _, rfl, Reads.nil _ _ _⟩)
end Go.Proofs.YtkgebnbdgiengaaDoor
