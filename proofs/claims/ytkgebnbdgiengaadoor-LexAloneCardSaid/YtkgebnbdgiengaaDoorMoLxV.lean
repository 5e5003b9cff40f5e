/- The lexer's Next: walked. -/
import Derived.Test.YtkgebnbdgiengaaDoorMoLxU
import Derived.Test.YtkgebnbdgiengaaDoorMoLxT
import Derived.StillTailTactics
namespace Go.Proofs.YtkgebnbdgiengaaDoor
open Go.RowKit Lx

def NxRes (G : Got) (w : World) (e : Ending) (w' : World) : Prop :=
  Below w.heap.size w w' ∧ match G with
  | .ok x => ∃ v, e = .returned (.tuple #[v, .int .i64 0, .int .i64 0]) ∧ TkV w' x v
  | .error (p, c) => e = .returned (.tuple #[zeroTok, .int .i64 p, .int .i64 c])
theorem nx_ok {G : Got} {w w' : World} {x : Tk} {v : Value} (hG : G = .ok x) (hb : Below w.heap.size w w') (hv : TkV w' x v) : NxRes G w (.returned (.tuple #[v, .int .i64 0, .int .i64 0])) w' := by
  subst hG; exact ⟨hb, v, rfl, hv⟩
theorem nx_bad {G : Got} {w w' : World} {p c : Nat} {pi ci : Int} (hG : G = .error (p, c)) (hp : pi = p) (hc : ci = c) (hb : Below w.heap.size w w') : NxRes G w (.returned (.tuple #[zeroTok, .int .i64 pi, .int .i64 ci])) w' := by
  subst hG hp hc; exact ⟨hb, rfl⟩
/-- The results: a token in cells, two numbers in slots. -/
theorem results_tii {fn : Func} {p q r : Nat} (hr : fn.results = #[.cell p 33, .tmp q, .tmp r]) {tmps : Array Value} {W : World} {g : Nat} {cs : Array Value} {t : TypeId} {f : Nat × Nat} {u v : Value}
    (hp : tmps[p]?.getD undef = .pointer (some ⟨g, 0, none⟩)) (hq : tmps[q]?.getD undef = u) (hv : tmps[r]?.getD undef = v) (hg : W.heap[g]? = some (.cells cs t f)) (hcs : cs.size = 10) : (results fn tmps).run Tryd.prog W = .ok (.tuple #[.agg cs, u, v]) W := by
  have e := run_loadVar_row (P := Tryd.prog) W g t 33 cs f _ hg Tryd.underlying33 rfl (by rw [infoTok, hcs])
  simp [results, hr, hp, hq, hv, asAddr, e]
theorem drew_heap (W : World) : W.drew.heap = W.heap := rfl
theorem blk_same {w : World} {b j : Nat} {cs : Array Value} {t : TypeId} {f : Nat × Nat} {v : Value} (h : w.heap[b]? = some (.cells cs t f)) (hv : cs[j]? = some v) : (w.setCell ⟨b, j, none⟩ v).heap[b]? = some (.cells cs t f) := by
  rw [blk_set h]
  congr 2
  obtain ⟨hj, hv⟩ := Array.getElem?_eq_some_iff.1 hv
  apply Array.ext
  · simp
  · intro i h1 h2
    rw [Array.getElem_setIfInBounds (by simpa using h1)]
    split
    · rename_i he; subst he; exact hv.symm
    · rfl
/-- A token's cells made nought, one by one. -/
def zchain (W : World) (g : Nat) : World := ((((((((((W.setCell ⟨g, 0, none⟩ (.int .i64 0)).setCell ⟨g, 1, none⟩ (.int .i64 0)).setCell ⟨g, 2, none⟩ (.int .i64 0)).setCell ⟨g, 3, none⟩ (.bool false)).setCell ⟨g, 4, none⟩ (.int .i64 0)).setCell ⟨g, 5, none⟩ (.int .i32 0)).setCell ⟨g, 6, none⟩ (.bool false)).setCell ⟨g, 7, none⟩ (.slice none 0 0)).setCell ⟨g, 8, none⟩ (.string ⟨#[]⟩)).setCell ⟨g, 9, none⟩ (.slice none 0 0))
theorem zchain_at {W : World} {g : Nat} (h : W.heap[g]? = some (.cells zeroCs.toArray 33 (0, 0))) : (zchain W g).drew.heap[g]? = some (.cells zeroCs.toArray 33 (0, 0)) := by
  rw [drew_heap]
  unfold zchain
  refine blk_same ?_ rfl
  refine blk_same ?_ rfl
  refine blk_same ?_ rfl
  refine blk_same ?_ rfl
  refine blk_same ?_ rfl
  refine blk_same ?_ rfl
  refine blk_same ?_ rfl
  refine blk_same ?_ rfl
  refine blk_same ?_ rfl
  refine blk_same ?_ rfl
  exact h
theorem zchain_below {w W : World} {g : Nat} (h : Below w.heap.size w W) (hg : w.heap.size ≤ g) : Below w.heap.size w (zchain W g).drew := (((((((((((h.setCell (p := ⟨g, 0, none⟩) hg _).setCell (p := ⟨g, 1, none⟩) hg _).setCell (p := ⟨g, 2, none⟩) hg _).setCell (p := ⟨g, 3, none⟩) hg _).setCell (p := ⟨g, 4, none⟩) hg _).setCell (p := ⟨g, 5, none⟩) hg _).setCell (p := ⟨g, 6, none⟩) hg _).setCell (p := ⟨g, 7, none⟩) hg _).setCell (p := ⟨g, 8, none⟩) hg _).setCell (p := ⟨g, 9, none⟩) hg _)).drew
theorem Zd.zero {w0 w : World} (h : Zd w0 w) : Zd w0 (w.setRow w0.heap.size zeroCs.toArray) := ⟨setRow_at h.1, below_setRow h.2 (Nat.le_refl _) _⟩
/-- A token loaded whole. -/
theorem load_tok {ops : Array Oper} {rest : List Oper} {o : Oper} {a : Act} {W : World} {Q : Exit → Act → World → Prop} (hgd : o.guard = none) (x : Operand) (ho : o.op = .load 33 x)
    (g : Nat) (hx : a.eval x = .pointer (some ⟨g, 0, none⟩)) (cs : Array Value) (t : TypeId) (f : Nat × Nat) (hg : W.heap[g]? = some (.cells cs t f)) (hcs : cs.size = 10)
    (h : wpList Tryd.prog ops Q rest (a.put o.dst (.agg cs)) W) : wpList Tryd.prog ops Q (o :: rest) a W :=
  wpList_load_row hgd 33 x ho g hx t cs f _ hg Tryd.underlying33 rfl (by rw [infoTok, hcs]) h

set_option maxRecDepth 100000 in
set_option maxHeartbeats 3200000 in
theorem Next_any (s : ByteArray) (k : Int) (hk0 : -9223372036854775808 ≤ k) (hk1 : k ≤ 9223372036854775807) (hs : s.size ≤ 9223372036854775807) (w : World) (hL : Lu w) :
    Calls Tryd.prog 8 #[.string s, .int .i64 k] w (NxRes (nextG s.data.toList k) w) := by
  obtain ⟨G, hG⟩ : ∃ G, nextG s.data.toList k = G := ⟨_, rfl⟩
  rw [hG]
  rw [nextG, ← Lib.size_eq] at hG
  by_cases hlong : 4096 < s.size
  · rw [if_pos hlong] at hG
    have HG := Lib.hid hG.symm
    have hl : 4096 < (s.size : Int) := by omega
    clear hG
    go_enter Tryd.func8, Tryd.ntmps8
    go_wp2_with fail
    exact bodyPost_ret (v := .tuple #[zeroTok, .int .i64 0, .int .i64 12]) (by simp [results, Tryd.results8, go_sem, zeroTok]) rfl (nx_bad (p := 0) (c := 12) HG.out rfl rfl ((Below.refl _ _).alloc (Nat.le_refl _) _))
  rw [if_neg hlong] at hG
  by_cases hout : k < 0 ∨ (s.size : Int) < k
  · rw [if_pos hout] at hG
    have HG := Lib.hid hG.symm
    clear hG
    rcases hout with h | h
    · go_enter Tryd.func8, Tryd.ntmps8
      go_wp2_with fail
      exact bodyPost_ret (v := .tuple #[zeroTok, .int .i64 0, .int .i64 1]) (by simp [results, Tryd.results8, go_sem, zeroTok]) rfl (nx_bad (p := 0) (c := 1) HG.out rfl rfl ((Below.refl _ _).alloc (Nat.le_refl _) _))
    · go_enter Tryd.func8, Tryd.ntmps8
      go_wp2_with fail
      exact bodyPost_ret (v := .tuple #[zeroTok, .int .i64 0, .int .i64 1]) (by simp [results, Tryd.results8, go_sem, zeroTok]) rfl (nx_bad (p := 0) (c := 1) HG.out rfl rfl ((Below.refl _ _).alloc (Nat.le_refl _) _))
  rw [if_neg hout] at hG
  obtain ⟨j, rfl⟩ : ∃ j : Nat, k = j := ⟨k.toNat, by omega⟩
  rw [Int.toNat_natCast] at hG
  have hj : j ≤ s.size := by omega
  have hs' : s.size ≤ 4096 := by omega
  have HG := Lib.hid hG
  clear hG hout hlong hs hk0 hk1
  go_enter Tryd.func8, Tryd.ntmps8
  go_wp2_with fail
  have hz := Zd.new w
  change Zd w (w.alloc (.cells #[.int .i64 0, .int .i64 0, .int .i64 0, .bool false, .int .i64 0, .int .i32 0, .bool false, .slice none 0 0, .string ⟨#[]⟩, .slice none 0 0] 33)) at hz
  generalize w.alloc (.cells #[.int .i64 0, .int .i64 0, .int .i64 0, .bool false, .int .i64 0, .int .i32 0, .bool false, .slice none 0 0, .string ⟨#[]⟩, .slice none 0 0] 33) = w0 at *
  refine (next_any s j hj hs' _ (hL.below hz.2)).mono ?_
  rintro e w2 ⟨hb2, hm⟩
  rw [HG.out] at hm
  have hL2 := hL.below (hz.step hb2).2
  replace hz := hz.step hb2
  clear hb2
  cases G with
  | ok x =>
    simp only at hm
    obtain ⟨v, rfl, A, c, rfl, hRd⟩ := hm
    go_wp2_with (refine store_tok rfl (.tmp 4) (.tmp 28) rfl w.heap.size (tkCs x (.slice A x.mag.length c)) (by rfl) (by rfl) _ hz.1 rfl rfl (one_tkCs _ _ _ _) ?_)
    have hB3 := below_setRow hz.2 (Nat.le_refl _) (tkCs x (.slice A x.mag.length c)).toArray
    have hv3 : TkV (w2.setRow w.heap.size (tkCs x (.slice A x.mag.length c)).toArray) x (tkVal x (.slice A x.mag.length c)) := tkv_set ⟨A, c, rfl, hRd⟩ hz.1 _
    have hg3 : (w2.setRow w.heap.size (tkCs x (.slice A x.mag.length c)).toArray).heap[w.heap.size]? = some (.cells (tkCs x (.slice A x.mag.length c)).toArray 33 (0, 0)) := setRow_at hz.1
    generalize w2.setRow w.heap.size (tkCs x (.slice A x.mag.length c)).toArray = w3 at *
    refine (as_nil _ _).mono ?_
    rintro e w4 ⟨rfl, rfl⟩
    have hB4 := hB3.alloc hB3.size (.cells #[.pointer none] 49)
    have hv4 := hv3.below ((Below.refl _ _).alloc (Nat.le_refl _) (.cells #[.pointer none] 49))
    have hg4 := blk_alloc hg3 (.cells #[.pointer none] 49)
    generalize w3.alloc (.cells #[.pointer none] 49) = w4 at *
    go_wp2_with (first
      | (refine load_tok rfl (.tmp 4) rfl w.heap.size (by rfl) _ _ _ hg4 rfl ?_)
      | (refine store_tok rfl (.tmp 4) (.tmp 42) rfl w.heap.size (tkCs x (.slice A x.mag.length c)) (by rfl) (by rfl) _ hg4 rfl rfl (one_tkCs _ _ _ _) ?_))
    exact bodyPost_ret (results_tii Tryd.results8 rfl rfl rfl (setRow_at hg4) rfl) rfl (nx_ok rfl (below_setRow hB4 (Nat.le_refl _) _) (tkv_set hv4 hg4 _))
  | error pc =>
    obtain ⟨p, c⟩ := pc
    simp only at hm
    obtain ⟨v, rfl, hv⟩ := hm
    obtain ⟨bb, kk, what, rfl, hv1, hv2⟩ := hv
    go_wp2_with (refine store_tok rfl (.tmp 4) (.tmp 28) rfl w.heap.size zeroCs (by rfl) (by rfl) _ hz.1 rfl rfl one_zeroCs ?_)
    have hz3 := hz.zero
    have hfar : ∀ {j : Nat} {o : Obj}, w2.heap[j]? = some o → (∀ f, o ≠ .cells zeroCs.toArray 33 f) → (w2.setRow w.heap.size zeroCs.toArray).heap[j]? = some o := fun {j o} hj hne => by
      have : w.heap.size ≠ j := by rintro rfl; rw [hz.1] at hj; cases hj; exact hne _ rfl
      simp [World.setRow, Array.getElem?_modify, this, hj]
    have hb3 := hfar hv1 (fun f h => by simp at h)
    have hk3 := hfar hv2 (fun f h => by simp at h)
    have hL3 := hL.below hz3.2
    have hs3 : (w2.setRow w.heap.size zeroCs.toArray).heap.size = w2.heap.size := by simp [World.setRow]
    have hgl : w.heap.size < w2.heap.size := blk_lt hz.1
    clear hfar hv1 hv2 hz hL2
    obtain ⟨W3, hW3⟩ : ∃ W3, w2.setRow w.heap.size zeroCs.toArray = W3 := ⟨_, rfl⟩
    rw [hW3] at hz3 hb3 hk3 hL3 hs3 ⊢
    clear hW3
    have hL4 := hL3.below ((Below.refl _ _).alloc (Nat.le_refl _) (.cells #[.pointer none] 49))
    have hz4 := hz3.alloc (.cells #[.pointer none] 49)
    have hb4 := blk_alloc hb3 (.cells #[.pointer none] 49)
    have hk4 := blk_alloc hk3 (.cells #[.pointer none] 49)
    have ht4 : (W3.alloc (.cells #[.pointer none] 49)).heap[w2.heap.size]? = some (.cells #[.pointer none] 49 (0, 0)) := blk_new _ hs3.symm
    have hkl : kk < w2.heap.size := by have := blk_lt hk3; omega
    generalize W3.alloc (.cells #[.pointer none] 49) = W4 at *
    clear hb3 hk3 hL3 hz3
    refine (as_wrapped bb ⟨kk, 0, none⟩ ⟨w2.heap.size, 0, none⟩ (.pointer none) W4 hL4.et ((blk_cell ht4).trans rfl) (blk_free ht4) ((blk_cell hb4).trans rfl)).mono ?_
    rintro e w5 ⟨rfl, hw5⟩
    have hA : ∃ A4, Below W4.heap.size W4 A4 ∧ w5 = A4.setCell ⟨w2.heap.size, 0, none⟩ (.pointer (some ⟨kk, 0, none⟩)) := ⟨_, (((((Below.refl _ _).alloc (Nat.le_refl _) _).alloc (by simp) _).alloc (by simp; omega) _).alloc (by simp; omega) _), hw5⟩
    clear hw5
    obtain ⟨A4, hA4, hw5⟩ := hA
    have ht5 : w5.heap[w2.heap.size]? = some (.cells #[.pointer (some ⟨kk, 0, none⟩)] 49 (0, 0)) := by rw [hw5]; exact (blk_set (blk_belowS hA4 ht4) _).trans rfl
    have hz5 : w5.heap[w.heap.size]? = some (.cells zeroCs.toArray 33 (0, 0)) := by rw [hw5]; exact blk_set_far (blk_belowS hA4 hz4.1) (by omega) _
    have hk5 : w5.heap[kk]? = some (.cells #[.int .i64 p, .int .i64 c] 53 (0, 0)) := by rw [hw5]; exact blk_set_far (blk_belowS hA4 hk4) (by omega) _
    have hB5 : Below w.heap.size w w5 := by rw [hw5]; exact (hz4.2.trans (hA4.mono hz4.2.size)).setCell (p := ⟨w2.heap.size, 0, none⟩) (Nat.le_of_lt hgl) _
    clear hA4 hw5 ht4 hz4 hb4 hk4 hL4 hs3
    have hc1 : w5.cell? ⟨w2.heap.size, 0, none⟩ = some (.pointer (some ⟨kk, 0, none⟩)) := (blk_cell ht5).trans rfl
    have hc2 : w5.cell? ⟨kk, 0, none⟩ = some (.int .i64 p) := (blk_cell hk5).trans rfl
    have hc3 : w5.cell? ⟨kk, 1, none⟩ = some (.int .i64 c) := (blk_cell hk5).trans rfl
    have z0 : w5.cell? ⟨w.heap.size, 0, none⟩ = some (.int .i64 0) := (blk_cell hz5).trans rfl
    have f0 : w5.frozen? ⟨w.heap.size, 0, none⟩ = false := blk_free hz5
    have z1 : w5.cell? ⟨w.heap.size, 1, none⟩ = some (.int .i64 0) := (blk_cell hz5).trans rfl
    have f1 : w5.frozen? ⟨w.heap.size, 1, none⟩ = false := blk_free hz5
    have z2 : w5.cell? ⟨w.heap.size, 2, none⟩ = some (.int .i64 0) := (blk_cell hz5).trans rfl
    have f2 : w5.frozen? ⟨w.heap.size, 2, none⟩ = false := blk_free hz5
    have z3 : w5.cell? ⟨w.heap.size, 3, none⟩ = some (.bool false) := (blk_cell hz5).trans rfl
    have f3 : w5.frozen? ⟨w.heap.size, 3, none⟩ = false := blk_free hz5
    have z4 : w5.cell? ⟨w.heap.size, 4, none⟩ = some (.int .i64 0) := (blk_cell hz5).trans rfl
    have f4 : w5.frozen? ⟨w.heap.size, 4, none⟩ = false := blk_free hz5
    have z5 : w5.cell? ⟨w.heap.size, 5, none⟩ = some (.int .i32 0) := (blk_cell hz5).trans rfl
    have f5 : w5.frozen? ⟨w.heap.size, 5, none⟩ = false := blk_free hz5
    have z6 : w5.cell? ⟨w.heap.size, 6, none⟩ = some (.bool false) := (blk_cell hz5).trans rfl
    have f6 : w5.frozen? ⟨w.heap.size, 6, none⟩ = false := blk_free hz5
    have z7 : w5.cell? ⟨w.heap.size, 7, none⟩ = some (.slice none 0 0) := (blk_cell hz5).trans rfl
    have f7 : w5.frozen? ⟨w.heap.size, 7, none⟩ = false := blk_free hz5
    have z8 : w5.cell? ⟨w.heap.size, 8, none⟩ = some (.string ⟨#[]⟩) := (blk_cell hz5).trans rfl
    have f8 : w5.frozen? ⟨w.heap.size, 8, none⟩ = false := blk_free hz5
    have z9 : w5.cell? ⟨w.heap.size, 9, none⟩ = some (.slice none 0 0) := (blk_cell hz5).trans rfl
    have f9 : w5.frozen? ⟨w.heap.size, 9, none⟩ = false := blk_free hz5
    have hn1 : w.heap.size ≠ w2.heap.size := Nat.ne_of_lt hgl
    have hn2 : w2.heap.size ≠ w.heap.size := Ne.symm hn1
    have hn3 : kk ≠ w.heap.size := by rintro rfl; rw [hk5] at hz5; simp at hz5
    have hn4 : w.heap.size ≠ kk := Ne.symm hn3
    go_wp2_with fail
    go_region
    go_wp2_with fail
    have hz7 := zchain_at hz5
    have hB7 := zchain_below hB5 (Nat.le_refl _)
    clear hc1 hc2 hc3 z0 z1 z2 z3 z4 z5 z6 z7 z8 z9 f0 f1 f2 f3 f4 f5 f6 f7 f8 f9
    exact bodyPost_ret (w := (zchain w5 w.heap.size).drew) (results_tii Tryd.results8 rfl rfl rfl hz7 rfl) rfl (nx_bad rfl rfl rfl hB7)
end Go.Proofs.YtkgebnbdgiengaaDoor
