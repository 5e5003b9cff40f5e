/- The numbers' trim, limb, row, Parse: walked. -/
import Derived.Test.YtkgebnbdgiengaaDoorMoLxF
import Derived.Test.YtkgebnbdgiengaaDoorMoLxN
import Derived.Laws.MakeOwn
namespace Go.Proofs.YtkgebnbdgiengaaDoor
open Go.RowKit Lx

theorem cell_below' {B : Nat} {w w' : World} (h : Below B w w') {a : Addr} {v : Value} (hc : w.cell? a = some v) (hB : w.heap.size ≤ B := by exact Nat.le_refl _) : w'.cell? a = some v := by
  rw [h.cell (Nat.lt_of_lt_of_le (World.block_lt_of_cell? w a hc) hB)]; exact hc
theorem reads_below' {B : Nat} {w w' : World} {T : Nat} {A : Option Addr} {vs : List Value} (h : Reads w T A vs) (hb : Below B w w') (hB : w.heap.size ≤ B := by exact Nat.le_refl _) : Reads w' T A vs := h.below (hb.mono hB)
theorem Reads.take {w : World} {T : Nat} {A : Option Addr} {vs : List Value} (h : Reads w T A vs) (n : Nat) : Reads w T A (vs.take n) := fun hp => by
  obtain ⟨b, o, c, f, e, hb, hc⟩ := h (by rw [List.length_take] at hp; omega)
  refine ⟨b, o, c, f, e, hb, fun j hj => ?_⟩
  rw [List.length_take] at hj
  rw [hc j (by omega), List.getElem?_take, if_pos (by omega)]
theorem ints_take (k : IntKind) (xs : List Int) (n : Nat) : ints k (xs.take n) = (ints k xs).take n := by simp [ints, List.map_take]
theorem reads_int {w : World} {T : Nat} {A : Option Addr} {k : IntKind} {xs : List Int} (h : Reads w T A (ints k xs)) {j : Nat} (hj : j < xs.length) : ∃ b o, A = some ⟨b, o, none⟩ ∧ w.cell? ⟨b, o + j, none⟩ = some (.int k xs[j]) := by
  obtain ⟨b, o, e, hc⟩ := h.cell (j := j) (by simpa [ints] using hj)
  exact ⟨b, o, e, by rw [hc]; simp [ints]⟩

set_option maxRecDepth 100000 in
set_option maxHeartbeats 1600000 in
theorem trim_any (A : Option Addr) (c : Nat) (xs : List Int) (w : World) (hR : Reads w 69 A (ints .u32 xs)) (hn : xs.length ≤ 1000000) (hcap : xs.length ≤ c) (hA : A = none → c = 0) :
    Calls Tryd.prog 56 #[.slice A xs.length c] w fun e w' => e = .returned (.slice A (trimL xs).length c) ∧ w = w' := by
  go_enter Tryd.func56, Tryd.ntmps56
  go_wp2_with fail
  go_loop [3] (fun t => ∃ n : Nat, n ≤ xs.length ∧ Hid (∀ j, n ≤ j → (h : j < xs.length) → xs[j] = 0) ∧ t = .int .i64 n) (fun t => (intOf t).toNat)
  case atStart => exact ⟨xs.length, Nat.le_refl _, Lib.hid (fun j h h' => by omega), rfl⟩
  case round =>
    obtain ⟨n, hnl, H, rfl⟩ := hrel
    by_cases h0 : n = 0
    · subst h0
      have HT : Hid (trimL xs = xs.take 0) := Lib.hid (trimL_take (Nat.zero_le _) (fun j h hj => H.out j h hj) (fun _ h => absurd rfl h))
      rcases A with _ | ad
      · obtain rfl := hA rfl
        go_wp2_with fail
        go_ret
        exact ⟨by rw [HT.out]; rfl, rfl⟩
      · go_wp2_with fail
        go_ret
        exact ⟨by rw [HT.out]; rfl, rfl⟩
    · have hlt1 : n - 1 < xs.length := by omega
      obtain ⟨b, o, rfl, hc⟩ := reads_int hR hlt1
      by_cases hx : xs[n - 1] = 0
      · have H2 : Hid (∀ j, n - 1 ≤ j → (h : j < xs.length) → xs[j] = 0) := Lib.hid (fun j hj h => by
          by_cases e : j = n - 1
          · subst e; exact hx
          · exact H.out j (by omega) h)
        have HE : Hid (((n - 1 : Nat) : Int) = (n : Int) - 1) := Lib.hid (by omega)
        go_wp2_with fail
        go_round
        case rel => exact ⟨n - 1, by omega, H2, by rw [HE.out]⟩
        case measure => simp [intOf]; omega
      · have HT : Hid (trimL xs = xs.take n) := Lib.hid (trimL_take hnl (fun j h hj => H.out j h hj) (fun _ _ => hx))
        have HL : Hid ((trimL xs).length = n) := Lib.hid (by rw [HT.out, List.length_take]; omega)
        have hxf : ((xs[n - 1] : Int) == 0) = false := by rw [beq_eq_false_iff_ne]; exact hx
        clear hx
        go_wp2_with fail
        go_ret
        exact ⟨by rw [HL.out]; rfl, rfl⟩

/-- One of a row, 0 behind it. -/
def limbAt (xs : List Int) (i : Nat) : Int := xs.getD i 0
set_option maxRecDepth 100000 in
set_option maxHeartbeats 1600000 in
theorem limb_any (A : Option Addr) (c : Nat) (xs : List Int) (i : Nat) (_hi : i ≤ 1000000) (w : World) (hR : Reads w 69 A (ints .u32 xs)) (_hn : xs.length ≤ 1000000) (hL : Limbs xs) :
    Calls Tryd.prog 59 #[.slice A xs.length c, .int .i64 i] w fun e w' => e = .returned (.int .u64 (limbAt xs i)) ∧ w = w' := by
  by_cases hlt : i < xs.length
  · obtain ⟨b, o, rfl, hc⟩ := reads_int hR hlt
    have he : limbAt xs i = xs[i] := by simp [limbAt, List.getD, List.getElem?_eq_getElem hlt]
    have hx := hL xs[i] (List.getElem_mem hlt)
    rw [he]
    clear he
    generalize xs[i] = x at *
    obtain ⟨hx0, hx1⟩ := hx
    go_enter Tryd.func59, Tryd.ntmps59
    go_wp2_with fail
    go_ret
    exact ⟨rfl, rfl⟩
  · have he : limbAt xs i = 0 := by simp [limbAt, List.getD, List.getElem?_eq_none (show xs.length ≤ i by omega)]
    rw [he]
    go_enter Tryd.func59, Tryd.ntmps59
    go_wp2_with fail
    go_ret
    exact ⟨rfl, rfl⟩

set_option maxRecDepth 100000 in
set_option maxHeartbeats 1600000 in
theorem step_any (pc pm : Addr) (d : Nat) (hd0 : 48 ≤ d) (hd : d ≤ 57) (A : Option Addr) (c : Nat) (xs : List Int) (i : Nat) (hi : i ≤ 1000000) (cv : Int) (hc0 : 0 ≤ cv) (hc1 : cv ≤ 10) (w : World) (h1 : w.cell? pc = some (.int .u8 d)) (h2 : w.cell? pm = some (.slice A xs.length c))
    (hR : Reads w 69 A (ints .u32 xs)) (hn : xs.length ≤ 1000000) (hL : Limbs xs) :
    Calls Tryd.prog 58 #[.int .i64 i, .int .u64 cv, .pointer (some pc), .pointer (some pm)] w fun e w' => e = .returned (.int .u64 (10 * limbAt xs i + (if i = 0 then (d : Int) - 48 else cv))) ∧ w = w' := by
  have hx : 0 ≤ limbAt xs i ∧ limbAt xs i < 4294967296 := by
    unfold limbAt
    by_cases hlt : i < xs.length
    · rw [List.getD_eq_getElem?_getD, List.getElem?_eq_getElem hlt]; exact hL _ (List.getElem_mem hlt)
    · rw [List.getD_eq_getElem?_getD, List.getElem?_eq_none (by omega)]; decide
  obtain ⟨x, hxe⟩ : ∃ x, limbAt xs i = x := ⟨_, rfl⟩
  rw [hxe] at hx ⊢
  have HX := Lib.hid hxe
  clear hxe
  obtain ⟨hx0, hx1⟩ := hx
  by_cases h0 : i = 0
  · rw [if_pos h0]
    subst h0
    go_enter Tryd.func58, Tryd.ntmps58
    go_wp2_with fail
    refine (limb_any A c xs 0 (by omega) w hR hn hL).mono ?_
    rintro e w' ⟨rfl, rfl⟩
    rw [HX.out]
    go_wp2_with fail
    go_ret
    exact ⟨rfl, rfl⟩
  · rw [if_neg h0]
    have hi0 : ((i : Int) == 0) = false := by rw [beq_eq_false_iff_ne]; omega
    go_enter Tryd.func58, Tryd.ntmps58
    go_wp2_with fail
    refine (limb_any A c xs i (by omega) w hR hn hL).mono ?_
    rintro e w' ⟨rfl, rfl⟩
    rw [HX.out]
    go_wp2_with fail
    go_ret
    exact ⟨rfl, rfl⟩

theorem infoU32 : (Tryd.prog.info? 69).map (fun i => (i.zero, i.size, i.bytes)) = some (some (.int .u32 0), 1, 4) := by kernel_rfl
theorem make_u32 (n : Nat) (hn : n ≤ 1000000) (w : World) : (Instr.makeSlice 26 (.int .i64 ((n : Int) + 1)) (.int .i64 ((n : Int) + 1))).run Tryd.prog w =
    .ok (.slice (some ⟨w.heap.size, 0, none⟩) (n + 1) (n + 1)) (w.alloc (.cells (ints .u32 (List.replicate (n + 1) 0)).toArray 69)) := by
  obtain ⟨i, hi, h0, h1, h2⟩ := info_parts infoU32
  rw [run_make w 26 69 i (.int .u32 0) Tryd.underlying26 hi h0 .i64 .i64 _ _ (by omega) (Int.le_refl _) (by rw [h2]; omega) (by omega)]
  have e : madeCells (Value.int .u32 0).cells (n + 1) = (ints .u32 (List.replicate (n + 1) 0)).toArray := by
    apply Array.ext
    · simp [madeCells, ints]
    · intro j hj1 hj2
      simp [madeCells, ints, Value.cells, Nat.mod_one]
  rw [show ((n : Int) + 1).toNat = n + 1 by omega, h1, Nat.mul_one, e]

def rowCells (ds : List Int) (k : Nat) : Array Value := (ints .u32 (ds ++ List.replicate k 0)).toArray
theorem rowCells_set (ds : List Int) (k : Nat) (v : Int) : (rowCells ds (k + 1)).setIfInBounds ds.length (.int .u32 v) = rowCells (ds ++ [v]) k := by
  unfold rowCells
  apply Array.ext'
  simp only [ints, Array.toList_setIfInBounds]
  rw [List.map_append, List.set_append_right _ _ (by simp), List.length_map, Nat.sub_self, List.replicate_succ, List.map_cons, List.set_cons_zero]
  simp
theorem rowCells_at (ds : List Int) (k : Nat) : (rowCells ds (k + 1))[ds.length]? = some (.int .u32 0) := by
  unfold rowCells
  simp [ints, List.replicate_succ]
theorem limbAt_drop {xs : List Int} {j : Nat} (h : j < xs.length) : xs.drop j = limbAt xs j :: xs.drop (j + 1) := by
  rw [List.drop_eq_getElem_cons h]
  simp [limbAt, List.getD, List.getElem?_eq_getElem h]

set_option maxRecDepth 100000 in
set_option maxHeartbeats 1600000 in
theorem row_any (pc pm : Addr) (d : Nat) (hd0 : 48 ≤ d) (hd : d ≤ 57) (A : Option Addr) (c : Nat) (xs : List Int) (w : World) (h1 : w.cell? pc = some (.int .u8 d)) (h2 : w.cell? pm = some (.slice A xs.length c))
    (hR : Reads w 69 A (ints .u32 xs)) (hn : xs.length ≤ 100000) (hL : Limbs xs) :
    Calls Tryd.prog 57 #[.int .i64 ((xs.length : Int) + 1), .func (.func 58) #[] #[.pointer (some pc), .pointer (some pm)]] w fun e w' =>
      e = .returned (.slice (some ⟨w.heap.size, 0, none⟩) (xs.length + 1) (xs.length + 1)) ∧ w'.heap[w.heap.size]? = some (.cells (rowCells (mulAdd ((d : Int) - 48) xs) 0) 69 (0, 0)) ∧ Below w.heap.size w w' := by
  have hmk := make_u32 xs.length (by omega)
  go_enter Tryd.func57, Tryd.ntmps57
  go_wp2_with fail
  have hb : (w.alloc (.cells (ints .u32 (List.replicate (xs.length + 1) 0)).toArray 69)).heap[w.heap.size]? = some (.cells (rowCells [] (xs.length + 1)) 69 (0, 0)) := heap_alloc_new _ _
  have hB : Below w.heap.size w (w.alloc (.cells (ints .u32 (List.replicate (xs.length + 1) 0)).toArray 69)) := (Below.refl _ _).alloc (Nat.le_refl _) _
  generalize w.alloc (.cells (ints .u32 (List.replicate (xs.length + 1) 0)).toArray 69) = w0 at *
  clear hmk
  go_loopw [6, 12] (fun vc vi wr => ∃ (j : Nat) (ds : List Int) (cv : Int), vi = .int .i64 j ∧ vc = .int .u64 cv ∧ 0 ≤ cv ∧ cv ≤ 10 ∧ j ≤ xs.length + 1 ∧ ds.length = j ∧ wr.heap[w.heap.size]? = some (.cells (rowCells ds (xs.length + 1 - j)) 69 (0, 0)) ∧ Below w.heap.size w wr ∧
    Hid ((j ≤ xs.length → mulAdd ((d : Int) - 48) xs = ds ++ mulAdd (if j = 0 then (d : Int) - 48 else cv) (xs.drop j)) ∧ (j = xs.length + 1 → ds = mulAdd ((d : Int) - 48) xs))) (fun _ vi _ => xs.length + 1 - (intOf vi).toNat)
  case atStart => exact ⟨0, [], 0, rfl, rfl, by omega, by omega, by omega, rfl, hb, hB, Lib.hid ⟨fun _ => rfl, fun h => by omega⟩⟩
  case round =>
    obtain ⟨j, ds, cv, rfl, rfl, hc0, hc1, hj, hds, hbr, hBr, H⟩ := hrel
    clear hb hB
    by_cases hlt : j < xs.length + 1
    · have hx : 0 ≤ limbAt xs j ∧ limbAt xs j < 4294967296 := by
        unfold limbAt
        by_cases hlt : j < xs.length
        · rw [List.getD_eq_getElem?_getD, List.getElem?_eq_getElem hlt]; exact hL _ (List.getElem_mem hlt)
        · rw [List.getD_eq_getElem?_getD, List.getElem?_eq_none (by omega)]; decide
      obtain ⟨X, hX⟩ : ∃ X, 10 * limbAt xs j + (if j = 0 then (d : Int) - 48 else cv) = X := ⟨_, rfl⟩
      have hX0 : 0 ≤ X ∧ X < 47244640256 := by
        subst hX
        split <;> omega
      obtain ⟨hX0, hX1⟩ := hX0
      have hstep := step_any pc pm d hd0 hd A c xs j (by omega) cv hc0 hc1 wr ((cell_below' hBr h1).trans rfl) ((cell_below' hBr h2).trans rfl) (reads_below' hR hBr) (by omega) hL
      rw [hX] at hstep
      have HS := Lib.hid hstep
      have H2 : Hid ((j + 1 ≤ xs.length → mulAdd ((d : Int) - 48) xs = (ds ++ [X % 4294967296]) ++ mulAdd (if j + 1 = 0 then (d : Int) - 48 else X / 4294967296) (xs.drop (j + 1))) ∧ (j + 1 = xs.length + 1 → ds ++ [X % 4294967296] = mulAdd ((d : Int) - 48) xs)) := Lib.hid (by
        have := H.out.1 (by omega)
        by_cases hjl : j < xs.length
        · rw [limbAt_drop hjl, mulAdd, hX] at this
          exact ⟨fun _ => by rw [this, if_neg (by omega), List.append_assoc]; rfl, fun h => by omega⟩
        · have hjl2 : j = xs.length := by omega
          rw [List.drop_eq_nil_of_le (by omega), mulAdd] at this
          have hz : limbAt xs j = 0 := by simp [limbAt, List.getD, List.getElem?_eq_none (show xs.length ≤ j by omega)]
          rw [hz] at hX
          refine ⟨fun h => by omega, fun _ => ?_⟩
          rw [this, ← hX]
          simp)
      obtain ⟨k, hk⟩ : ∃ k, xs.length + 1 - j = k + 1 := ⟨xs.length - j, by omega⟩
      rw [hk] at hbr
      have hcell : wr.cell? ⟨w.heap.size, j, none⟩ = some (.int .u32 0) := by rw [blk_cell hbr, ← hds]; exact rowCells_at ds k
      have hfr : wr.frozen? ⟨w.heap.size, j, none⟩ = false := blk_free hbr
      have hk2 : Hid (xs.length + 1 - (j + 1) = k) := Lib.hid (by omega)
      clear hstep hX hx H
      go_wp2_with fail
      refine HS.out.mono ?_
      rintro e w' ⟨rfl, rfl⟩
      go_wp2_with fail
      have hb2 : (wr.setCell ⟨w.heap.size, j, none⟩ (.int .u32 (X % 4294967296))).heap[w.heap.size]? = some (.cells (rowCells (ds ++ [X % 4294967296]) k) 69 (0, 0)) := by
        rw [blk_set hbr, ← hds, rowCells_set]
      have hB2 : Below w.heap.size w (wr.setCell ⟨w.heap.size, j, none⟩ (.int .u32 (X % 4294967296))) := hBr.setCell (p := ⟨w.heap.size, j, none⟩) (Nat.le_refl _) _
      go_roundw
      case rel => exact ⟨j + 1, ds ++ [X % 4294967296], X / 4294967296, by go_num, rfl, by omega, by omega, by omega, by simp [hds], by rw [hk2.out]; exact hb2, hB2, H2⟩
      case measure => simp [intOf]; omega
    · have hj2 : j = xs.length + 1 := by omega
      have H2 := H.out.2 hj2
      have HD : Hid (rowCells ds (xs.length + 1 - j) = rowCells (mulAdd ((d : Int) - 48) xs) 0) := Lib.hid (by rw [← H2]; congr 1; omega)
      clear H2 H
      rw [HD.out] at hbr
      go_wp2_with fail
      go_ret
      exact ⟨rfl, hbr, hBr⟩
end Go.Proofs.YtkgebnbdgiengaaDoor
