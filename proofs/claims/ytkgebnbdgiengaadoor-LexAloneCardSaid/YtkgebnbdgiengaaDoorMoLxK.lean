/- The numbers' Parse: walked. -/
import Derived.Test.YtkgebnbdgiengaaDoorMoLxJ
namespace Go.Proofs.YtkgebnbdgiengaaDoor
open Go.RowKit Lx

theorem pre1 (s : ByteArray) (h : 0 < s.size) (c : UInt8) (b : Bool) (hb : decide (s[0] = c) = b) : [c].isPrefixOf s.data.toList = b := by
  rw [drop1 s h, ← hb]
  show (c == s[0] && true) = _
  rw [Bool.and_true, Bool.eq_iff_iff, beq_iff_eq, decide_eq_true_iff]
  exact eq_comm
theorem decV_snoc (l : List UInt8) (c : UInt8) : decV (l ++ [c]) = 10 * decV l + (c.toNat - 48) := by simp [decV, List.foldl_append]
theorem decV_le : ∀ (m l : List UInt8), decV l ≤ decV (l ++ m) := by
  intro m
  induction m with
  | nil => intro l; simp
  | cons c m ih =>
    intro l
    have h1 := ih (l ++ [c])
    rw [decV_snoc, List.append_assoc] at h1
    have : l ++ [c] ++ m = l ++ c :: m := by simp
    rw [List.singleton_append] at h1
    omega
theorem isDig_nat {c : UInt8} (h : isDig c = true) : 48 ≤ c.toNat ∧ c.toNat ≤ 57 := by
  unfold isDig at h
  rw [decide_eq_true_iff] at h
  exact ⟨(le_u8 48 (by decide) c).1 h.1, (u8_le 57 (by decide) c).1 h.2⟩
theorem rowCells_reads {w : World} {b : Nat} {ys : List Int} (h : w.heap[b]? = some (.cells (rowCells ys 0) 69 (0, 0))) : Reads w 69 (some ⟨b, 0, none⟩) (ints .u32 ys) := fun _ =>
  ⟨b, 0, _, _, rfl, h, fun j _ => by simp [rowCells]⟩
theorem setCell_size (w : World) (p : Addr) (v : Value) : (w.setCell p v).heap.size = w.heap.size := by simp [World.setCell]
theorem cell_set_far {w : World} {b b' j j' : Nat} {v : Value} (h : b ≠ b') : (w.setCell ⟨b', j', none⟩ v).cell? ⟨b, j, none⟩ = w.cell? ⟨b, j, none⟩ := by
  unfold World.cell?
  simp only
  rw [Below.heap_setCell w ⟨b', j', none⟩ v b (by simpa using h)]
theorem reads_cell {w : World} {T t : Nat} {A : Option Addr} {vs : List Value} (h : Reads w T A vs) (hT : T ≠ t) {g : Nat} {old : Array Value} {f : Nat × Nat} (hg : w.heap[g]? = some (.cells old t f)) (j : Nat) (v : Value) : Reads (w.setCell ⟨g, j, none⟩ v) T A vs := fun hp => by
  obtain ⟨b, o, c, f', e, hb, hc⟩ := h hp
  exact ⟨b, o, c, f', e, blk_set_far hb (by rintro rfl; rw [hg] at hb; simp at hb; exact hT hb.2.1.symm) v, hc⟩

set_option maxRecDepth 100000 in
set_option maxHeartbeats 3200000 in
theorem parse_any (s : ByteArray) (h0 : 0 < s.size) (hs : s.size ≤ 4096) (hnum : isNum s.data.toList = true) (w : World) :
    Calls Tryd.prog 48 #[.string s] w (MadeRes (decide (s[0] = 45)) (limbsOf (decV (signed s.data.toList))) w) := by
  have hsg := drop1 s h0
  obtain ⟨R, hR⟩ : ∃ R, MadeRes (decide (s[0] = 45)) (limbsOf (decV (signed s.data.toList))) w = R := ⟨_, rfl⟩
  rw [hR]
  by_cases h45 : s[0] = 45
  · have hz0 := u8_yes (n := 45) (by decide) h45
    have hsl : signed s.data.toList = (s.extract 1 s.size).data.toList := by rw [hsg, signed_cons, if_pos (.inr h45)]
    have hdn : decide (s[0] = 45) = true := by rw [h45]; rfl
    have P45 := Lib.hid (pre1 s h0 45 true hdn)
    have hsz : (s.extract 1 s.size).size ≤ 4096 := by rw [ByteArray.size_extract]; omega
    clear h45 hz0
    rw [hdn, hsl] at hR
    have hnn : (s.extract 1 s.size).data.toList ≠ [] ∧ (s.extract 1 s.size).data.toList.all isDig = true := by
      unfold isNum at hnum
      rw [hsl, Bool.and_eq_true] at hnum
      exact ⟨fun h => by rw [h] at hnum; exact absurd hnum.1 (by decide), hnum.2⟩
    obtain ⟨he2, he3⟩ := str_empty' hnn.1
    have HALL := Lib.hid hnn.2
    have HR := Lib.hid hR
    clear hnn hsl hdn hnum hsg hR
    go_enter Tryd.func48, Tryd.ntmps48
    go_wp2_with fail
    have hz := Zn.new w
    change Zn w (w.alloc (.cells #[.bool false, .slice none 0 0] 28)) at hz
    generalize w.alloc (.cells #[.bool false, .slice none 0 0] 28) = w0 at *
    refine (pre_is (p := ⟨#[45]⟩) P45.out _).mono ?_
    rintro e w' ⟨rfl, rfl⟩
    go_wp2_with fail
    refine (trim0_any (s.extract 1 s.size) _ (by omega)).mono ?_
    rintro e w1 ⟨⟨t, rfl, ht⟩, hb1⟩
    have hx1 : t.toList = [] := ht.2 HALL.out
    replace hz := hz.step hb1
    clear ht hb1
    have hcv := fun W => Lib.run_convert_string_bytes (P := Tryd.prog) W 9 89 5 (s.extract 1 s.size) (u := .string) Tryd.underlying9 Tryd.underlying89 Tryd.underlying5
    go_wp2_with fail
    clear hcv
    have hN : (s.extract 1 s.size).size = (s.size - 1) := by rw [ByteArray.size_extract]; omega
    have hbs : ∀ j, j < (s.size - 1) → (Lib.bytesWorld (w1.alloc (.cells #[.slice none 0 0] 26)) 5 (s.extract 1 s.size)).cell? ⟨w1.heap.size + 1, j, none⟩ = some (.int .u8 (((s.extract 1 s.size).data.toList.getD j 0).toNat)) := fun j hj => by
      have := Lib.bytesWorld_cell (w1.alloc (.cells #[.slice none 0 0] 26)) 5 (s.extract 1 s.size) j (by omega)
      simpa using this
    have hq0 : (Lib.bytesWorld (w1.alloc (.cells #[.slice none 0 0] 26)) 5 (s.extract 1 s.size)).heap[w.heap.size]? = some (.cells zeroNs.toArray 28 (0, 0)) := by
      rw [Lib.bytesWorld_at_old _ _ _ _ (by have := blk_lt hz.1; simp; omega)]
      exact blk_alloc hz.1 _
    have hq1 : (Lib.bytesWorld (w1.alloc (.cells #[.slice none 0 0] 26)) 5 (s.extract 1 s.size)).heap[w1.heap.size]? = some (.cells #[.slice none 0 0] 26 (0, 0)) := by
      rw [Lib.bytesWorld_at_old _ _ _ _ (by simp)]
      exact heap_alloc_new _ _
    have hqs : w1.heap.size + 1 < (Lib.bytesWorld (w1.alloc (.cells #[.slice none 0 0] 26)) 5 (s.extract 1 s.size)).heap.size := by rw [Lib.bytesWorld_size]; simp
    have hqB : Below w.heap.size w (Lib.bytesWorld (w1.alloc (.cells #[.slice none 0 0] 26)) 5 (s.extract 1 s.size)) := hz.2.trans ⟨rfl, rfl, rfl, by rw [Lib.bytesWorld_size]; simp; omega, fun j hj => by
      have hlt := blk_lt hz.1
      rw [Lib.bytesWorld_at_old _ _ _ _ (by simp; omega)]
      exact ((Below.refl w1.heap.size w1).alloc (Nat.le_refl _) _).block j (by omega)⟩
    have hr01 : w.heap.size < w1.heap.size := blk_lt hz.1
    obtain ⟨L, hL⟩ : ∃ L, (s.extract 1 s.size).data.toList = L := ⟨_, rfl⟩
    have hLn : L.length = (s.size - 1) := by rw [← hL, ← Lib.size_eq, hN]
    rw [hL] at hbs HALL HR
    clear hL hz
    generalize Lib.bytesWorld (w1.alloc (.cells #[.slice none 0 0] 26)) 5 (s.extract 1 s.size) = W1 at *
    generalize w1.heap.size = r1 at *
    have HBS := Lib.hid hbs
    clear hbs
    have hmf : ∀ (fn : Fn) (first cap : Array Value) (w : World), (Instr.makeFunc fn first cap).run Tryd.prog w = .ok (.func fn first cap) w := fun _ _ _ _ => rfl
    go_loopw [30] (fun vi wr => ∃ (k : Nat) (A : Option Addr) (c : Nat) (xs : List Int), vi = .int .i64 k ∧ k ≤ (s.size - 1) ∧ xs.length ≤ 48 ∧ xs.length ≤ c ∧ Hid (A = none → c = 0) ∧ Reads wr 69 A (ints .u32 xs) ∧ wr.heap[w.heap.size]? = some (.cells zeroNs.toArray 28 (0, 0)) ∧ wr.heap[r1]? = some (.cells #[.slice A xs.length c] 26 (0, 0)) ∧
      r1 + 1 < wr.heap.size ∧ Below w.heap.size w wr ∧ Hid (∀ j, j < (s.size - 1) → wr.cell? ⟨r1 + 1, j, none⟩ = some (.int .u8 ((L.getD j 0).toNat))) ∧ Hid (xs = limbsOf (decV (L.take k)))) (fun vi _ => (s.size - 1) - (intOf vi).toNat)
    case atStart => exact ⟨0, none, 0, [], rfl, Nat.zero_le _, Nat.zero_le _, Nat.le_refl _, Lib.hid (fun _ => rfl), Reads.nil _ _ _, hq0, hq1, hqs, hqB, HBS, Lib.hid rfl⟩
    case round =>
      obtain ⟨k, A, c, xs, rfl, hk, hx48, hxc, HA, hRx, hb0, hb1, hsz1, hB, HBy, HX⟩ := hrel
      clear hq0 hq1 hqs hqB
      have hlim : Limbs xs := by rw [HX.out]; exact limbsOf_limbs _
      by_cases hkn : k < (s.size - 1)
      · have hcb := HBy.out k hkn
        have hget : L.getD k 0 = L[k]'(by omega) := by simp [List.getD, List.getElem?_eq_getElem (show k < L.length by omega)]
        rw [hget] at hcb
        have hdg := isDig_nat (List.all_eq_true.1 HALL.out _ (List.getElem_mem (show k < L.length by omega)))
        have HT : Hid (L.take (k + 1) = L.take k ++ [L[k]'(by omega)]) := Lib.hid (List.take_succ_eq_append_getElem (by omega))
        generalize L[k]'(by omega) = ch at hcb hdg HT
        obtain ⟨hd0, hd1⟩ := hdg
        clear hget
        have hcm : wr.cell? ⟨r1, 0, none⟩ = some (.slice A xs.length c) := (blk_cell hb1).trans rfl
        have hcm2 : (wr.alloc (.cells #[.int .u8 (ch.toNat : Int)] 5)).cell? ⟨r1, 0, none⟩ = some (.slice A xs.length c) := (blk_cell (blk_alloc hb1 _)).trans rfl
        go_wp2_with fail
        have hk0 : (wr.alloc (.cells #[.int .u8 (ch.toNat : Int)] 5)).heap[w.heap.size]? = some (.cells zeroNs.toArray 28 (0, 0)) := blk_alloc hb0 _
        have hk1 : (wr.alloc (.cells #[.int .u8 (ch.toNat : Int)] 5)).heap[r1]? = some (.cells #[.slice A xs.length c] 26 (0, 0)) := blk_alloc hb1 _
        have hkc : (wr.alloc (.cells #[.int .u8 (ch.toNat : Int)] 5)).cell? ⟨wr.heap.size, 0, none⟩ = some (.int .u8 (ch.toNat : Int)) := (blk_cell (heap_alloc_new _ _)).trans rfl
        have hkR : Reads (wr.alloc (.cells #[.int .u8 (ch.toNat : Int)] 5)) 69 A (ints .u32 xs) := hRx.below ((Below.refl _ _).alloc (Nat.le_refl _) _)
        have hkB : Below wr.heap.size wr (wr.alloc (.cells #[.int .u8 (ch.toNat : Int)] 5)) := (Below.refl _ _).alloc (Nat.le_refl _) _
        generalize wr.alloc (.cells #[.int .u8 (ch.toNat : Int)] 5) = wA at *
        refine (row_any ⟨wr.heap.size, 0, none⟩ ⟨r1, 0, none⟩ ch.toNat hd0 hd1 A c xs wA hkc hcm2 hkR (by omega) hlim).mono ?_
        rintro e w2 ⟨rfl, hrow, hb2⟩
        obtain ⟨ys, hys⟩ : ∃ ys, mulAdd ((ch.toNat : Int) - 48) xs = ys := ⟨_, rfl⟩
        have hylen : xs.length + 1 = ys.length := by rw [← hys, mulAdd_length]
        have hyl : Limbs ys := by rw [← hys]; exact mulAdd_limbs _ _
        have HY : Hid (trimL ys = limbsOf (decV (L.take (k + 1)))) := Lib.hid (by
          rw [HT.out, decV_snoc, ← limbsOf_step _ _ (by omega), ← HX.out, ← hys]
          congr 2
          omega)
        rw [hys] at hrow
        rw [hylen]
        have hRy := rowCells_reads hrow
        clear hys hkc hkR hcm hcm2 hmf
        go_wp2_with fail
        refine (trim_any (some ⟨wA.heap.size, 0, none⟩) ys.length ys w2 hRy (by omega) (Nat.le_refl _) (by rintro ⟨⟩)).mono ?_
        rintro e w3 ⟨rfl, rfl⟩
        have hRt : Reads w2 69 (some ⟨wA.heap.size, 0, none⟩) (ints .u32 (trimL ys)) := by
          rw [trimL_pre ys, ints_take]
          exact hRy.take _
        have htle := trimL_length_le ys
        obtain ⟨zs, hzs⟩ : ∃ zs, trimL ys = zs := ⟨_, rfl⟩
        rw [hzs] at hRt htle HY ⊢
        have hm0 : w2.heap[w.heap.size]? = some (.cells zeroNs.toArray 28 (0, 0)) := blk_belowS hb2 hk0
        have hm1 : w2.heap[r1]? = some (.cells #[.slice A xs.length c] 26 (0, 0)) := blk_belowS hb2 hk1
        have hmB : Below w.heap.size w w2 := (hB.trans (hkB.mono (by omega))).trans (hb2.mono (by have := hkB.size; omega))
        have hms : r1 + 1 < w2.heap.size := by have := hkB.size; have := hb2.size; omega
        have HMy : Hid (∀ j, j < (s.size - 1) → w2.cell? ⟨r1 + 1, j, none⟩ = some (.int .u8 ((L.getD j 0).toNat))) := Lib.hid (fun j hj => cell_below (hb2.mono (Nat.le_refl _)) (cell_below hkB (HBy.out j hj)))
        have hc1 : w2.cell? ⟨r1, 0, none⟩ = some (.slice A xs.length c) := (blk_cell hm1).trans rfl
        have hf1 : w2.frozen? ⟨r1, 0, none⟩ = false := blk_free hm1
        clear hzs hRy hrow hb2 hk0 hk1 hkB HBy hb0 hb1 hB hRx
        have hs0 : (w2.setCell ⟨r1, 0, none⟩ (.slice (some ⟨wA.heap.size, 0, none⟩) zs.length ys.length)).heap[w.heap.size]? = some (.cells zeroNs.toArray 28 (0, 0)) := blk_set_far hm0 (by omega) _
        have hs1 : (w2.setCell ⟨r1, 0, none⟩ (.slice (some ⟨wA.heap.size, 0, none⟩) zs.length ys.length)).heap[r1]? = some (.cells #[.slice (some ⟨wA.heap.size, 0, none⟩) zs.length ys.length] 26 (0, 0)) := (blk_set hm1 _).trans rfl
        have hsc : (w2.setCell ⟨r1, 0, none⟩ (.slice (some ⟨wA.heap.size, 0, none⟩) zs.length ys.length)).cell? ⟨r1, 0, none⟩ = some (.slice (some ⟨wA.heap.size, 0, none⟩) zs.length ys.length) := (blk_cell hs1).trans rfl
        have hsB : Below w.heap.size w (w2.setCell ⟨r1, 0, none⟩ (.slice (some ⟨wA.heap.size, 0, none⟩) zs.length ys.length)) := hmB.setCell (p := ⟨r1, 0, none⟩) (Nat.le_of_lt hr01) _
        have hsR : Reads (w2.setCell ⟨r1, 0, none⟩ (.slice (some ⟨wA.heap.size, 0, none⟩) zs.length ys.length)) 69 (some ⟨wA.heap.size, 0, none⟩) (ints .u32 zs) := reads_cell hRt (by decide) hm1 0 _
        have hss : r1 + 1 < (w2.setCell ⟨r1, 0, none⟩ (.slice (some ⟨wA.heap.size, 0, none⟩) zs.length ys.length)).heap.size := by rw [setCell_size]; exact hms
        have HSy : Hid (∀ j, j < (s.size - 1) → (w2.setCell ⟨r1, 0, none⟩ (.slice (some ⟨wA.heap.size, 0, none⟩) zs.length ys.length)).cell? ⟨r1 + 1, j, none⟩ = some (.int .u8 ((L.getD j 0).toNat))) := Lib.hid (fun j hj => by rw [cell_set_far (by simp)]; exact HMy.out j hj)
        clear HMy hms hmB hRt hm0 hcb
        by_cases hbig : 48 < zs.length
        · have HBIG : Hid (48 < (limbsOf (decV L)).length) := Lib.hid (by
            have h1 : decV (L.take (k + 1)) ≤ decV L := by
              have := decV_le (L.drop (k + 1)) (L.take (k + 1))
              rwa [List.take_append_drop] at this
            have h2 := limbsOf_mono h1
            rw [← HY.out] at h2
            omega)
          go_wp2_with (refine store_any infoNum rfl (.tmp 2) (.tmp 43) rfl w.heap.size zeroNs (by rfl) (by rfl) _ hs0 rfl rfl rfl ?_)
          refine bodyPost_ret (results_ne Tryd.results48 rfl rfl (setRow_at hs0) rfl) rfl ?_
          rw [← HR.out]
          exact made_big HBIG.out (below_setRow hsB (Nat.le_refl _) _)
        · go_wp2_with fail
          go_roundw
          case rel => exact ⟨k + 1, some ⟨wA.heap.size, 0, none⟩, ys.length, zs, by go_num, by omega, by omega, by omega, Lib.hid (by rintro ⟨⟩), hsR, hs0, hs1, hss, hsB, HSy, HY⟩
          case measure => simp [intOf]; omega
      · have hke : k = (s.size - 1) := by omega
        have HXf : Hid (xs = limbsOf (decV L)) := Lib.hid (by rw [HX.out, hke, List.take_of_length_le (by omega)])
        have HTr : Hid (trimL xs = xs) := Lib.hid (by rw [HXf.out, limbsOf_trim])
        have hcm : wr.cell? ⟨r1, 0, none⟩ = some (.slice A xs.length c) := (blk_cell hb1).trans rfl
        go_wp2_with fail
        refine (made_any true A c xs wr hRx (by omega) hxc HA.out).mono ?_
        rintro e w5 ⟨hb5, hm⟩
        rw [HTr.out, if_neg (by omega)] at hm
        obtain ⟨A', c', rfl, hR5⟩ := hm
        have hf0 : w5.heap[w.heap.size]? = some (.cells zeroNs.toArray 28 (0, 0)) := blk_belowS hb5 hb0
        have hfB : Below w.heap.size w w5 := hB.trans (hb5.mono (by omega))
        clear hb5 hb0 hb1 hB hcm HBy
        go_wp2_with (refine store_any infoNum rfl (.tmp 2) (.tmp 48) rfl w.heap.size [_, _] (by rfl) (by rfl) _ hf0 rfl rfl rfl ?_)
        refine bodyPost_ret (results_ne Tryd.results48 rfl rfl (setRow_at hf0) rfl) rfl ?_
        rw [← HR.out, ← HXf.out]
        exact made_ok (by omega) rfl (below_setRow hfB (Nat.le_refl _) _) (reads_setN hR5 (by decide) hf0 _)
  · by_cases h43 : s[0] = 43
    · have hz0 := u8_yes (n := 43) (by decide) h43
      have hsl : signed s.data.toList = (s.extract 1 s.size).data.toList := by rw [hsg, signed_cons, if_pos (.inl h43)]
      have hdn : decide (s[0] = 45) = false := by rw [h43]; rfl
      have P45 := Lib.hid (pre1 s h0 45 false hdn)
      have P43 := Lib.hid (pre1 s h0 43 true (by rw [h43]; rfl))
      have hsz : (s.extract 1 s.size).size ≤ 4096 := by rw [ByteArray.size_extract]; omega
      clear h43 hz0
      rw [hdn, hsl] at hR
      have hnn : (s.extract 1 s.size).data.toList ≠ [] ∧ (s.extract 1 s.size).data.toList.all isDig = true := by
        unfold isNum at hnum
        rw [hsl, Bool.and_eq_true] at hnum
        exact ⟨fun h => by rw [h] at hnum; exact absurd hnum.1 (by decide), hnum.2⟩
      obtain ⟨he2, he3⟩ := str_empty' hnn.1
      have HALL := Lib.hid hnn.2
      have HR := Lib.hid hR
      clear hnn hsl hdn hnum hsg hR
      go_enter Tryd.func48, Tryd.ntmps48
      go_wp2_with fail
      have hz := Zn.new w
      change Zn w (w.alloc (.cells #[.bool false, .slice none 0 0] 28)) at hz
      generalize w.alloc (.cells #[.bool false, .slice none 0 0] 28) = w0 at *
      refine (pre_is (p := ⟨#[45]⟩) P45.out _).mono ?_
      rintro e w' ⟨rfl, rfl⟩
      go_wp2_with fail
      refine (pre_is (p := ⟨#[43]⟩) P43.out _).mono ?_
      rintro e w' ⟨rfl, rfl⟩
      go_wp2_with fail
      refine (trim0_any (s.extract 1 s.size) _ (by omega)).mono ?_
      rintro e w1 ⟨⟨t, rfl, ht⟩, hb1⟩
      have hx1 : t.toList = [] := ht.2 HALL.out
      replace hz := hz.step hb1
      clear ht hb1
      have hcv := fun W => Lib.run_convert_string_bytes (P := Tryd.prog) W 9 89 5 (s.extract 1 s.size) (u := .string) Tryd.underlying9 Tryd.underlying89 Tryd.underlying5
      go_wp2_with fail
      clear hcv
      have hN : (s.extract 1 s.size).size = (s.size - 1) := by rw [ByteArray.size_extract]; omega
      have hbs : ∀ j, j < (s.size - 1) → (Lib.bytesWorld (w1.alloc (.cells #[.slice none 0 0] 26)) 5 (s.extract 1 s.size)).cell? ⟨w1.heap.size + 1, j, none⟩ = some (.int .u8 (((s.extract 1 s.size).data.toList.getD j 0).toNat)) := fun j hj => by
        have := Lib.bytesWorld_cell (w1.alloc (.cells #[.slice none 0 0] 26)) 5 (s.extract 1 s.size) j (by omega)
        simpa using this
      have hq0 : (Lib.bytesWorld (w1.alloc (.cells #[.slice none 0 0] 26)) 5 (s.extract 1 s.size)).heap[w.heap.size]? = some (.cells zeroNs.toArray 28 (0, 0)) := by
        rw [Lib.bytesWorld_at_old _ _ _ _ (by have := blk_lt hz.1; simp; omega)]
        exact blk_alloc hz.1 _
      have hq1 : (Lib.bytesWorld (w1.alloc (.cells #[.slice none 0 0] 26)) 5 (s.extract 1 s.size)).heap[w1.heap.size]? = some (.cells #[.slice none 0 0] 26 (0, 0)) := by
        rw [Lib.bytesWorld_at_old _ _ _ _ (by simp)]
        exact heap_alloc_new _ _
      have hqs : w1.heap.size + 1 < (Lib.bytesWorld (w1.alloc (.cells #[.slice none 0 0] 26)) 5 (s.extract 1 s.size)).heap.size := by rw [Lib.bytesWorld_size]; simp
      have hqB : Below w.heap.size w (Lib.bytesWorld (w1.alloc (.cells #[.slice none 0 0] 26)) 5 (s.extract 1 s.size)) := hz.2.trans ⟨rfl, rfl, rfl, by rw [Lib.bytesWorld_size]; simp; omega, fun j hj => by
        have hlt := blk_lt hz.1
        rw [Lib.bytesWorld_at_old _ _ _ _ (by simp; omega)]
        exact ((Below.refl w1.heap.size w1).alloc (Nat.le_refl _) _).block j (by omega)⟩
      have hr01 : w.heap.size < w1.heap.size := blk_lt hz.1
      obtain ⟨L, hL⟩ : ∃ L, (s.extract 1 s.size).data.toList = L := ⟨_, rfl⟩
      have hLn : L.length = (s.size - 1) := by rw [← hL, ← Lib.size_eq, hN]
      rw [hL] at hbs HALL HR
      clear hL hz
      generalize Lib.bytesWorld (w1.alloc (.cells #[.slice none 0 0] 26)) 5 (s.extract 1 s.size) = W1 at *
      generalize w1.heap.size = r1 at *
      have HBS := Lib.hid hbs
      clear hbs
      have hmf : ∀ (fn : Fn) (first cap : Array Value) (w : World), (Instr.makeFunc fn first cap).run Tryd.prog w = .ok (.func fn first cap) w := fun _ _ _ _ => rfl
      go_loopw [30] (fun vi wr => ∃ (k : Nat) (A : Option Addr) (c : Nat) (xs : List Int), vi = .int .i64 k ∧ k ≤ (s.size - 1) ∧ xs.length ≤ 48 ∧ xs.length ≤ c ∧ Hid (A = none → c = 0) ∧ Reads wr 69 A (ints .u32 xs) ∧ wr.heap[w.heap.size]? = some (.cells zeroNs.toArray 28 (0, 0)) ∧ wr.heap[r1]? = some (.cells #[.slice A xs.length c] 26 (0, 0)) ∧
        r1 + 1 < wr.heap.size ∧ Below w.heap.size w wr ∧ Hid (∀ j, j < (s.size - 1) → wr.cell? ⟨r1 + 1, j, none⟩ = some (.int .u8 ((L.getD j 0).toNat))) ∧ Hid (xs = limbsOf (decV (L.take k)))) (fun vi _ => (s.size - 1) - (intOf vi).toNat)
      case atStart => exact ⟨0, none, 0, [], rfl, Nat.zero_le _, Nat.zero_le _, Nat.le_refl _, Lib.hid (fun _ => rfl), Reads.nil _ _ _, hq0, hq1, hqs, hqB, HBS, Lib.hid rfl⟩
      case round =>
        obtain ⟨k, A, c, xs, rfl, hk, hx48, hxc, HA, hRx, hb0, hb1, hsz1, hB, HBy, HX⟩ := hrel
        clear hq0 hq1 hqs hqB
        have hlim : Limbs xs := by rw [HX.out]; exact limbsOf_limbs _
        by_cases hkn : k < (s.size - 1)
        · have hcb := HBy.out k hkn
          have hget : L.getD k 0 = L[k]'(by omega) := by simp [List.getD, List.getElem?_eq_getElem (show k < L.length by omega)]
          rw [hget] at hcb
          have hdg := isDig_nat (List.all_eq_true.1 HALL.out _ (List.getElem_mem (show k < L.length by omega)))
          have HT : Hid (L.take (k + 1) = L.take k ++ [L[k]'(by omega)]) := Lib.hid (List.take_succ_eq_append_getElem (by omega))
          generalize L[k]'(by omega) = ch at hcb hdg HT
          obtain ⟨hd0, hd1⟩ := hdg
          clear hget
          have hcm : wr.cell? ⟨r1, 0, none⟩ = some (.slice A xs.length c) := (blk_cell hb1).trans rfl
          have hcm2 : (wr.alloc (.cells #[.int .u8 (ch.toNat : Int)] 5)).cell? ⟨r1, 0, none⟩ = some (.slice A xs.length c) := (blk_cell (blk_alloc hb1 _)).trans rfl
          go_wp2_with fail
          have hk0 : (wr.alloc (.cells #[.int .u8 (ch.toNat : Int)] 5)).heap[w.heap.size]? = some (.cells zeroNs.toArray 28 (0, 0)) := blk_alloc hb0 _
          have hk1 : (wr.alloc (.cells #[.int .u8 (ch.toNat : Int)] 5)).heap[r1]? = some (.cells #[.slice A xs.length c] 26 (0, 0)) := blk_alloc hb1 _
          have hkc : (wr.alloc (.cells #[.int .u8 (ch.toNat : Int)] 5)).cell? ⟨wr.heap.size, 0, none⟩ = some (.int .u8 (ch.toNat : Int)) := (blk_cell (heap_alloc_new _ _)).trans rfl
          have hkR : Reads (wr.alloc (.cells #[.int .u8 (ch.toNat : Int)] 5)) 69 A (ints .u32 xs) := hRx.below ((Below.refl _ _).alloc (Nat.le_refl _) _)
          have hkB : Below wr.heap.size wr (wr.alloc (.cells #[.int .u8 (ch.toNat : Int)] 5)) := (Below.refl _ _).alloc (Nat.le_refl _) _
          generalize wr.alloc (.cells #[.int .u8 (ch.toNat : Int)] 5) = wA at *
          refine (row_any ⟨wr.heap.size, 0, none⟩ ⟨r1, 0, none⟩ ch.toNat hd0 hd1 A c xs wA hkc hcm2 hkR (by omega) hlim).mono ?_
          rintro e w2 ⟨rfl, hrow, hb2⟩
          obtain ⟨ys, hys⟩ : ∃ ys, mulAdd ((ch.toNat : Int) - 48) xs = ys := ⟨_, rfl⟩
          have hylen : xs.length + 1 = ys.length := by rw [← hys, mulAdd_length]
          have hyl : Limbs ys := by rw [← hys]; exact mulAdd_limbs _ _
          have HY : Hid (trimL ys = limbsOf (decV (L.take (k + 1)))) := Lib.hid (by
            rw [HT.out, decV_snoc, ← limbsOf_step _ _ (by omega), ← HX.out, ← hys]
            congr 2
            omega)
          rw [hys] at hrow
          rw [hylen]
          have hRy := rowCells_reads hrow
          clear hys hkc hkR hcm hcm2 hmf
          go_wp2_with fail
          refine (trim_any (some ⟨wA.heap.size, 0, none⟩) ys.length ys w2 hRy (by omega) (Nat.le_refl _) (by rintro ⟨⟩)).mono ?_
          rintro e w3 ⟨rfl, rfl⟩
          have hRt : Reads w2 69 (some ⟨wA.heap.size, 0, none⟩) (ints .u32 (trimL ys)) := by
            rw [trimL_pre ys, ints_take]
            exact hRy.take _
          have htle := trimL_length_le ys
          obtain ⟨zs, hzs⟩ : ∃ zs, trimL ys = zs := ⟨_, rfl⟩
          rw [hzs] at hRt htle HY ⊢
          have hm0 : w2.heap[w.heap.size]? = some (.cells zeroNs.toArray 28 (0, 0)) := blk_belowS hb2 hk0
          have hm1 : w2.heap[r1]? = some (.cells #[.slice A xs.length c] 26 (0, 0)) := blk_belowS hb2 hk1
          have hmB : Below w.heap.size w w2 := (hB.trans (hkB.mono (by omega))).trans (hb2.mono (by have := hkB.size; omega))
          have hms : r1 + 1 < w2.heap.size := by have := hkB.size; have := hb2.size; omega
          have HMy : Hid (∀ j, j < (s.size - 1) → w2.cell? ⟨r1 + 1, j, none⟩ = some (.int .u8 ((L.getD j 0).toNat))) := Lib.hid (fun j hj => cell_below (hb2.mono (Nat.le_refl _)) (cell_below hkB (HBy.out j hj)))
          have hc1 : w2.cell? ⟨r1, 0, none⟩ = some (.slice A xs.length c) := (blk_cell hm1).trans rfl
          have hf1 : w2.frozen? ⟨r1, 0, none⟩ = false := blk_free hm1
          clear hzs hRy hrow hb2 hk0 hk1 hkB HBy hb0 hb1 hB hRx
          have hs0 : (w2.setCell ⟨r1, 0, none⟩ (.slice (some ⟨wA.heap.size, 0, none⟩) zs.length ys.length)).heap[w.heap.size]? = some (.cells zeroNs.toArray 28 (0, 0)) := blk_set_far hm0 (by omega) _
          have hs1 : (w2.setCell ⟨r1, 0, none⟩ (.slice (some ⟨wA.heap.size, 0, none⟩) zs.length ys.length)).heap[r1]? = some (.cells #[.slice (some ⟨wA.heap.size, 0, none⟩) zs.length ys.length] 26 (0, 0)) := (blk_set hm1 _).trans rfl
          have hsc : (w2.setCell ⟨r1, 0, none⟩ (.slice (some ⟨wA.heap.size, 0, none⟩) zs.length ys.length)).cell? ⟨r1, 0, none⟩ = some (.slice (some ⟨wA.heap.size, 0, none⟩) zs.length ys.length) := (blk_cell hs1).trans rfl
          have hsB : Below w.heap.size w (w2.setCell ⟨r1, 0, none⟩ (.slice (some ⟨wA.heap.size, 0, none⟩) zs.length ys.length)) := hmB.setCell (p := ⟨r1, 0, none⟩) (Nat.le_of_lt hr01) _
          have hsR : Reads (w2.setCell ⟨r1, 0, none⟩ (.slice (some ⟨wA.heap.size, 0, none⟩) zs.length ys.length)) 69 (some ⟨wA.heap.size, 0, none⟩) (ints .u32 zs) := reads_cell hRt (by decide) hm1 0 _
          have hss : r1 + 1 < (w2.setCell ⟨r1, 0, none⟩ (.slice (some ⟨wA.heap.size, 0, none⟩) zs.length ys.length)).heap.size := by rw [setCell_size]; exact hms
          have HSy : Hid (∀ j, j < (s.size - 1) → (w2.setCell ⟨r1, 0, none⟩ (.slice (some ⟨wA.heap.size, 0, none⟩) zs.length ys.length)).cell? ⟨r1 + 1, j, none⟩ = some (.int .u8 ((L.getD j 0).toNat))) := Lib.hid (fun j hj => by rw [cell_set_far (by simp)]; exact HMy.out j hj)
          clear HMy hms hmB hRt hm0 hcb
          by_cases hbig : 48 < zs.length
          · have HBIG : Hid (48 < (limbsOf (decV L)).length) := Lib.hid (by
              have h1 : decV (L.take (k + 1)) ≤ decV L := by
                have := decV_le (L.drop (k + 1)) (L.take (k + 1))
                rwa [List.take_append_drop] at this
              have h2 := limbsOf_mono h1
              rw [← HY.out] at h2
              omega)
            go_wp2_with (refine store_any infoNum rfl (.tmp 2) (.tmp 43) rfl w.heap.size zeroNs (by rfl) (by rfl) _ hs0 rfl rfl rfl ?_)
            refine bodyPost_ret (results_ne Tryd.results48 rfl rfl (setRow_at hs0) rfl) rfl ?_
            rw [← HR.out]
            exact made_big HBIG.out (below_setRow hsB (Nat.le_refl _) _)
          · go_wp2_with fail
            go_roundw
            case rel => exact ⟨k + 1, some ⟨wA.heap.size, 0, none⟩, ys.length, zs, by go_num, by omega, by omega, by omega, Lib.hid (by rintro ⟨⟩), hsR, hs0, hs1, hss, hsB, HSy, HY⟩
            case measure => simp [intOf]; omega
        · have hke : k = (s.size - 1) := by omega
          have HXf : Hid (xs = limbsOf (decV L)) := Lib.hid (by rw [HX.out, hke, List.take_of_length_le (by omega)])
          have HTr : Hid (trimL xs = xs) := Lib.hid (by rw [HXf.out, limbsOf_trim])
          have hcm : wr.cell? ⟨r1, 0, none⟩ = some (.slice A xs.length c) := (blk_cell hb1).trans rfl
          go_wp2_with fail
          refine (made_any false A c xs wr hRx (by omega) hxc HA.out).mono ?_
          rintro e w5 ⟨hb5, hm⟩
          rw [HTr.out, if_neg (by omega)] at hm
          obtain ⟨A', c', rfl, hR5⟩ := hm
          have hf0 : w5.heap[w.heap.size]? = some (.cells zeroNs.toArray 28 (0, 0)) := blk_belowS hb5 hb0
          have hfB : Below w.heap.size w w5 := hB.trans (hb5.mono (by omega))
          clear hb5 hb0 hb1 hB hcm HBy
          go_wp2_with (refine store_any infoNum rfl (.tmp 2) (.tmp 48) rfl w.heap.size [_, _] (by rfl) (by rfl) _ hf0 rfl rfl rfl ?_)
          refine bodyPost_ret (results_ne Tryd.results48 rfl rfl (setRow_at hf0) rfl) rfl ?_
          rw [← HR.out, ← HXf.out]
          exact made_ok (by omega) rfl (below_setRow hfB (Nat.le_refl _) _) (reads_setN hR5 (by decide) hf0 _)
    · have hsl : signed s.data.toList = (s).data.toList := by rw [hsg, signed_cons, if_neg (fun h => h.elim h43 h45)]
      have hdn : decide (s[0] = 45) = false := decide_eq_false h45
      have P45 := Lib.hid (pre1 s h0 45 false hdn)
      have P43 := Lib.hid (pre1 s h0 43 false (decide_eq_false h43))
      have hsz : (s).size ≤ 4096 := hs
      clear h43 h45
      rw [hdn, hsl] at hR
      have hnn : (s).data.toList ≠ [] ∧ (s).data.toList.all isDig = true := by
        unfold isNum at hnum
        rw [hsl, Bool.and_eq_true] at hnum
        exact ⟨fun h => by rw [h] at hnum; exact absurd hnum.1 (by decide), hnum.2⟩
      obtain ⟨he2, he3⟩ := str_empty' hnn.1
      have HALL := Lib.hid hnn.2
      have HR := Lib.hid hR
      clear hnn hsl hdn hnum hsg hR
      go_enter Tryd.func48, Tryd.ntmps48
      go_wp2_with fail
      have hz := Zn.new w
      change Zn w (w.alloc (.cells #[.bool false, .slice none 0 0] 28)) at hz
      generalize w.alloc (.cells #[.bool false, .slice none 0 0] 28) = w0 at *
      refine (pre_is (p := ⟨#[45]⟩) P45.out _).mono ?_
      rintro e w' ⟨rfl, rfl⟩
      go_wp2_with fail
      refine (pre_is (p := ⟨#[43]⟩) P43.out _).mono ?_
      rintro e w' ⟨rfl, rfl⟩
      go_wp2_with fail
      refine (trim0_any (s) _ (by omega)).mono ?_
      rintro e w1 ⟨⟨t, rfl, ht⟩, hb1⟩
      have hx1 : t.toList = [] := ht.2 HALL.out
      replace hz := hz.step hb1
      clear ht hb1
      have hcv := fun W => Lib.run_convert_string_bytes (P := Tryd.prog) W 9 89 5 (s) (u := .string) Tryd.underlying9 Tryd.underlying89 Tryd.underlying5
      go_wp2_with fail
      clear hcv
      have hN : (s).size = s.size := by rfl
      have hbs : ∀ j, j < s.size → (Lib.bytesWorld (w1.alloc (.cells #[.slice none 0 0] 26)) 5 (s)).cell? ⟨w1.heap.size + 1, j, none⟩ = some (.int .u8 (((s).data.toList.getD j 0).toNat)) := fun j hj => by
        have := Lib.bytesWorld_cell (w1.alloc (.cells #[.slice none 0 0] 26)) 5 (s) j (by omega)
        simpa using this
      have hq0 : (Lib.bytesWorld (w1.alloc (.cells #[.slice none 0 0] 26)) 5 (s)).heap[w.heap.size]? = some (.cells zeroNs.toArray 28 (0, 0)) := by
        rw [Lib.bytesWorld_at_old _ _ _ _ (by have := blk_lt hz.1; simp; omega)]
        exact blk_alloc hz.1 _
      have hq1 : (Lib.bytesWorld (w1.alloc (.cells #[.slice none 0 0] 26)) 5 (s)).heap[w1.heap.size]? = some (.cells #[.slice none 0 0] 26 (0, 0)) := by
        rw [Lib.bytesWorld_at_old _ _ _ _ (by simp)]
        exact heap_alloc_new _ _
      have hqs : w1.heap.size + 1 < (Lib.bytesWorld (w1.alloc (.cells #[.slice none 0 0] 26)) 5 (s)).heap.size := by rw [Lib.bytesWorld_size]; simp
      have hqB : Below w.heap.size w (Lib.bytesWorld (w1.alloc (.cells #[.slice none 0 0] 26)) 5 (s)) := hz.2.trans ⟨rfl, rfl, rfl, by rw [Lib.bytesWorld_size]; simp; omega, fun j hj => by
        have hlt := blk_lt hz.1
        rw [Lib.bytesWorld_at_old _ _ _ _ (by simp; omega)]
        exact ((Below.refl w1.heap.size w1).alloc (Nat.le_refl _) _).block j (by omega)⟩
      have hr01 : w.heap.size < w1.heap.size := blk_lt hz.1
      obtain ⟨L, hL⟩ : ∃ L, (s).data.toList = L := ⟨_, rfl⟩
      have hLn : L.length = s.size := by rw [← hL, ← Lib.size_eq, hN]
      rw [hL] at hbs HALL HR
      clear hL hz
      generalize Lib.bytesWorld (w1.alloc (.cells #[.slice none 0 0] 26)) 5 (s) = W1 at *
      generalize w1.heap.size = r1 at *
      have HBS := Lib.hid hbs
      clear hbs
      have hmf : ∀ (fn : Fn) (first cap : Array Value) (w : World), (Instr.makeFunc fn first cap).run Tryd.prog w = .ok (.func fn first cap) w := fun _ _ _ _ => rfl
      go_loopw [30] (fun vi wr => ∃ (k : Nat) (A : Option Addr) (c : Nat) (xs : List Int), vi = .int .i64 k ∧ k ≤ s.size ∧ xs.length ≤ 48 ∧ xs.length ≤ c ∧ Hid (A = none → c = 0) ∧ Reads wr 69 A (ints .u32 xs) ∧ wr.heap[w.heap.size]? = some (.cells zeroNs.toArray 28 (0, 0)) ∧ wr.heap[r1]? = some (.cells #[.slice A xs.length c] 26 (0, 0)) ∧
        r1 + 1 < wr.heap.size ∧ Below w.heap.size w wr ∧ Hid (∀ j, j < s.size → wr.cell? ⟨r1 + 1, j, none⟩ = some (.int .u8 ((L.getD j 0).toNat))) ∧ Hid (xs = limbsOf (decV (L.take k)))) (fun vi _ => s.size - (intOf vi).toNat)
      case atStart => exact ⟨0, none, 0, [], rfl, Nat.zero_le _, Nat.zero_le _, Nat.le_refl _, Lib.hid (fun _ => rfl), Reads.nil _ _ _, hq0, hq1, hqs, hqB, HBS, Lib.hid rfl⟩
      case round =>
        obtain ⟨k, A, c, xs, rfl, hk, hx48, hxc, HA, hRx, hb0, hb1, hsz1, hB, HBy, HX⟩ := hrel
        clear hq0 hq1 hqs hqB
        have hlim : Limbs xs := by rw [HX.out]; exact limbsOf_limbs _
        by_cases hkn : k < s.size
        · have hcb := HBy.out k hkn
          have hget : L.getD k 0 = L[k]'(by omega) := by simp [List.getD, List.getElem?_eq_getElem (show k < L.length by omega)]
          rw [hget] at hcb
          have hdg := isDig_nat (List.all_eq_true.1 HALL.out _ (List.getElem_mem (show k < L.length by omega)))
          have HT : Hid (L.take (k + 1) = L.take k ++ [L[k]'(by omega)]) := Lib.hid (List.take_succ_eq_append_getElem (by omega))
          generalize L[k]'(by omega) = ch at hcb hdg HT
          obtain ⟨hd0, hd1⟩ := hdg
          clear hget
          have hcm : wr.cell? ⟨r1, 0, none⟩ = some (.slice A xs.length c) := (blk_cell hb1).trans rfl
          have hcm2 : (wr.alloc (.cells #[.int .u8 (ch.toNat : Int)] 5)).cell? ⟨r1, 0, none⟩ = some (.slice A xs.length c) := (blk_cell (blk_alloc hb1 _)).trans rfl
          go_wp2_with fail
          have hk0 : (wr.alloc (.cells #[.int .u8 (ch.toNat : Int)] 5)).heap[w.heap.size]? = some (.cells zeroNs.toArray 28 (0, 0)) := blk_alloc hb0 _
          have hk1 : (wr.alloc (.cells #[.int .u8 (ch.toNat : Int)] 5)).heap[r1]? = some (.cells #[.slice A xs.length c] 26 (0, 0)) := blk_alloc hb1 _
          have hkc : (wr.alloc (.cells #[.int .u8 (ch.toNat : Int)] 5)).cell? ⟨wr.heap.size, 0, none⟩ = some (.int .u8 (ch.toNat : Int)) := (blk_cell (heap_alloc_new _ _)).trans rfl
          have hkR : Reads (wr.alloc (.cells #[.int .u8 (ch.toNat : Int)] 5)) 69 A (ints .u32 xs) := hRx.below ((Below.refl _ _).alloc (Nat.le_refl _) _)
          have hkB : Below wr.heap.size wr (wr.alloc (.cells #[.int .u8 (ch.toNat : Int)] 5)) := (Below.refl _ _).alloc (Nat.le_refl _) _
          generalize wr.alloc (.cells #[.int .u8 (ch.toNat : Int)] 5) = wA at *
          refine (row_any ⟨wr.heap.size, 0, none⟩ ⟨r1, 0, none⟩ ch.toNat hd0 hd1 A c xs wA hkc hcm2 hkR (by omega) hlim).mono ?_
          rintro e w2 ⟨rfl, hrow, hb2⟩
          obtain ⟨ys, hys⟩ : ∃ ys, mulAdd ((ch.toNat : Int) - 48) xs = ys := ⟨_, rfl⟩
          have hylen : xs.length + 1 = ys.length := by rw [← hys, mulAdd_length]
          have hyl : Limbs ys := by rw [← hys]; exact mulAdd_limbs _ _
          have HY : Hid (trimL ys = limbsOf (decV (L.take (k + 1)))) := Lib.hid (by
            rw [HT.out, decV_snoc, ← limbsOf_step _ _ (by omega), ← HX.out, ← hys]
            congr 2
            omega)
          rw [hys] at hrow
          rw [hylen]
          have hRy := rowCells_reads hrow
          clear hys hkc hkR hcm hcm2 hmf
          go_wp2_with fail
          refine (trim_any (some ⟨wA.heap.size, 0, none⟩) ys.length ys w2 hRy (by omega) (Nat.le_refl _) (by rintro ⟨⟩)).mono ?_
          rintro e w3 ⟨rfl, rfl⟩
          have hRt : Reads w2 69 (some ⟨wA.heap.size, 0, none⟩) (ints .u32 (trimL ys)) := by
            rw [trimL_pre ys, ints_take]
            exact hRy.take _
          have htle := trimL_length_le ys
          obtain ⟨zs, hzs⟩ : ∃ zs, trimL ys = zs := ⟨_, rfl⟩
          rw [hzs] at hRt htle HY ⊢
          have hm0 : w2.heap[w.heap.size]? = some (.cells zeroNs.toArray 28 (0, 0)) := blk_belowS hb2 hk0
          have hm1 : w2.heap[r1]? = some (.cells #[.slice A xs.length c] 26 (0, 0)) := blk_belowS hb2 hk1
          have hmB : Below w.heap.size w w2 := (hB.trans (hkB.mono (by omega))).trans (hb2.mono (by have := hkB.size; omega))
          have hms : r1 + 1 < w2.heap.size := by have := hkB.size; have := hb2.size; omega
          have HMy : Hid (∀ j, j < s.size → w2.cell? ⟨r1 + 1, j, none⟩ = some (.int .u8 ((L.getD j 0).toNat))) := Lib.hid (fun j hj => cell_below (hb2.mono (Nat.le_refl _)) (cell_below hkB (HBy.out j hj)))
          have hc1 : w2.cell? ⟨r1, 0, none⟩ = some (.slice A xs.length c) := (blk_cell hm1).trans rfl
          have hf1 : w2.frozen? ⟨r1, 0, none⟩ = false := blk_free hm1
          clear hzs hRy hrow hb2 hk0 hk1 hkB HBy hb0 hb1 hB hRx
          have hs0 : (w2.setCell ⟨r1, 0, none⟩ (.slice (some ⟨wA.heap.size, 0, none⟩) zs.length ys.length)).heap[w.heap.size]? = some (.cells zeroNs.toArray 28 (0, 0)) := blk_set_far hm0 (by omega) _
          have hs1 : (w2.setCell ⟨r1, 0, none⟩ (.slice (some ⟨wA.heap.size, 0, none⟩) zs.length ys.length)).heap[r1]? = some (.cells #[.slice (some ⟨wA.heap.size, 0, none⟩) zs.length ys.length] 26 (0, 0)) := (blk_set hm1 _).trans rfl
          have hsc : (w2.setCell ⟨r1, 0, none⟩ (.slice (some ⟨wA.heap.size, 0, none⟩) zs.length ys.length)).cell? ⟨r1, 0, none⟩ = some (.slice (some ⟨wA.heap.size, 0, none⟩) zs.length ys.length) := (blk_cell hs1).trans rfl
          have hsB : Below w.heap.size w (w2.setCell ⟨r1, 0, none⟩ (.slice (some ⟨wA.heap.size, 0, none⟩) zs.length ys.length)) := hmB.setCell (p := ⟨r1, 0, none⟩) (Nat.le_of_lt hr01) _
          have hsR : Reads (w2.setCell ⟨r1, 0, none⟩ (.slice (some ⟨wA.heap.size, 0, none⟩) zs.length ys.length)) 69 (some ⟨wA.heap.size, 0, none⟩) (ints .u32 zs) := reads_cell hRt (by decide) hm1 0 _
          have hss : r1 + 1 < (w2.setCell ⟨r1, 0, none⟩ (.slice (some ⟨wA.heap.size, 0, none⟩) zs.length ys.length)).heap.size := by rw [setCell_size]; exact hms
          have HSy : Hid (∀ j, j < s.size → (w2.setCell ⟨r1, 0, none⟩ (.slice (some ⟨wA.heap.size, 0, none⟩) zs.length ys.length)).cell? ⟨r1 + 1, j, none⟩ = some (.int .u8 ((L.getD j 0).toNat))) := Lib.hid (fun j hj => by rw [cell_set_far (by simp)]; exact HMy.out j hj)
          clear HMy hms hmB hRt hm0 hcb
          by_cases hbig : 48 < zs.length
          · have HBIG : Hid (48 < (limbsOf (decV L)).length) := Lib.hid (by
              have h1 : decV (L.take (k + 1)) ≤ decV L := by
                have := decV_le (L.drop (k + 1)) (L.take (k + 1))
                rwa [List.take_append_drop] at this
              have h2 := limbsOf_mono h1
              rw [← HY.out] at h2
              omega)
            go_wp2_with (refine store_any infoNum rfl (.tmp 2) (.tmp 43) rfl w.heap.size zeroNs (by rfl) (by rfl) _ hs0 rfl rfl rfl ?_)
            refine bodyPost_ret (results_ne Tryd.results48 rfl rfl (setRow_at hs0) rfl) rfl ?_
            rw [← HR.out]
            exact made_big HBIG.out (below_setRow hsB (Nat.le_refl _) _)
          · go_wp2_with fail
            go_roundw
            case rel => exact ⟨k + 1, some ⟨wA.heap.size, 0, none⟩, ys.length, zs, by go_num, by omega, by omega, by omega, Lib.hid (by rintro ⟨⟩), hsR, hs0, hs1, hss, hsB, HSy, HY⟩
            case measure => simp [intOf]; omega
        · have hke : k = s.size := by omega
          have HXf : Hid (xs = limbsOf (decV L)) := Lib.hid (by rw [HX.out, hke, List.take_of_length_le (by omega)])
          have HTr : Hid (trimL xs = xs) := Lib.hid (by rw [HXf.out, limbsOf_trim])
          have hcm : wr.cell? ⟨r1, 0, none⟩ = some (.slice A xs.length c) := (blk_cell hb1).trans rfl
          go_wp2_with fail
          refine (made_any false A c xs wr hRx (by omega) hxc HA.out).mono ?_
          rintro e w5 ⟨hb5, hm⟩
          rw [HTr.out, if_neg (by omega)] at hm
          obtain ⟨A', c', rfl, hR5⟩ := hm
          have hf0 : w5.heap[w.heap.size]? = some (.cells zeroNs.toArray 28 (0, 0)) := blk_belowS hb5 hb0
          have hfB : Below w.heap.size w w5 := hB.trans (hb5.mono (by omega))
          clear hb5 hb0 hb1 hB hcm HBy
          go_wp2_with (refine store_any infoNum rfl (.tmp 2) (.tmp 48) rfl w.heap.size [_, _] (by rfl) (by rfl) _ hf0 rfl rfl rfl ?_)
          refine bodyPost_ret (results_ne Tryd.results48 rfl rfl (setRow_at hf0) rfl) rfl ?_
          rw [← HR.out, ← HXf.out]
          exact made_ok (by omega) rfl (below_setRow hfB (Nat.le_refl _) _) (reads_setN hR5 (by decide) hf0 _)
end Go.Proofs.YtkgebnbdgiengaaDoor
