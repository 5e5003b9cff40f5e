/- A job's bytes, read: plain laws. -/
import Derived.Test.YthhchicggidhcaaDoorMoTxt
namespace Go.Proofs.YthhchicggidhcaaDoor
open Go.RowKit

/-- What bytes are: a job, or an error. -/
def dec (l : List UInt8) : Except Int JS := if 65536 < l.length then .error 12 else
  match dnum l with
  | none => .error 9
  | some (lim, l1) => match dnum l1 with
    | none => .error 9
    | some (fuel, l2) => match dtext l2 with
      | none => .error 9
      | some (inp, l3) => match damt l3 with
        | none => .error 9
        | some (n, l4) => if 1000 < n then .error 12 else match dcolls n l4 with
          | none => .error 9
          | some (fs, l5) => match dtext l5 with
            | none => .error 9
            | some (src, l6) => if l6 = [] then .ok ⟨mk src, mk inp, lim, fuel, fs⟩ else .error 9

/-! ### Encoded, decoded -/
def vencB (x : Nat) : List UInt8 := if h : x < 128 then [UInt8.ofNat x] else UInt8.ofNat (128 + x % 128) :: vencB (x / 128)
termination_by x
decreasing_by omega
theorem vencB_small {x : Nat} (h : x < 128) : vencB x = [UInt8.ofNat x] := by rw [vencB, dif_pos h]
theorem vencB_more {x : Nat} (h : ¬ x < 128) : vencB x = UInt8.ofNat (128 + x % 128) :: vencB (x / 128) := by rw [vencB, dif_neg h]

theorem vd_enc : ∀ (n y : Nat), y < n → ∀ (i a : Nat) (r : List UInt8), (i = 0 ∨ 0 < y) → y * 128 ^ i < 18446744073709551616 → vd i a (vencB y ++ r) = some (a + y * 128 ^ i, r)
  | 0, y, h, _, _, _, _, _ => by omega
  | n + 1, y, hy, i, a, r, h0, hb => by
    have hi : i < 10 := by
      rcases h0 with rfl | h0
      · omega
      · refine Nat.lt_of_not_le fun hc => ?_
        have h1 : 128 ^ 10 ≤ 128 ^ i := Nat.pow_le_pow_right (by omega) hc
        have h2 : 128 ^ i ≤ y * 128 ^ i := Nat.le_mul_of_pos_left _ h0
        have h3 : (128 : Nat) ^ 10 = 1180591620717411303424 := by decide
        omega
    by_cases h1 : y < 128
    · rw [vencB_small h1]
      have e : (UInt8.ofNat y).toNat = y := by rw [UInt8.toNat_ofNat']; omega
      simp only [List.cons_append, List.nil_append, vd, e]
      rw [if_neg (by omega), if_pos h1, if_neg]
      rintro (⟨rfl, h2⟩ | ⟨h2, h3⟩)
      · have h3 : (128 : Nat) ^ 9 = 9223372036854775808 := by decide
        rw [h3] at hb; omega
      · omega
    · rw [vencB_more h1]
      have e : (UInt8.ofNat (128 + y % 128)).toNat = 128 + y % 128 := by rw [UInt8.toNat_ofNat']; omega
      simp only [List.cons_append, vd, e]
      have hp : y / 128 * 128 ^ (i + 1) + y % 128 * 128 ^ i = y * 128 ^ i := by
        rw [Nat.pow_succ, ← Nat.mul_assoc, Nat.mul_right_comm, ← Nat.add_mul]
        congr 1; omega
      rw [if_neg (by omega), if_neg (by omega), vd_enc n (y / 128) (by omega) (i + 1) _ r (.inr (by omega)) (by omega)]
      rw [show (128 + y % 128) % 128 = y % 128 by omega]
      congr 2
      omega
theorem vd_back : ∀ (l : List UInt8) (i a x : Nat) (r : List UInt8), vd i a l = some (x, r) → ∃ y, x = a + y * 128 ^ i ∧ l = vencB y ++ r ∧ (i = 0 ∨ 0 < y) ∧ y * 128 ^ i < 18446744073709551616
  | [], i, a, x, r, h => by simp [vd] at h
  | c :: l, i, a, x, r, h => by
    rw [vd] at h
    split at h
    · cases h
    · rename_i hi
      split at h
      · rename_i hc
        split at h
        · cases h
        · rename_i hz
          cases h
          refine ⟨c.toNat, rfl, ?_, by omega, ?_⟩
          · rw [vencB_small hc, UInt8.ofNat_toNat]; rfl
          · have hp : (128 : Nat) ^ i ≤ 128 ^ 9 := Nat.pow_le_pow_right (by omega) (by omega)
            have h9 : (128 : Nat) ^ 9 = 9223372036854775808 := by decide
            by_cases h8 : i = 9
            · subst h8
              have : c.toNat ≤ 1 := by omega
              have := Nat.mul_le_mul_right (128 ^ 9) this
              omega
            · have hp8 : (128 : Nat) ^ i ≤ 128 ^ 8 := Nat.pow_le_pow_right (by omega) (by omega)
              have h8' : (128 : Nat) ^ 8 = 72057594037927936 := by decide
              have := Nat.mul_le_mul (show c.toNat ≤ 127 by omega) hp8
              omega
      · rename_i hc
        obtain ⟨y, h1, h2, h3, h4⟩ := vd_back l (i + 1) _ x r h
        have hlt := c.toNat_lt
        have h3' : 0 < y := by omega
        refine ⟨c.toNat % 128 + 128 * y, ?_, ?_, by omega, ?_⟩
        · rw [h1, Nat.pow_succ, Nat.add_mul, Nat.add_assoc, show y * (128 ^ i * 128) = 128 * y * 128 ^ i by rw [Nat.mul_comm 128 y, Nat.mul_assoc, Nat.mul_comm 128]]
        · rw [vencB_more (by omega), h2, show (c.toNat % 128 + 128 * y) / 128 = y by omega, show 128 + (c.toNat % 128 + 128 * y) % 128 = c.toNat by omega, UInt8.ofNat_toNat]; rfl
        · have hi9 : i + 1 ≤ 9 := by
            refine Nat.le_of_not_lt fun hcc => ?_
            have e1 : 128 ^ 10 ≤ 128 ^ (i + 1) := Nat.pow_le_pow_right (by omega) (by omega)
            have e2 : 128 ^ (i + 1) ≤ y * 128 ^ (i + 1) := Nat.le_mul_of_pos_left _ h3'
            have e3 : (128 : Nat) ^ 10 = 1180591620717411303424 := by decide
            omega
          have hk : ∃ k, 18446744073709551616 = k * 128 ^ (i + 1) := ⟨2 * 128 ^ (9 - (i + 1)), by
            have : (128 : Nat) ^ 9 = 128 ^ (9 - (i + 1)) * 128 ^ (i + 1) := by rw [← Nat.pow_add]; congr 1; omega
            have h9 : (128 : Nat) ^ 9 = 9223372036854775808 := by decide
            rw [Nat.mul_assoc, ← this, h9]⟩
          obtain ⟨k, hk⟩ := hk
          have hyk : y < k := by
            rw [hk] at h4
            exact Nat.lt_of_mul_lt_mul_right h4
          have e1 : (y + 1) * 128 ^ (i + 1) ≤ k * 128 ^ (i + 1) := Nat.mul_le_mul_right _ hyk
          have e2 : (c.toNat % 128 + 128 * y) * 128 ^ i < (128 + 128 * y) * 128 ^ i := Nat.mul_lt_mul_of_pos_right (by omega) (Nat.pow_pos (by omega))
          have e3 : (128 + 128 * y) * 128 ^ i = (y + 1) * 128 ^ (i + 1) := by
            rw [Nat.pow_succ, show 128 + 128 * y = (y + 1) * 128 by omega, Nat.mul_assoc, Nat.mul_comm 128]
          omega
theorem zig_unz {n : Int} (h : I64 n) : unz (zigN n) = n ∧ zigN n < 18446744073709551616 := by
  obtain ⟨h1, h2⟩ := h
  have e := zig_rzig n h1 h2
  unfold zigN
  rw [e]
  unfold rzig wrap64 unz
  simp only [IntKind.wrap_u64]
  by_cases hn : n < 0
  · rw [if_pos hn]
    refine ⟨?_, by omega⟩
    rw [if_pos (by omega)]; omega
  · rw [if_neg hn]
    refine ⟨?_, by omega⟩
    rw [if_neg (by omega)]; omega
theorem unz_zig {x : Nat} (h : x < 18446744073709551616) : I64 (unz x) ∧ zigN (unz x) = x := by
  have hI : I64 (unz x) := by unfold unz I64; split <;> omega
  refine ⟨hI, ?_⟩
  have e := zig_rzig (unz x) hI.1 hI.2
  unfold zigN
  rw [e]
  unfold rzig wrap64 unz
  simp only [IntKind.wrap_u64]
  by_cases hn : x % 2 = 1
  · rw [if_pos hn, if_pos (by omega)]; omega
  · rw [if_neg hn, if_neg (by omega)]; omega
def numB (n : Int) : List UInt8 := vencB (zigN n)
theorem dnum_enc {n : Int} (h : I64 n) (r : List UInt8) : dnum (numB n ++ r) = some (n, r) := by
  obtain ⟨h1, h2⟩ := zig_unz h
  unfold dnum numB
  rw [vd_enc _ _ (Nat.lt_succ_self _) 0 0 r (.inl rfl) (by simpa using h2)]
  simp [h1]
theorem dnum_back {l r : List UInt8} {n : Int} (h : dnum l = some (n, r)) : I64 n ∧ l = numB n ++ r := by
  unfold dnum at h
  cases hv : vd 0 0 l with
  | none => rw [hv] at h; cases h
  | some p =>
    obtain ⟨x, r'⟩ := p
    rw [hv] at h
    obtain ⟨y, h1, h2, _, h4⟩ := vd_back l 0 0 x r' hv
    simp only [Option.map_some, Option.some.injEq, Prod.mk.injEq] at h
    obtain ⟨rfl, rfl⟩ := h
    obtain rfl : x = y := by simpa using h1
    obtain ⟨g1, g2⟩ := unz_zig (x := x) (by simpa using h4)
    exact ⟨g1, by unfold numB; rw [g2]; exact h2⟩
def textB (l : List UInt8) : List UInt8 := numB l.length ++ l
theorem I64_len (n : Nat) (h : n ≤ 1048576) : I64 (n : Int) := ⟨by omega, by omega⟩
theorem damt_enc {n : Nat} {r : List UInt8} (h : n ≤ r.length) (hn : n ≤ 1048576) : damt (numB n ++ r) = some (n, r) := by
  unfold damt
  rw [dnum_enc (I64_len n hn)]
  simp only
  rw [if_pos (by omega)]; simp
theorem damt_back {l r : List UInt8} {n : Nat} (h : damt l = some (n, r)) : n ≤ r.length ∧ l = numB n ++ r := by
  unfold damt at h
  split at h
  · rename_i m r' hm
    split at h
    · rename_i hc
      simp only [Option.some.injEq, Prod.mk.injEq] at h
      obtain ⟨rfl, rfl⟩ := h
      have := (dnum_back hm).2
      exact ⟨by omega, by rw [show ((m.toNat : Nat) : Int) = m by omega]; exact this⟩
    · cases h
  · cases h
theorem dtext_enc (l r : List UInt8) (hn : l.length ≤ 1048576) : dtext (textB l ++ r) = some (l, r) := by
  unfold dtext textB
  rw [List.append_assoc, damt_enc (by simp) hn]
  simp
theorem dtext_back {l t r : List UInt8} (h : dtext l = some (t, r)) : l = textB t ++ r := by
  unfold dtext at h
  cases hd : damt l with
  | none => rw [hd] at h; cases h
  | some p =>
    obtain ⟨n, r'⟩ := p
    rw [hd] at h
    simp only [Option.map_some, Option.some.injEq, Prod.mk.injEq] at h
    obtain ⟨rfl, rfl⟩ := h
    obtain ⟨h1, h2⟩ := damt_back hd
    unfold textB
    rw [List.append_assoc, List.take_append_drop, List.length_take, Nat.min_eq_left h1]
    exact h2
def collB (fs : List (Int × Int × Int)) : List UInt8 := fs.flatMap fun c => numB c.1 ++ (numB c.2.1 ++ numB c.2.2)
theorem dcolls_enc : ∀ (fs : List (Int × Int × Int)) (r : List UInt8), (∀ c ∈ fs, I64 c.1 ∧ I64 c.2.1 ∧ I64 c.2.2) → dcolls fs.length (collB fs ++ r) = some (fs, r)
  | [], r, _ => rfl
  | c :: fs, r, h => by
    obtain ⟨h1, h2, h3⟩ := h c (by simp)
    have e : collB (c :: fs) ++ r = numB c.1 ++ (numB c.2.1 ++ (numB c.2.2 ++ (collB fs ++ r))) := by simp [collB]
    rw [e, List.length_cons, dcolls, dnum_enc h1]
    simp only
    rw [dnum_enc h2]
    simp only
    rw [dnum_enc h3]
    simp only
    rw [dcolls_enc fs r fun d hd => h d (List.mem_cons_of_mem _ hd)]
theorem dcolls_back : ∀ (k : Nat) (l r : List UInt8) (fs : List (Int × Int × Int)), dcolls k l = some (fs, r) → fs.length = k ∧ (∀ c ∈ fs, I64 c.1 ∧ I64 c.2.1 ∧ I64 c.2.2) ∧ l = collB fs ++ r
  | 0, l, r, fs, h => by
    simp only [dcolls, Option.some.injEq, Prod.mk.injEq] at h
    obtain ⟨rfl, rfl⟩ := h
    exact ⟨rfl, by simp, rfl⟩
  | k + 1, l, r, fs, h => by
    rw [dcolls] at h
    split at h
    · cases h
    · rename_i x l1 e1
      split at h
      · cases h
      · rename_i y l2 e2
        split at h
        · cases h
        · rename_i z l3 e3
          split at h
          · cases h
          · rename_i gs l4 e4
            simp only [Option.some.injEq, Prod.mk.injEq] at h
            obtain ⟨rfl, rfl⟩ := h
            obtain ⟨g1, g2, g3⟩ := dcolls_back k l3 l4 gs e4
            obtain ⟨i1, rfl⟩ := dnum_back e1
            obtain ⟨i2, rfl⟩ := dnum_back e2
            obtain ⟨i3, rfl⟩ := dnum_back e3
            refine ⟨by simp [g1], ?_, by subst g3; simp [collB]⟩
            intro c hc
            rcases List.mem_cons.1 hc with rfl | hc
            · exact ⟨i1, i2, i3⟩
            · exact g2 c hc
def jobB (src inp : List UInt8) (lim fuel : Int) (fs : List (Int × Int × Int)) : List UInt8 := numB lim ++ (numB fuel ++ (textB inp ++ (numB fs.length ++ (collB fs ++ textB src))))
theorem dec_enc (src inp : List UInt8) {lim fuel : Int} {fs : List (Int × Int × Int)} (h1 : I64 lim) (h2 : I64 fuel) (hf : ∀ c ∈ fs, I64 c.1 ∧ I64 c.2.1 ∧ I64 c.2.2) (hl : fs.length ≤ 1000) (hlen : (jobB src inp lim fuel fs).length ≤ 65536) :
    dec (jobB src inp lim fuel fs) = .ok ⟨mk src, mk inp, lim, fuel, fs⟩ := by
  have hs : src.length ≤ 1048576 := by unfold jobB textB at hlen; simp only [List.length_append] at hlen; omega
  have hi : inp.length ≤ 1048576 := by unfold jobB textB at hlen; simp only [List.length_append] at hlen; omega
  have hcl : fs.length ≤ (collB fs ++ textB src).length := by
    have : ∀ gs : List (Int × Int × Int), gs.length ≤ (collB gs).length := by
      intro gs
      induction gs with
      | nil => simp
      | cons c gs ih =>
        have hp : 0 < (numB c.1).length := by unfold numB; rw [vencB]; split <;> simp
        simp only [collB, List.flatMap_cons, List.length_append, List.length_cons] at ih ⊢
        omega
    have := this fs
    rw [List.length_append]; omega
  unfold dec
  rw [if_neg (by omega)]
  unfold jobB
  rw [dnum_enc h1]
  simp only
  rw [dnum_enc h2]
  simp only
  rw [dtext_enc _ _ hi]
  simp only
  rw [damt_enc hcl (by omega)]
  simp only
  rw [if_neg (by omega), dcolls_enc fs _ hf]
  simp only
  have := dtext_enc src [] hs
  rw [List.append_nil] at this
  rw [this]
  simp
theorem dec_back {l : List UInt8} {j : JS} (h : dec l = .ok j) : ∃ src inp : List UInt8, j.src = mk src ∧ j.inp = mk inp ∧ I64 j.lim ∧ I64 j.fuel ∧ (∀ c ∈ j.forced, I64 c.1 ∧ I64 c.2.1 ∧ I64 c.2.2) ∧ j.forced.length ≤ 1000 ∧ l.length ≤ 65536 ∧ l = jobB src inp j.lim j.fuel j.forced := by
  unfold dec at h
  split at h
  · cases h
  rename_i hlen
  split at h
  · cases h
  rename_i lim l1 e1
  split at h
  · cases h
  rename_i fuel l2 e2
  split at h
  · cases h
  rename_i inp l3 e3
  split at h
  · cases h
  rename_i n l4 e4
  split at h
  · cases h
  rename_i hn
  split at h
  · cases h
  rename_i fs l5 e5
  split at h
  · cases h
  rename_i src l6 e6
  split at h
  · rename_i hz
    cases h
    subst hz
    obtain ⟨i1, g1⟩ := dnum_back e1
    obtain ⟨i2, g2⟩ := dnum_back e2
    have g3 := dtext_back e3
    obtain ⟨_, g4⟩ := damt_back e4
    obtain ⟨c1, c2, g5⟩ := dcolls_back _ _ _ _ e5
    have g6 := dtext_back e6
    refine ⟨src, inp, rfl, rfl, i1, i2, c2, (by show fs.length ≤ 1000; omega), by omega, ?_⟩
    unfold jobB
    rw [g1, g2, g3, g4, g5, g6, c1, List.append_nil]
  · cases h

/-! ### The same bytes, as the walk of Encode tells them -/
theorem venc_B : ∀ (n x : Nat), x < n → strOfNums (venc x) = mk (vencB x)
  | 0, x, h => by omega
  | n + 1, x, h => by
    by_cases h1 : x < 128
    · rw [venc_small h1, vencB_small h1]; rfl
    · rw [venc_more h1, vencB_more h1]
      have ih := venc_B n (x / 128) (by omega)
      have h2 := or128 (x % 256) (by omega)
      rw [show ((x : Int) % 256) = ((x % 256 : Nat) : Int) by omega, h2]
      unfold strOfNums mk at ih ⊢
      have ih' : (venc (x / 128)).map (fun n => UInt8.ofNat n.toNat) = vencB (x / 128) := by
        have := congrArg (fun b : ByteArray => b.data.toList) ih
        simpa using this
      rw [List.map_cons, ih', Int.toNat_natCast, show 128 + x % 256 % 128 = 128 + x % 128 by omega]
theorem strOf_app (xs ys : List Int) : (strOfNums (xs ++ ys)).data.toList = (strOfNums xs).data.toList ++ (strOfNums ys).data.toList := by simp [strOfNums]
theorem strOf_enc1 (n : Int) : (strOfNums (encs [n])).data.toList = numB n := by
  have : encs [n] = venc (zigN n) := by simp [encs]
  rw [this, venc_B _ _ (Nat.lt_succ_self _), mk_list]; rfl
theorem strOf_encs (ns : List Int) : (strOfNums (encs ns)).data.toList = ns.flatMap numB := by
  induction ns with
  | nil => rfl
  | cons n ns ih =>
    have : encs (n :: ns) = encs [n] ++ encs ns := encs_app [n] ns
    rw [this, strOf_app, ih, strOf_enc1]; rfl
theorem strOf_bytes (s : ByteArray) : (strOfNums (bytesOf' s)).data.toList = s.data.toList := by
  unfold bytesOf'
  rw [strOf_map]
theorem strOf_coll (fs : List (Int × Int × Int)) : (strOfNums (collBytes fs)).data.toList = collB fs := by
  induction fs with
  | nil => rfl
  | cons c fs ih =>
    have : collBytes (c :: fs) = encs [c.1, c.2.1, c.2.2] ++ collBytes fs := rfl
    rw [this, strOf_app, ih, strOf_encs]
    simp [collB]
theorem strOf_job (src inp : ByteArray) (lim fuel : Int) (fs : List (Int × Int × Int)) : (strOfNums (jobBytes src inp lim fuel fs)).data.toList = jobB src.data.toList inp.data.toList lim fuel fs := by
  have e : ∀ s : ByteArray, (s.size : Int) = ((s.data.toList.length : Nat) : Int) := fun s => by rw [Array.length_toList]; rfl
  unfold jobBytes jobB textB
  simp only [strOf_app, strOf_encs, strOf_coll, strOf_bytes, List.flatMap_cons, List.flatMap_nil, List.append_nil, List.append_assoc, e]
theorem jobB_len (src inp : ByteArray) (lim fuel : Int) (fs : List (Int × Int × Int)) : (jobB src.data.toList inp.data.toList lim fuel fs).length = (jobBytes src inp lim fuel fs).length := by
  rw [← strOf_job]; simp [strOfNums]
end Go.Proofs.YthhchicggidhcaaDoor
