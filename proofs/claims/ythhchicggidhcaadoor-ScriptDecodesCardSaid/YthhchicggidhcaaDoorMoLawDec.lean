/- ScriptDecodes, walked. -/
import Derived.Test.YthhchicggidhcaaDoorPgetx1
import Derived.Test.YthhchicggidhcaaDoorMoDec
import Derived.Test.YthhchicggidhcaaDoorMoDecode
import Derived.Test.YthhchicggidhcaaDoorMoBackP
import Derived.Test.YthhchicggidhcaaDoorPSamex2
import Derived.Test.YthhchicggidhcaaDoorMoEnc
import Derived.Test.YthhchicggidhcaaDoorMoAwake
import Derived.Test.YthhchicggidhcaaDoorMoPrint
namespace Go.Proofs.YthhchicggidhcaaDoor
open Go.RowKit Go.Proofs.YthhchicggidhcaaDoorW.PrintWords

theorem w64' {i : Int} (h1 : -9223372036854775808 ≤ i) (h2 : i ≤ 9223372036854775807) : wrap64 i = i := by unfold wrap64; omega
theorem btn (s : ByteArray) (i : Nat) (h : i < s.size) : bt s (i : Int) = (s[i].toNat : Int) := by
  unfold bt
  rw [dif_pos (by simpa using h)]
  rfl
def getR (p : Option (Nat × List UInt8)) : Int × ByteArray × Bool := match p with
  | some (y, r) => (unz y, mk r, true)
  | none => (0, ⟨#[]⟩, false)
theorem u64n {x : Nat} (h : x < 18446744073709551616) : IntKind.u64.wrap (x : Int) = (x : Int) := by rw [IntKind.wrap_u64]; omega
theorem ext_mk (s : ByteArray) (i : Nat) (_h : i + 1 ≤ s.size) : s.extract (i + 1) s.size = mk (s.data.toList.drop (i + 1)) := by
  rw [← mk_self (s.extract (i + 1) s.size)]
  congr 1
  first | exact Lib.extract_to_end _ _ | (rw [Lib.extract_data]; simp; omega)
theorem get_j3 (s : ByteArray) (hs : s.size ≤ 1048576) (k i y : Nat) (hi : i < s.size) (hy : y < 18446744073709551616) : Pget.moraineref27_get.j3 (k + 1) s (y : Int) (i : Int) false = some (unz y, mk (s.data.toList.drop (i + 1)), true) := by
  rw [Pget.moraineref27_get.j3, if_neg (by simp), w64' (by omega) (by omega), show ((i : Int) + 1).toNat = i + 1 by omega, ext_mk s i (by omega), Int.tmod_eq_emod_of_nonneg (by omega), Int.tdiv_eq_ediv_of_nonneg (by omega)]
  unfold unz wrap64
  simp only [IntKind.wrap_u64]
  by_cases h : y % 2 = 1
  · rw [if_pos (by omega), if_pos (by omega), if_pos (by omega), if_pos h]
    refine congrArg some (Prod.ext ?_ rfl)
    show _ = _
    omega
  · rw [if_neg (by omega), if_pos (by omega), if_pos (by omega), if_neg h]
    refine congrArg some (Prod.ext ?_ rfl)
    show _ = _
    omega
theorem get_j3t (s : ByteArray) (k : Nat) (y i : Int) : Pget.moraineref27_get.j3 (k + 1) s y i true = some (0, ⟨#[]⟩, false) := by
  rw [Pget.moraineref27_get.j3, if_pos rfl]
theorem get_j2t (s : ByteArray) (k : Nat) (y i a b : Int) : Pget.moraineref27_get.j2 (k + 1) s y a i b true = some (0, ⟨#[]⟩, false) := by
  rw [Pget.moraineref27_get.j2, if_pos rfl]
theorem get_sum {x c i : Nat} (hx : x < 128 ^ i) (hc : c < 256) (h : i ≤ 8 ∨ i = 9 ∧ c ≤ 1) :
    IntKind.u64.wrap ((x : Int) + IntKind.u64.wrap (Int.tmod (c : Int) 128 * ((128 ^ i : Nat) : Int))) = ((x + c % 128 * 128 ^ i : Nat) : Int) ∧ x + c % 128 * 128 ^ i < 18446744073709551616 ∧ x + c % 128 * 128 ^ i < 128 ^ (i + 1) := by
  have e : Int.tmod (c : Int) 128 = ((c % 128 : Nat) : Int) := by rw [Int.tmod_eq_emod_of_nonneg (by omega)]; omega
  have hp : x + c % 128 * 128 ^ i < 128 ^ (i + 1) := by
    have h1 : c % 128 * 128 ^ i ≤ 127 * 128 ^ i := Nat.mul_le_mul_right _ (by omega)
    rw [Nat.pow_succ]; omega
  have hb : x + c % 128 * 128 ^ i < 18446744073709551616 := by
    rcases h with h | ⟨rfl, h⟩
    · have h2 : 128 ^ (i + 1) ≤ 128 ^ 9 := Nat.pow_le_pow_right (by omega) (by omega)
      have h3 : (128 : Nat) ^ 9 = 9223372036854775808 := by decide
      omega
    · have h3 : (128 : Nat) ^ 9 = 9223372036854775808 := by decide
      rw [h3] at hx ⊢
      omega
  refine ⟨?_, hb, hp⟩
  have e2 : ((c % 128 : Nat) : Int) * ((128 ^ i : Nat) : Int) = ((c % 128 * 128 ^ i : Nat) : Int) := (Int.natCast_mul _ _).symm
  rw [e, e2, u64n (x := c % 128 * 128 ^ i) (by omega), ← Int.natCast_add, u64n hb]
theorem vd_consG {i x : Nat} {c : UInt8} {r : List UInt8} (h : i ≤ 9) : vd i x (c :: r) = if c.toNat < 128 then (if i = 9 ∧ 1 < c.toNat ∨ 0 < i ∧ c.toNat = 0 then none else some (x + c.toNat * 128 ^ i, r)) else vd (i + 1) (x + c.toNat % 128 * 128 ^ i) r := by
  rw [vd, if_neg (by omega)]
theorem get_l0 (s : ByteArray) (hs : s.size ≤ 1048576) : ∀ (d k i x : Nat), s.size - i = d → i ≤ s.size → i ≤ 9 → 4 * d + 4 ≤ k → x < 128 ^ i →
    Pget.moraineref27_get.l0 k s (x : Int) ((128 ^ i : Nat) : Int) (i : Int) = some (getR (vd i x (s.data.toList.drop i))) := by
  intro d
  induction d with
  | zero =>
    intro k i x hd hi h9 hk hx
    obtain ⟨k, rfl⟩ : ∃ m, k = m + 2 := ⟨k - 2, by omega⟩
    simp only [Pget.moraineref27_get.l0, Pget.moraineref27_get.j1]
    rw [if_neg (by omega), if_neg (by simp), List.drop_eq_nil_of_le (by rw [Array.length_toList]; show s.size ≤ i; omega)]
    rfl
  | succ d ih =>
    intro k i x hd hi h9 hk hx
    obtain ⟨k, rfl⟩ : ∃ m, k = m + 4 := ⟨k - 4, by omega⟩
    have hlt : i < s.size := by omega
    have h8 := s[i].toNat_lt
    have hdr : s.data.toList.drop i = s[i] :: s.data.toList.drop (i + 1) := List.drop_eq_getElem_cons (by rw [Array.length_toList]; exact hlt)
    rw [hdr]
    have ihn := ih (k + 1) (i + 1)
    generalize hgr : s.data.toList.drop (i + 1) = r at *
    have hj3 := fun y hy => get_j3 s hs k i y hlt hy
    rw [hgr] at hj3
    have hsum := get_sum (x := x) (c := s[i].toNat) (i := i) hx h8
    have hbt := btn s i hlt
    generalize s[i] = c at *
    have hu : IntKind.u64.wrap ((c.toNat : Nat) : Int) = (c.toNat : Int) := u64n (by omega)
    have e10 : decide ((i : Int) < 10) = true := by simp; omega
    rw [Pget.moraineref27_get.l0, if_pos (by omega), e10, Pget.moraineref27_get.j1, if_pos rfl, if_pos (by omega), if_pos (by omega), hbt, hu, vd_consG h9]
    by_cases hi9 : i = 9
    · subst hi9
      rw [if_pos (show ((9 : Nat) : Int) = 9 from rfl)]
      by_cases hc1 : 1 < c.toNat
      · rw [decide_eq_true (by omega), get_j2t]
        by_cases hc : c.toNat < 128
        · rw [if_pos hc, if_pos (.inl ⟨rfl, hc1⟩)]; rfl
        · rw [if_neg hc]
          cases r with
          | nil => rfl
          | cons a b => rw [vd, if_pos (by omega)]; rfl
      · obtain ⟨s1, s2, s3⟩ := hsum (.inr ⟨rfl, by omega⟩)
        rw [decide_eq_false (by omega), Pget.moraineref27_get.j2, if_neg (by simp), if_pos (by omega), s1, if_pos (show c.toNat < 128 by omega)]
        by_cases hc0 : c.toNat = 0
        · rw [if_pos (by omega), decide_eq_true (by omega), get_j3t, if_pos (.inr ⟨by omega, hc0⟩)]; rfl
        · rw [if_neg (by omega), hj3 _ s2, if_neg (by omega), show c.toNat % 128 = c.toNat by omega]; rfl
    · obtain ⟨s1, s2, s3⟩ := hsum (.inl (by omega))
      rw [if_neg (by omega), Pget.moraineref27_get.j2, if_neg (by simp), s1]
      by_cases hc : c.toNat < 128
      · rw [if_pos (by omega), if_pos hc]
        by_cases hc0 : c.toNat = 0
        · rw [if_pos (by omega)]
          by_cases hi0 : i = 0
          · rw [decide_eq_false (by omega), hj3 _ s2, if_neg (by omega), show c.toNat % 128 = c.toNat by omega]; rfl
          · rw [decide_eq_true (by omega), get_j3t, if_pos (.inr ⟨by omega, hc0⟩)]; rfl
        · rw [if_neg (by omega), hj3 _ s2, if_neg (by omega), show c.toNat % 128 = c.toNat by omega]; rfl
      · rw [if_neg (by omega), if_neg hc, w64' (by omega) (by omega)]
        have hp : IntKind.u64.wrap (((128 ^ i : Nat) : Int) * 128) = ((128 ^ (i + 1) : Nat) : Int) := by
          have h2 : 128 ^ (i + 1) ≤ 128 ^ 9 := Nat.pow_le_pow_right (by omega) (by omega)
          have h3 : (128 : Nat) ^ 9 = 9223372036854775808 := by decide
          rw [show ((128 ^ i : Nat) : Int) * 128 = ((128 ^ (i + 1) : Nat) : Int) by rw [Nat.pow_succ]; exact (Int.natCast_mul _ _).symm]
          exact u64n (by omega)
        rw [hp]
        exact ihn _ (by omega) (by omega) (by omega) (by omega) s3
/-- What get comes to. -/
def gg (l : List UInt8) : Int × List UInt8 × Bool := match dnum l with
  | some (n, r) => (n, r, true)
  | none => (0, [], false)
theorem get_any (l : List UInt8) (w : World) (hs : l.length ≤ 1048576) :
    Calls Tryd.prog 45 #[.string (mk l)] w fun e w' => e = .returned (.tuple #[.int .i64 (gg l).1, .string (mk (gg l).2.1), .bool (gg l).2.2]) ∧ Drawn0 w w' := by
  have h := get_l0 (mk l) (by rw [mk_size]; exact hs) (mk l).size (4 * (mk l).size + 4) 0 0 (by omega) (by omega) (by omega) (by omega) (by simp)
  rw [List.drop_zero, mk_list] at h
  have e : getR (vd 0 0 l) = ((gg l).1, mk (gg l).2.1, (gg l).2.2) := by
    unfold gg dnum
    cases vd 0 0 l <;> rfl
  rw [e] at h
  exact Pget.moraineref27_get.calls _ _ _ _ _ w h
end Go.Proofs.YthhchicggidhcaaDoor

namespace Go.Proofs.YthhchicggidhcaaDoor
open Go.RowKit

/-! ### Plain -/
def d6 (lim fuel : Int) (inp : List UInt8) (n : Nat) (l4 : List UInt8) : Except Int JS := if 1000 < n then .error 12 else match dcolls n l4 with
  | none => .error 9
  | some (fs, l5) => match dtext l5 with
    | none => .error 9
    | some (src, l6) => if l6 = [] then .ok ⟨mk src, mk inp, lim, fuel, fs⟩ else .error 9
def d5 (lim fuel : Int) (inp l3 : List UInt8) : Except Int JS := match damt l3 with
  | none => .error 9
  | some (n, l4) => d6 lim fuel inp n l4
def d4 (lim fuel : Int) (l2 : List UInt8) : Except Int JS := match dtext l2 with
  | none => .error 9
  | some (inp, l3) => d5 lim fuel inp l3
def d3 (lim : Int) (l1 : List UInt8) : Except Int JS := match dnum l1 with
  | none => .error 9
  | some (fuel, l2) => d4 lim fuel l2
def d2 (l : List UInt8) : Except Int JS := match dnum l with
  | none => .error 9
  | some (lim, l1) => d3 lim l1
theorem dec_d2 {l : List UInt8} (h : ¬ 65536 < l.length) : dec l = d2 l := by
  unfold dec; rw [if_neg h]; rfl
theorem damt_ok {l r : List UInt8} {m : Nat} (h : dnum l = some ((m : Int), r)) (hm : m ≤ r.length) : damt l = some (m, r) := by
  unfold damt
  rw [h]
  show (if 0 ≤ (m : Int) ∧ (m : Int) ≤ r.length then some ((m : Int).toNat, r) else none) = _
  rw [if_pos ⟨by omega, by omega⟩, Int.toNat_natCast]
theorem damt_out {l r : List UInt8} {n : Int} (h : dnum l = some (n, r)) (hn : n < 0 ∨ (r.length : Int) < n) : damt l = none := by
  unfold damt
  rw [h]
  show (if 0 ≤ n ∧ n ≤ r.length then some (n.toNat, r) else none) = _
  rw [if_neg (by omega)]
theorem damt_no {l : List UInt8} (h : dnum l = none) : damt l = none := by unfold damt; rw [h]
theorem dtext_of {l r : List UInt8} {m : Nat} (h : damt l = some (m, r)) : dtext l = some (r.take m, r.drop m) := by rw [dtext, h]; rfl
theorem dtext_no {l : List UInt8} (h : damt l = none) : dtext l = none := by rw [dtext, h]; rfl
theorem dcolls_snoc : ∀ (k : Nat) (l r r1 r2 r3 : List UInt8) (fs : List (Int × Int × Int)) (x y z : Int), dcolls k l = some (fs, r) → dnum r = some (x, r1) → dnum r1 = some (y, r2) → dnum r2 = some (z, r3) →
    dcolls (k + 1) l = some (fs ++ [(x, y, z)], r3)
  | 0, l, r, r1, r2, r3, fs, x, y, z, h, h1, h2, h3 => by
    simp only [dcolls, Option.some.injEq, Prod.mk.injEq] at h
    obtain ⟨rfl, rfl⟩ := h
    simp [dcolls, h1, h2, h3]
  | k + 1, l, r, r1, r2, r3, fs, x, y, z, h, h1, h2, h3 => by
    rw [dcolls] at h ⊢
    cases e1 : dnum l with
    | none => rw [e1] at h; cases h
    | some p =>
      obtain ⟨a, l1⟩ := p
      rw [e1] at h
      simp only at h ⊢
      cases e2 : dnum l1 with
      | none => rw [e2] at h; cases h
      | some p =>
        obtain ⟨b, l2⟩ := p
        rw [e2] at h
        simp only at h ⊢
        cases e3 : dnum l2 with
        | none => rw [e3] at h; cases h
        | some p =>
          obtain ⟨c, l3⟩ := p
          rw [e3] at h
          simp only at h ⊢
          cases e4 : dcolls k l3 with
          | none => rw [e4] at h; cases h
          | some q =>
            obtain ⟨gs, r'⟩ := q
            rw [e4] at h
            simp only [Option.some.injEq, Prod.mk.injEq] at h
            obtain ⟨rfl, rfl⟩ := h
            rw [dcolls_snoc k l3 r' r1 r2 r3 gs x y z e4 h1 h2 h3]
            rfl
theorem dcolls_stop : ∀ (k m : Nat) (l r : List UInt8) (fs : List (Int × Int × Int)), dcolls k l = some (fs, r) → (dnum r = none ∨ (∃ x r1, dnum r = some (x, r1) ∧ (dnum r1 = none ∨ ∃ y r2, dnum r1 = some (y, r2) ∧ dnum r2 = none))) → dcolls (k + (m + 1)) l = none
  | 0, m, l, r, fs, h, hn => by
    simp only [dcolls, Option.some.injEq, Prod.mk.injEq] at h
    obtain ⟨rfl, rfl⟩ := h
    rw [Nat.zero_add, dcolls]
    rcases hn with h | ⟨x, r1, h1, h | ⟨y, r2, h2, h⟩⟩
    · rw [h]
    · rw [h1]; simp only; rw [h]
    · rw [h1]; simp only; rw [h2]; simp only; rw [h]
  | k + 1, m, l, r, fs, h, hn => by
    rw [show k + 1 + (m + 1) = (k + (m + 1)) + 1 by omega]
    rw [dcolls] at h ⊢
    cases e1 : dnum l with
    | none => rfl
    | some p =>
      obtain ⟨a, l1⟩ := p
      rw [e1] at h
      simp only at h ⊢
      cases e2 : dnum l1 with
      | none => rfl
      | some p =>
        obtain ⟨b, l2⟩ := p
        rw [e2] at h
        simp only at h ⊢
        cases e3 : dnum l2 with
        | none => rfl
        | some p =>
          obtain ⟨c, l3⟩ := p
          rw [e3] at h
          simp only at h ⊢
          cases e4 : dcolls k l3 with
          | none => rw [e4] at h; cases h
          | some q =>
            obtain ⟨gs, r'⟩ := q
            rw [e4] at h
            simp only [Option.some.injEq, Prod.mk.injEq] at h
            obtain ⟨rfl, rfl⟩ := h
            rw [dcolls_stop k m l3 r' gs e4 hn]

/-! ### The walk -/
theorem get_s (s : ByteArray) (w : World) (hs : s.size ≤ 1048576) :
    Calls Tryd.prog 45 #[.string s] w fun e w' => ∃ (n : Int) (s' : ByteArray) (ok : Bool), e = .returned (.tuple #[.int .i64 n, .string s', .bool ok]) ∧
      (ok = true ∧ dnum s.data.toList = some (n, s'.data.toList) ∨ ok = false ∧ dnum s.data.toList = none) ∧ s'.size ≤ 1048576 ∧ Below w.heap.size w w' := by
  have h := get_any s.data.toList w (by rw [Array.length_toList]; exact hs)
  rw [mk_self] at h
  refine h.mono fun e w' ⟨he, hd⟩ => ⟨_, _, _, he, ?_, ?_, hd.below⟩
  · unfold gg
    cases hq : dnum s.data.toList with
    | none => exact .inr ⟨rfl, rfl⟩
    | some p =>
      refine .inl ⟨rfl, ?_⟩
      simp only [mk_list]
  · rw [mk_size]
    unfold gg
    cases hq : dnum s.data.toList with
    | none => exact Nat.zero_le _
    | some p =>
      have := (dnum_back (n := p.1) (r := p.2) hq).2
      have h2 := congrArg List.length this
      rw [List.length_append, Array.length_toList] at h2
      have h3 : s.data.size = s.size := rfl
      simp only
      omega

/-- The state: the named result is zero yet, the job is being read. -/
def RSt (w W : World) (jv : Array Value) : Prop := Below w.heap.size w W ∧ W.heap[w.heap.size]? = some (.cells #[.string ⟨#[]⟩, .string ⟨#[]⟩, .int .i64 0, .int .i64 0, .slice none 0 0] 24 (0, 0)) ∧ W.heap[w.heap.size + 1]? = some (.cells jv 24 (0, 0))
theorem RSt.below {w W W' : World} {jv : Array Value} (h : RSt w W jv) (hb : Below W.heap.size W W') : RSt w W' jv := ⟨h.1.trans (hb.mono h.1.size), blk_belowS hb h.2.1, blk_belowS hb h.2.2⟩
theorem RSt.drew {w W : World} {jv : Array Value} (h : RSt w W jv) : RSt w W.drew jv := ⟨h.1.drew, h.2.1, h.2.2⟩
theorem RSt.alloc {w W : World} {jv : Array Value} (h : RSt w W jv) (o : Obj) : RSt w (W.alloc o) jv := h.below ((Below.refl _ _).alloc (Nat.le_refl _) o)
theorem RSt.set {w W : World} {jv : Array Value} (h : RSt w W jv) (k : Nat) (v : Value) : RSt w (W.setCell ⟨w.heap.size + 1, k, none⟩ v) (jv.setIfInBounds k v) := by
  have hF := Fr.setCell (T := [24]) (base := w.heap.size + 1) (p := ⟨w.heap.size + 1, k, none⟩) v (Nat.le_refl _) ⟨_, _, _, h.2.2, by simp⟩
  exact ⟨h.1.trans ((hF.below (Nat.le_of_lt (blk_lt h.2.2))).mono (Nat.le_succ _)), blk_set_far h.2.1 (by omega) _, blk_set h.2.2 _⟩
theorem RSt.far {w W : World} {jv : Array Value} (h : RSt w W jv) {b : Nat} (hb : w.heap.size + 2 ≤ b) {cs : Array Value} {t : TypeId} {f : Nat × Nat} (hc : W.heap[b]? = some (.cells cs t f)) (k : Nat) (v : Value) : RSt w (W.setCell ⟨b, k, none⟩ v) jv := by
  have hF := Fr.setCell (T := [t]) (base := b) (p := ⟨b, k, none⟩) v (Nat.le_refl _) ⟨_, _, _, hc, by simp⟩
  exact ⟨h.1.trans ((hF.below (Nat.le_of_lt (blk_lt hc))).mono (by omega)), blk_set_far h.2.1 (by omega) _, blk_set_far h.2.2 (by omega) _⟩
theorem finR {w wa w5 : World} {k c c5 : Nat} {A A5 : Option Addr} {a b d e : Value} {xs ys : List Value} (o : Obj) (hS : RSt w wa #[a, b, d, e, .slice A k c])
    (ho : wa.ownsRow w.heap.size 65 3 (.slice A k c) k xs) (ho5 : w5.ownsRow w.heap.size 65 3 (.slice A5 (k + 1) c5) (k + 1) ys) (hg5 : (wa.alloc o).grownBy w5 (Value.slice A k c).ownBlock) :
    RSt w (w5.setCell ⟨w.heap.size + 1, 4, none⟩ (.slice A5 (k + 1) c5)) #[a, b, d, e, .slice A5 (k + 1) c5] ∧ (w5.setCell ⟨w.heap.size + 1, 4, none⟩ (.slice A5 (k + 1) c5)).ownsRow w.heap.size 65 3 (.slice A5 (k + 1) c5) (k + 1) ys := by
  obtain ⟨hB, hz, hj⟩ := hS
  have hoa := ho.alloc o
  have hja := blk_alloc hj o
  have hj5 := blk_grown hg5 hja (own_far hoa hja (by decide))
  have hza := blk_alloc hz o
  have hz5 := blk_grown hg5 hza (own_far hoa hza (by decide))
  have hFa : Fr [65] w.heap.size wa w5 := Fr.app o ho hg5 (by decide) (Nat.le_refl _)
  have hB5 := hB.trans (hFa.below hB.size)
  have h5 : RSt w w5 #[a, b, d, e, .slice A k c] := ⟨hB5, hz5, hj5⟩
  exact ⟨h5.set 4 _, own_set (p := ⟨w.heap.size + 1, 4, none⟩) ho5 (own_far ho5 hj5 (by decide)) _⟩
theorem own_not {w : World} {base : Nat} {e : TypeId} {size n b : Nat} {v : Value} {xs : List Value} (h : w.ownsRow base e size v n xs) (hb : w.heap.size ≤ b) : some b ≠ v.ownBlock := fun hk => by
  obtain ⟨_, cs, hcs⟩ := own_type h b hk.symm
  have := blk_lt hcs
  omega

theorem results_rdec {tmps : Array Value} {W : World} {b0 : Nat} {v0 v1 v2 v3 v4 u : Value} {t : TypeId} {f : Nat × Nat} (h2 : tmps[2]?.getD undef = .pointer (some ⟨b0, 0, none⟩)) (h3 : tmps[3]?.getD undef = u)
    (e0 : W.heap[b0]? = some (.cells #[v0, v1, v2, v3, v4] t f)) : (results Tryd.f27 tmps).run Tryd.prog W = .ok (.tuple #[.agg #[v0, v1, v2, v3, v4], u]) W := by
  have c0 : W.cell? ⟨b0, 0, none⟩ = some v0 := (blk_cell e0).trans rfl
  have c1 : W.cell? ⟨b0, 1, none⟩ = some v1 := (blk_cell e0).trans rfl
  have c2 : W.cell? ⟨b0, 2, none⟩ = some v2 := (blk_cell e0).trans rfl
  have c3 : W.cell? ⟨b0, 3, none⟩ = some v3 := (blk_cell e0).trans rfl
  have c4 : W.cell? ⟨b0, 4, none⟩ = some v4 := (blk_cell e0).trans rfl
  simp [results, Tryd.f27, go_sem, c0, c1, c2, c3, c4, h2, h3]
set_option maxRecDepth 100000 in
set_option maxHeartbeats 8000000 in
theorem rdecode_any (s : ByteArray) (w : World) (hs : s.size ≤ 1048576) :
    Calls Tryd.prog 27 #[.string s] w (DecPost s.data.toList w) := by
  by_cases hlong : 65536 < s.size
  · go_enter Tryd.func27, Tryd.ntmps27
    go_wp2_with fail
    refine bodyPost_ret (v := .tuple #[.agg #[.string ⟨#[]⟩, .string ⟨#[]⟩, .int .i64 0, .int .i64 0, .slice none 0 0], .int .i64 12]) (by simp [results, Tryd.results27, go_sem]) rfl ?_
    have he : dec s.data.toList = .error 12 := by
      unfold dec
      rw [if_pos (by rw [Array.length_toList]; exact hlong)]
    unfold DecPost
    rw [sDec_eq, he]
    exact ⟨rfl, (Below.refl _ _).alloc (Nat.le_refl _) _⟩
  · have hS : RSt w ((w.alloc zjob).alloc zjob) #[.string ⟨#[]⟩, .string ⟨#[]⟩, .int .i64 0, .int .i64 0, .slice none 0 0] := ⟨((Below.refl _ _).alloc (Nat.le_refl _) _).alloc (by simp) _, blk_alloc (blk_new _ rfl) _, blk_new _ (by simp)⟩
    have HD1 := Lib.hid (dec_d2 (l := s.data.toList) (by rw [Array.length_toList]; exact hlong))
    have HS := Lib.hid hS
    clear hS
    go_enter Tryd.func27, Tryd.ntmps27
    go_wp2_with fail
    have hS := HS.out
    unfold zjob at hS
    clear HS
    generalize (w.alloc (.cells #[.string ⟨#[]⟩, .string ⟨#[]⟩, .int .i64 0, .int .i64 0, .slice none 0 0] 24)).alloc (.cells #[.string ⟨#[]⟩, .string ⟨#[]⟩, .int .i64 0, .int .i64 0, .slice none 0 0] 24) = W at *
    with_reducible refine (get_s s W hs).mono ?_
    rintro e v1 ⟨n1, s1, ok1, rfl, hg1, hz1, hb1⟩
    replace hS := hS.below hb1
    clear hb1
    have hT : RSt w (v1.setCell ⟨w.heap.size + 1, 2, none⟩ (.int .i64 n1)) #[.string ⟨#[]⟩, .string ⟨#[]⟩, .int .i64 n1, .int .i64 0, .slice none 0 0] := hS.set 2 _
    obtain ⟨-, -, c2, -, -, -, -, f2, -, -⟩ := blk10 hS.2.2
    rcases hg1 with ⟨rfl, hd⟩ | ⟨rfl, hd⟩
    rotate_left
    · have he := HD1.out.trans (show d2 s.data.toList = .error 9 by rw [d2, hd])
      clear HD1 hd
      obtain ⟨z0, z1, z2, z3, z4, y0, y1, y2, y3, y4⟩ := blk10 hT.2.1
      have HE := Lib.hid he
      clear he
      go_wp2_with fail
      have h5 := put5 (v0 := .string ⟨#[]⟩) (v1 := .string ⟨#[]⟩) (v2 := .int .i64 0) (v3 := .int .i64 0) (v4 := .slice none 0 0) hT.2.1
      obtain ⟨x0, x1, x2, x3, x4, -, -, -, -, -⟩ := blk10 h5.1
      refine bodyPost_ret (v := .tuple #[.agg #[.string ⟨#[]⟩, .string ⟨#[]⟩, .int .i64 0, .int .i64 0, .slice none 0 0], .int .i64 9]) (by simp [results, Tryd.results27, go_sem, x0, x1, x2, x3, x4]) rfl ?_
      unfold DecPost
      rw [sDec_eq, HE.out]
      exact ⟨rfl, hT.1.trans (h5.2.below (Nat.le_of_lt (blk_lt hT.2.1)))⟩
    have HD2 := Lib.hid (HD1.out.trans (show d2 s.data.toList = d3 n1 s1.data.toList by rw [d2, hd]))
    clear HD1 hd
    go_wp2_with fail
    clear c2 f2 hS
    generalize v1.setCell ⟨w.heap.size + 1, 2, none⟩ (.int .i64 n1) = W1 at *
    with_reducible refine (get_s s1 W1 hz1).mono ?_
    rintro e v2 ⟨n2, s2, ok2, rfl, hg2, hz2, hb2⟩
    replace hT := hT.below hb2
    clear hb2
    have hS : RSt w (v2.setCell ⟨w.heap.size + 1, 3, none⟩ (.int .i64 n2)) #[.string ⟨#[]⟩, .string ⟨#[]⟩, .int .i64 n1, .int .i64 n2, .slice none 0 0] := hT.set 3 _
    obtain ⟨-, -, -, c2, -, -, -, -, f2, -⟩ := blk10 hT.2.2
    rcases hg2 with ⟨rfl, hd⟩ | ⟨rfl, hd⟩
    rotate_left
    · have he := HD2.out.trans (show d3 n1 s1.data.toList = .error 9 by rw [d3, hd])
      clear HD2 hd
      obtain ⟨z0, z1, z2, z3, z4, y0, y1, y2, y3, y4⟩ := blk10 hS.2.1
      have HE := Lib.hid he
      clear he
      go_wp2_with fail
      have h5 := put5 (v0 := .string ⟨#[]⟩) (v1 := .string ⟨#[]⟩) (v2 := .int .i64 0) (v3 := .int .i64 0) (v4 := .slice none 0 0) hS.2.1
      obtain ⟨x0, x1, x2, x3, x4, -, -, -, -, -⟩ := blk10 h5.1
      refine bodyPost_ret (v := .tuple #[.agg #[.string ⟨#[]⟩, .string ⟨#[]⟩, .int .i64 0, .int .i64 0, .slice none 0 0], .int .i64 9]) (by simp [results, Tryd.results27, go_sem, x0, x1, x2, x3, x4]) rfl ?_
      unfold DecPost
      rw [sDec_eq, HE.out]
      exact ⟨rfl, hS.1.trans (h5.2.below (Nat.le_of_lt (blk_lt hS.2.1)))⟩
    have HD3 := Lib.hid (HD2.out.trans (show d3 n1 s1.data.toList = d4 n1 n2 s2.data.toList by rw [d3, hd]))
    clear HD2 hd
    go_wp2_with fail
    clear c2 f2 hT
    generalize v2.setCell ⟨w.heap.size + 1, 3, none⟩ (.int .i64 n2) = W2 at *
    with_reducible refine (get_s s2 W2 hz2).mono ?_
    rintro e v3 ⟨n3, s3, ok3, rfl, hg3, hz3, hb3⟩
    replace hS := hS.below hb3
    clear hb3
    rcases hg3 with ⟨rfl, hd⟩ | ⟨rfl, hd⟩
    rotate_left
    · have he := HD3.out.trans (show d4 n1 n2 s2.data.toList = .error 9 by rw [d4, dtext_no (damt_no hd)])
      clear HD3 hd
      obtain ⟨z0, z1, z2, z3, z4, y0, y1, y2, y3, y4⟩ := blk10 hS.2.1
      have HE := Lib.hid he
      clear he
      go_wp2_with fail
      have h5 := put5 (v0 := .string ⟨#[]⟩) (v1 := .string ⟨#[]⟩) (v2 := .int .i64 0) (v3 := .int .i64 0) (v4 := .slice none 0 0) hS.2.1
      obtain ⟨x0, x1, x2, x3, x4, -, -, -, -, -⟩ := blk10 h5.1
      refine bodyPost_ret (v := .tuple #[.agg #[.string ⟨#[]⟩, .string ⟨#[]⟩, .int .i64 0, .int .i64 0, .slice none 0 0], .int .i64 9]) (by simp [results, Tryd.results27, go_sem, x0, x1, x2, x3, x4]) rfl ?_
      unfold DecPost
      rw [sDec_eq, HE.out]
      exact ⟨rfl, hS.1.trans (h5.2.below (Nat.le_of_lt (blk_lt hS.2.1)))⟩
    have hlen : s3.data.toList.length = s3.size := by rw [Array.length_toList]; rfl
    by_cases hout : n3 < 0 ∨ (s3.size : Int) < n3
    · have he := HD3.out.trans (show d4 n1 n2 s2.data.toList = .error 9 by rw [d4, dtext_no (damt_out hd (by rw [hlen]; exact hout))])
      clear HD3 hd hlen
      by_cases hneg : n3 < 0
      · clear hout
        obtain ⟨z0, z1, z2, z3, z4, y0, y1, y2, y3, y4⟩ := blk10 hS.2.1
        have HE := Lib.hid he
        clear he
        go_wp2_with fail
        have h5 := put5 (v0 := .string ⟨#[]⟩) (v1 := .string ⟨#[]⟩) (v2 := .int .i64 0) (v3 := .int .i64 0) (v4 := .slice none 0 0) hS.2.1
        obtain ⟨x0, x1, x2, x3, x4, -, -, -, -, -⟩ := blk10 h5.1
        refine bodyPost_ret (v := .tuple #[.agg #[.string ⟨#[]⟩, .string ⟨#[]⟩, .int .i64 0, .int .i64 0, .slice none 0 0], .int .i64 9]) (by simp [results, Tryd.results27, go_sem, x0, x1, x2, x3, x4]) rfl ?_
        unfold DecPost
        rw [sDec_eq, HE.out]
        exact ⟨rfl, hS.1.trans (h5.2.below (Nat.le_of_lt (blk_lt hS.2.1)))⟩
      · replace hout := hout.resolve_left hneg
        obtain ⟨z0, z1, z2, z3, z4, y0, y1, y2, y3, y4⟩ := blk10 hS.2.1
        have HE := Lib.hid he
        clear he
        go_wp2_with fail
        have h5 := put5 (v0 := .string ⟨#[]⟩) (v1 := .string ⟨#[]⟩) (v2 := .int .i64 0) (v3 := .int .i64 0) (v4 := .slice none 0 0) hS.2.1
        obtain ⟨x0, x1, x2, x3, x4, -, -, -, -, -⟩ := blk10 h5.1
        refine bodyPost_ret (v := .tuple #[.agg #[.string ⟨#[]⟩, .string ⟨#[]⟩, .int .i64 0, .int .i64 0, .slice none 0 0], .int .i64 9]) (by simp [results, Tryd.results27, go_sem, x0, x1, x2, x3, x4]) rfl ?_
        unfold DecPost
        rw [sDec_eq, HE.out]
        exact ⟨rfl, hS.1.trans (h5.2.below (Nat.le_of_lt (blk_lt hS.2.1)))⟩
    obtain ⟨m, rfl⟩ : ∃ m : Nat, n3 = (m : Int) := ⟨n3.toNat, by omega⟩
    have hm : m ≤ s3.size := by omega
    have hin : s3.extract 0 m = mk (s3.data.toList.take m) := by
      rw [← mk_self (s3.extract 0 m), Lib.extract_data]
      simp
    have hre : (s3.extract m s3.size).data.toList = s3.data.toList.drop m := Lib.extract_to_end _ _
    have hez : (s3.extract m s3.size).size ≤ 1048576 := by
      have := congrArg List.length hre
      rw [Array.length_toList, List.length_drop, hlen] at this
      show (s3.extract m s3.size).data.size ≤ _
      omega
    have HD4 := Lib.hid (HD3.out.trans (show d4 n1 n2 s2.data.toList = d5 n1 n2 (s3.data.toList.take m) (s3.extract m s3.size).data.toList by rw [d4, dtext_of (damt_ok hd (by rw [hlen]; exact hm)), hre]))
    have HIN := Lib.hid hin
    clear HD3 hd hout hin hre hlen
    have hT : RSt w (v3.setCell ⟨w.heap.size + 1, 1, none⟩ (.string (s3.extract 0 m))) #[.string ⟨#[]⟩, .string (s3.extract 0 m), .int .i64 n1, .int .i64 n2, .slice none 0 0] := hS.set 1 _
    obtain ⟨-, c2, -, -, -, -, f2, -, -, -⟩ := blk10 hS.2.2
    go_wp2_with fail
    go_region
    all_goals clear c2 f2 hS
    go_wp2_with fail
    replace hT := hT.drew
    generalize (v3.setCell ⟨w.heap.size + 1, 1, none⟩ (.string (s3.extract 0 m))).drew = W3 at *
    generalize s3.extract m s3.size = s4 at *
    generalize s3.extract 0 m = inp at *
    with_reducible refine (get_s s4 W3 hez).mono ?_
    rintro e v5 ⟨n5, s5, ok5, rfl, hg5, hz5, hb5⟩
    replace hT := hT.below hb5
    clear hb5 hm
    rcases hg5 with ⟨rfl, hd⟩ | ⟨rfl, hd⟩
    rotate_left
    · have he := HD4.out.trans (show d5 n1 n2 (s3.data.toList.take m) s4.data.toList = .error 9 by rw [d5, damt_no hd])
      clear HD4 hd
      obtain ⟨z0, z1, z2, z3, z4, y0, y1, y2, y3, y4⟩ := blk10 hT.2.1
      have HE := Lib.hid he
      clear he
      go_wp2_with fail
      have h5 := put5 (v0 := .string ⟨#[]⟩) (v1 := .string ⟨#[]⟩) (v2 := .int .i64 0) (v3 := .int .i64 0) (v4 := .slice none 0 0) hT.2.1
      obtain ⟨x0, x1, x2, x3, x4, -, -, -, -, -⟩ := blk10 h5.1
      refine bodyPost_ret (v := .tuple #[.agg #[.string ⟨#[]⟩, .string ⟨#[]⟩, .int .i64 0, .int .i64 0, .slice none 0 0], .int .i64 9]) (by simp [results, Tryd.results27, go_sem, x0, x1, x2, x3, x4]) rfl ?_
      unfold DecPost
      rw [sDec_eq, HE.out]
      exact ⟨rfl, hT.1.trans (h5.2.below (Nat.le_of_lt (blk_lt hT.2.1)))⟩
    have hlen : s5.data.toList.length = s5.size := by rw [Array.length_toList]; rfl
    by_cases hout : n5 < 0 ∨ (s5.size : Int) < n5
    · have he := HD4.out.trans (show d5 n1 n2 (s3.data.toList.take m) s4.data.toList = .error 9 by rw [d5, damt_out hd (by rw [hlen]; exact hout)])
      clear HD4 hd hlen
      by_cases hneg : n5 < 0
      · clear hout
        obtain ⟨z0, z1, z2, z3, z4, y0, y1, y2, y3, y4⟩ := blk10 hT.2.1
        have HE := Lib.hid he
        clear he
        go_wp2_with fail
        have h5 := put5 (v0 := .string ⟨#[]⟩) (v1 := .string ⟨#[]⟩) (v2 := .int .i64 0) (v3 := .int .i64 0) (v4 := .slice none 0 0) hT.2.1
        obtain ⟨x0, x1, x2, x3, x4, -, -, -, -, -⟩ := blk10 h5.1
        refine bodyPost_ret (v := .tuple #[.agg #[.string ⟨#[]⟩, .string ⟨#[]⟩, .int .i64 0, .int .i64 0, .slice none 0 0], .int .i64 9]) (by simp [results, Tryd.results27, go_sem, x0, x1, x2, x3, x4]) rfl ?_
        unfold DecPost
        rw [sDec_eq, HE.out]
        exact ⟨rfl, hT.1.trans (h5.2.below (Nat.le_of_lt (blk_lt hT.2.1)))⟩
      · replace hout := hout.resolve_left hneg
        obtain ⟨z0, z1, z2, z3, z4, y0, y1, y2, y3, y4⟩ := blk10 hT.2.1
        have HE := Lib.hid he
        clear he
        go_wp2_with fail
        have h5 := put5 (v0 := .string ⟨#[]⟩) (v1 := .string ⟨#[]⟩) (v2 := .int .i64 0) (v3 := .int .i64 0) (v4 := .slice none 0 0) hT.2.1
        obtain ⟨x0, x1, x2, x3, x4, -, -, -, -, -⟩ := blk10 h5.1
        refine bodyPost_ret (v := .tuple #[.agg #[.string ⟨#[]⟩, .string ⟨#[]⟩, .int .i64 0, .int .i64 0, .slice none 0 0], .int .i64 9]) (by simp [results, Tryd.results27, go_sem, x0, x1, x2, x3, x4]) rfl ?_
        unfold DecPost
        rw [sDec_eq, HE.out]
        exact ⟨rfl, hT.1.trans (h5.2.below (Nat.le_of_lt (blk_lt hT.2.1)))⟩
    obtain ⟨n, rfl⟩ : ∃ n : Nat, n5 = (n : Int) := ⟨n5.toNat, by omega⟩
    have hn5 : n ≤ s5.size := by omega
    have HD5 := Lib.hid (HD4.out.trans (show d5 n1 n2 (s3.data.toList.take m) s4.data.toList = d6 n1 n2 (s3.data.toList.take m) n s5.data.toList by rw [d5, damt_ok hd (by rw [hlen]; exact hn5)]))
    clear HD4 hd hout hlen
    by_cases hbig : 1000 < n
    · have he := HD5.out.trans (show d6 n1 n2 (s3.data.toList.take m) n s5.data.toList = .error 12 by rw [d6, if_pos hbig])
      clear HD5
      obtain ⟨z0, z1, z2, z3, z4, y0, y1, y2, y3, y4⟩ := blk10 hT.2.1
      have HE := Lib.hid he
      clear he
      go_wp2_with fail
      have h5 := put5 (v0 := .string ⟨#[]⟩) (v1 := .string ⟨#[]⟩) (v2 := .int .i64 0) (v3 := .int .i64 0) (v4 := .slice none 0 0) hT.2.1
      obtain ⟨x0, x1, x2, x3, x4, -, -, -, -, -⟩ := blk10 h5.1
      refine bodyPost_ret (v := .tuple #[.agg #[.string ⟨#[]⟩, .string ⟨#[]⟩, .int .i64 0, .int .i64 0, .slice none 0 0], .int .i64 12]) (by simp [results, Tryd.results27, go_sem, x0, x1, x2, x3, x4]) rfl ?_
      unfold DecPost
      rw [sDec_eq, HE.out]
      exact ⟨rfl, hT.1.trans (h5.2.below (Nat.le_of_lt (blk_lt hT.2.1)))⟩
    have HD6 := Lib.hid (And.intro (HD5.out.trans (by rw [d6, if_neg hbig])) hbig)
    clear HD5
    have hn1 : n ≤ 1000 := by omega
    clear hbig
    go_wp2_with fail
    (try generalize decide ((s5.size : Int) < (n : Int)) = bq at *)
    (try generalize decide (s5.size < n) = bq2 at *)
    (try generalize decide ((n : Int) ≤ (s5.size : Int)) = bq3 at *)
    (try generalize decide (1000 < (n : Int)) = bq4 at *)
    (try generalize decide ((n : Int) ≤ 1000) = bq5 at *)
    go_loopw [0, 7] (fun v0 v7 wr => ∃ (k : Nat) (fs : List (Int × Int × Int)) (r : ByteArray) (A : Option Addr) (c : Nat), k ≤ n ∧ v7 = .int .i64 k ∧ v0 = .string r ∧ r.size ≤ 1048576 ∧ Hid (dcolls k s5.data.toList = some (fs, r.data.toList)) ∧ RSt w wr #[.string ⟨#[]⟩, .string inp, .int .i64 n1, .int .i64 n2, .slice A k c] ∧ wr.ownsRow w.heap.size 65 3 (.slice A k c) k (colls fs)) (fun _ v7 _ => n - (intOf v7).toNat)
    case atStart => exact ⟨0, [], s5, none, 0, Nat.zero_le _, rfl, rfl, hz5, Lib.hid rfl, hT, own_nil' _ _ _ _⟩
    case round =>
      clear hT hz5 hn5
      obtain ⟨k, fs, r, A, c, hk, rfl, rfl, hr, HK, hS, ho⟩ := hrel
      by_cases hkn : k < n
      · go_wp2_with fail
        have hN : w.heap.size + 2 ≤ wr.heap.size := blk_lt hS.2.2
        have hc := blk_new (w := wr) (n := wr.heap.size) (.cells #[.int .i64 0, .int .i64 0, .int .i64 0] 65) rfl
        have hoa := ho.alloc (.cells #[.int .i64 0, .int .i64 0, .int .i64 0] 65)
        have hne := own_not ho (Nat.le_refl _)
        replace hS := hS.alloc (.cells #[.int .i64 0, .int .i64 0, .int .i64 0] 65)
        clear ho
        generalize hNN : wr.heap.size = N3 at *
        generalize wr.alloc (.cells #[.int .i64 0, .int .i64 0, .int .i64 0] 65) = X0 at *
        with_reducible refine (get_s r X0 hr).mono ?_
        rintro e v6 ⟨n6, s6, ok6, rfl, hg6, hz6, hb6⟩
        replace hS := hS.below hb6
        replace hc := blk_belowS hb6 hc
        replace hoa := own_below' hoa hb6
        clear hb6
        have q := (blk_cell (j := 0) hc).trans rfl
        have g := blk_free (j := 0) hc
        have hS2 := hS.far hN hc 0 (.int .i64 n6)
        have hc2 : (v6.setCell ⟨N3, 0, none⟩ (.int .i64 n6)).heap[N3]? = some (.cells #[.int .i64 n6, .int .i64 0, .int .i64 0] 65 (0, 0)) := blk_set hc _
        have ho2 := own_set (p := ⟨N3, 0, none⟩) hoa hne (.int .i64 n6)
        clear hS hc hoa
        go_wp2_with fail
        clear q g
        generalize v6.setCell ⟨N3, 0, none⟩ (.int .i64 n6) = X1 at *
        have hS := hS2
        have hc := hc2
        have hoa := ho2
        clear hS2 hc2 ho2
        with_reducible refine (get_s s6 X1 hz6).mono ?_
        rintro e v7 ⟨n7, s7, ok7, rfl, hg7, hz7, hb7⟩
        replace hS := hS.below hb7
        replace hc := blk_belowS hb7 hc
        replace hoa := own_below' hoa hb7
        clear hb7
        have q := (blk_cell (j := 1) hc).trans rfl
        have g := blk_free (j := 1) hc
        have hS2 := hS.far hN hc 1 (.int .i64 n7)
        have hc2 : (v7.setCell ⟨N3, 1, none⟩ (.int .i64 n7)).heap[N3]? = some (.cells #[.int .i64 n6, .int .i64 n7, .int .i64 0] 65 (0, 0)) := blk_set hc _
        have ho2 := own_set (p := ⟨N3, 1, none⟩) hoa hne (.int .i64 n7)
        clear hS hc hoa
        go_wp2_with fail
        clear q g
        generalize v7.setCell ⟨N3, 1, none⟩ (.int .i64 n7) = X2 at *
        have hS := hS2
        have hc := hc2
        have hoa := ho2
        clear hS2 hc2 ho2
        with_reducible refine (get_s s7 X2 hz7).mono ?_
        rintro e v8 ⟨n8, s8, ok8, rfl, hg8, hz8, hb8⟩
        replace hS := hS.below hb8
        replace hc := blk_belowS hb8 hc
        replace hoa := own_below' hoa hb8
        clear hb8
        have q := (blk_cell (j := 2) hc).trans rfl
        have g := blk_free (j := 2) hc
        have hS2 := hS.far hN hc 2 (.int .i64 n8)
        have hc2 : (v8.setCell ⟨N3, 2, none⟩ (.int .i64 n8)).heap[N3]? = some (.cells #[.int .i64 n6, .int .i64 n7, .int .i64 n8] 65 (0, 0)) := blk_set hc _
        have ho2 := own_set (p := ⟨N3, 2, none⟩) hoa hne (.int .i64 n8)
        clear hS hc hoa
        by_cases hall : ok6 = true ∧ ok7 = true ∧ ok8 = true
        · obtain ⟨rfl, rfl, rfl⟩ := hall
          have d1 : dnum r.data.toList = some (n6, s6.data.toList) := hg6.elim (fun h => h.2) (fun h => by cases h.1)
          have d2 : dnum s6.data.toList = some (n7, s7.data.toList) := hg7.elim (fun h => h.2) (fun h => by cases h.1)
          have d3 : dnum s7.data.toList = some (n8, s8.data.toList) := hg8.elim (fun h => h.2) (fun h => by cases h.1)
          have HK2 := Lib.hid (dcolls_snoc k _ _ _ _ _ fs _ _ _ HK.out d1 d2 d3)
          clear d1 d2 d3 hg6 hg7 hg8
          have p0 := (blk_cell (j := 0) hc2).trans rfl
          have p1 := (blk_cell (j := 1) hc2).trans rfl
          have p2 := (blk_cell (j := 2) hc2).trans rfl
          have p4 := (blk_cell (j := 4) hS2.2.2).trans rfl
          have hk1 : k + 1 ≤ 1048576 := by omega
          go_upto_region 31 with (fail)
          clear q g
          generalize v8.setCell ⟨N3, 2, none⟩ (.int .i64 n8) = X3 at *
          go_wp2_with (at_builtin; go_must (refine app1 (base := w.heap.size) ho2 Tryd.underlying22 infoColl rfl (by decide) (by unfold maxLen; omega) (by omega) hS2.1.size rfl rfl rfl rfl [_, _, _] rfl (by simp [Value.oneCell']) ?_); intro A5 c5 w5 ho5 hg5; have hE := Lib.hid (finR _ hS2 ho2 ho5 hg5); have hJ5 := finJ hS2.2.2 ho2 hg5; obtain ⟨hc5, hf5⟩ := hJ5)
          go_roundw
          case rel => exact ⟨k + 1, fs ++ [(n6, n7, n8)], s8, A5, c5, by omega, by go_num, rfl, hz8, HK2, hE.out.1, by rw [colls_snoc]; exact hE.out.2⟩
          case measure => simp [intOf]; omega
        · have hstop : dnum r.data.toList = none ∨ (∃ x r1, dnum r.data.toList = some (x, r1) ∧ (dnum r1 = none ∨ ∃ y r2, dnum r1 = some (y, r2) ∧ dnum r2 = none)) := by
            rcases hg6 with ⟨rfl, h6⟩ | ⟨_, h6⟩
            · refine .inr ⟨_, _, h6, ?_⟩
              rcases hg7 with ⟨rfl, h7⟩ | ⟨_, h7⟩
              · refine .inr ⟨_, _, h7, ?_⟩
                rcases hg8 with ⟨rfl, h8⟩ | ⟨_, h8⟩
                · exact absurd ⟨rfl, rfl, rfl⟩ hall
                · exact h8
              · exact .inl h7
            · exact .inl h6
          have hcn : dcolls n s5.data.toList = none := by
            have := dcolls_stop k (n - k - 1) _ _ fs HK.out hstop
            rwa [show k + (n - k - 1 + 1) = n by omega] at this
          have he := HD6.out.1
          rw [hcn] at he
          replace he : dec s.data.toList = .error 9 := he
          clear HD6 hcn hstop HK hg6 hg7 hg8
          cases ok6 with
          | false =>
            clear hall
            obtain ⟨z0, z1, z2, z3, z4, y0, y1, y2, y3, y4⟩ := blk10 hS2.2.1
            have HE := Lib.hid he
            clear he
            go_wp2_with fail
            have h5 := put5 (v0 := .string ⟨#[]⟩) (v1 := .string ⟨#[]⟩) (v2 := .int .i64 0) (v3 := .int .i64 0) (v4 := .slice none 0 0) hS2.2.1
            obtain ⟨x0, x1, x2, x3, x4, -, -, -, -, -⟩ := blk10 h5.1
            refine bodyPost_ret (v := .tuple #[.agg #[.string ⟨#[]⟩, .string ⟨#[]⟩, .int .i64 0, .int .i64 0, .slice none 0 0], .int .i64 9]) (by simp [results, Tryd.results27, go_sem, x0, x1, x2, x3, x4]) rfl ?_
            unfold DecPost
            rw [sDec_eq, HE.out]
            exact ⟨rfl, hS2.1.trans (h5.2.below (Nat.le_of_lt (blk_lt hS2.2.1)))⟩
          | true =>
            cases ok7 with
            | false =>
              clear hall
              obtain ⟨z0, z1, z2, z3, z4, y0, y1, y2, y3, y4⟩ := blk10 hS2.2.1
              have HE := Lib.hid he
              clear he
              go_wp2_with fail
              have h5 := put5 (v0 := .string ⟨#[]⟩) (v1 := .string ⟨#[]⟩) (v2 := .int .i64 0) (v3 := .int .i64 0) (v4 := .slice none 0 0) hS2.2.1
              obtain ⟨x0, x1, x2, x3, x4, -, -, -, -, -⟩ := blk10 h5.1
              refine bodyPost_ret (v := .tuple #[.agg #[.string ⟨#[]⟩, .string ⟨#[]⟩, .int .i64 0, .int .i64 0, .slice none 0 0], .int .i64 9]) (by simp [results, Tryd.results27, go_sem, x0, x1, x2, x3, x4]) rfl ?_
              unfold DecPost
              rw [sDec_eq, HE.out]
              exact ⟨rfl, hS2.1.trans (h5.2.below (Nat.le_of_lt (blk_lt hS2.2.1)))⟩
            | true =>
              cases ok8 with
              | false =>
                clear hall
                obtain ⟨z0, z1, z2, z3, z4, y0, y1, y2, y3, y4⟩ := blk10 hS2.2.1
                have HE := Lib.hid he
                clear he
                go_wp2_with fail
                have h5 := put5 (v0 := .string ⟨#[]⟩) (v1 := .string ⟨#[]⟩) (v2 := .int .i64 0) (v3 := .int .i64 0) (v4 := .slice none 0 0) hS2.2.1
                obtain ⟨x0, x1, x2, x3, x4, -, -, -, -, -⟩ := blk10 h5.1
                refine bodyPost_ret (v := .tuple #[.agg #[.string ⟨#[]⟩, .string ⟨#[]⟩, .int .i64 0, .int .i64 0, .slice none 0 0], .int .i64 9]) (by simp [results, Tryd.results27, go_sem, x0, x1, x2, x3, x4]) rfl ?_
                unfold DecPost
                rw [sDec_eq, HE.out]
                exact ⟨rfl, hS2.1.trans (h5.2.below (Nat.le_of_lt (blk_lt hS2.2.1)))⟩
              | true => exact absurd ⟨rfl, rfl, rfl⟩ hall
      · have hke : k = n := by omega
        subst hke
        have hd6 := HD6.out.1
        rw [HK.out] at hd6
        have HD7 := Lib.hid hd6
        have HB := Lib.hid HD6.out.2
        clear HD6 hd6 hkn
        have HFL := Lib.hid (dcolls_back k _ _ fs HK.out).1
        clear HK
        go_wp2_with fail
        with_reducible refine (get_s r wr hr).mono ?_
        rintro e v6 ⟨n6, s6, ok6, rfl, hg6, hz6, hb6⟩
        replace hS := hS.below hb6
        replace ho := own_below' ho hb6
        clear hb6
        rcases hg6 with ⟨rfl, hd⟩ | ⟨rfl, hd⟩
        rotate_left
        · have he : dec s.data.toList = .error 9 := by
            have := HD7.out
            rw [dtext_no (damt_no hd)] at this
            exact this
          clear HD7 hd
          obtain ⟨z0, z1, z2, z3, z4, y0, y1, y2, y3, y4⟩ := blk10 hS.2.1
          have HE := Lib.hid he
          clear he
          go_wp2_with fail
          have h5 := put5 (v0 := .string ⟨#[]⟩) (v1 := .string ⟨#[]⟩) (v2 := .int .i64 0) (v3 := .int .i64 0) (v4 := .slice none 0 0) hS.2.1
          obtain ⟨x0, x1, x2, x3, x4, -, -, -, -, -⟩ := blk10 h5.1
          refine bodyPost_ret (v := .tuple #[.agg #[.string ⟨#[]⟩, .string ⟨#[]⟩, .int .i64 0, .int .i64 0, .slice none 0 0], .int .i64 9]) (by simp [results, Tryd.results27, go_sem, x0, x1, x2, x3, x4]) rfl ?_
          unfold DecPost
          rw [sDec_eq, HE.out]
          exact ⟨rfl, hS.1.trans (h5.2.below (Nat.le_of_lt (blk_lt hS.2.1)))⟩
        have hlen : s6.data.toList.length = s6.size := by rw [Array.length_toList]; rfl
        by_cases hout : n6 = (s6.size : Int)
        rotate_left
        · have he : dec s.data.toList = .error 9 := by
            have := HD7.out
            by_cases h2 : n6 < 0 ∨ (s6.size : Int) < n6
            · rw [dtext_no (damt_out hd (by rw [hlen]; exact h2))] at this
              exact this
            · obtain ⟨q, rfl⟩ : ∃ q : Nat, n6 = (q : Int) := ⟨n6.toNat, by omega⟩
              rw [dtext_of (damt_ok hd (by rw [hlen]; omega))] at this
              dsimp only at this
              rw [if_neg (fun e => by have := congrArg List.length e; rw [List.length_drop, hlen] at this; simp only [List.length_nil] at this; omega)] at this
              exact this
          clear HD7 hd hlen
          obtain ⟨z0, z1, z2, z3, z4, y0, y1, y2, y3, y4⟩ := blk10 hS.2.1
          have HE := Lib.hid he
          clear he
          go_wp2_with fail
          have h5 := put5 (v0 := .string ⟨#[]⟩) (v1 := .string ⟨#[]⟩) (v2 := .int .i64 0) (v3 := .int .i64 0) (v4 := .slice none 0 0) hS.2.1
          obtain ⟨x0, x1, x2, x3, x4, -, -, -, -, -⟩ := blk10 h5.1
          refine bodyPost_ret (v := .tuple #[.agg #[.string ⟨#[]⟩, .string ⟨#[]⟩, .int .i64 0, .int .i64 0, .slice none 0 0], .int .i64 9]) (by simp [results, Tryd.results27, go_sem, x0, x1, x2, x3, x4]) rfl ?_
          unfold DecPost
          rw [sDec_eq, HE.out]
          exact ⟨rfl, hS.1.trans (h5.2.below (Nat.le_of_lt (blk_lt hS.2.1)))⟩
        subst hout
        have he : dec s.data.toList = .ok ⟨s6, inp, n1, n2, fs⟩ := by
            have := HD7.out
            rw [dtext_of (damt_ok hd (by rw [hlen]; exact Nat.le_refl _))] at this
            dsimp only at this
            rw [if_pos (List.drop_eq_nil_of_le (by rw [hlen]; exact Nat.le_refl _)), List.take_of_length_le (by rw [hlen]; exact Nat.le_refl _), mk_self, ← HIN.out] at this
            exact this
        have HE := Lib.hid he
        clear he HD7 hd hlen
        obtain ⟨c0, c1, c2, c3, c4, f0, -, -, -, -⟩ := blk10 hS.2.2
        have hT : RSt w (v6.setCell ⟨w.heap.size + 1, 0, none⟩ (.string s6)) #[.string s6, .string inp, .int .i64 n1, .int .i64 n2, .slice A k c] := hS.set 0 _
        have hoT := own_set (p := ⟨w.heap.size + 1, 0, none⟩) ho (own_far ho hS.2.2 (by decide)) (.string s6)
        obtain ⟨z0, z1, z2, z3, z4, y0, y1, y2, y3, y4⟩ := blk10 hS.2.1
        have h6 := put5 (v0 := .string s6) (v1 := .string inp) (v2 := .int .i64 n1) (v3 := .int .i64 n2) (v4 := .slice A k c) hT.2.1
        have hb1 : w.heap.size + 1 ≠ w.heap.size := by omega
        go_wp2_with fail
        refine bodyPost_ret (results_rdec rfl rfl h6.1) rfl ?_
        unfold DecPost
        rw [sDec_eq, HE.out]
        refine ⟨⟨A, c, ?_, ?_⟩, hT.1.trans (h6.2.below (Nat.le_of_lt (blk_lt hT.2.1)))⟩
        · dsimp only
          rw [HFL.out]
          rfl
        · dsimp only
          rw [HFL.out]
          exact own_fr hoT h6.2 (by decide)
end Go.Proofs.YthhchicggidhcaaDoor

namespace Go.Proofs.YthhchicggidhcaaDoor
open Go.RowKit Go.Proofs.YthhchicggidhcaaDoorW.PrintWords

def s65 (c : Int × Int × Int) : PSame.S65 := ⟨c.1, c.2.1, c.2.2⟩
theorem colls_C {w : World} {T : Nat} {A : Option Addr} {fs : List (Int × Int × Int)} (h : Reads w T A (colls fs)) (hl : fs.length ≤ 9223372036854775807) : Kd.C PSame.k65 w A (fs.map s65).length (fs.map s65) := by
  refine ⟨rfl, by rw [List.length_map]; exact hl, fun hn => ?_⟩
  rw [List.length_map] at hn
  obtain ⟨b, o, c, f, rfl, hb, hc⟩ := h (by rw [colls_length]; omega)
  refine ⟨_, rfl, fun j p hp => ⟨[.int .i64 p.f0, .int .i64 p.f1, .int .i64 p.f2], rfl, PSame.k65_mk w p, fun i u hu => ?_⟩⟩
  rw [List.getElem?_map] at hp
  have hj : j < fs.length := by
    refine Nat.lt_of_not_le fun hge => ?_
    rw [List.getElem?_eq_none hge] at hp; cases hp
  rw [List.getElem?_eq_getElem hj] at hp
  obtain rfl : s65 fs[j] = p := by simpa using hp
  obtain ⟨q0, q1, q2⟩ := colls_get fs j hj
  have e3 : (PSame.k65).sz = 3 := rfl
  have hi : i = 0 ∨ i = 1 ∨ i = 2 := by
    have := (List.getElem?_eq_some_iff.1 hu).1
    simp only [List.length_cons, List.length_nil] at this
    omega
  rw [add_plain', blk_cell hb, e3]
  rcases hi with rfl | rfl | rfl
  · rw [show o + (j * 3 + 0) = o + 3 * j by omega, hc _ (by rw [colls_length]; omega), q0]; exact hu
  · rw [show o + (j * 3 + 1) = o + (3 * j + 1) by omega, hc _ (by rw [colls_length]; omega), q1]; exact hu
  · rw [show o + (j * 3 + 2) = o + (3 * j + 2) by omega, hc _ (by rw [colls_length]; omega), q2]; exact hu
theorem same_l0 (a b : ByteArray) (x y : Int) (xs : List PSame.S65) (hx : xs.length ≤ 1048576) : ∀ (d k i : Nat), xs.length - i = d → i ≤ xs.length → d < k →
    PSame.moraineref27_Same.l0 k (i : Int) a b x y xs a b x y xs = some true := by
  intro d
  induction d with
  | zero =>
    intro k i hd hi hk
    obtain ⟨k, rfl⟩ : ∃ m, k = m + 1 := ⟨k - 1, by omega⟩
    simp only [PSame.moraineref27_Same.l0]
    rw [if_neg (by omega)]
  | succ d ih =>
    intro k i hd hi hk
    obtain ⟨k, rfl⟩ : ∃ m, k = m + 1 := ⟨k - 1, by omega⟩
    simp only [PSame.moraineref27_Same.l0]
    rw [if_pos (by omega), if_pos (by omega), if_pos (by omega)]
    simp only [beq_self_eq_true, Bool.not_true, Bool.or_self]
    rw [if_neg (by decide)]
    have e : wrap64 ((i : Int) + 1) = ((i + 1 : Nat) : Int) := by unfold wrap64; omega
    rw [e]
    exact ih k (i + 1) (by omega) (by omega) (by omega)
theorem same_f (a b : ByteArray) (x y : Int) (xs : List PSame.S65) (hx : xs.length ≤ 1048576) : PSame.moraineref27_Same.f (xs.length + 2) a b x y xs a b x y xs = some true := by
  unfold PSame.moraineref27_Same.f
  rw [if_pos rfl, if_pos rfl, if_pos rfl, if_pos rfl]
  simp only [bne_self_eq_false, PSame.moraineref27_Same.j0]
  rw [if_neg (by decide)]
  exact same_l0 a b x y xs hx xs.length (xs.length + 1) 0 (by omega) (by omega) (by omega)
theorem same_any (src inp : ByteArray) (lim fuel : Int) (fs : List (Int × Int × Int)) (A B : Option Addr) (c d : Nat) (w : World) {T U : Nat} (hA : Reads w T A (colls fs)) (hB : Reads w U B (colls fs)) (hl : fs.length ≤ 1048576) (hc : fs.length ≤ c) (hd : fs.length ≤ d) :
    Calls Tryd.prog 28 #[.agg #[.string src, .string inp, .int .i64 lim, .int .i64 fuel, .slice A fs.length c], .agg #[.string src, .string inp, .int .i64 lim, .int .i64 fuel, .slice B fs.length d]] w fun e w' => e = .returned (.bool true) ∧ Below w.heap.size w w' := by
  have h := PSame.moraineref27_Same.calls ((fs.map s65).length + 2) src inp lim fuel A c (fs.map s65) src inp lim fuel B d (fs.map s65) true w (colls_C hA (by omega)) (by rw [List.length_map]; exact hc) (colls_C hB (by omega)) (by rw [List.length_map]; exact hd) (same_f _ _ _ _ _ (by rw [List.length_map]; exact hl))
  rw [List.length_map] at h
  exact h
end Go.Proofs.YthhchicggidhcaaDoor

namespace Go.Proofs.YthhchicggidhcaaDoor
open Go.RowKit

/-- What both Decodes hand back: the same job, or the zero one, and the same code. -/
def dJob (l : List UInt8) : JS := match dec l with
  | .ok j => j
  | .error _ => js0
def dCode (l : List UInt8) : Int := match dec l with
  | .ok _ => 0
  | .error x => x
theorem decPost_two {l : List UInt8} {w w' : World} {e : Ending} (h : DecPost l w e w') : ∃ A c, e = .returned (.tuple #[.agg #[.string (dJob l).src, .string (dJob l).inp, .int .i64 (dJob l).lim, .int .i64 (dJob l).fuel, .slice A (dJob l).forced.length c], .int .i64 (dCode l)]) ∧
    Reads w' 65 A (colls (dJob l).forced) ∧ (dJob l).forced.length ≤ c ∧ Below w.heap.size w w' := by
  obtain ⟨he, hb⟩ := h
  rw [sDec_eq] at he
  unfold dJob dCode
  cases hd : dec l with
  | ok j =>
    rw [hd] at he
    obtain ⟨A, c, rfl, ho⟩ := he
    obtain ⟨A', c', he, hc⟩ := own_lt' ho
    cases he
    exact ⟨A, c, rfl, own_reads ho, hc, hb⟩
  | error x =>
    rw [hd] at he
    exact ⟨none, 0, he, Reads.nil _ _ _, Nat.zero_le _, hb⟩
theorem dJob_len (l : List UInt8) : (dJob l).forced.length ≤ 1000 := by
  unfold dJob
  cases hd : dec l with
  | ok j =>
    obtain ⟨_, _, _, _, _, _, _, h6, _⟩ := dec_back hd
    exact h6
  | error x => exact Nat.zero_le _

set_option maxRecDepth 100000 in
set_option maxHeartbeats 4000000 in
theorem ScriptDecodes_any (s : ByteArray) (w : World) (hL : Lw w) (hs : s.size ≤ 9223372036854775807) :
    Calls Tryd.prog 9 #[.string s] w fun e w' => e = .returned (.bool true) ∧ Below w.heap.size w w' := by
  go_enter Tryd.func9, Tryd.ntmps9
  by_cases h1 : 70000 < s.size
  · go_wp2_with fail
    with_reducible refine (awake_any _ hL).mono ?_
    rintro e w9 ⟨rfl, hb9⟩
    go_wp2_with fail
    go_ret
    exact ⟨rfl, hb9⟩
  · go_wp2_with fail
    with_reducible refine (Decode_any s w (by omega)).mono ?_
    intro e w1 hp
    obtain ⟨A, c, rfl, hR, hc, hB⟩ := decPost_two hp
    clear hp
    have HL := Lib.hid (dJob_len s.data.toList)
    have HP : Hid (∀ {w2 w3 : World} {e : Ending}, DecPost s.data.toList w2 e w3 → ∃ A c, e = .returned (.tuple #[.agg #[.string (dJob s.data.toList).src, .string (dJob s.data.toList).inp, .int .i64 (dJob s.data.toList).lim, .int .i64 (dJob s.data.toList).fuel, .slice A (dJob s.data.toList).forced.length c], .int .i64 (dCode s.data.toList)]) ∧
      Reads w3 65 A (colls (dJob s.data.toList).forced) ∧ (dJob s.data.toList).forced.length ≤ c ∧ Below w2.heap.size w2 w3) := Lib.hid fun h => decPost_two h
    have hR2 : ∃ l, l = s.data.toList := ⟨_, rfl⟩
    obtain ⟨l, hl⟩ := hR2
    rw [← hl] at HL HP hR hc ⊢
    generalize dCode l = x at *
    generalize dJob l = j at *
    obtain ⟨src, inp, lim, fuel, fs⟩ := j
    dsimp only at HL HP hR hc ⊢
    rw [hl] at HP
    clear hl
    have hj := blk_new (w := w1) (n := w1.heap.size) (.cells #[.string src, .string inp, .int .i64 lim, .int .i64 fuel, .slice A fs.length c] 24) rfl
    have hRk := hR.below ((Below.refl _ _).alloc (Nat.le_refl _) (.cells #[.string src, .string inp, .int .i64 lim, .int .i64 fuel, .slice A fs.length c] 24))
    have hB2 := hB.alloc hB.size (.cells #[.string src, .string inp, .int .i64 lim, .int .i64 fuel, .slice A fs.length c] 24)
    have HC := Lib.hid hc
    clear hB hR hc
    go_wp2_with fail
    generalize w1.alloc (.cells #[.string src, .string inp, .int .i64 lim, .int .i64 fuel, .slice A fs.length c] 24) = w2 at *
    with_reducible refine (rdecode_any s w2 (by omega)).mono ?_
    intro e w3 hp
    obtain ⟨A3, c3, rfl, hR3, hc3, hb3⟩ := HP.out hp
    clear hp HP
    replace hj := blk_belowS hb3 hj
    replace hRk := hRk.below hb3
    have hB3 := hB2.trans (hb3.mono hB2.size)
    clear hb3 hB2
    obtain ⟨d0, d1, d2, d3, d4⟩ := keep5 hj
    have hRl := hR3.below ((Below.refl _ _).alloc (Nat.le_refl _) (.cells #[.string src, .string inp, .int .i64 lim, .int .i64 fuel, .slice A3 fs.length c3] 24))
    have hRj := hRk.below ((Below.refl _ _).alloc (Nat.le_refl _) (.cells #[.string src, .string inp, .int .i64 lim, .int .i64 fuel, .slice A3 fs.length c3] 24))
    have hlt := blk_lt hj
    have HC3 := Lib.hid hc3
    clear hc3 hR3 hRk
    go_wp2_with fail
    with_reducible refine (same_any src inp lim fuel fs A A3 c c3 _ hRj hRl (by have := HL.out; omega) HC.out HC3.out).mono ?_
    rintro e w6 ⟨rfl, hb6⟩
    have hB6 := belA' hB3 hB3.size hb6
    clear hb6 hRl hRj d0 d1 d2 d3 d4
    go_wp2_with fail
    with_reducible refine (awake_any _ (hL.below hB6)).mono ?_
    rintro e w9 ⟨rfl, hb9⟩
    have hB9 := hB6.trans (hb9.mono hB6.size)
    clear hb9
    go_wp2_with fail
    go_ret
    exact ⟨rfl, hB9⟩
end Go.Proofs.YthhchicggidhcaaDoor
