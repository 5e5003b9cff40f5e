/- The document's Bytes and Number (printed), and what they come to. -/
import Derived.Test.YthhchicggidhcaaDoorPBytesx1
import Derived.Test.YthhchicggidhcaaDoorPNumberx1
import Derived.Test.YthhchicggidhcaaDoorMoHex
import Derived.Test.YthhchicggidhcaaDoorMoLine
namespace Go.Proofs.YthhchicggidhcaaDoor
open Go.RowKit Go.Proofs.YthhchicggidhcaaDoorW.PrintWords

theorem w64 {i : Int} (h1 : -9223372036854775808 ≤ i) (h2 : i ≤ 9223372036854775807) : wrap64 i = i := by unfold wrap64; omega
theorem bt_nat (s : ByteArray) (i : Nat) (h : i < s.size) : bt s (i : Int) = (s[i].toNat : Int) := by
  unfold bt
  rw [dif_pos (by simpa using h)]
  rfl

theorem digit_f : ∀ n : Fin 16, PBytes.moraineref27_digit.f (n.1 : Int) = some ⟨#[UInt8.ofNat (hexI n.1).toNat]⟩ := by decide +kernel
theorem hexI_byte : ∀ n : Fin 16, Go.Proofs.YthhchicggidhcaaDoorW.PrintWords.bytesOf (⟨#[UInt8.ofNat (hexI n.1).toNat]⟩ : ByteArray) = [hexI n.1] := by decide +kernel

theorem digit_at (n : Nat) (h : n < 16) : PBytes.moraineref27_digit.f (n : Int) = some ⟨#[UInt8.ofNat (hexI n).toNat]⟩ := digit_f ⟨n, h⟩
theorem hexI_at' (n : Nat) (h : n < 16) : Go.Proofs.YthhchicggidhcaaDoorW.PrintWords.bytesOf (⟨#[UInt8.ofNat (hexI n).toNat]⟩ : ByteArray) = [hexI n] := hexI_byte ⟨n, h⟩

theorem rbytes_l0 (s : ByteArray) (hs : s.size ≤ 1048576) : ∀ (d k i : Nat), s.size - i = d → i ≤ s.size → d < k →
    PBytes.moraineref27_Bytes.l0 k s (hexes (s.data.toList.take i)) (i : Int) = some (strOfNums (hexes s.data.toList)) := by
  intro d
  induction d with
  | zero =>
    intro k i hd hi hk
    obtain ⟨k, rfl⟩ : ∃ m, k = m + 1 := ⟨k - 1, by omega⟩
    simp only [PBytes.moraineref27_Bytes.l0]
    rw [if_neg (by omega), List.take_of_length_le (by rw [Array.length_toList]; show s.size ≤ i; omega)]
  | succ d ih =>
    intro k i hd hi hk
    obtain ⟨k, rfl⟩ : ∃ m, k = m + 1 := ⟨k - 1, by omega⟩
    have hlt : i < s.size := by omega
    have h8 := s[i].toNat_lt
    have e1 : Int.tdiv (bt s (i : Int)) 16 % 256 = ((s[i].toNat / 16 : Nat) : Int) := by
      rw [bt_nat s i hlt, Int.tdiv_eq_ediv_of_nonneg (by omega)]; omega
    have e2 : Int.tmod (bt s (i : Int)) 16 = ((s[i].toNat % 16 : Nat) : Int) := by
      rw [bt_nat s i hlt, Int.tmod_eq_emod_of_nonneg (by omega)]; omega
    have hl := hexes_len (s.data.toList.take i)
    rw [List.length_take] at hl
    simp only [PBytes.moraineref27_Bytes.l0]
    rw [if_pos (by omega), if_pos (by omega), e1, e2, digit_at _ (by omega), digit_at _ (by omega)]
    simp only [Option.bind_some]
    rw [if_pos (by show _ + 1 < _; omega)]
    rw [hexI_at' _ (by omega), hexI_at' _ (by omega), if_pos (by rw [List.length_append]; show _ + 1 + 1 < _; omega), w64 (by omega) (by omega)]
    have := ih k (i + 1) (by omega) (by omega) (by omega)
    rw [hexes_take s i hlt] at this
    rw [← this]
    simp
theorem rbytes_any (s : ByteArray) (w : World) (hs : s.size ≤ 1048576) :
    Calls Tryd.prog 35 #[.string s] w fun e w' => e = .returned (.string (strOfNums (hexes s.data.toList))) ∧ Below w.heap.size w w' :=
  PBytes.moraineref27_Bytes.calls (s.size + 1) s _ w (rbytes_l0 s hs s.size (s.size + 1) 0 (by omega) (by omega) (by omega))

/-! ### Number -/
theorem tdm (m : Int) : Int.tdiv m 10 = (if m < 0 then -(-m / 10) else m / 10) ∧ Int.tmod m 10 = (if m < 0 then -(-m % 10) else m % 10) := by
  by_cases h : m < 0
  · obtain ⟨n, hn⟩ : ∃ n : Int, m = -n ∧ 0 ≤ n := ⟨-m, by omega, by omega⟩
    obtain ⟨rfl, hn⟩ := hn
    rw [if_pos h, if_pos h, Int.neg_tdiv, Int.neg_tmod, Int.tdiv_eq_ediv_of_nonneg hn, Int.tmod_eq_emod_of_nonneg hn, Int.neg_neg]
    exact ⟨rfl, rfl⟩
  · rw [if_neg h, if_neg h, Int.tdiv_eq_ediv_of_nonneg (by omega), Int.tmod_eq_emod_of_nonneg (by omega)]
    exact ⟨rfl, rfl⟩
theorem strOf_map2 (l : List UInt8) : strOfNums (l.map fun b => (b.toNat : Int)) = ⟨l.toArray⟩ := by simp [strOfNums, Function.comp_def]
def decL (u : Nat) : List UInt8 := if u = 0 then [] else Lib.decDigits u
theorem dec_last (u : Nat) : Lib.decDigits u = decL (u / 10) ++ [UInt8.ofNat (48 + u % 10)] := by
  unfold decL
  rw [Lib.decDigits]
  split
  · rename_i h
    rw [if_pos (by omega), Nat.mod_eq_of_lt h]; rfl
  · rename_i h
    rw [if_neg (by omega)]
theorem decL_len (u : Nat) : (decL u).length ≤ Lib.nDigits u := by
  unfold decL
  split
  · simp
  · rw [Lib.decDigits_length]; exact Nat.le_refl _
def numEnd (n : Int) (l : List UInt8) : ByteArray := if n < 0 then ⟨#[45]⟩ ++ mk' l else mk' l
where mk' (l : List UInt8) : ByteArray := ⟨l.toArray⟩

theorem rnumber_l0 (n : Int) : ∀ (u k : Nat) (m : Int) (l : List UInt8), m.natAbs = u → u ≤ 9223372036854775808 → (m ≠ 0 → (m < 0 ↔ n < 0)) → l.length + u < 140737488355328 + 9223372036854775808 - 9223372036854775808 ∨ l.length + (decL u).length ≤ 100 → u < k →
    PNumber.moraineref27_Number.l0 k n (l.map fun b => (b.toNat : Int)) m = some (numEnd n (decL u ++ l)) := by
  intro u
  induction u using Nat.strongRecOn with
  | _ u ih =>
    intro k m l hm hu hs hl hk
    obtain ⟨k, rfl⟩ : ∃ m, k = m + 1 := ⟨k - 1, by omega⟩
    simp only [PNumber.moraineref27_Number.l0]
    obtain ⟨td, tm⟩ := tdm m
    by_cases hz : m = 0
    · subst hz
      obtain rfl : u = 0 := by omega
      have hl' : l.length < 140737488355328 := by omega
      rw [if_pos rfl, strOf_map2]
      unfold numEnd numEnd.mk' decL
      by_cases hn : n < 0
      · rw [if_pos hn, if_pos hn, if_pos (by simp [ByteArray.size]; omega), if_pos rfl, List.nil_append]
      · rw [if_neg hn, if_neg hn, if_pos rfl, List.nil_append]
    · have hu0 : u ≠ 0 := by omega
      have hd : decL u = decL (u / 10) ++ [UInt8.ofNat (48 + u % 10)] := by
        rw [← dec_last]; unfold decL; rw [if_neg hu0]
      have hl' : l.length + 1 < 140737488355328 := by
        rcases hl with hl | hl
        · omega
        · rw [hd] at hl; simp only [List.length_append, List.length_cons] at hl; omega
      have e48 : ((UInt8.ofNat (48 + u % 10)).toNat : Int) = 48 + (u % 10 : Nat) := by rw [UInt8.toNat_ofNat']; omega
      rw [if_neg hz]
      have step : ∀ k' : Nat, u ≤ k' → PNumber.moraineref27_Number.l0 k' n ((UInt8.ofNat (48 + u % 10) :: l).map fun b => (b.toNat : Int)) (wrap64 (Int.tdiv m 10)) = some (numEnd n (decL u ++ l)) := by
        intro k' hk'
        have hq : (wrap64 (Int.tdiv m 10)).natAbs = u / 10 := by
          rw [td, w64 (by split <;> omega) (by split <;> omega)]; split <;> omega
        rw [hd, List.append_assoc]
        refine ih (u / 10) (by omega) k' _ _ hq (by omega) ?_ ?_ (by omega)
        · intro hne
          rw [td, w64 (by split <;> omega) (by split <;> omega)] at hne ⊢
          have := hs hz
          split at hne <;> split <;> omega
        · rcases hl with hl | hl
          · exact .inl (by simp only [List.length_cons]; omega)
          · refine .inr ?_
            rw [hd] at hl
            simp only [List.length_append, List.length_cons, List.length_nil] at hl ⊢
            omega
      by_cases hn : Int.tmod m 10 < 0
      · rw [if_pos hn]
        have e : wrap64 (48 + wrap64 (-(Int.tmod m 10))) % 256 = ((UInt8.ofNat (48 + u % 10)).toNat : Int) := by
          rw [tm] at hn ⊢
          split at hn
          · rw [if_pos (by assumption), e48, w64 (i := -(-(-m % 10))) (by omega) (by omega), w64 (by omega) (by omega)]; omega
          · omega
        simp only [Option.bind_some, e]
        rw [if_pos (by simp; omega)]
        exact step k (by omega)
      · rw [if_neg hn]
        have e : wrap64 (48 + Int.tmod m 10) % 256 = ((UInt8.ofNat (48 + u % 10)).toNat : Int) := by
          rw [tm] at hn ⊢
          split at hn
          · rw [if_pos (by assumption), e48, w64 (by omega) (by omega)]; omega
          · rw [if_neg (by assumption), e48, w64 (by omega) (by omega)]; omega
        simp only [Option.bind_some, e]
        rw [if_pos (by simp; omega)]
        exact step k (by omega)
theorem rnumber_any (n : Int) (h : I64 n) (w : World) :
    Calls Tryd.prog 50 #[.int .i64 n] w fun e w' => e = .returned (.string ⟨(Lib.itoa n).toArray⟩) ∧ Below w.heap.size w w' := by
  obtain ⟨h1, h2⟩ := h
  refine PNumber.moraineref27_Number.calls (n.natAbs + 1) n _ w ?_
  unfold PNumber.moraineref27_Number.f
  by_cases hz : n = 0
  · subst hz
    rw [if_pos rfl]
    unfold Lib.itoa
    rw [if_neg (by omega), show (0 : Int).toNat = 0 from rfl, Lib.decDigits, dif_pos (by omega)]
    rfl
  · rw [if_neg hz]
    have h := rnumber_l0 n n.natAbs (n.natAbs + 1) n [] rfl (by omega) (fun _ => Iff.rfl) (.inr (by
      have h1 := itoa_len n ⟨h1, h2⟩
      unfold decL Lib.itoa at *
      rw [if_neg (by omega)]
      split at h1
      · simp only [List.length_cons] at h1; simp; omega
      · have : n.natAbs = n.toNat := by omega
        rw [this]; simp; omega)) (by omega)
    rw [List.map_nil] at h
    rw [h]
    have hu : n.natAbs ≠ 0 := by omega
    unfold numEnd numEnd.mk' Lib.itoa decL
    rw [List.append_nil]
    by_cases hn : n < 0
    · rw [if_pos hn, if_pos hn, if_neg hu]
      congr 1
    · rw [if_neg hn, if_neg hn, if_neg hu, show n.natAbs = n.toNat by omega]
end Go.Proofs.YthhchicggidhcaaDoor
