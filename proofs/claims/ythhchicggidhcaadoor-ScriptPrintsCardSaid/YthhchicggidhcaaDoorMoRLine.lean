/- The document's line: a word and numbers. -/
import Derived.Test.YthhchicggidhcaaDoorMoRefB
namespace Go.Proofs.YthhchicggidhcaaDoor
open Go.RowKit

theorem lineB_snoc' (word : ByteArray) (l : List Int) (n : Int) : lineB word (l ++ [n]) = lineB word l ++ ⟨#[32]⟩ ++ ⟨(Lib.itoa n).toArray⟩ := by
  apply ByteArray.ext
  simp [lineB, lineL_snoc]
set_option maxRecDepth 100000 in
set_option maxHeartbeats 400000 in
theorem rline_any {T : Nat} (word : ByteArray) (ns : List Int) (A : Option Addr) (len c : Nat) (hlen : ns.length = len) (w : World) (hR : Reads w T A (ints .i64 ns)) (hl : len ≤ 1048576) (hs : word.size ≤ 1048576) (hn : ∀ n ∈ ns, I64 n) :
    Calls Tryd.prog 36 #[.string word, .slice A len c] w fun e w' => e = .returned (.string (lineB word ns ++ ⟨#[10]⟩)) ∧ Below w.heap.size w w' := by
  subst hlen
  go_enter Tryd.func36, Tryd.ntmps36
  go_wp2_with fail
  go_loopw [0, 5] (fun v0 v9 wr => ∃ (k : Nat), k ≤ ns.length ∧ v9 = .int .i64 k ∧ v0 = .string (lineB word (ns.take k)) ∧ Below w.heap.size w wr) (fun _ v9 _ => ns.length - (intOf v9).toNat)
  case atStart => exact ⟨0, Nat.zero_le _, rfl, by simp [lineB, lineL], Below.refl _ _⟩
  case round =>
    obtain ⟨k, hk, rfl, rfl, hB⟩ := hrel
    by_cases hlt : k < ns.length
    · obtain ⟨ab, ao, rfl, hc⟩ := (hR.below hB).cell (j := k) (by rw [ints_length]; exact hlt)
      simp only [ints, List.getElem_map] at hc
      have hi := Lib.hid (hn _ (List.getElem_mem hlt))
      have hbl := lineB_size word (ns.take k) (fun n hn' => hn n (List.mem_of_mem_take hn'))
      rw [List.length_take] at hbl
      have hil := itoa_len _ hi.out
      go_wp2_with fail
      refine (rnumber_any _ hi.out _).mono ?_
      rintro e w1 ⟨rfl, hb1⟩
      have hB2 := hB.trans (hb1.mono hB.size)
      go_wp2_with fail
      go_roundw
      case rel => exact ⟨k + 1, by omega, by go_num, by rw [List.take_succ_eq_append_getElem hlt, lineB_snoc'], hB2⟩
      case measure => simp [intOf]; omega
    · have hke : k = ns.length := by omega
      subst hke
      rw [List.take_length]
      have hbl := lineB_size word ns hn
      go_wp2_with fail
      go_ret
      exact ⟨rfl, hB⟩
end Go.Proofs.YthhchicggidhcaaDoor
