/- The program's line: a word and numbers. -/
import Derived.Test.YthhchicggidhcaaDoorMoHex
import Derived.Test.YthhchicggidhcaaDoorMoNumEq
import Derived.Deep.DeepCutAuto
import Derived.Lib.ItoaLen
namespace Go.Proofs.YthhchicggidhcaaDoor
open Go.RowKit

theorem itoa_any (n : Int) (h : I64 n) (w : World) (hw : Lw w) :
    Calls Tryd.prog 48 #[.int .i64 n] w fun e w' => e = .returned (.string ⟨(Lib.itoa n).toArray⟩) ∧ Below w.heap.size w w' :=
  (Tryd.strconv_Itoa n h.1 h.2 w hw.tab).mono fun e w' ⟨he, k, os, hw⟩ => ⟨he, by subst hw; exact (below_drewN (Below.refl _ _) k).trans ⟨rfl, rfl, rfl, by simp, fun i hi => Sort.heap_grow_old _ _ hi⟩⟩

/-- A line's words behind its first. -/
def lineL (ns : List Int) : List UInt8 := ns.flatMap fun n => 32 :: Lib.itoa n
theorem lineL_snoc (l : List Int) (n : Int) : lineL (l ++ [n]) = lineL l ++ 32 :: Lib.itoa n := by simp [lineL]
def lineB (word : ByteArray) (ns : List Int) : ByteArray := ⟨(word.data.toList ++ lineL ns).toArray⟩
theorem itoa_len (n : Int) (h : I64 n) : (Lib.itoa n).length ≤ 21 := Lib.itoa_length_le n h.1 h.2
theorem lineL_len (l : List Int) (h : ∀ n ∈ l, I64 n) : (lineL l).length ≤ 22 * l.length := by
  induction l with
  | nil => simp [lineL]
  | cons n l ih =>
    have h1 := itoa_len n (h n (by simp))
    have h2 := ih fun m hm => h m (List.mem_cons_of_mem _ hm)
    simp only [lineL, List.flatMap_cons, List.length_append, List.length_cons] at h2 ⊢
    omega
theorem lineB_size (word : ByteArray) (l : List Int) (h : ∀ n ∈ l, I64 n) : (lineB word l).size ≤ word.size + 22 * l.length := by
  have := lineL_len l h
  show (word.data.toList ++ lineL l).toArray.size ≤ _
  rw [List.size_toArray, List.length_append, Array.length_toList]
  have : word.data.size = word.size := rfl
  omega
theorem lineB_snoc (word : ByteArray) (l : List Int) (n : Int) : lineB word (l ++ [n]) = lineB word l ++ (⟨#[32]⟩ ++ ⟨(Lib.itoa n).toArray⟩) := by
  apply ByteArray.ext
  simp [lineB, lineL_snoc]

set_option maxRecDepth 100000 in
set_option maxHeartbeats 400000 in
theorem line_any {T : Nat} (word : ByteArray) (ns : List Int) (A : Option Addr) (len c : Nat) (hlen : ns.length = len) (w : World) (hw : Lw w) (hR : Reads w T A (ints .i64 ns)) (hl : len ≤ 1048576) (hs : word.size ≤ 1048576) (hn : ∀ n ∈ ns, I64 n) :
    Calls Tryd.prog 34 #[.string word, .slice A len c] w fun e w' => e = .returned (.string (lineB word ns ++ ⟨#[10]⟩)) ∧ Below w.heap.size w w' := by
  subst hlen
  go_enter Tryd.func34, Tryd.ntmps34
  go_wp2_with fail
  go_loopw [0, 9] (fun v0 v9 wr => ∃ (k : Nat), k ≤ ns.length ∧ v9 = .int .i64 k ∧ v0 = .string (lineB word (ns.take k)) ∧ Below w.heap.size w wr) (fun _ v9 _ => ns.length - (intOf v9).toNat)
  case atStart => exact ⟨0, Nat.zero_le _, rfl, by simp [lineB, lineL], Below.refl _ _⟩
  case round =>
    obtain ⟨k, hk, rfl, rfl, hB⟩ := hrel
    by_cases hlt : k < ns.length
    · obtain ⟨ab, ao, rfl, hc⟩ := (hR.below hB).cell (j := k) (by rw [ints_length]; exact hlt)
      simp only [ints, List.getElem_map] at hc
      have hi := Lib.hid (hn _ (List.getElem_mem hlt))
      have hbl := lineB_size word (ns.take k) (fun n hn' => hn n (List.mem_of_mem_take hn'))
      rw [List.length_take] at hbl
      have hil := itoa_len _ hi.out
      go_wp2_with fail
      refine (itoa_any _ hi.out _ (hw.below hB)).mono ?_
      rintro e w1 ⟨rfl, hb1⟩
      have hB2 := hB.trans (hb1.mono hB.size)
      go_wp2_with fail
      go_roundw
      case rel => exact ⟨k + 1, by omega, by go_num, by rw [List.take_succ_eq_append_getElem hlt, lineB_snoc], hB2⟩
      case measure => simp [intOf]; omega
    · have hke : k = ns.length := by omega
      subst hke
      rw [List.take_length]
      have hbl := lineB_size word ns hn
      go_wp2_with fail
      go_ret
      exact ⟨rfl, hB⟩
end Go.Proofs.YthhchicggidhcaaDoor
