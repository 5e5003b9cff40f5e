/- The program's bytes: bytes as digits of the base 16. -/
import Derived.Test.YthhchicggidhcaaDoorMoUnb
import Derived.Deep.RegionHeld3
import Derived.Deep.RegionLaw
import Derived.Laws.IdiomStrings
namespace Go.Proofs.YthhchicggidhcaaDoor
open Go.RowKit

def hexI (n : Nat) : Int := ((hexd.getD n 0).toNat : Int)
def hexes (l : List UInt8) : List Int := l.flatMap fun c => [hexI (c.toNat / 16), hexI (c.toNat % 16)]
theorem hexes_len (l : List UInt8) : (hexes l).length = 2 * l.length := by
  induction l with
  | nil => rfl
  | cons c l ih => simp only [hexes, List.flatMap_cons, List.length_append, List.length_cons, List.length_nil] at ih ⊢; omega
theorem hexes_snoc (l : List UInt8) (c : UInt8) : hexes (l ++ [c]) = hexes l ++ [hexI (c.toNat / 16), hexI (c.toNat % 16)] := by simp [hexes]

theorem and15 : ∀ a : Nat, a < 256 → bits .and .u8 (a : Int) 15 = ((a % 16 : Nat) : Int) := by decide +kernel
theorem hexI_at (n : Nat) (h : n < 16) (i : Nat) (hi : i = n) (hb : i < (ByteArray.mk #[48, 49, 50, 51, 52, 53, 54, 55, 56, 57, 97, 98, 99, 100, 101, 102]).size) :
    (((ByteArray.mk #[48, 49, 50, 51, 52, 53, 54, 55, 56, 57, 97, 98, 99, 100, 101, 102])[i]'hb).toNat : Int) = hexI n := by
  subst hi
  have : ∀ m : Fin 16, (((ByteArray.mk #[48, 49, 50, 51, 52, 53, 54, 55, 56, 57, 97, 98, 99, 100, 101, 102])[m.1]'m.2).toNat : Int) = hexI m.1 := by decide +kernel
  exact this ⟨i, h⟩
theorem hexes_take (s : ByteArray) (k : Nat) (h : k < s.size) : hexes (s.data.toList.take (k + 1)) = hexes (s.data.toList.take k) ++ [hexI (s[k].toNat / 16), hexI (s[k].toNat % 16)] := by
  have hl : k < s.data.toList.length := by rw [Array.length_toList]; exact h
  rw [List.take_succ_eq_append_getElem hl, hexes_snoc]
  rfl
/-- '[]byte(s)': a new block that begins with the text's bytes. -/
theorem bytes_conv (s : ByteArray) (w : World) : ∃ cap w1, (convert 9 59 (.string s)).run Tryd.prog w = .ok (.slice (some ⟨w.heap.size, 0, none⟩) s.size cap) w1 ∧ Below w.heap.size w w1 ∧
    ∀ j (hj : j < s.size), w1.cell? ⟨w.heap.size, j, none⟩ = some (.int .u8 (s[j].toNat : Int)) := by
  refine ⟨_, _, run_bytes_of_string w _ _ 5 s Tryd.underlying9 Tryd.underlying59 Tryd.underlying5, ((Below.refl _ w).drew).alloc (Nat.le_refl _) _, fun j hj => ?_⟩
  have hb : (w.drew.alloc (.cells (bytesRow s (grownCap w s.size 0 5)) 5 ((bytesRow s (grownCap w s.size 0 5)).size, (bytesRow s (grownCap w s.size 0 5)).size + 1))).heap[w.heap.size]? = _ := heap_alloc_new w.drew _
  rw [blk_cell hb]
  unfold bytesRow
  rw [Array.getElem?_append_left (by rw [Array.size_map]; exact hj), Array.getElem?_map, Array.getElem?_eq_getElem hj]
  rfl

set_option maxRecDepth 100000 in
set_option maxHeartbeats 400000 in
theorem bytes_any (s : ByteArray) (w : World) (hs : s.size ≤ 1048576) :
    Calls Tryd.prog 33 #[.string s] w fun e w' => e = .returned (.string (strOfNums (hexes s.data.toList))) ∧ Below w.heap.size w w' := by
  go_enter Tryd.func33, Tryd.ntmps33
  obtain ⟨cap, w1, hconv, hB1, hc⟩ := bytes_conv s w
  go_wp2_with fail
  clear hconv
  go_loopw [3, 9] (fun v3 v9 wr => ∃ (k : Nat) (A' : Option Addr) (c' : Nat), k ≤ s.size ∧ v9 = .int .i64 k ∧ v3 = .slice A' (2 * k) c' ∧ wr.ownsRow w1.heap.size 5 1 (.slice A' (2 * k) c') (2 * k) (ints .u8 (hexes (s.data.toList.take k))) ∧ Below w1.heap.size w1 wr) (fun _ v9 _ => s.size - (intOf v9).toNat)
  case atStart => exact ⟨0, none, 0, Nat.zero_le _, rfl, rfl, own_nil' _ _ _ _, Below.refl _ _⟩
  case round =>
    obtain ⟨k, A', c', hk, rfl, rfl, hown, hB⟩ := hrel
    by_cases hlt : k < s.size
    · have hcell : wr.cell? ⟨w.heap.size, k, none⟩ = some (.int .u8 (s[k].toNat : Int)) := cell_below hB (hc k hlt)
      go_upto_region 5 with (fail)
      have hlt8 := s[k].toNat_lt
      obtain ⟨c, hce⟩ : ∃ c, s[k].toNat = c := ⟨_, rfl⟩
      rw [hce] at hlt8 ⊢
      have h15 := and15 c hlt8
      have hm : c % 16 < 16 := Nat.mod_lt _ (by omega)
      have hd : c / 16 < 16 := by omega
      clear hcell
      have hbs := hB.size
      go_region_held3 (fun _ => True) (exact trivial) (first
        | (refine stepR (base := w1.heap.size) (v := .slice A' (2 * k) c') (n := 2 * k) (m := 2) (T := 5) (A := some ⟨wr.heap.size, 0, none⟩) (hown.alloc _) Tryd.underlying59 infoU8 rfl (by decide) (Reads.lit wr _ [_, _]) (by rfl) (by simp) (by unfold maxLen; omega) (by omega) (by show _ ≤ (wr.alloc _).heap.size; rw [World.size_alloc]; omega) rfl rfl rfl rfl (by simp [Value.oneCell']) ?_; intro A2 c2 w2 ho2 hg2))
      all_goals
        have hF : Fr [5] w1.heap.size wr w2 := ((Fr.refl _ _ wr).alloc _).drew.trans (Fr.app0 (T := [5]) (b0 := w1.heap.size) (hown.alloc _) hg2 (by decide) (Nat.le_refl _))
        rw [hexI_at (c / 16) hd _ (by omega) _, hexI_at (c % 16) hm _ (by omega) _] at ho2
        clear hg2
        go_wp2_with fail
        go_roundw
        case rel => exact ⟨k + 1, A2, c2, by omega, by go_num, rfl, by rw [hexes_take s k hlt, hce, ints_append]; exact ho2, hB.trans (hF.below hbs)⟩
        case measure => simp [intOf]; omega
    · have hke : k = s.size := by omega
      subst hke
      rw [List.take_of_length_le (by rw [Array.length_toList]; exact Nat.le_refl _)] at hown
      have hcv := own_str (src := 59) (dst := 9) Tryd.underlying59 Tryd.underlying5 Tryd.underlying9 hown
      go_wp2_with fail
      go_ret
      exact ⟨rfl, hB1.trans (hB.mono hB1.size)⟩
end Go.Proofs.YthhchicggidhcaaDoor
