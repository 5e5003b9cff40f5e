/- The program's unbytes: bytes out of digits of the base 16. -/
import Derived.Test.YthhchicggidhcaaDoorMoNums
namespace Go.Proofs.YthhchicggidhcaaDoor
open Go.RowKit

def hexd : List UInt8 := [48, 49, 50, 51, 52, 53, 54, 55, 56, 57, 97, 98, 99, 100, 101, 102]
def hexAt (c : UInt8) : Int := Lib.indexByte hexd c
theorem hexAt_range (c : UInt8) : -1 ≤ hexAt c ∧ hexAt c ≤ 15 := by
  have : ∀ n : Nat, n < 256 → -1 ≤ hexAt (UInt8.ofNat n) ∧ hexAt (UInt8.ofNat n) ≤ 15 := by decide +kernel
  have h := this c.toNat c.toNat_lt
  rwa [UInt8.ofNat_toNat] at h

def hexB (a b : Int) : Int := bits .or .i64 (a * 16) b % 256
/-- What the digits tell; whether none is left. -/
def unbL : List UInt8 → Option (List Int × Bool)
  | a :: b :: r => if hexAt a < 0 ∨ hexAt b < 0 then none else (unbL r).map fun p => (hexB (hexAt a) (hexAt b) :: p.1, p.2)
  | [] => some ([], true)
  | [_] => some ([], false)
theorem bytes_two {t : ByteArray} (h : 1 < t.size) : t.data.toList = t[0] :: t[1] :: (t.extract 2 t.size).data.toList := by
  have hl : t.data.toList.length = t.size := by rw [Array.length_toList]; rfl
  have e : (t.extract 2 t.size).data.toList = t.data.toList.drop 2 := by
    first | exact Lib.extract_to_end _ _ | (rw [Lib.extract_data]; simp; omega)
  rw [e]
  have d0 := List.drop_eq_getElem_cons (l := t.data.toList) (i := 0) (by omega)
  have d1 := List.drop_eq_getElem_cons (l := t.data.toList) (i := 1) (by omega)
  rw [List.drop_zero] at d0
  exact d0.trans (by rw [d1]; rfl)
theorem unbL_two {t : ByteArray} (h : 1 < t.size) : unbL t.data.toList = if hexAt t[0] < 0 ∨ hexAt t[1] < 0 then none else (unbL (t.extract 2 t.size).data.toList).map fun p => (hexB (hexAt t[0]) (hexAt t[1]) :: p.1, p.2) := by
  conv => lhs; rw [bytes_two h, unbL]
/-- What unbytes comes to. -/
def UnbPost (s : ByteArray) (w : World) (e : Ending) (w' : World) : Prop :=
  (match unbL s.data.toList with
  | none => e = .returned (.tuple #[.string ⟨#[]⟩, .bool false])
  | some (xs, b) => e = .returned (.tuple #[.string (strOfNums xs), .bool (b && decide (0 < xs.length))])) ∧ Below w.heap.size w w'

set_option maxRecDepth 100000 in
set_option maxHeartbeats 400000 in
theorem unbytes_any (s : ByteArray) (w : World) (hs : s.size ≤ 1048576) :
    Calls Tryd.prog 60 #[.string s] w (UnbPost s w) := by
  go_enter Tryd.func60, Tryd.ntmps60
  go_wp2_with fail
  go_loopw [0, 4] (fun v0 v4 wr => ∃ (t : ByteArray) (xs : List Int) (A' : Option Addr) (c' : Nat), v0 = .string t ∧ v4 = .slice A' xs.length c' ∧ t.size + 2 * xs.length ≤ s.size ∧ Hid (unbL s.data.toList = (unbL t.data.toList).map fun p => (xs ++ p.1, p.2)) ∧ wr.ownsRow w.heap.size 5 1 (.slice A' xs.length c') xs.length (ints .u8 xs) ∧ Below w.heap.size w wr) (fun v0 _ _ => match v0 with | .string t => t.size | _ => 0)
  case atStart => exact ⟨s, [], none, 0, rfl, rfl, by simp, Lib.hid (by simp), own_nil' _ _ _ _, Below.refl _ _⟩
  case round =>
    obtain ⟨t, xs, A', c', rfl, rfl, hsz, HU, hown, hB⟩ := hrel
    by_cases hlt : 1 < t.size
    · have g0 : 0 < t.size := by omega
      have g1 : (0 : Int) < (t.size : Int) := by omega
      have g2 : (1 : Int) < (t.size : Int) := by omega
      go_wp2_with fail
      go_quiet ((go_at_call 75; exact Calls.quiet_of_same (Tryd.strings_IndexByte _ _ _)))
      have e0 : Lib.indexByte (ByteArray.mk #[48, 49, 50, 51, 52, 53, 54, 55, 56, 57, 97, 98, 99, 100, 101, 102]).data.toList ((t[0].toNat : Int)).toNat.toUInt8 = hexAt t[0] := by simp [hexAt, hexd]
      have e1 : Lib.indexByte (ByteArray.mk #[48, 49, 50, 51, 52, 53, 54, 55, 56, 57, 97, 98, 99, 100, 101, 102]).data.toList ((t[1].toNat : Int)).toNat.toUInt8 = hexAt t[1] := by simp [hexAt, hexd]
      have r0 := hexAt_range t[0]
      have r1 := hexAt_range t[1]
      rw [e0, e1]
      have E0 := Lib.hid (show hexAt t[0] = hexAt t[0] from rfl)
      clear e0 e1 E0
      obtain ⟨h0, hh0⟩ : ∃ h, hexAt t[0] = h := ⟨_, rfl⟩
      obtain ⟨h1, hh1⟩ : ∃ h, hexAt t[1] = h := ⟨_, rfl⟩
      rw [hh0] at r0 ⊢
      rw [hh1] at r1 ⊢
      have HH0 := Lib.hid hh0
      have HH1 := Lib.hid hh1
      clear hh0 hh1
      have HT := Lib.hid (unbL_two hlt)
      replace hown : (wr.drewN nq).ownsRow _ _ _ _ _ _ := hown
      replace hB : Below w.heap.size w (wr.drewN nq) := below_drewN hB nq
      generalize wr.drewN nq = W at *
      by_cases hn0 : h0 < 0
      · go_wp2_with fail
        go_ret2
        have hu := HU.out
        rw [HT.out, if_pos (.inl (by rw [HH0.out]; exact hn0))] at hu
        unfold UnbPost
        rw [hu]
        exact ⟨rfl, hB⟩
      · by_cases hn1 : h1 < 0
        · go_wp2_with fail
          go_ret2
          have hu := HU.out
          rw [HT.out, if_pos (.inr (by rw [HH1.out]; exact hn1))] at hu
          unfold UnbPost
          rw [hu]
          exact ⟨rfl, hB⟩
        · have hbs := hB.size
          go_wp2_with (at_builtin; go_must (refine app1 hown Tryd.underlying59 infoU8 rfl (by decide) (by unfold maxLen; omega) (by omega) hbs rfl rfl rfl rfl _ rfl (by simp [Value.oneCell']) ?_); intro A2 c2 w3 ho3 hg3)
          have hF := Fr.app (T := [5]) _ hown hg3 (by decide) (Nat.le_refl _)
          have hu := HU.out
          rw [HT.out, if_neg (by rw [HH0.out, HH1.out]; omega), HH0.out, HH1.out] at hu
          go_roundw
          case rel => exact ⟨t.extract 2 t.size, xs ++ [hexB h0 h1], A2, c2, by simp, by simp, by simp; omega, Lib.hid (by rw [hu]; simp [Function.comp_def]), by simpa [ints, hexB] using ho3, hB.trans (hF.below hbs)⟩
          case measure => simp; omega
    · have hcv := own_str (src := 59) (dst := 9) Tryd.underlying59 Tryd.underlying5 Tryd.underlying9 hown
      by_cases ht : t.size = 0
      · have hte : t = ⟨#[]⟩ := by
          cases t with | mk d => cases d with | mk l => cases l with
            | nil => rfl
            | cons a b => simp [ByteArray.size] at ht
        subst hte
        go_wp2_with fail
        all_goals go_ret2
        all_goals
          unfold UnbPost
          rw [HU.out]
          refine ⟨?_, hB⟩
          simp [unbL]
      · have ht1 : t.size = 1 := by omega
        have q0 : ¬ t.toList = [] := fun h => by
          rw [ByteArray.toList_eq] at h
          have := congrArg List.length h
          rw [Array.length_toList] at this
          exact ht this
        have q1 : t.toList.isEmpty = false := by
          cases hq : t.toList with
          | nil => exact absurd hq q0
          | cons a b => rfl
        have hq : ∃ a, t.data.toList = [a] := by
          have hl : t.data.toList.length = 1 := by rw [Array.length_toList]; exact ht1
          match hx : t.data.toList with
          | [] => rw [hx] at hl; simp at hl
          | [a] => exact ⟨a, rfl⟩
          | a :: b :: r => rw [hx] at hl; simp at hl
        have HQ := Lib.hid hq
        clear hq
        go_wp2_with fail
        all_goals go_ret2
        all_goals
          unfold UnbPost
          obtain ⟨a, ha⟩ := HQ.out
          rw [HU.out, ha]
          refine ⟨?_, hB⟩
          simp [unbL]
end Go.Proofs.YthhchicggidhcaaDoor
