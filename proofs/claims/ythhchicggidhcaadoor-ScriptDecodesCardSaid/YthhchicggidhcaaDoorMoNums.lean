/- The program's numbers: words that are numbers. -/
import Derived.Test.YthhchicggidhcaaDoorShelf
import Derived.Test.YthhchicggidhcaaDoorMoLaid
import Derived.Test.YthhchicggidhcaaDoorMoInfo
import Derived.Lib.AtoiErrMem
import Derived.Lib.QuietBelow
import Derived.Deep.QuietTactic
import Derived.BigQuiet
namespace Go.Proofs.YthhchicggidhcaaDoor
open Go.RowKit

theorem parseIntB_range {l : List UInt8} {v : Int} (h : Lib.parseIntB 64 l = .ok v) : -9223372036854775808 ≤ v ∧ v ≤ 9223372036854775807 := by
  unfold Lib.parseIntB at h
  cases l with
  | nil => cases h
  | cons c r =>
    simp only at h
    split at h
    · cases h
    · cases h
    · rename_i u hu
      split at h
      · cases h
      · split at h
        · cases h
        · cases h
          split <;> omega

theorem parseInt_ok (s : ByteArray) (v : Int) (hs : s.size ≤ 281474976710656) (h : Lib.parseIntB 64 s.data.toList = .ok v) (w : World) :
    Calls Tryd.prog 76 #[.string s, .int .i64 10, .int .i64 64] w fun e w' => e = .returned (.tuple #[.int .i64 v, .nilIface]) ∧ Below w.heap.size w w' :=
  (Tryd.strconv_ParseInt_10_at64_ok s (by omega) v h w).mono fun e w' ⟨he, hw⟩ => ⟨he, by
    rcases hw with rfl | ⟨t, rfl⟩
    · exact Below.refl _ _
    · exact Lib.bytesWorld_below _ _ _⟩

def SomeErr (w : World) (e : Ending) (w' : World) : Prop := ∃ (x : Int) (p : Value), e = .returned (.tuple #[.int .i64 x, .iface 195 p]) ∧ Below w.heap.size w w'
theorem parseInt_bad (s : ByteArray) (hs : s.size ≤ 281474976710656) (h : ∀ v, Lib.parseIntB 64 s.data.toList ≠ .ok v) (w : World) (hw : Lw w) :
    Calls Tryd.prog 76 #[.string s, .int .i64 10, .int .i64 64] w (SomeErr w) := by
  rcases hp : Lib.parseIntB 64 s.data.toList with v | _ | _
  · exact absurd hp (h v)
  · obtain ⟨tp, p, hv⟩ := hw.syn
    exact (Tryd.strconv_ParseInt_10_at64_syntax_var s hs hp tp p w hv).mono fun e w' ⟨N, he, _, _, hb⟩ => ⟨_, _, he, hb⟩
  · obtain ⟨tp, p, hv⟩ := hw.rng
    exact (Tryd.strconv_ParseInt_10_at64_range_var s hs hp tp p w hv).mono fun e w' ⟨N, he, _, _, hb⟩ => ⟨_, _, he, hb⟩

theorem fmtInt_any (n : Int) (h : -9223372036854775808 ≤ n ∧ n ≤ 9223372036854775807) (w : World) (hw : Lw w) :
    Calls Tryd.prog 77 #[.int .i64 n, .int .i64 10] w fun e w' => e = .returned (.string ⟨(Lib.itoa n).toArray⟩) ∧ Below w.heap.size w w' :=
  (Tryd.strconv_FormatInt_10 n h.1 h.2 w hw.tab).mono fun e w' ⟨he, k, os, hw⟩ => ⟨he, by subst hw; exact (below_drewN (Below.refl _ _) k).trans ⟨rfl, rfl, rfl, by simp, fun i hi => Sort.heap_grow_old _ _ hi⟩⟩

/-- A word that is a number. -/
def numOf (w : ByteArray) : Option Int := match Lib.parseIntB 64 w.data.toList with
  | .ok v => if Lib.itoa v = w.data.toList then some v else none
  | _ => none
theorem numOf_some {w : ByteArray} {v : Int} (h : numOf w = some v) : Lib.parseIntB 64 w.data.toList = .ok v ∧ Lib.itoa v = w.data.toList := by
  unfold numOf at h
  split at h
  · rename_i x hx
    split at h
    · rename_i h2; cases h; exact ⟨hx, h2⟩
    · cases h
  · cases h

def numsOf : List ByteArray → Option (List Int)
  | [] => some []
  | w :: r => match numOf w, numsOf r with
    | some x, some xs => some (x :: xs)
    | _, _ => none
theorem numsOf_snoc : ∀ (l : List ByteArray) (w : ByteArray), numsOf (l ++ [w]) = (numsOf l).bind fun xs => (numOf w).map fun x => xs ++ [x]
  | [], w => by simp [numsOf]; cases numOf w <;> rfl
  | a :: l, w => by
    simp only [List.cons_append, numsOf, numsOf_snoc l w]
    cases numOf a <;> cases numsOf l <;> cases numOf w <;> rfl
theorem numsOf_len : ∀ {l : List ByteArray} {xs : List Int}, numsOf l = some xs → xs.length = l.length
  | [], xs, h => by simp [numsOf] at h; subst h; rfl
  | a :: l, xs, h => by
    simp only [numsOf] at h
    split at h
    · rename_i x ys h1 h2; cases h; simp [numsOf_len h2]
    · cases h
theorem numsOf_none : ∀ (l : List ByteArray) (k : Nat) (hk : k < l.length), numOf l[k] = none → numsOf l = none
  | a :: l, 0, _, h => by simp only [List.getElem_cons_zero] at h; simp [numsOf, h]
  | a :: l, k + 1, hk, h => by
    have := numsOf_none l k (by simpa using hk) h
    simp only [numsOf, this]
    cases numOf a <;> rfl

/-- What numbers comes to. -/
def NumsPost (ws : List ByteArray) (n : Int) (w : World) (e : Ending) (w' : World) : Prop :=
  (match numsOf ws with
  | some xs => ∃ A c, e = .returned (.tuple #[.slice A xs.length c, .bool ((xs.length : Int) == n)]) ∧ w'.ownsRow w.heap.size 3 1 (.slice A xs.length c) xs.length (ints .i64 xs)
  | none => e = .returned (.tuple #[.slice none 0 0, .bool false])) ∧ Below w.heap.size w w'

set_option maxRecDepth 100000 in
set_option maxHeartbeats 400000 in
theorem numbers_any (A : Option Addr) (ws : List ByteArray) (len cap : Nat) (hlen : ws.length = len) (n : Int) (w : World) (hw : Lw w) (hR : Reads w 9 A (ws.map Value.string)) (hl : len ≤ 1048576) (hws : ∀ s ∈ ws, s.size ≤ 281474976710656) :
    Calls Tryd.prog 61 #[.slice A len cap, .int .i64 n] w (NumsPost ws n w) := by
  subst hlen
  go_enter Tryd.func61, Tryd.ntmps61
  go_wp2_with fail
  go_loopw [6, 13] (fun v6 v13 wr => ∃ (k : Nat) (xs : List Int) (A' : Option Addr) (c' : Nat), k ≤ ws.length ∧ v13 = .int .i64 k ∧ v6 = .slice A' k c' ∧ Hid (numsOf (ws.take k) = some xs) ∧ wr.ownsRow w.heap.size 3 1 (.slice A' k c') k (ints .i64 xs) ∧ Below w.heap.size w wr) (fun _ v13 _ => ws.length - (intOf v13).toNat)
  case atStart => exact ⟨0, [], none, 0, Nat.zero_le _, rfl, rfl, Lib.hid rfl, own_nil' _ _ _ _, Below.refl _ _⟩
  case round =>
    obtain ⟨k, xs, A', c', hk, rfl, rfl, HX, hown, hB⟩ := hrel
    by_cases hlt : k < ws.length
    · have hRk := hR.below hB
      obtain ⟨ab, ao, hA, hc⟩ := hRk.cell (j := k) (by simpa using hlt)
      subst hA
      simp only [List.getElem_map] at hc
      by_cases hok : ∃ v, Lib.parseIntB 64 ws[k].data.toList = .ok v
      · obtain ⟨v, hv⟩ := hok
        have HV := Lib.hid hv
        clear hv
        go_wp2_with fail
        refine (parseInt_ok _ v (hws _ (List.getElem_mem hlt)) HV.out _).mono ?_
        rintro e w1 ⟨rfl, hb1⟩
        go_wp2_with fail
        refine (fmtInt_any v (parseIntB_range HV.out) _ ((hw.below hB).below hb1)).mono ?_
        rintro e w2 ⟨rfl, hb2⟩
        replace hown := own_below' (own_below' hown hb1) hb2
        have hB2 := (hB.trans (hb1.mono hB.size)).trans (hb2.mono (Nat.le_trans hB.size hb1.size))
        have hbs := hB2.size
        by_cases heq : Lib.itoa v = ws[k].data.toList
        · have HQ := Lib.hid heq
          go_wp2_with (at_builtin; go_must (refine app1 hown Tryd.underlying70 infoI64 rfl (by decide) (by unfold maxLen; omega) (by omega) hbs rfl rfl rfl rfl _ rfl (by simp [Value.oneCell']) ?_); intro A2 c2 w3 ho3 hg3)
          have hF := Fr.app (T := [3]) _ hown hg3 (by decide) (Nat.le_refl _)
          have hn : numsOf (ws.take (k + 1)) = some (xs ++ [v]) := by
            rw [List.take_succ_eq_append_getElem hlt, numsOf_snoc, HX.out]
            simp [numOf, HV.out, HQ.out]
          go_roundw
          case rel => exact ⟨k + 1, xs ++ [v], A2, c2, by omega, by go_num, by simp, Lib.hid hn, by rw [ints_append]; exact ho3, hB2.trans (hF.below hbs)⟩
          case measure => simp [intOf]; omega
        · have hn : numOf ws[k] = none := by simp [numOf, HV.out, heq]
          have HN := Lib.hid (numsOf_none ws k hlt hn)
          have hq : (!Lib.itoa v == ws[k].toList) = true := by rw [ByteArray.toList_eq]; simpa using heq
          clear hn heq
          go_wp2_with fail
          go_ret2
          unfold NumsPost
          rw [HN.out]
          exact ⟨rfl, hB2⟩
      · have hn : numOf ws[k] = none := by
          unfold numOf
          split
          · rename_i v hv; exact absurd ⟨v, hv⟩ hok
          · rfl
        have HN := Lib.hid (numsOf_none ws k hlt hn)
        have HO := Lib.hid hok
        clear hn hok
        go_wp2_with fail
        refine (parseInt_bad _ (hws _ (List.getElem_mem hlt)) (fun v hv => HO.out ⟨v, hv⟩) _ (hw.below hB)).mono ?_
        rintro e w1 ⟨x, p, rfl, hb1⟩
        have hB2 := hB.trans (hb1.mono hB.size)
        go_wp2_with fail
        go_ret2
        unfold NumsPost
        rw [HN.out]
        exact ⟨rfl, hB2⟩
    · have hke : k = ws.length := by omega
      subst hke
      have HL := Lib.hid (numsOf_len (List.take_length (l := ws) ▸ HX.out))
      have HX2 : Hid (numsOf ws = some xs) := Lib.hid (by have := HX.out; rwa [List.take_length] at this)
      go_wp2_with fail
      go_ret2
      unfold NumsPost
      rw [HX2.out]
      have hl2 := HL.out
      refine ⟨⟨A', c', by rw [hl2]; rfl, by rw [hl2]; exact hown⟩, hB⟩
end Go.Proofs.YthhchicggidhcaaDoor
