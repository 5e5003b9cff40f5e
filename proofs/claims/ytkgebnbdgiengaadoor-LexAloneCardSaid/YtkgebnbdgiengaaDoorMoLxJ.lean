/- The lexer's number, the numbers' Parse: walked. -/
import Derived.Test.YtkgebnbdgiengaaDoorMoLxI
import Derived.Lib.ConvBytes
namespace Go.Proofs.YtkgebnbdgiengaaDoor
open Go.RowKit Lx

theorem str_empty {t : ByteArray} (h : t.data.toList = []) : t.toList = [] := by rw [Lib.toList_data]; exact h
theorem str_empty' {t : ByteArray} (h : t.data.toList ≠ []) : t.toList.isEmpty = false ∧ ¬ t.toList = [] := by
  rw [Lib.toList_data]; exact ⟨by simpa using h, h⟩
theorem num_ne {l : List UInt8} {b : Bool} (h : l ≠ []) (hb : (!l.isEmpty && l.all isDig) = b) : b = l.all isDig := by
  rw [← hb]
  cases l with
  | nil => exact absurd rfl h
  | cons a l => rfl
theorem drop1 (s : ByteArray) (h : 0 < s.size) : s.data.toList = s[0] :: (s.extract 1 s.size).data.toList := by
  rw [Lib.extract_to_end]; exact drop_at s h
theorem signed_cons (c : UInt8) (l : List UInt8) : signed (c :: l) = if c = 43 ∨ c = 45 then l else c :: l := rfl

set_option maxRecDepth 100000 in
set_option maxHeartbeats 1600000 in
theorem number_any (s : ByteArray) (h0 : 0 < s.size) (hs : s.size ≤ 4096) (w : World) :
    Calls Tryd.prog 47 #[.string s] w fun e w' => e = .returned (.bool (isNum s.data.toList)) ∧ Below w.heap.size w w' := by
  obtain ⟨b, hb⟩ : ∃ b, isNum s.data.toList = b := ⟨_, rfl⟩
  rw [hb]
  unfold isNum at hb
  by_cases h43 : s[0] = 43
  · have hz := u8_yes (n := 43) (by decide) h43
    rw [drop1 s h0, signed_cons, if_pos (.inl h43)] at hb
    have hsz : (s.extract 1 s.size).size ≤ 4096 := by rw [ByteArray.size_extract]; omega
    clear h43
    by_cases he : (s.extract 1 s.size).data.toList = []
    · rw [he] at hb
      have he2 := str_empty he
      have HB := Lib.hid ((hb.symm : b = false))
      clear he hb
      go_enter Tryd.func47, Tryd.ntmps47
      go_wp2_with fail
      go_ret
      exact ⟨ret_bool HB.out.symm, Below.refl _ _⟩
    · have he2 := str_empty' he
      obtain ⟨he2, he3⟩ := he2
      replace hb := num_ne he hb
      clear he
      go_enter Tryd.func47, Tryd.ntmps47
      go_wp2_with fail
      refine (trim0_any (s.extract 1 s.size) w (by omega)).mono ?_
      rintro e w1 ⟨⟨t, rfl, ht⟩, hb1⟩
      cases hall : (s.extract 1 s.size).data.toList.all isDig
      · have hx := str_empty' (t := t) (fun h => by rw [← Lib.toList_data, ht, hall] at h; cases h)
        obtain ⟨hx1, hx2⟩ := hx
        have HB := Lib.hid ((hb.trans hall : b = false))
        clear ht hall hb
        go_wp2_with fail
        go_ret
        exact ⟨ret_bool HB.out.symm, hb1⟩
      · have hx1 : t.toList = [] := ht.2 hall
        have HB := Lib.hid ((hb.trans hall : b = true))
        clear ht hall hb
        go_wp2_with fail
        go_ret
        exact ⟨ret_bool HB.out.symm, hb1⟩
  have n43 : ((s[0].toNat : Int) == 43) = false := u8_ne (c := s[0]) (n := 43) (by decide) h43
  have m43 : ¬ (s[0].toNat : Int) = 43 := by simpa using n43
  by_cases h45 : s[0] = 45
  · have hz := u8_yes (n := 45) (by decide) h45
    rw [drop1 s h0, signed_cons, if_pos (.inr h45)] at hb
    have hsz : (s.extract 1 s.size).size ≤ 4096 := by rw [ByteArray.size_extract]; omega
    clear h45
    by_cases he : (s.extract 1 s.size).data.toList = []
    · rw [he] at hb
      have he2 := str_empty he
      have HB := Lib.hid ((hb.symm : b = false))
      clear he hb
      go_enter Tryd.func47, Tryd.ntmps47
      go_wp2_with fail
      go_ret
      exact ⟨ret_bool HB.out.symm, Below.refl _ _⟩
    · have he2 := str_empty' he
      obtain ⟨he2, he3⟩ := he2
      replace hb := num_ne he hb
      clear he
      go_enter Tryd.func47, Tryd.ntmps47
      go_wp2_with fail
      refine (trim0_any (s.extract 1 s.size) w (by omega)).mono ?_
      rintro e w1 ⟨⟨t, rfl, ht⟩, hb1⟩
      cases hall : (s.extract 1 s.size).data.toList.all isDig
      · have hx := str_empty' (t := t) (fun h => by rw [← Lib.toList_data, ht, hall] at h; cases h)
        obtain ⟨hx1, hx2⟩ := hx
        have HB := Lib.hid ((hb.trans hall : b = false))
        clear ht hall hb
        go_wp2_with fail
        go_ret
        exact ⟨ret_bool HB.out.symm, hb1⟩
      · have hx1 : t.toList = [] := ht.2 hall
        have HB := Lib.hid ((hb.trans hall : b = true))
        clear ht hall hb
        go_wp2_with fail
        go_ret
        exact ⟨ret_bool HB.out.symm, hb1⟩
  have n45 : ((s[0].toNat : Int) == 45) = false := u8_ne (c := s[0]) (n := 45) (by decide) h45
  have m45 : ¬ (s[0].toNat : Int) = 45 := by simpa using n45
  have hne : s.data.toList ≠ [] := by rw [drop1 s h0]; simp
  have hsg : signed s.data.toList = s.data.toList := by rw [drop1 s h0, signed_cons, if_neg (fun h => h.elim h43 h45)]
  rw [hsg] at hb
  obtain ⟨he2, he3⟩ := str_empty' hne
  replace hb := num_ne hne hb
  clear hne hsg h43 h45
  go_enter Tryd.func47, Tryd.ntmps47
  go_wp2_with fail
  refine (trim0_any (s) w (by omega)).mono ?_
  rintro e w1 ⟨⟨t, rfl, ht⟩, hb1⟩
  cases hall : (s).data.toList.all isDig
  · have hx := str_empty' (t := t) (fun h => by rw [← Lib.toList_data, ht, hall] at h; cases h)
    obtain ⟨hx1, hx2⟩ := hx
    have HB := Lib.hid ((hb.trans hall : b = false))
    clear ht hall hb
    go_wp2_with fail
    go_ret
    exact ⟨ret_bool HB.out.symm, hb1⟩
  · have hx1 : t.toList = [] := ht.2 hall
    have HB := Lib.hid ((hb.trans hall : b = true))
    clear ht hall hb
    go_wp2_with fail
    go_ret
    exact ⟨ret_bool HB.out.symm, hb1⟩
end Go.Proofs.YtkgebnbdgiengaaDoor
