/- ScriptOne, walked. -/
import Derived.Test.YthhchicggidhcabDoorMoParse
import Derived.Test.YthhchicggidhcabDoorMoNumEq
import Derived.Test.YthhchicggidhcabDoorMoAwake
import Derived.Test.YthhchicggidhcabDoorMoSame
import Derived.Test.YthhchicggidhcabDoorMoBackP
import Derived.Test.YthhchicggidhcabDoorMoPrintB
namespace Go.Proofs.YthhchicggidhcabDoor
open Go.RowKit

theorem numOf_I64 {w : ByteArray} {v : Int} (h : numOf w = some v) : I64 v := parseIntB_range (numOf_some h).1
theorem numsOf_I64 : ∀ {l : List ByteArray} {xs : List Int}, numsOf l = some xs → ∀ x ∈ xs, I64 x
  | [], xs, h => by simp only [numsOf, Option.some.injEq] at h; subst h; simp
  | w :: r, xs, h => by
    simp only [numsOf] at h
    split at h
    · rename_i x ys h1 h2
      cases h
      intro y hy
      rcases List.mem_cons.1 hy with rfl | hy
      · exact numOf_I64 h1
      · exact numsOf_I64 h2 y hy
    · cases h
theorem unbL_len : ∀ (l : List UInt8) (p : List Int × Bool), unbL l = some p → p.1.length ≤ l.length
  | [], p, h => by simp only [unbL, Option.some.injEq] at h; subst h; simp
  | [_], p, h => by simp only [unbL, Option.some.injEq] at h; subst h; simp
  | a :: b :: r, p, h => by
    rw [unbL] at h
    split at h
    · cases h
    · cases hr : unbL r with
      | none => rw [hr] at h; cases h
      | some q =>
        rw [hr] at h
        simp only [Option.map_some, Option.some.injEq] at h
        subst h
        have := unbL_len r q hr
        simp only [List.length_cons]; omega
/-- A job that Print can take. -/
def Fit (s : JS) : Prop := s.src.size ≤ 1048576 ∧ s.inp.size ≤ 1048576 ∧ I64 s.lim ∧ I64 s.fuel ∧ (∀ c ∈ s.forced, I64 c.1 ∧ I64 c.2.1 ∧ I64 c.2.2) ∧ s.forced.length ≤ 1000
theorem fit0 : Fit js0 := ⟨Nat.zero_le _, Nat.zero_le _, ⟨by decide, by decide⟩, ⟨by decide, by decide⟩, by intro c hc; exact absurd hc (by simp [js0]), Nat.zero_le _⟩
theorem strOfNums_size (xs : List Int) : (strOfNums xs).size = xs.length := by simp [strOfNums, ByteArray.size]
theorem rd_fit {s : JS} {seen : List (List UInt8)} {l : ByteArray} {q : JS × List (List UInt8)} (h : rd s seen l = .ok q) (hf : Fit s) (hl : l.size ≤ 1048576) : Fit q.1 := by
  have hq := (rd_ok h hf.2.2.2.2.2).2
  obtain ⟨f1, f2, f3, f4, f5, f6⟩ := hf
  unfold rd at h
  split at h
  · cases h; exact ⟨f1, f2, f3, f4, f5, f6⟩
  · have hw : ∀ x ∈ words l, x.size ≤ 1048576 := fun x hx => Nat.le_trans (words_size l x hx) hl
    have ht : ∀ x ∈ (words l).tail, x.size ≤ 1048576 := fun x hx => hw x (List.mem_of_mem_tail hx)
    generalize (words l).tail = args at *
    unfold rdWord at h
    split at h
    · split at h
      · rename_i x
        split at h
        · cases h
        · rename_i xs b hu
          have := isOne_ok h; subst this
          have h1 := unbL_len _ _ hu
          have h2 := ht x (by simp)
          refine ⟨f1, ?_, f3, f4, f5, f6⟩
          show (strOfNums xs).size ≤ _
          rw [strOfNums_size]
          rw [← bsize'] at h1
          simp only at h1
          omega
      · cases h
    · split at h
      · split at h
        · rename_i x hn
          have := isOne_ok h; subst this
          exact ⟨f1, f2, numsOf_I64 hn x (by simp), f4, f5, f6⟩
        · cases h
      · split at h
        · split at h
          · rename_i x hn
            have := isOne_ok h; subst this
            exact ⟨f1, f2, f3, numsOf_I64 hn x (by simp), f5, f6⟩
          · cases h
        · split at h
          · split at h
            · rename_i x y z hn
              split at h
              · cases h
              · cases h
                refine ⟨f1, f2, f3, f4, fun c hc => ?_, hq⟩
                rcases List.mem_append.1 hc with hc | hc
                · exact f5 c hc
                · obtain rfl := List.mem_singleton.1 hc
                  exact ⟨numsOf_I64 hn x (by simp), numsOf_I64 hn y (by simp), numsOf_I64 hn z (by simp)⟩
            · cases h
          · cases h
theorem prs_fit : ∀ (xs : List (Nat × ByteArray × ByteArray)) (s : JS) (seen : List (List UInt8)) (j : JS), prs s seen xs = .ok j → Fit s → (∀ x ∈ xs, x.2.1.size ≤ 1048576 ∧ x.2.2.size ≤ 1048576) → Fit j
  | [], s, seen, j, h, hf, _ => by simp only [prs, Except.ok.injEq] at h; subst h; exact hf
  | x :: r, s, seen, j, h, hf, hx => by
    simp only [prs] at h
    split at h
    · cases h
      exact ⟨(hx x (by simp)).2, hf.2⟩
    · split at h
      · cases h
      · rename_i q hq
        exact prs_fit r _ _ j h (rd_fit hq hf (hx x (by simp)).1) (fun y hy => hx y (List.mem_cons_of_mem _ hy))
theorem parse_fit {s : ByteArray} {j : JS} (hs : s.size ≤ 1048576) (h : prs js0 [] (lns s) = .ok j) : Fit j :=
  prs_fit _ _ _ _ h fit0 fun x hx => ⟨Nat.le_trans (lnsF_size _ _ _ x hx).1 hs, Nat.le_trans (lnsF_size _ _ _ x hx).2 hs⟩
end Go.Proofs.YthhchicggidhcabDoor

namespace Go.Proofs.YthhchicggidhcabDoor
open Go.RowKit

theorem dec_err {l : List UInt8} {x : Int} (h : dec l = .error x) : x = 9 ∨ x = 12 := by
  unfold dec at h
  repeat' split at h
  all_goals first
    | (cases h; exact .inl rfl)
    | (cases h; exact .inr rfl)
    | (cases h; done)
theorem prs_err : ∀ (xs : List (Nat × ByteArray × ByteArray)) (s : JS) (seen : List (List UInt8)) (x : Nat × Int), prs s seen xs = .error x → x.2 = 9 ∨ x.2 = 12
  | [], s, seen, x, h => by cases h
  | y :: r, s, seen, x, h => by
    simp only [prs] at h
    split at h
    · cases h
    · split at h
      · rename_i e he
        cases h
        exact rd_err he
      · exact prs_err r _ _ x h
theorem decode_two (b : ByteArray) (w : World) (hs : b.size ≤ 1048576) :
    Calls Tryd.prog 5 #[.string b] w fun e w' => ∃ (j : JS) (A : Option Addr) (c : Nat) (x : Int), e = .returned (.tuple #[.agg #[.string j.src, .string j.inp, .int .i64 j.lim, .int .i64 j.fuel, .slice A j.forced.length c], .int .i64 x]) ∧ Below w.heap.size w w' ∧
      (x = 0 ∧ dec b.data.toList = .ok j ∧ Reads w' 43 A (colls j.forced) ∨ x = 9 ∨ x = 12) := by
  refine (Decode_any b w hs).mono fun e w' ⟨he, hb⟩ => ?_
  cases hd : sDec b.data.toList with
  | ok j =>
    rw [hd] at he
    obtain ⟨A, c, rfl, ho⟩ := he
    rw [sDec_eq] at hd
    exact ⟨j, A, c, 0, rfl, hb, .inl ⟨rfl, hd, own_reads ho⟩⟩
  | error x =>
    rw [hd] at he
    rw [sDec_eq] at hd
    exact ⟨js0, none, 0, x, he, hb, .inr (dec_err hd)⟩
theorem parse_two (s : ByteArray) (w : World) (hL : Lw w) (hs : s.size ≤ 1048576) :
    Calls Tryd.prog 7 #[.string s] w fun e w' => ∃ (j : JS) (A : Option Addr) (c : Nat) (n x : Int), e = .returned (.tuple #[.agg #[.string j.src, .string j.inp, .int .i64 j.lim, .int .i64 j.fuel, .slice A j.forced.length c], .int .i64 n, .int .i64 x]) ∧ Below w.heap.size w w' ∧
      (x = 0 ∧ Fit j ∧ j.forced.length ≤ c ∧ Reads w' 43 A (colls j.forced) ∨ x = 9 ∨ x = 12) := by
  refine (parse_any s w hL hs).mono fun e w' ⟨he, hb⟩ => ?_
  by_cases hl : 65536 < s.size
  · rw [if_pos hl] at he
    exact ⟨js0, none, 0, 0, 12, he, hb, .inr (.inr rfl)⟩
  · rw [if_neg hl] at he
    cases hd : prs js0 [] (lns s) with
    | ok j =>
      rw [hd] at he
      obtain ⟨A, c, rfl, ho⟩ := he
      obtain ⟨A', c', he, hc⟩ := own_lt' ho
      cases he
      exact ⟨j, A, c, 0, 0, rfl, hb, .inl ⟨rfl, parse_fit hs hd, hc, own_reads ho⟩⟩
    | error x =>
      rw [hd] at he
      exact ⟨js0, none, 0, x.1, x.2, he, hb, .inr (prs_err _ _ _ _ hd)⟩
theorem parse_back (t : ByteArray) (src inp : ByteArray) (lim fuel : Int) (fs : List (Int × Int × Int)) (w : World) (hL : Lw w) (hs : t.size ≤ 65536) (hp : prs js0 [] (lns t) = .ok ⟨src, inp, lim, fuel, fs⟩) :
    Calls Tryd.prog 7 #[.string t] w fun e w' => ∃ A c, e = .returned (.tuple #[.agg #[.string src, .string inp, .int .i64 lim, .int .i64 fuel, .slice A fs.length c], .int .i64 0, .int .i64 0]) ∧ Reads w' 43 A (colls fs) ∧ fs.length ≤ c ∧ Below w.heap.size w w' := by
  refine (parse_any t w hL (by omega)).mono fun e w' ⟨he, hb⟩ => ?_
  rw [if_neg (by omega), hp] at he
  obtain ⟨A, c, rfl, ho⟩ := he
  obtain ⟨A', c', he, hc⟩ := own_lt' ho
  cases he
  exact ⟨A, c, rfl, own_reads ho, hc, hb⟩
theorem jobBytes_least (src inp : ByteArray) (lim fuel : Int) (fs : List (Int × Int × Int)) : src.size + inp.size ≤ (jobBytes src inp lim fuel fs).length := by
  unfold jobBytes
  simp only [List.length_append, bytesOf'_length]; omega
theorem encode_at (b : ByteArray) (src inp : ByteArray) (lim fuel : Int) (fs : List (Int × Int × Int)) (h : dec b.data.toList = .ok ⟨src, inp, lim, fuel, fs⟩) (A : Option Addr) (c : Nat) (w : World) {T : Nat} (hR : Reads w T A (colls fs)) :
    Calls Tryd.prog 6 #[.agg #[.string src, .string inp, .int .i64 lim, .int .i64 fuel, .slice A fs.length c]] w fun e w' => e = .returned (.tuple #[.string b, .int .i64 0]) ∧ Below w.heap.size w w' := by
  obtain ⟨s1, i1, h1, h2, _, _, _, h6, h7, h8⟩ := dec_back h
  replace h1 : src = mk s1 := h1
  replace h2 : inp = mk i1 := h2
  replace h6 : fs.length ≤ 1000 := h6
  replace h8 : b.data.toList = jobB s1 i1 lim fuel fs := h8
  have e1 : src.data.toList = s1 := by rw [h1, mk_list]
  have e2 : inp.data.toList = i1 := by rw [h2, mk_list]
  have hs := strOf_job src inp lim fuel fs
  rw [e1, e2, ← h8] at hs
  have hb : strOfNums (jobBytes src inp lim fuel fs) = b := by rw [← mk_self (strOfNums _), hs, mk_self]
  have hlen : (jobBytes src inp lim fuel fs).length ≤ 65536 := by
    rw [← jobB_len, e1, e2, ← h8]; exact h7
  have hm := jobBytes_least src inp lim fuel fs
  have he : encRes src inp lim fuel fs = .tuple #[.string b, .int .i64 0] := by
    unfold encRes encRes1
    rw [if_neg (by omega), hb]
  rw [← he]
  exact Encode_any src inp lim fuel fs A c w hR (by omega) (by omega)

set_option maxRecDepth 100000 in
set_option maxHeartbeats 4000000 in
theorem ScriptOne_any (b s : ByteArray) (w : World) (hL : Lw w) (hbs : b.size ≤ 9223372036854775807) (hss : s.size ≤ 9223372036854775807) :
    Calls Tryd.prog 3 #[.string b, .string s] w fun e w' => e = .returned (.bool true) ∧ Below w.heap.size w w' := by
  go_enter Tryd.func3, Tryd.ntmps3
  by_cases h1 : 70000 < b.size
  · go_wp2_with fail
    with_reducible refine (awake_any _ hL).mono ?_
    rintro e w9 ⟨rfl, hb9⟩
    go_wp2_with fail
    go_ret
    exact ⟨rfl, hb9⟩
  · by_cases h2 : 70000 < s.size
    · go_wp2_with fail
      with_reducible refine (awake_any _ hL).mono ?_
      rintro e w9 ⟨rfl, hb9⟩
      go_wp2_with fail
      go_ret
      exact ⟨rfl, hb9⟩
    · go_wp2_with fail
      with_reducible refine (decode_two b w (by omega)).mono ?_
      rintro e w1 ⟨j, A, c, x, rfl, hB, hx⟩
      obtain ⟨src, inp, lim, fuel, fs⟩ := j
      dsimp only at hx ⊢
      have H1 := Lib.hid (And.intro h1 h2)
      clear h1 h2
      go_upto_if 32 with (fail)
      go_cut [] (fun wd => Below w.heap.size w wd)
      case first =>
        rcases hx with ⟨rfl, hd, hR⟩ | rfl | rfl
        · have hRk := hR.below ((Below.refl _ _).alloc (Nat.le_refl _) (.cells #[.string src, .string inp, .int .i64 lim, .int .i64 fuel, .slice A fs.length c] 25))
          have HD := Lib.hid hd
          clear hd
          go_wp2_with fail
          with_reducible refine (encode_at b src inp lim fuel fs HD.out A c _ hRk).mono ?_
          rintro e w3 ⟨rfl, hb3⟩
          have hB3 := belA' hB hB.size hb3
          clear hb3 hRk hR
          have hbb : (b.toList == b.toList) = true := beq_self_eq_true _
          go_wp2_with fail
          go_meet
          case rel => exact hB3
        · go_wp2_with fail
          go_meet
          case rel => exact hB.alloc hB.size _
        · go_wp2_with fail
          go_meet
          case rel => exact hB.alloc hB.size _
      case rest =>
        clear hB hx
        go_wp2_with fail
        with_reducible refine (parse_two s wc (hL.below hcut) (by have := H1.out; omega)).mono ?_
        rintro e w2 ⟨j2, A2, c2, n2, x2, rfl, hb2, hx2⟩
        obtain ⟨src2, inp2, lim2, fuel2, fs2⟩ := j2
        dsimp only at hx2 ⊢
        have hB2 := hcut.trans (hb2.mono hcut.size)
        clear hb2 hcut
        rcases hx2 with ⟨rfl, hfit, hc2, hR2⟩ | rfl | rfl
        · have HF := Lib.hid (show src2.size ≤ 1048576 ∧ inp2.size ≤ 1048576 ∧ I64 lim2 ∧ I64 fuel2 ∧ (∀ c ∈ fs2, I64 c.1 ∧ I64 c.2.1 ∧ I64 c.2.2) ∧ fs2.length ≤ 1000 from hfit)
          have HC := Lib.hid hc2
          clear hfit hc2
          go_wp2_with fail
          have hj := blk_new (w := w2) (n := w2.heap.size) (.cells #[.string src2, .string inp2, .int .i64 lim2, .int .i64 fuel2, .slice A2 fs2.length c2] 25) rfl
          have hB : Below w.heap.size w (w2.alloc (.cells #[.string src2, .string inp2, .int .i64 lim2, .int .i64 fuel2, .slice A2 fs2.length c2] 25)) := hB2.alloc hB2.size _
          have hRk := hR2.below ((Below.refl _ _).alloc (Nat.le_refl _) (.cells #[.string src2, .string inp2, .int .i64 lim2, .int .i64 fuel2, .slice A2 fs2.length c2] 25))
          clear hR2 hB2
          generalize w2.alloc (.cells #[.string src2, .string inp2, .int .i64 lim2, .int .i64 fuel2, .slice A2 fs2.length c2] 25) = w3 at *
          with_reducible refine (Print_both src2 inp2 A2 c2 w3 (hL.below hB) hRk (by have := HF.out.2.2.2.2.2; omega) HF.out.1 HF.out.2.1 HF.out.2.2.1 HF.out.2.2.2.1 HF.out.2.2.2.2.1).mono ?_
          rintro e w4 ⟨rfl, hb4⟩
          replace hj := blk_belowS hb4 hj
          replace hRk := hRk.below hb4
          replace hB := hB.trans (hb4.mono hB.size)
          clear hb4
          have hE : (prBoth src2 inp2 lim2 fuel2 fs2).2 = 0 ∧ (prBoth src2 inp2 lim2 fuel2 fs2).1 = prB src2 inp2 lim2 fuel2 fs2 ∧ fs2.length ≤ 1000 ∧ (prB src2 inp2 lim2 fuel2 fs2).size ≤ 65536 ∨ (prBoth src2 inp2 lim2 fuel2 fs2).2 = 12 := by
            unfold prBoth
            by_cases h : 1000 < fs2.length ∨ 65536 < (prB src2 inp2 lim2 fuel2 fs2).size
            · rw [if_pos h]; exact .inr rfl
            · rw [if_neg h]; exact .inl ⟨rfl, rfl, by omega, by omega⟩
          generalize prBoth src2 inp2 lim2 fuel2 fs2 = Y at *
          obtain ⟨t, ee⟩ := Y
          dsimp only at hE ⊢
          rcases hE with ⟨rfl, ht, hl1, hsz⟩ | rfl
          · have hp1 := prs_print src2 inp2 HF.out.2.2.1 HF.out.2.2.2.1 HF.out.2.2.2.2.1 hl1
            rw [← ht] at hp1 hsz
            have HP := Lib.hid hp1
            clear ht hp1
            go_wp2_with fail
            with_reducible refine (parse_back t src2 inp2 lim2 fuel2 fs2 w4 (hL.below hB) hsz HP.out).mono ?_
            rintro e w5 ⟨A5, c5, rfl, hR5, hc5, hb5⟩
            have hj5 := blk_belowS hb5 hj
            have hB5 := hB.trans (hb5.mono hB.size)
            have hRk5 := hRk.below hb5
            clear hb5 hj hB hRk
            have hlt := blk_lt hj5
            obtain ⟨d0, d1, d2, d3, d4⟩ := keep5 hj5
            have hRl := hR5.below ((Below.refl _ _).alloc (Nat.le_refl _) (.cells #[.string src2, .string inp2, .int .i64 lim2, .int .i64 fuel2, .slice A5 fs2.length c5] 25))
            have hRj := hRk5.below ((Below.refl _ _).alloc (Nat.le_refl _) (.cells #[.string src2, .string inp2, .int .i64 lim2, .int .i64 fuel2, .slice A5 fs2.length c5] 25))
            go_wp2_with fail
            with_reducible refine (same_any src2 inp2 lim2 fuel2 fs2 A5 A2 c5 c2 _ hRl hRj (by omega) hc5 HC.out).mono ?_
            rintro e w6 ⟨rfl, hb6⟩
            have hB6 := belA' hB5 hB5.size hb6
            clear hb6 hRl hRj hR5 hRk5 d0 d1 d2 d3 d4
            go_wp2_with fail
            with_reducible refine (awake_any _ (hL.below hB6)).mono ?_
            rintro e w9 ⟨rfl, hb9⟩
            have hB9 := hB6.trans (hb9.mono hB6.size)
            clear hb9
            go_wp2_with fail
            go_ret
            exact ⟨rfl, hB9⟩
          · go_wp2_with fail
            with_reducible refine (awake_any _ (hL.below hB)).mono ?_
            rintro e w9 ⟨rfl, hb9⟩
            have hB9 := hB.trans (hb9.mono hB.size)
            clear hb9
            go_wp2_with fail
            go_ret
            exact ⟨rfl, hB9⟩
        · go_wp2_with fail
          have hB := hB2.alloc hB2.size (.cells #[.string src2, .string inp2, .int .i64 lim2, .int .i64 fuel2, .slice A2 fs2.length c2] 25)
          with_reducible refine (awake_any _ (hL.below hB)).mono ?_
          rintro e w9 ⟨rfl, hb9⟩
          have hB9 := hB.trans (hb9.mono hB.size)
          clear hb9
          go_wp2_with fail
          go_ret
          exact ⟨rfl, hB9⟩
        · go_wp2_with fail
          have hB := hB2.alloc hB2.size (.cells #[.string src2, .string inp2, .int .i64 lim2, .int .i64 fuel2, .slice A2 fs2.length c2] 25)
          with_reducible refine (awake_any _ (hL.below hB)).mono ?_
          rintro e w9 ⟨rfl, hb9⟩
          have hB9 := hB.trans (hb9.mono hB.size)
          clear hb9
          go_wp2_with fail
          go_ret
          exact ⟨rfl, hB9⟩
end Go.Proofs.YthhchicggidhcabDoor
