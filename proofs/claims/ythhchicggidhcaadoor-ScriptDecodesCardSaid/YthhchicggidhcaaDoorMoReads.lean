/- The program's reads: one line of a job's text. -/
import Derived.Test.YthhchicggidhcaaDoorMoStood
import Derived.Deep.RegionHeld3
import Derived.Deep.RegionLaw
import Derived.Deep.DeepCutAuto
import Derived.Deep.CutBlock
namespace Go.Proofs.YthhchicggidhcaaDoor
open Go.RowKit

theorem bs_eq {a b : ByteArray} (h : a.toList = b.toList) : a = b := by
  rw [ByteArray.toList_eq, ByteArray.toList_eq] at h
  cases a; cases b; simpa using h
theorem bs_ne {a b : ByteArray} (h : a ≠ b) : ¬ a.toList = b.toList := fun e => h (bs_eq e)

theorem words_args (s : ByteArray) : (words s).length ≤ s.size + 1 := by
  rw [words_len]; have := Lib.countB_le ⟨#[32]⟩ (by decide) s.size s (Nat.le_refl _); omega
theorem wf64 {x : Int} (h1 : -9223372036854775808 ≤ x) (h2 : x ≤ 9223372036854775807) : (Lit.int .i64 x).wf = true := by
  simp only [Lit.wf, Bool.and_eq_true, decide_eq_true_eq]; exact ⟨h1, h2⟩

theorem lit_inj {a b : Int} (h : (DataW.lit (.int .i64 a) : DataW Nat) = .lit (.int .i64 b)) : a = b := by cases h; rfl

theorem one_beq {n : Nat} {c : Int} (h : (n : Int) + 1 = c) : (c == 1) = decide (n = 0) := by
  subst h; rw [Bool.eq_iff_iff, beq_iff_eq, decide_eq_true_iff]; omega
theorem put_at {D : DataW Nat} (hD : Maps.IsMap D) (kb : List UInt8) (x z : DataW Nat) : (D.put (.string kb) x).atKey (.string kb) z = x := Maps.atKey_put_same hD (by exact trivial) _ _
theorem stood_put {w2 : World} {mb : Nat} {seen : List (List UInt8)} {kb : List UInt8} {D : DataW Nat} (hm : Maps.IsMap D) (hat : ∀ kb, D.atKey (.string kb) (.lit (.int .i64 0)) = .lit (.int .i64 (seen.count kb : Nat)))
    (hD : w2.ownsMap Tryd.prog 9 (plainElem Tryd.prog 3) mb (seen.length + 1) (D.put (.string kb) (.lit (.int .i64 ((seen.count kb : Nat) + 1))))) : Stood w2 mb (kb :: seen) := by
  refine ⟨_, hD, fun kb' => ?_⟩
  by_cases e : kb' = kb
  · subst e; rw [put_at hm, List.count_cons_self]; rfl
  · rw [Maps.atKey_put_other (fun q => e (by injection q)), hat, List.count_cons_of_ne (fun q => e q.symm)]

theorem JobAt.below {w w' : World} {jb base : Nat} {A : Option Addr} {c : Nat} {s : JS} (h : JobAt w jb base A c s) (hb : Below w.heap.size w w') : JobAt w' jb base A c s := ⟨blk_belowS hb h.1, own_below' h.2 hb⟩
theorem jobAt_in {w : World} {jb base : Nat} {A : Option Addr} {c : Nat} {s : JS} (h : JobAt w jb base A c s) (x : ByteArray) : JobAt (w.setCell ⟨jb, 1, none⟩ (.string x)) jb base A c { s with inp := x } :=
  ⟨blk_set h.1 _, own_set h.2 (own_far h.2 h.1 (by decide)) _⟩
theorem jobAt_lim {w : World} {jb base : Nat} {A : Option Addr} {c : Nat} {s : JS} (h : JobAt w jb base A c s) (x : Int) : JobAt (w.setCell ⟨jb, 2, none⟩ (.int .i64 x)) jb base A c { s with lim := x } :=
  ⟨blk_set h.1 _, own_set h.2 (own_far h.2 h.1 (by decide)) _⟩
theorem jobAt_fuel {w : World} {jb base : Nat} {A : Option Addr} {c : Nat} {s : JS} (h : JobAt w jb base A c s) (x : Int) : JobAt (w.setCell ⟨jb, 3, none⟩ (.int .i64 x)) jb base A c { s with fuel := x } :=
  ⟨blk_set h.1 _, own_set h.2 (own_far h.2 h.1 (by decide)) _⟩
theorem stood_set {w : World} {mb jb j : Nat} {seen : List (List UInt8)} (h : Stood w mb seen) (hne : mb ≠ jb) (v : Value) : Stood (w.setCell ⟨jb, j, none⟩ v) mb seen := h.blk (Below.heap_setCell w ⟨jb, j, none⟩ v mb hne)

theorem colls_snoc (fs : List (Int × Int × Int)) (x y z : Int) : colls (fs ++ [(x, y, z)]) = colls fs ++ [.int .i64 x, .int .i64 y, .int .i64 z] := by simp [colls]
theorem jobAt_app {w5 : World} {jb base : Nat} {A A5 : Option Addr} {c c5 : Nat} {s : JS} {x y z : Int} (hj : w5.heap[jb]? = some (.cells #[.string s.src, .string s.inp, .int .i64 s.lim, .int .i64 s.fuel, .slice A s.forced.length c] 24 (0, 0)))
    (ho : w5.ownsRow base 65 3 (.slice A5 (s.forced.length + 1) c5) (s.forced.length + 1) (colls s.forced ++ [.int .i64 x, .int .i64 y, .int .i64 z])) :
    JobAt (w5.setCell ⟨jb, 4, none⟩ (.slice A5 (s.forced.length + 1) c5)) jb base A5 c5 { s with forced := s.forced ++ [(x, y, z)] } := by
  have hl : (s.forced ++ [(x, y, z)]).length = s.forced.length + 1 := by simp
  unfold JobAt
  simp only [hl, colls_snoc]
  exact ⟨blk_set hj _, own_set ho (own_far ho hj (by decide)) _⟩
/-- Where the ways of the switch meet. -/
def RMid (jb mb base : Nat) (A : Option Addr) (c : Nat) (s : JS) (seen : List (List UInt8)) (l : ByteArray) (w : World) (ok : Bool) (wd : World) : Prop :=
  (match ok with
  | true => ∃ s' A' c' seen', rd s seen l = .ok (s', seen') ∧ JobAt wd jb base A' c' s' ∧ Stood wd mb seen'
  | false => rd s seen l = .error 9) ∧ FrX (fun k => k = jb ∨ k = mb ∨ some k = (Value.slice A s.forced.length c).ownBlock) w wd
theorem Stood.grown4 {w w5 : World} {mb : Nat} {seen : List (List UInt8)} {base : Nat} {e : TypeId} {size n : Nat} {v : Value} {xs : List Value} (h : Stood w mb seen) (o : Obj) (ho : (w.alloc o).drew.ownsRow base e size v n xs) (hg : (w.alloc o).drew.grownBy w5 v.ownBlock) : Stood w5 mb seen := by
  have h1 : Stood (w.alloc o).drew mb seen := h.below ((Below.refl w.heap.size w).alloc (Nat.le_refl _) o).drew
  refine h1.blk (hg.block mb h1.lt fun q => ?_)
  obtain ⟨es, cl, hk⟩ := h1.kind
  obtain ⟨_, cs, hcs⟩ := own_type ho mb q.symm
  rw [hk] at hcs; cases hcs

theorem fin27 {w w3 w5 : World} {jb mb base : Nat} {A A5 : Option Addr} {c c5 : Nat} {s : JS} {seen seen2 : List (List UInt8)} {l : ByteArray} {x y z : Int} (o : Obj)
    (hj : w5.heap[jb]? = some (.cells #[.string s.src, .string s.inp, .int .i64 s.lim, .int .i64 s.fuel, .slice A s.forced.length c] 24 (0, 0)))
    (ho5 : w5.ownsRow base 65 3 (.slice A5 (s.forced.length + 1) c5) (s.forced.length + 1) (colls s.forced ++ [.int .i64 x, .int .i64 y, .int .i64 z]))
    (ho4 : (w3.alloc o).drew.ownsRow base 65 3 (.slice A s.forced.length c) s.forced.length (colls s.forced))
    (hg5 : (w3.alloc o).drew.grownBy w5 (Value.slice A s.forced.length c).ownBlock) (hM : Stood w3 mb seen2)
    (hF : FrX (fun k => k = jb ∨ k = mb ∨ some k = (Value.slice A s.forced.length c).ownBlock) w w3) (hjm : mb ≠ jb) (hfl : ¬ s.forced.length = 1000)
    (HQ : Hid (rd s seen l = if s.forced.length = 1000 then .error 12 else .ok ({ src := s.src, inp := s.inp, lim := s.lim, fuel := s.fuel, forced := s.forced ++ [(x, y, z)] }, seen2))) :
    RMid jb mb base A c s seen l w true (w5.setCell ⟨jb, 4, none⟩ (.slice A5 (s.forced.length + 1) c5)) := by
  have hM5 : Stood w5 mb seen2 := hM.grown4 o ho4 hg5
  have hF5 : FrX (fun k => k = jb ∨ k = mb ∨ some k = (Value.slice A s.forced.length c).ownBlock) w w5 := (hF.alloc o).drew.trans (FrX.grown hg5 fun q e => .inr (.inr e.symm))
  exact ⟨⟨_, _, _, _, HQ.out.trans (if_neg hfl), jobAt_app hj ho5, stood_set hM5 hjm _⟩, hF5.trans (FrX.setCell _ (.inl rfl))⟩

set_option maxRecDepth 100000 in
set_option maxHeartbeats 16000000 in
theorem reads_any (w0 w : World) (hL : Lw w0) (hB : Below w0.heap.size w0 w) (jb mb : Nat) (A : Option Addr) (c : Nat) (s : JS) (seen : List (List UInt8)) (hJ : JobAt w jb w0.heap.size A c s) (hM : Stood w mb seen)
    (hjb : w0.heap.size ≤ jb) (hmb : w0.heap.size ≤ mb) (hseen : seen.length ≤ 1000000) (hf : s.forced.length ≤ 1000) (l : ByteArray) (hl : l.size ≤ 1048576) :
    Calls Tryd.prog 47 #[.pointer (some ⟨jb, 0, none⟩), .string l, .map (some mb)] w (ReadsPost jb mb w0.heap.size A c s seen l w) := by
  go_enter Tryd.func47, Tryd.ntmps47
  by_cases h0 : l.data.toList.head? = none ∨ l.data.toList.head? = some 35
  · have hres : rd s seen l = .ok (s, seen) := by rw [rd, if_pos h0]
    have HR := Lib.hid hres
    clear hres
    rcases h0 with h0 | h0
    · have : l = ⟨#[]⟩ := by
        cases l with | mk d => cases d with | mk t => cases t with
          | nil => rfl
          | cons a b => simp at h0
      subst this
      go_wp2_with fail
      go_ret
      unfold ReadsPost
      rw [HR.out]
      exact ⟨⟨rfl, ⟨_, _, hJ⟩, hM⟩, FrX.refl _ _⟩
    · have hp : 0 < l.size := by
        cases l with | mk d => cases d with | mk t => cases t with
          | nil => simp at h0
          | cons a b => simp [ByteArray.size]
      have hc : l[0] = 35 := by
        cases l with | mk d => cases d with | mk t => cases t with
          | nil => simp at h0
          | cons a b => simp at h0; subst h0; rfl
      have h1 : (l.toList == []) = false := by
        rw [ByteArray.toList_eq]
        cases l with | mk d => cases d with | mk t => cases t with
          | nil => simp at h0
          | cons a b => rfl
      go_wp2_with fail
      go_ret
      unfold ReadsPost
      rw [HR.out]
      exact ⟨⟨rfl, ⟨_, _, hJ⟩, hM⟩, FrX.refl _ _⟩
  · have hp : 0 < l.size := by
      cases l with | mk d => cases d with | mk t => cases t with
        | nil => simp at h0
        | cons a b => simp [ByteArray.size]
    have hc : ¬ l[0] = 35 := by
      cases l with | mk d => cases d with | mk t => cases t with
        | nil => simp at h0
        | cons a b => simp at h0; exact h0
    have h1 : (l.toList == []) = false := by
      rw [ByteArray.toList_eq]
      cases l with | mk d => cases d with | mk t => cases t with
        | nil => simp at h0
        | cons a b => rfl
    have hc2 : ((l[0].toNat : Int) == 35) = false := by
      rw [beq_eq_false_iff_ne]; intro e; apply hc; apply UInt8.toNat_inj.1; rw [show (35 : UInt8).toNat = 35 from rfl]; omega
    obtain ⟨k, args, hws⟩ : ∃ k args, words l = k :: args := by
      have := words_pos l
      cases hq : words l with
      | nil => rw [hq] at this; simp at this
      | cons a b => exact ⟨a, b, rfl⟩
    have hsz : ∀ t ∈ words l, t.size ≤ l.size := words_size l
    have hres : rd s seen l = rdWord s (k.data.toList :: seen) (decide (seen.count k.data.toList = 0)) k args := by
      rw [rd, if_neg h0, hws]; rfl
    have HR := Lib.hid hres
    clear hres h0
    go_wp2_with fail
    refine (split_any l w (hL.below hB).shaped hl).mono ?_
    rintro e w1 ⟨rfl, rfl⟩
    rw [hws]
    rw [hws] at hsz
    have hB1 : Below w.heap.size w (w.alloc (.cells (((k :: args).map Value.string).toArray) 9)) := (Below.refl _ _).alloc (Nat.le_refl _) _
    have hb1 := heap_alloc_new w (.cells (((k :: args).map Value.string).toArray) 9)
    have hJ1 := blk_belowS hB1 hJ.1
    have hM1 := hM.below hB1
    have ho1 := own_below' hJ.2 hB1
    have hs1 : (w.alloc (.cells (((k :: args).map Value.string).toArray) 9)).heap.size = w.heap.size + 1 := by simp
    generalize w.alloc (.cells (((k :: args).map Value.string).toArray) 9) = W1 at *
    have hjm : some jb ≠ some mb := by
      obtain ⟨es, cl, hk⟩ := hM.kind
      intro e; injection e with e; have hq := hJ.1; rw [e, hk] at hq; cases hq
    have hom : ∀ q, (Value.slice A s.forced.length c).ownBlock = some q → some q ≠ some mb := by
      obtain ⟨es, cl, hk⟩ := hM.kind
      intro q hq e; injection e with e
      obtain ⟨_, cs, hcs⟩ := own_type hJ.2 q hq
      rw [e, hk] at hcs; cases hcs
    obtain ⟨D, hD, hat⟩ := hM1
    have c1 : W1.cell? ⟨w.heap.size, 0, none⟩ = some (.string k) := by rw [blk_cell hb1]; rfl
    have hkl : k.size ≤ maxLen := by have := hsz k (by simp); unfold maxLen; omega
    have HKL := Lib.hid hkl
    have hcnt := List.count_le_length (a := k.data.toList) (l := seen)
    have HK : Hid (keyOf Tryd.prog 9 (.string k) = some (.string k.data.toList)) := Lib.hid (WideMaps.keyOf_string_mk Tryd.underlying9 hkl)
    have HW := Lib.hid (wf64 (x := ((seen.count k.data.toList : Nat) : Int) + 1) (by omega) (by omega))
    have hne : some (w.heap.size) ≠ some mb := by have := hM.lt; intro e; injection e; omega
    clear hkl hc
    obtain ⟨once, honce⟩ : ∃ b, decide (seen.count k.data.toList = 0) = b := ⟨_, rfl⟩
    rw [honce] at HR
    have HO := Lib.hid honce
    clear honce
    go_upto_block 0 with (first
      | (at_lookup; refine wpList_lookup_own_int _ rfl _ _ 92 rfl 9 3 .i64 (Maps.string_keyed Tryd.underlying9) Tryd.underlying92 Tryd.underlying3 (Tryd.zeroValue3 _) mb seen.length D rfl hD _ _ rfl HK.out ?_; intro cc hcc hwc; clear hwc; rw [hat] at hcc; obtain rfl : ((seen.count k.data.toList : Nat) : Int) = cc := lit_inj hcc; clear hcc)
      | (at_mapUpdate; refine wpList_mapUpdate_own _ rfl _ _ _ 92 rfl 9 3 (Maps.string_keyed Tryd.underlying9) Tryd.underlying92 _ mb seen.length D rfl hD (by unfold maxLen; omega) _ _ _ rfl rfl HK.out _ [] (plainElem_int Tryd.underlying3 HW.out) ?_; intro w2 hD2 hg2; have hb2 := blk_grown hg2 hb1 hne; have c2 : w2.cell? ⟨w.heap.size, 0, none⟩ = some (.string k) := (by rw [blk_cell hb2]; rfl))
      | (at_lookup; refine wpList_lookup_own_int _ rfl _ _ 92 rfl 9 3 .i64 (Maps.string_keyed Tryd.underlying9) Tryd.underlying92 Tryd.underlying3 (Tryd.zeroValue3 _) mb (seen.length + 1) _ rfl hD2 _ _ rfl HK.out ?_; intro cc hcc hwc; clear hwc; rw [put_at hD.isMap] at hcc; have ho : (cc == 1) = once := (one_beq (lit_inj hcc)).trans HO.out; clear hcc))
    have hM2 := stood_put hD.isMap hat hD2
    have hJ2 : JobAt w2 jb w0.heap.size A c s := ⟨blk_grown hg2 hJ1 hjm, own_grown ho1 hg2 hom⟩
    have hF : FrX (fun k => k = jb ∨ k = mb ∨ some k = (Value.slice A s.forced.length c).ownBlock) w w2 := (FrX.of_below hB1).trans (FrX.grown hg2 fun q e => by cases e; exact .inr (.inl rfl))
    replace hjm : mb ≠ jb := fun e => hjm (by rw [e])
    clear hg2 hb1 hJ1 ho1 hD hat hD2 c1 hM hJ HK HW hne HO hs1 hB1 hom hc2 h1 hcnt
    generalize k.data.toList :: seen = seen2 at *
    have hr := HR.out
    clear HR
    unfold rdWord at hr
    go_cut [9] (fun v9 wd => ∃ ok, v9 = .bool ok ∧ RMid jb mb w0.heap.size A c s seen l w ok wd)
    case first =>
      by_cases hk1 : k = wIn
      · rw [if_pos hk1] at hr
        subst hk1
        have HR := Lib.hid hr
        clear hr
        rw [wIn] at *
        rcases args with _ | ⟨x, _ | ⟨y, args⟩⟩
        · go_wp2_with fail
          go_meet
          case rel => exact ⟨false, rfl, HR.out, hF⟩
        · have hx : x.size ≤ 1048576 := Nat.le_trans (hsz x (by simp)) hl
          have c3 : w2.cell? ⟨w.heap.size, 1, none⟩ = some (.string x) := by rw [blk_cell hb2]; rfl
          have hj2 : w2.cell? ⟨jb, 1, none⟩ = some (.string s.inp) := by rw [blk_cell hJ2.1]; rfl
          have hf2 : w2.frozen? ⟨jb, 1, none⟩ = false := blk_free hJ2.1
          go_wp2_with fail
          refine (unbytes_any x _ hx).mono ?_
          rintro e w3 ⟨he, hb3⟩
          have hJ3 := hJ2.below hb3
          have hM3 := hM2.below hb3
          have hj3 : w3.cell? ⟨jb, 1, none⟩ = some (.string s.inp) := by rw [blk_cell hJ3.1]; rfl
          have hf3 : w3.frozen? ⟨jb, 1, none⟩ = false := blk_free hJ3.1
          have hF3 := hF.trans (FrX.of_below hb3)
          have hjb' : jb = jb := rfl
          clear hJ2 hM2 hj2 hf2 hF hb3 hb2 c2 c3
          have hr := HR.out
          cases hu : unbL x.data.toList with
          | none =>
            rw [hu] at he hr
            subst he
            have HQ := Lib.hid hr
            clear hr HR hu
            go_wp2_with fail
            go_meet
            case rel => exact ⟨false, rfl, HQ.out, hF3.trans (FrX.setCell _ (.inl rfl))⟩
          | some p =>
            obtain ⟨xs, b⟩ := p
            rw [hu] at he hr
            simp only at he hr
            subst he
            obtain ⟨ok, hok⟩ : ∃ ok, (b && decide (0 < xs.length)) = ok := ⟨_, rfl⟩
            rw [hok] at hr
            rw [hok]
            have HQ := Lib.hid hr
            clear hr HR hu hok
            have hJ4 := jobAt_in hJ3 (strOfNums xs)
            have hM4 := stood_set (j := 1) hM3 hjm (.string (strOfNums xs))
            have hF4 := hF3.trans (FrX.setCell (p := ⟨jb, 1, none⟩) (.string (strOfNums xs)) (.inl rfl))
            generalize strOfNums xs = y at *
            cases ok
            · go_wp2_with fail
              go_meet
              case rel => exact ⟨false, rfl, HQ.out, hF4⟩
            · cases once
              · go_wp2_with fail
                go_meet
                case rel => exact ⟨false, rfl, HQ.out, hF4⟩
              · go_wp2_with fail
                go_meet
                case rel => exact ⟨true, rfl, ⟨_, _, _, _, HQ.out, hJ4, hM4⟩, hF4⟩
        · go_wp2_with fail
          go_meet
          case rel => exact ⟨false, rfl, HR.out, hF⟩
      have hk1' := bs_ne hk1
      rw [if_neg hk1] at hr
      have hal : args.length ≤ 1048576 := by
        have := words_len l
        have h3 := words_args l
        rw [hws] at h3
        simp only [List.length_cons] at h3
        omega
      have hL2 : Lw w2 := hL.below (hB.trans (hF.below hB.size fun q hq => by
        rcases hq with rfl | rfl | hq
        · exact hjb
        · exact hmb
        · exact (own_type hJ2.2 q hq.symm).1))
      by_cases hk2 : k = wLimit
      · rw [if_pos hk2] at hr
        subst hk2
        have HR := Lib.hid hr
        clear hr hk1 hk1'
        rw [wLimit] at *
        have hx : ∀ t ∈ args, t.size ≤ 281474976710656 := fun t ht => by have := hsz t (List.mem_cons_of_mem _ ht); omega
        rcases args with _ | ⟨a0, r0⟩
        · have HQ := Lib.hid HR.out
          clear HR
          go_wp2_with fail
          (with_reducible refine (numbers_any _ [] 0 0 rfl _ _ hL2 (Reads.nil _ _ _) (by decide) (by simp)).mono ?_)
          rintro e w3 ⟨⟨A3, c3, rfl, hown⟩, hb3⟩
          have hF3 := hF.trans (FrX.of_below hb3)
          clear hJ2 hM2 hF hb3 hown hb2 c2
          go_wp2_with fail
          go_meet
          case rel => exact ⟨false, rfl, HQ.out, hF3⟩
        have hR2 : Reads w2 9 (some ⟨w.heap.size, 1, none⟩) ((a0 :: r0).map Value.string) := fun _ => ⟨_, 1, _, _, rfl, hb2, fun j _ => by rw [Nat.add_comm]; simp⟩
        go_wp2_with fail
        (with_reducible refine (numbers_any _ (a0 :: r0) (r0.length + 1) (r0.length + 1) (by simp) _ _ hL2 hR2 (by simpa using hal) hx).mono ?_)
        rintro e w3 ⟨he, hb3⟩
        have hJ3 := hJ2.below hb3
        have hM3 := hM2.below hb3
        have hj3 : w3.cell? ⟨jb, 2, none⟩ = some (.int .i64 s.lim) := by rw [blk_cell hJ3.1]; rfl
        have hf3 : w3.frozen? ⟨jb, 2, none⟩ = false := blk_free hJ3.1
        have hF3 := hF.trans (FrX.of_below hb3)
        have hb4 := blk_belowS hb3 hb2
        have c4 : w3.cell? ⟨w.heap.size, 0, none⟩ = some (.string ⟨#[108, 105, 109, 105, 116]⟩) := by rw [blk_cell hb4]; rfl
        clear hJ2 hM2 hF hb3 hb2 hb4 c2 hR2
        have hr := HR.out
        cases hu : numsOf (a0 :: r0) with
        | none =>
          rw [hu] at he hr
          subst he
          have HQ := Lib.hid hr
          clear hr HR hu
          go_wp2_with fail
          go_meet
          case rel => exact ⟨false, rfl, HQ.out, hF3⟩
        | some xs =>
          rw [hu] at he hr
          obtain ⟨A3, c3, rfl, hown⟩ := he
          rcases xs with _ | ⟨x, _ | ⟨y, r⟩⟩
          · have HQ := Lib.hid hr
            clear hr HR hu
            go_wp2_with fail
            go_meet
            case rel => exact ⟨false, rfl, HQ.out, hF3⟩
          · have HQ := Lib.hid hr
            clear hr HR hu
            obtain ⟨nb, no, rfl, hn⟩ := (own_reads hown).cell (j := 0) (by simp [ints])
            replace hn : w3.cell? ⟨nb, no, none⟩ = some (.int .i64 x) := hn
            have hJ4 := jobAt_lim hJ3 x
            have hM4 := stood_set (j := 2) hM3 hjm (.int .i64 x)
            have hF4 := hF3.trans (FrX.setCell (p := ⟨jb, 2, none⟩) (.int .i64 x) (.inl rfl))
            clear hown
            cases once
            · go_wp2_with fail
              go_meet
              case rel => exact ⟨false, rfl, HQ.out, hF4⟩
            · go_wp2_with fail
              go_meet
              case rel => exact ⟨true, rfl, ⟨_, _, _, _, HQ.out, hJ4, hM4⟩, hF4⟩
          · have HQ := Lib.hid hr
            clear hr HR hu
            have hq : (((x :: y :: r).length : Int) == 1) = false := by rw [beq_eq_false_iff_ne, List.length_cons, List.length_cons]; omega
            go_wp2_with fail
            go_meet
            case rel => exact ⟨false, rfl, HQ.out, hF3⟩
      rw [if_neg hk2] at hr
      have hk2' := bs_ne hk2
      by_cases hk3 : k = wFuel
      · rw [if_pos hk3] at hr
        subst hk3
        have HR := Lib.hid hr
        clear hr hk1 hk1' hk2 hk2'
        rw [wFuel] at *
        have hx : ∀ t ∈ args, t.size ≤ 281474976710656 := fun t ht => by have := hsz t (List.mem_cons_of_mem _ ht); omega
        rcases args with _ | ⟨a0, r0⟩
        · have HQ := Lib.hid HR.out
          clear HR
          go_wp2_with fail
          (with_reducible refine (numbers_any _ [] 0 0 rfl _ _ hL2 (Reads.nil _ _ _) (by decide) (by simp)).mono ?_)
          rintro e w3 ⟨⟨A3, c3, rfl, hown⟩, hb3⟩
          have hF3 := hF.trans (FrX.of_below hb3)
          clear hJ2 hM2 hF hb3 hown hb2 c2
          go_wp2_with fail
          go_meet
          case rel => exact ⟨false, rfl, HQ.out, hF3⟩
        have hR2 : Reads w2 9 (some ⟨w.heap.size, 1, none⟩) ((a0 :: r0).map Value.string) := fun _ => ⟨_, 1, _, _, rfl, hb2, fun j _ => by rw [Nat.add_comm]; simp⟩
        go_wp2_with fail
        (with_reducible refine (numbers_any _ (a0 :: r0) (r0.length + 1) (r0.length + 1) (by simp) _ _ hL2 hR2 (by simpa using hal) hx).mono ?_)
        rintro e w3 ⟨he, hb3⟩
        have hJ3 := hJ2.below hb3
        have hM3 := hM2.below hb3
        have hj3 : w3.cell? ⟨jb, 3, none⟩ = some (.int .i64 s.fuel) := by rw [blk_cell hJ3.1]; rfl
        have hf3 : w3.frozen? ⟨jb, 3, none⟩ = false := blk_free hJ3.1
        have hF3 := hF.trans (FrX.of_below hb3)
        have hb4 := blk_belowS hb3 hb2
        have c4 : w3.cell? ⟨w.heap.size, 0, none⟩ = some (.string ⟨#[102, 117, 101, 108]⟩) := by rw [blk_cell hb4]; rfl
        clear hJ2 hM2 hF hb3 hb2 hb4 c2 hR2
        have hr := HR.out
        cases hu : numsOf (a0 :: r0) with
        | none =>
          rw [hu] at he hr
          subst he
          have HQ := Lib.hid hr
          clear hr HR hu
          go_wp2_with fail
          go_meet
          case rel => exact ⟨false, rfl, HQ.out, hF3⟩
        | some xs =>
          rw [hu] at he hr
          obtain ⟨A3, c3, rfl, hown⟩ := he
          rcases xs with _ | ⟨x, _ | ⟨y, r⟩⟩
          · have HQ := Lib.hid hr
            clear hr HR hu
            go_wp2_with fail
            go_meet
            case rel => exact ⟨false, rfl, HQ.out, hF3⟩
          · have HQ := Lib.hid hr
            clear hr HR hu
            obtain ⟨nb, no, rfl, hn⟩ := (own_reads hown).cell (j := 0) (by simp [ints])
            replace hn : w3.cell? ⟨nb, no, none⟩ = some (.int .i64 x) := hn
            have hJ4 := jobAt_fuel hJ3 x
            have hM4 := stood_set (j := 3) hM3 hjm (.int .i64 x)
            have hF4 := hF3.trans (FrX.setCell (p := ⟨jb, 3, none⟩) (.int .i64 x) (.inl rfl))
            clear hown
            cases once
            · go_wp2_with fail
              go_meet
              case rel => exact ⟨false, rfl, HQ.out, hF4⟩
            · go_wp2_with fail
              go_meet
              case rel => exact ⟨true, rfl, ⟨_, _, _, _, HQ.out, hJ4, hM4⟩, hF4⟩
          · have HQ := Lib.hid hr
            clear hr HR hu
            have hq : (((x :: y :: r).length : Int) == 1) = false := by rw [beq_eq_false_iff_ne, List.length_cons, List.length_cons]; omega
            go_wp2_with fail
            go_meet
            case rel => exact ⟨false, rfl, HQ.out, hF3⟩
      rw [if_neg hk3] at hr
      have hk3' := bs_ne hk3
      by_cases hk4 : k = wCollect
      · rw [if_pos hk4] at hr
        subst hk4
        have HR := Lib.hid hr
        clear hr hk1 hk1' hk2 hk2' hk3 hk3'
        rw [wCollect] at *
        have hx : ∀ t ∈ args, t.size ≤ 281474976710656 := fun t ht => by have := hsz t (List.mem_cons_of_mem _ ht); omega
        rcases args with _ | ⟨a0, r0⟩
        · have HQ := Lib.hid HR.out
          clear HR
          go_wp2_with fail
          (with_reducible refine (numbers_any _ [] 0 0 rfl _ _ hL2 (Reads.nil _ _ _) (by decide) (by simp)).mono ?_)
          rintro e w3 ⟨⟨A3, c3, rfl, hown⟩, hb3⟩
          have hF3 := hF.trans (FrX.of_below hb3)
          clear hJ2 hM2 hF hb3 hown hb2 c2
          go_wp2_with fail
          go_meet
          case rel => exact ⟨false, rfl, HQ.out, hF3⟩
        have hR2 : Reads w2 9 (some ⟨w.heap.size, 1, none⟩) ((a0 :: r0).map Value.string) := fun _ => ⟨_, 1, _, _, rfl, hb2, fun j _ => by rw [Nat.add_comm]; simp⟩
        go_wp2_with fail
        (with_reducible refine (numbers_any _ (a0 :: r0) (r0.length + 1) (r0.length + 1) (by simp) _ _ hL2 hR2 (by simpa using hal) hx).mono ?_)
        rintro e w3 ⟨he, hb3⟩
        have hJ3 := hJ2.below hb3
        have hM3 := hM2.below hb3
        have hj3 : w3.cell? ⟨jb, 4, none⟩ = some (.slice A s.forced.length c) := by rw [blk_cell hJ3.1]; rfl
        have hF3 := hF.trans (FrX.of_below hb3)
        clear hJ2 hM2 hF hb2 c2 hR2
        have hr := HR.out
        cases hu : numsOf (a0 :: r0) with
        | none =>
          rw [hu] at he hr
          subst he
          have HQ := Lib.hid hr
          clear hr HR hu
          go_wp2_with fail
          go_meet
          case rel => exact ⟨false, rfl, HQ.out, hF3⟩
        | some xs =>
          rw [hu] at he hr
          obtain ⟨A3, c3, rfl, hown⟩ := he
          by_cases hxl : xs.length = 3
          · obtain ⟨x, y, z, rfl⟩ : ∃ x y z, xs = [x, y, z] := by
              match xs, hxl with
              | [x, y, z], _ => exact ⟨x, y, z, rfl⟩
            obtain ⟨nb, no, cc3, ff3, rfl, hnb, hnc⟩ := own_reads hown (by simp [ints])
            have hx0 : w3.cell? ⟨nb, no, none⟩ = some (.int .i64 x) := by rw [blk_cell hnb]; exact hnc 0 (by simp [ints])
            have hx1 : w3.cell? ⟨nb, no + 1, none⟩ = some (.int .i64 y) := by rw [blk_cell hnb]; exact hnc 1 (by simp [ints])
            have hx2 : w3.cell? ⟨nb, no + 2, none⟩ = some (.int .i64 z) := by rw [blk_cell hnb]; exact hnc 2 (by simp [ints])
            by_cases hfl : s.forced.length = 1000
            · have HQ := Lib.hid hr
              clear hr HR hu
              go_wp2_with fail
              go_ret
              unfold ReadsPost
              rw [HQ.out]
              simp only [if_pos hfl]
              exact ⟨rfl, hF3⟩
            · have HQ := Lib.hid hr
              clear hr HR hu
              go_upto_region 27 with (fail)
              have hj : w3.drew.heap[jb]? = _ := hJ3.1
              have ho3 : w3.drew.ownsRow _ _ _ _ _ _ := hJ3.2
              replace hnb : w3.drew.heap[nb]? = _ := hnb
              have hle0 : w0.heap.size ≤ w3.drew.heap.size := Nat.le_trans (Nat.le_trans hB.size hF3.size) (Nat.le_refl _)
              have hM4 := hM3
              have hF4 := hF3
              have hf3 : w3.frozen? ⟨jb, 4, none⟩ = false := blk_free hJ3.1
              clear hJ3 hM3 hF3 hown hb3 ho
              have n0 := hnc 0 (by simp [ints])
              have n1 := hnc 1 (by simp [ints])
              have n2 := hnc 2 (by simp [ints])
              clear hnc
              have ho4 : (w3.alloc (.cells #[.int .i64 x, .int .i64 y, .int .i64 z] 65)).drew.ownsRow _ _ _ _ _ _ := ho3.alloc (.cells #[.int .i64 x, .int .i64 y, .int .i64 z] 65)
              have hR4 : Reads (w3.alloc (.cells #[.int .i64 x, .int .i64 y, .int .i64 z] 65)).drew 65 (some ⟨w3.heap.size, 0, none⟩) [.int .i64 x, .int .i64 y, .int .i64 z] := Reads.lit w3 _ _
              have hj4 : (w3.alloc (.cells #[.int .i64 x, .int .i64 y, .int .i64 z] 65)).drew.heap[jb]? = _ := blk_alloc hj (.cells #[.int .i64 x, .int .i64 y, .int .i64 z] 65)
              have hnb4 : (w3.alloc (.cells #[.int .i64 x, .int .i64 y, .int .i64 z] 65)).drew.heap[nb]? = _ := blk_alloc hnb (.cells #[.int .i64 x, .int .i64 y, .int .i64 z] 65)
              have hle4 : w0.heap.size ≤ (w3.alloc (.cells #[.int .i64 x, .int .i64 y, .int .i64 z] 65)).drew.heap.size := by show _ ≤ (w3.alloc (.cells #[.int .i64 x, .int .i64 y, .int .i64 z] 65)).heap.size; rw [World.size_alloc]; exact Nat.le_succ_of_le hle0
              have hnj : nb ≠ jb := fun e => by rw [e, hj] at hnb; cases hnb
              have hc1 : w3.drew.cell? ⟨jb, 4, none⟩ = some (.slice A s.forced.length c) := (blk_cell hj).trans rfl
              have hc4 : (w3.alloc (.cells #[.int .i64 x, .int .i64 y, .int .i64 z] 65)).drew.cell? ⟨jb, 4, none⟩ = some (.slice A s.forced.length c) := (blk_cell hj4).trans rfl
              have hc4' : (w3.alloc (.cells #[.int .i64 x, .int .i64 y, .int .i64 z] 65)).cell? ⟨jb, 4, none⟩ = some (.slice A s.forced.length c) := hc4
              go_region_law (first
                | (refine stepR ho4 Tryd.underlying22 infoColl rfl (by decide) hR4 (by rfl) (by simp) (by unfold maxLen; omega) (by omega) hle4 rfl rfl rfl rfl (by simp [Value.oneCell']) ?_; intro A5 c5 w5 ho5 hg5; replace hj := blk_grown hg5 hj4 (own_far ho4 hj4 (by decide)); replace hnb := blk_grown hg5 hnb4 (own_far ho4 hnb4 (by decide)); have hc5 : w5.cell? ⟨jb, 4, none⟩ = some (.slice A s.forced.length c) := (blk_cell hj).trans rfl; have hf5 : w5.frozen? ⟨jb, 4, none⟩ = false := blk_free hj))
              all_goals
                have HE := Lib.hid (fin27 (.cells #[.int .i64 x, .int .i64 y, .int .i64 z] 65) hj ho5 ho4 hg5 hM4 hF4 hjm hfl HQ)
                clear hg5 hc5 hf5 hnb hj ho5 hc4' hc4 hc1 hj4 hnb4 hR4 ho4 hle4 hM4 hF4 n0 n1 n2 hf3 ho3
                go_wp2_with fail
                go_meet
                case rel => exact ⟨true, rfl, HE.out⟩
          · have HQ : Hid (rd s seen l = .error 9) := Lib.hid (by
              rw [hr]
              match xs, hxl with
              | [], _ => rfl
              | [_], _ => rfl
              | [_, _], _ => rfl
              | [_, _, _], h => exact absurd rfl h
              | _ :: _ :: _ :: _ :: _, _ => rfl)
            have hq : ((xs.length : Int) == 3) = false := by rw [beq_eq_false_iff_ne]; omega
            clear hr HR hu
            go_wp2_with fail
            go_meet
            case rel => exact ⟨false, rfl, HQ.out, hF3⟩
      rw [if_neg hk4] at hr
      have q1 : (k.toList == [105, 110]) = false := beq_eq_false_iff_ne.2 fun e => hk1 (bs_eq (e.trans (by rw [ByteArray.toList_eq]; rfl)))
      have q2 : (k.toList == [108, 105, 109, 105, 116]) = false := beq_eq_false_iff_ne.2 fun e => hk2 (bs_eq (e.trans (by rw [ByteArray.toList_eq]; rfl)))
      have q3 : (k.toList == [102, 117, 101, 108]) = false := beq_eq_false_iff_ne.2 fun e => hk3 (bs_eq (e.trans (by rw [ByteArray.toList_eq]; rfl)))
      have q4 : (k.toList == [99, 111, 108, 108, 101, 99, 116]) = false := beq_eq_false_iff_ne.2 fun e => hk4 (bs_eq (e.trans (by rw [ByteArray.toList_eq]; rfl)))
      have HQ := Lib.hid hr
      clear hr
      go_wp2_with fail
      go_meet
      case rel => exact ⟨false, rfl, HQ.out, hF⟩
    case rest =>
      clear hF hM2 hJ2 hb2 c2
      obtain ⟨ok, rfl, hm, hF⟩ := hcut
      cases ok
      · have HQ : Hid (rd s seen l = .error 9) := Lib.hid hm
        clear hm
        go_wp2_with fail
        go_ret
        unfold ReadsPost
        rw [HQ.out]
        exact ⟨rfl, hF⟩
      · obtain ⟨s', A', c', seen', hm, hJ', hM'⟩ := hm
        have HQ := Lib.hid hm
        clear hm
        go_wp2_with fail
        go_ret
        unfold ReadsPost
        rw [HQ.out]
        exact ⟨⟨rfl, ⟨_, _, hJ'⟩, hM'⟩, hF⟩
end Go.Proofs.YthhchicggidhcaaDoor
