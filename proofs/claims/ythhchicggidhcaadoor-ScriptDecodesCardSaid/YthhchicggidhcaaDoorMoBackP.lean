/- What Decode goes through comes to the job that the bytes are; what Print tells is read back: plain laws. -/
import Derived.Test.YthhchicggidhcaaDoorMoDecode
import Derived.Test.YthhchicggidhcaaDoorMoTxt
import Derived.Test.YthhchicggidhcaaDoorMoPrint
namespace Go.Proofs.YthhchicggidhcaaDoor
open Go.RowKit

theorem snum_true (l : List UInt8) : snum l true = (0, l, true) := by unfold snum; rw [if_pos rfl]
theorem snum_some {l r : List UInt8} {n : Int} (h : dnum l = some (n, r)) : snum l false = (n, r, false) := by
  unfold snum; rw [if_neg (by simp), h]
theorem snum_none {l : List UInt8} (h : dnum l = none) : snum l false = (0, l, true) := by
  unfold snum; rw [if_neg (by simp), h]
theorem samt_true (l : List UInt8) : samt l true = (0, l, true) := by
  unfold samt
  rw [snum_true, if_neg (by simp only; omega)]; rfl
theorem samt_some {l r : List UInt8} {n : Nat} (h : damt l = some (n, r)) : samt l false = (n, r, false) := by
  unfold damt at h
  split at h
  · rename_i m r' hm
    split at h
    · simp only [Option.some.injEq, Prod.mk.injEq] at h
      obtain ⟨rfl, rfl⟩ := h
      unfold samt
      rw [snum_some hm, if_neg (by simp only; omega)]
    · cases h
  · cases h
theorem samt_none {l : List UInt8} (h : damt l = none) : ∃ r, samt l false = (0, r, true) := by
  unfold damt at h
  split at h
  · rename_i m r' hm
    split at h
    · cases h
    · refine ⟨r', ?_⟩
      unfold samt
      rw [snum_some hm, if_pos (by simp only; omega)]
  · rename_i hm
    refine ⟨l, ?_⟩
    unfold samt
    rw [snum_none hm, if_neg (by simp only; omega)]; rfl
theorem stext_true (l : List UInt8) : stext l true = ([], l, true) := by unfold stext; rw [samt_true]; rfl
theorem stext_some {l t r : List UInt8} (h : dtext l = some (t, r)) : stext l false = (t, r, false) := by
  unfold dtext at h
  cases hd : damt l with
  | none => rw [hd] at h; cases h
  | some p =>
    rw [hd] at h
    simp only [Option.map_some, Option.some.injEq, Prod.mk.injEq] at h
    obtain ⟨rfl, rfl⟩ := h
    unfold stext
    rw [samt_some (n := p.1) (r := p.2) hd]
theorem stext_none {l : List UInt8} (h : dtext l = none) : ∃ r, stext l false = ([], r, true) := by
  unfold dtext at h
  cases hd : damt l with
  | some p => rw [hd] at h; cases h
  | none =>
    obtain ⟨r, hr⟩ := samt_none hd
    exact ⟨r, by unfold stext; rw [hr]; rfl⟩
theorem sIter_front (s : List (Int × Int × Int) × List UInt8 × Bool) : ∀ k, sIter (k + 1) s = sIter k (sStep s)
  | 0 => rfl
  | k + 1 => by
    show sStep (sIter (k + 1) s) = sStep (sIter k (sStep s))
    rw [sIter_front s k]
theorem sStep_true (gs : List (Int × Int × Int)) (l : List UInt8) : sStep (gs, l, true) = (gs ++ [(0, 0, 0)], l, true) := by
  unfold sStep; simp only [snum_true]
theorem sIter_true : ∀ (k : Nat) (gs : List (Int × Int × Int)) (l : List UInt8), (sIter k (gs, l, true)).2 = (l, true)
  | 0, _, _ => rfl
  | k + 1, gs, l => by rw [sIter_front, sStep_true]; exact sIter_true k _ l
theorem sIter_some : ∀ (k : Nat) (gs fs : List (Int × Int × Int)) (l r : List UInt8), dcolls k l = some (fs, r) → sIter k (gs, l, false) = (gs ++ fs, r, false)
  | 0, gs, fs, l, r, h => by
    simp only [dcolls, Option.some.injEq, Prod.mk.injEq] at h
    obtain ⟨rfl, rfl⟩ := h
    simp [sIter]
  | k + 1, gs, fs, l, r, h => by
    rw [dcolls] at h
    split at h
    · cases h
    · rename_i x l1 e1
      split at h
      · cases h
      · rename_i y l2 e2
        split at h
        · cases h
        · rename_i z l3 e3
          split at h
          · cases h
          · rename_i hs l4 e4
            simp only [Option.some.injEq, Prod.mk.injEq] at h
            obtain ⟨rfl, rfl⟩ := h
            have hst : sStep (gs, l, false) = (gs ++ [(x, y, z)], l3, false) := by
              unfold sStep; simp only [snum_some e1, snum_some e2, snum_some e3]
            rw [sIter_front, hst, sIter_some k _ _ _ _ e4]
            simp
theorem sIter_none : ∀ (k : Nat) (gs : List (Int × Int × Int)) (l : List UInt8), dcolls k l = none → (sIter k (gs, l, false)).2.2 = true
  | 0, gs, l, h => by simp [dcolls] at h
  | k + 1, gs, l, h => by
    rw [dcolls] at h
    rw [sIter_front]
    cases e1 : dnum l with
    | none =>
      have hst : sStep (gs, l, false) = (gs ++ [(0, 0, 0)], l, true) := by unfold sStep; simp only [snum_none e1, snum_true]
      rw [hst, sIter_true]
    | some p =>
      obtain ⟨x, l1⟩ := p
      rw [e1] at h
      simp only at h
      cases e2 : dnum l1 with
      | none =>
        have hst : sStep (gs, l, false) = (gs ++ [(x, 0, 0)], l1, true) := by unfold sStep; simp only [snum_some e1, snum_none e2, snum_true]
        rw [hst, sIter_true]
      | some p =>
        obtain ⟨y, l2⟩ := p
        rw [e2] at h
        simp only at h
        cases e3 : dnum l2 with
        | none =>
          have hst : sStep (gs, l, false) = (gs ++ [(x, y, 0)], l2, true) := by unfold sStep; simp only [snum_some e1, snum_some e2, snum_none e3]
          rw [hst, sIter_true]
        | some p =>
          obtain ⟨z, l3⟩ := p
          rw [e3] at h
          simp only at h
          have hst : sStep (gs, l, false) = (gs ++ [(x, y, z)], l3, false) := by unfold sStep; simp only [snum_some e1, snum_some e2, snum_some e3]
          rw [hst]
          refine sIter_none k _ _ ?_
          cases e4 : dcolls k l3 with
          | none => rfl
          | some p => rw [e4] at h; cases h
def sTail (lim fuel : Int) (inp : List UInt8) (m : Nat × List UInt8 × Bool) : Except Int JS :=
  if 1000 < m.1 then .error 12
  else if (stext (sIter m.1 ([], m.2.1, m.2.2)).2.1 (sIter m.1 ([], m.2.1, m.2.2)).2.2).2.2 = true ∨ (stext (sIter m.1 ([], m.2.1, m.2.2)).2.1 (sIter m.1 ([], m.2.1, m.2.2)).2.2).2.1 ≠ [] then .error 9
  else .ok ⟨mk (stext (sIter m.1 ([], m.2.1, m.2.2)).2.1 (sIter m.1 ([], m.2.1, m.2.2)).2.2).1, mk inp, lim, fuel, (sIter m.1 ([], m.2.1, m.2.2)).1⟩
theorem sTail_bad (lim fuel : Int) (inp r : List UInt8) : sTail lim fuel inp (0, r, true) = .error 9 := by
  unfold sTail
  rw [if_neg (by simp), if_pos]
  left
  simp only [sIter, stext_true]
theorem sDec_of {l : List UInt8} {a b : Int} {t : List UInt8} {m : Nat × List UInt8 × Bool} (hl : ¬ 65536 < l.length) (h : sHead l = (a, b, t, m)) : sDec l = sTail a b t m := by
  unfold sDec sTail
  rw [if_neg hl, h]
theorem sDec_eq (l : List UInt8) : sDec l = dec l := by
  unfold dec
  by_cases hl : 65536 < l.length
  · unfold sDec
    rw [if_pos hl, if_pos hl]
  rw [if_neg hl]
  cases e1 : dnum l with
  | none =>
    exact (sDec_of hl (by simp only [sHead, snum_none e1, snum_true, stext_true, samt_true])).trans (sTail_bad 0 0 [] l)
  | some p =>
    obtain ⟨lim, l1⟩ := p
    simp only
    cases e2 : dnum l1 with
    | none => exact (sDec_of hl (by simp only [sHead, snum_some e1, snum_none e2, stext_true, samt_true])).trans (sTail_bad lim 0 [] l1)
    | some p =>
      obtain ⟨fuel, l2⟩ := p
      simp only
      cases e3 : dtext l2 with
      | none =>
        obtain ⟨r, hr⟩ := stext_none e3
        exact (sDec_of hl (by simp only [sHead, snum_some e1, snum_some e2, hr, samt_true])).trans (sTail_bad lim fuel [] r)
      | some p =>
        obtain ⟨inp, l3⟩ := p
        simp only
        cases e4 : damt l3 with
        | none =>
          obtain ⟨r, hr⟩ := samt_none e4
          exact (sDec_of hl (by simp only [sHead, snum_some e1, snum_some e2, stext_some e3, hr])).trans (sTail_bad lim fuel inp r)
        | some p =>
          obtain ⟨n, l4⟩ := p
          rw [sDec_of (a := lim) (b := fuel) (t := inp) (m := (n, l4, false)) hl (by simp only [sHead, snum_some e1, snum_some e2, stext_some e3, samt_some e4])]
          unfold sTail
          simp only
          by_cases hn : 1000 < n
          · rw [if_pos hn, if_pos hn]
          rw [if_neg hn, if_neg hn]
          cases e5 : dcolls n l4 with
          | none =>
            have h := sIter_none n [] l4 e5
            rw [if_pos]
            left
            rw [h, stext_true]
          | some p =>
            obtain ⟨fs, l5⟩ := p
            rw [sIter_some n [] fs l4 l5 e5]
            simp only
            cases e6 : dtext l5 with
            | none =>
              obtain ⟨r, hr⟩ := stext_none e6
              rw [hr, if_pos (.inl rfl)]
            | some p =>
              obtain ⟨src, l6⟩ := p
              rw [stext_some e6]
              simp only
              by_cases h6 : l6 = []
              · rw [if_neg (by simp [h6]), if_pos h6]; rfl
              · rw [if_pos (.inr h6), if_neg h6]

/-! ### What Print tells is read back -/
theorem lnB_list (w : ByteArray) (ns : List Int) : (lnB w ns).data.toList = nl w.data.toList ns := by simp [lnB, lineB, nl]
theorem colB_list : ∀ (fs : List (Int × Int × Int)) (s : ByteArray), (fs.foldl (fun s c => s ++ lnB wCollect [c.1, c.2.1, c.2.2]) s).data.toList = s.data.toList ++ collText fs
  | [], s => by simp [collText]
  | c :: fs, s => by
    rw [List.foldl_cons, colB_list fs]
    have e : (s ++ lnB wCollect [c.1, c.2.1, c.2.2]).data.toList = s.data.toList ++ nl cL [c.1, c.2.1, c.2.2] := by
      have := lnB_list wCollect [c.1, c.2.1, c.2.2]
      rw [ByteArray.data_append, Array.toList_append, this]; rfl
    rw [e]
    simp [collText]
theorem prB_text (src inp : ByteArray) (lim fuel : Int) (fs : List (Int × Int × Int)) : (prB src inp lim fuel fs).data.toList = jobText src inp lim fuel fs := by
  have e1 := lnB_list wLimit [lim]
  have e2 := lnB_list wFuel [fuel]
  have e3 := colB_list fs ⟨#[]⟩
  have z : ∀ s : ByteArray, s = ⟨#[]⟩ ↔ s.size = 0 := fun s => ⟨fun h => by subst h; rfl, fun h => mk_empty h⟩
  have e4 : (inB inp).data.toList = if inp.size = 0 then [] else nl (iL ++ 32 :: hexS inp.data.toList) [] := by
    unfold inB
    by_cases h : inp.size = 0
    · rw [if_pos h, if_pos ((z inp).2 h)]
    · rw [if_neg h, if_neg (fun e => h ((z inp).1 e))]
      simp [hexT, strOfNums, hexS, nl, iL, lineL]
  have e5 : (srcB src).data.toList = if src.size = 0 then [] else nl pL [] ++ src.data.toList := by
    unfold srcB
    by_cases h : src.size = 0
    · rw [if_pos h, if_pos ((z src).2 h)]
    · rw [if_neg h, if_neg (fun e => h ((z src).1 e))]
      simp [nl, pL, lineL]
  unfold prB jobText colB
  simp only [ByteArray.data_append, Array.toList_append, e1, e2, e3, e4, e5, List.append_assoc]
  rfl
theorem prs_print (src inp : ByteArray) {lim fuel : Int} {fs : List (Int × Int × Int)} (h1 : I64 lim) (h2 : I64 fuel) (hf : ∀ c ∈ fs, I64 c.1 ∧ I64 c.2.1 ∧ I64 c.2.2) (hl : fs.length ≤ 1000) :
    prs js0 [] (lns (prB src inp lim fuel fs)) = .ok ⟨src, inp, lim, fuel, fs⟩ :=
  prs_good (by rw [prB_text]; exact text_back src inp h1 h2 hf hl)
theorem prs_more (src inp : ByteArray) {lim fuel : Int} {fs : List (Int × Int × Int)} (h1 : I64 lim) (h2 : I64 fuel) (hf : ∀ c ∈ fs, I64 c.1 ∧ I64 c.2.1 ∧ I64 c.2.2) (hl : fs.length ≤ 1000) :
    prs js0 [] (lns (⟨#[35, 32, 109, 111, 114, 101, 10, 10]⟩ ++ prB src inp lim fuel fs)) = .ok ⟨src, inp, lim, fuel, fs⟩ :=
  prs_good (by
    have h := more_back (text_back src inp h1 h2 hf hl)
    rw [ByteArray.data_append, Array.toList_append, prB_text]
    exact h)
theorem dec_encoded (src inp : ByteArray) {lim fuel : Int} {fs : List (Int × Int × Int)} (h1 : I64 lim) (h2 : I64 fuel) (hf : ∀ c ∈ fs, I64 c.1 ∧ I64 c.2.1 ∧ I64 c.2.2) (hl : fs.length ≤ 1000) (hb : (jobBytes src inp lim fuel fs).length ≤ 65536) :
    sDec (strOfNums (jobBytes src inp lim fuel fs)).data.toList = .ok ⟨src, inp, lim, fuel, fs⟩ := by
  rw [sDec_eq, strOf_job, dec_enc _ _ h1 h2 hf hl (by rw [jobB_len]; exact hb), mk_self, mk_self]
end Go.Proofs.YthhchicggidhcaaDoor
