/- Texts of jobs, read back: plain laws, no program in sight but for the words of the walks' posts. -/
import Derived.Test.YthhchicggidhcaaDoorMoParse
import Derived.Test.YthhchicggidhcaaDoorMoLine
import Derived.Test.YthhchicggidhcaaDoorMoVd
namespace Go.Proofs.YthhchicggidhcaaDoor
open Go.RowKit

theorem index_mid {c : UInt8} : ∀ (a b : List UInt8), c ∉ a → Lib.index (a ++ c :: b) [c] = a.length
  | [], b, _ => by simp [Lib.index, List.isPrefixOf]
  | x :: a, b, h => by
    have hx : (c == x) = false := by
      rw [beq_eq_false_iff_ne]; intro e; exact h (e ▸ List.mem_cons_self)
    have ih := index_mid a b (fun hm => h (List.mem_cons_of_mem _ hm))
    have hm : (((a.length : Nat) : Int) == -1) = false := by rw [beq_eq_false_iff_ne]; omega
    simp only [List.cons_append, Lib.index, List.isPrefixOf, hx, Bool.false_and, ih, hm, List.length_cons]
    simp
theorem index_no {c : UInt8} : ∀ (a : List UInt8), c ∉ a → Lib.index a [c] = -1
  | [], _ => rfl
  | x :: a, h => by
    have hx : (c == x) = false := by
      rw [beq_eq_false_iff_ne]; intro e; exact h (e ▸ List.mem_cons_self)
    have ih := index_no a (fun hm => h (List.mem_cons_of_mem _ hm))
    simp only [Lib.index, List.isPrefixOf, hx, Bool.false_and, ih]
    simp

theorem cutL_mid (a b : List UInt8) (h : 10 ∉ a) : cutL (mk (a ++ 10 :: b)) = mk a := by
  have : Lib.index (a ++ 10 :: b) [10] = a.length := index_mid a b h
  unfold cutL Lib.cut
  rw [mk_list]
  simp only [this]
  rw [if_pos (by omega)]
  simp [mk]
theorem cutR_mid (a b : List UInt8) (h : 10 ∉ a) : cutR (mk (a ++ 10 :: b)) = mk b := by
  have : Lib.index (a ++ 10 :: b) [10] = a.length := index_mid a b h
  unfold cutR Lib.cut
  rw [mk_list]
  simp only [this]
  rw [if_pos (by omega)]
  simp [mk]

/-- A text's lines, read from a state on, come to a job. -/
def Good (s : JS) (seen : List (List UInt8)) (t : List UInt8) (j : JS) : Prop := ∀ k i, t.length ≤ k → prs s seen (lnsF k i (mk t)) = .ok j

theorem good_nil (s : JS) (seen : List (List UInt8)) : Good s seen [] s := fun k i _ => by
  rw [lnsF_zero k i _ rfl]; rfl
theorem good_line {s : JS} {seen : List (List UInt8)} {a b : List UInt8} {q : JS × List (List UInt8)} {j : JS} (h : 10 ∉ a) (hp : ¬ mk a = wProgram) (hr : rd s seen (mk a) = .ok q) (hg : Good q.1 q.2 b j) : Good s seen (a ++ 10 :: b) j := fun k i hk => by
  have hk' : b.length ≤ k - 1 := by simp only [List.length_append, List.length_cons] at hk; omega
  rw [lnsF_some k i _ (by rw [mk_size]; simp; omega) (by rw [mk_size]; exact hk), cutL_mid a b h, cutR_mid a b h]
  simp only [prs, if_neg hp, hr]
  exact hg _ _ hk'
theorem good_program (s : JS) (seen : List (List UInt8)) (b : List UInt8) : Good s seen ([112, 114, 111, 103, 114, 97, 109] ++ 10 :: b) { s with src := mk b } := fun k i hk => by
  rw [lnsF_some k i _ (by rw [mk_size]; simp) (by rw [mk_size]; exact hk), cutL_mid _ b (by decide), cutR_mid _ b (by decide)]
  simp only [prs]
  rw [if_pos (show mk [112, 114, 111, 103, 114, 97, 109] = wProgram from rfl)]

/-! ### Words -/
theorem words_mid (a b : List UInt8) (h : 32 ∉ a) : words (mk (a ++ 32 :: b)) = mk a :: words (mk b) := by
  have hi : Lib.indexB (mk (a ++ 32 :: b)) ⟨#[32]⟩ = (a.length : Nat) := by
    show Lib.index (mk (a ++ 32 :: b)).data.toList [32] = _
    rw [mk_list]; exact index_mid a b h
  unfold words
  have h1 : (ByteArray.mk #[32]).size = 1 := rfl
  have hx : (mk (a ++ 32 :: b)).extract (a.length + 1) (mk (a ++ 32 :: b)).size = mk b := by
    apply ByteArray.ext; apply Array.ext'; rw [Lib.extract_to_end, mk_list, mk_list]; simp
  rw [Lib.countB_hit _ _ a.length (by decide) hi, h1, hx, Nat.add_comm 1, Lib.splitB_hit _ _ _ _ a.length hi, h1, hx]
  congr 1
  apply ByteArray.ext; apply Array.ext'; rw [Lib.extract_from_zero, mk_list, mk_list]; simp
theorem words_one (a : List UInt8) (h : 32 ∉ a) : words (mk a) = [mk a] := by
  have hi : Lib.indexB (mk a) ⟨#[32]⟩ = -1 := by
    show Lib.index (mk a).data.toList [32] = _
    rw [mk_list]; exact index_no a h
  unfold words
  rw [Lib.countB_miss _ _ hi]; rfl

/-! ### Numerals -/
theorem dec_digit (u : Nat) : ∀ c ∈ Lib.decDigits u, 48 ≤ c.toNat ∧ c.toNat ≤ 57 := by
  induction u using Nat.strongRecOn with
  | _ u ih =>
    intro c hc
    rw [Lib.decDigits] at hc
    split at hc
    · obtain rfl : c = UInt8.ofNat (48 + u) := by simpa using hc
      rw [UInt8.toNat_ofNat']; omega
    · rename_i hu
      rw [List.mem_append] at hc
      rcases hc with hc | hc
      · exact ih (u / 10) (by omega) c hc
      · obtain rfl : c = UInt8.ofNat (48 + u % 10) := by simpa using hc
        rw [UInt8.toNat_ofNat']; omega
theorem dec_ne (u : Nat) : Lib.decDigits u ≠ [] := by
  rw [Lib.decDigits]; split <;> simp
theorem itoa_byte (n : Int) : ∀ c ∈ Lib.itoa n, c.toNat = 45 ∨ 48 ≤ c.toNat ∧ c.toNat ≤ 57 := by
  intro c hc
  unfold Lib.itoa at hc
  split at hc
  · rcases List.mem_cons.1 hc with rfl | hc
    · exact .inl rfl
    · exact .inr (dec_digit _ c hc)
  · exact .inr (dec_digit _ c hc)
theorem itoa_no (n : Int) (c : UInt8) (h : c.toNat ≠ 45) (h2 : c.toNat < 48) : c ∉ Lib.itoa n := fun hm => by
  have := itoa_byte n c hm; omega

theorem dec_step (M acc : Nat) (r : List UInt8) (d : Nat) (hd : d < 10) (h1 : acc < 1844674407370955162) (h2 : acc * 10 + d ≤ M) :
    Lib.parseUintM M acc (UInt8.ofNat (48 + d) :: r) = Lib.parseUintM M (acc * 10 + d) r := by
  have e : (UInt8.ofNat (48 + d)).toNat = 48 + d := by rw [UInt8.toNat_ofNat']; omega
  rw [Lib.parseUintM, e, if_pos (by omega), if_neg (by omega), if_neg (by omega), Nat.add_sub_cancel_left]
theorem parse_dec (u : Nat) (hu : u ≤ 18446744073709551615) (r : List UInt8) : Lib.parseUintM 18446744073709551615 0 (Lib.decDigits u ++ r) = Lib.parseUintM 18446744073709551615 u r := by
  induction u using Nat.strongRecOn generalizing r with
  | _ u ih =>
    rw [Lib.decDigits]
    split
    · rename_i h
      have := dec_step 18446744073709551615 0 r u h (by omega) (by omega)
      rw [Nat.zero_mul, Nat.zero_add] at this
      exact this
    · rename_i h
      rw [List.append_assoc, ih (u / 10) (by omega) (by omega)]
      have := dec_step 18446744073709551615 (u / 10) r (u % 10) (by omega) (by omega) (by omega)
      rw [show u / 10 * 10 + u % 10 = u by omega] at this
      exact this
theorem parseUint_dec (u : Nat) (hu : u ≤ 18446744073709551615) : Lib.parseUintB 64 (Lib.decDigits u) = .ok u := by
  have h := parse_dec u hu []
  rw [List.append_nil] at h
  rw [Lib.parseUintB, if_neg (dec_ne u)]
  exact h
theorem dec_head (u : Nat) : ∃ c r, Lib.decDigits u = c :: r ∧ 48 ≤ c.toNat ∧ c.toNat ≤ 57 := by
  cases h : Lib.decDigits u with
  | nil => exact absurd h (dec_ne u)
  | cons c r => exact ⟨c, r, rfl, dec_digit u c (h ▸ List.mem_cons_self)⟩
theorem parse_itoa {n : Int} (h : I64 n) : Lib.parseIntB 64 (Lib.itoa n) = .ok n := by
  obtain ⟨h1, h2⟩ := h
  unfold Lib.itoa
  split
  · rename_i hn
    have h45 : (45 : UInt8).toNat = 45 := rfl
    simp only [Lib.parseIntB, h45, or_true, if_true]
    rw [parseUint_dec _ (by omega)]
    simp only [not_true, false_and, if_false, true_and]
    rw [if_neg (by have : (2 : Nat) ^ (64 - 1) = 9223372036854775808 := by decide
                   omega)]
    congr 1; omega
  · rename_i hn
    obtain ⟨c, r, hc, hc1, hc2⟩ := dec_head n.toNat
    rw [hc]
    simp only [Lib.parseIntB]
    rw [if_neg (by omega), ← hc, parseUint_dec _ (by omega)]
    have h63 : (2 : Nat) ^ (64 - 1) = 9223372036854775808 := by decide
    simp only
    rw [if_neg (by omega), if_neg (by omega), if_neg (by omega)]
    congr 1; omega
theorem numOf_itoa {n : Int} (h : I64 n) : numOf (mk (Lib.itoa n)) = some n := by
  unfold numOf
  rw [mk_list, parse_itoa h]
  simp
theorem numsOf_itoa : ∀ {ns : List Int}, (∀ n ∈ ns, I64 n) → numsOf (ns.map fun n => mk (Lib.itoa n)) = some ns
  | [], _ => rfl
  | n :: ns, h => by
    simp only [List.map_cons, numsOf, numOf_itoa (h n (by simp)), numsOf_itoa fun m hm => h m (List.mem_cons_of_mem _ hm)]

theorem words_line (w : List UInt8) (hw : 32 ∉ w) : ∀ ns : List Int, words (mk (w ++ lineL ns)) = mk w :: ns.map fun n => mk (Lib.itoa n)
  | [] => by simp only [lineL, List.flatMap_nil, List.append_nil, List.map_nil]; exact words_one w hw
  | n :: ns => by
    have e : w ++ lineL (n :: ns) = w ++ 32 :: (Lib.itoa n ++ lineL ns) := by simp [lineL]
    rw [e, words_mid _ _ hw, words_line (Lib.itoa n) (itoa_no n 32 (by decide) (by decide)) ns]
    rfl
theorem lineL_no10 (ns : List Int) : 10 ∉ lineL ns := by
  intro h
  simp only [lineL, List.mem_flatMap, List.mem_cons] at h
  obtain ⟨n, _, h | h⟩ := h
  · exact absurd h (by decide)
  · exact itoa_no n 10 (by decide) (by decide) h

/-! ### Digits of the base 16 -/
theorem hex_back (l : List UInt8) : unbL ((hexes l).map fun n => UInt8.ofNat n.toNat) = some (l.map fun c => (c.toNat : Int), true) := by
  have key : ∀ m : Nat, m < 256 → ¬ hexAt (UInt8.ofNat (hexI (m / 16)).toNat) < 0 ∧ ¬ hexAt (UInt8.ofNat (hexI (m % 16)).toNat) < 0 ∧ hexB (hexAt (UInt8.ofNat (hexI (m / 16)).toNat)) (hexAt (UInt8.ofNat (hexI (m % 16)).toNat)) = (m : Int) := by decide +kernel
  induction l with
  | nil => rfl
  | cons c l ih =>
    obtain ⟨k1, k2, k3⟩ := key c.toNat c.toNat_lt
    have e : hexes (c :: l) = hexI (c.toNat / 16) :: hexI (c.toNat % 16) :: hexes l := rfl
    rw [e]
    simp only [List.map_cons, unbL]
    rw [if_neg (fun h_ => h_.elim k1 k2), ih, k3]
    rfl
theorem strOf_map (l : List UInt8) : strOfNums (l.map fun b => (b.toNat : Int)) = ⟨l.toArray⟩ := by simp [strOfNums, Function.comp_def]
theorem hexL_byte (l : List UInt8) : ∀ c ∈ (hexes l).map fun n => UInt8.ofNat n.toNat, 48 ≤ c.toNat := by
  have key : ∀ m : Nat, m < 256 → 48 ≤ (UInt8.ofNat (hexI (m / 16)).toNat).toNat ∧ 48 ≤ (UInt8.ofNat (hexI (m % 16)).toNat).toNat := by decide +kernel
  intro c hc
  simp only [hexes, List.mem_map, List.mem_flatMap] at hc
  obtain ⟨n, ⟨b, _, hn⟩, rfl⟩ := hc
  obtain ⟨k1, k2⟩ := key b.toNat b.toNat_lt
  simp only [List.mem_cons, List.not_mem_nil, or_false] at hn
  rcases hn with rfl | rfl
  · exact k1
  · exact k2

/-! ### A job's text -/
def pL : List UInt8 := [112, 114, 111, 103, 114, 97, 109]
def lL : List UInt8 := [108, 105, 109, 105, 116]
def fL : List UInt8 := [102, 117, 101, 108]
def iL : List UInt8 := [105, 110]
def cL : List UInt8 := [99, 111, 108, 108, 101, 99, 116]
def hexS (l : List UInt8) : List UInt8 := (hexes l).map fun n => UInt8.ofNat n.toNat
def nl (w : List UInt8) (ns : List Int) : List UInt8 := w ++ lineL ns ++ [10]
def collText (fs : List (Int × Int × Int)) : List UInt8 := fs.flatMap fun c => nl cL [c.1, c.2.1, c.2.2]
def jobText (src inp : ByteArray) (lim fuel : Int) (fs : List (Int × Int × Int)) : List UInt8 :=
  nl lL [lim] ++ (nl fL [fuel] ++ ((if inp.size = 0 then [] else nl (iL ++ 32 :: hexS inp.data.toList) []) ++ (collText fs ++ (if src.size = 0 then [] else nl pL [] ++ src.data.toList))))

theorem rd_words (s : JS) (seen : List (List UInt8)) {l w : List UInt8} {args : List ByteArray} (h1 : l.head? ≠ none) (h2 : l.head? ≠ some 35) (hw : words (mk l) = mk w :: args) :
    rd s seen (mk l) = rdWord s (w :: seen) (decide (seen.count w = 0)) (mk w) args := by
  unfold rd
  rw [mk_list, if_neg (fun h_ => h_.elim h1 h2), hw]
  have e : (mk w :: args).head! = mk w := rfl
  rw [e, mk_list]; rfl

theorem rd_lim (s : JS) (seen : List (List UInt8)) {n : Int} (h : I64 n) (hc : seen.count lL = 0) : rd s seen (mk (lL ++ lineL [n])) = .ok ({ s with lim := n }, lL :: seen) := by
  rw [rd_words s seen (by simp [lL]) (by simp [lL]) (words_line lL (by decide) [n])]
  unfold rdWord
  rw [if_neg (by decide), if_pos (show mk lL = wLimit from rfl), numsOf_itoa (by simpa using h)]
  simp [isOne, hc]
theorem rd_fuel (s : JS) (seen : List (List UInt8)) {n : Int} (h : I64 n) (hc : seen.count fL = 0) : rd s seen (mk (fL ++ lineL [n])) = .ok ({ s with fuel := n }, fL :: seen) := by
  rw [rd_words s seen (by simp [fL]) (by simp [fL]) (words_line fL (by decide) [n])]
  unfold rdWord
  rw [if_neg (by decide), if_neg (by decide), if_pos (show mk fL = wFuel from rfl), numsOf_itoa (by simpa using h)]
  simp [isOne, hc]
theorem rd_coll (s : JS) (seen : List (List UInt8)) {x y z : Int} (h : I64 x ∧ I64 y ∧ I64 z) (hl : s.forced.length < 1000) : rd s seen (mk (cL ++ lineL [x, y, z])) = .ok ({ s with forced := s.forced ++ [(x, y, z)] }, cL :: seen) := by
  rw [rd_words s seen (by simp [cL]) (by simp [cL]) (words_line cL (by decide) [x, y, z])]
  unfold rdWord
  rw [if_neg (by decide), if_neg (by decide), if_neg (by decide), if_pos (show mk cL = wCollect from rfl), numsOf_itoa (by simpa using h)]
  simp only
  rw [if_neg (by omega)]
theorem hexS_no (l : List UInt8) (c : UInt8) (h : c.toNat < 48) : c ∉ hexS l := fun hm => by
  have := hexL_byte l c hm; omega
theorem rd_in (s : JS) (seen : List (List UInt8)) (inp : ByteArray) (hi : inp.size ≠ 0) (hc : seen.count iL = 0) : rd s seen (mk (iL ++ 32 :: hexS inp.data.toList)) = .ok ({ s with inp := inp }, iL :: seen) := by
  rw [rd_words s seen (by simp [iL]) (by simp [iL]) ((words_mid iL _ (by decide)).trans (by rw [words_one _ (hexS_no _ 32 (by decide))]))]
  unfold rdWord
  have hb : unbL (hexS inp.data.toList) = some (inp.data.toList.map fun c => (c.toNat : Int), true) := hex_back _
  rw [if_pos (show mk iL = wIn from rfl)]
  simp only [mk_list, hb, strOf_map]
  have hl : decide (0 < (inp.data.toList.map fun c => (c.toNat : Int)).length) = true := decide_eq_true (by rw [List.length_map, Array.length_toList]; exact Nat.pos_of_ne_zero hi)
  rw [hl]
  simp [isOne, hc]

theorem good_nl {s : JS} {seen : List (List UInt8)} {w : List UInt8} {ns : List Int} {b : List UInt8} {q : JS × List (List UInt8)} {j : JS} (h : 10 ∉ w) (hp : ¬ w ++ lineL ns = pL) (hr : rd s seen (mk (w ++ lineL ns)) = .ok q) (hg : Good q.1 q.2 b j) : Good s seen (nl w ns ++ b) j := by
  have e : nl w ns ++ b = (w ++ lineL ns) ++ 10 :: b := by simp [nl]
  rw [e]
  exact good_line (by rw [List.mem_append]; exact fun h' => h'.elim h (lineL_no10 ns)) (fun he => hp (mk_inj he)) hr hg
theorem good_colls : ∀ (fs : List (Int × Int × Int)) (s : JS) (seen : List (List UInt8)) (b : List UInt8) (j : JS), (∀ c ∈ fs, I64 c.1 ∧ I64 c.2.1 ∧ I64 c.2.2) → s.forced.length + fs.length ≤ 1000 →
    (∀ seen', Good { s with forced := s.forced ++ fs } seen' b j) → Good s seen (collText fs ++ b) j
  | [], s, seen, b, j, _, _, h => by simpa [collText] using h seen
  | c :: fs, s, seen, b, j, hf, hl, h => by
    have e : collText (c :: fs) ++ b = nl cL [c.1, c.2.1, c.2.2] ++ (collText fs ++ b) := by simp [collText]
    rw [List.length_cons] at hl
    rw [e]
    refine good_nl (by decide) (by simp [cL, pL]) (rd_coll s seen (hf c (by simp)) (by omega)) ?_
    refine good_colls fs _ _ b j (fun d hd => hf d (List.mem_cons_of_mem _ hd)) (by simp only [List.length_append, List.length_cons, List.length_nil]; omega) fun seen' => ?_
    have := h seen'
    simpa using this
theorem text_back (src inp : ByteArray) {lim fuel : Int} {fs : List (Int × Int × Int)} (h1 : I64 lim) (h2 : I64 fuel) (hf : ∀ c ∈ fs, I64 c.1 ∧ I64 c.2.1 ∧ I64 c.2.2) (hl : fs.length ≤ 1000) :
    Good js0 [] (jobText src inp lim fuel fs) ⟨src, inp, lim, fuel, fs⟩ := by
  have fin : ∀ seen, Good ⟨mk [], inp, lim, fuel, fs⟩ seen (if src.size = 0 then [] else nl pL [] ++ src.data.toList) ⟨src, inp, lim, fuel, fs⟩ := fun seen => by
    by_cases hs : src.size = 0
    · rw [if_pos hs]
      obtain rfl := mk_empty hs
      exact good_nil _ _
    · rw [if_neg hs]
      have := good_program ⟨mk [], inp, lim, fuel, fs⟩ seen src.data.toList
      rw [mk_self] at this
      simpa [nl, lineL, pL] using this
  have coll : ∀ seen, Good ⟨mk [], inp, lim, fuel, []⟩ seen (collText fs ++ (if src.size = 0 then [] else nl pL [] ++ src.data.toList)) ⟨src, inp, lim, fuel, fs⟩ := fun seen =>
    good_colls fs _ _ _ _ hf (by simpa using hl) fun seen' => by simpa using fin seen'
  unfold jobText
  refine good_nl (by decide) (by simp [lL, pL]) (rd_lim js0 [] h1 (by decide)) ?_
  refine good_nl (by decide) (by simp [fL, pL]) (rd_fuel _ _ h2 (show List.count fL [lL] = 0 by decide)) ?_
  by_cases hi : inp.size = 0
  · rw [if_pos hi, List.nil_append]
    obtain rfl := mk_empty hi
    exact coll _
  · rw [if_neg hi]
    refine good_nl (q := (⟨mk [], inp, lim, fuel, []⟩, [iL, fL, lL])) ?_ (by simp [iL, pL]) ?_ (coll _)
    · simp only [iL, List.cons_append, List.nil_append, List.mem_cons, not_or]
      exact ⟨by decide, by decide, by decide, hexS_no _ 10 (by decide)⟩
    · simp only [lineL, List.flatMap_nil, List.append_nil]
      exact rd_in _ _ inp hi (show List.count iL [fL, lL] = 0 by decide)
theorem more_back {t : List UInt8} {j : JS} (h : Good js0 [] t j) : Good js0 [] ([35, 32, 109, 111, 114, 101] ++ 10 :: ([] ++ 10 :: t)) j := by
  refine good_line (by decide) (fun e => absurd (mk_inj e) (by decide)) (q := (js0, [])) ?_ (good_line (by decide) (fun e => absurd (mk_inj e) (by decide)) (q := (js0, [])) ?_ h)
  · rfl
  · rfl
theorem prs_good {t : ByteArray} {j : JS} (h : Good js0 [] t.data.toList j) : prs js0 [] (lns t) = .ok j := by
  have := h t.size 1 (by rw [Array.length_toList]; exact Nat.le_refl _)
  rwa [mk_self] at this
end Go.Proofs.YthhchicggidhcaaDoor
