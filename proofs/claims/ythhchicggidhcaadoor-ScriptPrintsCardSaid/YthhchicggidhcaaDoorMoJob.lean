/- What a job that comes in is, read off the form's reading. -/
import Derived.Test.YthhchicggidhcaaDoorMoEnc
import Derived.Test.YthhchicggidhcaaDoorMoNumEq
import Derived.Deep.Slices
import Derived.Deep.Fields
import Derived.ChangeSame
namespace Go.Proofs.YthhchicggidhcaaDoor
open Go.RowKit Go.ChangeShapes Go.WideShapes Go.Deep

theorem five {α : Type} {l : List α} (h : l.length = 5) : ∃ a b c d e, l = [a, b, c, d, e] := by
  match l, h with
  | [a, b, c, d, e], _ => exact ⟨a, b, c, d, e, rfl⟩
theorem three {α : Type} {l : List α} (h : l.length = 3) : ∃ a b c, l = [a, b, c] := by
  match l, h with
  | [a, b, c], _ => exact ⟨a, b, c, rfl⟩
theorem cells24 : Tryd.prog.cellsOf 24 = 5 := by kernel_rfl
theorem cells65 : Tryd.prog.cellsOf 65 = 3 := by kernel_rfl
theorem cells22 : Tryd.prog.cellsOf 22 = 1 := by kernel_rfl
theorem cells9 : Tryd.prog.cellsOf 9 = 1 := by kernel_rfl
theorem cells3 : Tryd.prog.cellsOf 3 = 1 := by kernel_rfl
theorem wf_I64 {n : Int} (h : (Lit.int .i64 n).wf = true) : I64 n := by
  simp only [Lit.wf, Bool.and_eq_true, decide_eq_true_eq] at h; exact h

section
variable {H : Type} {enc : TypeId × Value → H} {W : World} {base : Nat} {sp : Nat → Bool} {held : Bool}
theorem field_one {P : Program} {fs : Array Field} (hone : oneCellFields P fs = true) {n : Nat} {cs : List Value} {xs : List (DataW H × List MemPlace)}
    (hf : ∀ (i : Nat) (f : Field), fs[i]? = some f → DataW.trod enc P W base sp held n f.type ((cs.drop f.offset).take (P.cellsOf f.type)) = xs[i]?) (i : Nat) {t : TypeId} (ht : (fs[i]?).map (·.type) = some t)
    {c : Value} (hc : cs[i]? = some c) {y : DataW H × List MemPlace} (hy : xs[i]? = some y) : DataW.trod enc P W base sp held n t [c] = some y := by
  cases hfi : fs[i]? with
  | none => rw [hfi] at ht; cases ht
  | some f =>
    rw [hfi] at ht
    simp only [Option.map_some, Option.some.injEq] at ht
    obtain ⟨ho, hk⟩ := hone_of hone i f hfi
    have h := hf i f hfi
    rw [ho, hk, hy, ht] at h
    obtain ⟨hlt, hce⟩ := List.getElem?_eq_some_iff.1 hc
    rw [List.drop_eq_getElem_cons hlt, hce] at h
    exact h
theorem int_one {n : Nat} {c : Value} {y : DataW H × List MemPlace} (h : DataW.trod enc Tryd.prog W base sp held n 3 [c] = some y) : ∃ x : Int, c = .int .i64 x ∧ I64 x := by
  obtain ⟨p, e0, _, w0⟩ := DataW.trod_int Tryd.underlying3 h
  exact ⟨p, List.head_eq_of_cons_eq e0, wf_I64 w0⟩
theorem string_one {n : Nat} {c : Value} {y : DataW H × List MemPlace} (h : DataW.trod enc Tryd.prog W base sp held n 9 [c] = some y) : ∃ s : ByteArray, c = .string s ∧ s.size ≤ maxLen := by
  obtain ⟨p, e0, _, w0⟩ := DataW.trod_string Tryd.underlying9 h
  exact ⟨p, List.head_eq_of_cons_eq e0, w0⟩
/-- A slice of collections that comes in. -/
theorem open_colls {fuel : Nat} {cs : List Value} {x : DataW H × List MemPlace} (h : DataW.trod enc Tryd.prog W base sp held fuel 22 cs = some x) :
    ∃ (A : Option Addr) (c : Nat) (fs : List (Int × Int × Int)) (T : Nat), cs = [.slice A fs.length c] ∧ fs.length ≤ maxLen ∧ (∀ k ∈ fs, I64 k.1 ∧ I64 k.2.1 ∧ I64 k.2.2) ∧ Reads W T A (colls fs) := by
  rcases open_slice Tryd.underlying22 h with ⟨rfl, _⟩ | ⟨a, len, cap, m, n, D, Pl, rfl, hb, hl, hm, hmm, _, hi⟩
  · exact ⟨none, 0, [], 0, rfl, Nat.zero_le _, by simp, Reads.nil _ _ _⟩
  · have hlm : len ≤ m := by rw [hmm]; split <;> omega
    have each : ∀ i, i < len → ∃ p q r : Int, (W.cell? (a.add (i * 3)) = some (.int .i64 p) ∧ W.cell? ((a.add (i * 3)).add 1) = some (.int .i64 q) ∧ W.cell? ((a.add (i * 3)).add 2) = some (.int .i64 r)) ∧ I64 p ∧ I64 q ∧ I64 r := by
      intro i hil
      obtain ⟨cs', hcs, ht⟩ := hi i (by omega)
      rw [cells65] at hcs
      obtain ⟨_, hcl, hat⟩ := World.cells?_some hcs
      obtain ⟨c0, c1, c2, rfl⟩ := three hcl
      obtain ⟨xs, n', _, _, _, hxl, hf⟩ := DataW.trod_struct Tryd.underlying65 ht
      obtain ⟨y0, y1, y2, rfl⟩ := three hxl
      obtain ⟨p, rfl, w0⟩ := int_one (field_one (by kernel_rfl) hf 0 (by kernel_rfl) rfl rfl)
      obtain ⟨q, rfl, w1⟩ := int_one (field_one (by kernel_rfl) hf 1 (by kernel_rfl) rfl rfl)
      obtain ⟨r, rfl, w2⟩ := int_one (field_one (by kernel_rfl) hf 2 (by kernel_rfl) rfl rfl)
      exact ⟨p, q, r, ⟨by simpa [Addr.add] using hat 0 (by omega), hat 1 (by omega), hat 2 (by omega)⟩, w0, w1, w2⟩
    have pick : ∀ i, ∃ k : Int × Int × Int, i < len → (W.cell? (a.add (i * 3)) = some (.int .i64 k.1) ∧ W.cell? ((a.add (i * 3)).add 1) = some (.int .i64 k.2.1) ∧ W.cell? ((a.add (i * 3)).add 2) = some (.int .i64 k.2.2)) ∧ I64 k.1 ∧ I64 k.2.1 ∧ I64 k.2.2 := by
      intro i
      by_cases hil : i < len
      · obtain ⟨p, q, r, h1, h2⟩ := each i hil
        exact ⟨(p, q, r), fun _ => ⟨h1, h2⟩⟩
      · exact ⟨(0, 0, 0), fun h => absurd h hil⟩
    obtain ⟨k, hk⟩ := Classical.axiomOfChoice pick
    have hlen : ((List.range len).map k).length = len := by simp
    by_cases hz : len = 0
    · subst hz
      exact ⟨some a, cap, [], 0, rfl, Nat.zero_le _, by simp, Reads.nil _ _ _⟩
    · have h00 := (hk 0 (by omega)).1.1
      rw [Nat.zero_mul, show a.add 0 = a from rfl] at h00
      obtain ⟨cc, T, f, hblk, hsp⟩ : ∃ cc T f, W.heap[a.block]? = some (.cells cc T f) ∧ a.spot = none := by
        unfold World.cell? at h00
        split at h00
        · rename_i c t f hh
          refine ⟨c, t, f, hh, ?_⟩
          by_cases hs : a.spot.isSome = true
          · rw [if_pos hs] at h00; cases h00
          · simpa using hs
        · cases h00
      obtain ⟨ab, ao, asp⟩ := a
      simp only at hsp hblk
      subst hsp
      have hcell : ∀ j, W.cell? ⟨ab, j, none⟩ = cc[j]? := fun j => blk_cell hblk
      have hadd : ∀ j i : Nat, ((⟨ab, ao, none⟩ : Addr).add j).add i = ⟨ab, ao + j + i, none⟩ := fun j i => by rw [add_plain', add_plain']
      refine ⟨some ⟨ab, ao, none⟩, cap, (List.range len).map k, T, by rw [hlen], by rw [hlen]; omega, ?_, fun _ => ⟨ab, ao, cc, f, rfl, hblk, fun j hj => ?_⟩⟩
      · intro c hc
        obtain ⟨i, hi', rfl⟩ := List.mem_map.1 hc
        exact (hk i (List.mem_range.1 hi')).2
      · rw [colls_length, hlen] at hj
        have hq : j / 3 < len := by omega
        obtain ⟨⟨e0, e1, e2⟩, _⟩ := hk (j / 3) hq
        rw [add_plain', hcell] at e0
        rw [hadd, hcell] at e1 e2
        obtain ⟨g0, g1, g2⟩ := colls_get ((List.range len).map k) (j / 3) (by rw [hlen]; exact hq)
        simp only [List.getElem_map, List.getElem_range] at g0 g1 g2
        have hj3 : j % 3 = 0 ∨ j % 3 = 1 ∨ j % 3 = 2 := by omega
        rcases hj3 with h3 | h3 | h3
        · rw [show ao + j = ao + j / 3 * 3 by omega, e0, show (colls (List.map k (List.range len)))[j]? = (colls (List.map k (List.range len)))[3 * (j / 3)]? by congr 1; omega]
          exact g0.symm
        · rw [show ao + j = ao + j / 3 * 3 + 1 by omega, e1, show (colls (List.map k (List.range len)))[j]? = (colls (List.map k (List.range len)))[3 * (j / 3) + 1]? by congr 1; omega]
          exact g1.symm
        · rw [show ao + j = ao + j / 3 * 3 + 2 by omega, e2, show (colls (List.map k (List.range len)))[j]? = (colls (List.map k (List.range len)))[3 * (j / 3) + 2]? by congr 1; omega]
          exact g2.symm
set_option maxRecDepth 100000 in
/-- A job that comes in. -/
theorem open_job {r : Reach} {b0 : Nat} {v : Value} {d : DataW H} {p : List MemPlace} (hv : Value.okWide Tryd.prog W r b0 24 v) (h : DataW.Trod enc Tryd.prog W base sp held 24 v d p) :
    ∃ (src inp : ByteArray) (lim fuel : Int) (A : Option Addr) (c : Nat) (fs : List (Int × Int × Int)) (T : Nat), v = .agg #[.string src, .string inp, .int .i64 lim, .int .i64 fuel, .slice A fs.length c] ∧
      src.size ≤ maxLen ∧ inp.size ≤ maxLen ∧ I64 lim ∧ I64 fuel ∧ fs.length ≤ maxLen ∧ (∀ k ∈ fs, I64 k.1 ∧ I64 k.2.1 ∧ I64 k.2.2) ∧ Reads W T A (colls fs) := by
  obtain ⟨cs, rfl, hsz⟩ := okWide_struct Tryd.underlying24 hv
  rw [cells24] at hsz
  obtain ⟨l⟩ := cs
  obtain ⟨c0, c1, c2, c3, c4, rfl⟩ := five (l := l) hsz
  obtain ⟨fuel, hf0⟩ := h
  obtain ⟨xs, n, _, _, _, hxl, hf⟩ := DataW.trod_struct Tryd.underlying24 hf0
  obtain ⟨y0, y1, y2, y3, y4, rfl⟩ := five hxl
  have hcs : ∀ i : Nat, (Value.agg #[c0, c1, c2, c3, c4]).cells.toList[i]? = [c0, c1, c2, c3, c4][i]? := fun i => rfl
  obtain ⟨src, rfl, hs⟩ := string_one (field_one (by kernel_rfl) hf 0 (by kernel_rfl) (hcs 0) rfl)
  obtain ⟨inp, rfl, hi⟩ := string_one (field_one (by kernel_rfl) hf 1 (by kernel_rfl) rfl rfl)
  obtain ⟨lim, rfl, hl⟩ := int_one (field_one (by kernel_rfl) hf 2 (by kernel_rfl) rfl rfl)
  obtain ⟨fu, rfl, hfu⟩ := int_one (field_one (by kernel_rfl) hf 3 (by kernel_rfl) rfl rfl)
  obtain ⟨A, c, fs, T, e, h1, h2, h3⟩ := open_colls (field_one (by kernel_rfl) hf 4 (by kernel_rfl) rfl rfl)
  obtain rfl := List.head_eq_of_cons_eq e
  exact ⟨src, inp, lim, fu, A, c, fs, T, rfl, hs, hi, hl, hfu, h1, h2, h3⟩
end
end Go.Proofs.YthhchicggidhcaaDoor
