/- For every job, of any size, the law ScriptBack returns true, does not panic, and its argument reads behind the call as it read before. Conditions: the package-level variables that the row lists start as the program's text lays them (the card ties them); no other condition. -/
import Derived.Test.YthhchicggidhcaaDoorMoEnc
import Derived.Test.YthhchicggidhcaaDoorMoNumEq
import Derived.Deep.Slices
import Derived.Deep.Fields
import Derived.ChangeSame
import Derived.Test.YthhchicggidhcaaDoorMoLaid
import Derived.LaidSub
import Derived.Lib.LaidTab
import Derived.Test.YthhchicggidhcaaDoorCards
import Derived.Test.YthhchicggidhcaaDoorTie
import Derived.WalkKit
import Derived.ProofKit
import Derived.Deep.DeepHandedRow
import Derived.Deep.DeepWitnessRowRef
import Derived.SizedLaws
import Derived.Lib.LaidU8
import Derived.Lib.DecodeN
import Derived.Test.YthhchicggidhcaaDoorMoLawBack
import Derived.OpenShut
import Derived.Carry
namespace Go.Proofs.YthhchicggidhcaaDoor
open Go.RowKit Go.ChangeShapes Go.WideShapes Go.Deep

theorem five {α : Type} {l : List α} (h : l.length = 5) : ∃ a b c d e, l = [a, b, c, d, e] := by
  match l, h with
  | [a, b, c, d, e], _ => exact ⟨a, b, c, d, e, rfl⟩
theorem three {α : Type} {l : List α} (h : l.length = 3) : ∃ a b c, l = [a, b, c] := by
  match l, h with
  | [a, b, c], _ => exact ⟨a, b, c, rfl⟩
theorem cells24 : Tryd.prog.cellsOf 24 = 5 := by kernel_rfl
theorem cells65 : Tryd.prog.cellsOf 65 = 3 := by kernel_rfl
theorem cells22 : Tryd.prog.cellsOf 22 = 1 := by kernel_rfl
theorem cells9 : Tryd.prog.cellsOf 9 = 1 := by kernel_rfl
theorem cells3 : Tryd.prog.cellsOf 3 = 1 := by kernel_rfl
theorem wf_I64 {n : Int} (h : (Lit.int .i64 n).wf = true) : I64 n := by
  simp only [Lit.wf, Bool.and_eq_true, decide_eq_true_eq] at h; exact h

section
variable {H : Type} {enc : TypeId × Value → H} {W : World} {base : Nat} {sp : Nat → Bool} {held : Bool}
theorem field_one {P : Program} {fs : Array Field} (hone : oneCellFields P fs = true) {n : Nat} {cs : List Value} {xs : List (DataW H × List MemPlace)}
    (hf : ∀ (i : Nat) (f : Field), fs[i]? = some f → DataW.trod enc P W base sp held n f.type ((cs.drop f.offset).take (P.cellsOf f.type)) = xs[i]?) (i : Nat) {t : TypeId} (ht : (fs[i]?).map (·.type) = some t)
    {c : Value} (hc : cs[i]? = some c) {y : DataW H × List MemPlace} (hy : xs[i]? = some y) : DataW.trod enc P W base sp held n t [c] = some y := by
  cases hfi : fs[i]? with
  | none => rw [hfi] at ht; cases ht
  | some f =>
    rw [hfi] at ht
    simp only [Option.map_some, Option.some.injEq] at ht
    obtain ⟨ho, hk⟩ := hone_of hone i f hfi
    have h := hf i f hfi
    rw [ho, hk, hy, ht] at h
    obtain ⟨hlt, hce⟩ := List.getElem?_eq_some_iff.1 hc
    rw [List.drop_eq_getElem_cons hlt, hce] at h
    exact h
theorem int_one {n : Nat} {c : Value} {y : DataW H × List MemPlace} (h : DataW.trod enc Tryd.prog W base sp held n 3 [c] = some y) : ∃ x : Int, c = .int .i64 x ∧ I64 x := by
  obtain ⟨p, e0, _, w0⟩ := DataW.trod_int Tryd.underlying3 h
  exact ⟨p, List.head_eq_of_cons_eq e0, wf_I64 w0⟩
theorem string_one {n : Nat} {c : Value} {y : DataW H × List MemPlace} (h : DataW.trod enc Tryd.prog W base sp held n 9 [c] = some y) : ∃ s : ByteArray, c = .string s ∧ s.size ≤ maxLen := by
  obtain ⟨p, e0, _, w0⟩ := DataW.trod_string Tryd.underlying9 h
  exact ⟨p, List.head_eq_of_cons_eq e0, w0⟩
/-- A slice of collections that comes in. -/
theorem open_colls_cap {fuel : Nat} {cs : List Value} {x : DataW H × List MemPlace} (h : DataW.trod enc Tryd.prog W base sp held fuel 22 cs = some x) :
    ∃ (A : Option Addr) (c : Nat) (fs : List (Int × Int × Int)) (T : Nat), cs = [.slice A fs.length c] ∧ fs.length ≤ c ∧ fs.length ≤ maxLen ∧ (∀ k ∈ fs, I64 k.1 ∧ I64 k.2.1 ∧ I64 k.2.2) ∧ Reads W T A (colls fs) := by
  rcases open_slice Tryd.underlying22 h with ⟨rfl, _⟩ | ⟨a, len, cap, m, n, D, Pl, rfl, hb, hl, hm, hmm, _, hi⟩
  · exact ⟨none, 0, [], 0, rfl, Nat.zero_le _, Nat.zero_le _, by simp, Reads.nil _ _ _⟩
  · have hlm : len ≤ m := by rw [hmm]; split <;> omega
    have each : ∀ i, i < len → ∃ p q r : Int, (W.cell? (a.add (i * 3)) = some (.int .i64 p) ∧ W.cell? ((a.add (i * 3)).add 1) = some (.int .i64 q) ∧ W.cell? ((a.add (i * 3)).add 2) = some (.int .i64 r)) ∧ I64 p ∧ I64 q ∧ I64 r := by
      intro i hil
      obtain ⟨cs', hcs, ht⟩ := hi i (by omega)
      rw [cells65] at hcs
      obtain ⟨_, hcl, hat⟩ := World.cells?_some hcs
      obtain ⟨c0, c1, c2, rfl⟩ := three hcl
      obtain ⟨xs, n', _, _, _, hxl, hf⟩ := DataW.trod_struct Tryd.underlying65 ht
      obtain ⟨y0, y1, y2, rfl⟩ := three hxl
      obtain ⟨p, rfl, w0⟩ := int_one (field_one (by kernel_rfl) hf 0 (by kernel_rfl) rfl rfl)
      obtain ⟨q, rfl, w1⟩ := int_one (field_one (by kernel_rfl) hf 1 (by kernel_rfl) rfl rfl)
      obtain ⟨r, rfl, w2⟩ := int_one (field_one (by kernel_rfl) hf 2 (by kernel_rfl) rfl rfl)
      exact ⟨p, q, r, ⟨by simpa [Addr.add] using hat 0 (by omega), hat 1 (by omega), hat 2 (by omega)⟩, w0, w1, w2⟩
    have pick : ∀ i, ∃ k : Int × Int × Int, i < len → (W.cell? (a.add (i * 3)) = some (.int .i64 k.1) ∧ W.cell? ((a.add (i * 3)).add 1) = some (.int .i64 k.2.1) ∧ W.cell? ((a.add (i * 3)).add 2) = some (.int .i64 k.2.2)) ∧ I64 k.1 ∧ I64 k.2.1 ∧ I64 k.2.2 := by
      intro i
      by_cases hil : i < len
      · obtain ⟨p, q, r, h1, h2⟩ := each i hil
        exact ⟨(p, q, r), fun _ => ⟨h1, h2⟩⟩
      · exact ⟨(0, 0, 0), fun h => absurd h hil⟩
    obtain ⟨k, hk⟩ := Classical.axiomOfChoice pick
    have hlen : ((List.range len).map k).length = len := by simp
    by_cases hz : len = 0
    · subst hz
      exact ⟨some a, cap, [], 0, rfl, Nat.zero_le _, Nat.zero_le _, by simp, Reads.nil _ _ _⟩
    · have h00 := (hk 0 (by omega)).1.1
      rw [Nat.zero_mul, show a.add 0 = a from rfl] at h00
      obtain ⟨cc, T, f, hblk, hsp⟩ : ∃ cc T f, W.heap[a.block]? = some (.cells cc T f) ∧ a.spot = none := by
        unfold World.cell? at h00
        split at h00
        · rename_i c t f hh
          refine ⟨c, t, f, hh, ?_⟩
          by_cases hs : a.spot.isSome = true
          · rw [if_pos hs] at h00; cases h00
          · simpa using hs
        · cases h00
      obtain ⟨ab, ao, asp⟩ := a
      simp only at hsp hblk
      subst hsp
      have hcell : ∀ j, W.cell? ⟨ab, j, none⟩ = cc[j]? := fun j => blk_cell hblk
      have hadd : ∀ j i : Nat, ((⟨ab, ao, none⟩ : Addr).add j).add i = ⟨ab, ao + j + i, none⟩ := fun j i => by rw [add_plain', add_plain']
      refine ⟨some ⟨ab, ao, none⟩, cap, (List.range len).map k, T, by rw [hlen], by rw [hlen]; omega, by rw [hlen]; omega, ?_, fun _ => ⟨ab, ao, cc, f, rfl, hblk, fun j hj => ?_⟩⟩
      · intro c hc
        obtain ⟨i, hi', rfl⟩ := List.mem_map.1 hc
        exact (hk i (List.mem_range.1 hi')).2
      · rw [colls_length, hlen] at hj
        have hq : j / 3 < len := by omega
        obtain ⟨⟨e0, e1, e2⟩, _⟩ := hk (j / 3) hq
        rw [add_plain', hcell] at e0
        rw [hadd, hcell] at e1 e2
        obtain ⟨g0, g1, g2⟩ := colls_get ((List.range len).map k) (j / 3) (by rw [hlen]; exact hq)
        simp only [List.getElem_map, List.getElem_range] at g0 g1 g2
        have hj3 : j % 3 = 0 ∨ j % 3 = 1 ∨ j % 3 = 2 := by omega
        rcases hj3 with h3 | h3 | h3
        · rw [show ao + j = ao + j / 3 * 3 by omega, e0, show (colls (List.map k (List.range len)))[j]? = (colls (List.map k (List.range len)))[3 * (j / 3)]? by congr 1; omega]
          exact g0.symm
        · rw [show ao + j = ao + j / 3 * 3 + 1 by omega, e1, show (colls (List.map k (List.range len)))[j]? = (colls (List.map k (List.range len)))[3 * (j / 3) + 1]? by congr 1; omega]
          exact g1.symm
        · rw [show ao + j = ao + j / 3 * 3 + 2 by omega, e2, show (colls (List.map k (List.range len)))[j]? = (colls (List.map k (List.range len)))[3 * (j / 3) + 2]? by congr 1; omega]
          exact g2.symm
set_option maxRecDepth 100000 in
/-- A job that comes in. -/
theorem open_job_cap {r : Reach} {b0 : Nat} {v : Value} {d : DataW H} {p : List MemPlace} (hv : Value.okWide Tryd.prog W r b0 24 v) (h : DataW.Trod enc Tryd.prog W base sp held 24 v d p) :
    ∃ (src inp : ByteArray) (lim fuel : Int) (A : Option Addr) (c : Nat) (fs : List (Int × Int × Int)) (T : Nat), v = .agg #[.string src, .string inp, .int .i64 lim, .int .i64 fuel, .slice A fs.length c] ∧
      src.size ≤ maxLen ∧ inp.size ≤ maxLen ∧ I64 lim ∧ I64 fuel ∧ fs.length ≤ c ∧ fs.length ≤ maxLen ∧ (∀ k ∈ fs, I64 k.1 ∧ I64 k.2.1 ∧ I64 k.2.2) ∧ Reads W T A (colls fs) := by
  obtain ⟨cs, rfl, hsz⟩ := okWide_struct Tryd.underlying24 hv
  rw [cells24] at hsz
  obtain ⟨l⟩ := cs
  obtain ⟨c0, c1, c2, c3, c4, rfl⟩ := five (l := l) hsz
  obtain ⟨fuel, hf0⟩ := h
  obtain ⟨xs, n, _, _, _, hxl, hf⟩ := DataW.trod_struct Tryd.underlying24 hf0
  obtain ⟨y0, y1, y2, y3, y4, rfl⟩ := five hxl
  have hcs : ∀ i : Nat, (Value.agg #[c0, c1, c2, c3, c4]).cells.toList[i]? = [c0, c1, c2, c3, c4][i]? := fun i => rfl
  obtain ⟨src, rfl, hs⟩ := string_one (field_one (by kernel_rfl) hf 0 (by kernel_rfl) (hcs 0) rfl)
  obtain ⟨inp, rfl, hi⟩ := string_one (field_one (by kernel_rfl) hf 1 (by kernel_rfl) rfl rfl)
  obtain ⟨lim, rfl, hl⟩ := int_one (field_one (by kernel_rfl) hf 2 (by kernel_rfl) rfl rfl)
  obtain ⟨fu, rfl, hfu⟩ := int_one (field_one (by kernel_rfl) hf 3 (by kernel_rfl) rfl rfl)
  obtain ⟨A, c, fs, T, e, h0, h1, h2, h3⟩ := open_colls_cap (field_one (by kernel_rfl) hf 4 (by kernel_rfl) rfl rfl)
  obtain rfl := List.head_eq_of_cons_eq e
  exact ⟨src, inp, lim, fu, A, c, fs, T, rfl, hs, hi, hl, hfu, h0, h1, h2, h3⟩
set_option maxRecDepth 100000 in
theorem open_job {r : Reach} {b0 : Nat} {v : Value} {d : DataW H} {p : List MemPlace} (hv : Value.okWide Tryd.prog W r b0 24 v) (h : DataW.Trod enc Tryd.prog W base sp held 24 v d p) :
    ∃ (src inp : ByteArray) (lim fuel : Int) (A : Option Addr) (c : Nat) (fs : List (Int × Int × Int)) (T : Nat), v = .agg #[.string src, .string inp, .int .i64 lim, .int .i64 fuel, .slice A fs.length c] ∧
      src.size ≤ maxLen ∧ inp.size ≤ maxLen ∧ I64 lim ∧ I64 fuel ∧ fs.length ≤ maxLen ∧ (∀ k ∈ fs, I64 k.1 ∧ I64 k.2.1 ∧ I64 k.2.2) ∧ Reads W T A (colls fs) := by
  obtain ⟨src, inp, lim, fuel, A, c, fs, T, e, h1, h2, h3, h4, _, h5⟩ := open_job_cap hv h
  exact ⟨src, inp, lim, fuel, A, c, fs, T, e, h1, h2, h3, h4, h5⟩
end
end Go.Proofs.YthhchicggidhcaaDoor

namespace Go.Proofs.YthhchicggidhcaaDoor
open Go.ChangeShapes Go.WideShapes Go.RowKit

theorem one_of_laid {P : Program} {W : World} {l : List (String × DataW Unit)} {name : String} {d : DataW Unit} (hl : (l.filter fun x => x.1 == name) = [(name, d)]) (hd : d.handleName?.isNone = true) (h : laidMetH P l W) : laidMet P [(name, d)] W := by
  have h1 := h.filter (fun x => x.1 == name)
  rw [hl] at h1
  have h2 := (laidMetH_iff.1 h1).1
  rwa [List.filter_cons_of_pos (by exact hd), List.filter_nil] at h2

theorem iface_form {H : Type} {enc : TypeId × Value → H} {P : Program} {w : World} {base fuel : Nat} {sp : Nat → Bool} {held : Bool} {t : TypeId} {ms : Array (String × TypeId)} {cs : List Value} {nm : String} {d : DataW H} {p : List MemPlace}
    (ht : P.underlying t = some (.interface ms)) (h : DataW.trod enc P w base sp held fuel t cs = some (.iface nm d, p)) : ∃ u v, cs = [.iface u v] := by
  cases fuel with
  | zero => simp [DataW.trod] at h
  | succ n =>
    unfold DataW.trod at h
    rw [ht] at h
    split at h <;> simp_all

theorem err_of_laid {P : Program} {W : World} {name : String} {nm : String} {d : DataW Unit} {g : Nat} {t : TypeId} {ms : Array (String × TypeId)} (hg : P.globalNamed name = some g) (hty : (P.globals[g]?).map (·.type) = some t)
    (ht : P.underlying t = some (.interface ms)) (h : laidMet P [(name, .iface nm d)] W) : ∃ tp p, W.var? P name = some #[.iface tp p] := by
  obtain ⟨ps, ⟨g', t', cs, fuel, p, q, hg', ht', hvar, hd, _, _⟩, _⟩ := h
  obtain rfl := Option.some.inj (hg.symm.trans hg')
  obtain rfl := Option.some.inj (hty.symm.trans ht')
  obtain ⟨u, v, e⟩ := iface_form ht hd
  obtain ⟨l⟩ := cs
  simp only at e
  subst e
  exact ⟨u, v, hvar⟩

theorem gPow : Tryd.prog.globalNamed "internal/strconv.uint64pow10" = some 4 := by kernel_rfl
theorem gSyn : Tryd.prog.globalNamed "strconv.ErrSyntax" = some 5 := by kernel_rfl
theorem gRng : Tryd.prog.globalNamed "strconv.ErrRange" = some 6 := by kernel_rfl
end Go.Proofs.YthhchicggidhcaaDoor

namespace Go.Proofs.YthhchicggidhcaaDoor
open Go.ChangeShapes Go.WideShapes Go.ChangeAt Go.RowKit

theorem own : ownKnob Tryd.prog.godebug = none := by kernel_rfl
noncomputable def laidWorld (os : Os) : World :=
  let N := (World.settled Tryd.prog os).heap.size
  let w0 := World.holding Tryd.prog os ⟨#[
    .cells #[.string ⟨#[118, 97, 108, 117, 101, 32, 111, 117, 116, 32, 111, 102, 32, 114, 97, 110, 103, 101]⟩] 221,
    .cells #[.string ⟨#[105, 110, 118, 97, 108, 105, 100, 32, 115, 121, 110, 116, 97, 120]⟩] 221], #[], []⟩
  let put (h : Array Obj) (g : Nat) (cs : Array Value) : Array Obj := h.modify g fun
    | .cells _ t frozen => .cells cs t frozen
    | o => o
  let h1 := put w0.heap 1 (Lib.firstTab.map fun z => Value.int .u8 z).toArray
  let h2 := put h1 2 ((List.range 16).flatMap fun i => [Value.int .u8 (Lib.accLo i), Value.int .u8 (Lib.accHi i)]).toArray
  let h3 := put h2 4 (Lib.pow10Tab.map fun z => Value.int .u64 z).toArray
  let h4 := put h3 6 #[.iface 219 (.pointer (some ⟨N, 0, none⟩))]
  let h5 := put h4 5 #[.iface 219 (.pointer (some ⟨N + 1, 0, none⟩))]
  let h6 := put h5 7 #[.int .u8 0, .int .u8 1, .int .u8 28, .int .u8 2, .int .u8 29, .int .u8 14, .int .u8 24, .int .u8 3, .int .u8 30, .int .u8 22, .int .u8 20, .int .u8 15, .int .u8 25, .int .u8 17, .int .u8 4, .int .u8 8, .int .u8 31, .int .u8 27, .int .u8 13, .int .u8 23, .int .u8 21, .int .u8 19, .int .u8 16, .int .u8 7, .int .u8 26, .int .u8 12, .int .u8 18, .int .u8 6, .int .u8 11, .int .u8 5, .int .u8 10, .int .u8 9]
  let h7 := put h6 8 #[.int .u8 0, .int .u8 1, .int .u8 56, .int .u8 2, .int .u8 57, .int .u8 49, .int .u8 28, .int .u8 3, .int .u8 61, .int .u8 58, .int .u8 42, .int .u8 50, .int .u8 38, .int .u8 29, .int .u8 17, .int .u8 4, .int .u8 62, .int .u8 47, .int .u8 59, .int .u8 36, .int .u8 45, .int .u8 43, .int .u8 51, .int .u8 22, .int .u8 53, .int .u8 39, .int .u8 33, .int .u8 30, .int .u8 24, .int .u8 18, .int .u8 12, .int .u8 5, .int .u8 63, .int .u8 55, .int .u8 48, .int .u8 27, .int .u8 60, .int .u8 41, .int .u8 37, .int .u8 16, .int .u8 46, .int .u8 35, .int .u8 44, .int .u8 21, .int .u8 52, .int .u8 32, .int .u8 23, .int .u8 11, .int .u8 54, .int .u8 26, .int .u8 40, .int .u8 15, .int .u8 34, .int .u8 20, .int .u8 31, .int .u8 10, .int .u8 25, .int .u8 14, .int .u8 19, .int .u8 9, .int .u8 13, .int .u8 8, .int .u8 7, .int .u8 6]
  { w0 with heap := h7 }

theorem laid_met (os : Os) (args : Array Value) : laidMet Tryd.prog Rows.scriptEncodesRow.laid ((laidWorld os).forCall (fun _ _ => 0) ⟨#[], args, []⟩).memory :=
  laidMet_of_run' 8 (by kernel_rfl) (by kernel_rfl)

theorem tPow : (Tryd.prog.globals[4]?).map (·.type) = some 199 := by kernel_rfl
theorem tSyn : (Tryd.prog.globals[5]?).map (·.type) = some 74 := by kernel_rfl
theorem tRng : (Tryd.prog.globals[6]?).map (·.type) = some 74 := by kernel_rfl
theorem lw_of {W : World} (h : laidMetH Tryd.prog Rows.scriptEncodesRow.laid W) (hsh : W.ShapedOpen Tryd.prog) : Lw W where
  shaped := hsh
  syn := err_of_laid gSyn tSyn Tryd.underlying74 (one_of_laid (d := Rows.laid_strconv_ErrSyntax) (by kernel_rfl) rfl h)
  rng := err_of_laid gRng tRng Tryd.underlying74 (one_of_laid (d := Rows.laid_strconv_ErrRange) (by kernel_rfl) rfl h)
  tab := Lib.tabIs_of_head (rest := []) gPow tPow Tryd.underlying199 Tryd.underlying99 (by kernel_rfl) (by kernel_rfl) (one_of_laid (d := Rows.laid_internal_strconv_uint64pow10) (by kernel_rfl) rfl h)
end Go.Proofs.YthhchicggidhcaaDoor

namespace Go.Proofs.YthhchicggidhcaaDoor.Back
open Go.ChangeShapes Go.WideShapes Go.ChangeAt Go.RowKit

theorem laidOut : laidOutB Tryd.prog = true := by kernel_rfl

set_option maxRecDepth 100000 in
theorem contract (H : Type) (enc : TypeId × Value → H) (W : World) (base : Nat) (args : Array Value) (ds gs : List (DataW H)) (before : List MemPlace)
    (hval : ∀ (j : Nat) t v, Tryd.f10.params[j]? = some t → args[j]? = some v → Value.okWide Tryd.prog W .any base t v)
    (hW : DataW.Whole enc Tryd.prog Tryd.f10.params.toList Rows.scriptBackSpec.vars false W args.toList ds gs before) (hL : Lw W) :
    Calls Tryd.prog 10 args W fun e W' => ∃ v, e = .returned v ∧ Rows.scriptBackSpec.post enc Tryd.prog Tryd.f10 false true false false W args v W' := by
  have hW' := hW
  obtain ⟨p, q, hA0, hV, rfl, hfz, hnd⟩ := hW
  have hA : DataW.TrodAll enc Tryd.prog W 0 (fun _ => true) true Tryd.f10.params.toList args.toList ds p := hA0
  rw [Tryd.params10] at hA hval
  obtain ⟨v0, d0, rfl, rfl, h0⟩ := trodAll_one hA
  obtain ⟨rfl, rfl⟩ := trodVars_none hV
  clear hA0 hA
  simp only [List.append_nil] at hW'
  have hlt : ∀ x ∈ p, x.block < W.heap.size := fun x hx => by simpa using hW'.lt x hx
  obtain ⟨src, inp, lim, fuel, A, c, fs, T, rfl, hs, hi, h1, h2, hc, hn, hf, hR⟩ := open_job_cap (hval 0 _ _ rfl rfl) h0
  have hm : maxLen ≤ 9223372036854775807 := by decide
  refine (ScriptBack_any src inp A c W hL hR (by omega) (by omega) (by omega) hc h1 h2 hf).mono fun e W' ⟨he, hb⟩ => ?_
  subst he
  exact ⟨_, rfl, ⟨_, _, _, [], _, [], hW', trodAll_mk1 (shut_bool Tryd.underlying4 _),
    trodAll_mk1 (Go.WideElems.Trod_stays laidOut (by kernel_rfl) (of_decide_eq_true (by kernel_rfl)) h0 (fun x hx => hb.same (hlt x hx)) (fun x hx => by simpa using hlt x hx)), rfl, hb.frame _, fun h => by cases h⟩⟩

/-- The job of the witness: the empty one. -/
def jobW : Value := .agg #[.string ⟨#[]⟩, .string ⟨#[]⟩, .int .i64 0, .int .i64 0, .slice none 0 0]
theorem reads (os : Os) {H : Type} (enc : TypeId × Value → H) : ∃ places, DataW.whole enc Tryd.prog ((laidWorld os).forCall (fun _ _ => 0) ⟨#[], #[jobW], []⟩).memory Tryd.f10.params.toList Rows.scriptBackSpec.vars false #[jobW].toList 8 =
    some ([.agg [.lit (.string []), .lit (.string []), .lit (.int .i64 0), .lit (.int .i64 0), .nil]], [], places) := ⟨[], by kernel_rfl⟩

set_option maxRecDepth 100000 in
theorem lifted (os : Os) (started : os.Started) (H : Type) (enc : TypeId × Value → H) (F : Stop.Interp) :
    ReturnsInHanded {} Tryd.checked os 10 .any ((OpenSpec.ofChange Rows.scriptBackSpec).preRow enc Tryd.prog Tryd.f10 Rows.scriptBackRow.domain false Rows.scriptBackRow.laid) (((OpenSpec.ofChange Rows.scriptBackSpec).at F).post enc Tryd.prog Tryd.f10 false true false false) := by
  obtain ⟨places, hx⟩ := reads os enc
  refine returnsInHanded_of_row (C := Tryd.checked) (s := OpenSpec.ofChange Rows.scriptBackSpec) own started (by kernel_rfl) Tryd.func10
    (witness_row_atRef (enc := enc) (C := Tryd.checked) false (laidWorld os) #[jobW] rfl (by kernel_rfl) (by kernel_rfl) (by kernel_rfl)
      (OpenSpec.preRow_of_cond 8 hx (by kernel_rfl) (fun k hk => by cases hk) (by kernel_rfl) (laid_met os _))) ?_
  intro W base args ds gs before hval hW _ _ _ hL hsh _
  exact contract H enc W base args ds gs before hval hW (lw_of hL hsh)

theorem said : Rows.ScriptBackSaid :=
  OpenClaim.holds_of_cond 10 Tryd.f10 rfl rfl rfl rfl rfl rfl rfl ⟨rfl, rfl, rfl, rfl, rfl⟩ rfl rfl rfl rfl rfl (by kernel_rfl) Tryd.func10 (by kernel_rfl)
    (of_decide_eq_true (by kernel_rfl)) (by unfold Func.isWrapper; first | (rw [if_pos (by decide +kernel)]; kernel_rfl) | (rw [if_neg (by decide +kernel)]; exact ⟨rfl, rfl⟩))
    (fun os started H enc _ F => by rw [OpenClaim.pre_eq_preRow]; exact lifted os started H enc F)

theorem plain (f : FuncId) (fn : Func) (hf : Tryd.pinned.checked.prog.funcNamed "moraine/morainelaw27.ScriptBack" = some f) (hfn : Tryd.pinned.checked.prog.funcs[f]? = some fn) :
    true = Tryd.pinned.checked.prog.looks [] ∧ ∀ (j : Nat) t, fn.params[j]? = some t → Tryd.pinned.checked.prog.wantsStandIn t = false := by
  obtain rfl : f = 10 := Option.some.inj ((show Tryd.prog.funcNamed "moraine/morainelaw27.ScriptBack" = some 10 by kernel_rfl).symm.trans hf) |>.symm
  obtain rfl : fn = Tryd.f10 := (Option.some.inj (Tryd.func10.symm.trans hfn)).symm
  refine ⟨by kernel_rfl, fun j t ht => ?_⟩
  rw [Tryd.params10] at ht
  obtain rfl : t = 24 := by simpa using Array.mem_of_getElem? ht
  exact (show Tryd.prog.wantsStandIn 24 = false by kernel_rfl)

theorem card : Rows.ScriptBackCardSaid :=
  Claim7.holds_tied_plain_at .later [] _ _ _ _ said (fun _ h => by cases h) (by kernel_rfl) (fun _ h => by cases h) scriptBack_row_tie rfl ⟨rfl, rfl⟩ (by kernel_rfl) rfl plain (by kernel_rfl)
end Go.Proofs.YthhchicggidhcaaDoor.Back
