/- Words that the walks of Tell and Print share. -/
import Derived.Test.YthhchicggidhcaaDoorMoLine
import Derived.Deep.RegionHeld3
import Derived.Deep.CutBlock
namespace Go.Proofs.YthhchicggidhcaaDoor
open Go.RowKit

abbrev wOut : ByteArray := ⟨#[111, 117, 116]⟩
abbrev wEnd : ByteArray := ⟨#[101, 110, 100]⟩
abbrev wSteps : ByteArray := ⟨#[115, 116, 101, 112, 115]⟩
abbrev wLog : ByteArray := ⟨#[108, 111, 103]⟩
def hexT (s : ByteArray) : ByteArray := strOfNums (hexes s.data.toList)
theorem hexT_size (s : ByteArray) : (hexT s).size = 2 * s.size := by
  unfold hexT strOfNums
  show (List.toArray _).size = _
  rw [List.size_toArray, List.length_map, hexes_len, Array.length_toList]; rfl
/-- A line, its end with it. -/
def lnB (w : ByteArray) (ns : List Int) : ByteArray := lineB w ns ++ ⟨#[10]⟩
theorem lnB_size (w : ByteArray) (ns : List Int) (h : ∀ n ∈ ns, I64 n) : (lnB w ns).size ≤ w.size + 22 * ns.length + 1 := by
  have := lineB_size w ns h
  unfold lnB
  rw [ByteArray.size_append]
  show _ + 1 ≤ _
  omega
theorem app_assoc (a b c : ByteArray) : a ++ b ++ c = a ++ (b ++ c) := by apply ByteArray.ext; simp
theorem app_nil (a : ByteArray) : a ++ ⟨#[]⟩ = a := by apply ByteArray.ext; simp
theorem bs_some {s : ByteArray} (h : s ≠ ⟨#[]⟩) : ¬ s.toList = [] := by
  intro e
  apply h
  rw [ByteArray.toList_eq] at e
  cases s; simpa using e
theorem bs_none {s : ByteArray} (h : s = ⟨#[]⟩) : s.toList = [] := by
  subst h; rw [ByteArray.toList_eq]
theorem all1 {P : Int → Prop} {a : Int} (h : P a) : ∀ n ∈ [a], P n := by simpa using h
theorem all2 {P : Int → Prop} {a b : Int} (h : P a) (h' : P b) : ∀ n ∈ [a, b], P n := by simp [h, h']
theorem all3 {P : Int → Prop} {a b c : Int} (h : P a) (h' : P b) (h'' : P c) : ∀ n ∈ [a, b, c], P n := by simp [h, h', h'']
theorem keep3 {W : World} {N : Nat} {a b c d e : Value} {t : TypeId} {f : Nat × Nat} (h : W.heap[N]? = some (.cells #[a, b, c, d, e] t f)) :
    W.cell? ⟨N, 1, none⟩ = some b ∧ W.cell? ⟨N, 2, none⟩ = some c ∧ W.cell? ⟨N, 3, none⟩ = some d := ⟨(blk_cell h).trans rfl, (blk_cell h).trans rfl, (blk_cell h).trans rfl⟩
theorem blk_reads {W : World} {N T : Nat} {vs : List Value} {f : Nat × Nat} (h : W.heap[N]? = some (.cells vs.toArray T f)) : Reads W T (some ⟨N, 0, none⟩) vs := fun _ =>
  ⟨N, 0, _, f, rfl, h, fun j hj => by simp⟩
theorem bel0 {n : Nat} {w W wa : World} (hB : Below n w W) (hn : n ≤ W.heap.size) (ha : Below W.heap.size W wa) : Below n w wa := hB.trans (ha.mono hn)
theorem belA {n : Nat} {w W wa : World} {o : Obj} (hB : Below n w W) (hn : n ≤ W.heap.size) (ha : Below (W.alloc o).drew.heap.size (W.alloc o).drew wa) : Below n w wa :=
  bel0 ((hB.alloc hn o).drew) (by show n ≤ (W.alloc o).heap.size; simp; omega) ha
theorem belAA {n : Nat} {w W wa : World} {o o' : Obj} (hB : Below n w W) (hn : n ≤ W.heap.size) (ha : Below ((W.alloc o).alloc o').drew.heap.size ((W.alloc o).alloc o').drew wa) : Below n w wa :=
  bel0 (((hB.alloc hn o).alloc (by simp; omega) o').drew) (by show n ≤ ((W.alloc o).alloc o').heap.size; simp; omega) ha
theorem belA' {n : Nat} {w W wa : World} {o : Obj} (hB : Below n w W) (hn : n ≤ W.heap.size) (ha : Below (W.alloc o).heap.size (W.alloc o) wa) : Below n w wa :=
  bel0 (hB.alloc hn o) (by simp; omega) ha
theorem belAA' {n : Nat} {w W wa : World} {o o' : Obj} (hB : Below n w W) (hn : n ≤ W.heap.size) (ha : Below ((W.alloc o).alloc o').heap.size ((W.alloc o).alloc o') wa) : Below n w wa :=
  bel0 ((hB.alloc hn o).alloc (by simp; omega) o') (by simp; omega) ha
end Go.Proofs.YthhchicggidhcaaDoor
