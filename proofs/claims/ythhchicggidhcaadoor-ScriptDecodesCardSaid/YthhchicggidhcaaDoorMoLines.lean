/- The program's lines: an iterator that keeps what is left in a box. -/
import Derived.Test.YthhchicggidhcaaDoorMoRange
import Derived.Shelf.Abstract
namespace Go.Proofs.YthhchicggidhcaaDoor
open Go.RowKit Go.Shelf
attribute [local go_sem] Oper.semAt_some

def cutL (s : ByteArray) : ByteArray := ⟨(Lib.cut s.data.toList (ByteArray.mk #[10]).data.toList).1.toArray⟩
def cutR (s : ByteArray) : ByteArray := ⟨(Lib.cut s.data.toList (ByteArray.mk #[10]).data.toList).2.1.toArray⟩
def cutB (s : ByteArray) : Bool := (Lib.cut s.data.toList (ByteArray.mk #[10]).data.toList).2.2
def lnsF : Nat → Nat → ByteArray → List (Nat × ByteArray × ByteArray)
  | 0, _, _ => []
  | k + 1, i, s => if s.size = 0 then [] else (i, cutL s, cutR s) :: lnsF k (i + 1) (cutR s)
def lns (s : ByteArray) : List (Nat × ByteArray × ByteArray) := lnsF s.size 1 s
theorem lnsF_zero (k i : Nat) (s : ByteArray) (h : s.size = 0) : lnsF k i s = [] := by cases k <;> simp [lnsF, h]
theorem lnsF_some (k i : Nat) (s : ByteArray) (h : 0 < s.size) (hk : s.size ≤ k) : lnsF k i s = (i, cutL s, cutR s) :: lnsF (k - 1) (i + 1) (cutR s) := by
  cases k with
  | zero => omega
  | succ k => rw [lnsF, if_neg (by omega)]; rfl
theorem bsize (l : List UInt8) : (ByteArray.mk l.toArray).size = l.length := by simp [ByteArray.size]
theorem bsize' (s : ByteArray) : s.size = s.data.toList.length := by rw [Array.length_toList]; rfl
theorem cutR_size (s : ByteArray) (h : 0 < s.size) : (cutR s).size < s.size := by
  rw [cutR, bsize, bsize' s]
  rw [bsize' s] at h
  unfold Lib.cut
  split
  · show (List.drop _ _).length < _
    rw [List.length_drop]
    have : (ByteArray.mk #[10]).data.toList.length = 1 := rfl
    omega
  · simpa using h
theorem cutL_size (s : ByteArray) : (cutL s).size ≤ s.size := by
  rw [cutL, bsize, bsize' s]
  unfold Lib.cut
  split
  · simp only [List.length_take]; omega
  · simp

theorem cut_any (s : ByteArray) (w : World) (hw : w.ShapedOpen Tryd.prog) (hs : s.size ≤ 1048576) :
    Calls Tryd.prog 58 #[.string s, .string ⟨#[10]⟩] w fun e w' => e = .returned (.tuple #[.string (cutL s), .string (cutR s), .bool (cutB s)]) ∧ ∃ n, w' = w.drewN n :=
  Tryd.strings_Cut_shaped s ⟨#[10]⟩ w hw (by omega)

theorem lnsF_len : ∀ (k i : Nat) (s : ByteArray), (lnsF k i s).length ≤ k
  | 0, _, _ => Nat.le_refl _
  | k + 1, i, s => by
    unfold lnsF
    split
    · simp
    · have := lnsF_len k (i + 1) (cutR s)
      simp only [List.length_cons]; omega
theorem cutR_le (s : ByteArray) : (cutR s).size ≤ s.size := by
  by_cases h : 0 < s.size
  · exact Nat.le_of_lt (cutR_size s h)
  · rw [cutR, bsize, bsize' s]
    unfold Lib.cut
    split
    · show (List.drop _ _).length ≤ _
      rw [List.length_drop]; omega
    · simp
theorem lnsF_size : ∀ (k i : Nat) (s : ByteArray) (x : Nat × ByteArray × ByteArray), x ∈ lnsF k i s → x.2.1.size ≤ s.size ∧ x.2.2.size ≤ s.size
  | 0, _, _, x, h => by simp [lnsF] at h
  | k + 1, i, s, x, h => by
    unfold lnsF at h
    split at h
    · simp at h
    · rcases List.mem_cons.1 h with rfl | h
      · exact ⟨cutL_size s, cutR_le s⟩
      · have h1 := lnsF_size k (i + 1) (cutR s) x h
        have h2 := cutR_le s
        omega

def lnEnc (x : Nat × ByteArray × ByteArray) : Array Value := #[.int .i64 x.1, .agg #[.string x.2.1, .string x.2.2]]

theorem grown_drewN (W : World) (n : Nat) (row : Option Nat) : W.grownBy (W.drewN n) row := ⟨rfl, rfl, rfl, Nat.le_refl _, fun _ _ _ => rfl⟩
theorem grown_set (W : World) (b j : Nat) (v : Value) : W.grownBy (W.setCell ⟨b, j, none⟩ v) (some b) :=
  ⟨rfl, rfl, rfl, by simp [World.setCell], fun k _ hk => Below.heap_setCell W ⟨b, j, none⟩ v k fun e => hk (by rw [e])⟩

set_option maxRecDepth 100000 in
set_option maxHeartbeats 400000 in
theorem lines1_in (n : Nat) (hn : 1 ≤ n) (s : ByteArray) (hs : s.size ≤ 1048576) (w : World) (Bs : Nat) (hb : w.heap[Bs]? = some (.cells #[.string s] 9 (0, 0))) :
    SeqBox Fence.wide n Tryd.prog 57 #[.pointer (some ⟨Bs, 0, none⟩)] lnEnc Bs 9 (fun W => W.ShapedOpen Tryd.prog) (lns s) w := by
  intro l J Jx W hW hJ hL hY h0
  have hbW := blk_belowS hW hb
  refine callsIn_of_wp Tryd.func57 rfl trivial ?_ rfl
  simp only [Tryd.ntmps57, List.size_toArray, List.length_cons, List.length_nil, Nat.reduceAdd, Nat.reduceSub, Array.replicate_succ, Array.replicate_zero, List.push_toArray, List.append_toArray, List.nil_append, List.cons_append]
  gi_wp2
  gi_loopw [3] (fun v3 wr => ∃ (pre : List (Nat × ByteArray × ByteArray)) (k i : Nat) (t : ByteArray), v3 = .int .i64 i ∧ Hid (lns s = pre ++ lnsF k i t) ∧ t.size ≤ k ∧ 1 ≤ i ∧ i + t.size ≤ s.size + 1 ∧ wr.heap[Bs]? = some (.cells #[.string t] 9 (0, 0)) ∧ J pre wr)
    (fun _ wr => match wr.cell? ⟨Bs, 0, none⟩ with | some (.string t) => t.size | _ => 0)
  case atStart => exact ⟨[], s.size, 1, s, rfl, Lib.hid rfl, Nat.le_refl _, Nat.le_refl _, by omega, hbW, h0⟩
  case round =>
    obtain ⟨pre, k, i, t, rfl, HX, htk, hi1, hit, hbx, hj⟩ := hrel
    have c1 : wr.cell? ⟨Bs, 0, none⟩ = some (.string t) := (blk_cell hbx).trans rfl
    have f1 : wr.frozen? ⟨Bs, 0, none⟩ = false := blk_free hbx
    have hcw := c1
    by_cases ht : t.size = 0
    · have he : t = ⟨#[]⟩ := by
        cases t with | mk d => cases d with | mk q => cases q with
          | nil => rfl
          | cons a b => simp [ByteArray.size] at ht
      subst he
      have hfin : J (lns s) wr := by have := HX.out; rw [lnsF_zero _ _ _ rfl, List.append_nil] at this; rw [this]; exact hj
      gi_wp2
      go_end0
      exact ⟨⟨_, rfl⟩, .inl hfin⟩
    · have hn0 : ¬ t.toList = [] := fun e => ht (by rw [ByteArray.toList_eq] at e; rw [bsize', e]; rfl)
      have hn1 : t.toList.isEmpty = false := by
        cases hq : t.toList with
        | nil => exact absurd hq hn0
        | cons a b => rfl
      have hsh := hL _ _ hj
      have hnx : lns s = pre ++ [(i, cutL t, cutR t)] ++ lnsF (k - 1) (i + 1) (cutR t) := by
        rw [HX.out, lnsF_some k i t (by omega) htk, List.append_assoc]; rfl
      have HN := Lib.hid hnx
      have hpre : pre ++ [(i, cutL t, cutR t)] <+: lns s := ⟨_, hnx.symm⟩
      have hcr := cutR_size t (by omega)
      clear hnx
      gi_wp2
      refine ⟨trivial, (callsIn_wide.2 (cut_any t _ hsh (by omega))).mono ?_⟩
      rintro e w' ⟨rfl, m, rfl⟩
      replace hj := hJ _ _ _ none hj (grown_drewN wr m none) (by simp)
      replace hbx : (wr.drewN m).heap[Bs]? = _ := hbx
      replace c1 : (wr.drewN m).cell? ⟨Bs, 0, none⟩ = _ := c1
      replace f1 : (wr.drewN m).frozen? ⟨Bs, 0, none⟩ = _ := f1
      obtain ⟨fn, tmps, assign, body, hy, hR⟩ := hY _ _ _ hj hpre
      generalize wr.drewN m = W2 at *
      dsimp only [lnEnc] at hy
      gi_wp2
      refine hR.mono ?_
      rintro e W3 (⟨rfl, hj3, hk3⟩ | ⟨rfl, hjx3⟩)
      · have hb3 := hk3.trans hbx
        have c3 : W3.cell? ⟨Bs, 0, none⟩ = some (.string t) := (blk_cell hb3).trans rfl
        have f3 : W3.frozen? ⟨Bs, 0, none⟩ = false := blk_free hb3
        have hb4 := blk_set (j := 0) hb3 (.string (cutR t))
        have hj4 := hJ _ _ _ _ hj3 (grown_set W3 Bs 0 (.string (cutR t))) (fun r e => ⟨by injection e with e; exact e.symm, _, hb4⟩)
        have c4 : (W3.setCell ⟨Bs, 0, none⟩ (.string (cutR t))).cell? ⟨Bs, 0, none⟩ = some (.string (cutR t)) := (blk_cell hb4).trans rfl
        gi_wp2
        go_roundw
        case rel => exact ⟨_, k - 1, i + 1, cutR t, by go_num, Lib.hid HN.out, by omega, by omega, by omega, hb4, hj4⟩
        case measure => rw [c4, hcw]; exact hcr
      · gi_wp2
        refine bodyPost_ret (results_none rfl _ _ _) rfl ?_
        exact ⟨⟨_, rfl⟩, .inr ⟨_, hpre, hjx3⟩⟩
end Go.Proofs.YthhchicggidhcaaDoor
