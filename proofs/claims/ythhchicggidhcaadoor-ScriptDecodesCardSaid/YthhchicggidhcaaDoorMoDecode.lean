/- The program's Decode. -/
import Derived.Test.YthhchicggidhcaaDoorMoSrc
import Derived.Test.YthhchicggidhcaaDoorMoDec
import Derived.Test.YthhchicggidhcaaDoorMoEnc
import Derived.Deep.RegionHeld3
import Derived.Deep.RegionLaw
import Derived.Deep.DeepCutAuto
import Derived.Deep.CutBlock
namespace Go.Proofs.YthhchicggidhcaaDoor
open Go.RowKit

/-- One collection more. -/
def sStep (s : List (Int × Int × Int) × List UInt8 × Bool) : List (Int × Int × Int) × List UInt8 × Bool :=
  (s.1 ++ [((snum s.2.1 s.2.2).1, (snum (snum s.2.1 s.2.2).2.1 (snum s.2.1 s.2.2).2.2).1, (snum (snum (snum s.2.1 s.2.2).2.1 (snum s.2.1 s.2.2).2.2).2.1 (snum (snum s.2.1 s.2.2).2.1 (snum s.2.1 s.2.2).2.2).2.2).1)],
   (snum (snum (snum s.2.1 s.2.2).2.1 (snum s.2.1 s.2.2).2.2).2.1 (snum (snum s.2.1 s.2.2).2.1 (snum s.2.1 s.2.2).2.2).2.2).2)
def sIter : Nat → List (Int × Int × Int) × List UInt8 × Bool → List (Int × Int × Int) × List UInt8 × Bool
  | 0, s => s
  | k + 1, s => sStep (sIter k s)
theorem sIter_len (s : List (Int × Int × Int) × List UInt8 × Bool) : ∀ k, (sIter k s).1.length = s.1.length + k ∧ (sIter k s).2.1.length ≤ s.2.1.length
  | 0 => ⟨rfl, Nat.le_refl _⟩
  | k + 1 => by
    obtain ⟨h1, h2⟩ := sIter_len s k
    refine ⟨?_, ?_⟩
    · show ((sIter k s).1 ++ [_]).length = _
      rw [List.length_append, h1]; rfl
    · exact Nat.le_trans (Nat.le_trans (snum_len _ _) (Nat.le_trans (snum_len _ _) (snum_len _ _))) h2

/-- What Decode goes through, read for read. -/
def sHead (l : List UInt8) : Int × Int × List UInt8 × Nat × List UInt8 × Bool :=
  let a := snum l false
  let b := snum a.2.1 a.2.2
  let t := stext b.2.1 b.2.2
  let m := samt t.2.1 t.2.2
  (a.1, b.1, t.1, m.1, m.2.1, m.2.2)
def sDec (l : List UInt8) : Except Int JS :=
  if 65536 < l.length then .error 12
  else if 1000 < (sHead l).2.2.2.1 then .error 12
  else if (stext (sIter (sHead l).2.2.2.1 ([], (sHead l).2.2.2.2.1, (sHead l).2.2.2.2.2)).2.1 (sIter (sHead l).2.2.2.1 ([], (sHead l).2.2.2.2.1, (sHead l).2.2.2.2.2)).2.2).2.2 = true ∨ (stext (sIter (sHead l).2.2.2.1 ([], (sHead l).2.2.2.2.1, (sHead l).2.2.2.2.2)).2.1 (sIter (sHead l).2.2.2.1 ([], (sHead l).2.2.2.2.1, (sHead l).2.2.2.2.2)).2.2).2.1 ≠ [] then .error 9
  else .ok ⟨mk (stext (sIter (sHead l).2.2.2.1 ([], (sHead l).2.2.2.2.1, (sHead l).2.2.2.2.2)).2.1 (sIter (sHead l).2.2.2.1 ([], (sHead l).2.2.2.2.1, (sHead l).2.2.2.2.2)).2.2).1, mk (sHead l).2.2.1, (sHead l).1, (sHead l).2.1, (sIter (sHead l).2.2.2.1 ([], (sHead l).2.2.2.2.1, (sHead l).2.2.2.2.2)).1⟩

theorem results_dec {tmps : Array Value} {W : World} {b0 : Nat} {v0 v1 v2 v3 v4 u : Value} {t : TypeId} {f : Nat × Nat} (h2 : tmps[2]?.getD undef = .pointer (some ⟨b0, 0, none⟩)) (h3 : tmps[3]?.getD undef = u)
    (e0 : W.heap[b0]? = some (.cells #[v0, v1, v2, v3, v4] t f)) : (results Tryd.f26 tmps).run Tryd.prog W = .ok (.tuple #[.agg #[v0, v1, v2, v3, v4], u]) W := by
  have c0 : W.cell? ⟨b0, 0, none⟩ = some v0 := (blk_cell e0).trans rfl
  have c1 : W.cell? ⟨b0, 1, none⟩ = some v1 := (blk_cell e0).trans rfl
  have c2 : W.cell? ⟨b0, 2, none⟩ = some v2 := (blk_cell e0).trans rfl
  have c3 : W.cell? ⟨b0, 3, none⟩ = some v3 := (blk_cell e0).trans rfl
  have c4 : W.cell? ⟨b0, 4, none⟩ = some v4 := (blk_cell e0).trans rfl
  simp [results, Tryd.f26, go_sem, c0, c1, c2, c3, c4, h2, h3]
/-- What Decode comes to. -/
def DecPost (l : List UInt8) (w : World) (e : Ending) (w' : World) : Prop :=
  (match sDec l with
  | .ok j => ∃ A c, e = .returned (.tuple #[.agg #[.string j.src, .string j.inp, .int .i64 j.lim, .int .i64 j.fuel, .slice A j.forced.length c], .int .i64 0]) ∧ w'.ownsRow w.heap.size 65 3 (.slice A j.forced.length c) j.forced.length (colls j.forced)
  | .error x => e = .returned (.tuple #[.agg #[.string ⟨#[]⟩, .string ⟨#[]⟩, .int .i64 0, .int .i64 0, .slice none 0 0], .int .i64 x])) ∧ Below w.heap.size w w'

theorem SrcAt.below {w w' : World} {T b : Nat} {l : List UInt8} {bad : Bool} (h : SrcAt w T b l bad) (hb : Below w.heap.size w w') : SrcAt w' T b l bad := by
  obtain ⟨s, h1, h2⟩ := h
  exact ⟨s, h1, blk_belowS hb h2⟩
theorem SrcAt.alloc {w : World} {T b : Nat} {l : List UInt8} {bad : Bool} (h : SrcAt w T b l bad) (o : Obj) : SrcAt (w.alloc o) T b l bad := h.below ((Below.refl _ _).alloc (Nat.le_refl _) o)
theorem SrcAt.ad {w : World} {T b : Nat} {l : List UInt8} {bad : Bool} (h : SrcAt w.drew T b l bad) (o : Obj) : SrcAt (w.alloc o).drew T b l bad := SrcAt.alloc (w := w) h o
theorem src_step {w : World} {T b : Nat} {l : List UInt8} {bad : Bool} (_ : SrcAt w T b (snum l bad).2.1 (snum l bad).2.2) (hbd : l.length ≤ 1048576) : (snum l bad).2.1.length ≤ 1048576 := Nat.le_trans (snum_len l bad) hbd
theorem blk10 {W : World} {N : Nat} {a b c d e : Value} {t : TypeId} (h : W.heap[N]? = some (.cells #[a, b, c, d, e] t (0, 0))) :
    W.cell? ⟨N, 0, none⟩ = some a ∧ W.cell? ⟨N, 1, none⟩ = some b ∧ W.cell? ⟨N, 2, none⟩ = some c ∧ W.cell? ⟨N, 3, none⟩ = some d ∧ W.cell? ⟨N, 4, none⟩ = some e ∧
    W.frozen? ⟨N, 0, none⟩ = false ∧ W.frozen? ⟨N, 1, none⟩ = false ∧ W.frozen? ⟨N, 2, none⟩ = false ∧ W.frozen? ⟨N, 3, none⟩ = false ∧ W.frozen? ⟨N, 4, none⟩ = false :=
  ⟨(blk_cell h).trans rfl, (blk_cell h).trans rfl, (blk_cell h).trans rfl, (blk_cell h).trans rfl, (blk_cell h).trans rfl, blk_free h, blk_free h, blk_free h, blk_free h, blk_free h⟩
theorem step_0 {n b m : Nat} {TS : List Nat} {w W wa : World} (hB : Below n w W) (hlt : m ≤ W.heap.size) (hbm : b ≤ m) (hle : n ≤ b) (hF : Fr TS b W wa) : Below n w wa ∧ m ≤ wa.heap.size :=
  ⟨hB.trans ((hF.below (Nat.le_trans hbm hlt)).mono hle), Nat.le_trans hlt hF.size⟩
theorem step_al {n b m : Nat} {TS : List Nat} {w W wa : World} {o : Obj} (hB : Below n w W) (hlt : m ≤ W.heap.size) (hbm : b ≤ m) (hle : n ≤ b) (hF : Fr TS b (W.alloc o) wa) : Below n w wa ∧ m ≤ wa.heap.size :=
  step_0 (hB.alloc (Nat.le_trans hle (Nat.le_trans hbm hlt)) o) (by rw [World.size_alloc]; omega) hbm hle hF
theorem step_ad {n b m : Nat} {TS : List Nat} {w W wa : World} {o : Obj} (hB : Below n w W.drew) (hlt : m ≤ W.drew.heap.size) (hbm : b ≤ m) (hle : n ≤ b) (hF : Fr TS b (W.alloc o).drew wa) : Below n w wa ∧ m ≤ wa.heap.size := by
  have h1 : Below n w W := ⟨hB.os, hB.tape, hB.output, hB.size, hB.block⟩
  have h2 : m ≤ W.heap.size := hlt
  exact step_0 ((h1.alloc (Nat.le_trans hle (Nat.le_trans hbm h2)) o).drew) (by show m ≤ (W.alloc o).heap.size; rw [World.size_alloc]; omega) hbm hle hF
/-- Five cells stored. -/
theorem put5 {W : World} {N : Nat} {a b c d e v0 v1 v2 v3 v4 : Value} {t : TypeId} (h : W.heap[N]? = some (.cells #[a, b, c, d, e] t (0, 0))) :
    (((((W.setCell ⟨N, 0, none⟩ v0).setCell ⟨N, 1, none⟩ v1).setCell ⟨N, 2, none⟩ v2).setCell ⟨N, 3, none⟩ v3).setCell ⟨N, 4, none⟩ v4).heap[N]? = some (.cells #[v0, v1, v2, v3, v4] t (0, 0)) ∧
    Fr [t] N W (((((W.setCell ⟨N, 0, none⟩ v0).setCell ⟨N, 1, none⟩ v1).setCell ⟨N, 2, none⟩ v2).setCell ⟨N, 3, none⟩ v3).setCell ⟨N, 4, none⟩ v4) := by
  have h1 := blk_set (j := 0) h v0
  have h2 := blk_set (j := 1) h1 v1
  have h3 := blk_set (j := 2) h2 v2
  have h4 := blk_set (j := 3) h3 v3
  have h5 := blk_set (j := 4) h4 v4
  refine ⟨h5, ?_⟩
  exact ((((Fr.setCell (p := ⟨N, 0, none⟩) v0 (Nat.le_refl _) ⟨_, _, _, h, by simp⟩).trans (Fr.setCell (p := ⟨N, 1, none⟩) v1 (Nat.le_refl _) ⟨_, _, _, h1, by simp⟩)).trans (Fr.setCell (p := ⟨N, 2, none⟩) v2 (Nat.le_refl _) ⟨_, _, _, h2, by simp⟩)).trans (Fr.setCell (p := ⟨N, 3, none⟩) v3 (Nat.le_refl _) ⟨_, _, _, h3, by simp⟩)).trans (Fr.setCell (p := ⟨N, 4, none⟩) v4 (Nat.le_refl _) ⟨_, _, _, h4, by simp⟩)
theorem SrcAt.fr {TS : List Nat} {base : Nat} {w w' : World} {T b : Nat} {l : List UInt8} {bad : Bool} (h : SrcAt w T b l bad) (hf : Fr TS base w w') (ht : T ∉ TS) : SrcAt w' T b l bad := by
  obtain ⟨s, h1, h2⟩ := h
  exact ⟨s, h1, blk_fr hf h2 ht⟩
theorem blk_lt_base {TS : List Nat} {base : Nat} {w w' : World} {b : Nat} {o : Obj} (hf : Fr TS base w w') (h : w.heap[b]? = some o) (hlt : b < base) : w'.heap[b]? = some o := by
  rw [hf.block b (blk_lt h) (.inl hlt)]; exact h
theorem SrcAt.grown {w w' : World} {T b : Nat} {l : List UInt8} {bad : Bool} (h : SrcAt w T b l bad) {row : Option Nat} (hg : w.grownBy w' row) (hne : some b ≠ row) : SrcAt w' T b l bad := by
  obtain ⟨s, h1, h2⟩ := h
  exact ⟨s, h1, blk_grown hg h2 hne⟩
theorem finJ {wa w5 : World} {n0 N2 k c : Nat} {A : Option Addr} {xs : List Value} {a b d e : Value} {o : Obj} (hj : wa.heap[N2]? = some (.cells #[a, b, d, e, .slice A k c] 24 (0, 0)))
    (ho : wa.ownsRow n0 65 3 (.slice A k c) k xs) (hg5 : (wa.alloc o).grownBy w5 (Value.slice A k c).ownBlock) : w5.cell? ⟨N2, 4, none⟩ = some (.slice A k c) ∧ w5.frozen? ⟨N2, 4, none⟩ = false := by
  have hoa := ho.alloc o
  have hja := blk_alloc hj o
  have hj5 := blk_grown hg5 hja (own_far hoa hja (by decide))
  exact ⟨(blk_cell hj5).trans rfl, blk_free hj5⟩
theorem finDec {w wa w5 : World} {n0 N2 k c c5 : Nat} {A A5 : Option Addr} {gs : List (Int × Int × Int)} {l : List UInt8} {bad : Bool} {inp : List UInt8} {lim fuel x y z : Int} (o : Obj)
    (hB : Below n0 w wa) (hlt : n0 + 2 ≤ wa.heap.size) (hz : wa.heap[n0]? = some (.cells #[.string ⟨#[]⟩, .string ⟨#[]⟩, .int .i64 0, .int .i64 0, .slice none 0 0] 24 (0, 0)))
    (hS : SrcAt wa 87 (n0 + 1) l bad) (hj : wa.heap[N2]? = some (.cells #[.string ⟨#[]⟩, .string (mk inp), .int .i64 lim, .int .i64 fuel, .slice A k c] 24 (0, 0)))
    (ho : wa.ownsRow n0 65 3 (.slice A k c) k (colls gs)) (ho5 : w5.ownsRow n0 65 3 (.slice A5 (k + 1) c5) (k + 1) (colls gs ++ [.int .i64 x, .int .i64 y, .int .i64 z]))
    (hg5 : (wa.alloc o).grownBy w5 (Value.slice A k c).ownBlock) (hN : n0 + 2 ≤ N2) :
    Below n0 w (w5.setCell ⟨N2, 4, none⟩ (.slice A5 (k + 1) c5)) ∧ n0 + 2 ≤ (w5.setCell ⟨N2, 4, none⟩ (.slice A5 (k + 1) c5)).heap.size ∧
    (w5.setCell ⟨N2, 4, none⟩ (.slice A5 (k + 1) c5)).heap[n0]? = some (.cells #[.string ⟨#[]⟩, .string ⟨#[]⟩, .int .i64 0, .int .i64 0, .slice none 0 0] 24 (0, 0)) ∧
    SrcAt (w5.setCell ⟨N2, 4, none⟩ (.slice A5 (k + 1) c5)) 87 (n0 + 1) l bad ∧
    (w5.setCell ⟨N2, 4, none⟩ (.slice A5 (k + 1) c5)).heap[N2]? = some (.cells #[.string ⟨#[]⟩, .string (mk inp), .int .i64 lim, .int .i64 fuel, .slice A5 (k + 1) c5] 24 (0, 0)) ∧
    (w5.setCell ⟨N2, 4, none⟩ (.slice A5 (k + 1) c5)).ownsRow n0 65 3 (.slice A5 (k + 1) c5) (k + 1) (colls (gs ++ [(x, y, z)])) := by
  have hoa := ho.alloc o
  have hja := blk_alloc hj o
  have hj5 := blk_grown hg5 hja (own_far hoa hja (by decide))
  have hza := blk_alloc hz o
  have hz5 := blk_grown hg5 hza (own_far hoa hza (by decide))
  have hSa := hS.alloc o
  have hS5 : SrcAt w5 87 (n0 + 1) l bad := by
    obtain ⟨s, h1, h2⟩ := hSa
    exact ⟨s, h1, blk_grown hg5 h2 (own_far hoa h2 (by decide))⟩
  have hFa : Fr [65] n0 wa w5 := Fr.app o ho hg5 (by decide) (Nat.le_refl _)
  have hFs := Fr.setCell (T := [24]) (base := N2) (p := ⟨N2, 4, none⟩) (.slice A5 (k + 1) c5) (Nat.le_refl _) ⟨_, _, _, hj5, by simp⟩
  have hB5 := hB.trans (hFa.below (by omega))
  refine ⟨hB5.trans ((hFs.below (Nat.le_of_lt (blk_lt hj5))).mono (by omega)), Nat.le_trans (Nat.le_trans hlt hFa.size) hFs.size, blk_lt_base hFs hz5 (by omega), hS5.fr hFs (by decide), blk_set hj5 _, ?_⟩
  have h6 := own_set (p := ⟨N2, 4, none⟩) ho5 (own_far ho5 hj5 (by decide)) (.slice A5 (k + 1) c5)
  have e : colls (gs ++ [(x, y, z)]) = colls gs ++ [.int .i64 x, .int .i64 y, .int .i64 z] := by simp [colls]
  rw [e]; exact h6
def zjob : Obj := .cells #[.string ⟨#[]⟩, .string ⟨#[]⟩, .int .i64 0, .int .i64 0, .slice none 0 0] 24
set_option maxRecDepth 100000 in
set_option maxHeartbeats 8000000 in
theorem Decode_any (s : ByteArray) (w : World) (hs : s.size ≤ 1048576) :
    Calls Tryd.prog 26 #[.string s] w (DecPost s.data.toList w) := by
  by_cases hlong : 65536 < s.size
  · go_enter Tryd.func26, Tryd.ntmps26
    go_wp2_with fail
    refine bodyPost_ret (v := .tuple #[.agg #[.string ⟨#[]⟩, .string ⟨#[]⟩, .int .i64 0, .int .i64 0, .slice none 0 0], .int .i64 12]) (by simp [results, Tryd.results26, go_sem]) rfl ?_
    have he : sDec s.data.toList = .error 12 := by
      unfold sDec
      rw [if_pos (by rw [Array.length_toList]; exact hlong)]
    unfold DecPost
    rw [he]
    exact ⟨rfl, (Below.refl _ _).alloc (Nat.le_refl _) _⟩
  · have hz := blk_new (w := w) (n := w.heap.size) zjob rfl
    have hB : Below w.heap.size w (w.alloc zjob) := (Below.refl _ _).alloc (Nat.le_refl _) _
    have hn : (w.alloc zjob).heap.size = w.heap.size + 1 := by simp
    have HZ := Lib.hid (And.intro hz (And.intro hB hn))
    clear hz hB hn
    go_enter Tryd.func26, Tryd.ntmps26
    go_upto_region 4 with (fail)
    have hz := blk_alloc HZ.out.1 (.cells #[.string s, .int .i64 0] 87)
    have hS : SrcAt ((w.alloc zjob).alloc (.cells #[.string s, .int .i64 0] 87)) 87 (w.heap.size + 1) s.data.toList false := ⟨s, rfl, blk_new _ HZ.out.2.2.symm⟩
    have hB := HZ.out.2.1.alloc HZ.out.2.1.size (.cells #[.string s, .int .i64 0] 87)
    have hn : ((w.alloc zjob).alloc (.cells #[.string s, .int .i64 0] 87)).heap.size = w.heap.size + 2 := by rw [World.size_alloc, HZ.out.2.2]
    unfold zjob at hz hS hB hn
    generalize (w.alloc (.cells #[.string ⟨#[]⟩, .string ⟨#[]⟩, .int .i64 0, .int .i64 0, .slice none 0 0] 24)).alloc (.cells #[.string s, .int .i64 0] 87) = W at *
    have hbd : s.data.toList.length ≤ 1048576 := by rw [Array.length_toList]; exact hs
    have HN := Lib.hid hn
    clear hn
    go_cut [5] (fun v5 wd => ∃ N2, v5 = .pointer (some ⟨N2, 0, none⟩) ∧ w.heap.size + 2 ≤ N2 ∧ (snum (snum s.data.toList false).2.1 (snum s.data.toList false).2.2).2.1.length ≤ 1048576 ∧ Below w.heap.size w wd ∧ wd.heap[w.heap.size]? = some (.cells #[.string ⟨#[]⟩, .string ⟨#[]⟩, .int .i64 0, .int .i64 0, .slice none 0 0] 24 (0, 0)) ∧
      SrcAt wd 87 (w.heap.size + 1) (snum (snum s.data.toList false).2.1 (snum s.data.toList false).2.2).2.1 (snum (snum s.data.toList false).2.1 (snum s.data.toList false).2.2).2.2 ∧
      wd.heap[N2]? = some (.cells #[.string ⟨#[]⟩, .string ⟨#[]⟩, .int .i64 (snum s.data.toList false).1, .int .i64 (snum (snum s.data.toList false).2.1 (snum s.data.toList false).2.2).1, .slice none 0 0] 24 (0, 0)))
    case first =>
      generalize s.data.toList = l at *
      replace hS : SrcAt W.drew 87 (w.heap.size + 1) l false := hS
      have hle : w.heap.size ≤ w.heap.size + 1 := Nat.le_succ _
      have hlt : w.heap.size + 2 ≤ W.drew.heap.size := by
        show _ ≤ W.heap.size
        rw [HN.out]; exact Nat.le_refl _
      have hbm : w.heap.size + 1 ≤ w.heap.size + 2 := Nat.le_succ _
      replace hB : Below w.heap.size w W.drew := hB.drew
      replace hz : W.drew.heap[w.heap.size]? = _ := hz
      go_region_held3 (fun _ => True) (exact trivial) (first
        | (go_at_call 42; (with_reducible refine (num_any 87 (w.heap.size + 1) _ _ _ hS hbd).mono ?_); rintro e wa ⟨rfl, hS', hF⟩; replace hS := hS'; clear hS'; replace hbd := src_step hS hbd; (try replace hj := blk_fr hF hj (by decide)); replace hz := blk_fr hF hz (by decide); obtain ⟨hB', hlt'⟩ := step_0 hB hlt hbm hle hF; replace hB := hB'; replace hlt := hlt'; clear hB' hlt'; (try (have hq := blk10 hj; obtain ⟨c0, c1, c2, c3, c4, f0, f1, f2, f3, f4⟩ := hq)))
        | (go_at_call 42; (with_reducible refine (num_any 87 (w.heap.size + 1) _ _ _ (hS.ad _) hbd).mono ?_); rintro e wa ⟨rfl, hS', hF⟩; replace hS := hS'; clear hS'; replace hbd := src_step hS hbd; have hj := blk_fr hF (blk_new (w := W) _ rfl) (by decide); replace hz := blk_fr hF (blk_alloc (w := W) hz _) (by decide); have hN : w.heap.size + 2 ≤ W.heap.size := hlt; have hst := step_ad hB hlt hbm hle hF; obtain ⟨hB', hlt'⟩ := hst; replace hB := hB'; replace hlt := hlt'; clear hB' hlt'; obtain ⟨c0, c1, c2, c3, c4, f0, f1, f2, f3, f4⟩ := blk10 hj)
        | (go_at_call 42; (with_reducible refine (num_any 87 (w.heap.size + 1) _ _ _ (hS.alloc _) hbd).mono ?_); rintro e wb ⟨rfl, hS', hF⟩; replace hS := hS'; clear hS'; replace hbd := src_step hS hbd; have hj := blk_fr hF (blk_new _ rfl) (by decide); replace hz := blk_fr hF (blk_alloc hz _) (by decide); have hN := hlt; have hst := step_al hB hlt hbm hle hF; obtain ⟨hB', hlt'⟩ := hst; replace hB := hB'; replace hlt := hlt'; clear hB' hlt'; obtain ⟨c0, c1, c2, c3, c4, f0, f1, f2, f3, f4⟩ := blk10 hj))
      · go_wp2_with fail
        go_meet
        case rel => exact ⟨_, rfl, hlt, hbd, hB.alloc (by omega) _, blk_alloc hz _, hS.alloc _, blk_new _ rfl⟩
      all_goals
        have h5 := put5 (v0 := .string ⟨#[]⟩) (v1 := .string ⟨#[]⟩) (v2 := .int .i64 (snum l false).1) (v3 := .int .i64 (snum (snum l false).2.1 (snum l false).2.2).1) (v4 := .slice none 0 0) hj
        clear c0 c1 c2 c3 c4 f0 f1 f2 f3 f4
        go_wp2_with fail
        go_meet
        case rel =>
          refine ⟨_, rfl, hN, hbd, hB.trans (h5.2.below (Nat.le_of_lt (blk_lt hj)) |>.mono (by have : w.heap.size + 2 ≤ _ := hN; omega)), ?_, hS.fr h5.2 (by decide), h5.1⟩
          exact blk_lt_base h5.2 hz (by have : w.heap.size + 2 ≤ _ := hN; omega)
    case rest =>
      clear hz hS hB
      obtain ⟨N2, rfl, hN, hbd, hB, hz, hS, hj⟩ := hcut
      have HH := Lib.hid (show sHead s.data.toList = ((snum s.data.toList false).1, (snum (snum s.data.toList false).2.1 (snum s.data.toList false).2.2).1, (stext (snum (snum s.data.toList false).2.1 (snum s.data.toList false).2.2).2.1 (snum (snum s.data.toList false).2.1 (snum s.data.toList false).2.2).2.2).1, (samt (stext (snum (snum s.data.toList false).2.1 (snum s.data.toList false).2.2).2.1 (snum (snum s.data.toList false).2.1 (snum s.data.toList false).2.2).2.2).2.1 (stext (snum (snum s.data.toList false).2.1 (snum s.data.toList false).2.2).2.1 (snum (snum s.data.toList false).2.1 (snum s.data.toList false).2.2).2.2).2.2)) from rfl)
      generalize snum s.data.toList false = q1 at *
      obtain ⟨lim, l1, b1⟩ := q1
      dsimp only at HH hS hj hbd
      generalize snum l1 b1 = q2 at *
      obtain ⟨fuel, l2, b2⟩ := q2
      dsimp only at HH hS hj hbd
      go_wp2_with fail
      (with_reducible refine (rtext_any 87 (w.heap.size + 1) l2 b2 wc hS hbd).mono ?_)
      rintro e w2 ⟨rfl, hS2, hF⟩
      have hws : w.heap.size + 2 ≤ wc.heap.size := by have := blk_lt hj; omega
      obtain ⟨hB2, hw2⟩ := step_0 hB hws (Nat.le_succ _) (Nat.le_succ _) hF
      replace hj := blk_fr hF hj (by decide)
      replace hz := blk_fr hF hz (by decide)
      have hb3 := (stext_len l2 b2).2
      clear hB hS hws hF
      generalize stext l2 b2 = q3 at *
      obtain ⟨inp, l3, b3⟩ := q3
      dsimp only at HH hS2 hb3 ⊢
      obtain ⟨-, c1, -, -, -, -, f1, -, -, -⟩ := blk10 hj
      have hF2 := Fr.setCell (T := [24]) (base := N2) (p := ⟨N2, 1, none⟩) (.string (mk inp)) (Nat.le_refl _) ⟨_, _, _, hj, by simp⟩
      have hj3 : (w2.setCell ⟨N2, 1, none⟩ (.string (mk inp))).heap[N2]? = some (.cells #[.string ⟨#[]⟩, .string (mk inp), .int .i64 lim, .int .i64 fuel, .slice none 0 0] 24 (0, 0)) := blk_set hj _
      have hz3 := blk_lt_base hF2 hz (by omega)
      have hS3 := hS2.fr hF2 (by decide)
      have hB3 := hB2.trans ((hF2.below (Nat.le_of_lt (blk_lt hj))).mono (by omega))
      have hw3 : w.heap.size + 2 ≤ (w2.setCell ⟨N2, 1, none⟩ (.string (mk inp))).heap.size := Nat.le_trans hw2 hF2.size
      go_wp2_with fail
      clear c1 f1 hj hz hS2 hB2 hF2 hw2
      generalize w2.setCell ⟨N2, 1, none⟩ (.string (mk inp)) = W3 at *
      (with_reducible refine (amount_any 87 (w.heap.size + 1) l3 b3 _ hS3 (by omega)).mono ?_)
      rintro e w4 ⟨rfl, hS4, hF⟩
      obtain ⟨hB4, hw4⟩ := step_0 hB3 hw3 (Nat.le_succ _) (Nat.le_succ _) hF
      have hj4 := blk_fr hF hj3 (by decide)
      have hz4 := blk_fr hF hz3 (by decide)
      have hb4 := samt_len l3 b3
      have hnl := samt_le l3 b3
      clear hB3 hS3 hj3 hz3 hw3 hF
      generalize samt l3 b3 = q4 at *
      obtain ⟨n, l4, b4⟩ := q4
      dsimp only at HH hS4 hb4 hnl ⊢
      have hl4 : l4.length ≤ 1048576 := by omega
      have hnb : n ≤ 1048576 := by omega
      clear hbd hb3 hb4 hnl
      have hlo : ¬ 65536 < s.data.toList.length := by rw [Array.length_toList]; exact hlong
      have HD := Lib.hid (show sDec s.data.toList = if 1000 < n then .error 12
        else if (stext (sIter n ([], l4, b4)).2.1 (sIter n ([], l4, b4)).2.2).2.2 = true ∨ (stext (sIter n ([], l4, b4)).2.1 (sIter n ([], l4, b4)).2.2).2.1 ≠ [] then .error 9
        else .ok ⟨mk (stext (sIter n ([], l4, b4)).2.1 (sIter n ([], l4, b4)).2.2).1, mk inp, lim, fuel, (sIter n ([], l4, b4)).1⟩ by
          unfold sDec
          rw [if_neg hlo, HH.out])
      clear HH hlo
      obtain ⟨z0, z1, z2, z3, z4, y0, y1, y2, y3, y4⟩ := blk10 hz4
      by_cases hn : 1000 < n
      · have he := HD.out
        rw [if_pos hn] at he
        have HE := Lib.hid he
        clear he HD
        go_wp2_with fail
        have h5 := put5 (v0 := .string ⟨#[]⟩) (v1 := .string ⟨#[]⟩) (v2 := .int .i64 0) (v3 := .int .i64 0) (v4 := .slice none 0 0) hz4
        obtain ⟨x0, x1, x2, x3, x4, -, -, -, -, -⟩ := blk10 h5.1
        refine bodyPost_ret (v := .tuple #[.agg #[.string ⟨#[]⟩, .string ⟨#[]⟩, .int .i64 0, .int .i64 0, .slice none 0 0], .int .i64 12]) (by simp [results, Tryd.results26, go_sem, x0, x1, x2, x3, x4]) rfl ?_
        unfold DecPost
        rw [HE.out]
        exact ⟨rfl, hB4.trans (h5.2.below (Nat.le_of_lt (blk_lt hz4)))⟩
      · have he := HD.out
        rw [if_neg hn] at he
        have HE := Lib.hid he
        clear he HD z0 z1 z2 z3 z4 y0 y1 y2 y3 y4
        go_wp2_with fail
        go_loopw [33] (fun v33 wr => ∃ (k : Nat) (A : Option Addr) (c : Nat), k ≤ n ∧ v33 = .int .i64 k ∧ Below w.heap.size w wr ∧ w.heap.size + 2 ≤ wr.heap.size ∧ wr.heap[w.heap.size]? = some (.cells #[.string ⟨#[]⟩, .string ⟨#[]⟩, .int .i64 0, .int .i64 0, .slice none 0 0] 24 (0, 0)) ∧
          SrcAt wr 87 (w.heap.size + 1) (sIter k ([], l4, b4)).2.1 (sIter k ([], l4, b4)).2.2 ∧ wr.heap[N2]? = some (.cells #[.string ⟨#[]⟩, .string (mk inp), .int .i64 lim, .int .i64 fuel, .slice A k c] 24 (0, 0)) ∧ wr.ownsRow w.heap.size 65 3 (.slice A k c) k (colls (sIter k ([], l4, b4)).1)) (fun v33 _ => n - (intOf v33).toNat)
        case atStart => exact ⟨0, none, 0, Nat.zero_le _, rfl, hB4, hw4, hz4, hS4, hj4, own_nil' _ _ _ _⟩
        case round =>
          clear hB4 hw4 hz4 hS4 hj4
          obtain ⟨k, A, c, hk, rfl, hB, hlt, hz, hS, hj, ho⟩ := hrel
          have hsl := sIter_len ([], l4, b4) k
          have hbd : (sIter k ([], l4, b4)).2.1.length ≤ 1048576 := Nat.le_trans hsl.2 hl4
          by_cases hkn : k < n
          · have hst : sIter (k + 1) ([], l4, b4) = sStep (sIter k ([], l4, b4)) := rfl
            have HST := Lib.hid hst
            clear hst hsl
            generalize sIter k ([], l4, b4) = q5 at *
            obtain ⟨gs, l5, b5⟩ := q5
            dsimp only at hS hbd ho
            go_upto_region 11 with (fail)
            replace hS : SrcAt wr.drew 87 (w.heap.size + 1) l5 b5 := hS
            replace hj : wr.drew.heap[N2]? = _ := hj
            replace hz : wr.drew.heap[w.heap.size]? = _ := hz
            replace ho : wr.drew.ownsRow _ _ _ _ _ _ := ho
            replace hB : Below w.heap.size w wr.drew := hB.drew
            replace hlt : w.heap.size + 2 ≤ wr.drew.heap.size := hlt
            have hc : wr.drew.cell? ⟨N2, 4, none⟩ = some (.slice A k c) := (blk_cell hj).trans rfl
            have hk1 : k + 1 ≤ 1048576 := by omega
            go_region_law (first
              | (go_simp; go_at_call 42; (with_reducible refine (num_any 87 (w.heap.size + 1) _ _ _ hS hbd).mono ?_); rintro e wa ⟨rfl, hS', hF⟩; replace hS := hS'; clear hS'; replace hbd := src_step hS hbd; have hst := step_0 hB hlt (Nat.le_succ _) (Nat.le_succ _) hF; obtain ⟨hB', hlt'⟩ := hst; replace hB := hB'; replace hlt := hlt'; clear hB' hlt'; replace hj := blk_fr hF hj (by decide); replace hz := blk_fr hF hz (by decide); replace ho := own_fr ho hF (by decide); have hc' : wa.cell? ⟨N2, 4, none⟩ = some (.slice A k c) := (blk_cell hj).trans rfl; have hca : ∀ o, (wa.alloc o).cell? ⟨N2, 4, none⟩ = some (.slice A k c) := fun o => cell_below ((Below.refl _ _).alloc (Nat.le_refl _) o) hc')
              | (refine stepR (base := w.heap.size) (v := .slice A k c) (n := k) (m := 1) (T := 65) (A := some ⟨wa.heap.size, 0, none⟩) (ho.alloc _) Tryd.underlying22 infoColl rfl (by decide) (Reads.lit wa _ [_, _, _]) (by rfl) (by simp) (by unfold maxLen; omega) (by omega) (by rw [World.size_alloc]; omega) rfl rfl rfl rfl (by simp [Value.oneCell']) ?_; intro A5 c5 w5 ho5 hg5; have hE := Lib.hid (finDec _ hB hlt hz hS hj ho ho5 hg5 hN); have hJ5 := finJ hj ho hg5; obtain ⟨hc5, hf5⟩ := hJ5))
            all_goals
              clear hc5 hf5 hg5 ho5
              go_wp2_with fail
              go_roundw
              case rel => exact ⟨k + 1, A5, c5, by omega, by go_num, by rw [HST.out]; exact hE.out⟩
              case measure => simp [intOf]; omega
          · have hke : k = n := by omega
            subst hke
            have hsl3 := sIter_len ([], l4, b4) k
            generalize sIter k ([], l4, b4) = q5 at *
            obtain ⟨gs, l5, b5⟩ := q5
            dsimp only at hS hbd ho HE hsl3
            have hgl : gs.length = k := by simpa using hsl3.1
            have HGL := Lib.hid hgl
            clear hsl hsl3 hgl
            go_wp2_with fail
            (with_reducible refine (rtext_any 87 (w.heap.size + 1) l5 b5 _ hS hbd).mono ?_)
            rintro e w6 ⟨rfl, hS6, hF⟩
            obtain ⟨hB6, hw6⟩ := step_0 hB hlt (Nat.le_succ _) (Nat.le_succ _) hF
            have hj6 := blk_fr hF hj (by decide)
            have hz6 := blk_fr hF hz (by decide)
            have ho6 := own_fr ho hF (by decide)
            clear hB hlt hz hS hj ho hF
            generalize stext l5 b5 = q6 at *
            obtain ⟨src, l6, b6⟩ := q6
            dsimp only at HE hS6 ⊢
            obtain ⟨s7, hs7, hr6⟩ := hS6
            have r0 : w6.cell? ⟨w.heap.size + 1, 0, none⟩ = some (.string s7) := (blk_cell hr6).trans rfl
            have r1 : w6.cell? ⟨w.heap.size + 1, 1, none⟩ = some (.int .i64 (if b6 = true then 1 else 0)) := (blk_cell hr6).trans rfl
            have hF2 := Fr.setCell (T := [24]) (base := N2) (p := ⟨N2, 0, none⟩) (.string (mk src)) (Nat.le_refl _) ⟨_, _, _, hj6, by simp⟩
            have hz7 := blk_lt_base hF2 hz6 (by omega)
            have ho7 := own_fr ho6 hF2 (by decide)
            have hB7 := hB6.trans ((hF2.below (Nat.le_of_lt (blk_lt hj6))).mono (by omega))
            have hlt7 : w.heap.size ≤ (w6.setCell ⟨N2, 0, none⟩ (.string (mk src))).heap.size := Nat.le_of_lt (blk_lt hz7)
            have h5 := put5 (v0 := .string ⟨#[]⟩) (v1 := .string ⟨#[]⟩) (v2 := .int .i64 0) (v3 := .int .i64 0) (v4 := .slice none 0 0) hz7
            have h6 := put5 (v0 := .string (mk src)) (v1 := .string (mk inp)) (v2 := .int .i64 lim) (v3 := .int .i64 fuel) (v4 := .slice A k c) hz7
            have H5 := Lib.hid (And.intro h5 (And.intro h6 (And.intro ho7 (And.intro hB7 hlt7))))
            have hsl7 : s7.toList = [] ↔ l6 = [] := by rw [ByteArray.toList_eq, hs7]
            have HS7 := Lib.hid hsl7
            obtain ⟨c0, c1, c2, c3, c4, f0, -, -, -, -⟩ := blk10 hj6
            obtain ⟨z0, z1, z2, z3, z4, y0, y1, y2, y3, y4⟩ := blk10 hz6
            clear hF2 hz7 ho7 hB7 hlt7 h5 h6 hsl7 hs7 hr6 hj6 hz6 ho6 hB6 hw6
            have hb0 : N2 ≠ w.heap.size := by omega
            cases b6 with
            | true =>
              have he := HE.out
              rw [if_pos (.inl rfl)] at he
              have HE2 := Lib.hid he
              clear he HE
              simp only [if_true] at r1
              go_wp2_with fail
              refine bodyPost_ret (results_dec rfl rfl H5.out.1.1) rfl ?_
              unfold DecPost
              rw [HE2.out]
              exact ⟨rfl, H5.out.2.2.2.1.trans (H5.out.1.2.below H5.out.2.2.2.2)⟩
            | false =>
              simp only [Bool.false_eq_true, if_false] at r1
              by_cases hl : l6 = []
              · have he := HE.out
                rw [if_neg (by simp [hl])] at he
                have HE2 := Lib.hid he
                have hse := HS7.out.2 hl
                clear he HE
                go_wp2_with fail
                refine bodyPost_ret (results_dec rfl rfl H5.out.2.1.1) rfl ?_
                unfold DecPost
                rw [HE2.out]
                refine ⟨⟨A, c, ?_, ?_⟩, H5.out.2.2.2.1.trans (H5.out.2.1.2.below H5.out.2.2.2.2)⟩
                · dsimp only
                  rw [HGL.out]
                  rfl
                · dsimp only
                  rw [HGL.out]
                  exact own_fr H5.out.2.2.1 H5.out.2.1.2 (by decide)
              · have he := HE.out
                rw [if_pos (.inr hl)] at he
                have HE2 := Lib.hid he
                have hse : ¬ s7.toList = [] := fun e => hl (HS7.out.1 e)
                clear he HE
                go_wp2_with fail
                · refine bodyPost_ret (results_dec rfl rfl H5.out.1.1) rfl ?_
                  unfold DecPost
                  rw [HE2.out]
                  exact ⟨rfl, H5.out.2.2.2.1.trans (H5.out.1.2.below H5.out.2.2.2.2)⟩
                · exfalso
                  have h := ‹(!s7.toList.isEmpty) = false›
                  simp [hse] at h
end Go.Proofs.YthhchicggidhcaaDoor
