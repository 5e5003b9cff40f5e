/- The writer's put and text: they append each number's bytes, and a text's. -/
import Derived.Test.YthhchicggidhcaaDoorProg
import Derived.Test.YthhchicggidhcaaDoorMoInfo
namespace Go.Proofs.YthhchicggidhcaaDoor
open Go.RowKit

/-- The writer at block b has the bytes xs. -/
def IsW (base b : Nat) (w : World) (xs : List Int) : Prop :=
  base ≤ b ∧ ∃ v, w.heap[b]? = some (.cells #[v] 61 (0, 0)) ∧ w.ownsRow base 5 1 v xs.length (ints .u8 xs)

theorem IsW.mk {base b : Nat} {w : World} {xs : List Int} {v : Value} (h1 : base ≤ b) (h2 : w.heap[b]? = some (.cells #[v] 61 (0, 0))) (h3 : w.ownsRow base 5 1 v xs.length (ints .u8 xs)) : IsW base b w xs := ⟨h1, v, h2, h3⟩
theorem IsW.empty {base b : Nat} {w : World} (h1 : base ≤ b) (h2 : w.heap[b]? = some (.cells #[.slice none 0 0] 61 (0, 0))) : IsW base b w [] := ⟨h1, _, h2, own_nil' _ _ _ _⟩


theorem W_app0 {base b : Nat} {wr w' : World} {v : Value} {A' : Option Addr} {c' : Nat} {ys zs : List Int} (hbb : base ≤ b)
    (hv : wr.heap[b]? = some (.cells #[v] 61 (0, 0))) (hown : wr.ownsRow base 5 1 v ys.length (ints .u8 ys))
    (hg : wr.grownBy w' v.ownBlock) (hown' : w'.ownsRow base 5 1 (.slice A' (ys.length + zs.length) c') (ys.length + zs.length) (ints .u8 ys ++ ints .u8 zs)) :
    IsW base b (w'.setCell ⟨b, 0, none⟩ (.slice A' (ys.length + zs.length) c')) (ys ++ zs) ∧
      Fr [61, 5] base wr (w'.setCell ⟨b, 0, none⟩ (.slice A' (ys.length + zs.length) c')) := by
  have hne := own_far hown hv (by decide)
  have hb' := blk_grown hg hv hne
  have hne' := own_far hown' hb' (by decide)
  refine ⟨⟨hbb, _, blk_set hb' _, ?_⟩, (Fr.app0 hown hg (by decide) (Nat.le_refl _)).trans (Fr.setCell _ hbb ⟨_, _, _, hb', by decide⟩)⟩
  have h := own_set (p := ⟨b, 0, none⟩) hown' hne' (.slice A' (ys.length + zs.length) c')
  simpa [ints] using h
theorem W_app {base b : Nat} {wr w' : World} {v : Value} {A' : Option Addr} {c' : Nat} {ys zs : List Int} {o : Obj} (hbb : base ≤ b)
    (hv : wr.heap[b]? = some (.cells #[v] 61 (0, 0))) (hown : wr.ownsRow base 5 1 v ys.length (ints .u8 ys))
    (hg : (wr.alloc o).grownBy w' v.ownBlock) (hown' : w'.ownsRow base 5 1 (.slice A' (ys.length + zs.length) c') (ys.length + zs.length) (ints .u8 ys ++ ints .u8 zs)) :
    IsW base b (w'.setCell ⟨b, 0, none⟩ (.slice A' (ys.length + zs.length) c')) (ys ++ zs) ∧
      Fr [61, 5] base wr (w'.setCell ⟨b, 0, none⟩ (.slice A' (ys.length + zs.length) c')) := by
  obtain ⟨h1, h2⟩ := W_app0 hbb (blk_alloc hv o) (hown.alloc o) hg hown'
  exact ⟨h1, ((Fr.refl _ _ _).alloc o).trans h2⟩

/-- A number's bytes: seven bits each, the lowest first. -/
def venc (x : Nat) : List Int := if h : x < 128 then [(x : Int)] else (bits .or .u8 ((x : Int) % 256) 128) :: venc (x / 128)
termination_by x
decreasing_by omega

theorem venc_small {x : Nat} (h : x < 128) : venc x = [(x : Int)] := by rw [venc, dif_pos h]
theorem venc_more {x : Nat} (h : ¬ x < 128) : venc x = (bits .or .u8 ((x : Int) % 256) 128) :: venc (x / 128) := by rw [venc, dif_neg h]

theorem venc_pos (x : Nat) : 0 < (venc x).length := by rw [venc]; split <;> simp

def zig (n : Int) : Int := bits .xor .u64 (IntKind.u64.wrap (IntKind.u64.wrap n * 2)) (IntKind.u64.wrap (n / 9223372036854775808))
theorem zig_range (n : Int) : 0 ≤ zig n := by
  unfold zig bits
  simp only [IntKind.wrap_u64]
  omega
def zigN (n : Int) : Nat := (zig n).toNat
theorem zigN_eq (n : Int) : zig n = (zigN n : Int) := (Int.toNat_of_nonneg (zig_range n)).symm
def encs (ns : List Int) : List Int := ns.flatMap fun n => venc (zigN n)
theorem encs_take (ns : List Int) (k : Nat) (h : k < ns.length) : encs (ns.take (k + 1)) = encs (ns.take k) ++ venc (zigN ns[k]) := by
  rw [List.take_succ_eq_append_getElem h]; simp only [encs, List.flatMap_append, List.flatMap_cons, List.flatMap_nil, List.append_nil]
theorem encs_take_le (ns : List Int) (k : Nat) : (encs (ns.take k)).length ≤ (encs ns).length := by
  conv => rhs; rw [← List.take_append_drop k ns]
  simp only [encs, List.flatMap_append, List.length_append]; omega

set_option maxRecDepth 100000 in
set_option maxHeartbeats 400000 in
theorem put_any (b : Nat) (A : Option Addr) (ns : List Int) (n cap : Nat) (hn : ns.length = n) (base : Nat) (xs : List Int) (w : World) (hW : IsW base b w xs) (hR : Reads w 3 A (ints .i64 ns))
    (hbd : ns.length ≤ 9223372036854775807) (hlim : (xs ++ encs ns).length ≤ 140737488355328) :
    Calls Tryd.prog 30 #[.pointer (some ⟨b, 0, none⟩), .slice A n cap] w fun e w' =>
      e = .returned (.tuple #[]) ∧ IsW base b w' (xs ++ encs ns) ∧ Fr [61, 5] base w w' := by
  subst hn
  go_enter Tryd.func30, Tryd.ntmps30
  go_wp2
  go_loopw [6, 9] (fun _ i wr => ∃ k : Nat, k ≤ ns.length ∧ i = .int .i64 k ∧ IsW base b wr (xs ++ encs (ns.take k)) ∧ Fr [61, 5] base w wr) (fun _ i _ => ns.length - (intOf i).toNat)
  case atStart => exact ⟨0, Nat.zero_le _, rfl, by simpa [encs] using hW, Fr.refl _ _ _⟩
  case round =>
    obtain ⟨k, hk, rfl, hW1, hF⟩ := hrel
    by_cases hlt : k < ns.length
    · obtain ⟨ab, ao, rfl, hc⟩ := (hR.fr hF (by decide)).cell (j := k) (by simpa [ints] using hlt)
      simp only [ints, List.getElem_map] at hc
      have hcc : wr.cell? ⟨ab, ao + k, none⟩ = some (.int .i64 ns[k]) := hc
      have HLim := Lib.hid hlim
      clear hlim
      go_wp2
      have hlim := HLim.out
      clear HLim
      have hz : bits BinOp.xor IntKind.u64 (IntKind.u64.wrap (IntKind.u64.wrap ns[k] * 2)) (IntKind.u64.wrap (ns[k] / 9223372036854775808)) = (zigN ns[k] : Int) := zigN_eq _
      rw [hz]
      have HT := Lib.hid (encs_take ns k hlt)
      have HL : Hid ((xs ++ encs (ns.take k) ++ venc (zigN ns[k])).length ≤ 140737488355328) := Lib.hid (by
        have h1 := encs_take_le ns (k + 1)
        rw [encs_take ns k hlt] at h1
        simp only [List.length_append] at h1 hlim ⊢; omega)
      generalize hT : xs ++ encs (ns.take k) ++ venc (zigN ns[k]) = T at HL
      have HT2 := Lib.hid hT
      clear hz hT hlim
      generalize hw1 : wr = w1 at hF hW1 hcc ⊢
      clear hw1
      go_loopw [6] (fun xv wr => ∃ (x : Nat) (ys : List Int), xv = .int .u64 x ∧ Hid (ys ++ venc x = T) ∧ IsW base b wr ys ∧ Fr [61, 5] base w wr) (fun xv _ => (intOf xv).toNat)
      case atStart => exact ⟨_, _, rfl, HT2, hW1, hF⟩
      case round =>
        clear hcc hW1 hF
        obtain ⟨x, ys, rfl, HY, ⟨hbb, v, hv, hown⟩, hF⟩ := hrel
        have hc1 : wr.cell? ⟨b, 0, none⟩ = some v := by rw [blk_cell hv]; rfl
        have hf1 : wr.frozen? ⟨b, 0, none⟩ = false := blk_free hv
        have hne := own_far hown hv (by decide)
        have hyl : ys.length + 1 ≤ 140737488355328 := by
          have h1 := HL.out
          have h2 := venc_pos x
          rw [← HY.out, List.length_append] at h1; omega
        obtain ⟨va, vc, rfl, hvc⟩ := own_lt' hown
        have hbs : base ≤ wr.heap.size := Nat.le_of_lt (Nat.lt_of_le_of_lt hbb (blk_lt hv))
        by_cases h127 : x < 128
        · go_wp2_with (at_builtin; go_must (refine app1 hown Tryd.underlying59 infoU8 rfl (by decide) (by unfold maxLen; omega) (by omega) hbs rfl rfl rfl rfl _ rfl (by simp [Value.oneCell']) ?_); intro A' c' w' hown' hg; have hb' := blk_grown hg (blk_alloc hv _) hne; have hc' := blk_cell (j := 0) hb'; have hf' := blk_free (j := 0) hb')
          obtain ⟨g1, g2⟩ := W_app hbb hv hown hg (zs := [(x : Int)]) hown'
          refine ⟨⟨k + 1, by omega, by go_num, ?_, hF.trans g2⟩, by simp [intOf]; omega⟩
          rw [HT.out, ← List.append_assoc, HT2.out, ← HY.out, venc_small h127]
          exact g1
        · go_wp2_with (at_builtin; go_must (refine app1 hown Tryd.underlying59 infoU8 rfl (by decide) (by unfold maxLen; omega) (by omega) hbs rfl rfl rfl rfl _ rfl (by simp [Value.oneCell']) ?_); intro A' c' w' hown' hg; have hb' := blk_grown hg (blk_alloc hv _) hne; have hc' := blk_cell (j := 0) hb'; have hf' := blk_free (j := 0) hb')
          obtain ⟨g1, g2⟩ := W_app hbb hv hown hg (zs := [_]) hown'
          go_roundw
          case rel =>
            refine ⟨x / 128, _, by simp, ?_, g1, hF.trans g2⟩
            have := HY.out
            rw [venc_more h127] at this
            exact Lib.hid (by simpa using this)
          case measure => simp [intOf]; omega
    · have hke : k = ns.length := by omega
      subst hke
      rw [List.take_length] at hW1
      go_wp2
      go_end0
      exact ⟨rfl, hW1, hF⟩
end Go.Proofs.YthhchicggidhcaaDoor
