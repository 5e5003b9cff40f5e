/- For every result of a job, of any size, the law ScriptTells returns true, does not panic, and its argument reads behind the call as it read before. Conditions: the package-level variables that the row lists start as the program's text lays them (the card ties them); no other condition. -/
import Derived.Test.YthhchicggidhcaaDoorMoWit
import Derived.Test.YthhchicggidhcaaDoorMoJob
import Derived.Test.YthhchicggidhcaaDoorMoLawTell
import Derived.OpenShut
import Derived.Carry
namespace Go.Proofs.YthhchicggidhcaaDoor.Tells
open Go.ChangeShapes Go.WideShapes Go.ChangeAt Go.RowKit Go.Deep

theorem cellsRes : Tryd.prog.cellsOf 31 = 5 := by kernel_rfl
theorem errno_one {H : Type} {enc : TypeId × Value → H} {W : World} {base : Nat} {sp : Nat → Bool} {held : Bool} {n : Nat} {c : Value} {y : DataW H × List MemPlace} (h : DataW.trod enc Tryd.prog W base sp held n 27 [c] = some y) : ∃ x : Int, c = .int .i64 x ∧ I64 x := by
  obtain ⟨p, e0, _, w0⟩ := DataW.trod_int Tryd.underlying27 h
  exact ⟨p, List.head_eq_of_cons_eq e0, wf_I64 w0⟩
set_option maxRecDepth 100000 in
/-- A result that comes in. -/
theorem open_res {H : Type} {enc : TypeId × Value → H} {W : World} {base : Nat} {sp : Nat → Bool} {held : Bool} {r : Reach} {b0 : Nat} {v : Value} {d : DataW H} {p : List MemPlace} (hv : Value.okWide Tryd.prog W r b0 31 v) (h : DataW.Trod enc Tryd.prog W base sp held 31 v d p) :
    ∃ (out : ByteArray) (err place steps : Int) (A : Option Addr) (c : Nat) (fs : List (Int × Int × Int)) (T : Nat), v = .agg #[.string out, .int .i64 err, .int .i64 place, .int .i64 steps, .slice A fs.length c] ∧
      out.size ≤ maxLen ∧ I64 err ∧ I64 place ∧ I64 steps ∧ fs.length ≤ maxLen ∧ (∀ k ∈ fs, I64 k.1 ∧ I64 k.2.1 ∧ I64 k.2.2) ∧ Reads W T A (colls fs) := by
  obtain ⟨cs, rfl, hsz⟩ := okWide_struct Tryd.underlying31 hv
  rw [cellsRes] at hsz
  obtain ⟨l⟩ := cs
  obtain ⟨c0, c1, c2, c3, c4, rfl⟩ := five (l := l) hsz
  obtain ⟨fuel, hf0⟩ := h
  obtain ⟨xs, n, _, _, _, hxl, hf⟩ := DataW.trod_struct Tryd.underlying31 hf0
  obtain ⟨y0, y1, y2, y3, y4, rfl⟩ := five hxl
  have hcs : ∀ i : Nat, (Value.agg #[c0, c1, c2, c3, c4]).cells.toList[i]? = [c0, c1, c2, c3, c4][i]? := fun i => rfl
  obtain ⟨out, rfl, hs⟩ := string_one (field_one (by kernel_rfl) hf 0 (by kernel_rfl) (hcs 0) rfl)
  obtain ⟨err, rfl, h1⟩ := errno_one (field_one (by kernel_rfl) hf 1 (by kernel_rfl) rfl rfl)
  obtain ⟨place, rfl, h2⟩ := int_one (field_one (by kernel_rfl) hf 2 (by kernel_rfl) rfl rfl)
  obtain ⟨steps, rfl, h3⟩ := int_one (field_one (by kernel_rfl) hf 3 (by kernel_rfl) rfl rfl)
  obtain ⟨A, c, fs, T, e, g1, g2, g3⟩ := open_colls (field_one (by kernel_rfl) hf 4 (by kernel_rfl) rfl rfl)
  obtain rfl := List.head_eq_of_cons_eq e
  exact ⟨out, err, place, steps, A, c, fs, T, rfl, hs, h1, h2, h3, g1, g2, g3⟩

theorem laidOut : laidOutB Tryd.prog = true := by kernel_rfl

set_option maxRecDepth 100000 in
theorem contract (H : Type) (enc : TypeId × Value → H) (W : World) (base : Nat) (args : Array Value) (ds gs : List (DataW H)) (before : List MemPlace)
    (hval : ∀ (j : Nat) t v, Tryd.f4.params[j]? = some t → args[j]? = some v → Value.okWide Tryd.prog W .any base t v)
    (hW : DataW.Whole enc Tryd.prog Tryd.f4.params.toList Rows.scriptTellsSpec.vars false W args.toList ds gs before) (hL : Lw W) :
    Calls Tryd.prog 4 args W fun e W' => ∃ v, e = .returned v ∧ Rows.scriptTellsSpec.post enc Tryd.prog Tryd.f4 false true false false W args v W' := by
  have hW' := hW
  obtain ⟨p, q, hA0, hV, rfl, hfz, hnd⟩ := hW
  have hA : DataW.TrodAll enc Tryd.prog W 0 (fun _ => true) true Tryd.f4.params.toList args.toList ds p := hA0
  rw [Tryd.params4] at hA hval
  obtain ⟨v0, d0, rfl, rfl, h0⟩ := trodAll_one hA
  obtain ⟨rfl, rfl⟩ := trodVars_none hV
  clear hA0 hA
  simp only [List.append_nil] at hW'
  have hlt : ∀ x ∈ p, x.block < W.heap.size := fun x hx => by simpa using hW'.lt x hx
  obtain ⟨out, err, place, steps, A, c, fs, T, rfl, hs, h1, h2, h3, hn, hf, hR⟩ := open_res (hval 0 _ _ rfl rfl) h0
  have hm : maxLen ≤ 9223372036854775807 := by decide
  refine (ScriptTells_any out err place steps fs A c W hL hR (by omega) (by omega) h1 h2 h3 hf).mono fun e W' ⟨he, hb⟩ => ?_
  subst he
  exact ⟨_, rfl, ⟨_, _, _, [], _, [], hW', trodAll_mk1 (shut_bool Tryd.underlying4 _),
    trodAll_mk1 (Go.WideElems.Trod_stays laidOut (by kernel_rfl) (of_decide_eq_true (by kernel_rfl)) h0 (fun x hx => hb.same (hlt x hx)) (fun x hx => by simpa using hlt x hx)), rfl, hb.frame _, fun h => by cases h⟩⟩

/-- The result of the witness: the empty one. -/
def jobW : Value := .agg #[.string ⟨#[]⟩, .int .i64 0, .int .i64 0, .int .i64 0, .slice none 0 0]
theorem reads (os : Os) {H : Type} (enc : TypeId × Value → H) : ∃ places, DataW.whole enc Tryd.prog ((laidWorld os).forCall (fun _ _ => 0) ⟨#[], #[jobW], []⟩).memory Tryd.f4.params.toList Rows.scriptTellsSpec.vars false #[jobW].toList 8 =
    some ([.agg [.lit (.string []), .lit (.int .i64 0), .lit (.int .i64 0), .lit (.int .i64 0), .nil]], [], places) := ⟨[], by kernel_rfl⟩

set_option maxRecDepth 100000 in
theorem lifted (os : Os) (started : os.Started) (H : Type) (enc : TypeId × Value → H) (F : Stop.Interp) :
    ReturnsInHanded {} Tryd.checked os 4 .any ((OpenSpec.ofChange Rows.scriptTellsSpec).preRow enc Tryd.prog Tryd.f4 Rows.scriptTellsRow.domain false Rows.scriptTellsRow.laid) (((OpenSpec.ofChange Rows.scriptTellsSpec).at F).post enc Tryd.prog Tryd.f4 false true false false) := by
  obtain ⟨places, hx⟩ := reads os enc
  refine returnsInHanded_of_row (C := Tryd.checked) (s := OpenSpec.ofChange Rows.scriptTellsSpec) own started (by kernel_rfl) Tryd.func4
    (witness_row_atRef (enc := enc) (C := Tryd.checked) false (laidWorld os) #[jobW] rfl (by kernel_rfl) (by kernel_rfl) (by kernel_rfl)
      (OpenSpec.preRow_of_cond 8 hx (by kernel_rfl) (fun k hk => by cases hk) (by kernel_rfl) (laid_met os _))) ?_
  intro W base args ds gs before hval hW _ _ _ hL hsh _
  exact contract H enc W base args ds gs before hval hW (lw_of hL hsh)

theorem said : Rows.ScriptTellsSaid :=
  OpenClaim.holds_of_cond 4 Tryd.f4 rfl rfl rfl rfl rfl rfl rfl ⟨rfl, rfl, rfl, rfl, rfl⟩ rfl rfl rfl rfl rfl (by kernel_rfl) Tryd.func4 (by kernel_rfl)
    (of_decide_eq_true (by kernel_rfl)) (by unfold Func.isWrapper; first | (rw [if_pos (by decide +kernel)]; kernel_rfl) | (rw [if_neg (by decide +kernel)]; exact ⟨rfl, rfl⟩))
    (fun os started H enc _ F => by rw [OpenClaim.pre_eq_preRow]; exact lifted os started H enc F)

theorem plain (f : FuncId) (fn : Func) (hf : Tryd.pinned.checked.prog.funcNamed "moraine/morainelaw27.ScriptTells" = some f) (hfn : Tryd.pinned.checked.prog.funcs[f]? = some fn) :
    true = Tryd.pinned.checked.prog.looks [] ∧ ∀ (j : Nat) t, fn.params[j]? = some t → Tryd.pinned.checked.prog.wantsStandIn t = false := by
  obtain rfl : f = 4 := Option.some.inj ((show Tryd.prog.funcNamed "moraine/morainelaw27.ScriptTells" = some 4 by kernel_rfl).symm.trans hf) |>.symm
  obtain rfl : fn = Tryd.f4 := (Option.some.inj (Tryd.func4.symm.trans hfn)).symm
  refine ⟨by kernel_rfl, fun j t ht => ?_⟩
  rw [Tryd.params4] at ht
  obtain rfl : t = 31 := by simpa using Array.mem_of_getElem? ht
  exact (show Tryd.prog.wantsStandIn 31 = false by kernel_rfl)

theorem card : Rows.ScriptTellsCardSaid :=
  Claim7.holds_tied_plain_at .later [] _ _ _ _ said (fun _ h => by cases h) (by kernel_rfl) (fun _ h => by cases h) scriptTells_row_tie rfl ⟨rfl, rfl⟩ (by kernel_rfl) rfl plain (by kernel_rfl)
end Go.Proofs.YthhchicggidhcaaDoor.Tells
