/- The numbers' Clone, made, Parse; the lexer's number: walked. -/
import Derived.Test.YtkgebnbdgiengaaDoorMoLxH
namespace Go.Proofs.YtkgebnbdgiengaaDoor
open Go.RowKit Lx

def CloneRes (xs : List Int) (w : World) (e : Ending) (w' : World) : Prop := ∃ A' c', e = .returned (.slice A' xs.length c') ∧ Reads w' 69 A' (ints .u32 xs) ∧ Below w.heap.size w w'
set_option maxRecDepth 100000 in
set_option maxHeartbeats 1600000 in
theorem clone_any (A : Option Addr) (c : Nat) (xs : List Int) (w : World) (hR : Reads w 69 A (ints .u32 xs)) (hn : xs.length ≤ 1000000) (hA : A = none → xs.length = 0 ∧ c = 0) :
    Calls Tryd.prog 70 #[.slice A xs.length c] w (CloneRes xs w) := by
  go_enter Tryd.func70, Tryd.ntmps70
  rcases A with _ | ad
  · obtain ⟨h0, rfl⟩ := hA rfl
    obtain rfl : xs = [] := List.eq_nil_of_length_eq_zero h0
    have hne : ∀ w, (binOp .eql 26 (.slice none 0 0) (.slice none 0 0)).run Tryd.prog w = .ok (.bool true) w := fun w => (Lib.run_eql_slice_nil w _ _ none 0 0 0 0 Tryd.underlying26).trans rfl
    go_wp2_with fail
    go_ret
    exact ⟨none, 0, rfl, Reads.nil _ _ _, Below.refl _ _⟩
  · have hne : ∀ w, (binOp .eql 26 (.slice (some ad) xs.length c) (.slice none 0 0)).run Tryd.prog w = .ok (.bool false) w := fun w => (Lib.run_eql_slice_nil w _ _ (some ad) _ _ _ _ Tryd.underlying26).trans rfl
    have hown : (w.alloc (.cells #[] 69)).ownsRow w.heap.size 69 1 (.slice (some ⟨w.heap.size, 0, none⟩) 0 0) 0 [] := ⟨rfl, .inr ⟨_, _, _, rfl, Nat.le_refl _, heap_alloc_new _ _, Nat.le_refl _, Nat.zero_le _, rfl, rfl⟩⟩
    have hR2 : Reads (w.alloc (.cells #[] 69)) 69 (some ad) (ints .u32 xs) := hR.below ((Below.refl _ _).alloc (Nat.le_refl _) _)
    go_wp2_with (at_builtin; go_must (refine appR hown Tryd.underlying26 infoU32 rfl (by decide) hR2 (by rw [ints_length, Nat.mul_one]) (by rintro ⟨⟩) ?c3 ?c4 ?c5 rfl rfl rfl rfl (ints_one _ _) ?_))
    case c3 => unfold maxLen; omega
    case c4 => omega
    case c5 => simp
    intro A' c' w2 hown' hgrow
    have hB : Below w.heap.size w w2 := ((Below.refl _ _).alloc (Nat.le_refl _) _).grown hgrow (by simp) (fun k hk => (hown.lt k hk).1)
    go_wp2_with fail
    go_ret
    exact ⟨A', c', rfl, own_reads hown', hB⟩

/-- Cells stored whole. -/
theorem store_any {ops : Array Oper} {rest : List Oper} {o : Oper} {a : Act} {W : World} {Q : Exit → Act → World → Prop} {T : Nat} {z : Nat} (hi : (Tryd.prog.info? T).map (·.size) = some z) (hgd : o.guard = none) (x y : Operand) (ho : o.op = .store T x y)
    (g : Nat) (cs : List Value) (hx : a.eval x = .pointer (some ⟨g, 0, none⟩)) (hy : a.eval y = .agg cs.toArray) (old : Array Value) (hg : W.heap[g]? = some (.cells old T (0, 0))) (hold : old.size = z) (hcs : cs.length = z)
    (h1 : cs.all (·.oneCell') = true) (h : wpList Tryd.prog ops Q rest (a.put o.dst undef) (W.setRow g cs.toArray)) : wpList Tryd.prog ops Q (o :: rest) a W :=
  wpList_store_row hgd T x y ho g cs.toArray hx hy T old hg (by rw [hi]; simp [hcs]) (by simp [hcs, hold]) (by rw [Array.all_eq_true_iff_forall_mem]; intro v hv; exact (List.all_eq_true.1 h1) v (by simpa using hv)) h
theorem infoNum : (Tryd.prog.info? 28).map (·.size) = some 2 := by kernel_rfl
theorem results_ne {fn : Func} {p q : Nat} (hr : fn.results = #[.cell p 28, .tmp q]) {tmps : Array Value} {W : World} {g : Nat} {cs : Array Value} {t : TypeId} {f : Nat × Nat} {u : Value}
    (hp : tmps[p]?.getD undef = .pointer (some ⟨g, 0, none⟩)) (hq : tmps[q]?.getD undef = u) (hg : W.heap[g]? = some (.cells cs t f)) (hcs : cs.size = 2) : (results fn tmps).run Tryd.prog W = .ok (.tuple #[.agg cs, u]) W := by
  have e := run_loadVar_row (P := Tryd.prog) W g t 28 cs f _ hg Tryd.underlying28 rfl (by rw [infoNum, hcs])
  simp [results, hr, hp, hq, asAddr, e]
def zeroNs : List Value := [.bool false, .slice none 0 0]
/-- The result's own cells, as they were laid; nothing older has turned. -/
def Zn (w0 w : World) : Prop := w.heap[w0.heap.size]? = some (.cells zeroNs.toArray 28 (0, 0)) ∧ Below w0.heap.size w0 w
theorem Zn.new (w : World) : Zn w (w.alloc (.cells zeroNs.toArray 28)) := ⟨heap_alloc_new _ _, (Below.refl _ _).alloc (Nat.le_refl _) _⟩
theorem Zn.step {w0 w w' : World} (h : Zn w0 w) (hb : Below w.heap.size w w') : Zn w0 w' := ⟨blk_belowS hb h.1, h.2.trans (hb.mono h.2.size)⟩
theorem reads_setN {w : World} {T t : Nat} {A : Option Addr} {vs : List Value} (h : Reads w T A vs) (hT : T ≠ t) {g : Nat} {old : Array Value} {f : Nat × Nat} (hg : w.heap[g]? = some (.cells old t f)) (cs : Array Value) : Reads (w.setRow g cs) T A vs := fun hp => by
  obtain ⟨b, o, c, f', e, hb, hc⟩ := h hp
  refine ⟨b, o, c, f', e, ?_, hc⟩
  have hne : g ≠ b := by rintro rfl; rw [hg] at hb; simp at hb; exact hT hb.2.1.symm
  simp [World.setRow, Array.getElem?_modify, hne, hb]

/-- What comes of a sign and limbs. -/
def MadeRes (neg : Bool) (ys : List Int) (w : World) (e : Ending) (w' : World) : Prop :=
  Below w.heap.size w w' ∧ if 48 < ys.length then e = .returned (.tuple #[.agg #[.bool false, .slice none 0 0], .int .i64 6])
  else ∃ A c, e = .returned (.tuple #[.agg #[.bool (neg && decide (0 < ys.length)), .slice A ys.length c], .int .i64 0]) ∧ Reads w' 69 A (ints .u32 ys)
theorem made_big {neg : Bool} {ys : List Int} {w w' : World} (h : 48 < ys.length) (hb : Below w.heap.size w w') : MadeRes neg ys w (.returned (.tuple #[.agg #[.bool false, .slice none 0 0], .int .i64 6])) w' := by
  refine ⟨hb, ?_⟩; rw [if_pos h]
theorem made_ok {neg b : Bool} {ys : List Int} {w w' : World} {A : Option Addr} {c : Nat} (h : ¬ 48 < ys.length) (hn : b = (neg && decide (0 < ys.length))) (hb : Below w.heap.size w w') (hR : Reads w' 69 A (ints .u32 ys)) :
    MadeRes neg ys w (.returned (.tuple #[.agg #[.bool b, .slice A ys.length c], .int .i64 0])) w' := by
  refine ⟨hb, ?_⟩; rw [if_neg h, hn]; exact ⟨A, c, rfl, hR⟩

set_option maxRecDepth 100000 in
set_option maxHeartbeats 1600000 in
theorem made_any (neg : Bool) (A : Option Addr) (c : Nat) (xs : List Int) (w : World) (hR : Reads w 69 A (ints .u32 xs)) (hn : xs.length ≤ 1000000) (hcap : xs.length ≤ c) (hA : A = none → c = 0) :
    Calls Tryd.prog 60 #[.bool neg, .slice A xs.length c] w (MadeRes neg (trimL xs) w) := by
  have hle := trimL_length_le xs
  have hRt : Reads w 69 A (ints .u32 (trimL xs)) := by
    have : trimL xs = xs.take (trimL xs).length := trimL_pre xs
    rw [this, ints_take]
    exact hR.take _
  have HR := Lib.hid hRt
  clear hRt
  obtain ⟨ys, hys⟩ : ∃ ys, trimL xs = ys := ⟨_, rfl⟩
  rw [hys] at hle HR ⊢
  have HY := Lib.hid hys
  clear hys
  cases neg
  all_goals
   go_enter Tryd.func60, Tryd.ntmps60
   go_wp2_with fail
   have hz := Zn.new w
   change Zn w (w.alloc (.cells #[.bool false, .slice none 0 0] 28)) at hz
   generalize w.alloc (.cells #[.bool false, .slice none 0 0] 28) = w0 at *
   refine (trim_any A c xs w0 (reads_below' hR hz.2) hn hcap hA).mono ?_
   rintro e w' ⟨rfl, rfl⟩
   rw [HY.out]
   by_cases hbig : 48 < ys.length
   · go_wp2_with (refine store_any infoNum rfl (.tmp 4) (.tmp 11) rfl w.heap.size zeroNs (by rfl) (by rfl) _ hz.1 rfl rfl rfl ?_)
     exact bodyPost_ret (results_ne Tryd.results60 rfl rfl (setRow_at hz.1) rfl) rfl (made_big hbig (below_setRow hz.2 (Nat.le_refl _) _))
   · have hA2 : A = none → ys.length = 0 ∧ c = 0 := fun h => ⟨by have := hA h; omega, hA h⟩
     have hR2 : Reads w0 69 A (ints .u32 ys) := reads_below' HR.out hz.2
     go_wp2_with fail
     all_goals
       refine (clone_any A c ys w0 hR2 (by omega) hA2).mono ?_
       rintro e w3 ⟨A', c', rfl, hR3, hb3⟩
       replace hz := hz.step hb3
       clear hb3
       go_wp2_with (refine store_any infoNum rfl (.tmp 4) (.tmp 20) rfl w.heap.size [_, _] (by rfl) (by rfl) _ hz.1 rfl rfl rfl ?_)
       exact bodyPost_ret (results_ne Tryd.results60 rfl rfl (setRow_at hz.1) rfl) rfl (made_ok hbig (by simp) (below_setRow hz.2 (Nat.le_refl _) _) (reads_setN hR3 (by decide) hz.1 _))

def digitCs : List UInt8 := [48, 49, 50, 51, 52, 53, 54, 55, 56, 57]
theorem digitCs_mem (c : UInt8) : digitCs.contains c = isDig c := by
  rw [Bool.eq_iff_iff]
  simp only [digitCs, List.contains_eq_mem, isDig, decide_eq_true_iff]
  have e1 := le_u8 48 (by decide) c
  have e2 := u8_le 57 (by decide) c
  constructor
  · intro h
    simp only [List.mem_cons, List.not_mem_nil, or_false] at h
    rcases h with rfl | rfl | rfl | rfl | rfl | rfl | rfl | rfl | rfl | rfl <;> decide
  · intro h
    have h1 : 48 ≤ c.toNat := e1.1 h.1
    have h2 : c.toNat ≤ 57 := e2.1 h.2
    have hc : c = UInt8.ofNat c.toNat := by simp
    rw [hc]
    generalize c.toNat = n at *
    have : n = 48 ∨ n = 49 ∨ n = 50 ∨ n = 51 ∨ n = 52 ∨ n = 53 ∨ n = 54 ∨ n = 55 ∨ n = 56 ∨ n = 57 := by omega
    rcases this with rfl | rfl | rfl | rfl | rfl | rfl | rfl | rfl | rfl | rfl <;> decide
theorem dropWhile_nil {p : UInt8 → Bool} {l : List UInt8} : l.dropWhile p = [] ↔ l.all p = true := by
  induction l with
  | nil => simp
  | cons a l ih =>
    rw [List.dropWhile_cons]
    by_cases h : p a
    · rw [if_pos h, ih]; simp [h]
    · rw [if_neg h]; simp [h]
theorem trimS_nil (l : List UInt8) : Lib.trimS l digitCs = [] ↔ l.all isDig = true := by
  have e : ∀ m : List UInt8, m.all (digitCs.contains ·) = m.all isDig := fun m => by congr 1; funext c; exact digitCs_mem c
  unfold Lib.trimS Lib.trimLeftS
  rw [dropWhile_nil, e]
  unfold Lib.trimRightS
  constructor
  · intro h
    by_cases hn : l.reverse.dropWhile (digitCs.contains ·) = []
    · rw [dropWhile_nil, e] at hn
      simpa using hn
    · exfalso
      cases hd : l.reverse.dropWhile (digitCs.contains ·) with
      | nil => exact hn hd
      | cons a m =>
        have ha : (digitCs.contains a) = false := by
          have := List.head_dropWhile_not (p := (digitCs.contains ·)) (l := l.reverse) (w := hn)
          simp only [hd, List.head_cons] at this
          exact this
        rw [hd] at h
        rw [List.all_reverse, List.all_cons, ← digitCs_mem, ha] at h
        cases h
  · intro h
    have : l.reverse.dropWhile (digitCs.contains ·) = [] := by rw [dropWhile_nil, e]; simpa using h
    rw [this]; rfl

theorem trim0_any (s : ByteArray) (w : World) (hs : s.size ≤ 9223372036854775807) :
    Calls Tryd.prog 55 #[.string s, .string ⟨#[48, 49, 50, 51, 52, 53, 54, 55, 56, 57]⟩] w fun e w' => (∃ t : ByteArray, e = .returned (.string t) ∧ (t.toList = [] ↔ s.data.toList.all isDig = true)) ∧ Below w.heap.size w w' := by
  refine (Any.strings_Trim_laid Tryd.lays160 (by kernel_rfl) s ⟨#[48, 49, 50, 51, 52, 53, 54, 55, 56, 57]⟩ w hs (by decide) (ascii_of_all (by decide))).mono ?_
  rintro e w' ⟨rfl, hb⟩
  refine ⟨⟨_, rfl, ?_⟩, hb⟩
  rw [Lib.toList_data]
  exact trimS_nil s.data.toList
end Go.Proofs.YtkgebnbdgiengaaDoor
