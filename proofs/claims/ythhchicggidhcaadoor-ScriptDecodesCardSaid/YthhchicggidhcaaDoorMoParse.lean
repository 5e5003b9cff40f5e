/- The program's Parse. -/
import Derived.Test.YthhchicggidhcaaDoorMoLines
import Derived.Test.YthhchicggidhcaaDoorMoReads
namespace Go.Proofs.YthhchicggidhcaaDoor
open Go.RowKit Go.Shelf
attribute [local go_sem] Oper.semAt_some

theorem bs_eqP {a b : ByteArray} (h : a.toList = b.toList) : a = b := by
  rw [ByteArray.toList_eq, ByteArray.toList_eq] at h
  cases a; cases b; simpa using h
theorem lines_any (s : ByteArray) (w : World) : Calls Tryd.prog 46 #[.string s] w fun e w' =>
    e = .returned (.func (.func 57) #[] #[.pointer (some ⟨w.heap.size, 0, none⟩)]) ∧ w' = w.alloc (.cells #[.string s] 9) := by
  go_enter Tryd.func46, Tryd.ntmps46
  go_wp2_with fail
  go_ret
  exact ⟨rfl, rfl⟩

def wProgram : ByteArray := ⟨#[112, 114, 111, 103, 114, 97, 109]⟩
def js0 : JS := ⟨⟨#[]⟩, ⟨#[]⟩, 0, 0, []⟩
/-- What Parse comes to, line for line. -/
def prs : JS → List (List UInt8) → List (Nat × ByteArray × ByteArray) → Except (Nat × Int) JS
  | s, _, [] => .ok s
  | s, seen, x :: r => if x.2.1 = wProgram then .ok { s with src := x.2.2 } else
    match rd s seen x.2.1 with
    | .error e => .error (x.1, e)
    | .ok q => prs q.1 q.2 r
/-- The state behind some lines, none of which ended it. -/
def stt : JS → List (List UInt8) → List (Nat × ByteArray × ByteArray) → Option (JS × List (List UInt8))
  | s, seen, [] => some (s, seen)
  | s, seen, x :: r => if x.2.1 = wProgram then none else
    match rd s seen x.2.1 with
    | .error _ => none
    | .ok q => stt q.1 q.2 r
theorem prs_stt : ∀ (pre rest : List (Nat × ByteArray × ByteArray)) (s : JS) (seen : List (List UInt8)) (q : JS × List (List UInt8)), stt s seen pre = some q → prs s seen (pre ++ rest) = prs q.1 q.2 rest
  | [], rest, s, seen, q, h => by simp only [stt, Option.some.injEq] at h; subst h; rfl
  | x :: pre, rest, s, seen, q, h => by
    simp only [stt] at h
    split at h
    · cases h
    · rename_i hne
      cases hr : rd s seen x.2.1 with
      | error e => rw [hr] at h; cases h
      | ok p =>
        rw [hr] at h
        simp only [List.cons_append, prs, if_neg hne, hr]
        exact prs_stt pre rest _ _ q h
theorem stt_snoc : ∀ (pre : List (Nat × ByteArray × ByteArray)) (x : Nat × ByteArray × ByteArray) (s : JS) (seen : List (List UInt8)) (q p : JS × List (List UInt8)), stt s seen pre = some q → ¬ x.2.1 = wProgram → rd q.1 q.2 x.2.1 = .ok p → stt s seen (pre ++ [x]) = some p
  | [], x, s, seen, q, p, h, hne, hr => by
    simp only [stt, Option.some.injEq] at h; subst h
    simp only [List.nil_append, stt, if_neg hne, hr]
  | y :: pre, x, s, seen, q, p, h, hne, hr => by
    simp only [stt] at h
    split at h
    · cases h
    · rename_i hy
      cases hq : rd s seen y.2.1 with
      | error e => rw [hq] at h; cases h
      | ok z =>
        rw [hq] at h
        simp only [List.cons_append, stt, if_neg hy, hq]
        exact stt_snoc pre x _ _ q p h hne hr

theorem isOne_err {once b : Bool} {s : JS} {seen : List (List UInt8)} {x : Int} (h : isOne once b s seen = .error x) : x = 9 := by
  unfold isOne at h; split at h <;> cases h; rfl
theorem isOne_ok {once b : Bool} {s : JS} {seen : List (List UInt8)} {q : JS × List (List UInt8)} (h : isOne once b s seen = .ok q) : q = (s, seen) := by
  unfold isOne at h; split at h <;> cases h; rfl
theorem rd_err {s : JS} {seen : List (List UInt8)} {l : ByteArray} {x : Int} (h : rd s seen l = .error x) : x = 9 ∨ x = 12 := by
  unfold rd at h
  split at h
  · cases h
  · unfold rdWord at h
    repeat' split at h
    all_goals first
      | exact .inl (isOne_err h)
      | (cases h; done)
      | (cases h; first | exact .inl rfl | exact .inr rfl)
theorem rd_ok {s : JS} {seen : List (List UInt8)} {l : ByteArray} {q : JS × List (List UInt8)} (h : rd s seen l = .ok q) (hf : s.forced.length ≤ 1000) : q.2.length ≤ seen.length + 1 ∧ q.1.forced.length ≤ 1000 := by
  unfold rd at h
  split at h
  · cases h; exact ⟨Nat.le_succ _, hf⟩
  · unfold rdWord at h
    repeat' split at h
    all_goals first
      | (cases h; done)
      | (have := isOne_ok h; subst this; exact ⟨Nat.le_refl _, hf⟩)
      | (cases h; refine ⟨Nat.le_refl _, ?_⟩; rw [List.length_append]; simp only [List.length_cons, List.length_nil]; omega)
theorem keeps_frX {X : Nat → Prop} {W W' : World} {B : Nat} (h : FrX X W W') (hX : ∀ k, X k → k < B ∨ ∃ c t f, W.heap[k]? = some (.cells c t f)) : KeepsFrom B W W' :=
  ⟨h.size, fun k o hB hk ho => (h.block k (blk_lt hk) fun hx => by
    rcases hX k hx with hlt | ⟨c, t, f, hc⟩
    · omega
    · rw [hc] at hk; cases hk; cases ho).trans hk⟩

def zeroJob : Array Value := #[.string ⟨#[]⟩, .string ⟨#[]⟩, .int .i64 0, .int .i64 0, .slice none 0 0]
/-- What stands between two rounds. N: the heap's size when Parse began. -/
structure PInv (w W : World) (A : Option Addr) (c : Nat) (s : JS) (seen : List (List UInt8)) : Prop where
  below : Below w.heap.size w W
  r0 : W.heap[w.heap.size]? = some (.cells zeroJob 24 (0, 0))
  r1 : W.heap[w.heap.size + 1]? = some (.cells #[.int .i64 0] 3 (0, 0))
  r2 : W.heap[w.heap.size + 1 + 1]? = some (.cells #[.int .i64 0] 27 (0, 0))
  job : JobAt W (w.heap.size + 1 + 1 + 1) w.heap.size A c s
  stood : Stood W (w.heap.size + 1 + 1 + 1 + 1) seen
  mv : W.heap[w.heap.size + 1 + 1 + 1 + 1 + 1]? = some (.cells #[.map (some (w.heap.size + 1 + 1 + 1 + 1))] 92 (0, 0))
  bx : ∃ q, W.heap[w.heap.size + 1 + 1 + 1 + 1 + 1 + 1]? = some (.cells q 9 (0, 0))
theorem PInv.bears {w W W' : World} {A : Option Addr} {c : Nat} {s : JS} {seen : List (List UInt8)} {B : Nat} (h : PInv w W A c s seen) (hB : w.heap.size + 1 + 1 + 1 + 1 + 1 + 1 + 1 ≤ B) {row : Option Nat} (hg : W.grownBy W' row)
    (hr : ∀ r, row = some r → (r = w.heap.size + 1 + 1 + 1 + 1 + 1 + 1 ∧ ∃ q, W'.heap[w.heap.size + 1 + 1 + 1 + 1 + 1 + 1]? = some (.cells q 9 (0, 0))) ∨ (B ≤ r ∧ ∃ o : Obj, W.heap[r]? = some o ∧ o.isCells = false)) : PInv w W' A c s seen := by
  have ne : ∀ k, k < w.heap.size + 1 + 1 + 1 + 1 + 1 + 1 → some k ≠ row := fun k hk e => by
    rcases hr k e.symm with ⟨h1, _⟩ | ⟨h1, _⟩ <;> omega
  obtain ⟨q, hq⟩ := h.bx
  refine ⟨h.below.grown hg h.below.size (fun k e => ?_), blk_grown hg h.r0 (ne _ (by omega)), blk_grown hg h.r1 (ne _ (by omega)), blk_grown hg h.r2 (ne _ (by omega)), ⟨blk_grown hg h.job.1 (ne _ (by omega)), own_grown h.job.2 hg fun k hk e => ?_⟩, h.stood.blk (hg.block _ h.stood.lt (ne _ (by omega))), blk_grown hg h.mv (ne _ (by omega)), ?_⟩
  · rcases hr k e with ⟨h1, _⟩ | ⟨h1, _⟩ <;> omega
  · obtain ⟨_, cs, hcs⟩ := own_type h.job.2 k hk
    rcases hr k e.symm with ⟨h1, _⟩ | ⟨_, o, ho, hno⟩
    · rw [h1, hq] at hcs; cases hcs
    · rw [hcs] at ho; cases ho; cases hno
  · by_cases e : some (w.heap.size + 1 + 1 + 1 + 1 + 1 + 1) = row
    · rcases hr _ e.symm with ⟨_, h2⟩ | ⟨h1, _⟩
      · exact h2
      · omega
    · exact ⟨q, blk_grown hg hq e⟩

/-- Behind some lines, none of which ended it. -/
def PI (w : World) (pre : List (Nat × ByteArray × ByteArray)) (W : World) : Prop :=
  ∃ A c s seen, PInv w W A c s seen ∧ Hid (stt js0 [] pre = some (s, seen)) ∧ seen.length ≤ pre.length ∧ s.forced.length ≤ 1000
/-- Behind the line that ended it. -/
def PX (xs : List (Nat × ByteArray × ByteArray)) (w : World) (c : Code) (W : World) : Prop := match c with
  | .ret => ∃ x : Nat × Int, Hid (prs js0 [] xs = .error x) ∧ Below w.heap.size w W ∧ W.heap[w.heap.size]? = some (.cells zeroJob 24 (0, 0)) ∧ W.heap[w.heap.size + 1]? = some (.cells #[.int .i64 x.1] 3 (0, 0)) ∧ W.heap[w.heap.size + 1 + 1]? = some (.cells #[.int .i64 x.2] 27 (0, 0))
  | .exit 0 => ∃ A c s seen, PInv w W A c s seen ∧ Hid (prs js0 [] xs = .ok s)
  | _ => False
theorem PI.bears (w : World) (B : Nat) (hB : w.heap.size + 1 + 1 + 1 + 1 + 1 + 1 + 1 ≤ B) : Bears B (w.heap.size + 1 + 1 + 1 + 1 + 1 + 1) 9 (PI w) := by
  rintro pre W W' row ⟨A, c, s, seen, h, h2⟩ hg hr
  exact ⟨A, c, s, seen, h.bears hB hg hr, h2⟩
theorem PX.bears (xs : List (Nat × ByteArray × ByteArray)) (w : World) (B : Nat) (hB : w.heap.size + 1 + 1 + 1 + 1 + 1 + 1 + 1 ≤ B) (c : Code) : Bears B (w.heap.size + 1 + 1 + 1 + 1 + 1 + 1) 9 (fun (_ : List (Nat × ByteArray × ByteArray)) W => PX xs w c W) := by
  intro _ W W' row h hg hr
  have ne : ∀ k, k < w.heap.size + 1 + 1 + 1 + 1 + 1 + 1 → some k ≠ row := fun k hk e => by
    rcases hr k e.symm with ⟨h1, _⟩ | ⟨h1, _⟩ <;> omega
  unfold PX at h ⊢
  split at h
  · obtain ⟨x, hp, hb, h0, h1, h2⟩ := h
    exact ⟨x, hp, hb.grown hg hb.size (fun k e => by rcases hr k e with ⟨h1, _⟩ | ⟨h1, _⟩ <;> omega), blk_grown hg h0 (ne _ (by omega)), blk_grown hg h1 (ne _ (by omega)), blk_grown hg h2 (ne _ (by omega))⟩
  · obtain ⟨A, c, s, seen, h, h2⟩ := h
    exact ⟨A, c, s, seen, h.bears hB hg hr, h2⟩
  · exact h.elim

def ParsePost (s : ByteArray) (w : World) (e : Ending) (w' : World) : Prop :=
  (if 65536 < s.size then e = .returned (.tuple #[.agg zeroJob, .int .i64 0, .int .i64 12])
  else match prs js0 [] (lns s) with
  | .ok j => ∃ A c, e = .returned (.tuple #[.agg #[.string j.src, .string j.inp, .int .i64 j.lim, .int .i64 j.fuel, .slice A j.forced.length c], .int .i64 0, .int .i64 0]) ∧ w'.ownsRow w.heap.size 65 3 (.slice A j.forced.length c) j.forced.length (colls j.forced)
  | .error x => e = .returned (.tuple #[.agg zeroJob, .int .i64 x.1, .int .i64 x.2])) ∧ Below w.heap.size w w'

set_option maxRecDepth 100000 in
theorem results_parse {tmps : Array Value} {W : World} {b0 b1 b2 : Nat} {v0 v1 v2 v3 v4 u v : Value} {t0 t1 t2 : TypeId} {f0 f1 f2 : Nat × Nat} (h2 : tmps[2]?.getD undef = .pointer (some ⟨b0, 0, none⟩)) (h3 : tmps[3]?.getD undef = .pointer (some ⟨b1, 0, none⟩)) (h4 : tmps[4]?.getD undef = .pointer (some ⟨b2, 0, none⟩))
    (e0 : W.heap[b0]? = some (.cells #[v0, v1, v2, v3, v4] t0 f0)) (e1 : W.heap[b1]? = some (.cells #[u] t1 f1)) (e2 : W.heap[b2]? = some (.cells #[v] t2 f2)) :
    (results Tryd.f29 tmps).run Tryd.prog W = .ok (.tuple #[.agg #[v0, v1, v2, v3, v4], u, v]) W := by
  have c0 : W.cell? ⟨b0, 0, none⟩ = some v0 := (blk_cell e0).trans rfl
  have c1 : W.cell? ⟨b0, 1, none⟩ = some v1 := (blk_cell e0).trans rfl
  have c2 : W.cell? ⟨b0, 2, none⟩ = some v2 := (blk_cell e0).trans rfl
  have c3 : W.cell? ⟨b0, 3, none⟩ = some v3 := (blk_cell e0).trans rfl
  have c4 : W.cell? ⟨b0, 4, none⟩ = some v4 := (blk_cell e0).trans rfl
  have c5 : W.cell? ⟨b1, 0, none⟩ = some u := (blk_cell e1).trans rfl
  have c6 : W.cell? ⟨b2, 0, none⟩ = some v := (blk_cell e2).trans rfl
  simp [results, Tryd.f29, go_sem, c0, c1, c2, c3, c4, c5, c6, h2, h3, h4]

/-- The job, stored into the results' cells. -/
def put7 (W : World) (N N1 N2 : Nat) (v0 v1 v2 v3 v4 u v : Value) : World :=
  ((((((W.setCell ⟨N, 0, none⟩ v0).setCell ⟨N, 1, none⟩ v1).setCell ⟨N, 2, none⟩ v2).setCell ⟨N, 3, none⟩ v3).setCell ⟨N, 4, none⟩ v4).setCell ⟨N1, 0, none⟩ u).setCell ⟨N2, 0, none⟩ v
theorem put7_far {W : World} {N N1 N2 b : Nat} {o : Obj} (h : W.heap[b]? = some o) (h0 : b ≠ N) (h1 : b ≠ N1) (h2 : b ≠ N2) (v0 v1 v2 v3 v4 u v : Value) : (put7 W N N1 N2 v0 v1 v2 v3 v4 u v).heap[b]? = some o :=
  blk_set_far (blk_set_far (blk_set_far (blk_set_far (blk_set_far (blk_set_far (blk_set_far h h0 _) h0 _) h0 _) h0 _) h0 _) h1 _) h2 _
theorem put7_0 {W : World} {N N1 N2 : Nat} (h1 : N ≠ N1) (h2 : N ≠ N2) {t : TypeId} {f : Nat × Nat} (h : W.heap[N]? = some (.cells zeroJob t f)) (v0 v1 v2 v3 v4 u v : Value) : (put7 W N N1 N2 v0 v1 v2 v3 v4 u v).heap[N]? = some (.cells #[v0, v1, v2, v3, v4] t f) :=
  (blk_set_far (blk_set_far (blk_set (blk_set (blk_set (blk_set (blk_set h v0) v1) v2) v3) v4) h1 u) h2 v).trans rfl
theorem put7_1 {W : World} {N N1 N2 : Nat} (h0 : N1 ≠ N) (h2 : N1 ≠ N2) {c : Value} {t : TypeId} {f : Nat × Nat} (h : W.heap[N1]? = some (.cells #[c] t f)) (v0 v1 v2 v3 v4 u v : Value) : (put7 W N N1 N2 v0 v1 v2 v3 v4 u v).heap[N1]? = some (.cells #[u] t f) :=
  blk_set_far (blk_set (blk_set_far (blk_set_far (blk_set_far (blk_set_far (blk_set_far h h0 _) h0 _) h0 _) h0 _) h0 _) u) h2 v
theorem put7_2 {W : World} {N N1 N2 : Nat} (h0 : N2 ≠ N) (h1 : N2 ≠ N1) {c : Value} {t : TypeId} {f : Nat × Nat} (h : W.heap[N2]? = some (.cells #[c] t f)) (v0 v1 v2 v3 v4 u v : Value) : (put7 W N N1 N2 v0 v1 v2 v3 v4 u v).heap[N2]? = some (.cells #[v] t f) :=
  blk_set (blk_set_far (blk_set_far (blk_set_far (blk_set_far (blk_set_far (blk_set_far h h0 _) h0 _) h0 _) h0 _) h0 _) h1 u) v
theorem put7_below {w W : World} (h : Below w.heap.size w W) (v0 v1 v2 v3 v4 u v : Value) : Below w.heap.size w (put7 W w.heap.size (w.heap.size + 1) (w.heap.size + 1 + 1) v0 v1 v2 v3 v4 u v) :=
  ((((((h.setCell (p := ⟨w.heap.size, 0, none⟩) (Nat.le_refl _) _).setCell (p := ⟨w.heap.size, 1, none⟩) (Nat.le_refl _) _).setCell (p := ⟨w.heap.size, 2, none⟩) (Nat.le_refl _) _).setCell (p := ⟨w.heap.size, 3, none⟩) (Nat.le_refl _) _).setCell (p := ⟨w.heap.size, 4, none⟩) (Nat.le_refl _) _).setCell (p := ⟨w.heap.size + 1, 0, none⟩) (Nat.le_succ _) _).setCell (p := ⟨w.heap.size + 1 + 1, 0, none⟩) (by show w.heap.size ≤ w.heap.size + 1 + 1; omega) _
theorem put7_own {w W : World} {A : Option Addr} {c : Nat} {s : JS} {seen : List (List UInt8)} (h : PInv w W A c s seen) (v0 v1 v2 v3 v4 u v : Value) {D : Nat} {o : Obj} (hD : W.heap[D]? = some o) (ho : o.isCells = false) (o' : Obj) (hlt : w.heap.size + 1 + 1 < D) :
    ((put7 W w.heap.size (w.heap.size + 1) (w.heap.size + 1 + 1) v0 v1 v2 v3 v4 u v).putObj D o').ownsRow w.heap.size 65 3 (.slice A s.forced.length c) s.forced.length (colls s.forced) := by
  refine ⟨h.job.2.1, ?_⟩
  rcases h.job.2.2 with h' | ⟨g, cap, cur, hv, hb', hh, h'⟩
  · exact .inl h'
  · refine .inr ⟨g, cap, cur, hv, hb', ?_, h'⟩
    refine (World.putObj_heap_other (fun e => ?_)).trans (put7_far hh (fun e => ?_) (fun e => ?_) (fun e => ?_) _ _ _ _ _ _ _)
    · first | (subst e; rw [hh] at hD; cases hD; cases ho) | (rw [← e, hh] at hD; cases hD; cases ho)
    · rw [e, h.r0] at hh; cases hh
    · rw [e, h.r1] at hh; cases hh
    · rw [e, h.r2] at hh; cases hh

set_option maxRecDepth 100000 in
set_option maxHeartbeats 1600000 in
theorem parse_any (s : ByteArray) (w : World) (hL : Lw w) (hs : s.size ≤ 1048576) :
    Calls Tryd.prog 29 #[.string s] w (ParsePost s w) := by
  refine (callsIn_wide (n := 5)).1 ?_
  refine callsIn_of_wp_marks Tryd.func29 rfl trivial ?_ rfl
  simp only [Tryd.ntmps29, List.size_toArray, List.length_cons, List.length_nil, Nat.reduceAdd, Nat.reduceSub, Array.replicate_succ, Array.replicate_zero, List.push_toArray, List.append_toArray, List.nil_append, List.cons_append]
  by_cases hlong : 65536 < s.size
  · gi_wp2
    refine ⟨_, results_parse rfl rfl rfl (v0 := .string ⟨#[]⟩) (v1 := .string ⟨#[]⟩) (v2 := .int .i64 0) (v3 := .int .i64 0) (v4 := .slice none 0 0) (blk_alloc (blk_alloc (blk_new _ rfl) _) _) (blk_alloc (blk_new _ (by simp)) _) (blk_new _ (by simp)), ?_⟩
    unfold ParsePost
    rw [if_pos hlong]
    exact ⟨rfl, (((Below.refl _ _).alloc (Nat.le_refl _) _).alloc (by simp) _).alloc (by simp; omega) _⟩
  · have hmm := @run_makeMap Tryd.prog
    gi_wp2
    refine ⟨trivial, (callsIn_wide.2 (lines_any s _)).mono ?_⟩
    rintro e w1 ⟨rfl, rfl⟩
    have s1 : (w.alloc (.cells zeroJob 24)).heap.size = w.heap.size + 1 := by simp
    have b0 := blk_new (w := w) (n := w.heap.size) (.cells zeroJob 24) rfl
    have B0 : Below w.heap.size w (w.alloc (.cells zeroJob 24)) := (Below.refl _ _).alloc (Nat.le_refl _) _
    rw [show (#[Value.string { data := #[] }, Value.string { data := #[] }, Value.int IntKind.i64 0, Value.int IntKind.i64 0, Value.slice none 0 0] : Array Value) = zeroJob from rfl] at *
    generalize w.alloc (.cells zeroJob 24) = W1 at *
    have s2 : (W1.alloc (.cells #[.int .i64 0] 3)).heap.size = w.heap.size + 1 + 1 := by simp [s1]
    have b1 := blk_new (w := W1) (n := w.heap.size + 1) (.cells #[.int .i64 0] 3) s1.symm
    replace b0 := blk_alloc b0 (.cells #[.int .i64 0] 3)
    replace B0 := B0.alloc (by omega) (.cells #[.int .i64 0] 3)
    generalize W1.alloc (.cells #[.int .i64 0] 3) = W2 at *
    have s3 : (W2.alloc (.cells #[.int .i64 0] 27)).heap.size = w.heap.size + 1 + 1 + 1 := by simp [s2]
    have b2 := blk_new (w := W2) (n := w.heap.size + 1 + 1) (.cells #[.int .i64 0] 27) s2.symm
    replace b0 := blk_alloc b0 (.cells #[.int .i64 0] 27)
    replace b1 := blk_alloc b1 (.cells #[.int .i64 0] 27)
    replace B0 := B0.alloc (by omega) (.cells #[.int .i64 0] 27)
    generalize W2.alloc (.cells #[.int .i64 0] 27) = W3 at *
    have s4 : (W3.alloc (.cells zeroJob 24)).heap.size = w.heap.size + 1 + 1 + 1 + 1 := by simp [s3]
    have b3 := blk_new (w := W3) (n := w.heap.size + 1 + 1 + 1) (.cells zeroJob 24) s3.symm
    replace b0 := blk_alloc b0 (.cells zeroJob 24)
    replace b1 := blk_alloc b1 (.cells zeroJob 24)
    replace b2 := blk_alloc b2 (.cells zeroJob 24)
    replace B0 := B0.alloc (by omega) (.cells zeroJob 24)
    generalize W3.alloc (.cells zeroJob 24) = W4 at *
    have s5 : (W4.alloc (.map #[] 0)).heap.size = w.heap.size + 1 + 1 + 1 + 1 + 1 := by simp [s4]
    have b4 := stood_nil W4
    rw [s4] at b4
    replace b0 := blk_alloc b0 (.map #[] 0)
    replace b1 := blk_alloc b1 (.map #[] 0)
    replace b2 := blk_alloc b2 (.map #[] 0)
    replace b3 := blk_alloc b3 (.map #[] 0)
    replace B0 := B0.alloc (by omega) (.map #[] 0)
    generalize W4.alloc (.map #[] 0) = W5 at *
    have s6 : (W5.alloc (.cells #[.map (some (w.heap.size + 1 + 1 + 1 + 1))] 92)).heap.size = w.heap.size + 1 + 1 + 1 + 1 + 1 + 1 := by simp [s5]
    have b5 := blk_new (w := W5) (n := w.heap.size + 1 + 1 + 1 + 1 + 1) (.cells #[.map (some (w.heap.size + 1 + 1 + 1 + 1))] 92) s5.symm
    replace b0 := blk_alloc b0 (.cells #[.map (some (w.heap.size + 1 + 1 + 1 + 1))] 92)
    replace b1 := blk_alloc b1 (.cells #[.map (some (w.heap.size + 1 + 1 + 1 + 1))] 92)
    replace b2 := blk_alloc b2 (.cells #[.map (some (w.heap.size + 1 + 1 + 1 + 1))] 92)
    replace b3 := blk_alloc b3 (.cells #[.map (some (w.heap.size + 1 + 1 + 1 + 1))] 92)
    replace b4 := b4.below ((Below.refl _ _).alloc (Nat.le_refl _) (.cells #[.map (some (w.heap.size + 1 + 1 + 1 + 1))] 92))
    replace B0 := B0.alloc (by omega) (.cells #[.map (some (w.heap.size + 1 + 1 + 1 + 1))] 92)
    generalize W5.alloc (.cells #[.map (some (w.heap.size + 1 + 1 + 1 + 1))] 92) = W6 at *
    have s7 : (W6.alloc (.cells #[.string s] 9)).heap.size = w.heap.size + 1 + 1 + 1 + 1 + 1 + 1 + 1 := by simp [s6]
    have b6 := blk_new (w := W6) (n := w.heap.size + 1 + 1 + 1 + 1 + 1 + 1) (.cells #[.string s] 9) s6.symm
    replace b0 := blk_alloc b0 (.cells #[.string s] 9)
    replace b1 := blk_alloc b1 (.cells #[.string s] 9)
    replace b2 := blk_alloc b2 (.cells #[.string s] 9)
    replace b3 := blk_alloc b3 (.cells #[.string s] 9)
    replace b4 := b4.below ((Below.refl _ _).alloc (Nat.le_refl _) (.cells #[.string s] 9))
    replace b5 := blk_alloc b5 (.cells #[.string s] 9)
    replace B0 := B0.alloc (by omega) (.cells #[.string s] 9)
    rw [s6]
    generalize W6.alloc (.cells #[.string s] 9) = W7 at *
    clear s1 s2 s3 s4 s5 s6
    have h0 : PInv w W7 none 0 js0 [] := ⟨B0, b0, b1, b2, ⟨b3, own_nil' _ _ _ _⟩, b4, b5, _, b6⟩
    clear b0 b1 b2 b3 b4 b5 B0
    gi_wp2
    have hBB : w.heap.size + 1 + 1 + 1 + 1 + 1 + 1 + 1 ≤ W7.heap.size := Nat.le_of_eq s7.symm
    refine range_box (α := Nat × ByteArray × ByteArray) (Bs := w.heap.size + 1 + 1 + 1 + 1 + 1 + 1) (tb := 9) (xs := lns s) (by omega) rfl (by omega) (gf := 57) (lb := #[.pointer (some ⟨w.heap.size + 1 + 1 + 1 + 1 + 1 + 1, 0, none⟩)]) rfl trivial (enters_of Tryd.func57 (by kernel_rfl) rfl)
      (lines1_in (5 - 1) (by omega) s hs W7 _ b6) (Below.refl _ _) (fun _ => rfl) (PI w) (fun c _ W => PX (lns s) w c W) (PI.bears w _ hBB) (fun c => PX.bears (lns s) w _ hBB c) (fun _ W h => by obtain ⟨_, _, _, _, h, _⟩ := h; exact (hL.below h.below).shaped) ⟨none, 0, js0, [], h0, Lib.hid rfl, Nat.le_refl _, by decide⟩
      (fun x a' W => ∃ b, w.heap.size + 1 + 1 + 1 + 1 + 1 + 1 < b ∧ W.heap[b]? = some (.cells #[.string x.2.1, .string x.2.2] 96 (0, 0)) ∧ a' = { tmps := #[Value.string s, undef, Value.pointer (some ⟨w.heap.size, 0, none⟩), Value.pointer (some ⟨w.heap.size + 1, 0, none⟩), Value.pointer (some ⟨w.heap.size + 1 + 1, 0, none⟩), Value.pointer (some ⟨w.heap.size + 1 + 1 + 1, 0, none⟩), Value.pointer (some ⟨w.heap.size + 1 + 1 + 1 + 1 + 1, 0, none⟩), Value.int IntKind.i64 x.1, Value.pointer (some ⟨b, 0, none⟩), undef, Value.string s, Value.int IntKind.i64 s.size, Value.bool (decide (65536 < (s.size : Int))), undef, Value.map (some (w.heap.size + 1 + 1 + 1 + 1)), Value.string s, Value.func (Fn.func 57) #[] #[Value.pointer (some ⟨w.heap.size + 1 + 1 + 1 + 1 + 1 + 1, 0, none⟩)], Value.int IntKind.i64 x.1, Value.agg #[Value.string x.2.1, Value.string x.2.2], undef, undef, undef, undef, undef, undef, undef, undef, undef, undef, undef, undef, undef, undef, undef, undef], defers := [] }) ?hAx ?assign ?body ?done ?stop
    case hAx =>
      rintro x a' _ W W' row ⟨b, hb, hc, ha⟩ hg hr
      refine ⟨b, hb, blk_grown hg hc fun e => ?_, ha⟩
      rcases hr b e.symm with ⟨h1, _⟩ | ⟨_, o, ho, hno⟩
      · omega
      · rw [hc] at ho; cases ho; cases hno
    case assign =>
      rintro l pre ⟨xi, xl, xr⟩ W K hI hK
      dsimp only [lnEnc]
      have hlt : w.heap.size + 1 + 1 + 1 + 1 + 1 + 1 < W.heap.size := by
        obtain ⟨_, _, _, _, h, _⟩ := hI
        obtain ⟨q, hq⟩ := h.bx
        exact blk_lt hq
      have hI2 := PI.bears w _ hBB _ _ _ none hI (World.grownBy_alloc W (.cells #[.string xl, .string xr] 96) none) (by simp)
      gi_wp2
      exact hK _ _ ((KeepsOthers.alloc _ _).from _) (Below.heap_alloc _ _ _ hlt) hI2 ⟨W.heap.size, hlt, blk_new _ rfl, rfl⟩
    case body =>
      rintro l pre ⟨xi, xl, xr⟩ a' W ⟨A, c, j, seen, h, HS, hsl, hfl⟩ ⟨b, hb, hc, rfl⟩ hpre
      have c0 : W.cell? ⟨b, 0, none⟩ = some (.string xl) := (blk_cell hc).trans rfl
      have c1 : W.cell? ⟨b, 1, none⟩ = some (.string xr) := (blk_cell hc).trans rfl
      have cm : W.cell? ⟨w.heap.size + 1 + 1 + 1 + 1 + 1, 0, none⟩ = some (.map (some (w.heap.size + 1 + 1 + 1 + 1))) := (blk_cell h.mv).trans rfl
      obtain ⟨tl, htl⟩ := hpre
      have hmem : (xi, xl, xr) ∈ lns s := by rw [← htl]; simp
      have hxs := lnsF_size _ _ _ _ hmem
      have hpl : pre.length < 65537 := by
        have h1 := congrArg List.length htl
        have h2 := lnsF_len s.size 1 s
        simp only [List.length_append, List.length_cons, List.length_nil] at h1
        unfold lns at h1
        omega
      have hprs : prs js0 [] (lns s) = prs j seen ((xi, xl, xr) :: tl) := by
        rw [← htl, List.append_assoc]
        exact prs_stt pre _ _ _ _ HS.out
      have HP := Lib.hid hprs
      clear hprs
      by_cases hpg : xl = wProgram
      · subst hpg
        rw [wProgram] at *
        have cj : W.cell? ⟨w.heap.size + 1 + 1 + 1, 0, none⟩ = some (.string j.src) := (blk_cell h.job.1).trans rfl
        have fj : W.frozen? ⟨w.heap.size + 1 + 1 + 1, 0, none⟩ = false := blk_free h.job.1
        gi_wp2
        rw [← wProgram] at HP
        have hj2 : JobAt (W.setCell ⟨w.heap.size + 1 + 1 + 1, 0, none⟩ (.string xr)) (w.heap.size + 1 + 1 + 1) w.heap.size A c { j with src := xr } := ⟨blk_set h.job.1 _, own_set h.job.2 (own_far h.job.2 h.job.1 (by decide)) _⟩
        refine ⟨(KeepsOthers.setCell _ _ _).from _, A, c, { j with src := xr }, seen, ⟨h.below.setCell (p := ⟨w.heap.size + 1 + 1 + 1, 0, none⟩) (by show w.heap.size ≤ w.heap.size + 1 + 1 + 1; omega) _, blk_set_far h.r0 (by omega) _, blk_set_far h.r1 (by omega) _, blk_set_far h.r2 (by omega) _, hj2, h.stood.blk (Below.heap_setCell W ⟨w.heap.size + 1 + 1 + 1, 0, none⟩ _ _ (by show w.heap.size + 1 + 1 + 1 + 1 ≠ w.heap.size + 1 + 1 + 1; omega)), blk_set_far h.mv (by omega) _, ?_⟩, Lib.hid ?_⟩
        · obtain ⟨q, hq⟩ := h.bx
          exact ⟨q, blk_set_far hq (by omega) _⟩
        · rw [HP.out, prs, if_pos rfl]
      · have q1 : (xl.toList == [112, 114, 111, 103, 114, 97, 109]) = false := beq_eq_false_iff_ne.2 fun e => hpg (bs_eqP (e.trans (by rw [ByteArray.toList_eq]; rfl)))
        gi_wp2
        refine ⟨trivial, (CallsIn.inRound l (callsIn_wide.2 (reads_any w W hL h.below _ _ A c j seen h.job h.stood (by omega) (by omega) (by omega) hfl xl (by omega)))).mono ?_⟩
        rintro e W' ⟨he, hF⟩
        have hX : ∀ k, (k = w.heap.size + 1 + 1 + 1 ∨ k = w.heap.size + 1 + 1 + 1 + 1 ∨ some k = (Value.slice A j.forced.length c).ownBlock) → w.heap.size ≤ k ∧ (k < w.heap.size + 1 + 1 + 1 + 1 + 1 + 1 + 1 ∨ ∃ c t f, W.heap[k]? = some (.cells c t f)) ∧ (∀ q t f, W.heap[k]? = some (.cells q t f) → t = 24 ∧ k = w.heap.size + 1 + 1 + 1 ∨ t = 65) := by
          intro k hk
          rcases hk with rfl | rfl | hk
          · exact ⟨by omega, .inl (by omega), fun q t f hq => by rw [h.job.1] at hq; cases hq; exact .inl ⟨rfl, rfl⟩⟩
          · exact ⟨by omega, .inl (by omega), fun q t f hq => by obtain ⟨es, cl, hm⟩ := h.stood.kind; rw [hm] at hq; cases hq⟩
          · obtain ⟨h1, cs, hcs⟩ := own_type h.job.2 k hk.symm
            exact ⟨h1, .inr ⟨_, _, _, hcs⟩, fun q t f hq => by rw [hcs] at hq; cases hq; exact .inr rfl⟩
        have hK : KeepsFrom W7.heap.size W W' := keeps_frX hF (fun k hk => by rw [s7]; exact (hX k hk).2.1)
        have hbel : Below w.heap.size w W' := h.below.trans (hF.below h.below.size fun k hk => (hX k hk).1)
        have keep : ∀ {k : Nat} {q : Array Value} {t : TypeId} {f : Nat × Nat}, W.heap[k]? = some (.cells q t f) → (t = 24 → k ≠ w.heap.size + 1 + 1 + 1) → t ≠ 65 → W'.heap[k]? = some (.cells q t f) := fun {k q t f} hq h1 h2 => hF.blk hq fun hx => by
          rcases (hX k hx).2.2 q t f hq with ⟨e1, e2⟩ | e1
          · exact h1 e1 e2
          · exact h2 e1
        have k0 := keep h.r0 (fun _ => by omega) (by decide)
        have k1 := keep h.r1 (fun e => by cases e) (by decide)
        have k2 := keep h.r2 (fun e => by cases e) (by decide)
        have k5 := keep h.mv (fun e => by cases e) (by decide)
        have kb : ∃ q, W'.heap[w.heap.size + 1 + 1 + 1 + 1 + 1 + 1]? = some (.cells q 9 (0, 0)) ∧ W'.heap[w.heap.size + 1 + 1 + 1 + 1 + 1 + 1]? = W.heap[w.heap.size + 1 + 1 + 1 + 1 + 1 + 1]? := by
          obtain ⟨q, hq⟩ := h.bx
          have := keep hq (fun e => by cases e) (by decide)
          exact ⟨q, this, this.trans hq.symm⟩
        obtain ⟨q, kb, kbs⟩ := kb
        have hh := HP.out
        clear HP hX keep hF
        cases hr : rd j seen xl with
        | ok p =>
          obtain ⟨j2, seen2⟩ := p
          rw [hr] at he
          obtain ⟨rfl, ⟨A', c', hJ'⟩, hM'⟩ := he
          have hro := rd_ok hr hfl
          have hst := stt_snoc pre (xi, xl, xr) js0 [] _ _ HS.out hpg hr
          have HST := Lib.hid hst
          clear hst hh hr
          gi_wp2
          refine ⟨hK, kbs, A', c', j2, seen2, ⟨hbel, k0, k1, k2, hJ', hM', k5, _, kb⟩, Lib.hid HST.out, ?_, hro.2⟩
          have := hro.1
          simp only [List.length_append, List.length_cons, List.length_nil]
          exact Nat.le_trans this (by omega)
        | error x =>
          rw [hr] at he
          subst he
          have hx := rd_err hr
          have hq : prs js0 [] (lns s) = .error (xi, x) := by
            rw [hh, prs, if_neg hpg, hr]
          have HQ := Lib.hid hq
          clear hq hh hr
          have hx0 : (x == 0) = false := by rcases hx with rfl | rfl <;> rfl
          have g0 : ∀ i u, zeroJob[i]? = some u → W'.cell? ⟨w.heap.size, i, none⟩ = some u := fun i u hu => (blk_cell k0).trans hu
          have e0 : W'.cell? ⟨w.heap.size, 0, none⟩ = some (.string ⟨#[]⟩) := g0 0 _ rfl
          have e1 : W'.cell? ⟨w.heap.size, 1, none⟩ = some (.string ⟨#[]⟩) := g0 1 _ rfl
          have e2 : W'.cell? ⟨w.heap.size, 2, none⟩ = some (.int .i64 0) := g0 2 _ rfl
          have e3 : W'.cell? ⟨w.heap.size, 3, none⟩ = some (.int .i64 0) := g0 3 _ rfl
          have e4 : W'.cell? ⟨w.heap.size, 4, none⟩ = some (.slice none 0 0) := g0 4 _ rfl
          have e5 : W'.cell? ⟨w.heap.size + 1, 0, none⟩ = some (.int .i64 0) := (blk_cell k1).trans rfl
          have e6 : W'.cell? ⟨w.heap.size + 1 + 1, 0, none⟩ = some (.int .i64 0) := (blk_cell k2).trans rfl
          have f0 : ∀ i, W'.frozen? ⟨w.heap.size, i, none⟩ = false := fun i => blk_free k0
          have f5 : W'.frozen? ⟨w.heap.size + 1, 0, none⟩ = false := blk_free k1
          have f6 : W'.frozen? ⟨w.heap.size + 1 + 1, 0, none⟩ = false := blk_free k2
          clear g0
          gi_wp2
          clear e0 e1 e2 e3 e4 e5 e6 f0 f5 f6
          have z0 := blk_set (j := 4) (blk_set (j := 3) (blk_set (j := 2) (blk_set (j := 1) (blk_set (j := 0) k0 (.string ⟨#[]⟩)) (.string ⟨#[]⟩)) (.int .i64 0)) (.int .i64 0)) (.slice none 0 0)
          have z1 : (((((W'.setCell ⟨w.heap.size, 0, none⟩ (.string ⟨#[]⟩)).setCell ⟨w.heap.size, 1, none⟩ (.string ⟨#[]⟩)).setCell ⟨w.heap.size, 2, none⟩ (.int .i64 0)).setCell ⟨w.heap.size, 3, none⟩ (.int .i64 0)).setCell ⟨w.heap.size, 4, none⟩ (.slice none 0 0)).heap[w.heap.size + 1]? = some (.cells #[.int .i64 0] 3 (0, 0)) := blk_set_far (blk_set_far (blk_set_far (blk_set_far (blk_set_far k1 (by omega) _) (by omega) _) (by omega) _) (by omega) _) (by omega) _
          have z2 : (((((W'.setCell ⟨w.heap.size, 0, none⟩ (.string ⟨#[]⟩)).setCell ⟨w.heap.size, 1, none⟩ (.string ⟨#[]⟩)).setCell ⟨w.heap.size, 2, none⟩ (.int .i64 0)).setCell ⟨w.heap.size, 3, none⟩ (.int .i64 0)).setCell ⟨w.heap.size, 4, none⟩ (.slice none 0 0)).heap[w.heap.size + 1 + 1]? = some (.cells #[.int .i64 0] 27 (0, 0)) := blk_set_far (blk_set_far (blk_set_far (blk_set_far (blk_set_far k2 (by omega) _) (by omega) _) (by omega) _) (by omega) _) (by omega) _
          have hbel2 := ((((hbel.setCell (p := ⟨w.heap.size, 0, none⟩) (Nat.le_refl _) (.string ⟨#[]⟩)).setCell (p := ⟨w.heap.size, 1, none⟩) (Nat.le_refl _) (.string ⟨#[]⟩)).setCell (p := ⟨w.heap.size, 2, none⟩) (Nat.le_refl _) (.int .i64 0)).setCell (p := ⟨w.heap.size, 3, none⟩) (Nat.le_refl _) (.int .i64 0)).setCell (p := ⟨w.heap.size, 4, none⟩) (Nat.le_refl _) (.slice none 0 0)
          have hK2 := ((((hK.trans ((KeepsOthers.setCell W' ⟨w.heap.size, 0, none⟩ (.string ⟨#[]⟩)).from _)).trans ((KeepsOthers.setCell _ ⟨w.heap.size, 1, none⟩ (.string ⟨#[]⟩)).from _)).trans ((KeepsOthers.setCell _ ⟨w.heap.size, 2, none⟩ (.int .i64 0)).from _)).trans ((KeepsOthers.setCell _ ⟨w.heap.size, 3, none⟩ (.int .i64 0)).from _)).trans ((KeepsOthers.setCell _ ⟨w.heap.size, 4, none⟩ (.slice none 0 0)).from _)
          replace z0 := blk_set_far (j := 0) (blk_set_far (j := 0) z0 (show w.heap.size ≠ w.heap.size + 1 by omega) (.int .i64 xi)) (show w.heap.size ≠ w.heap.size + 1 + 1 by omega) (.int .i64 x)
          exact ⟨(hK2.trans ((KeepsOthers.setCell _ ⟨w.heap.size + 1, 0, none⟩ (.int .i64 xi)).from _)).trans ((KeepsOthers.setCell _ ⟨w.heap.size + 1 + 1, 0, none⟩ (.int .i64 x)).from _), (xi, x), Lib.hid HQ.out, (hbel2.setCell (p := ⟨w.heap.size + 1, 0, none⟩) (Nat.le_succ _) (.int .i64 xi)).setCell (p := ⟨w.heap.size + 1 + 1, 0, none⟩) (by show w.heap.size ≤ w.heap.size + 1 + 1; omega) (.int .i64 x), z0,
            blk_set_far (blk_set z1 _) (by omega) _, blk_set (blk_set_far z2 (by omega) _) _⟩
    case done =>
      rintro D W hD ⟨A, c, j, seen, h, HS, hsl, hfl⟩ hK
      have hpr := prs_stt (lns s) [] js0 [] _ HS.out
      rw [List.append_nil] at hpr
      have HP : Hid (prs js0 [] (lns s) = .ok j) := Lib.hid (by rw [hpr]; rfl)
      clear hpr
      have e0 : W.cell? ⟨w.heap.size + 1 + 1 + 1, 0, none⟩ = some (.string j.src) := (blk_cell h.job.1).trans rfl
      have e1 : W.cell? ⟨w.heap.size + 1 + 1 + 1, 1, none⟩ = some (.string j.inp) := (blk_cell h.job.1).trans rfl
      have e2 : W.cell? ⟨w.heap.size + 1 + 1 + 1, 2, none⟩ = some (.int .i64 j.lim) := (blk_cell h.job.1).trans rfl
      have e3 : W.cell? ⟨w.heap.size + 1 + 1 + 1, 3, none⟩ = some (.int .i64 j.fuel) := (blk_cell h.job.1).trans rfl
      have e4 : W.cell? ⟨w.heap.size + 1 + 1 + 1, 4, none⟩ = some (.slice A j.forced.length c) := (blk_cell h.job.1).trans rfl
      have k0 : W.cell? ⟨w.heap.size, 0, none⟩ = some (.string ⟨#[]⟩) := (blk_cell h.r0).trans rfl
      have k1 : W.cell? ⟨w.heap.size, 1, none⟩ = some (.string ⟨#[]⟩) := (blk_cell h.r0).trans rfl
      have k2 : W.cell? ⟨w.heap.size, 2, none⟩ = some (.int .i64 0) := (blk_cell h.r0).trans rfl
      have k3 : W.cell? ⟨w.heap.size, 3, none⟩ = some (.int .i64 0) := (blk_cell h.r0).trans rfl
      have k4 : W.cell? ⟨w.heap.size, 4, none⟩ = some (.slice none 0 0) := (blk_cell h.r0).trans rfl
      have k5 : W.cell? ⟨w.heap.size + 1, 0, none⟩ = some (.int .i64 0) := (blk_cell h.r1).trans rfl
      have k6 : W.cell? ⟨w.heap.size + 1 + 1, 0, none⟩ = some (.int .i64 0) := (blk_cell h.r2).trans rfl
      have f0 : ∀ i, W.frozen? ⟨w.heap.size, i, none⟩ = false := fun i => blk_free h.r0
      have f5 : W.frozen? ⟨w.heap.size + 1, 0, none⟩ = false := blk_free h.r1
      have f6 : W.frozen? ⟨w.heap.size + 1 + 1, 0, none⟩ = false := blk_free h.r2
      gi_wp2
      clear e0 e1 e2 e3 e4 k0 k1 k2 k3 k4 k5 k6 f0 f5 f6
      have hDl : w.heap.size + 1 + 1 < D := by omega
      have hK2 := put7_far hK (show D ≠ w.heap.size by omega) (show D ≠ w.heap.size + 1 by omega) (show D ≠ w.heap.size + 1 + 1 by omega) (.string j.src) (.string j.inp) (.int .i64 j.lim) (.int .i64 j.fuel) (.slice A j.forced.length c) (.int .i64 0) (.int .i64 0)
      refine ⟨by simp, .inl ⟨_, _, rfl, run_takeDeferred hK2, ?_⟩⟩
      refine ⟨_, results_parse rfl rfl rfl ((World.putObj_heap_other (by omega)).trans (put7_0 (by omega) (by omega) h.r0 _ _ _ _ _ _ _)) ((World.putObj_heap_other (by omega)).trans (put7_1 (by omega) (by omega) h.r1 _ _ _ _ _ _ _)) ((World.putObj_heap_other (by omega)).trans (put7_2 (by omega) (by omega) h.r2 _ _ _ _ _ _ _)), ?_⟩
      unfold ParsePost
      rw [if_neg hlong, HP.out]
      exact ⟨⟨A, c, rfl, put7_own h _ _ _ _ _ _ _ hK rfl _ hDl⟩, (put7_below h.below _ _ _ _ _ _ _).trans ((Below.refl _ _).grown (grownBy_putObj' _ D _) (put7_below h.below _ _ _ _ _ _ _).size (fun k e => by cases e; omega))⟩
    case stop =>
      rintro D cd pre W hD hpre hX hK
      unfold PX at hX
      split at hX
      · obtain ⟨x, HQ, hb, k0, k1, k2⟩ := hX
        gi_wp2
        refine ⟨by simp, .inl ⟨_, _, rfl, run_takeDeferred hK, ?_⟩⟩
        refine ⟨_, results_parse rfl rfl rfl ((World.putObj_heap_other (by omega)).trans k0) ((World.putObj_heap_other (by omega)).trans k1) ((World.putObj_heap_other (by omega)).trans k2), ?_⟩
        unfold ParsePost
        rw [if_neg hlong, HQ.out]
        exact ⟨rfl, hb.trans ((Below.refl _ _).grown (grownBy_putObj' _ D _) hb.size (fun k e => by cases e; omega))⟩
      · obtain ⟨A, c, j, seen, h, HP⟩ := hX
        have e0 : W.cell? ⟨w.heap.size + 1 + 1 + 1, 0, none⟩ = some (.string j.src) := (blk_cell h.job.1).trans rfl
        have e1 : W.cell? ⟨w.heap.size + 1 + 1 + 1, 1, none⟩ = some (.string j.inp) := (blk_cell h.job.1).trans rfl
        have e2 : W.cell? ⟨w.heap.size + 1 + 1 + 1, 2, none⟩ = some (.int .i64 j.lim) := (blk_cell h.job.1).trans rfl
        have e3 : W.cell? ⟨w.heap.size + 1 + 1 + 1, 3, none⟩ = some (.int .i64 j.fuel) := (blk_cell h.job.1).trans rfl
        have e4 : W.cell? ⟨w.heap.size + 1 + 1 + 1, 4, none⟩ = some (.slice A j.forced.length c) := (blk_cell h.job.1).trans rfl
        have k0 : W.cell? ⟨w.heap.size, 0, none⟩ = some (.string ⟨#[]⟩) := (blk_cell h.r0).trans rfl
        have k1 : W.cell? ⟨w.heap.size, 1, none⟩ = some (.string ⟨#[]⟩) := (blk_cell h.r0).trans rfl
        have k2 : W.cell? ⟨w.heap.size, 2, none⟩ = some (.int .i64 0) := (blk_cell h.r0).trans rfl
        have k3 : W.cell? ⟨w.heap.size, 3, none⟩ = some (.int .i64 0) := (blk_cell h.r0).trans rfl
        have k4 : W.cell? ⟨w.heap.size, 4, none⟩ = some (.slice none 0 0) := (blk_cell h.r0).trans rfl
        have k5 : W.cell? ⟨w.heap.size + 1, 0, none⟩ = some (.int .i64 0) := (blk_cell h.r1).trans rfl
        have k6 : W.cell? ⟨w.heap.size + 1 + 1, 0, none⟩ = some (.int .i64 0) := (blk_cell h.r2).trans rfl
        have f0 : ∀ i, W.frozen? ⟨w.heap.size, i, none⟩ = false := fun i => blk_free h.r0
        have f5 : W.frozen? ⟨w.heap.size + 1, 0, none⟩ = false := blk_free h.r1
        have f6 : W.frozen? ⟨w.heap.size + 1 + 1, 0, none⟩ = false := blk_free h.r2
        gi_wp2
        clear e0 e1 e2 e3 e4 k0 k1 k2 k3 k4 k5 k6 f0 f5 f6
        have hDl : w.heap.size + 1 + 1 < D := by omega
        have hK2 := put7_far hK (show D ≠ w.heap.size by omega) (show D ≠ w.heap.size + 1 by omega) (show D ≠ w.heap.size + 1 + 1 by omega) (.string j.src) (.string j.inp) (.int .i64 j.lim) (.int .i64 j.fuel) (.slice A j.forced.length c) (.int .i64 0) (.int .i64 0)
        refine ⟨by simp, .inl ⟨_, _, rfl, run_takeDeferred hK2, ?_⟩⟩
        refine ⟨_, results_parse rfl rfl rfl ((World.putObj_heap_other (by omega)).trans (put7_0 (by omega) (by omega) h.r0 _ _ _ _ _ _ _)) ((World.putObj_heap_other (by omega)).trans (put7_1 (by omega) (by omega) h.r1 _ _ _ _ _ _ _)) ((World.putObj_heap_other (by omega)).trans (put7_2 (by omega) (by omega) h.r2 _ _ _ _ _ _ _)), ?_⟩
        unfold ParsePost
        rw [if_neg hlong, HP.out]
        exact ⟨⟨A, c, rfl, put7_own h _ _ _ _ _ _ _ hK rfl _ hDl⟩, (put7_below h.below _ _ _ _ _ _ _).trans ((Below.refl _ _).grown (grownBy_putObj' _ D _) (put7_below h.below _ _ _ _ _ _ _).size (fun k e => by cases e; omega))⟩
      · exact hX.elim
end Go.Proofs.YthhchicggidhcaaDoor
