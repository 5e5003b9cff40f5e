/- A range over an iterator that keeps its own state in one box: one law for the caller. -/
import Derived.Test.YthhchicggidhcaaDoorMoStood
import Derived.RangeFuncNested
import Derived.RangeFuncBound
import Derived.RangeFuncCalls
import Derived.RangeFuncLeaves
import Derived.OwnWalkIn
import Derived.TacticsInMore
import Derived.LoopNIn
import Derived.LoopIn
namespace Go.Proofs.YthhchicggidhcaaDoor
open Go.RowKit

/-- What the iterator is asked: it goes over xs; between two rounds it writes its box Bs and new blocks alone, and finds the box as it left it. Lq: what it may ask of every world. -/
def SeqBox {α : Type} (F : Fence) (n : Nat) (P : Program) (g : Nat) (lb : Array Value) (encs : α → Array Value) (Bs tb : Nat) (Lq : World → Prop) (xs : List α) (w : World) : Prop :=
  ∀ (l : Nat) (J Jx : List α → World → Prop) (W : World), Below w.heap.size w W →
    (∀ s A B row, J s A → A.grownBy B row → (∀ r, row = some r → r = Bs ∧ ∃ c, B.heap[Bs]? = some (.cells c tb (0, 0))) → J s B) → (∀ s A, J s A → Lq A) →
    (∀ pre x W1, J pre W1 → pre ++ [x] <+: xs → YieldAt F (n - 1) P l (encs x) W1 fun e W' =>
      (e = .returned (.bool true) ∧ J (pre ++ [x]) W' ∧ W'.heap[Bs]? = W1.heap[Bs]?) ∨ (e = .returned (.bool false) ∧ Jx (pre ++ [x]) W')) →
    J [] W →
    CallsIn F n P g (#[.func (.yield l) #[] #[]] ++ lb) W fun e W' => (∃ v, e = .returned v) ∧ (J xs W' ∨ (∃ pre, pre <+: xs ∧ Jx pre W'))

/-- How a round may be left. -/
def roundEnd {α : Type} (B Bs : Nat) (I : List α → World → Prop) (Ix : Code → List α → World → Prop) (xs : List α) (W : World) : Exit → Act → World → Prop
  | .normal, _, W' => KeepsFrom B W W' ∧ W'.heap[Bs]? = W.heap[Bs]? ∧ I xs W'
  | .ret, _, W' => KeepsFrom B W W' ∧ Ix .ret xs W'
  | .exit id, _, W' => KeepsFrom B W W' ∧ Ix (.exit id) xs W'
  | .goto _, _, _ => False
  | .panic _, _, _ => False
  | .outgrown, _, _ => False

/-- What the caller's invariant must bear: the iterator's box, and the loop's own two blocks. -/
def Bears {β : Type} (B Bs tb : Nat) (I : β → World → Prop) : Prop :=
  ∀ s W W' row, I s W → W.grownBy W' row → (∀ r, row = some r → (r = Bs ∧ ∃ c, W'.heap[Bs]? = some (.cells c tb (0, 0))) ∨ (B ≤ r ∧ ∃ o : Obj, W.heap[r]? = some o ∧ o.isCells = false)) → I s W'
theorem Bears.put {β : Type} {B Bs tb : Nat} {I : β → World → Prop} (h : Bears B Bs tb I) {s : β} {W : World} {l : Nat} {o : Obj} (o' : Obj) (hs : I s W) (hB : B ≤ l) (hl : W.heap[l]? = some o) (ho : o.isCells = false) : I s (W.putObj l o') :=
  h s W _ (some l) hs (grownBy_putObj' W l o') (fun r e => by cases e; exact .inr ⟨hB, o, hl, ho⟩)
theorem Bears.alloc {β : Type} {B Bs tb : Nat} {I : β → World → Prop} (h : Bears B Bs tb I) {s : β} {W : World} (o : Obj) (hs : I s W) : I s (W.alloc o) :=
  h s W _ none hs (World.grownBy_alloc W o none) (fun r e => by cases e)

variable {F : Fence} {n : Nat} {P : Program}

theorem range_box {α : Type} {g : Operand} {ps : Array Tmp} {assign body : Code} {Q : Exit → Act → World → Prop} {a : Act} {w : World} {Bs tb : Nat} {Lq : World → Prop} {xs : List α} (hBs : Bs < w.heap.size)
    (hro : F.round = none) (h1 : 1 ≤ n) {gf : Nat} {lb : Array Value} (hg : a.eval g = .func (.func gf) #[] lb) (hFg : F.fn gf) (eg : ∀ args w, (callFunc gf args).run P w = .ok (.enter gf args) w)
    {encs : α → Array Value} {w0 : World} (hseq : SeqBox F (n - 1) P gf lb encs Bs tb Lq xs w0) (hb0 : Below w0.heap.size w0 w) (hps : ∀ x, (encs x).size = ps.size)
    (I : List α → World → Prop) (Ix : Code → List α → World → Prop) (hI : Bears w.heap.size Bs tb I) (hIx : ∀ c, Bears w.heap.size Bs tb (Ix c)) (hLq : ∀ s W, I s W → Lq W) (h0 : I [] w)
    (Ax : α → Act → World → Prop) (hAx : ∀ x a', Bears w.heap.size Bs tb (fun (_ : Unit) W => Ax x a' W))
    (hassign : ∀ (l : Nat) (pre : List α) (x : α) (W : World) (K : Act → World → Prop), I pre W → (∀ a' W', KeepsFrom w.heap.size W W' → W'.heap[Bs]? = W.heap[Bs]? → I pre W' → Ax x a' W' → K a' W') →
      assign.wpIn (F.inRound l) (n - 1 - 1) P (Exit.then K (fun _ _ _ => False)) { tmps := (ps.zip (encs x)).foldl (fun t (p, v) => t.setIfInBounds p v) a.tmps, defers := [] } W)
    (hbody : ∀ (l : Nat) (pre : List α) (x : α) (a' : Act) (W : World), I pre W → Ax x a' W → pre ++ [x] <+: xs → body.wpIn (F.inRound l) (n - 1 - 1) P (roundEnd w.heap.size Bs I Ix (pre ++ [x]) W) a' W)
    (hdone : ∀ (D : Nat) (W : World), w.heap.size ≤ D → I xs W → W.heap[D]? = some (.deferred (some [])) → Q .normal { a with defers := { target := .collected D, args := #[] } :: a.defers } W)
    (hstop : ∀ (D : Nat) (c : Code) (pre : List α) (W : World), w.heap.size ≤ D → pre <+: xs → Ix c pre W → W.heap[D]? = some (.deferred (some [])) → c.wpIn F n P Q { a with defers := { target := .collected D, args := #[] } :: a.defers } W) :
    (Code.rangeFunc g ps assign body).wpIn F n P Q a w := by
  refine wpIn_rangeFunc ?_
  intro fn hfn
  rw [hro]
  -- the two blocks that the statement lays for itself
  let rec' : LoopState → Option Code → Loop := fun st pe => { state := st, pending := pe, fn, tmps := a.tmps, params := ps, assign, body, defers := w.heap.size }
  obtain ⟨mk, hmk⟩ : ∃ mk, mk = rec' := ⟨_, rfl⟩
  let D := w.heap.size
  let l := w.heap.size + 1
  let rdy : Obj := .loop (mk .ready none)
  let dfr : Obj := .deferred (some [])
  obtain ⟨W1, hW1⟩ : ∃ W1, (w.alloc dfr).alloc rdy = W1 := ⟨_, rfl⟩
  have two : W1.heap[l]? = some rdy ∧ W1.heap[D]? = some dfr := by
    subst hW1
    refine ⟨?_, (Below.heap_alloc _ _ _ (by simp [D])).trans (World.alloc_heap_new w _)⟩
    have := World.alloc_heap_new (w.alloc dfr) rdy
    rwa [World.size_alloc] at this
  have hI1 : I [] W1 := hW1 ▸ hI.alloc _ (hI.alloc _ h0)
  have hb1 : Below w0.heap.size w0 W1 := hW1 ▸ hb0.trans ((((Below.refl _ w).alloc (Nat.le_refl _) _).alloc (by simp) _).mono hb0.size)
  refine ⟨l, [{ target := .collected D, args := #[] }], W1, { target := .fn (.func gf) lb, args := #[.func (.yield l) #[] #[]] }, W1, gf, #[.func (.yield l) #[] #[]] ++ lb, W1, ?_, ?_, ?_, ?_, fun _ => h1, ?_⟩
  · rw [← hW1]; simp only [rdy, hmk]; exact run_enterLoop_outer _ _ _ _ _
  · simp only [resolve, hg]
    simp [go_sem]
  · intro f' hf'; simp [Target.leads] at hf'; subst hf'; exact hFg
  · simp [invoke, go_sem, eg]
  -- a block that is neither the box is kept by what turns the box alone
  have far : ∀ {A B : World} {row : Option Nat} {k : Nat} {o : Obj}, A.grownBy B row → (∀ r, row = some r → r = Bs) → D ≤ k → A.heap[k]? = some o → B.heap[k]? = some o := fun {A B row k o} hgr hr hk ho =>
    (hgr.block k (blk_lt ho) fun e => by have := hr k e.symm; simp only [D] at hk; omega).trans ho
  refine (hseq l (fun pre W => I pre W ∧ W.heap[l]? = some rdy ∧ W.heap[D]? = some dfr)
    (fun pre W => ∃ c, Ix c pre W ∧ W.heap[l]? = some (.loop (mk .done (some c))) ∧ W.heap[D]? = some dfr) W1 hb1
    (fun s A B row hs hgr hr => ⟨hI s A B row hs.1 hgr (fun r e => .inl (hr r e)), far hgr (fun r e => (hr r e).1) (by simp [D, l]) hs.2.1, far hgr (fun r e => (hr r e).1) (Nat.le_refl _) hs.2.2⟩) (fun s A hs => hLq s A hs.1) ?_ ⟨hI1, two⟩).mono ?_
  · -- a round
    rintro pre x W ⟨hi, hl, hk⟩ hpre
    have hy := run_yield (P := P) (args := encs x) hl (by simp only [hmk]; exact hps x)
    refine ⟨fn, _, assign, body, ?_, roundIn_of_wpIn hfn (hassign l pre x W _ hi ?_)⟩
    · rw [hmk] at hy; exact hy
    intro a' Wa hkf hkb hia hax
    have hla := hkf.same l _ (by simp [l]) hl rfl
    have hka := hkf.same D _ (Nat.le_refl _) hk rfl
    have hlt : l < Wa.heap.size := blk_lt hla
    refine ⟨_, run_beginRound hla (by rw [hmk]), ?_⟩
    have hbusy : (Wa.putObj l (.loop { mk .ready none with state := .busy })).heap[l]? = some (.loop { mk .ready none with state := .busy }) := World.putObj_heap_same hlt
    have hkb2 : (Wa.putObj l (.loop { mk .ready none with state := .busy })).heap[D]? = some dfr := (World.putObj_heap_other (by simp [D, l])).trans hka
    have box1 : (Wa.putObj l (.loop { mk .ready none with state := .busy })).heap[Bs]? = W.heap[Bs]? := (World.putObj_heap_other (by simp only [l]; omega)).trans hkb
    refine wpIn_mono (hbody l pre x a' _ (hI.put _ hia (by simp [l]) hla rfl) ((hAx x a').put (s := ()) _ hax (by simp [l]) hla rfl) hpre) ?_
    have fin : ∀ (jump : Option Code) (W3 : World), KeepsFrom w.heap.size (Wa.putObj l (.loop { mk .ready none with state := .busy })) W3 →
        W3.heap[l]? = some (.loop { mk .ready none with state := .busy }) ∧
        (Instr.endRound l jump).run P W3 = .ok (.bool jump.isNone) (W3.putObj l (.loop (mk (if jump.isNone then .ready else .done) jump))) ∧
        (W3.putObj l (.loop (mk (if jump.isNone then .ready else .done) jump))).heap[l]? = some (.loop (mk (if jump.isNone then .ready else .done) jump)) ∧
        (W3.putObj l (.loop (mk (if jump.isNone then .ready else .done) jump))).heap[D]? = some dfr := fun jump W3 hk3 => by
      have hl3 := hk3.same l _ (by simp [l]) hbusy rfl
      refine ⟨hl3, ?_, World.putObj_heap_same (blk_lt hl3), (World.putObj_heap_other (by simp [D, l])).trans (hk3.same D _ (Nat.le_refl _) hkb2 rfl)⟩
      have := run_endRound (P := P) jump hl3
      rw [hmk] at this ⊢
      exact this
    rintro e a3 W3 hp
    cases e with
    | normal =>
      obtain ⟨hk3, hx3, hi3⟩ := hp
      obtain ⟨hl3, hr, hl4, hk4⟩ := fin none W3 hk3
      exact ⟨_, _, hr, .inl ⟨rfl, ⟨hI.put _ hi3 (by simp [l]) hl3 rfl, hl4, hk4⟩, ((World.putObj_heap_other (by simp only [l]; omega)).trans hx3).trans box1⟩⟩
    | ret =>
      obtain ⟨hk3, hi3⟩ := hp
      obtain ⟨hl3, hr, hl4, hk4⟩ := fin (some .ret) W3 hk3
      exact ⟨_, _, hr, .inr ⟨rfl, .ret, (hIx _).put _ hi3 (by simp [l]) hl3 rfl, hl4, hk4⟩⟩
    | exit id =>
      obtain ⟨hk3, hi3⟩ := hp
      obtain ⟨hl3, hr, hl4, hk4⟩ := fin (some (.exit id)) W3 hk3
      exact ⟨_, _, hr, .inr ⟨rfl, .exit id, (hIx _).put _ hi3 (by simp [l]) hl3 rfl, hl4, hk4⟩⟩
    | goto t => exact hp.elim
    | panic ch => exact hp.elim
    | outgrown => exact hp.elim
  · -- behind the iterator
    rintro e W2 ⟨⟨v, rfl⟩, (⟨hi, hl, hk⟩ | ⟨pre, hpre, c, hi, hl, hk⟩)⟩
    · have hend := run_endLoop (P := P) hl (by rw [hmk]; simp)
      rw [hmk] at hend
      exact ⟨none, _, hend, hdone D _ (Nat.le_refl _) (hI.put _ hi (by simp [l]) hl rfl) ((World.putObj_heap_other (by simp [D, l])).trans hk)⟩
    · have hend := run_endLoop (P := P) hl (by rw [hmk]; simp)
      rw [hmk] at hend
      exact ⟨some c, _, hend, hstop D c pre _ (Nat.le_refl _) hpre ((hIx c).put _ hi (by simp [l]) hl rfl) ((World.putObj_heap_other (by simp [D, l])).trans hk)⟩
end Go.Proofs.YthhchicggidhcaaDoor
