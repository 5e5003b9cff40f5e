/- The words that stood (the call's own map), and what a call may change: known blocks only. -/
import Derived.Test.YthhchicggidhcaaDoorMoUnb
import Derived.Test.YthhchicggidhcaaDoorMoEnc
import Derived.Maps.OwnOps
import Derived.Maps.OwnSet
import Derived.Lib.SplitLaws
namespace Go.Proofs.YthhchicggidhcaaDoor
open Go.RowKit

/-- Of what was there, the blocks in X alone may have changed. -/
structure FrX (X : Nat → Prop) (w w' : World) : Prop where
  os : w'.os = w.os
  tape : w'.tape = w.tape
  output : w'.output = w.output
  size : w.heap.size ≤ w'.heap.size
  block : ∀ k, k < w.heap.size → ¬ X k → w'.heap[k]? = w.heap[k]?
theorem FrX.refl (X : Nat → Prop) (w : World) : FrX X w w := ⟨rfl, rfl, rfl, Nat.le_refl _, fun _ _ _ => rfl⟩
theorem FrX.trans {X : Nat → Prop} {w w1 w2 : World} (h : FrX X w w1) (k : FrX X w1 w2) : FrX X w w2 :=
  ⟨k.os.trans h.os, k.tape.trans h.tape, k.output.trans h.output, Nat.le_trans h.size k.size, fun i hi hx => (k.block i (Nat.lt_of_lt_of_le hi h.size) hx).trans (h.block i hi hx)⟩
theorem FrX.of_below {X : Nat → Prop} {w w' : World} (h : Below w.heap.size w w') : FrX X w w' := ⟨h.os, h.tape, h.output, h.size, fun k hk _ => h.block k hk⟩
theorem FrX.alloc {X : Nat → Prop} {w w' : World} (h : FrX X w w') (o : Obj) : FrX X w (w'.alloc o) := h.trans (FrX.of_below ((Below.refl _ _).alloc (Nat.le_refl _) o))
theorem FrX.drew {X : Nat → Prop} {w w' : World} (h : FrX X w w') : FrX X w w'.drew := h.trans (FrX.of_below (Below.refl _ _).drew)
theorem FrX.grown {X : Nat → Prop} {w w' : World} {row : Option Nat} (hg : w.grownBy w' row) (hr : ∀ k, row = some k → X k) : FrX X w w' :=
  ⟨hg.os, hg.tape, hg.output, hg.size, fun k hk hx => hg.block k hk fun e => hx (hr k e.symm)⟩
theorem FrX.setCell {X : Nat → Prop} {w : World} {p : Addr} (v : Value) (hx : X p.block) : FrX X w (w.setCell p v) :=
  ⟨rfl, rfl, rfl, by simp [World.setCell], fun k _ hk => Below.heap_setCell w p v k fun e => hk (e ▸ hx)⟩
theorem FrX.mono {X X' : Nat → Prop} {w w' : World} (h : FrX X w w') (hi : ∀ k, k < w.heap.size → X k → X' k) : FrX X' w w' :=
  ⟨h.os, h.tape, h.output, h.size, fun k hk hx => h.block k hk fun e => hx (hi k hk e)⟩
theorem FrX.blk {X : Nat → Prop} {w w' : World} (h : FrX X w w') {b : Nat} {o : Obj} (ho : w.heap[b]? = some o) (hx : ¬ X b) : w'.heap[b]? = some o := (h.block b (blk_lt ho) hx).trans ho
theorem FrX.own {X : Nat → Prop} {w w' : World} (h : FrX X w w') {base : Nat} {e : TypeId} {size n : Nat} {v : Value} {xs : List Value} (ho : w.ownsRow base e size v n xs) (hx : ∀ k, v.ownBlock = some k → ¬ X k) : w'.ownsRow base e size v n xs := by
  refine ⟨ho.1, ?_⟩
  rcases ho.2 with h' | ⟨g, cap, cur, rfl, hb', hh, h'⟩
  · exact .inl h'
  · exact .inr ⟨g, cap, cur, rfl, hb', h.blk hh (hx g rfl), h'⟩
theorem FrX.below {X : Nat → Prop} {w w' : World} (h : FrX X w w') {base : Nat} (hb : base ≤ w.heap.size) (hx : ∀ k, X k → base ≤ k) : Below base w w' :=
  ⟨h.os, h.tape, h.output, h.size, fun k hk => h.block k (Nat.lt_of_lt_of_le hk hb) fun e => by have := hx k e; omega⟩

/-- Which words stood, and how often. -/
def Stood (w : World) (mb : Nat) (seen : List (List UInt8)) : Prop :=
  ∃ D : DataW Nat, w.ownsMap Tryd.prog 9 (plainElem Tryd.prog 3) mb seen.length D ∧ ∀ kb, D.atKey (.string kb) (.lit (.int .i64 0)) = .lit (.int .i64 (seen.count kb : Nat))
theorem Stood.lt {w : World} {mb : Nat} {seen : List (List UInt8)} (h : Stood w mb seen) : mb < w.heap.size := by obtain ⟨D, h, _⟩ := h; exact h.lt
theorem Stood.blk {w w' : World} {mb : Nat} {seen : List (List UInt8)} (h : Stood w mb seen) (he : w'.heap[mb]? = w.heap[mb]?) : Stood w' mb seen := by
  obtain ⟨D, ⟨es, clock, hb, F, hs, hD⟩, hat⟩ := h
  exact ⟨D, ⟨es, clock, he.trans hb, F, hs, hD⟩, hat⟩
theorem Stood.fr {X : Nat → Prop} {w w' : World} {mb : Nat} {seen : List (List UInt8)} (h : Stood w mb seen) (hf : FrX X w w') (hx : ¬ X mb) : Stood w' mb seen := h.blk (hf.block mb h.lt hx)
theorem Stood.below {w w' : World} {mb : Nat} {seen : List (List UInt8)} (h : Stood w mb seen) (hf : Below w.heap.size w w') : Stood w' mb seen := h.blk (hf.block mb h.lt)
theorem Stood.kind {w : World} {mb : Nat} {seen : List (List UInt8)} (h : Stood w mb seen) : ∃ es clock, w.heap[mb]? = some (.map es clock) := by
  obtain ⟨D, ⟨es, clock, hb, _⟩, _⟩ := h; exact ⟨es, clock, hb⟩
theorem stood_nil (w : World) : Stood (w.alloc (.map #[] 0)) w.heap.size [] :=
  ⟨.map [], World.ownsMap_made w _ _ _, fun _ => rfl⟩

/-- A job as the text builds it. -/
structure JS where
  src : ByteArray
  inp : ByteArray
  lim : Int
  fuel : Int
  forced : List (Int × Int × Int)

def JobAt (w : World) (jb base : Nat) (A : Option Addr) (c : Nat) (s : JS) : Prop :=
  w.heap[jb]? = some (.cells #[.string s.src, .string s.inp, .int .i64 s.lim, .int .i64 s.fuel, .slice A s.forced.length c] 24 (0, 0)) ∧
  w.ownsRow base 65 3 (.slice A s.forced.length c) s.forced.length (colls s.forced)

def words (s : ByteArray) : List ByteArray := Lib.splitB ⟨#[32]⟩ 0 (Lib.countB s ⟨#[32]⟩) s
theorem words_len (s : ByteArray) : (words s).length = Lib.countB s ⟨#[32]⟩ + 1 := Lib.splitB_all _ (by decide) 0 _ s rfl
theorem splitB_size (sep : ByteArray) : ∀ (k : Nat) (s t : ByteArray), t ∈ Lib.splitB sep 0 k s → t.size ≤ s.size
  | 0, s, t, h => by simp [Lib.splitB] at h; subst h; exact Nat.le_refl _
  | k + 1, s, t, h => by
    unfold Lib.splitB at h
    split at h
    · simp at h; subst h; exact Nat.le_refl _
    · rcases List.mem_cons.1 h with rfl | h
      · simp; omega
      · have := splitB_size sep k _ t h
        simp at this; omega
theorem words_size (s t : ByteArray) (h : t ∈ words s) : t.size ≤ s.size := splitB_size _ _ _ _ h
theorem words_pos (s : ByteArray) : 0 < (words s).length := by rw [words_len]; omega

theorem split_any (s : ByteArray) (w : World) (hw : w.ShapedOpen Tryd.prog) (hs : s.size ≤ 1048576) :
    Calls Tryd.prog 59 #[.string s, .string ⟨#[32]⟩] w fun e w' =>
      e = .returned (.slice (some ⟨w.heap.size, 0, none⟩) (words s).length (words s).length) ∧ w' = w.alloc (.cells ((words s).map Value.string).toArray 9) := by
  rw [words_len]
  exact Tryd.strings_Split_shaped s ⟨#[32]⟩ w hw (by omega) (by decide)

def wIn : ByteArray := ⟨#[105, 110]⟩
def wLimit : ByteArray := ⟨#[108, 105, 109, 105, 116]⟩
def wFuel : ByteArray := ⟨#[102, 117, 101, 108]⟩
def wCollect : ByteArray := ⟨#[99, 111, 108, 108, 101, 99, 116]⟩

def isOne (once b : Bool) (s : JS) (seen : List (List UInt8)) : Except Int (JS × List (List UInt8)) := if (b && once) = true then .ok (s, seen) else .error 9
/-- One line of a job's text: the job behind it and the words that stood; or what is wrong. -/
def rdWord (s : JS) (seen : List (List UInt8)) (once : Bool) (k : ByteArray) (args : List ByteArray) : Except Int (JS × List (List UInt8)) :=
  if k = wIn then
    match args with
    | [x] => match unbL x.data.toList with
      | none => .error 9
      | some (xs, b) => isOne once (b && decide (0 < xs.length)) { s with inp := strOfNums xs } seen
    | _ => .error 9
  else if k = wLimit then
    match numsOf args with
    | some [x] => isOne once true { s with lim := x } seen
    | _ => .error 9
  else if k = wFuel then
    match numsOf args with
    | some [x] => isOne once true { s with fuel := x } seen
    | _ => .error 9
  else if k = wCollect then
    match numsOf args with
    | some [x, y, z] => if s.forced.length = 1000 then .error 12 else .ok ({ s with forced := s.forced ++ [(x, y, z)] }, seen)
    | _ => .error 9
  else .error 9
def rd (s : JS) (seen : List (List UInt8)) (l : ByteArray) : Except Int (JS × List (List UInt8)) :=
  if l.data.toList.head? = none ∨ l.data.toList.head? = some 35 then .ok (s, seen)
  else rdWord s ((words l).head!.data.toList :: seen) (decide (seen.count (words l).head!.data.toList = 0)) (words l).head! (words l).tail

/-- What reads comes to. -/
def ReadsPost (jb mb base : Nat) (A : Option Addr) (c : Nat) (s : JS) (seen : List (List UInt8)) (l : ByteArray) (w : World) (e : Ending) (w' : World) : Prop :=
  (match rd s seen l with
  | .ok (s', seen') => e = .returned (.int .i64 0) ∧ (∃ A' c', JobAt w' jb base A' c' s') ∧ Stood w' mb seen'
  | .error x => e = .returned (.int .i64 x)) ∧ FrX (fun k => k = jb ∨ k = mb ∨ some k = (Value.slice A s.forced.length c).ownBlock) w w'
end Go.Proofs.YthhchicggidhcaaDoor
