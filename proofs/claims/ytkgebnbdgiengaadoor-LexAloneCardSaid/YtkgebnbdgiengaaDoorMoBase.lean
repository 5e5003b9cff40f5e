/- Worlds that differ in known blocks only: words of one's own, of no program. -/
import Derived.WalkKit
import Derived.WalkSpells
import Derived.WalkLawsBesides
import Derived.Deep.LoopGhost
import Derived.Lib.Hide
import Derived.IntWalk
import Derived.Lib.AppendStr
import Derived.Laws.BytesArg
import Derived.Maps.AppendAt
namespace Go.Proofs.YtkgebnbdgiengaaDoor
open Go.RowKit

/-- From block 'base' on, blocks of cells whose element type is in T may have changed; nothing else that was there has. -/
structure Fr (T : List Nat) (base : Nat) (w w' : World) : Prop where
  os : w'.os = w.os
  tape : w'.tape = w.tape
  output : w'.output = w.output
  size : w.heap.size ≤ w'.heap.size
  block : ∀ k, k < w.heap.size → (k < base ∨ ∀ c t f, w.heap[k]? = some (.cells c t f) → t ∉ T) → w'.heap[k]? = w.heap[k]?

theorem Fr.refl (T : List Nat) (base : Nat) (w : World) : Fr T base w w := ⟨rfl, rfl, rfl, Nat.le_refl _, fun _ _ _ => rfl⟩

theorem Fr.trans {T : List Nat} {base : Nat} {w w1 w2 : World} (h : Fr T base w w1) (k : Fr T base w1 w2) : Fr T base w w2 :=
  ⟨k.os.trans h.os, k.tape.trans h.tape, k.output.trans h.output, Nat.le_trans h.size k.size, fun i hi hp => by
    have e := h.block i hi hp
    rw [← e]
    exact k.block i (Nat.lt_of_lt_of_le hi h.size) (hp.imp_right fun hq c t f hc => hq c t f (e ▸ hc))⟩

theorem Fr.below {T : List Nat} {base : Nat} {w w' : World} (h : Fr T base w w') (hb : base ≤ w.heap.size) : Below base w w' :=
  ⟨h.os, h.tape, h.output, h.size, fun k hk => h.block k (Nat.lt_of_lt_of_le hk hb) (.inl hk)⟩

theorem Fr.of_below {T : List Nat} {base : Nat} {w w' : World} (h : Below w.heap.size w w') : Fr T base w w' :=
  ⟨h.os, h.tape, h.output, h.size, fun k hk _ => h.block k hk⟩

theorem Fr.alloc {T : List Nat} {base : Nat} {w w' : World} (h : Fr T base w w') (o : Obj) : Fr T base w (w'.alloc o) :=
  h.trans (Fr.of_below ((Below.refl _ _).alloc (Nat.le_refl _) o))

theorem Fr.drew {T : List Nat} {base : Nat} {w w' : World} (h : Fr T base w w') : Fr T base w w'.drew :=
  h.trans (Fr.of_below (Below.refl _ _).drew)

theorem Fr.drewN {T : List Nat} {base : Nat} {w w' : World} (h : Fr T base w w') (n : Nat) : Fr T base w (w'.drewN n) :=
  h.trans ⟨rfl, rfl, rfl, Nat.le_refl _, fun _ _ _ => rfl⟩

theorem Fr.mono {T T' : List Nat} {base base' : Nat} {w w' : World} (h : Fr T base w w') (hT : ∀ t ∈ T, t ∈ T') (hb : base' ≤ base) : Fr T' base' w w' :=
  ⟨h.os, h.tape, h.output, h.size, fun k hk hp => h.block k hk (hp.imp (fun q => Nat.lt_of_lt_of_le q hb) (fun q c t f hc ht => q c t f hc (hT t ht)))⟩

/-- A row of the call's own grows. -/
theorem Fr.grown {T : List Nat} {base : Nat} {w w' : World} {row : Option Nat} (hg : w.grownBy w' row)
    (hr : ∀ k, row = some k → base ≤ k ∧ ∃ c t f, w.heap[k]? = some (.cells c t f) ∧ t ∈ T) : Fr T base w w' :=
  ⟨hg.os, hg.tape, hg.output, hg.size, fun k hk hp => hg.block k hk fun e => by
    obtain ⟨h1, c, t, f, hc, ht⟩ := hr k e.symm
    rcases hp with hp | hp
    · omega
    · exact hp c t f hc ht⟩

theorem Fr.setCell {T : List Nat} {base : Nat} {w : World} {p : Addr} (v : Value) (hb : base ≤ p.block)
    (hc : ∃ c t f, w.heap[p.block]? = some (.cells c t f) ∧ t ∈ T) : Fr T base w (w.setCell p v) :=
  ⟨rfl, rfl, rfl, by simp [World.setCell], fun k _ hp => Below.heap_setCell w p v k fun e => by
    subst e
    obtain ⟨c, t, f, h1, h2⟩ := hc
    rcases hp with hp | hp
    · omega
    · exact hp c t f h1 h2⟩

/-- A block that is known whole. -/
theorem blk_cell {w : World} {b j : Nat} {cs : Array Value} {t : TypeId} {f : Nat × Nat} (h : w.heap[b]? = some (.cells cs t f)) : w.cell? ⟨b, j, none⟩ = cs[j]? := by
  simp [World.cell?, h]
theorem blk_free {w : World} {b j : Nat} {cs : Array Value} {t : TypeId} (h : w.heap[b]? = some (.cells cs t (0, 0))) : w.frozen? ⟨b, j, none⟩ = false := by
  simp [World.frozen?, h]
theorem blk_lt {w : World} {b : Nat} {o : Obj} (h : w.heap[b]? = some o) : b < w.heap.size := (Array.getElem?_eq_some_iff.1 h).1
theorem blk_set {w : World} {b j : Nat} {cs : Array Value} {t : TypeId} {f : Nat × Nat} (h : w.heap[b]? = some (.cells cs t f)) (v : Value) :
    (w.setCell ⟨b, j, none⟩ v).heap[b]? = some (.cells (cs.setIfInBounds j v) t f) := by
  simp [World.setCell, Array.getElem?_modify, h]
theorem blk_set_far {w : World} {b b' j : Nat} {o : Obj} (h : w.heap[b]? = some o) (hne : b ≠ b') (v : Value) : (w.setCell ⟨b', j, none⟩ v).heap[b]? = some o := by
  rw [Below.heap_setCell w ⟨b', j, none⟩ v b hne]; exact h
theorem blk_alloc {w : World} {b : Nat} {o : Obj} (h : w.heap[b]? = some o) (o' : Obj) : (w.alloc o').heap[b]? = some o := by
  rw [((Below.refl w.heap.size w).alloc (Nat.le_refl _) o').block b (blk_lt h)]; exact h
theorem blk_fr {T : List Nat} {base : Nat} {w w' : World} {b : Nat} {cs : Array Value} {t : TypeId} {f : Nat × Nat} (hf : Fr T base w w') (h : w.heap[b]? = some (.cells cs t f)) (ht : t ∉ T) : w'.heap[b]? = some (.cells cs t f) := by
  rw [hf.block b (blk_lt h) (.inr fun c t' f' e => by rw [h] at e; cases e; exact ht)]; exact h
theorem blk_below {B : Nat} {w w' : World} {b : Nat} {o : Obj} (hb : Below B w w') (h : w.heap[b]? = some o) (hlt : b < B) : w'.heap[b]? = some o := by
  rw [hb.block b hlt]; exact h
theorem blk_belowS {w w' : World} {b : Nat} {o : Obj} (hb : Below w.heap.size w w') (h : w.heap[b]? = some o) : w'.heap[b]? = some o := blk_below hb h (blk_lt h)

/-- Whole numbers as cells. -/
def ints (k : IntKind) (xs : List Int) : List Value := xs.map fun x => .int k x

/-- A slice that is read: its elements' cells one behind the other. T: its block's element type. -/
def Reads (w : World) (T : Nat) (A : Option Addr) (vs : List Value) : Prop :=
  0 < vs.length → ∃ b o c f, A = some ⟨b, o, none⟩ ∧ w.heap[b]? = some (.cells c T f) ∧ ∀ j, j < vs.length → c[o + j]? = vs[j]?

theorem Reads.cell {w : World} {T : Nat} {A : Option Addr} {vs : List Value} (h : Reads w T A vs) {j : Nat} (hj : j < vs.length) :
    ∃ b o, A = some ⟨b, o, none⟩ ∧ w.cell? ⟨b, o + j, none⟩ = some vs[j] := by
  obtain ⟨b, o, c, f, rfl, hb, hc⟩ := h (by omega)
  exact ⟨b, o, rfl, by rw [blk_cell hb, hc j hj]; exact List.getElem?_eq_getElem hj⟩

theorem Reads.fr {w w' : World} {T : Nat} {TS : List Nat} {base : Nat} {A : Option Addr} {vs : List Value} (h : Reads w T A vs) (hf : Fr TS base w w') (ht : T ∉ TS) : Reads w' T A vs := fun hp => by
  obtain ⟨b, o, c, f, e, hb, hc⟩ := h hp
  exact ⟨b, o, c, f, e, blk_fr hf hb ht, hc⟩
theorem Reads.below {w w' : World} {T : Nat} {A : Option Addr} {vs : List Value} (h : Reads w T A vs) (hf : Below w.heap.size w w') : Reads w' T A vs := fun hp => by
  obtain ⟨b, o, c, f, e, hb, hc⟩ := h hp
  exact ⟨b, o, c, f, e, blk_belowS hf hb, hc⟩
theorem Reads.nil (w : World) (T : Nat) (A : Option Addr) : Reads w T A [] := fun h => by simp at h

/-- An own row's block has its type. -/
theorem own_type {w : World} {base : Nat} {e : TypeId} {size n : Nat} {v : Value} {xs : List Value} (h : w.ownsRow base e size v n xs) (k : Nat) (hk : v.ownBlock = some k) :
    base ≤ k ∧ ∃ c, w.heap[k]? = some (.cells c e (0, 0)) := by
  rcases h.2 with ⟨rfl, _⟩ | ⟨g, cap, cur, rfl, hb, hh, _⟩
  · simp [Value.ownBlock] at hk
  · have : g = k := by simpa [Value.ownBlock] using hk
    subst this
    exact ⟨hb, cur, hh⟩
theorem own_far {w : World} {base : Nat} {e t : TypeId} {size n b : Nat} {v : Value} {xs : List Value} {cs : Array Value} {f : Nat × Nat} (h : w.ownsRow base e size v n xs) (hb : w.heap[b]? = some (.cells cs t f)) (hne : e ≠ t) : some b ≠ v.ownBlock := fun hk => by
  obtain ⟨_, c, hc⟩ := own_type h b hk.symm
  rw [hb] at hc; cases hc; exact hne rfl
theorem own_set {w : World} {base : Nat} {e : TypeId} {size n : Nat} {v : Value} {xs : List Value} (h : w.ownsRow base e size v n xs) {p : Addr} (hne : some p.block ≠ v.ownBlock) (u : Value) : (w.setCell p u).ownsRow base e size v n xs := by
  refine ⟨h.1, ?_⟩
  rcases h.2 with h' | ⟨g, cap, cur, rfl, hb, hh, h'⟩
  · exact .inl h'
  · refine .inr ⟨g, cap, cur, rfl, hb, ?_, h'⟩
    rw [Below.heap_setCell w p u g (fun e => hne (by simp [Value.ownBlock, e]))]; exact hh
theorem own_fr {T : List Nat} {b0 base : Nat} {w w' : World} {e : TypeId} {size n : Nat} {v : Value} {xs : List Value} (h : w.ownsRow base e size v n xs) (hf : Fr T b0 w w') (he : e ∉ T) : w'.ownsRow base e size v n xs := by
  refine ⟨h.1, ?_⟩
  rcases h.2 with h' | ⟨g, cap, cur, rfl, hb, hh, h'⟩
  · exact .inl h'
  · exact .inr ⟨g, cap, cur, rfl, hb, blk_fr hf hh he, h'⟩
theorem own_lt' {w : World} {base : Nat} {e : TypeId} {size n : Nat} {v : Value} {xs : List Value} (h : w.ownsRow base e size v n xs) : ∃ A c, v = .slice A n c ∧ n ≤ c := by
  rcases h.2 with ⟨rfl, rfl⟩ | ⟨g, cap, cur, rfl, hb, hh, h', _⟩
  · exact ⟨none, 0, rfl, Nat.le_refl _⟩
  · exact ⟨_, cap, rfl, h'⟩

theorem blk_grown {w w' : World} {row : Option Nat} {b : Nat} {o : Obj} (hg : w.grownBy w' row) (h : w.heap[b]? = some o) (hne : some b ≠ row) : w'.heap[b]? = some o := by
  rw [hg.block b (blk_lt h) hne]; exact h

/-- One element appended to a row of the call's own: the element lies in a row of its own that was just laid. -/
theorem app1 {P : Program} {ops : Array Oper} {rest : List Oper} {o : Oper} {a : Act} {Q : Exit → Act → World → Prop} {W : World} {s x : Operand} {t : TypeId}
    {base : Nat} {e : TypeId} {z : Value} {size bytes : Nat} {v : Value} {n : Nat} {xs : List Value} (hown : W.ownsRow base e size v n xs)
    (ht : P.underlying t = some (.slice e)) (hinfo : (P.info? e).map (fun i => (i.zero, i.size, i.bytes)) = some (some z, size, bytes)) (hzs : z.cells.size = size) (hsz : 0 < size)
    (h63 : n + 1 ≤ maxLen) (hby : (n + 1) * bytes ≤ 140737488355328) (hbase : base ≤ W.heap.size)
    (hgd : o.guard = none) (ho : o.op = .call { callee := .builtin .append, args := #[s, x], argTypes := #[t, t] }) (hs : a.eval s = v) (hx : a.eval x = .slice (some ⟨W.heap.size, 0, none⟩) 1 1)
    (cs : List Value) (hcs : cs.length = size) (h1 : ∀ u ∈ cs, u.oneCell' = true)
    (h : ∀ A' c' w', w'.ownsRow base e size (.slice A' (n + 1) c') (n + 1) (xs ++ cs) → (W.alloc (.cells cs.toArray e)).grownBy w' v.ownBlock → wpList P ops Q rest (a.put o.dst (.slice A' (n + 1) c')) w') :
    wpList P ops Q (o :: rest) a (W.alloc (.cells cs.toArray e)) := by
  obtain ⟨i0, hi, hz0, hz1, hz2⟩ := info_parts hinfo
  refine wpList_append_own _ hgd s x t ho base e i0 z size bytes ht hi hz0 hz1 hz2 hzs hsz v n xs hs (hown.alloc _) ⟨W.heap.size, 0, none⟩ 1 1 cs hx (by omega) ?_ h1 h63 hby (by simp; omega) fun v' w' h2 h3 _ => by obtain ⟨A', c', rfl, _⟩ := own_lt' h2; exact h A' c' w' h2 h3
  intro j u hj
  have hlt : j < cs.length := (List.getElem?_eq_some_iff.1 hj).1
  have e1 : (⟨W.heap.size, 0, none⟩ : Addr).add j = ⟨W.heap.size, j, none⟩ := by unfold Addr.add; split <;> simp_all
  rw [e1]
  rw [World.cell?_alloc_at _ _ _ _ rfl]
  simpa using hj

/-- What a row that grew leaves alone. -/
theorem Fr.app0 {T : List Nat} {base b0 : Nat} {W w' : World} {e : TypeId} {size n : Nat} {v : Value} {xs : List Value} (hown : W.ownsRow base e size v n xs)
    (hg : W.grownBy w' v.ownBlock) (he : e ∈ T) (hb : b0 ≤ base) : Fr T b0 W w' :=
  Fr.grown hg fun k hk => by
    obtain ⟨h1, c, hc⟩ := own_type hown k hk
    exact ⟨by omega, c, e, _, hc, he⟩
theorem Fr.app {T : List Nat} {base b0 : Nat} {W w' : World} {e : TypeId} {size n : Nat} {v : Value} {xs : List Value} (o : Obj) (hown : W.ownsRow base e size v n xs)
    (hg : (W.alloc o).grownBy w' v.ownBlock) (he : e ∈ T) (hb : b0 ≤ base) : Fr T b0 W w' :=
  ((Fr.refl T b0 W).alloc o).trans (Fr.grown hg fun k hk => by
    obtain ⟨h1, c, hc⟩ := own_type (hown.alloc o) k hk
    exact ⟨by omega, c, e, _, hc, he⟩)

theorem add_plain' (g o j : Nat) : (⟨g, o, none⟩ : Addr).add j = ⟨g, o + j, none⟩ := by unfold Addr.add; split <;> simp_all

/-- A text's bytes appended to a row of the call's own. -/
theorem appS {P : Program} {ops : Array Oper} {rest : List Oper} {o : Oper} {a : Act} {Q : Exit → Act → World → Prop} {W : World} {s x : Operand} {t u : TypeId}
    {base : Nat} {e : TypeId} {v : Value} {n : Nat} {xs : List Value} (hown : W.ownsRow base e 1 v n xs)
    (ht : P.underlying t = some (.slice e)) (hu : P.underlying u = some .string) (hinfo : (P.info? e).map (fun i => (i.zero, i.size, i.bytes)) = some (some (.int .u8 0), 1, 1))
    (str : ByteArray) (h63 : n + str.size ≤ maxLen) (hby : n + str.size ≤ 140737488355328) (hbase : base ≤ W.heap.size)
    (hgd : o.guard = none) (ho : o.op = .call { callee := .builtin .append, args := #[s, x], argTypes := #[t, u] }) (hs : a.eval s = v) (hx : a.eval x = .string str)
    (h : ∀ A' c' w', w'.ownsRow base e 1 (.slice A' (n + str.size) c') (n + str.size) (xs ++ Lib.strCells str) → W.grownBy w' v.ownBlock → wpList P ops Q rest (a.put o.dst (.slice A' (n + str.size) c')) w') :
    wpList P ops Q (o :: rest) a W := by
  obtain ⟨i0, hi, hz0, hz1, hz2⟩ := info_parts hinfo
  exact Lib.wpList_append_own_string _ hgd s x t u ho base e i0 ht hu hi hz0 hz1 hz2 v n xs hs hown str hx h63 hby hbase
    fun v' w' h2 h3 _ => by obtain ⟨A', c', rfl, _⟩ := own_lt' h2; exact h A' c' w' h2 h3

theorem run_append_nil {P : Program} {w : World} {base : Nat} {t ty e : TypeId} {i : TypeInfo} {size : Nat} (ht : P.underlying t = some (.slice e)) (hi : P.info? e = some i)
    {v : Value} {n : Nat} {xs : List Value} (hown : w.ownsRow base e size v n xs) (c : Nat) : (Builtin.append_ #[t, t] ty #[v, .slice none 0 c]).run P w = .ok v w := by
  rcases hown.2 with ⟨rfl, rfl⟩ | ⟨g, cap, cur, rfl, _, _, hnc, _⟩
  · simp [Builtin.append_, run_underlying ht, sizeOf, typeInfo, hi, Builtin.lenOf, Builtin.firstCells]
  · simp [Builtin.append_, run_underlying ht, sizeOf, typeInfo, hi, Builtin.lenOf, Builtin.firstCells, hnc, storeCells]

/-- A whole slice appended to a row of the call's own. -/
theorem appR {P : Program} {ops : Array Oper} {rest : List Oper} {o : Oper} {a : Act} {Q : Exit → Act → World → Prop} {W : World} {s x : Operand} {t : TypeId}
    {base : Nat} {e : TypeId} {z : Value} {size bytes : Nat} {v : Value} {n : Nat} {xs : List Value} (hown : W.ownsRow base e size v n xs)
    (ht : P.underlying t = some (.slice e)) (hinfo : (P.info? e).map (fun i => (i.zero, i.size, i.bytes)) = some (some z, size, bytes)) (hzs : z.cells.size = size) (hsz : 0 < size)
    {T : Nat} {A : Option Addr} {m c : Nat} {cs : List Value} (hR : Reads W T A cs) (hcs : cs.length = m * size) (hn0 : A = none → m = 0)
    (h63 : n + m ≤ maxLen) (hby : (n + m) * bytes ≤ 140737488355328) (hbase : base ≤ W.heap.size)
    (hgd : o.guard = none) (ho : o.op = .call { callee := .builtin .append, args := #[s, x], argTypes := #[t, t] }) (hs : a.eval s = v) (hx : a.eval x = .slice A m c)
    (h1 : ∀ u ∈ cs, u.oneCell' = true)
    (h : ∀ A' c' w', w'.ownsRow base e size (.slice A' (n + m) c') (n + m) (xs ++ cs) → W.grownBy w' v.ownBlock → wpList P ops Q rest (a.put o.dst (.slice A' (n + m) c')) w') :
    wpList P ops Q (o :: rest) a W := by
  obtain ⟨i0, hi, hz0, hz1, hz2⟩ := info_parts hinfo
  rcases A with _ | ad
  · obtain rfl := hn0 rfl
    obtain rfl : cs = [] := List.eq_nil_of_length_eq_zero (by simpa using hcs)
    refine wpList_plain hgd fun K hK => ?_
    unfold Oper.wp execOp
    simp only [ho, resolve, invoke, builtin, Sem.run_bind, Sem.run_pure, Result.andThen_ok, List.map_toArray, List.map_cons, List.map_nil, hs, hx, run_append_nil ht hi hown c]
    obtain ⟨A', c', rfl, _⟩ := own_lt' hown
    exact hK _ _ (h A' c' W (by simpa using hown) (World.grownBy.refl W _))
  · refine wpList_append_own _ hgd s x t ho base e i0 z size bytes ht hi hz0 hz1 hz2 hzs hsz v n xs hs hown ad m c cs hx hcs ?_ h1 h63 hby hbase
      fun v' w' h2 h3 _ => by obtain ⟨A', c', rfl, _⟩ := own_lt' h2; exact h A' c' w' h2 h3
    intro j u hj
    have hlt : j < cs.length := (List.getElem?_eq_some_iff.1 hj).1
    obtain ⟨b, ofs, c0, f, he, hb, hcc⟩ := hR (by omega)
    cases he
    rw [add_plain', blk_cell hb, hcc j hlt]
    exact hj

/-- An owned row reads. -/
theorem own_reads {w : World} {base : Nat} {e : TypeId} {size n c : Nat} {A : Option Addr} {xs : List Value} (h : w.ownsRow base e size (.slice A n c) n xs) : Reads w e A xs := by
  intro hp
  rcases h.2 with ⟨h1, h2⟩ | ⟨g, cap, cur, h1, hb, hh, hnc, hcap, hsz, htk⟩
  · have := h.1; subst h2; simp at this; subst this; simp at hp
  · cases h1
    refine ⟨g, 0, cur, _, rfl, hh, fun j hj => ?_⟩
    rw [← htk, List.getElem?_take, if_pos (by have := h.1; omega)]
    simp

theorem own_none {w : World} {base : Nat} {e : TypeId} {size n c : Nat} {xs : List Value} (h : w.ownsRow base e size (.slice none n c) n xs) : n = 0 := by
  rcases h.2 with ⟨h1, h2⟩ | ⟨g, cap, cur, h1, _⟩
  · exact h2
  · cases h1

/-- string(b), b a row of bytes of the call's own. -/
theorem own_str {P : Program} {w : World} {base n : Nat} {e' src dst e : TypeId} {v : Value} {xs : List Int} (hs : P.underlying src = some (.slice e)) (he : P.underlying e = some (.int .u8)) (hd : P.underlying dst = some .string)
    (h : w.ownsRow base e' 1 v n (ints .u8 xs)) : (convert src dst v).run P w = .ok (.string (strOfNums xs)) w := by
  have hl : xs.length = n := by have := h.1; simp [ints] at this; exact this
  rcases h.2 with ⟨rfl, rfl⟩ | ⟨g, cap, cur, rfl, _⟩
  · obtain rfl : xs = [] := List.eq_nil_of_length_eq_zero hl
    exact run_convert_bytes_nil w src e hs he 0 0 dst hd
  · refine run_convert_bytes_arg w src e hs he g 0 n cap xs hl (fun i hi => ?_) dst hd
    obtain ⟨b, o, hA, hc⟩ := (own_reads h).cell (j := i) (by simp [ints]; omega)
    cases hA
    rw [hc]; simp [ints, List.getD_eq_getElem?_getD, List.getElem?_eq_getElem (show i < xs.length by omega)]

/-- Reading a slice literal that was just laid. -/
theorem Reads.lit (w : World) (T : Nat) (vs : List Value) : Reads (w.alloc (.cells vs.toArray T)) T (some ⟨w.heap.size, 0, none⟩) vs := fun _ =>
  ⟨_, 0, vs.toArray, (0, 0), rfl, heap_alloc_new w _, fun j _ => by simp⟩
theorem Reads.litAt {w : World} {n : Nat} (T : Nat) (vs : List Value) (h : n = w.heap.size) : Reads (w.alloc (.cells vs.toArray T)) T (some ⟨n, 0, none⟩) vs := h ▸ Reads.lit w T vs
/-- A block just laid. -/
theorem blk_new {w : World} {n : Nat} (o : Obj) (h : n = w.heap.size) : (w.alloc o).heap[n]? = some o := h ▸ heap_alloc_new w o
def bytesOf' (s : ByteArray) : List Int := s.data.toList.map fun b => (b.toNat : Int)
theorem strCells_ints (s : ByteArray) : Lib.strCells s = ints .u8 (bytesOf' s) := by simp [Lib.strCells, ints, bytesOf', Function.comp_def]
theorem bytesOf'_length (s : ByteArray) : (bytesOf' s).length = s.size := by rw [bytesOf', List.length_map, Array.length_toList]; rfl
theorem ints_append (k : IntKind) (xs ys : List Int) : ints k (xs ++ ys) = ints k xs ++ ints k ys := by simp [ints]
theorem ints_length (k : IntKind) (xs : List Int) : (ints k xs).length = xs.length := by simp [ints]
theorem own_nil' (W : World) (base : Nat) (e : TypeId) (size : Nat) : W.ownsRow base e size (.slice none 0 0) 0 [] := ⟨by simp, .inl ⟨rfl, rfl⟩⟩
theorem own_below' {w w1 : World} {base : Nat} {e : TypeId} {size n : Nat} {v : Value} {xs : List Value} (h : w.ownsRow base e size v n xs) (hb : Below w.heap.size w w1) : w1.ownsRow base e size v n xs := by
  refine ⟨h.1, ?_⟩
  rcases h.2 with h' | ⟨g, cap, cur, rfl, hb', hh, h'⟩
  · exact .inl h'
  · exact .inr ⟨g, cap, cur, rfl, hb', blk_belowS hb hh, h'⟩
theorem own_less' {w : World} {b base n : Nat} {e : TypeId} {size : Nat} {v : Value} {xs : List Value} (h : w.ownsRow b e size v n xs) (hle : base ≤ b) : w.ownsRow base e size v n xs := by
  refine ⟨h.1, ?_⟩
  rcases h.2 with h' | ⟨g, cap, cur, rfl, hb', h'⟩
  · exact .inl h'
  · exact .inr ⟨g, cap, cur, rfl, Nat.le_trans hle hb', h'⟩

theorem cell_below {w w1 : World} (h : Below w.heap.size w w1) {a : Addr} {v : Value} (hc : w.cell? a = some v) : w1.cell? a = some v := (h.cell (World.block_lt_of_cell? w a hc)).trans hc

section
variable {P : Program} {ops : Array Oper} {o : Oper} {a : Act} {K : Act → World → Prop} {Q : Exit → Act → World → Prop} {E : Prop} {W : World}
theorem step_of_list (hgd : o.guard = none) (h : ∀ K' : Act → World → Prop, (∀ a w, K a w → K' a w) → o.wp P a W K' Q) : if Region.wanted o (yielded ops a.tmps) = true then o.wp P a W K Q else E := by
  have hw : Region.wanted o (yielded ops a.tmps) = true := by simp [Region.wanted, hgd]
  rw [if_pos hw]
  exact h K fun _ _ h => h

/-- A text's bytes appended, in a region that draws. -/
theorem stepS {s x : Operand} {t u : TypeId} {base : Nat} {e : TypeId} {v : Value} {n : Nat} {xs : List Value} (hown : W.ownsRow base e 1 v n xs)
    (ht : P.underlying t = some (.slice e)) (hu : P.underlying u = some .string) (hinfo : (P.info? e).map (fun i => (i.zero, i.size, i.bytes)) = some (some (.int .u8 0), 1, 1))
    (str : ByteArray) (h63 : n + str.size ≤ maxLen) (hby : n + str.size ≤ 140737488355328) (hbase : base ≤ W.heap.size)
    (hgd : o.guard = none) (ho : o.op = .call { callee := .builtin .append, args := #[s, x], argTypes := #[t, u] }) (hs : a.eval s = v) (hx : a.eval x = .string str)
    (h : ∀ A' c' w', w'.ownsRow base e 1 (.slice A' (n + str.size) c') (n + str.size) (xs ++ Lib.strCells str) → W.grownBy w' v.ownBlock → K (a.put o.dst (.slice A' (n + str.size) c')) w') :
    if Region.wanted o (yielded ops a.tmps) = true then o.wp P a W K Q else E := by
  obtain ⟨i0, hi, hz0, hz1, hz2⟩ := info_parts hinfo
  refine step_of_list hgd fun K' hK' => ?_
  obtain ⟨v', w', hr, h2, h3, h4⟩ := Lib.run_append_own_string (P := P) W base t u o.type e i0 ht hu hi hz0 hz1 hz2 v n xs hown str h63 hby hbase
  unfold Oper.wp execOp
  simp only [ho, resolve, invoke, builtin, Sem.run_bind, Sem.run_pure, Result.andThen_ok, List.map_toArray, List.map_cons, List.map_nil, hs, hx, hr]
  obtain ⟨A', c', rfl, _⟩ := own_lt' h2
  exact hK' _ _ (h A' c' w' h2 h3)

/-- A whole slice appended, in a region that draws. -/
theorem stepR {s x : Operand} {t : TypeId} {base : Nat} {e : TypeId} {z : Value} {size bytes : Nat} {v : Value} {n : Nat} {xs : List Value} (hown : W.ownsRow base e size v n xs)
    (ht : P.underlying t = some (.slice e)) (hinfo : (P.info? e).map (fun i => (i.zero, i.size, i.bytes)) = some (some z, size, bytes)) (hzs : z.cells.size = size) (hsz : 0 < size)
    {T : Nat} {A : Option Addr} {m c : Nat} {cs : List Value} (hR : Reads W T A cs) (hcs : cs.length = m * size) (hn0 : A = none → m = 0)
    (h63 : n + m ≤ maxLen) (hby : (n + m) * bytes ≤ 140737488355328) (hbase : base ≤ W.heap.size)
    (hgd : o.guard = none) (ho : o.op = .call { callee := .builtin .append, args := #[s, x], argTypes := #[t, t] }) (hs : a.eval s = v) (hx : a.eval x = .slice A m c)
    (h1 : ∀ u ∈ cs, u.oneCell' = true)
    (h : ∀ A' c' w', w'.ownsRow base e size (.slice A' (n + m) c') (n + m) (xs ++ cs) → W.grownBy w' v.ownBlock → K (a.put o.dst (.slice A' (n + m) c')) w') :
    if Region.wanted o (yielded ops a.tmps) = true then o.wp P a W K Q else E := by
  obtain ⟨i0, hi, hz0, hz1, hz2⟩ := info_parts hinfo
  refine step_of_list hgd fun K' hK' => ?_
  rcases A with _ | ad
  · obtain rfl := hn0 rfl
    obtain rfl : cs = [] := List.eq_nil_of_length_eq_zero (by simpa using hcs)
    unfold Oper.wp execOp
    simp only [ho, resolve, invoke, builtin, Sem.run_bind, Sem.run_pure, Result.andThen_ok, List.map_toArray, List.map_cons, List.map_nil, hs, hx, run_append_nil ht hi hown c]
    obtain ⟨A', c', rfl, _⟩ := own_lt' hown
    exact hK' _ _ (h A' c' W (by simpa using hown) (World.grownBy.refl W _))
  · refine wp_append_own W s x t ho base e i0 z size bytes ht hi hz0 hz1 hz2 hzs hsz v n xs hs hown ad m c cs hx hcs ?_ h1 h63 hby hbase
      fun v' w' h2 h3 _ => by obtain ⟨A', c', rfl, _⟩ := own_lt' h2; exact hK' _ _ (h A' c' w' h2 h3)
    intro j u hj
    have hlt : j < cs.length := (List.getElem?_eq_some_iff.1 hj).1
    obtain ⟨b, ofs, c0, f, he, hb, hcc⟩ := hR (by omega)
    cases he
    rw [add_plain', blk_cell hb, hcc j hlt]
    exact hj
end
theorem ints_one (k : IntKind) (xs : List Int) : ∀ u ∈ ints k xs, u.oneCell' = true := by
  intro u hu
  simp only [ints, List.mem_map] at hu
  obtain ⟨x, _, rfl⟩ := hu
  rfl
/-- What grew leaves another row alone. -/
theorem own_grown {w w1 : World} {base : Nat} {e : TypeId} {size n : Nat} {v : Value} {xs : List Value} {row : Option Nat} (h : w.ownsRow base e size v n xs) (hg : w.grownBy w1 row) (hne : ∀ k, v.ownBlock = some k → some k ≠ row) : w1.ownsRow base e size v n xs := by
  refine ⟨h.1, ?_⟩
  rcases h.2 with h' | ⟨g, cap, cur, rfl, hb', hh, h'⟩
  · exact .inl h'
  · exact .inr ⟨g, cap, cur, rfl, hb', blk_grown hg hh (hne g rfl), h'⟩
/-- Two rows, one older than the other's base, are apart. -/
theorem own_lt {w : World} {base : Nat} {e : TypeId} {size n : Nat} {v : Value} {xs : List Value} (h : w.ownsRow base e size v n xs) (k : Nat) (hk : v.ownBlock = some k) : k < w.heap.size := by
  obtain ⟨_, c, hc⟩ := own_type h k hk
  exact blk_lt hc

section
variable {P : Program} {ops : Array Oper} {o : Oper} {a : Act} {K : Act → World → Prop} {Q : Exit → Act → World → Prop} {E : Prop} {W : World}
/-- 'append' of a whole slice, as a run; where the new row lies is told. -/
theorem run_appR {t ty : TypeId} {base : Nat} {e : TypeId} {z : Value} {size bytes : Nat} {v : Value} {n : Nat} {xs : List Value} (hown : W.ownsRow base e size v n xs)
    (ht : P.underlying t = some (.slice e)) (hinfo : (P.info? e).map (fun i => (i.zero, i.size, i.bytes)) = some (some z, size, bytes)) (hzs : z.cells.size = size) (hsz : 0 < size)
    {T : Nat} {A : Option Addr} {m c : Nat} {cs : List Value} (hR : Reads W T A cs) (hcs : cs.length = m * size) (hn0 : A = none → m = 0)
    (h63 : n + m ≤ maxLen) (hby : (n + m) * bytes ≤ 140737488355328) (hbase : base ≤ W.heap.size) (h1 : ∀ u ∈ cs, u.oneCell' = true) :
    ∃ A' c' w', (Builtin.append_ #[t, t] ty #[v, .slice A m c]).run P W = .ok (.slice A' (n + m) c') w' ∧ w'.ownsRow base e size (.slice A' (n + m) c') (n + m) (xs ++ cs) ∧ W.grownBy w' v.ownBlock ∧
      ∀ k, (Value.slice A' (n + m) c').ownBlock = some k → some k = v.ownBlock ∨ W.heap.size ≤ k := by
  obtain ⟨i0, hi, hz0, hz1, hz2⟩ := info_parts hinfo
  rcases A with _ | ad
  · obtain rfl := hn0 rfl
    obtain rfl : cs = [] := List.eq_nil_of_length_eq_zero (by simpa using hcs)
    obtain ⟨A', c', rfl, _⟩ := own_lt' hown
    exact ⟨A', c', W, run_append_nil ht hi hown c, by simpa using hown, World.grownBy.refl W _, fun k hk => .inl hk.symm⟩
  · have hnews : ∀ j u, cs[j]? = some u → W.cell? (ad.add j) = some u := by
      intro j u hj
      have hlt : j < cs.length := (List.getElem?_eq_some_iff.1 hj).1
      obtain ⟨b, ofs, c0, f, he, hb, hcc⟩ := hR (by omega)
      cases he
      rw [add_plain', blk_cell hb, hcc j hlt]
      exact hj
    obtain ⟨v', w', hr, h2, h3, _, h5⟩ := run_append_own_at (P := P) W base t ty e i0 z size bytes ht hi hz0 hz1 hz2 hzs hsz v n xs hown ad m c cs hcs hnews h1 h63 hby hbase
    obtain ⟨A', c', rfl, _⟩ := own_lt' h2
    refine ⟨A', c', w', hr, h2, h3, fun k hk => ?_⟩
    rcases h5 with h5 | h5
    · exact .inl (hk ▸ h5)
    · rw [h5] at hk; cases hk; exact .inr (Nat.le_refl _)

theorem stepRat {s x : Operand} {t : TypeId} {base : Nat} {e : TypeId} {z : Value} {size bytes : Nat} {v : Value} {n : Nat} {xs : List Value} (hown : W.ownsRow base e size v n xs)
    (ht : P.underlying t = some (.slice e)) (hinfo : (P.info? e).map (fun i => (i.zero, i.size, i.bytes)) = some (some z, size, bytes)) (hzs : z.cells.size = size) (hsz : 0 < size)
    {T : Nat} {A : Option Addr} {m c : Nat} {cs : List Value} (hR : Reads W T A cs) (hcs : cs.length = m * size) (hn0 : A = none → m = 0)
    (h63 : n + m ≤ maxLen) (hby : (n + m) * bytes ≤ 140737488355328) (hbase : base ≤ W.heap.size)
    (hgd : o.guard = none) (ho : o.op = .call { callee := .builtin .append, args := #[s, x], argTypes := #[t, t] }) (hs : a.eval s = v) (hx : a.eval x = .slice A m c)
    (h1 : ∀ u ∈ cs, u.oneCell' = true)
    (h : ∀ A' c' w', w'.ownsRow base e size (.slice A' (n + m) c') (n + m) (xs ++ cs) → W.grownBy w' v.ownBlock → (∀ k, (Value.slice A' (n + m) c').ownBlock = some k → some k = v.ownBlock ∨ W.heap.size ≤ k) → K (a.put o.dst (.slice A' (n + m) c')) w') :
    if Region.wanted o (yielded ops a.tmps) = true then o.wp P a W K Q else E := by
  refine step_of_list hgd fun K' hK' => ?_
  obtain ⟨A', c', w', hr, h2, h3, h4⟩ := run_appR (P := P) (ty := o.type) hown ht hinfo hzs hsz hR hcs hn0 h63 hby hbase h1 (t := t) (c := c)
  unfold Oper.wp execOp
  simp only [ho, resolve, invoke, builtin, Sem.run_bind, Sem.run_pure, Result.andThen_ok, List.map_toArray, List.map_cons, List.map_nil, hs, hx, hr]
  exact hK' _ _ (h A' c' w' h2 h3 h4)
end
/-- A row that was laid later is apart. -/
theorem own_apart {w w1 : World} {b1 : Nat} {e e' : TypeId} {s s' n n' b2 : Nat} {v v' : Value} {xs ys : List Value} (h : w.ownsRow b1 e s v n xs) (h' : w1.ownsRow b2 e' s' v' n' ys) (hle : w.heap.size ≤ b2) : ∀ k, v'.ownBlock = some k → some k ≠ v.ownBlock := by
  intro k hk he
  have h1 := (own_type h' k hk).1
  have h2 := own_lt h k he.symm
  omega

theorem apart_step {W : World} {b e s n : Nat} {vy v v1 : Value} {ys : List Value} (hoy : W.ownsRow b e s vy n ys) (hat : ∀ k, v1.ownBlock = some k → some k = v.ownBlock ∨ W.heap.size ≤ k)
    (ny : ∀ k, vy.ownBlock = some k → some k ≠ v.ownBlock) : ∀ k, vy.ownBlock = some k → some k ≠ v1.ownBlock := by
  intro k hk he
  rcases hat k he.symm with h | h
  · exact ny k hk h
  · have := own_lt hoy k hk; omega
end Go.Proofs.YtkgebnbdgiengaaDoor
