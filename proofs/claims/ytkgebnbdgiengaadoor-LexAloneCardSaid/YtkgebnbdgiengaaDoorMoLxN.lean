/- Limbs as plain lists. -/
import Derived.Test.YtkgebnbdgiengaaDoorMoLxP
namespace Go.Proofs.YtkgebnbdgiengaaDoor.Lx

def valI : List Int → Int
  | [] => 0
  | x :: xs => x + 4294967296 * valI xs
def trimL : List Int → List Int
  | [] => []
  | x :: xs => match trimL xs with
    | [] => if x = 0 then [] else [x]
    | y :: ys => x :: y :: ys
def mulAdd (c : Int) : List Int → List Int
  | [] => [c % 4294967296]
  | x :: xs => (10 * x + c) % 4294967296 :: mulAdd ((10 * x + c) / 4294967296) xs
def Limbs (xs : List Int) : Prop := ∀ x ∈ xs, 0 ≤ x ∧ x < 4294967296

theorem Limbs.tail {x : Int} {xs : List Int} (h : Limbs (x :: xs)) : Limbs xs := fun y hy => h y (List.mem_cons_of_mem _ hy)
theorem Limbs.head {x : Int} {xs : List Int} (h : Limbs (x :: xs)) : 0 ≤ x ∧ x < 4294967296 := h x (by simp)
theorem valI_nonneg : ∀ {xs : List Int}, Limbs xs → 0 ≤ valI xs
  | [], _ => by simp [valI]
  | x :: xs, h => by have := valI_nonneg h.tail; have := h.head; simp only [valI]; omega
theorem mulAdd_length (xs : List Int) : ∀ c, (mulAdd c xs).length = xs.length + 1 := by
  induction xs with
  | nil => intro c; rfl
  | cons x xs ih => intro c; simp [mulAdd, ih]
theorem mulAdd_limbs (xs : List Int) : ∀ c, Limbs (mulAdd c xs) := by
  induction xs with
  | nil => intro c x hx; simp [mulAdd] at hx; subst hx; omega
  | cons x xs ih =>
    intro c y hy
    simp only [mulAdd, List.mem_cons] at hy
    rcases hy with rfl | hy
    · omega
    · exact ih _ y hy
theorem mulAdd_val (xs : List Int) : ∀ c, Limbs xs → 0 ≤ c → c ≤ 10 → valI (mulAdd c xs) = 10 * valI xs + c := by
  induction xs with
  | nil => intro c _ h0 h1; simp only [mulAdd, valI]; omega
  | cons x xs ih =>
    intro c h h0 h1
    have hx := h.head
    simp only [mulAdd, valI]
    rw [ih _ h.tail (by omega) (by omega)]
    omega
theorem trimL_nil {xs : List Int} (h : Limbs xs) : trimL xs = [] ↔ valI xs = 0 := by
  induction xs with
  | nil => simp [trimL, valI]
  | cons x xs ih =>
    have hx := h.head
    have hv := valI_nonneg h.tail
    have ih' := ih h.tail
    simp only [trimL, valI]
    cases ht : trimL xs with
    | nil =>
      have h0 := ih'.1 ht
      simp only
      by_cases hx0 : x = 0
      · rw [if_pos hx0]; simp; omega
      · rw [if_neg hx0]; simp; omega
    | cons y ys =>
      have h0 : valI xs ≠ 0 := fun e => by rw [ih'.2 e] at ht; cases ht
      simp only
      constructor
      · intro e; cases e
      · intro e; omega

theorem limbs_more : ∀ (n f g : Nat), n ≤ f → n ≤ g → limbs f n = limbs g n := by
  intro n
  induction n using Nat.strongRecOn with
  | _ n ih =>
    intro f g hf hg
    by_cases h0 : n = 0
    · subst h0
      cases f <;> cases g <;> simp [limbs]
    · obtain ⟨f, rfl⟩ : ∃ k, f = k + 1 := ⟨f - 1, by omega⟩
      obtain ⟨g, rfl⟩ : ∃ k, g = k + 1 := ⟨g - 1, by omega⟩
      simp only [limbs, if_neg h0]
      rw [ih (n / 4294967296) (by omega) f g (by omega) (by omega)]
theorem limbsOf_cons {n : Nat} (h : n ≠ 0) : limbsOf n = ((n % 4294967296 : Nat) : Int) :: limbsOf (n / 4294967296) := by
  unfold limbsOf
  obtain ⟨k, hk⟩ : ∃ k, n = k + 1 := ⟨n - 1, by omega⟩
  rw [show limbs n n = limbs (k + 1) n by rw [← hk]]
  simp only [limbs, if_neg h]
  rw [limbs_more (n / 4294967296) k (n / 4294967296) (by omega) (Nat.le_refl _)]
theorem limbsOf_zero : limbsOf 0 = [] := rfl
theorem trimL_eq {xs : List Int} (h : Limbs xs) : trimL xs = limbsOf (valI xs).toNat := by
  induction xs with
  | nil => rfl
  | cons x xs ih =>
    have hx := h.head
    have hv := valI_nonneg h.tail
    have ih' := ih h.tail
    by_cases h0 : valI xs = 0
    · simp only [trimL, (trimL_nil h.tail).2 h0, valI, h0]
      by_cases hx0 : x = 0
      · subst hx0; rfl
      · rw [if_neg hx0, limbsOf_cons (by omega)]
        have e1 : ((x + 4294967296 * 0).toNat % 4294967296 : Nat) = x.toNat := by omega
        have e2 : (x + 4294967296 * 0).toNat / 4294967296 = 0 := by omega
        rw [e1, e2, limbsOf_zero]
        congr 1; omega
    · have hne : trimL xs ≠ [] := fun e => h0 ((trimL_nil h.tail).1 e)
      have e0 : trimL (x :: xs) = x :: trimL xs := by
        rw [trimL]
        cases ht : trimL xs with
        | nil => exact absurd ht hne
        | cons y ys => rfl
      rw [e0, ih']
      simp only [valI]
      rw [limbsOf_cons (n := (x + 4294967296 * valI xs).toNat) (by omega)]
      congr 1
      · omega
      · congr 1; omega
theorem trimL_take {xs : List Int} : ∀ {n : Nat}, n ≤ xs.length → (∀ j, n ≤ j → (h : j < xs.length) → xs[j] = 0) → (∀ h : n - 1 < xs.length, n ≠ 0 → xs[n - 1] ≠ 0) → trimL xs = xs.take n := by
  induction xs with
  | nil => intro n _ _ _; simp [trimL]
  | cons x xs ih =>
    intro n hn h1 h2
    cases n with
    | zero =>
      have e : trimL xs = xs.take 0 := ih (Nat.zero_le _) (fun j _ hj => by have := h1 (j + 1) (by omega) (by simp; omega); simpa using this) (fun _ h => absurd rfl h)
      have hx : x = 0 := h1 0 (Nat.le_refl _) (by simp)
      rw [trimL, e]
      simp [hx]
    | succ n =>
      have e : trimL xs = xs.take n := ih (by simpa using hn) (fun j hj hj' => by have := h1 (j + 1) (by omega) (by simp; omega); simpa using this)
        (fun h h0 => by
          have := h2 (by simp at hn ⊢; omega) (by omega)
          obtain ⟨m, rfl⟩ : ∃ m, n = m + 1 := ⟨n - 1, by omega⟩
          simpa using this)
      rw [trimL, e]
      cases n with
      | zero =>
        have hx : x ≠ 0 := by have := h2 (by simp) (by omega); simpa using this
        simp [hx]
      | succ m =>
        have hl : m + 1 ≤ xs.length := by simpa using hn
        cases xs with
        | nil => simp at hl
        | cons y ys => simp
theorem trimL_length_le (xs : List Int) : (trimL xs).length ≤ xs.length := by
  induction xs with
  | nil => simp [trimL]
  | cons x xs ih =>
    rw [trimL]
    cases ht : trimL xs with
    | nil => simp only; split <;> simp
    | cons y ys => rw [ht] at ih; simp at ih ⊢; omega
theorem trimL_pre (xs : List Int) : trimL xs = xs.take (trimL xs).length := by
  induction xs with
  | nil => rfl
  | cons x xs ih =>
    rw [trimL]
    cases ht : trimL xs with
    | nil => simp only; split <;> simp
    | cons y ys => rw [ht] at ih; simp only [List.length_cons, List.take_succ_cons] at ih ⊢; rw [← ih]
theorem trimL_limbs {xs : List Int} (h : Limbs xs) : Limbs (trimL xs) := by
  induction xs with
  | nil => exact h
  | cons x xs ih =>
    have ih' := ih h.tail
    rw [trimL]
    cases ht : trimL xs with
    | nil =>
      simp only
      split
      · intro y hy; cases hy
      · intro y hy; simp at hy; subst hy; exact h.head
    | cons y ys =>
      rw [ht] at ih'
      intro z hz
      simp only [List.mem_cons] at hz
      rcases hz with rfl | hz
      · exact h.head
      · exact ih' z (by simpa using hz)
theorem trimL_val (xs : List Int) : valI (trimL xs) = valI xs := by
  induction xs with
  | nil => rfl
  | cons x xs ih =>
    rw [trimL]
    cases ht : trimL xs with
    | nil =>
      rw [ht] at ih
      simp only [valI] at ih ⊢
      by_cases hx : x = 0
      · rw [if_pos hx]; simp only [valI]; omega
      · rw [if_neg hx]; simp only [valI]; omega
    | cons y ys =>
      rw [ht] at ih
      simp only [valI] at ih ⊢
      omega
theorem limbsOf_limbs : ∀ (n : Nat), Limbs (limbsOf n) := by
  intro n
  induction n using Nat.strongRecOn with
  | _ n ih =>
    by_cases h : n = 0
    · subst h; intro x hx; cases hx
    · rw [limbsOf_cons h]
      intro x hx
      simp only [List.mem_cons] at hx
      rcases hx with rfl | hx
      · omega
      · exact ih _ (by omega) x hx
theorem limbsOf_val : ∀ (n : Nat), valI (limbsOf n) = n := by
  intro n
  induction n using Nat.strongRecOn with
  | _ n ih =>
    by_cases h : n = 0
    · subst h; rfl
    · rw [limbsOf_cons h]
      simp only [valI]
      rw [ih _ (by omega)]
      omega
/-- One digit more. -/
theorem limbsOf_step (v c : Nat) (hc : c ≤ 9) : trimL (mulAdd c (limbsOf v)) = limbsOf (10 * v + c) := by
  rw [trimL_eq (mulAdd_limbs _ _), mulAdd_val _ _ (limbsOf_limbs v) (by omega) (by omega), limbsOf_val]
  congr 1
theorem limbsOf_trim (v : Nat) : trimL (limbsOf v) = limbsOf v := by
  rw [trimL_eq (limbsOf_limbs v), limbsOf_val]; rfl
theorem limbsOf_mono : ∀ {a b : Nat}, a ≤ b → (limbsOf a).length ≤ (limbsOf b).length := by
  intro a
  induction a using Nat.strongRecOn with
  | _ a ih =>
    intro b hab
    by_cases h : a = 0
    · subst h; simp [limbsOf_zero]
    · rw [limbsOf_cons h, limbsOf_cons (n := b) (by omega)]
      have := ih (a / 4294967296) (by omega) (b := b / 4294967296) (Nat.div_le_div_right hab)
      simp; omega
theorem limbsOf_nil {v : Nat} : (limbsOf v).length = 0 ↔ v = 0 := by
  constructor
  · intro h
    by_cases h0 : v = 0
    · exact h0
    · rw [limbsOf_cons h0] at h; simp at h
  · rintro rfl; rfl
end Go.Proofs.YtkgebnbdgiengaaDoor.Lx
