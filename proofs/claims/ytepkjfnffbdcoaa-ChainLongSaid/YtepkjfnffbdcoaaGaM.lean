/- Elimination: row operations keep the solutions; a triangle without zeros on its diagonal is solved from below. -/
import Derived.Test.YtepkjfnffbdcoaaChM
set_option linter.unusedVariables false
set_option maxRecDepth 20000
set_option linter.unusedSimpArgs false
namespace Go.Proofs.Ytepkjfnffbdcoaa
open Go Go.Proofs.Ytepkjfnffbdcoaa.Lift
attribute [local irreducible] Lift.PCall Lift.HCall

abbrev Mx := Nat → Nat → Rat
/-- y and s solve the rows: the first n columns times y, plus column q times s, is 0. -/
def Ker (n : Nat) (A : Mx) (q : Nat) (y : Nat → Rat) (s : Rat) : Prop := ∀ i, i < n → (sumN n fun k => A i k * y k) + A i q * s = 0
def RowEq (n : Nat) (A B : Mx) : Prop := ∀ q y s, Ker n A q y s ↔ Ker n B q y s
theorem RowEq.refl (n : Nat) (A : Mx) : RowEq n A A := fun _ _ _ => Iff.rfl
theorem RowEq.trans {n : Nat} {A B C : Mx} (h1 : RowEq n A B) (h2 : RowEq n B C) : RowEq n A C := fun q y s => (h1 q y s).trans (h2 q y s)
theorem RowEq.of_rows {n : Nat} {A B : Mx} (h : ∀ i, i < n → A i = B i) : RowEq n A B := by
  intro q y s
  unfold Ker
  exact ⟨fun hk i hi => by rw [← h i hi]; exact hk i hi, fun hk i hi => by rw [h i hi]; exact hk i hi⟩
def swapM (A : Mx) (p r : Nat) : Mx := fun i => if i = p then A r else if i = r then A p else A i
theorem RowEq.swap {n : Nat} (A : Mx) {p r : Nat} (hp : p < n) (hr : r < n) : RowEq n A (swapM A p r) := by
  intro q y s
  constructor
  · intro h i hi
    unfold swapM
    by_cases e1 : i = p
    · subst e1
      simp only [if_pos rfl]
      exact h r hr
    · by_cases e2 : i = r
      · subst e2
        simp only [if_neg e1, if_pos rfl]
        exact h p hp
      · simp only [if_neg e1, if_neg e2]
        exact h i hi
  · intro h i hi
    by_cases e1 : i = p
    · subst e1
      have := h r hr
      unfold swapM at this
      by_cases e2 : r = i
      · subst e2
        simpa using this
      · simpa [e2] using this
    · by_cases e2 : i = r
      · subst e2
        have := h p hp
        unfold swapM at this
        simpa using this
      · have := h i hi
        unfold swapM at this
        simpa [e1, e2] using this
/-- Row 'to' less f times row 'fm'. -/
def clearM (A : Mx) (fm to : Nat) (f : Rat) : Mx := fun i j => if i = to then A to j - f * A fm j else A i j
theorem RowEq.clear {n : Nat} (A : Mx) {fm to : Nat} (f : Rat) (hf : fm < n) (ht : to < n) (hne : fm ≠ to) : RowEq n A (clearM A fm to f) := by
  have key : ∀ q (y : Nat → Rat) (s : Rat), (sumN n fun k => clearM A fm to f to k * y k) + clearM A fm to f to q * s = ((sumN n fun k => A to k * y k) + A to q * s) - f * ((sumN n fun k => A fm k * y k) + A fm q * s) := by
    intro q y s
    have e : (sumN n fun k => clearM A fm to f to k * y k) = (sumN n fun k => A to k * y k) - f * sumN n fun k => A fm k * y k := by
      rw [← sumN_mul, ← sumN_sub]
      refine sumN_congr fun k _ => ?_
      unfold clearM
      rw [if_pos rfl]
      grind
    rw [e]
    unfold clearM
    rw [if_pos rfl]
    grind
  have other : ∀ i, i ≠ to → clearM A fm to f i = A i := by
    intro i h
    funext j
    unfold clearM
    rw [if_neg h]
  intro q y s
  constructor
  · intro h i hi
    by_cases e : i = to
    · subst e
      rw [key, h i hi, h fm hf]
      grind
    · rw [other i e]
      exact h i hi
  · intro h i hi
    have hfm := h fm hf
    rw [other fm hne] at hfm
    by_cases e : i = to
    · subst e
      have := h i hi
      rw [key, hfm] at this
      grind
    · have := h i hi
      rwa [other i e] at this

/-- The first r columns are a triangle with nothing 0 on its diagonal. -/
def Tri (n : Nat) (A : Mx) (r : Nat) : Prop := ∀ j, j < r → A j j ≠ 0 ∧ ∀ i, j < i → i < n → A i j = 0
def updF (y : Nat → Rat) (k : Nat) (x : Rat) : Nat → Rat := fun i => if i = k then x else y i
theorem sumN_upd {n k : Nat} (f : Nat → Rat) (y : Nat → Rat) (x : Rat) (hk : k < n) : (sumN n fun i => f i * updF y k x i) = (sumN n fun i => f i * y i) + f k * (x - y k) := by
  have e : (sumN n fun i => f i * updF y k x i) - (sumN n fun i => f i * y i) = f k * (x - y k) := by
    rw [← sumN_sub]
    have h1 := sumN_single (f := fun i => f i * updF y k x i - f i * y i) hk (by
      intro i _ hne
      show f i * updF y k x i - f i * y i = 0
      unfold updF
      rw [if_neg hne]
      grind)
    rw [h1]
    show f k * updF y k x k - f k * y k = _
    unfold updF
    rw [if_pos rfl]
    grind
  grind

/-- A column in which no pivot is left: something is mapped to 0. -/
theorem Tri.stuck {n r : Nat} {A : Mx} (hr : r < n) (ht : Tri n A r) (h0 : ∀ i, r ≤ i → i < n → A i r = 0) : ∃ y : Nat → Rat, (∀ q, Ker n A q y 0) ∧ y r = 1 := by
  have key : ∀ t, t ≤ r → ∃ y : Nat → Rat, y r = 1 ∧ (∀ k, r < k → y k = 0) ∧ (∀ k, k < r - t → y k = 0) ∧ ∀ i, r - t ≤ i → i < n → (sumN n fun k => A i k * y k) = 0 := by
    intro t
    induction t with
    | zero =>
      intro _
      refine ⟨fun k => if k = r then 1 else 0, if_pos rfl, fun k hk => if_neg (by omega), fun k hk => if_neg (by omega), fun i hi hin => ?_⟩
      have h1 := sumN_single (f := fun k => A i k * (if k = r then 1 else 0)) hr (by
        intro k _ hne
        show A i k * (if k = r then 1 else 0) = 0
        rw [if_neg hne, Rat.mul_zero])
      rw [h1]
      show A i r * (if r = r then 1 else 0) = 0
      rw [h0 i (by omega) hin, Rat.zero_mul]
    | succ t ih =>
      intro htr
      obtain ⟨y, y1, y2, y3, y4⟩ := ih (by omega)
      have hj := ht (r - (t + 1)) (by omega)
      generalize hjj : r - (t + 1) = j at *
      have hjr : j < r := by omega
      let S := sumN n fun k => A j k * y k
      refine ⟨updF y j (y j - S / A j j), ?_, ?_, ?_, ?_⟩
      · unfold updF; rw [if_neg (by omega)]; exact y1
      · intro k hk; unfold updF; rw [if_neg (by omega)]; exact y2 k hk
      · intro k hk; unfold updF; rw [if_neg (by omega)]; exact y3 k (by omega)
      · intro i hi hin
        rw [sumN_upd _ _ _ (by omega)]
        by_cases e : i = j
        · subst e
          show S + A i i * (y i - S / A i i - y i) = 0
          have h1 : A i i * (S / A i i) = S := by
            rw [Rat.mul_comm]
            exact Rat.div_mul_cancel hj.1
          grind
        · rw [y4 i (by omega) hin, hj.2 i (by omega) hin]
          grind
  obtain ⟨y, y1, _, _, y4⟩ := key r (Nat.le_refl _)
  refine ⟨y, fun q i hi => ?_, y1⟩
  rw [y4 i (by omega) hi]
  grind
/-- Nothing but 0 is mapped to 0. -/
def NonSing (n : Nat) (A : Mx) : Prop := ∀ y : Nat → Rat, (∀ i, i < n → (sumN n fun k => A i k * y k) = 0) → ∀ k, k < n → y k = 0
theorem NonSing.pivot {n r : Nat} {A B : Mx} (hA : NonSing n A) (he : RowEq n A B) (hr : r < n) (ht : Tri n B r) : ∃ i, r ≤ i ∧ i < n ∧ B i r ≠ 0 := by
  apply Classical.byContradiction
  intro hne
  obtain ⟨y, h1, h2⟩ := ht.stuck hr fun i hi hin => Classical.byContradiction fun h => hne ⟨i, hi, hin, h⟩
  have h3 := (he 0 y 0).2 (h1 0)
  have h4 := hA y (fun i hi => by have := h3 i hi; grind) r hr
  rw [h4] at h2
  exact absurd h2 (by decide)
/-- A diagonal is solved. -/
theorem diag_sol {n : Nat} {A B : Mx} (he : RowEq n A B) (hd : ∀ i, i < n → B i i ≠ 0) (h0 : ∀ i j, i < n → j < n → i ≠ j → B i j = 0) {q i : Nat} (hi : i < n) : (sumN n fun k => A i k * (B k q / B k k)) = A i q := by
  have h1 : Ker n B q (fun k => B k q / B k k) (-1) := by
    intro i hi
    have e := sumN_single (f := fun k => B i k * (B k q / B k k)) hi (by
      intro k hk hne
      show B i k * (B k q / B k k) = 0
      rw [h0 i k hi hk (fun e => hne e.symm), Rat.zero_mul])
    rw [e]
    show B i i * (B i q / B i i) + B i q * -1 = 0
    have h2 : B i i * (B i q / B i i) = B i q := by
      rw [Rat.mul_comm]
      exact Rat.div_mul_cancel (hd i hi)
    rw [h2]
    grind
  have h2 := (he q _ (-1)).2 h1 i hi
  have e : (sumN n fun k => A i k * (fun k => B k q / B k k) k) = sumN n fun k => A i k * (B k q / B k k) := rfl
  rw [e] at h2
  grind

end Go.Proofs.Ytepkjfnffbdcoaa
