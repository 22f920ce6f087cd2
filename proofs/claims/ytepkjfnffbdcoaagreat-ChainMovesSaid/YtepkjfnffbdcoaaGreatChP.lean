/- Chains: the equations of the states that reach an exit have one solution; what Each computes. -/
import Derived.Test.YtepkjfnffbdcoaaGreatHI
set_option linter.unusedVariables false
set_option maxRecDepth 20000
set_option linter.unusedSimpArgs false
namespace Go.Proofs.YtepkjfnffbdcoaaGreat
open Go Go.Proofs.YtepkjfnffbdcoaaGreat.Lift
attribute [local irreducible] Lift.PCall Lift.HCall

/-! ### Indices of the states picked -/
theorem pick_mem {n i : Nat} {f : Nat → Bool} : i ∈ pick n f ↔ i < n ∧ f i = true := by simp [pick]
theorem pick_at {n s : Nat} {f : Nat → Bool} (hs : s < n) (hf : f s = true) : (pick s f).length < (pick n f).length ∧ (pick n f).getD (pick s f).length 0 = s := by
  induction n with
  | zero => omega
  | succ n ih =>
    rw [pick_succ]
    by_cases e : s = n
    · subst e
      rw [if_pos hf]
      simp [List.getD_eq_getElem?_getD]
    · obtain ⟨h1, h2⟩ := ih (by omega)
      split
      · refine ⟨by simp; omega, ?_⟩
        rw [List.getD_eq_getElem?_getD, List.getElem?_append_left h1, ← List.getD_eq_getElem?_getD]
        exact h2
      · exact ⟨h1, h2⟩
theorem pick_get {n i : Nat} {f : Nat → Bool} (hi : i < (pick n f).length) : (pick n f).getD i 0 < n ∧ f ((pick n f).getD i 0) = true ∧ (pick ((pick n f).getD i 0) f).length = i := by
  induction n with
  | zero => simp [pick] at hi
  | succ n ih =>
    cases h : f n
    · have e : pick (n + 1) f = pick n f := by rw [pick_succ, if_neg (by rw [h]; exact Bool.false_ne_true)]
      rw [e] at hi ⊢
      obtain ⟨h1, h2, h3⟩ := ih hi
      exact ⟨by omega, h2, h3⟩
    · have e : pick (n + 1) f = pick n f ++ [n] := by rw [pick_succ, if_pos h]
      rw [e] at hi ⊢
      rw [List.length_append, List.length_singleton] at hi
      by_cases hlt : i < (pick n f).length
      · have e2 : (pick n f ++ [n]).getD i 0 = (pick n f).getD i 0 := by rw [List.getD_eq_getElem?_getD, List.getElem?_append_left hlt, ← List.getD_eq_getElem?_getD]
        rw [e2]
        obtain ⟨h1, h2, h3⟩ := ih hlt
        exact ⟨by omega, h2, h3⟩
      · have ei : i = (pick n f).length := by omega
        subst ei
        have e2 : (pick n f ++ [n]).getD (pick n f).length 0 = n := by simp [List.getD_eq_getElem?_getD]
        rw [e2]
        exact ⟨by omega, h, rfl⟩
theorem sumN_pick (f : Nat → Bool) (G : Nat → Nat → Rat) : ∀ n, (sumN n fun k => if f k = true then G (pick k f).length k else 0) = sumN (pick n f).length fun i => G i ((pick n f).getD i 0) := by
  intro n
  induction n with
  | zero => rfl
  | succ n ih =>
    rw [sumN_succ, ih]
    cases h : f n
    · have e : pick (n + 1) f = pick n f := by rw [pick_succ, if_neg (by rw [h]; exact Bool.false_ne_true)]
      rw [e, if_neg Bool.false_ne_true, Rat.add_zero]
    · have e : pick (n + 1) f = pick n f ++ [n] := by rw [pick_succ, if_pos h]
      have el : (pick (n + 1) f).length = (pick n f).length + 1 := by rw [e]; simp
      rw [el, if_pos rfl, sumN_succ]
      congr 1
      · refine sumN_congr fun i hi => ?_
        rw [e, List.getD_eq_getElem?_getD, List.getD_eq_getElem?_getD, List.getElem?_append_left hi]
      · rw [e]
        simp [List.getD_eq_getElem?_getD]

/-! ### The equations -/
/-- What a vector of the picked states is on all. -/
def lift (n : Nat) (f : Nat → Bool) (y : Nat → Rat) : Nat → Rat := fun k => if f k = true then y (pick k f).length else 0
theorem subM_sum {n : Nat} {f : Nat → Bool} {A : Mx} {i : Nat} (hi : i < (pick n f).length) (y : Nat → Rat) (t : Bool) : (sumN (pick n f).length fun k => subM t (pick n f) A i k * y k) = y i - sumN (pick n f).length fun k => pkM t (pick n f) A i k * y k := by
  have h1 : (sumN (pick n f).length fun k => subM t (pick n f) A i k * y k) = (sumN (pick n f).length fun k => if k = i then y i else 0) - sumN (pick n f).length fun k => pkM t (pick n f) A i k * y k := by
    rw [← sumN_sub]
    refine sumN_congr fun k _ => ?_
    unfold subM
    by_cases e : i = k
    · subst e
      rw [if_pos rfl, if_pos rfl]
      grind
    · rw [if_neg e, if_neg fun e' => e e'.symm]
      grind
  rw [h1, sumN_single hi (fun k _ hk => if_neg hk), if_pos rfl]
theorem pk_sum {n : Nat} {f : Nat → Bool} {A : Mx} {i : Nat} (hi : i < (pick n f).length) (y : Nat → Rat) : (sumN (pick n f).length fun k => pkM false (pick n f) A i k * y k) = sumN n fun k => A ((pick n f).getD i 0) k * lift n f y k := by
  have := sumN_pick f (fun j k => A ((pick n f).getD i 0) k * y j) n
  have e : (sumN n fun k => A ((pick n f).getD i 0) k * lift n f y k) = sumN n fun k => if f k = true then A ((pick n f).getD i 0) k * y (pick k f).length else 0 := by
    refine sumN_congr fun k _ => ?_
    unfold lift
    split
    · rfl
    · exact Rat.mul_zero _
  rw [e, this]
  rfl
theorem nonsing_sub {n m : Nat} {A B : Mx} (hC : isC n m A B = true) : NonSing (pick n (rchB n m A B)).length (subM false (pick n (rchB n m A B)) A) := by
  intro y hy
  have hOk := isC_ok hC
  have h0 : ∀ i, i < n → lift n (rchB n m A B) y i = 0 := by
    refine Chn.only (c := chn n m A B) hOk (fun i hi hr => ?_) (fun i hi hr => ?_)
    · have hi : i < n := hi
      have hf := rchB_iff.2 hr
      obtain ⟨h1, h2⟩ := pick_at hi hf
      have h3 := hy _ h1
      rw [subM_sum h1, pk_sum h1, h2] at h3
      have h4 : lift n (rchB n m A B) y i = y (pick i (rchB n m A B)).length := if_pos hf
      rw [h4]
      show _ = sumN n fun k => A i k * _
      grind
    · have : ¬ rchB n m A B i = true := fun h => hr (rchB_iff.1 h)
      exact if_neg this
  intro k hk
  obtain ⟨h1, h2, h3⟩ := pick_get hk
  have := h0 _ h1
  unfold lift at this
  rwa [if_pos h2, h3] at this
/-- The transposed system. -/
theorem NonSing.transp {n L : Nat} {A : Mx} (hA : NonSing n A) (hL : ∀ i j, i < n → j < n → rL (A i j) ≤ L) (hL1 : 1 ≤ L) : NonSing n fun i j => A j i := by
  intro y hy q hq
  obtain ⟨_, h2, _⟩ := fin_spec (n := n) (c := n) (L := L) (A := A) (B := fun i j => if i = j then 1 else 0) hA hL (fun i j _ _ => by
    show rL (if i = j then 1 else 0) ≤ L
    split
    · exact Nat.le_trans rL1 hL1
    · exact Nat.le_trans rL0 hL1) hL1
  have e1 : y q = sumN n fun i => y i * (if i = q then 1 else 0) := by
    rw [sumN_single hq (fun i _ hi => by rw [if_neg hi, Rat.mul_zero]), if_pos rfl, Rat.mul_one]
  have e2 : (sumN n fun i => y i * (if i = q then 1 else 0)) = sumN n fun i => sumN n fun k => y i * (A i k * solX n A (fun i j => if i = j then 1 else 0) k q) := by
    refine sumN_congr fun i hi => ?_
    rw [← h2 i q hi hq, sumN_mul]
  rw [e1, e2, sumN_swap]
  refine sumN_eq_zero fun k hk => ?_
  have := hy k hk
  have e3 : (sumN n fun i => y i * (A i k * solX n A (fun i j => if i = j then 1 else 0) k q)) = (sumN n fun i => A i k * y i) * solX n A (fun i j => if i = j then 1 else 0) k q := by
    rw [← sumN_mulr]
    exact sumN_congr fun i _ => by grind
  rw [e3, this, Rat.zero_mul]

/-! ### Each -/
/-- The right-hand sides. -/
def rhsM (of : List Nat) (B : Mx) : Mx := fun i k => B (of.getD i 0) k
noncomputable def eachM (n m : Nat) (A B : Mx) : Mx := fun i j => if rchB n m A B i = true then solX (pick n (rchB n m A B)).length (subM false (pick n (rchB n m A B)) A) (rhsM (pick n (rchB n m A B)) B) (pick i (rchB n m A B)).length j else 0
theorem each_is {n m L : Nat} {A B : Mx} (hC : isC n m A B = true) (hA : ∀ i k, i < n → k < n → rL (A i k) ≤ L) (hB : ∀ i k, i < n → k < m → rL (B i k) ≤ L) (hL1 : 1 ≤ L) : (chn n m A B).IsEach (eachM n m A B) := by
  obtain ⟨_, h2, _⟩ := fin_spec (n := (pick n (rchB n m A B)).length) (c := m) (L := L + 1) (B := rhsM (pick n (rchB n m A B)) B) (nonsing_sub hC) (fun i j hi hj => subM_len hA hL1 (pick_get hi).1 (pick_get hj).1) (fun i j hi hj => by
    have := hB _ j (pick_get hi).1 hj
    show rL (B _ j) ≤ _
    omega) (by omega)
  refine ⟨fun i j hi hj hr => if_neg fun h => hr (rchB_iff.1 h), fun i j hi hj hr => ?_⟩
  have hi : i < n := hi
  have hj : j < m := hj
  have hf := rchB_iff.2 hr
  obtain ⟨h3, h4⟩ := pick_at hi hf
  have h5 := h2 _ j h3 hj
  rw [subM_sum h3, pk_sum h3, h4] at h5
  have e1 : eachM n m A B i j = solX (pick n (rchB n m A B)).length (subM false (pick n (rchB n m A B)) A) (rhsM (pick n (rchB n m A B)) B) (pick i (rchB n m A B)).length j := if_pos hf
  have e2 : (sumN n fun k => A i k * eachM n m A B k j) = sumN n fun k => A i k * lift n (rchB n m A B) (fun k => solX (pick n (rchB n m A B)).length (subM false (pick n (rchB n m A B)) A) (rhsM (pick n (rchB n m A B)) B) k j) k := rfl
  have e3 : rhsM (pick n (rchB n m A B)) B (pick i (rchB n m A B)).length j = B i j := by
    show B ((pick n (rchB n m A B)).getD _ 0) j = _
    rw [h4]
  show _ = (sumN n fun k => A i k * eachM n m A B k j) + B i j
  rw [e1, e2]
  rw [e3] at h5
  grind
theorem bigL_mono {n n' L : Nat} (h : n ≤ n') : bigL n L ≤ bigL n' L := by
  unfold bigL
  have h2 : (2 : Nat) ^ n ≤ 2 ^ n' := Nat.pow_le_pow_right (by omega) h
  have h4 : (4 : Nat) ^ n ≤ 4 ^ n' := Nat.pow_le_pow_right (by omega) h
  have h5 : 4 ^ n * (L + 1) ≤ 4 ^ n' * (L + 1) := Nat.mul_le_mul_right _ h4
  exact Nat.mul_le_mul h2 (by omega)
theorem each_len {n m L : Nat} {A B : Mx} (hC : isC n m A B = true) (hA : ∀ i k, i < n → k < n → rL (A i k) ≤ L) (hB : ∀ i k, i < n → k < m → rL (B i k) ≤ L) (hL1 : 1 ≤ L) : ∀ i j, i < n → j < m → rL (eachM n m A B i j) ≤ 2 * bigL n (L + 1) := by
  intro i j hi hj
  have hb : 1 ≤ bigL n (L + 1) := Nat.le_trans (by omega) (U_le n (L + 1))
  unfold eachM
  split
  · rename_i hf
    have hb2 := bigL_mono (n := (pick n (rchB n m A B)).length) (n' := n) (L := L + 1) (pick_le n _)
    have := solX_len (nonsing_sub hC) (fun i j hi hj => subM_len hA hL1 (pick_get hi).1 (pick_get hj).1) (c := m) (B := rhsM (pick n (rchB n m A B)) B) (fun i j hi hj => by
      have := hB _ j (pick_get hi).1 hj
      show rL (B _ j) ≤ _
      omega) (by omega) _ j (pick_at hi hf).1 hj
    omega
  · have := rL0
    omega

end Go.Proofs.YtepkjfnffbdcoaaGreat
