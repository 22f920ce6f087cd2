/- Chains: the solution of the equations is at least 0, no row of it is above 1, and no other solution is below it. -/
import Derived.Test.YtepkjfnffbdcoaaChM
set_option linter.unusedVariables false
set_option maxRecDepth 20000
set_option linter.unusedSimpArgs false
namespace Go.Proofs.Ytepkjfnffbdcoaa
open Go Go.Proofs.Ytepkjfnffbdcoaa.Lift
attribute [local irreducible] Lift.PCall Lift.HCall

/-- What is nowhere above its mean, and at most 0 where no exit is met, is at most 0. -/
theorem Chn.maxp {c : Chn} (hc : c.Ok) {x : Nat → Rat} (hx : ∀ i, i < c.n → c.Rch i → x i ≤ sumN c.n fun k => c.M i k * x k) (h0 : ∀ i, i < c.n → ¬ c.Rch i → x i ≤ 0) : ∀ i, i < c.n → x i ≤ 0 := by
  intro i0 hi0
  obtain ⟨a, ha, _, hmax⟩ := max_of c.n x (fun _ => True) ⟨i0, hi0, trivial⟩
  by_cases hpos : 0 < x a
  · have key : ∀ i, c.Rch i → i < c.n → x i = x a → False := by
      intro i hr
      induction hr with
      | exit hi hj hE =>
        rename_i i j
        intro _ he
        have h1 := hx i hi (.exit hi hj hE)
        have h3 : (sumN c.n fun k => c.M i k * x k) ≤ sumN c.n fun k => c.M i k * x a := sumN_le fun k hk => Rat.mul_le_mul_of_nonneg_left (hmax k hk trivial) (hc.M0 i k hi hk)
        rw [sumN_mulr] at h3
        have h4 := hc.one i hi
        have h5 := le_sumN hj (hc.E0 i · hi)
        have h7 : sumN c.n (c.M i) ≤ 1 - c.E i j := by grind
        have h8 := Rat.mul_le_mul_of_nonneg_right h7 (show 0 ≤ x a by grind)
        have := Rat.mul_pos hE hpos
        grind
      | move hi hk hM hr ih =>
        rename_i i k
        intro _ he
        have h1 := hx i hi (.move hi hk hM hr)
        have h4 := hc.one i hi
        have h5 : 0 ≤ sumN c.m (c.E i) := sumN_nonneg (hc.E0 i · hi)
        have h7 : sumN c.n (c.M i) ≤ 1 := by grind
        have h8 := Rat.mul_le_mul_of_nonneg_right h7 (show 0 ≤ x a by grind)
        have h9 : (sumN c.n fun k => c.M i k * (x a - x k)) ≤ 0 := by
          have e : (sumN c.n fun k => c.M i k * (x a - x k)) = sumN c.n (c.M i) * x a - sumN c.n fun k => c.M i k * x k := by
            rw [← sumN_mulr, ← sumN_sub]
            exact sumN_congr fun k _ => by grind
          rw [e]
          grind
        have h10 : ∀ l, l < c.n → 0 ≤ c.M i l * (x a - x l) := fun l hl => Rat.mul_nonneg (hc.M0 i l hi hl) (by have := hmax l hl trivial; grind)
        have h11 := sumN_zero_inv hk h10 (by have := sumN_nonneg h10; grind)
        refine ih hk ?_
        rcases Rat.mul_eq_zero.1 h11 with h | h
        · grind
        · grind
    by_cases hr : c.Rch a
    · exact (key a hr ha rfl).elim
    · have := h0 a ha hr
      grind
  · have := hmax i0 hi0 trivial
    grind

/-- The chances to end at each exit. -/
structure Chn.IsEach (c : Chn) (X : Nat → Nat → Rat) : Prop where
  z : ∀ i j, i < c.n → j < c.m → ¬ c.Rch i → X i j = 0
  eq : ∀ i j, i < c.n → j < c.m → c.Rch i → X i j = (sumN c.n fun k => c.M i k * X k j) + c.E i j

/-- From a state that meets no exit no move goes to one that does. -/
theorem Chn.out_M {c : Chn} (hc : c.Ok) {i k : Nat} (hi : i < c.n) (hk : k < c.n) (hr : ¬ c.Rch i) (hr' : c.Rch k) : c.M i k = 0 := by
  have h1 := hc.M0 i k hi hk
  have h2 : ¬ 0 < c.M i k := fun h => hr (.move hi hk h hr')
  grind
theorem Chn.out_E {c : Chn} (hc : c.Ok) {i j : Nat} (hi : i < c.n) (hj : j < c.m) (hr : ¬ c.Rch i) : c.E i j = 0 := by
  have h1 := hc.E0 i j hi hj
  have h2 : ¬ 0 < c.E i j := fun h => hr (.exit hi hj h)
  grind
theorem Chn.IsEach.all {c : Chn} (hc : c.Ok) {X : Nat → Nat → Rat} (h : c.IsEach X) : ∀ i j, i < c.n → j < c.m → X i j = (sumN c.n fun k => c.M i k * X k j) + c.E i j := by
  intro i j hi hj
  by_cases hr : c.Rch i
  · exact h.eq i j hi hj hr
  · rw [h.z i j hi hj hr, c.out_E hc hi hj hr, sumN_eq_zero]
    · exact (Rat.add_zero 0).symm
    · intro k hk
      by_cases hr' : c.Rch k
      · rw [c.out_M hc hi hk hr hr', Rat.zero_mul]
      · rw [h.z k j hk hj hr', Rat.mul_zero]
theorem Chn.IsEach.unique {c : Chn} (hc : c.Ok) {X Y : Nat → Nat → Rat} (h : c.IsEach X) (h' : c.IsEach Y) : ∀ i j, i < c.n → j < c.m → X i j = Y i j := by
  intro i j hi hj
  have key := c.only hc (x := fun i => X i j - Y i j) (by
    intro i hi hr
    have h1 := h.eq i j hi hj hr
    have h2 := h'.eq i j hi hj hr
    show X i j - Y i j = sumN c.n fun k => c.M i k * (X k j - Y k j)
    have e : (sumN c.n fun k => c.M i k * (X k j - Y k j)) = (sumN c.n fun k => c.M i k * X k j) - sumN c.n fun k => c.M i k * Y k j := by
      rw [← sumN_sub]
      exact sumN_congr fun k _ => by grind
    rw [e]
    grind) (by
    intro i hi hr
    show X i j - Y i j = 0
    rw [h.z i j hi hj hr, h'.z i j hi hj hr]
    grind) i hi
  have key : X i j - Y i j = 0 := key
  grind
theorem Chn.IsEach.nonneg {c : Chn} (hc : c.Ok) {X : Nat → Nat → Rat} (h : c.IsEach X) : ∀ i j, i < c.n → j < c.m → 0 ≤ X i j := by
  intro i j hi hj
  have key := c.maxp hc (x := fun i => -X i j) (by
    intro i hi hr
    have h1 := h.eq i j hi hj hr
    have h2 := hc.E0 i j hi hj
    show -X i j ≤ sumN c.n fun k => c.M i k * -X k j
    have e : (sumN c.n fun k => c.M i k * -X k j) = -1 * sumN c.n fun k => c.M i k * X k j := by
      rw [← sumN_mul]
      exact sumN_congr fun k _ => by grind
    rw [e]
    grind) (by
    intro i hi hr
    show -X i j ≤ 0
    rw [h.z i j hi hj hr]
    grind) i hi
  have key : -X i j ≤ 0 := key
  grind
/-- No other solution that is at least 0 is below it. -/
theorem Chn.IsEach.least {c : Chn} (hc : c.Ok) {X Y : Nat → Nat → Rat} (h : c.IsEach X) (hY : ∀ i j, i < c.n → j < c.m → 0 ≤ Y i j) (hY' : ∀ i j, i < c.n → j < c.m → Y i j = (sumN c.n fun k => c.M i k * Y k j) + c.E i j) : ∀ i j, i < c.n → j < c.m → X i j ≤ Y i j := by
  intro i j hi hj
  have key := c.maxp hc (x := fun i => X i j - Y i j) (by
    intro i hi hr
    have h1 := h.eq i j hi hj hr
    have h2 := hY' i j hi hj
    show X i j - Y i j ≤ sumN c.n fun k => c.M i k * (X k j - Y k j)
    have e : (sumN c.n fun k => c.M i k * (X k j - Y k j)) = (sumN c.n fun k => c.M i k * X k j) - sumN c.n fun k => c.M i k * Y k j := by
      rw [← sumN_sub]
      exact sumN_congr fun k _ => by grind
    rw [e]
    grind) (by
    intro i hi hr
    show X i j - Y i j ≤ 0
    rw [h.z i j hi hj hr]
    have := hY i j hi hj
    grind) i hi
  have key : X i j - Y i j ≤ 0 := key
  grind
theorem Chn.IsEach.row {c : Chn} (hc : c.Ok) {X : Nat → Nat → Rat} (h : c.IsEach X) : ∀ i, i < c.n → sumN c.m (X i) ≤ 1 ∧ (c.Rch i → (∀ k, k < c.n → c.Rch k) → sumN c.m (X i) = 1) := by
  have hs : ∀ i, i < c.n → c.Rch i → sumN c.m (X i) - 1 = sumN c.n fun k => c.M i k * (sumN c.m (X k) - 1) := by
    intro i hi hr
    have e1 : sumN c.m (X i) = (sumN c.n fun k => c.M i k * sumN c.m (X k)) + sumN c.m (c.E i) := by
      have : sumN c.m (X i) = sumN c.m fun j => (sumN c.n fun k => c.M i k * X k j) + c.E i j := sumN_congr fun j hj => h.eq i j hi hj hr
      rw [this, sumN_add, sumN_swap]
      congr 1
      exact sumN_congr fun k _ => sumN_mul ..
    have e2 : (sumN c.n fun k => c.M i k * (sumN c.m (X k) - 1)) = (sumN c.n fun k => c.M i k * sumN c.m (X k)) - sumN c.n (c.M i) := by
      rw [← sumN_sub]
      exact sumN_congr fun k _ => by grind
    have h4 := hc.one i hi
    rw [e1, e2]
    grind
  intro i hi
  refine ⟨?_, fun hr hall => ?_⟩
  · have key := c.maxp hc (x := fun i => sumN c.m (X i) - 1) (fun i hi hr => by
      show sumN c.m (X i) - 1 ≤ _
      rw [hs i hi hr]
      exact Rat.le_refl) (fun i hi hr => by
      show sumN c.m (X i) - 1 ≤ 0
      rw [sumN_eq_zero fun j hj => h.z i j hi hj hr]
      grind) i hi
    have key : sumN c.m (X i) - 1 ≤ 0 := key
    grind
  · have key := c.only hc (x := fun i => sumN c.m (X i) - 1) (fun i hi hr => hs i hi hr) (fun i hi hr => absurd (hall i hi) hr) i hi
    have key : sumN c.m (X i) - 1 = 0 := key
    grind

/-! ### Moves -/
/-- A row of weights times the moves. -/
def Chn.step (c : Chn) (v : Nat → Rat) : Nat → Rat := fun k => sumN c.n fun i => v i * c.M i k
def Chn.ended (c : Chn) (v : Nat → Rat) : Nat → Rat := fun j => sumN c.n fun i => v i * c.E i j
def Chn.at (c : Chn) (v : Nat → Rat) : Nat → Nat → Rat
  | 0 => v
  | t + 1 => c.step (c.at v t)
def Chn.outs (c : Chn) (v : Nat → Rat) : Nat → Nat → Rat
  | 0 => fun _ => 0
  | t + 1 => fun j => c.outs v t j + c.ended (c.at v t) j
def Chn.ends (c : Chn) (X : Nat → Nat → Rat) (v : Nat → Rat) : Nat → Rat := fun j => sumN c.n fun i => v i * X i j
theorem Chn.at_nonneg {c : Chn} (hc : c.Ok) {v : Nat → Rat} (hv : ∀ i, i < c.n → 0 ≤ v i) : ∀ t i, i < c.n → 0 ≤ c.at v t i := by
  intro t
  induction t with
  | zero => exact hv
  | succ t ih => exact fun i hi => sumN_nonneg fun k hk => Rat.mul_nonneg (ih k hk) (hc.M0 k i hk hi)
theorem Chn.ends_split {c : Chn} (hc : c.Ok) {X : Nat → Nat → Rat} (h : c.IsEach X) (v : Nat → Rat) : ∀ t j, j < c.m → c.ends X v j = c.outs v t j + c.ends X (c.at v t) j := by
  intro t
  induction t with
  | zero =>
    intro j _
    show c.ends X v j = 0 + c.ends X v j
    grind
  | succ t ih =>
    intro j hj
    rw [ih j hj]
    show c.outs v t j + c.ends X (c.at v t) j = c.outs v t j + c.ended (c.at v t) j + c.ends X (c.step (c.at v t)) j
    generalize c.at v t = u
    have e : c.ends X u j = c.ended u j + c.ends X (c.step u) j := by
      unfold Chn.ends Chn.ended Chn.step
      have e1 : (sumN c.n fun i => u i * X i j) = sumN c.n fun i => u i * c.E i j + u i * sumN c.n fun k => c.M i k * X k j := sumN_congr fun i hi => by
        rw [h.all hc i j hi hj]
        grind
      rw [e1, sumN_add]
      congr 1
      have e2 : (sumN c.n fun i => u i * sumN c.n fun k => c.M i k * X k j) = sumN c.n fun i => sumN c.n fun k => u i * c.M i k * X k j := sumN_congr fun i _ => by
        rw [← sumN_mul]
        exact sumN_congr fun k _ => by grind
      rw [e2, sumN_swap]
      exact sumN_congr fun k _ => sumN_mulr ..
    rw [e]
    grind
theorem Chn.total {c : Chn} (hc : c.Ok) (v : Nat → Rat) : ∀ t, sumN c.n (c.at v t) + sumN c.m (c.outs v t) = sumN c.n v := by
  intro t
  induction t with
  | zero =>
    show sumN c.n v + sumN c.m (fun _ => 0) = sumN c.n v
    rw [sumN_zero]
    grind
  | succ t ih =>
    rw [← ih]
    show sumN c.n (c.step (c.at v t)) + sumN c.m (fun j => c.outs v t j + c.ended (c.at v t) j) = _
    rw [sumN_add]
    generalize c.at v t = u
    have e : sumN c.n (c.step u) + sumN c.m (c.ended u) = sumN c.n u := by
      have e1 : sumN c.n (c.step u) = sumN c.n fun i => u i * sumN c.n (c.M i) := by
        unfold Chn.step
        rw [sumN_swap]
        exact sumN_congr fun i _ => sumN_mul ..
      have e2 : sumN c.m (c.ended u) = sumN c.n fun i => u i * sumN c.m (c.E i) := by
        unfold Chn.ended
        rw [sumN_swap]
        exact sumN_congr fun i _ => sumN_mul ..
      rw [e1, e2, ← sumN_add]
      refine sumN_congr fun i hi => ?_
      have := hc.one i hi
      grind
    have e' : sumN c.m (fun j => c.ended u j) = sumN c.m (c.ended u) := rfl
    grind

end Go.Proofs.Ytepkjfnffbdcoaa
