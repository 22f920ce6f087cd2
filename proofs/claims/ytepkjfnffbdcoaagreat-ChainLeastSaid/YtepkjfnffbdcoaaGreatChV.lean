/- Chains: expected visits. -/
import Derived.Test.YtepkjfnffbdcoaaGreatHF
import Derived.Test.YtepkjfnffbdcoaaGreatHL
set_option linter.unusedVariables false
set_option maxRecDepth 20000
set_option linter.unusedSimpArgs false
namespace Go.Proofs.YtepkjfnffbdcoaaGreat
open Go Go.Proofs.YtepkjfnffbdcoaaGreat.Lift
attribute [local irreducible] Lift.PCall Lift.HCall
structure Chn.IsVis (c : Chn) (v x : Nat → Rat) : Prop where
 z : ∀ i, i < c.n → ¬ c.Rch i → x i = 0
 eq : ∀ i, i < c.n → c.Rch i → x i = v i + sumN c.n fun k => x k * c.M k i
theorem sumN_zero_each {n : Nat} {f : Nat → Rat} (h : ∀ i, i < n → 0 ≤ f i) (h0 : sumN n f = 0) : ∀ i, i < n → f i = 0 := fun i hi => sumN_zero_inv hi h h0
theorem Chn.IsVis.nonneg {c : Chn} (hc : c.Ok) {v x : Nat → Rat} (hv : ∀ i, i < c.n → 0 ≤ v i) (h : c.IsVis v x) : ∀ i, i < c.n → 0 ≤ x i := by
 obtain ⟨p, hp⟩ : ∃ p : Nat → Rat, p = fun i => if x i < 0 then -x i else 0 := ⟨_, rfl⟩
 have p0 : ∀ i, 0 ≤ p i := fun i => by
  rw [hp]
  show 0 ≤ (if x i < 0 then -x i else 0)
  split <;> grind
 have px : ∀ i, -x i ≤ p i := fun i => by
  rw [hp]
  show -x i ≤ (if x i < 0 then -x i else 0)
  split <;> grind
 have pz : ∀ i, i < c.n → ¬ c.Rch i → p i = 0 := fun i hi hr => by
  rw [hp]
  show (if x i < 0 then -x i else 0) = 0
  rw [h.z i hi hr, if_neg (by decide)]
 have ple : ∀ i, i < c.n → c.Rch i → p i ≤ sumN c.n fun k => p k * c.M k i := fun i hi hr => by
  have h1 : 0 ≤ sumN c.n fun k => p k * c.M k i := sumN_nonneg fun k hk => Rat.mul_nonneg (p0 k) (hc.M0 k i hk hi)
  have h2 : (sumN c.n fun k => (-x k) * c.M k i) ≤ sumN c.n fun k => p k * c.M k i := sumN_le fun k hk => Rat.mul_le_mul_of_nonneg_right (px k) (hc.M0 k i hk hi)
  have h3 : (sumN c.n fun k => (-x k) * c.M k i) = -sumN c.n fun k => x k * c.M k i := by
   have : (sumN c.n fun k => (-x k) * c.M k i) = sumN c.n fun k => (-1) * (x k * c.M k i) := sumN_congr fun k _ => by grind
   rw [this, sumN_mul]
   grind
  have h4 := h.eq i hi hr
  have h5 := hv i hi
  have h6 : p i = if x i < 0 then -x i else 0 := by rw [hp]
  rw [h6]
  split <;> grind
 -- all is equality, and nothing leaves
 obtain ⟨g, hg⟩ : ∃ g : Nat → Rat, g = fun i => @ite _ (c.Rch i) (Classical.propDecidable _) 1 0 := ⟨_, rfl⟩
 have g1 : ∀ i, c.Rch i → g i = 1 := fun i hr => by rw [hg]; exact if_pos hr
 have g0 : ∀ i, ¬ c.Rch i → g i = 0 := fun i hr => by rw [hg]; exact if_neg hr
 have tm : ∀ i, i < c.n → 0 ≤ (g i * sumN c.n fun k => p k * c.M k i) - p i := fun i hi => by
  by_cases hr : c.Rch i
  ·have := ple i hi hr
   rw [g1 i hr, Rat.one_mul]
   grind
  ·rw [g0 i hr, pz i hi hr, Rat.zero_mul]
   grind
 have dk : ∀ k, k < c.n → 0 ≤ 1 - sumN c.n fun i => g i * c.M k i := fun k hk => by
  have h1 := hc.one k hk
  have h2 : 0 ≤ sumN c.m (c.E k) := sumN_nonneg fun j hj => hc.E0 k j hk hj
  have h3 : (sumN c.n fun i => g i * c.M k i) ≤ sumN c.n (c.M k) := sumN_le fun i hi => by
   have hM := hc.M0 k i hk hi
   by_cases hr : c.Rch i
   ·rw [g1 i hr, Rat.one_mul]; exact Rat.le_refl
   ·rw [g0 i hr, Rat.zero_mul]; exact hM
  grind
 have bal : (sumN c.n fun i => (g i * sumN c.n fun k => p k * c.M k i) - p i) = -sumN c.n fun k => p k * (1 - sumN c.n fun i => g i * c.M k i) := by
  have e1 : (sumN c.n fun i => g i * sumN c.n fun k => p k * c.M k i) = sumN c.n fun k => p k * sumN c.n fun i => g i * c.M k i := by
   have : (sumN c.n fun i => g i * sumN c.n fun k => p k * c.M k i) = sumN c.n fun i => sumN c.n fun k => p k * (g i * c.M k i) := sumN_congr fun i _ => by
    rw [← sumN_mul]
    exact sumN_congr fun k _ => by grind
   rw [this, sumN_swap]
   exact sumN_congr fun k _ => sumN_mul ..
  have e2 : (sumN c.n fun k => p k * (1 - sumN c.n fun i => g i * c.M k i)) = sumN c.n p - sumN c.n fun k => p k * sumN c.n fun i => g i * c.M k i := by
   rw [← sumN_sub]
   exact sumN_congr fun k _ => by grind
  rw [sumN_sub, e1, e2]
  grind
 have s1 := sumN_nonneg tm
 have s2 : 0 ≤ sumN c.n fun k => p k * (1 - sumN c.n fun i => g i * c.M k i) := sumN_nonneg fun k hk => Rat.mul_nonneg (p0 k) (dk k hk)
 rw [bal] at s1
 have z1 : (sumN c.n fun k => p k * (1 - sumN c.n fun i => g i * c.M k i)) = 0 := by grind
 have z2 : (sumN c.n fun i => (g i * sumN c.n fun k => p k * c.M k i) - p i) = 0 := by rw [bal, z1]; grind
 have leave := sumN_zero_each (fun k hk => Rat.mul_nonneg (p0 k) (dk k hk)) z1
 have eqs := sumN_zero_each tm z2
 have key : ∀ i, c.Rch i → p i = 0 := by
  intro i hr
  induction hr with
  | exit hi hj hE =>
   rename_i i j
   have h1 := leave i hi
   have h1 : p i * (1 - sumN c.n fun i' => g i' * c.M i i') = 0 := h1
   rcases Rat.mul_eq_zero.1 h1 with h2 | h2
   ·exact h2
   ·exfalso
    have h3 := hc.one i hi
    have h4 := le_sumN hj (fun j hj => hc.E0 i j hi hj)
    have h5 : (sumN c.n fun i' => g i' * c.M i i') ≤ sumN c.n (c.M i) := sumN_le fun i' hi' => by
     have hM := hc.M0 i i' hi hi'
     by_cases hr : c.Rch i'
     ·rw [g1 i' hr, Rat.one_mul]; exact Rat.le_refl
     ·rw [g0 i' hr, Rat.zero_mul]; exact hM
    grind
  | move hi hk hM hr ih =>
   rename_i i k
   have h1 := eqs k hk
   have h1 : (g k * sumN c.n fun l => p l * c.M l k) - p k = 0 := h1
   rw [g1 k hr, Rat.one_mul, ih] at h1
   have h2 := sumN_zero_inv hi (fun l hl => Rat.mul_nonneg (p0 l) (hc.M0 l k hl hk)) (by grind)
   have h2 : p i * c.M i k = 0 := h2
   rcases Rat.mul_eq_zero.1 h2 with h3 | h3
   ·exact h3
   ·rw [h3] at hM
    exact absurd hM (by decide)
 intro i hi
 have h1 := px i
 by_cases hr : c.Rch i
 ·rw [key i hr] at h1
  grind
 ·rw [h.z i hi hr]
  exact Rat.le_refl
end Go.Proofs.YtepkjfnffbdcoaaGreat
