/- Chains: expected visits. -/
import Derived.Test.YtepkjfnffbdcoaaGreatHF
import Derived.Test.YtepkjfnffbdcoaaGreatHL
set_option linter.unusedVariables false
set_option maxRecDepth 20000
set_option linter.unusedSimpArgs false
namespace Go.Proofs.YtepkjfnffbdcoaaGreat
open Go Go.Proofs.YtepkjfnffbdcoaaGreat.Lift
attribute [local irreducible] Lift.PCall Lift.HCall
/-- The expected visits of the states that reach an exit. -/
structure Chn.IsVis (c : Chn) (v x : Nat → Rat) : Prop where
  z : ∀ i, i < c.n → ¬ c.Rch i → x i = 0
  eq : ∀ i, i < c.n → c.Rch i → x i = v i + sumN c.n fun k => x k * c.M k i
theorem Chn.IsVis.ends {c : Chn} (hc : c.Ok) {X : Nat → Nat → Rat} (hX : c.IsEach X) {v x : Nat → Rat} (h : c.IsVis v x) : ∀ j, j < c.m → (sumN c.n fun i => x i * c.E i j) = sumN c.n fun i => v i * X i j := by
  intro j hj
  have e1 : (sumN c.n fun i => x i * c.E i j) = (sumN c.n fun i => x i * X i j) - sumN c.n fun i => x i * sumN c.n fun k => c.M i k * X k j := by
    rw [← sumN_sub]
    refine sumN_congr fun i hi => ?_
    have := hX.all hc i j hi hj
    rw [this]
    grind
  have e2 : (sumN c.n fun i => x i * sumN c.n fun k => c.M i k * X k j) = sumN c.n fun k => (sumN c.n fun i => x i * c.M i k) * X k j := by
    have : (sumN c.n fun i => x i * sumN c.n fun k => c.M i k * X k j) = sumN c.n fun i => sumN c.n fun k => x i * c.M i k * X k j := sumN_congr fun i _ => by
      rw [← sumN_mul]
      exact sumN_congr fun k _ => by grind
    rw [this, sumN_swap]
    exact sumN_congr fun k _ => sumN_mulr ..
  rw [e1, e2, ← sumN_sub]
  refine sumN_congr fun k hk => ?_
  by_cases hr : c.Rch k
  · have := h.eq k hk hr
    rw [this]
    grind
  · rw [hX.z k j hk hj hr]
    grind
/-! ### What Visits computes -/
end Go.Proofs.YtepkjfnffbdcoaaGreat
