/- Factors: the law FactorRights. -/
import Derived.Test.YtogpimmcodaljaaGreatKC
set_option linter.unusedVariables false
set_option maxRecDepth 20000
set_option linter.unusedSimpArgs false
namespace Go.Proofs.YtogpimmcodaljaaGreat
open Go Go.Proofs.YtogpimmcodaljaaGreat.Lift
attribute [local irreducible] Lift.PCall Lift.HCall
theorem eqX_self (xs : List RT) : eqX xs xs = true := decide_eq_true ⟨rfl, fun _ _ => rfl⟩
theorem sameF_self (vs ws : List Int) (xs : List RT) : sameF vs ws xs vs ws xs = true := by
 simp [sameF, eqX_self]
/- What At answers, both of them. -/
end Go.Proofs.YtogpimmcodaljaaGreat
