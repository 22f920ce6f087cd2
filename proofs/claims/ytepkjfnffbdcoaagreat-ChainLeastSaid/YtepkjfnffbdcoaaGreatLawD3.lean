/- Statements about chains: ChainMet. -/
import Derived.Test.YtepkjfnffbdcoaaGreatChV
import Derived.Test.YtepkjfnffbdcoaaGreatHN
set_option linter.unusedVariables false
set_option maxRecDepth 20000
set_option linter.unusedSimpArgs false
namespace Go.Proofs.YtepkjfnffbdcoaaGreat
open Go Go.Proofs.YtepkjfnffbdcoaaGreat.Lift
attribute [local irreducible] Lift.PCall Lift.HCall
namespace Small
variable {n m : Nat} {A B : Mx} {v : Nat → Rat}
end Small
end Go.Proofs.YtepkjfnffbdcoaaGreat
