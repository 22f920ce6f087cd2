/- Strings as values: bytes, equality, slices; what Parse computes. -/
import Derived.Test.YtepkjfnffbdcoaaGreatGI
import Derived.ChangeKeysEq
set_option linter.unusedVariables false
set_option maxRecDepth 20000
set_option linter.unusedSimpArgs false
namespace Go.Proofs.YtepkjfnffbdcoaaGreat
open Go Go.Proofs.YtepkjfnffbdcoaaGreat.Lift
attribute [local irreducible] Lift.PCall Lift.HCall
end Go.Proofs.YtepkjfnffbdcoaaGreat
/- Parse. -/
set_option linter.unusedVariables false
set_option linter.unusedSimpArgs false
namespace Go.Proofs.YtepkjfnffbdcoaaGreat
open Go Go.Proofs.YtepkjfnffbdcoaaGreat.Lift
attribute [local irreducible] Lift.PCall Lift.HCall
end Go.Proofs.YtepkjfnffbdcoaaGreat
