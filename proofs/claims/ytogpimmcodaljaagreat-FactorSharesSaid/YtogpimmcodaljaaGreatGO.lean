/- Strings as values: bytes, equality, slices; what Parse computes. -/
import Derived.Test.YtogpimmcodaljaaGreatGI
import Derived.ChangeKeysEq
set_option linter.unusedVariables false
set_option maxRecDepth 20000
set_option linter.unusedSimpArgs false
namespace Go.Proofs.YtogpimmcodaljaaGreat
open Go Go.Proofs.YtogpimmcodaljaaGreat.Lift
attribute [local irreducible] Lift.PCall Lift.HCall
end Go.Proofs.YtogpimmcodaljaaGreat
/- Parse. -/
set_option linter.unusedVariables false
set_option linter.unusedSimpArgs false
namespace Go.Proofs.YtogpimmcodaljaaGreat
open Go Go.Proofs.YtogpimmcodaljaaGreat.Lift
attribute [local irreducible] Lift.PCall Lift.HCall
end Go.Proofs.YtogpimmcodaljaaGreat
