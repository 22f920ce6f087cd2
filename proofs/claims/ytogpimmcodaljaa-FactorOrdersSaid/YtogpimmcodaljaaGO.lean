/- Strings as values: bytes, equality, slices; what Parse computes. -/
import Derived.Test.YtogpimmcodaljaaGI
import Derived.ChangeKeysEq
set_option linter.unusedVariables false
set_option maxRecDepth 20000
set_option linter.unusedSimpArgs false
namespace Go.Proofs.Ytogpimmcodaljaa
open Go Go.Proofs.Ytogpimmcodaljaa.Lift
attribute [local irreducible] Lift.PCall Lift.HCall
end Go.Proofs.Ytogpimmcodaljaa
/- Parse. -/
set_option linter.unusedVariables false
set_option linter.unusedSimpArgs false
namespace Go.Proofs.Ytogpimmcodaljaa
open Go Go.Proofs.Ytogpimmcodaljaa.Lift
attribute [local irreducible] Lift.PCall Lift.HCall
end Go.Proofs.Ytogpimmcodaljaa
