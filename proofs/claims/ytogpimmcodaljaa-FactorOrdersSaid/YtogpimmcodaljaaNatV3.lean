/- Bits and Power at numbers. -/
import Derived.Test.YtogpimmcodaljaaGN
import Derived.Test.YtogpimmcodaljaaGV
import Derived.Test.YtogpimmcodaljaaGW
set_option linter.unusedVariables false
set_option maxRecDepth 20000
set_option linter.unusedSimpArgs false
namespace Go.Proofs.Ytogpimmcodaljaa
open Go Go.Proofs.Ytogpimmcodaljaa.Lift
attribute [local irreducible] Lift.PCall Lift.HCall
end Go.Proofs.Ytogpimmcodaljaa
