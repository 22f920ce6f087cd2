/- Strings as values: bytes, equality, slices; what Parse computes. -/
import Derived.Test.YteidabibgjokkaaGreatDoorGI
import Derived.ChangeKeysEq
set_option linter.unusedVariables false
set_option maxRecDepth 20000
set_option linter.unusedSimpArgs false
namespace Go.Proofs.YteidabibgjokkaaGreatDoor
open Go Go.Proofs.YteidabibgjokkaaGreatDoor.Lift
attribute [local irreducible] Lift.PCall Lift.HCall
end Go.Proofs.YteidabibgjokkaaGreatDoor
/- Parse. -/
set_option linter.unusedVariables false
set_option linter.unusedSimpArgs false
namespace Go.Proofs.YteidabibgjokkaaGreatDoor
open Go Go.Proofs.YteidabibgjokkaaGreatDoor.Lift
attribute [local irreducible] Lift.PCall Lift.HCall
end Go.Proofs.YteidabibgjokkaaGreatDoor
