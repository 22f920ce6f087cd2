/- Statements about chains: the cuts nat, list; of. -/
import Derived.Test.YteidabibgjokkaaGreatDoorHL
import Derived.Test.YteidabibgjokkaaGreatDoorHC
import Derived.Test.YteidabibgjokkaaGreatDoorHI
set_option linter.unusedVariables false
set_option maxRecDepth 20000
set_option linter.unusedSimpArgs false
namespace Go.Proofs.YteidabibgjokkaaGreatDoor
open Go Go.Proofs.YteidabibgjokkaaGreatDoor.Lift
attribute [local irreducible] Lift.PCall Lift.HCall
end Go.Proofs.YteidabibgjokkaaGreatDoor
/- Statements about chains: of; few where nothing is cut. -/
set_option linter.unusedVariables false
set_option linter.unusedSimpArgs false
namespace Go.Proofs.YteidabibgjokkaaGreatDoor
open Go Go.Proofs.YteidabibgjokkaaGreatDoor.Lift
attribute [local irreducible] Lift.PCall Lift.HCall
end Go.Proofs.YteidabibgjokkaaGreatDoor
/- Statements about chains: few where the chain is cut. -/
set_option linter.unusedVariables false
set_option linter.unusedSimpArgs false
namespace Go.Proofs.YteidabibgjokkaaGreatDoor
open Go Go.Proofs.YteidabibgjokkaaGreatDoor.Lift
attribute [local irreducible] Lift.PCall Lift.HCall
end Go.Proofs.YteidabibgjokkaaGreatDoor
