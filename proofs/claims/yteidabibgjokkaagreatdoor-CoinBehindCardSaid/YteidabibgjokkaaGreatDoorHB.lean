/- The reference's matrices: zeros, times, Mul; rows of weights: zeros, plus, by. -/
import Derived.Test.YteidabibgjokkaaGreatDoorHL
set_option linter.unusedVariables false
set_option maxRecDepth 20000
set_option linter.unusedSimpArgs false
namespace Go.Proofs.YteidabibgjokkaaGreatDoor
open Go Go.Proofs.YteidabibgjokkaaGreatDoor.Lift
attribute [local irreducible] Lift.PCall Lift.HCall
end Go.Proofs.YteidabibgjokkaaGreatDoor
/- The reference's chains: zeros, plus, by, Weights. -/
set_option linter.unusedVariables false
set_option linter.unusedSimpArgs false
namespace Go.Proofs.YteidabibgjokkaaGreatDoor
open Go Go.Proofs.YteidabibgjokkaaGreatDoor.Lift
attribute [local irreducible] Lift.PCall Lift.HCall
end Go.Proofs.YteidabibgjokkaaGreatDoor
