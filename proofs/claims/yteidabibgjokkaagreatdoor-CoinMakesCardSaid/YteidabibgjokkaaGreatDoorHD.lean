import Derived.Test.YteidabibgjokkaaGreatDoorHL
import Derived.Test.YteidabibgjokkaaGreatDoorHB
import Derived.Test.YteidabibgjokkaaGreatDoorHI
set_option maxRecDepth 20000
set_option linter.all false
namespace Go.Proofs.YteidabibgjokkaaGreatDoor
open Go Go.Proofs.YteidabibgjokkaaGreatDoor.Lift
attribute [local irreducible] Lift.PCall Lift.HCall
end Go.Proofs.YteidabibgjokkaaGreatDoor
