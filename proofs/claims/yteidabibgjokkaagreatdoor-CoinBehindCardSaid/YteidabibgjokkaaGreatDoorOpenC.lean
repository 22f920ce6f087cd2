/- Matrices and chains as arguments. -/
import Derived.Test.YteidabibgjokkaaGreatDoorGU
import Derived.Test.YteidabibgjokkaaGreatDoorGS
import Derived.ChangeSame
set_option linter.unusedVariables false
set_option maxRecDepth 20000
set_option linter.unusedSimpArgs false
namespace Go.Proofs.YteidabibgjokkaaGreatDoor
open Go Go.RowKit Go.Proofs.YteidabibgjokkaaGreatDoor.Lift
/-- Numbers of 64 bits. -/
def bd (n : Int) : Prop := -9223372036854775808 ≤ n ∧ n ≤ 9223372036854775807
end Go.Proofs.YteidabibgjokkaaGreatDoor
