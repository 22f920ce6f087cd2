/- What is right is in lowest terms; the reference's Weights and Right. -/
import Derived.Test.YteidabibgjokkaaGreatDoorHB
set_option linter.unusedVariables false
set_option maxRecDepth 20000
set_option linter.unusedSimpArgs false
namespace Go.Proofs.YteidabibgjokkaaGreatDoor
open Go Go.Proofs.YteidabibgjokkaaGreatDoor.Lift
attribute [local irreducible] Lift.PCall Lift.HCall
/-! ### What is right stands for itself -/
/-! ### The reference's Weights -/
end Go.Proofs.YteidabibgjokkaaGreatDoor
/- The reference's chains: Right. -/
set_option linter.unusedVariables false
set_option linter.unusedSimpArgs false
namespace Go.Proofs.YteidabibgjokkaaGreatDoor
open Go Go.Proofs.YteidabibgjokkaaGreatDoor.Lift
attribute [local irreducible] Lift.PCall Lift.HCall
theorem lay_chain20 : lay Tryz.prog 48 = some ⟨6, true, 80, [.i .i64 0, .i .i64 0, .nl, .i .i64 0, .i .i64 0, .nl]⟩ := by kernel_rfl
attribute [go_sem] Tryz.underlying48 lay_chain20 Tryz.underlying166
end Go.Proofs.YteidabibgjokkaaGreatDoor
/- After of chains, the program's and the reference's, where something is wrong, and the reference's where nothing is. -/
set_option linter.unusedVariables false
set_option linter.unusedSimpArgs false
namespace Go.Proofs.YteidabibgjokkaaGreatDoor
open Go Go.Proofs.YteidabibgjokkaaGreatDoor.Lift
attribute [local irreducible] Lift.PCall Lift.HCall
end Go.Proofs.YteidabibgjokkaaGreatDoor
