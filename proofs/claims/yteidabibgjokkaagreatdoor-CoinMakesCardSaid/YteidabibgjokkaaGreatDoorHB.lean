import Derived.Test.YteidabibgjokkaaGreatDoorHL
set_option maxRecDepth 20000
set_option linter.all false
namespace Go.Proofs.YteidabibgjokkaaGreatDoor
open Go Go.Proofs.YteidabibgjokkaaGreatDoor.Lift
attribute [local irreducible] Lift.PCall Lift.HCall
theorem lay_chain20:lay Tryz.prog 48=some ⟨6,true,80,[.i .i64 0,.i .i64 0,.nl,.i .i64 0,.i .i64 0,.nl]⟩:=by kernel_rfl
attribute [go_sem] Tryz.underlying48 lay_chain20 Tryz.underlying166
end Go.Proofs.YteidabibgjokkaaGreatDoor
