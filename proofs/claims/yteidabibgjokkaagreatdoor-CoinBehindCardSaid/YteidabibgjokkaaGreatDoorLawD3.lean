/- Statements about chains: ChainMet. -/
import Derived.Test.YteidabibgjokkaaGreatDoorChV
import Derived.Test.YteidabibgjokkaaGreatDoorHN
set_option linter.unusedVariables false
set_option maxRecDepth 20000
set_option linter.unusedSimpArgs false
namespace Go.Proofs.YteidabibgjokkaaGreatDoor
open Go Go.Proofs.YteidabibgjokkaaGreatDoor.Lift
attribute [local irreducible] Lift.PCall Lift.HCall
namespace Small
variable {n m : Nat} {A B : Mx} {v : Nat → Rat}
theorem isVis (h : Small n m A B v) : (chn n m A B).IsVis v (visV n m A B v) := vis_is (L := 38) h.hC h.hA (fun i hi => Nat.le_trans (h.hvL i hi) (by decide)) (by decide)
theorem visL (h : Small n m A B v) : ∀ i, i < n → rL (visV n m A B v i) ≤ 100000 := vis_small h.hn h.hC h.hA h.hvL
end Small
end Go.Proofs.YteidabibgjokkaaGreatDoor
