import Derived.Test.YteidabibgjokkaaGreatDoorGN
import Derived.Test.YteidabibgjokkaaGreatDoorGV
import Derived.Test.YteidabibgjokkaaGreatDoorGW
set_option maxRecDepth 20000
set_option linter.all false
namespace Go.Proofs.YteidabibgjokkaaGreatDoor
open Go Go.Proofs.YteidabibgjokkaaGreatDoor.Lift
attribute [local irreducible] Lift.PCall Lift.HCall
theorem bits_n (m:Nat)(hm:(digits m).length<2 ^ 40):PCall Tryz.prog 182 [nv m] (.i .i64 (blen m)) []:=by
 have:=bits_ok (digits m) (Dg_digits _) hm
 rwa [val_digits] at this
end Go.Proofs.YteidabibgjokkaaGreatDoor
