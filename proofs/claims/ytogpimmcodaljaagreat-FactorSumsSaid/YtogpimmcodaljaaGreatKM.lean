/- Calls that take a row of the caller's own and hand one back: the same one, written, or a new one. -/
import Derived.Test.YtogpimmcodaljaaGreatGB
import Derived.Test.YtogpimmcodaljaaGreatFaT
import Derived.Shelf.Spec.SlicesInsertGrow
set_option linter.unusedVariables false
set_option maxRecDepth 20000
set_option linter.unusedSimpArgs false
namespace Go.Proofs.YtogpimmcodaljaaGreat.Lift
open Go
end Go.Proofs.YtogpimmcodaljaaGreat.Lift
/- Lists of whole numbers that are the call's own: an element is inserted (the library's contract as this framework wants it). -/
set_option linter.unusedVariables false
set_option linter.unusedSimpArgs false
namespace Go.Proofs.YtogpimmcodaljaaGreat
open Go Go.Proofs.YtogpimmcodaljaaGreat.Lift
attribute [local irreducible] Lift.PCall Lift.HCall
end Go.Proofs.YtogpimmcodaljaaGreat
