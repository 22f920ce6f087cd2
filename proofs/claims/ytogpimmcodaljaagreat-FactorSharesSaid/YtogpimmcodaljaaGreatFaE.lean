/- Factors: the cell at an assignment. -/
import Derived.Test.YtogpimmcodaljaaGreatFaD
set_option linter.unusedVariables false
set_option maxRecDepth 20000
set_option linter.unusedSimpArgs false
namespace Go.Proofs.YtogpimmcodaljaaGreat
open Go Go.Proofs.YtogpimmcodaljaaGreat.Lift
attribute [local irreducible] Lift.PCall Lift.HCall
theorem effIxT {n k : Nat} {x y : Operand} (q : Nat → Rat) (h : k < n) : eff Tryz.prog (.indexAddr 23 x y) [.sl ((ql n q).map rV), .i .i64 (k : Int)] = some (.val (.rp [.b (decide ((q k).num < 0)), dg (digits (q k).num.natAbs), dg (digits (q k).den)])) := by
 rw [effIxQ (by rw [ql_length]; exact h), ql_get q h]
end Go.Proofs.YtogpimmcodaljaaGreat
