/- The reference's chains: Reaches; the program's Reaches. -/
import Derived.Test.YtepkjfnffbdcoaaGreatRfF
set_option linter.unusedVariables false
set_option maxRecDepth 20000
set_option linter.unusedSimpArgs false
namespace Go.Proofs.YtepkjfnffbdcoaaGreat
open Go Go.Proofs.YtepkjfnffbdcoaaGreat.Lift
attribute [local irreducible] Lift.PCall Lift.HCall
/-! ### The plain law -/
theorem Chn.Rch.from {n m : Nat} {A B : Mx} {i k : Nat} (h : To n A i k) (hr : (chn n m A B).Rch k) : i < n → (chn n m A B).Rch i := by
  intro hi
  induction h with
  | self _ => exact hr
  | move h1 h2 h3 ih => exact ih (.move h1.lt h2 h3 hr)
end Go.Proofs.YtepkjfnffbdcoaaGreat
