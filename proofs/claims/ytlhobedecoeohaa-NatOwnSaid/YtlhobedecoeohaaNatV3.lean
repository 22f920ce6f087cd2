/- Bits and Power at numbers. -/
import Derived.Test.YtlhobedecoeohaaGN
import Derived.Test.YtlhobedecoeohaaGV
import Derived.Test.YtlhobedecoeohaaGW
set_option linter.unusedVariables false
set_option linter.unusedSimpArgs false
namespace Go.Proofs.Ytlhobedecoeohaa
open Go Go.Proofs.Ytlhobedecoeohaa.Lift
attribute [local irreducible] Lift.PCall Lift.HCall
theorem bits_n (m : Nat) (hm : (digits m).length < 2 ^ 40) : PCall Try.prog 26 [nv m] (.i .i64 (blen m)) [] := by
 have := bits_ok (digits m) (Dg_digits _) hm
 rwa [val_digits] at this
theorem pow_n (m : Nat) (n : Int) (hm : (digits m).length < 2 ^ 36) (hn : -9223372036854775808 ≤ n ∧ n ≤ 9223372036854775807) : PCall Try.prog 38 [nv m, .i .i64 n] (numE (powN m n) (powE m n)) [] := by
 have := pow_ok (digits m) n (Dg_digits _) hm hn
 rwa [val_digits] at this
end Go.Proofs.Ytlhobedecoeohaa
