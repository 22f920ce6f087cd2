/- The law NatDigits. -/
import Derived.Test.YtlhobedecoeohaaLaw0
import Derived.Test.YtlhobedecoeohaaNatFew
import Derived.Test.YtlhobedecoeohaaGX
set_option linter.unusedVariables false
set_option linter.unusedSimpArgs false
namespace Go.Proofs.Ytlhobedecoeohaa
open Go Go.Proofs.Ytlhobedecoeohaa.Lift
attribute [local irreducible] Lift.PCall Lift.HCall
theorem few2 (m : Nat) (hm : m < 2 ^ 40) (a b : List Nat) (ha : a.length < 2 ^ 62) (hb : b.length < 2 ^ 62) : PCall Try.prog 15 [.i .i64 m, .sl [dg a, dg b]] (.b (decide (a.length ≤ m) && decide (b.length ≤ m))) [] := by
 have := few_ok m hm [a, b] (by simp) (by simp; exact ⟨ha, hb⟩)
 simpa using this
theorem same_true (a : List Nat) (ha : a.length < 2 ^ 40) : PCall Try.prog 21 [dg a, dg a] (.b true) [] := by
 have := same_ok a a ha ha
 simpa using this
end Go.Proofs.Ytlhobedecoeohaa
