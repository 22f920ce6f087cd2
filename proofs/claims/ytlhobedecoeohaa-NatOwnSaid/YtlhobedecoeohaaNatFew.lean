/- few. -/
import Derived.Test.YtlhobedecoeohaaGG
set_option linter.unusedVariables false
set_option linter.unusedSimpArgs false
namespace Go.Proofs.Ytlhobedecoeohaa
open Go Go.Proofs.Ytlhobedecoeohaa.Lift
attribute [local irreducible] Lift.PCall Lift.HCall
attribute [go_sem] Try.underlying49
theorem few_ok (m : Nat) (hm : m < 2 ^ 40) (ls : List (List Nat)) (hl : ls.length < 2 ^ 20) (hll : ∀ l ∈ ls, l.length < 2 ^ 62) : PCall Try.prog 15 [.i .i64 m, .sl (ls.map dg)] (.b (ls.all fun l => decide (l.length ≤ m))) [] := by
 refine PCall.of_ax Try.call15 Try.func15 rfl (by simp [Try.ntmps15]) fun O w => ?_
 simp only [Try.ntmps15, Try.results15, argFr]
 refine AX.sR (rgA [0, 1]) ?_
 refine AX.seq ?_
 refine AX.sR (rgA [0, 1, 5]) ?_
 refine AX.block ?_
 refine AX.loop (fun n st => ∃ i : Nat, i ≤ ls.length ∧ n = ls.length - i ∧ (∀ j, j < i → (ls.getD j []).length ≤ m) ∧ st = ⟨[(5, .i .i64 i), (0, .i .i64 m), (1, .sl (ls.map dg))], [], 0⟩) ls.length ⟨0, Nat.zero_le _, rfl, fun j hj => absurd hj (Nat.not_lt_zero _), rfl⟩ ?_
 rintro n st ⟨i, hi, rfl, hij, rfl⟩
 refine AX.seq ?_
 by_cases h1 : i < ls.length
 ·have hb : (ls.getD i []).length < 2 ^ 62 := by
   rw [List.getD_eq_getElem?_getD, List.getElem?_eq_getElem h1]
   exact hll _ (List.getElem_mem _)
  refine AX.sR (rgA [0, 1, 5, 9]) ?_
  refine AX.condT ?_
  refine AX.skip ?_
  refine nmZ ?_
  refine AX.seq ?_
  refine AX.block ?_
  by_cases h2 : (ls.getD i []).length ≤ m
  ·refine AX.sR (rgA [0, 1, 5, 18]) ?_
   refine AX.condF ?_
   refine AX.skip ?_
   refine nmZ ?_
   refine AX.rR (rgW [0, 1, 5] (aI @lit_add oT) oT) ?_
   refine nmZ ?_
   refine ⟨_, _, id, ?_,
    leA
    , ⟨i + 1, by omega, rfl, ?_, rfl⟩⟩
   ·omega
   ·intro j hj
    by_cases e : j = i
    ·subst e; exact h2
    ·exact hij j (by omega)
  ·refine AX.sR (rgA [0, 1, 5, 18]) ?_
   refine AX.condT ?_
   refine AX.sR (rgA [4]) ?_
   refine AX.ret ⟨.inl rfl, ?_⟩
   have : (ls.all fun l => decide (l.length ≤ m)) = false := by
    rw [List.all_eq_false]
    refine ⟨ls.getD i [], ?_, by simpa using h2⟩
    rw [List.getD_eq_getElem?_getD, List.getElem?_eq_getElem h1]
    exact List.getElem_mem _
   rw [this]
   exact Done.one rfl (by simp only [frz]; rfl) rfl rfl
 ·refine AX.sR (rgA [0, 1, 5, 9]) ?_
  refine AX.condF ?_
  refine AX.exit ?_
  refine nmZ ?_
  refine AX.sR (rgA [4]) ?_
  refine AX.ret ⟨.inl rfl, ?_⟩
  have : (ls.all fun l => decide (l.length ≤ m)) = true := by
   rw [List.all_eq_true]
   intro l hl
   obtain ⟨j, hj, rfl⟩ := List.getElem_of_mem hl
   have := hij j (by omega)
   rw [List.getD_eq_getElem?_getD, List.getElem?_eq_getElem hj] at this
   simpa using this
  rw [this]
  exact Done.one rfl (by simp only [frz]; rfl) rfl rfl
end Go.Proofs.Ytlhobedecoeohaa
