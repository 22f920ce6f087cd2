/- Parts of a function's code by the number of a block. -/
import Derived.Test.YtlhobedecoeohaaNatL
set_option linter.unusedVariables false
set_option linter.unusedSimpArgs false
namespace Go.Proofs.Ytlhobedecoeohaa
open Go Go.Proofs.Ytlhobedecoeohaa.Lift

noncomputable def findB (id : Nat) : Code → Option Code
  | .block i c => if i = id then some c else findB id c
  | .seq x y => match findB id x with
    | some c => some c
    | none => findB id y
  | .loop c => findB id c
  | .cond _ x y => match findB id x with
    | some c => some c
    | none => findB id y
  | _ => none

/-- The code inside a block of a function. -/
noncomputable def partB (f : FuncId) (id : Nat) : Option Code := (Try.prog.funcs[f]?).bind fun fn => fn.body.bind (findB id)

theorem part_test {c : Code} (hc : partB 46 0 = some c) : c = c := by
  simp only [partB, Try.func46, Option.bind_some, findB, if_true, if_false, Nat.reduceEqDiff, reduceIte] at hc
  cases hc
  trace_state
  rfl
end Go.Proofs.Ytlhobedecoeohaa
