/- Factors: At, given a list that the caller goes on writing. -/
import Derived.Test.YtogpimmcodaljaaGreatKJ
set_option linter.unusedVariables false
set_option maxRecDepth 20000
set_option linter.unusedSimpArgs false
namespace Go.Proofs.YtogpimmcodaljaaGreat
open Go Go.Proofs.YtogpimmcodaljaaGreat.Lift
attribute [local irreducible] Lift.PCall Lift.HCall
theorem Lift.DoneG.cellE {st : St} {a t : Tmp} {h : Nat} {T T0 : TypeId} {s : Bool} {x y : List Nat} {l : List Int} {e : Int} (h1 : lkp st.fr a = some (.ptr h 0)) (h2 : lkp st.hp h = some ⟨T, [.b s, dg x, dg y]⟩) (h4 : lkp st.fr t = some (.i .i64 e)) (h3 : lkp st.hp 0 = some ⟨T0, zl l⟩) : DoneG Tryz.prog #[.cell a 38, .tmp t] (.tup [.agg [.b s, dg x, dg y], .i .i64 e]) [⟨T0, zl l⟩] st := by
 refine ⟨[.agg [.b s, dg x, dg y], .i .i64 e], ?_, rfl, rfl, rfl, fun n hn => ?_⟩
 ·simp only [resVs, resV, h1, h2, h4, lay_ratio]; rfl
 ·obtain rfl : n = 0 := by simpa using hn
  exact ⟨h3, lt_zl _ _, ren_zl _ _⟩
end Go.Proofs.YtogpimmcodaljaaGreat
/- The law FactorMosts: plain part, and the walk where the factor is right. -/
set_option linter.unusedVariables false
set_option linter.unusedSimpArgs false
namespace Go.Proofs.YtogpimmcodaljaaGreat
open Go Go.Proofs.YtogpimmcodaljaaGreat.Lift
attribute [local irreducible] Lift.PCall Lift.HCall
end Go.Proofs.YtogpimmcodaljaaGreat
/- The law FactorMosts: the walk where the factor is right. -/
set_option linter.unusedVariables false
set_option linter.unusedSimpArgs false
namespace Go.Proofs.YtogpimmcodaljaaGreat
open Go Go.Proofs.YtogpimmcodaljaaGreat.Lift
attribute [local irreducible] Lift.PCall Lift.HCall
end Go.Proofs.YtogpimmcodaljaaGreat
/- The law FactorMosts. -/
set_option linter.unusedVariables false
set_option linter.unusedSimpArgs false
namespace Go.Proofs.YtogpimmcodaljaaGreat
open Go Go.Proofs.YtogpimmcodaljaaGreat.Lift
attribute [local irreducible] Lift.PCall Lift.HCall
end Go.Proofs.YtogpimmcodaljaaGreat
