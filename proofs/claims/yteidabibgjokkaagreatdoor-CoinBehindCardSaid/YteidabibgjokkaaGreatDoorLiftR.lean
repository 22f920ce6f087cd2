/- A family of rows in the memory, one name behind the other. -/
import Derived.Test.YteidabibgjokkaaGreatDoorGB
set_option linter.unusedVariables false
set_option linter.unusedSimpArgs false
namespace Go.Proofs.YteidabibgjokkaaGreatDoor.Lift
open Go
/-- Another list that tells the same of the memory. -/
theorem AX.hp {P : Program} {C : Ctx} {st : St} {Q : Exit → St → Prop} {c : Code} {hp' : List (Nat × Row)} (e : lkp st.hp = lkp hp') (h : AX P C c ⟨st.fr, hp', st.nx⟩ Q) : AX P C c st Q := by
  intro env a w hs
  refine h env a w ?_
  show Sim C env (lkp st.fr) (lkp hp') (· < st.nx) a w
  rw [← e]
  exact hs
end Go.Proofs.YteidabibgjokkaaGreatDoor.Lift
