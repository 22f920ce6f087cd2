import Derived.Test.YteidabibgjokkaaGreatDoorHL
import Derived.Test.YteidabibgjokkaaGreatDoorHB
import Derived.Test.YteidabibgjokkaaGreatDoorHI
set_option maxRecDepth 20000
set_option linter.all false
namespace Go.Proofs.YteidabibgjokkaaGreatDoor
open Go Go.Proofs.YteidabibgjokkaaGreatDoor.Lift
attribute [local irreducible] Lift.PCall Lift.HCall
def rrow (xs:List RT):List V:=xs.flatMap fun x=>(fR x).cells
theorem rrow_hf (xs:List RT):V.hfL (rrow xs)=true∧(rrow xs).all V.flat=true:=by
 induction xs with
 | nil=>exact ⟨rfl,rfl⟩
 | cons x xs ih=>
  show V.hfL ((fR x).cells++rrow xs)=true∧((fR x).cells++rrow xs).all V.flat=true
  rw [hfL_app,ih.1,List.all_append,ih.2]
  exact ⟨rfl,rfl⟩
theorem ren_rr (f:Nat→Nat)(xs:List RT):V.renL f (rrow xs)=rrow xs:=(hf_names f 0 _ (rrow_hf xs).1).1
theorem lt_rr (k:Nat)(xs:List RT):V.ltL k (rrow xs)=true:=(hf_names id k _ (rrow_hf xs).1).2
theorem dnQ5 {P:Program} {rs:Array ResultVar} {vs:List V} {r v:V} {st:St} {hp:List (Nat × Row)} (h1:resVs P st rs.toList=some vs:=by simp (disch:=omega) only [resVs,resV,go_sem,i64_of,u32_of,u64_of,Nat.reduceLT,Nat.reduceLeDiff,Nat.reduceEqDiff,Nat.reduceAdd,Nat.reduceSub,Nat.reduceMul,Nat.reducePow,Nat.reduceBEq,Int.reduceLE,Int.reduceLT,Int.reduceToNat,Int.reduceEq,Int.reduceNeg,↓reduceIte,reduceCtorEq];rfl)(h2:frz [] (packV vs) st.hp=some (v,hp):=by simp only [packV,frz,frzL];rfl) (h:v=r:=by rfl)
  (h3:r.lt 0=true:=by simp only [V.lt,V.ltL,ltL_u,lt_q,ltL_u,lt_z,lt_bl,lt_il,lt_rr];first | done | rfl) (h4:r.ren id=r:=by simp only [V.ren,V.renL,renL_u,ren_q,renL_u,ren_z,ren_bl,ren_il,ren_rr];first | done | rfl):Done P rs r [] st:=Lift.Done.of h1 h2 h h3 h4
end Go.Proofs.YteidabibgjokkaaGreatDoor
