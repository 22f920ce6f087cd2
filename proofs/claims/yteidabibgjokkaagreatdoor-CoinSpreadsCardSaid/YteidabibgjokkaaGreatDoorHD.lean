import Derived.Test.YteidabibgjokkaaGreatDoorHL
import Derived.Test.YteidabibgjokkaaGreatDoorHC
import Derived.Test.YteidabibgjokkaaGreatDoorHI
set_option maxRecDepth 20000
set_option linter.all false
namespace Go.Proofs.YteidabibgjokkaaGreatDoor
open Go Go.Proofs.YteidabibgjokkaaGreatDoor.Lift
attribute [local irreducible] Lift.PCall Lift.HCall
def rrow (xs:List RT):List V:=xs.flatMap fun x=>(fR x).cells
theorem rrow_hf (xs:List RT):V.hfL (rrow xs)=true∧(rrow xs).all V.flat=true:=by
 induction xs with
 | nil=>exact ⟨rfl,rfl⟩
 | cons x xs ih=>
  show V.hfL ((fR x).cells++rrow xs)=true∧((fR x).cells++rrow xs).all V.flat=true
  rw [hfL_app,ih.1,List.all_append,ih.2]
  exact ⟨rfl,rfl⟩
theorem ren_rr (f:Nat→Nat)(xs:List RT):V.renL f (rrow xs)=rrow xs:=(hf_names f 0 _ (rrow_hf xs).1).1
theorem lt_rr (k:Nat)(xs:List RT):V.ltL k (rrow xs)=true:=(hf_names id k _ (rrow_hf xs).1).2
theorem dnQ5 {P:Program} {rs:Array ResultVar} {vs:List V} {r v:V} {st:St} {hp:List (Nat × Row)} (h1:resVs P st rs.toList=some vs:=by simp (disch:=omega) only [resVs,resV,go_sem,i64_of,u32_of,u64_of,Nat.reduceLT,Nat.reduceLeDiff,Nat.reduceEqDiff,Nat.reduceAdd,Nat.reduceSub,Nat.reduceMul,Nat.reducePow,Nat.reduceBEq,Int.reduceLE,Int.reduceLT,Int.reduceToNat,Int.reduceEq,Int.reduceNeg,↓reduceIte,reduceCtorEq];rfl)(h2:frz [] (packV vs) st.hp=some (v,hp):=by simp only [packV,frz,frzL];rfl) (h:v=r:=by rfl)
  (h3:r.lt 0=true:=by simp only [V.lt,V.ltL,ltL_u,lt_q,ltL_u,lt_z,lt_bl,lt_il,lt_rr];first | done | rfl) (h4:r.ren id=r:=by simp only [V.ren,V.renL,renL_u,ren_q,renL_u,ren_z,ren_bl,ren_il,ren_rr];first | done | rfl):Done P rs r [] st:=Lift.Done.of h1 h2 h h3 h4
theorem effSliceSeg {p m i o t:Nat} (X:Mx)(hi:i<p)(hot:o+t≤m)(hpm:p*m≤60*60)(x lo hi':Operand) {a b:Int} (ha:a=((i*m+o:Nat):Int)) (hb:b=((i*m+o+t:Nat):Int)) :
  eff Tryz.prog (.slice 39 x (some lo) (some hi') none) [.sl ((mcells m X (p*m)).map rV),.i .i64 a,.i .i64 b]=some (.val (.sl ((vl t fun c=>X i (o+c)).map rV))):=by
 subst ha hb
 by_cases ht:m=0
 ·subst ht
  obtain ⟨rfl,rfl⟩:o=0∧t=0:=by omega
  have e:(mcells 0 X (p*0)).map rV=[]:=rfl
  have e2:(vl 0 fun c=>X i (0+c)).map rV=[]:=rfl
  rw [e,e2]
  simp only [Nat.mul_zero,Nat.add_zero]
  simp only [eff,effSlice,lowHigh,sliceV,bound,Tryz.underlying39,lay_ratio,Option.isSome_some,Option.isSome_none]
  rfl
 have ht:0<m:=Nat.pos_of_ne_zero ht
 have hl:((mcells m X (p*m)).map rV).length=p*m:=by rw [List.length_map,mcells_length]
 have hle:i*m+m≤p*m:=by
  have:(i+1)*m≤p*m:=Nat.mul_le_mul_right _ hi
  rwa [Nat.succ_mul] at this
 have hrow:List.drop (i*m+o) (List.take (i*m+o+t) ((mcells m X (p*m)).map rV))=(vl t fun c=>X i (o+c)).map rV:=by
  rw [← List.map_take,← List.map_drop]
  congr 1
  apply List.ext_getElem?
  intro j
  rw [List.getElem?_drop,List.getElem?_take]
  by_cases hj:j<t
  ·rw [if_pos (by omega)]
   have h1:(mcells m X (p*m))[i*m+o+j]? = some (X i (o+j)):=by
    obtain ⟨h1,h2⟩:=mcells_get (r:=p) (c:=m) X hi (show o+j<m by omega)
    rw [← Nat.add_assoc] at h1 h2
    have hl:i*m+o+j<(mcells m X (p*m)).length:=by rw [mcells_length];exact h1
    rw [List.getD_eq_getElem?_getD,List.getElem?_eq_getElem hl] at h2
    rw [List.getElem?_eq_getElem hl]
    exact congrArg some h2
   rw [h1]
   simp [vl,hj]
  ·rw [if_neg (by omega)]
   exact (List.getElem?_eq_none (by rw [vl_length];omega)).symm
 have h3:(((mcells m X (p*m)).map rV).getD 0 .junk).cells.length=3:=by
  rw [getD_rV (by rw [mcells_length];omega)]
  rfl
 generalize (mcells m X (p*m)).map rV=Xl at *
 simp only [eff,effSlice,lowHigh,sliceV,bound,Tryz.underlying39,lay_ratio,Option.isSome_some,Option.isSome_none]
 rw [if_pos ⟨by omega,by omega,by rw [hl];omega,h3⟩,Int.toNat_natCast,Int.toNat_natCast,hrow]
theorem vl_mlen (n:Nat)(v:Nat→Rat):((vl n v).map rV).length=n:=by rw [List.length_map,vl_length]
theorem vl_one (n:Nat)(v:Nat→Rat):(((vl n v).map rV).getD 0 .junk).cells.length=3∨(vl n v).map rV=[]:=by
 by_cases h:n=0
 ·subst h
  exact .inr rfl
 ·left
  rw [getD_rV (by rw [vl_length];omega)]
  rfl
end Go.Proofs.YteidabibgjokkaaGreatDoor
