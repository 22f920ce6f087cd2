import Derived.Test.YteidabibgjokkaaGreatDoorGK
set_option maxRecDepth 20000
set_option linter.all false
namespace Go.Proofs.YteidabibgjokkaaGreatDoor
open Go Go.Proofs.YteidabibgjokkaaGreatDoor.Lift
attribute [local irreducible] Lift.PCall Lift.HCall
theorem and_lo (n:Nat)(h:n<18446744073709551616):andI .u64 (n:Int) 4294967295=((n % 4294967296:Nat):Int):=by
 show (((BitVec.ofInt 64 (n:Int) &&& BitVec.ofInt 64 4294967295).toNat:Nat):Int)=_
 rw [BitVec.toNat_and,ofInt_toNat64 n (by omega)]
 rw [show (BitVec.ofInt 64 4294967295).toNat=2 ^ 32-1 from rfl,Nat.and_two_pow_sub_one_eq_mod]
theorem takeaway_math {R R' V0 P Bk Bi c w w' u z S y Vi T g:Nat} (h:R+Bk*(g*T)=V0+P*(c+w)) (hP:P=Bk*Bi) (hs:R'+P*u=R+P*z) (hz:z+y=u+w' * 4294967296) (hy:y=S % 4294967296+w) (hS:S=c+g*Vi) :
  R'+Bk*(g*(T+Bi*Vi))=V0+P*4294967296*(S / 4294967296+w'):=by
 have e1:P*z+P*y=P*u+P*(w' * 4294967296):=by rw [← Nat.mul_add,hz,Nat.mul_add]
 have e2:P*y=P*(S % 4294967296)+P*w:=by rw [hy,Nat.mul_add]
 have e3:P*S=P*c+P*(g*Vi):=by rw [hS,Nat.mul_add]
 have e4:P*S=P*(4294967296*(S / 4294967296))+P*(S % 4294967296):=by rw [← Nat.mul_add,Nat.div_add_mod]
 have e5:Bk*(g*(T+Bi*Vi))=Bk*(g*T)+P*(g*Vi):=by rw [hP,Nat.mul_add,Nat.mul_add,Nat.mul_left_comm g,Nat.mul_assoc]
 have e6:P*4294967296*(S / 4294967296+w')=P*(4294967296*(S / 4294967296))+P*(w' * 4294967296):=by rw [Nat.mul_add,Nat.mul_assoc,Nat.mul_assoc,Nat.mul_comm 4294967296 w']
 rw [Nat.mul_add] at h
 omega
theorem drop_set_succ (l:List Nat)(j z:Nat):(l.set j z).drop (j+1)=l.drop (j+1):=by
 rw [List.drop_set_of_lt (by omega)]
set_option maxHeartbeats 4000000 in
theorem sub_step {c:Code} (hc:partB 127 5=some c) {O M:Nat→Prop} {w0:World} {K L k s v g:Nat} {r q:List Nat} (hK:K<2 ^ 37) (hk:k+L≤K) (hvL:(digits v).length=L)
  (hr:r.length=K+1) (hdr:Dg r) (hg:g<4294967296) {Q:Exit→St→Prop}
  (hQ:∀ (c w:Nat) (t:List Nat),t.length=K+1→Dg t→c<4294967296→w≤1→t.drop (k+L)=r.drop (k+L)→val t+4294967296 ^ k*(g*v)=val r+4294967296 ^ (k+L)*(c+w) →
   Q (.exit 5) ⟨[(19,.i .u64 c),(18,.i .u64 w),(16,.i .u64 g),(14,.i .i64 k),(13,.own 2 0 (K+1-L) 1),(12,.i .i64 L),(11,nv v),(10,.own 0 0 (K+1) 1),(9,.i .u64 s)],[(2,⟨142,q.map u⟩),(0,⟨142,t.map u⟩)],3⟩) :
  AX Tryz.prog ⟨315,O,M,w0,0,fun _=>none⟩ c ⟨[(159,.i .i64 0),(158,.i .i64 L),(19,.i .u64 0),(18,.i .u64 0),(16,.i .u64 g),(14,.i .i64 k),(13,.own 2 0 (K+1-L) 1),(12,.i .i64 L),(11,nv v),(10,.own 0 0 (K+1) 1),(9,.i .u64 s)],[(2,⟨142,q.map u⟩),(0,⟨142,r.map u⟩)],3⟩ Q:=by
 simp only [partB,Tryz.func127,Option.bind_some,findB,if_true,if_false,Nat.reduceEqDiff,reduceIte] at hc
 cases hc
 have hdv:=Dg_digits v
 refine AX.loop (fun N st=>∃ (i c w:Nat) (t:List Nat),N=L-i∧i≤L∧t.length=K+1∧Dg t∧c<4294967296∧w≤1∧t.drop (k+i)=r.drop (k+i)∧val t+4294967296 ^ k*(g*val ((digits v).take i))=val r+4294967296 ^ (k+i)*(c+w) ∧
  st=⟨[(159,.i .i64 i),(158,.i .i64 L),(19,.i .u64 c),(18,.i .u64 w),(16,.i .u64 g),(14,.i .i64 k),(13,.own 2 0 (K+1-L) 1),(12,.i .i64 L),(11,nv v),(10,.own 0 0 (K+1) 1),(9,.i .u64 s)],[(2,⟨142,q.map u⟩),(0,⟨142,t.map u⟩)],3⟩) L
  ⟨0,0,0,r,rfl,Nat.zero_le _,hr,hdr,by omega,by omega,rfl,by simp [val],rfl⟩ ?_
 rintro N st ⟨i,c,w,t,rfl,hi,ht,hdt,hc,hw,hdrop,hval,rfl⟩
 by_cases h:i<L
 ·refine AX.sR (rgA [9,10,11,12,13,14,16,18,19,158,159,160]) ?_
  refine AX.seq ?_
  refine AX.condT ?_
  refine AX.keepA [9,10,11,12,13,14,16,18,19,158,159] ?_
  refine AX.skip ?_
  refine nmZ ?_
  refine AX.seq ?_
  refine AX.block ?_
  have hx:=Dg_getD hdt (k+i)
  have hy:=Dg_getD hdv i
  have htv:=val_take_step (digits v) i
  have hset:=fun z=>val_set t (k+i) z (by omega)
  generalize hxx:t.getD (k+i) 0=x at *
  generalize hyy:(digits v).getD i 0=y at *
  have hgb:=mul_bound hg hy
  have hki:((i:Nat):Int)+((k:Nat):Int)=((k+i:Nat):Int):=by omega
  obtain ⟨S,hS⟩:∃ S,S=c+g*y:=⟨_,rfl⟩
  have hS64:S<18446744073709551616:=by omega
  have hSd:S / 4294967296<4294967296:=by omega
  have hSm:S % 4294967296<4294967296:=Nat.mod_lt _ (by omega)
  refine AX.sR (rgA [9,10,11,12,13,14,16,18,19,20,158,159]) ?_
  refine AX.sR (rgW [9,10,11,12,13,14,16,18,19,20,158,159] (aI @hyy (aI @hvL (aI @cAdd (aI @cMul (aI hS.symm oT))))) oT) ?_
  obtain ⟨Y,hY⟩:∃ Y,Y=S % 4294967296+w:=⟨_,rfl⟩
  apply AX.sreg [9,10,11,12,13,14,16,18,19,20,21,158,159] (by simp only [pq];rfl)
  ·repeat (first
  |(apply RunO.op rfl;· rfl
    ·rfl
    iterate 2 (· (simp (disch:=omega) only [go_sem,i64_of,u32_of,u64_of,Nat.reduceLT,Nat.reduceLeDiff,Nat.reduceEqDiff,Nat.reduceAdd,Nat.reduceSub,Nat.reduceMul,Nat.reducePow,Nat.reduceBEq,Int.reduceLE,Int.reduceLT,Int.reduceToNat,Int.reduceEq,Int.reduceNeg,↓reduceIte,reduceCtorEq,and_lo S hS64,← Int.natCast_add,← hY];rfl))
    ·(simp only [pb,Nat.reduceLT,Nat.reduceAdd,reduceIte];rfl))
  |(apply RunO.skip;· rfl
    ·(simp only [pb,Nat.reduceLT,Nat.reduceAdd,reduceIte];rfl)))
   exact RunO.nil
  ·repeat (first | exact Keep.nil | (apply Keep.take;· rfl) | (apply Keep.drop;· rfl))
  refine AX.sR (rgA [9,10,11,12,13,14,16,18,19,20,21,158,159]) ?_
  refine AX.cut (fun st=>∃ w' z:Nat,w'≤1∧z<4294967296∧z+Y=x+w' * 4294967296∧st=⟨[(18,.i .u64 w'),(21,.i .u64 Y),(19,.i .u64 S),(20,.i .i64 i),(159,.i .i64 i),(158,.i .i64 L),(16,.i .u64 g),(14,.i .i64 k),(13,.own 2 0 (K+1-L) 1),(12,.i .i64 L),(11,nv v),(10,.own 0 0 (K+1) 1),(9,.i .u64 s)],[(2,⟨142,q.map u⟩),(0,⟨142,t.map u⟩)],3⟩) ?_ ?_
  ·by_cases hb:x<Y
   ·refine AX.sR (rgW [9,10,11,12,13,14,16,18,19,20,21,158,159,183] (aI @hki (aI @hxx oT)) oT) ?_
    refine AX.condT ?_
    refine AX.rR (rgA [9,10,11,12,13,14,16,18,19,20,21,158,159]) ?_
    exact ⟨rfl,1,x+4294967296-Y,by omega,by omega,by omega,rfl⟩
   ·refine AX.sR (rgW [9,10,11,12,13,14,16,18,19,20,21,158,159,183] (aI @hki (aI @hxx oT)) oT) ?_
    refine AX.condF ?_
    refine AX.keepA [9,10,11,12,13,14,16,18,19,20,21,158,159] ?_
    refine AX.skip ?_
    refine nmZ ?_
    first | exact ⟨rfl,0,x-Y,by omega,by omega,by omega,rfl⟩ | exact ⟨trivial,0,x-Y,by omega,by omega,by omega,rfl⟩
  rintro st ⟨w',z,hw',hz,hzY,rfl⟩
  have ez:((x:Nat):Int)+((w' * 4294967296:Nat):Int)-(Y:Int)=(z:Int):=by omega
  have ez2:z % 4294967296=z:=Nat.mod_eq_of_lt hz
  have e64:((x:Nat):Int)+((w' * 4294967296:Nat):Int)=((x+w' * 4294967296:Nat):Int):=by omega
  refine AX.sR (rgW [9,10,11,12,13,14,16,18,19,158,159] (aI @hki (aI @hxx (aI @shl32 (aI @ez (aI @u32n (aI @ez2 oT)))))) oT) ?_
  refine AX.rR (rgW [9,10,11,12,13,14,16,18,19,158,159] (aI @shr32 oT) oT) ?_
  refine nmZ ?_
  refine AX.rR (rgW [9,10,11,12,13,14,16,18,19,158,159] (aI @lit_add oT) oT) ?_
  refine nmZ ?_
  refine ⟨L-(i+1),_,id,by omega,
   leA
   , ⟨i+1,S / 4294967296,w',t.set (k+i) z,rfl,by omega,by simp [ht],Dg_set hdt (by omega),hSd,hw',?_,?_,rfl⟩⟩
  ·have:=congrArg (List.drop 1) hdrop
   rw [List.drop_drop,List.drop_drop] at this
   rw [← Nat.add_assoc,drop_set_succ,this]
  ·rw [htv,← Nat.add_assoc,Nat.pow_succ]
   exact takeaway_math hval (Nat.pow_add _ _ _) (hset z) hzY hY hS
 ·refine AX.sR (rgA [9,10,11,12,13,14,16,18,19,160]) ?_
  refine AX.seq ?_
  refine AX.condF ?_
  refine AX.keepA [9,10,11,12,13,14,16,18,19] ?_
  refine AX.exit ?_
  refine nmZ ?_
  have hiL:i=L:=by omega
  subst hiL
  rw [List.take_of_length_le (by omega),val_digits] at hval
  exact hQ c w t ht hdt hc hw hdrop hval
set_option maxHeartbeats 4000000 in
theorem back_step {c:Code} (hc:partB 127 7=some c) {O M:Nat→Prop} {w0:World} {K L k s v g:Nat} {r q:List Nat} (hK:K<2 ^ 37) (hk:k+L≤K) (hvL:(digits v).length=L)
  (hr:r.length=K+1) (hdr:Dg r) {Q:Exit→St→Prop}
  (hQ:∀ (c:Nat) (t:List Nat),t.length=K+1→Dg t→c≤1→t.drop (k+L)=r.drop (k+L)→val t+4294967296 ^ (k+L)*c=val r+4294967296 ^ k*v →
   Q (.exit 7) ⟨[(19,.i .u64 c),(16,.i .u64 g),(14,.i .i64 k),(13,.own 2 0 (K+1-L) 1),(12,.i .i64 L),(11,nv v),(10,.own 0 0 (K+1) 1),(9,.i .u64 s)],[(2,⟨142,q.map u⟩),(0,⟨142,t.map u⟩)],3⟩) :
  AX Tryz.prog ⟨315,O,M,w0,0,fun _=>none⟩ c ⟨[(236,.i .i64 0),(235,.i .i64 L),(19,.i .u64 0),(16,.i .u64 g),(14,.i .i64 k),(13,.own 2 0 (K+1-L) 1),(12,.i .i64 L),(11,nv v),(10,.own 0 0 (K+1) 1),(9,.i .u64 s)],[(2,⟨142,q.map u⟩),(0,⟨142,r.map u⟩)],3⟩ Q:=by
 simp only [partB,Tryz.func127,Option.bind_some,findB,if_true,if_false,Nat.reduceEqDiff,reduceIte] at hc
 cases hc
 have hdv:=Dg_digits v
 refine AX.loop (fun N st=>∃ (i c:Nat) (t:List Nat),N=L-i∧i≤L∧t.length=K+1∧Dg t∧c≤1∧t.drop (k+i)=r.drop (k+i)∧val t+4294967296 ^ (k+i)*c=val r+4294967296 ^ k*val ((digits v).take i) ∧
  st=⟨[(236,.i .i64 i),(235,.i .i64 L),(19,.i .u64 c),(16,.i .u64 g),(14,.i .i64 k),(13,.own 2 0 (K+1-L) 1),(12,.i .i64 L),(11,nv v),(10,.own 0 0 (K+1) 1),(9,.i .u64 s)],[(2,⟨142,q.map u⟩),(0,⟨142,t.map u⟩)],3⟩) L
  ⟨0,0,r,rfl,Nat.zero_le _,hr,hdr,by omega,rfl,by simp [val],rfl⟩ ?_
 rintro N st ⟨i,c,t,rfl,hi,ht,hdt,hc,hdrop,hval,rfl⟩
 by_cases h:i<L
 ·refine AX.sR (rgA [9,10,11,12,13,14,16,19,235,236,237]) ?_
  refine AX.seq ?_
  refine AX.condT ?_
  refine AX.keepA [9,10,11,12,13,14,16,19,235,236] ?_
  refine AX.skip ?_
  refine nmZ ?_
  refine AX.seq ?_
  refine AX.block ?_
  have hx:=Dg_getD hdt (k+i)
  have hy:=Dg_getD hdv i
  have htv:=val_take_step (digits v) i
  have hset:=fun z=>val_set t (k+i) z (by omega)
  generalize hxx:t.getD (k+i) 0=x at *
  generalize hyy:(digits v).getD i 0=y at *
  have hki:((i:Nat):Int)+((k:Nat):Int)=((k+i:Nat):Int):=by omega
  obtain ⟨S,hS⟩:∃ S,S=c+(x+y):=⟨_,rfl⟩
  have hS64:S<18446744073709551616:=by omega
  have hSd:S / 4294967296≤1:=by omega
  have hSm:S % 4294967296<4294967296:=Nat.mod_lt _ (by omega)
  refine AX.sR (rgA [9,10,11,12,13,14,16,19,24,235,236]) ?_
  refine AX.sD (rgDW [9,10,11,12,13,14,16,19,24,235,236] (aI @hki (aI @hxx (aI @hyy (aI @hvL (aI @cAdd (aI hS.symm oT)))))) oT) ?_
  refine AX.sR (rgW [9,10,11,12,13,14,16,19,24,235,236] (aI @hki (aI @u32n oT)) oT) ?_
  refine AX.rR (rgW [9,10,11,12,13,14,16,19,235,236] (aI @shr32 oT) oT) ?_
  refine nmZ ?_
  refine AX.rR (rgW [9,10,11,12,13,14,16,19,235,236] (aI @lit_add oT) oT) ?_
  refine nmZ ?_
  refine ⟨L-(i+1),_,id,by omega,
   leA
   , ⟨i+1,S / 4294967296,t.set (k+i) (S % 4294967296),rfl,by omega,by simp [ht],Dg_set hdt hSm,hSd,?_,?_,rfl⟩⟩
  ·have:=congrArg (List.drop 1) hdrop
   rw [List.drop_drop,List.drop_drop] at this
   rw [← Nat.add_assoc,drop_set_succ,this]
  ·have e:=mul_step (hset (S % 4294967296)) hS.symm
   rw [htv,← Nat.add_assoc,Nat.pow_succ,e,hval,Nat.mul_add,← Nat.mul_assoc,← Nat.pow_add,Nat.add_assoc]
 ·refine AX.sR (rgA [9,10,11,12,13,14,16,19,237]) ?_
  refine AX.seq ?_
  refine AX.condF ?_
  refine AX.keepA [9,10,11,12,13,14,16,19] ?_
  refine AX.exit ?_
  refine nmZ ?_
  have hiL:i=L:=by omega
  subst hiL
  rw [List.take_of_length_le (by omega),val_digits] at hval
  exact hQ c t ht hdt hc hdrop hval
end Go.Proofs.YteidabibgjokkaaGreatDoor
