import Derived.Test.YteidabibgjokkaaGreatDoorML
import Derived.Test.YteidabibgjokkaaGreatDoorMK
import Derived.Test.YteidabibgjokkaaGreatDoorMJ
set_option maxRecDepth 20000
set_option linter.all false
namespace Go.Proofs.YteidabibgjokkaaGreatDoor
open Go Go.Proofs.YteidabibgjokkaaGreatDoor.Lift
attribute [local irreducible] Lift.PCall Lift.HCall
theorem mkV_is (l:List Int):∃ (S:T2) (e:Int),mkV l=.tup [.agg [.sl (nx S)],.i .i64 e]∧S.length≤60∧((e=0∧isS S=true)∨((e=1∨e=2)∧S=[])):=by
 cases h:isO l
 ·exact ⟨[],1,by unfold mkV;rw [h];rfl,by decide,.inr ⟨.inl rfl,rfl⟩⟩
 ·have lv:=lvl_of h
  rw [mkV_eq h]
  generalize sumI l=n at *
  have key:∀ k j,60≤j+k→goes n l j→bgL n l (j+1)≤60→∃ j,goes n l j∧bgL n l (j+1)≤60∧(stopL n l j∨(¬ stopL n l j∧60<bgL n l (j+2))):=fun k=>by
   induction k with
   | zero=>
    intro j hj hg hb
    have:=goes_bg lv hg (j+1) (Nat.le_refl _)
    omega
   | succ k ih=>
    intro j hj hg hb
    by_cases hs:stopL n l j
    ·exact ⟨j,hg,hb,.inl hs⟩
    ·by_cases hb2:60<bgL n l (j+2)
     ·exact ⟨j,hg,hb,.inr ⟨hs,hb2⟩⟩
     ·refine ih (j+1) (by omega) (fun a ha=>?_) (by show bgL n l (j+2)≤60;omega)
      by_cases e:a=j
      ·subst e;exact ⟨hs,hb⟩
      ·exact hg a (by omega)
  obtain ⟨j,hg,hb,hj⟩:=key 60 0 (by omega) (fun i hi=>absurd hi (Nat.not_lt_zero _)) (by rw [show bgL n l (0+1)=1 from (Nat.zero_add _).trans lv.one];decide)
  rcases hj with hs | ⟨hs,hb2⟩
  ·rw [mk_stop lv hg hb hs]
   exact ⟨_,0,rfl,by rw [cat_length];exact hb,.inl ⟨rfl,cat_isS lv hg hb hs⟩⟩
  ·rw [mk_limit lv hg hb hs hb2]
   exact ⟨[],2,rfl,by decide,.inr ⟨.inr rfl,rfl⟩⟩
set_option maxHeartbeats 16000000 in
theorem coinMakes_ok (l:List Int)(hl:l.length<2 ^ 62)(hw:bW l)(T:T2)(hb:bT T)(hlT:T.length<2 ^ 62):PCallT TabP Tryz.prog 3 [.sl (wl l),smp T] (.b true):=by
 have hSt:=tabP_st
 have hml:=wl_length l
 have hmT:=nx_length T
 refine PCallT.of_ax Tryz.call3 Tryz.func3 rfl (by simp [Tryz.ntmps3]) fun O w hPh=>?_
 simp only [Tryz.ntmps3,Tryz.results3,argFr]
 by_cases h80:80<l.length
 ·unfold smp at *
  generalize wl l=A at *
  generalize nx T=B at *
  refine AX.sR (rgAV [0,3]) ?_
  refine AX.seq ?_
  refine AX.sR (rgWV [0,3,17] (aI @hml oT) oT) ?_
  refine AX.condT ?_
  refine AX.sR (rgAV [4]) ?_
  refine AX.ret ⟨.inl rfl,?_⟩
  exact Done.one rfl rfl rfl rfl
 by_cases h100:100<T.length
 ·unfold smp at *
  generalize wl l=A at *
  generalize nx T=B at *
  refine AX.sR (rgAV [0,3]) ?_
  refine AX.seq ?_
  refine AX.sR (rgWV [0,3,17] (aI @hml (aI @hmT oT)) oT) ?_
  refine AX.condT ?_
  refine AX.sR (rgAV [4]) ?_
  refine AX.ret ⟨.inl rfl,?_⟩
  exact Done.one rfl rfl rfl rfl
 have cM:PCallT TabP Tryz.prog 11 [.sl (wl l)] (mkV l):=by
  cases h:isO l
  ·exact (make_bad l h hl hw).toT
  ·exact makeT_ok l h
 have cR:=make29_ok l hl hw
 have cal:=calive_ok
 have k1:=cright_smp T hlT hb
 have k2:=of29_ok (nx T)
 have k3:=right29_ok T hlT hb
 obtain ⟨S,e,hmk,hS60,hSe⟩:=mkV_is l
 rw [hmk] at cM cR
 have k4:=sameNext_ok S hS60
 generalize isS T=b at *
 rcases hSe with ⟨rfl,hS⟩ | ⟨he,rfl⟩
 ·have hbS:bT S:=fun x hx=>by have:=(isS_iff.1 hS).2.2 x hx;omega
  have k5:=cright_smp S (by omega) hbS
  rw [hS] at k5
  unfold smp at *
  generalize wl l=A at *
  generalize nx T=B at *
  generalize nx S=D at *
  refine AX.sR (rgAV [0,3]) ?_
  refine AX.seq ?_
  refine AX.sR (rgWV [0,3,17] (aI @hml (aI @hmT oT)) oT) ?_
  refine AX.condF ?_
  refine AX.keepA [0,3] ?_
  refine AX.skip ?_
  refine nmZ ?_
  apply AX.sregS [0,3,5,6] (by simp only [pq];rfl)
  ·repeat (first
  |(apply RunS.op rfl;· rfl
    ·(simp only [opsOf,valsOf,valOf,lkp,ofConst,ofCell,Array.toList,Option.toList,List.map_cons,List.map_nil,List.cons_append,List.nil_append,List.append_nil,Nat.reduceEqDiff,Nat.reducePow,Nat.reduceLT,Nat.reduceLeDiff,reduceIte,if_true,if_false,IntKind.min,IntKind.max,IntKind.bits,IntKind.signed,Int.reduceLE,Int.reduceNeg,Int.reducePow,Int.reduceSub,and_self,Bool.false_eq_true,Nat.reduceSub];rfl)
    iterate 2 (· (simp (disch:=omega) only [go_sem,i64_of,u32_of,u64_of,Nat.reduceLT,Nat.reduceLeDiff,Nat.reduceEqDiff,Nat.reduceAdd,Nat.reduceSub,Nat.reduceMul,Nat.reducePow,Nat.reduceBEq,Int.reduceLE,Int.reduceLT,Int.reduceToNat,Int.reduceEq,Int.reduceNeg,↓reduceIte,reduceCtorEq];rfl))
    ·(simp only [pb,Nat.reduceLT,Nat.reduceAdd,reduceIte];rfl))
  |(apply RunS.callT rfl;· rfl
    ·(simp only [opsOf,valsOf,valOf,lkp,ofConst,ofCell,Array.toList,Option.toList,List.map_cons,List.map_nil,List.cons_append,List.nil_append,List.append_nil,Nat.reduceEqDiff,Nat.reducePow,Nat.reduceLT,Nat.reduceLeDiff,reduceIte,if_true,if_false,IntKind.min,IntKind.max,IntKind.bits,IntKind.signed,Int.reduceLE,Int.reduceNeg,Int.reducePow,Int.reduceSub,and_self,Bool.false_eq_true,Nat.reduceSub];rfl)
    ·rfl
    ·exact cM
    ·exact hPh
    ·exact hSt
    ·exact fun _ h=>h
    ·rfl
    ·(simp only [pb,Nat.reduceLT,Nat.reduceAdd,reduceIte];rfl))
  |(apply RunS.skip;· rfl
    ·(simp only [pb,Nat.reduceLT,Nat.reduceAdd,reduceIte];rfl)))
   exact RunS.nil
  ·repeat (first | exact Keep.nil | (apply Keep.take;· rfl) | (apply Keep.drop;· rfl))
  refine AX.sR (rgCV [3,5,6,7,8] (aI cR oT)) ?_
  cases b
  ·refine AX.sD (rgDCV [4] (aI k4 (aI k1 (aI k2 (aI k3 (aI k5 (aI cal oT))))))) ?_
   refine AX.ret ⟨.inl rfl,?_⟩
   exact Done.one rfl rfl rfl rfl
  ·refine AX.sD (rgDCV [4] (aI k4 (aI k1 (aI k2 (aI k3 (aI k5 (aI cal oT))))))) ?_
   refine AX.ret ⟨.inl rfl,?_⟩
   exact Done.one rfl rfl rfl rfl
 ·have he0:¬ e=0:=by omega
  have hnil:nx []=[]:=rfl
  rw [hnil] at cM cR k4
  unfold smp at *
  generalize wl l=A at *
  generalize nx T=B at *
  refine AX.sR (rgAV [0,3]) ?_
  refine AX.seq ?_
  refine AX.sR (rgWV [0,3,17] (aI @hml (aI @hmT oT)) oT) ?_
  refine AX.condF ?_
  refine AX.keepA [0,3] ?_
  refine AX.skip ?_
  refine nmZ ?_
  apply AX.sregS [0,3,5,6] (by simp only [pq];rfl)
  ·repeat (first
  |(apply RunS.op rfl;· rfl
    ·(simp only [opsOf,valsOf,valOf,lkp,ofConst,ofCell,Array.toList,Option.toList,List.map_cons,List.map_nil,List.cons_append,List.nil_append,List.append_nil,Nat.reduceEqDiff,Nat.reducePow,Nat.reduceLT,Nat.reduceLeDiff,reduceIte,if_true,if_false,IntKind.min,IntKind.max,IntKind.bits,IntKind.signed,Int.reduceLE,Int.reduceNeg,Int.reducePow,Int.reduceSub,and_self,Bool.false_eq_true,Nat.reduceSub];rfl)
    iterate 2 (· (simp (disch:=omega) only [go_sem,i64_of,u32_of,u64_of,Nat.reduceLT,Nat.reduceLeDiff,Nat.reduceEqDiff,Nat.reduceAdd,Nat.reduceSub,Nat.reduceMul,Nat.reducePow,Nat.reduceBEq,Int.reduceLE,Int.reduceLT,Int.reduceToNat,Int.reduceEq,Int.reduceNeg,↓reduceIte,reduceCtorEq];rfl))
    ·(simp only [pb,Nat.reduceLT,Nat.reduceAdd,reduceIte];rfl))
  |(apply RunS.callT rfl;· rfl
    ·(simp only [opsOf,valsOf,valOf,lkp,ofConst,ofCell,Array.toList,Option.toList,List.map_cons,List.map_nil,List.cons_append,List.nil_append,List.append_nil,Nat.reduceEqDiff,Nat.reducePow,Nat.reduceLT,Nat.reduceLeDiff,reduceIte,if_true,if_false,IntKind.min,IntKind.max,IntKind.bits,IntKind.signed,Int.reduceLE,Int.reduceNeg,Int.reducePow,Int.reduceSub,and_self,Bool.false_eq_true,Nat.reduceSub];rfl)
    ·rfl
    ·exact cM
    ·exact hPh
    ·exact hSt
    ·exact fun _ h=>h
    ·rfl
    ·(simp only [pb,Nat.reduceLT,Nat.reduceAdd,reduceIte];rfl))
  |(apply RunS.skip;· rfl
    ·(simp only [pb,Nat.reduceLT,Nat.reduceAdd,reduceIte];rfl)))
   exact RunS.nil
  ·repeat (first | exact Keep.nil | (apply Keep.take;· rfl) | (apply Keep.drop;· rfl))
  refine AX.sR (rgCV [3,5,6,7,8] (aI cR oT)) ?_
  cases b
  ·refine AX.sD (rgDCV [4] (aI k4 (aI k1 (aI k2 (aI k3 (aI cal oT)))))) ?_
   refine AX.ret ⟨.inl rfl,?_⟩
   exact Done.one rfl rfl rfl rfl
  ·refine AX.sD (rgDCV [4] (aI k4 (aI k1 (aI k2 (aI k3 (aI cal oT)))))) ?_
   refine AX.ret ⟨.inl rfl,?_⟩
   exact Done.one rfl rfl rfl rfl
end Go.Proofs.YteidabibgjokkaaGreatDoor
