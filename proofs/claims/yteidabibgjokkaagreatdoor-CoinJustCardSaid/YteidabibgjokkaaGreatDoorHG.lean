import Derived.Test.YteidabibgjokkaaGreatDoorHE
set_option maxRecDepth 20000
set_option linter.all false
namespace Go.Proofs.YteidabibgjokkaaGreatDoor
open Go Go.Proofs.YteidabibgjokkaaGreatDoor.Lift
attribute [local irreducible] Lift.PCall Lift.HCall
def bigL (n L:Nat):Nat:=2 ^ n*(3*(4 ^ n*(L+1))+1)
theorem aug_len {n c L:Nat} {A B:Mx} (hA:∀ i j,i<n→j<n→rL (A i j)≤L)(hB:∀ i j,i<n→j<c→rL (B i j)≤L):∀ i j,i<n→j<n+c→rL (aug n A B i j)≤L:=by
 intro i j hi hj
 unfold aug
 split
 ·exact hA i j hi (by omega)
 ·exact hB i (j-n) hi (by omega)
theorem U_le (n L:Nat):4 ^ n*(L+1)+1≤bigL n L:=by
 have h:1*(3*(4 ^ n*(L+1))+1)≤bigL n L:=Nat.mul_le_mul_right _ Nat.one_le_two_pow
 omega
theorem fin_spec {n c L:Nat} {A B:Mx} (hN:NonSing n A) (hA:∀ i j,i<n→j<n→rL (A i j)≤L) (hB:∀ i j,i<n→j<c→rL (B i j)≤L) (hL1:1≤L) :
  (∀ i,i<n→fin n A B i i≠0)∧(∀ i q,i<n→q<c→(sumN n fun k=>A i k*solX n A B k q)=B i q)∧(∀ i j,i<n→j<n+c→rL (fin n A B i j)≤bigL n L):=by
 obtain ⟨e1,e2,e3,_⟩:=elim_spec (w:=n+c) (by omega) (aug_nonsing (B:=B) hN) (aug_len hA hB) hL1 n (Nat.le_refl _)
 have hU:∀ i j,i<n→j<n+c→rL ((elim n (aug n A B) n).1 i j)≤4 ^ n*(L+1):=fun i j hi hj=>by have:=e3 i j hi hj;omega
 have hU1:1≤4 ^ n*(L+1):=by
  have:1*(L+1)≤4 ^ n*(L+1):=Nat.mul_le_mul_right _ (Nat.pow_pos (by omega))
  omega
 obtain ⟨b1,b2,b3,_⟩:=bakS_spec (w:=n+c) (by omega) e2 hU hU1 n (Nat.le_refl _)
 have hd:∀ i,i<n→fin n A B i i=(elim n (aug n A B) n).1 i i:=fun i hi=>by
  show bakS n _ n i i=_
  rw [b2 i i hi hi,if_neg (fun h=>h.1 rfl)]
 have h0:∀ i,i<n→fin n A B i i≠0:=fun i hi=>by rw [hd i hi];exact (e2 i hi).1
 refine ⟨h0,fun i q hi hq=>?_,fun i j hi hj=>?_⟩
 ·have hoff:∀ i j,i<n→j<n→i≠j→fin n A B i j=0:=fun i j hi hj hne=>by
   show bakS n _ n i j=0
   rw [b2 i j hi hj,if_pos ⟨hne,by omega⟩]
  have:=diag_sol (e1.trans b1) h0 hoff (q:=n+q) hi
  have e:aug n A B i (n+q)=B i q:=by unfold aug;rw [if_neg (by omega),Nat.add_sub_cancel_left]
  rw [e] at this
  rw [← this]
  refine sumN_congr fun k hk=>?_
  have e:aug n A B i k=A i k:=by unfold aug;rw [if_pos hk]
  rw [e]
  rfl
 ·have hb:=U_le n L
  by_cases hjn:j<n
  ·show rL (bakS n _ n i j)≤_
   rw [b2 i j hi hjn]
   split
   ·have z:rL 0≤1:=by
     have:rL (rq false 0 1)≤1:=rL_rq (by rw [digits_zero];exact Nat.zero_le _) (by rw [show (1:Nat)=0+1 from rfl];exact digits_length_le (by decide)) (Nat.le_refl _)
     exact this
    omega
   ·have:=hU i j hi hj
    omega
  ·have:=b3 i j hi (by omega) hj
   show rL (bakS n _ n i j)≤_
   unfold bigL
   omega
set_option maxHeartbeats 16000000 in
theorem solved_ok (n c L:Nat) (hn:n≤60) (hc:c≤60) (A B:Mx) (hN:NonSing n A) (hA:∀ i j,i<n→j<n→rL (A i j)≤L) (hB:∀ i j,i<n→j<c→rL (B i j)≤L) (hL1:1≤L) (hL2:4*bigL n L<2 ^ 33) :
  PCall Tryz.prog 164 [qM n n A,qM n c B] (.tup [qM n c (solX n A B),.b true]) []:=by
 have hU0:=U_le n L
 have hU1:1*(L+1)≤4 ^ n*(L+1):=Nat.mul_le_mul_right _ (Nat.pow_pos (by omega))
 obtain ⟨f1,_,f3⟩:=fin_spec hN hA hB hL1
 obtain ⟨e1,e2,e3,_⟩:=elim_spec (w:=n+c) (by omega) (aug_nonsing (B:=B) hN) (aug_len hA hB) hL1 n (Nat.le_refl _)
 have hU:∀ i j,i<n→j<n+c→rL ((elim n (aug n A B) n).1 i j)≤4 ^ n*(L+1):=fun i j hi hj=>by have:=e3 i j hi hj;omega
 have bspec:=bakS_spec (w:=n+c) (by omega) e2 hU (by omega)
 have cfill:=filled_own n (n+c) (by omega) (by omega) 172 [.rp [.i .i64 n],.rp [.i .i64 n,.i .i64 n,.sl ((mcells n A (n*n)).map rV)],.rp [.i .i64 n,.i .i64 c,.sl ((mcells c B (n*c)).map rV)]] (aug n A B) rfl
  (fun i k hi hk=>solved1_ok n c L (by omega) (by omega) A B i k hi hk hA hB (by omega))
 have csteps:=steps_ok n (n+c) L (by omega) (by omega) (by omega) (aug n A B) (aug_nonsing hN) (aug_len hA hB) hL1 (by omega)
 have cfin:=filled_ok n c (by omega) (by omega) 176 [.rp [.i .i64 n,.i .i64 (n+c:Nat),.sl ((mcells (n+c) (fin n A B) (n*(n+c))).map rV)],.rp [.i .i64 n]] (solX n A B) rfl
  (fun i k hi hk=>solved2_ok n (n+c) (bigL n L) (by omega) (by omega) (fin n A B) i k hi (by omega) f3 (by omega) (by omega) (f1 i hi))
 have hfinE:fin n A B=bakS n (elim n (aug n A B) n).1 n:=rfl
 refine PCall.of_ax Tryz.call164 Tryz.func164 rfl (by simp [Tryz.ntmps164]) fun O w0=>?_
 simp only [Tryz.ntmps164,Tryz.results164,argFr]
 have ew:(n:Int)+(c:Int)=((n+c:Nat):Int):=(Int.natCast_add n c).symm
 have kb:n*(n+c)≤60*120:=Nat.mul_le_mul hn (by omega)
 have hnw:n≤n+c:=by omega
 generalize fin n A B=F at *
 generalize solX n A B=X at *
 generalize aug n A B=G0 at *
 generalize (elim n G0 n).1=T at *
 generalize (elim n G0 n).2=o at *
 generalize n+c=w at *
 refine AX.sR (rgAV [2,3,4]) ?_
 refine AX.sR (rgAV [2,3,4,6]) ?_
 refine AX.fz 3 (fr':=[(6,.rp [.i .i64 n]),(4,.ptr 2 0),(3,.ptr 1 0),(2,.ptr 0 0)]) (hp':=[(2,⟨41,[.i .i64 0,.i .i64 0,.nl]⟩),(1,⟨41,[.i .i64 n,.i .i64 c,.sl ((mcells c B (n*c)).map rV)]⟩),(0,⟨41,[.i .i64 n,.i .i64 n,.sl ((mcells n A (n*n)).map rV)]⟩)]) rfl rfl (.cons rfl (.ptr rfl) (.cons rfl .same (.cons rfl .same (.cons rfl .same .nil)))) (.keep (by decide) rfl (.keep (by decide) rfl (.keep (by decide) rfl .nil))) ?_
 refine AX.fz 1 (fr':=[(6,.rp [.i .i64 n]),(4,.ptr 2 0),(3,.rp [.i .i64 n,.i .i64 c,.sl ((mcells c B (n*c)).map rV)]),(2,.ptr 0 0)]) (hp':=[(2,⟨41,[.i .i64 0,.i .i64 0,.nl]⟩),(0,⟨41,[.i .i64 n,.i .i64 n,.sl ((mcells n A (n*n)).map rV)]⟩)]) rfl rfl (.cons rfl .same (.cons rfl .same (.cons rfl (.ptr rfl) (.cons rfl .same .nil)))) (.keep (by decide) rfl (.keep (by decide) rfl .nil)) ?_
 refine AX.fz 0 (fr':=[(6,.rp [.i .i64 n]),(4,.ptr 2 0),(3,.rp [.i .i64 n,.i .i64 c,.sl ((mcells c B (n*c)).map rV)]),(2,.rp [.i .i64 n,.i .i64 n,.sl ((mcells n A (n*n)).map rV)])]) (hp':=[(2,⟨41,[.i .i64 0,.i .i64 0,.nl]⟩)]) rfl rfl (.cons rfl .same (.cons rfl .same (.cons rfl .same (.cons rfl (.ptr rfl) .nil)))) (.keep (by decide) rfl .nil) ?_
 generalize hBc:(mcells c B (n*c)).map rV=Bc at *
 generalize (mcells n A (n*n)).map rV=Ac at *
 refine AX.sR (rgWV [3,4,6,7] (aI @ew (aI @ren_q oT)) (aI cfill oT)) ?_
 refine AX.seq ?_
 apply AX.sreg [3,4,6,7,8] (by simp only [pq];rfl)
 ·repeat (first
 |(apply RunO.op rfl;· rfl
   ·(simp only [opsOf,valsOf,valOf,lkp,ofConst,ofCell,Array.toList,Option.toList,List.map_cons,List.map_nil,List.cons_append,List.nil_append,List.append_nil,Nat.reduceEqDiff,Nat.reducePow,Nat.reduceLT,Nat.reduceLeDiff,reduceIte,if_true,if_false,IntKind.min,IntKind.max,IntKind.bits,IntKind.signed,Int.reduceLE,Int.reduceNeg,Int.reducePow,Int.reduceSub,and_self,Bool.false_eq_true,Nat.reduceSub];rfl)
   iterate 2 (· (simp (disch:=omega) only [go_sem,i64_of,u32_of,u64_of,Nat.reduceLT,Nat.reduceLeDiff,Nat.reduceEqDiff,Nat.reduceAdd,Nat.reduceSub,Nat.reduceMul,Nat.reducePow,Nat.reduceBEq,Int.reduceLE,Int.reduceLT,Int.reduceToNat,Int.reduceEq,Int.reduceNeg,↓reduceIte,reduceCtorEq];rfl))
   ·(simp only [pb,Nat.reduceLT,Nat.reduceAdd,reduceIte];rfl))
 |(apply RunO.gcall [4] rfl;· rfl
   ·(simp only [opsOf,valsOf,valOf,lkp,ofConst,ofCell,Array.toList,Option.toList,List.map_cons,List.map_nil,List.cons_append,List.nil_append,List.append_nil,Nat.reduceEqDiff,Nat.reducePow,Nat.reduceLT,Nat.reduceLeDiff,reduceIte,if_true,if_false,IntKind.min,IntKind.max,IntKind.bits,IntKind.signed,Int.reduceLE,Int.reduceNeg,Int.reducePow,Int.reduceSub,and_self,Bool.false_eq_true,Nat.reduceSub];rfl)
   ·exact csteps
   ·first | rfl | (simp only [Row.ren,V.ren,V.renL,renS,ren_q,renL_u];rfl)
   ·first | rfl | (simp only [V.lt,V.ltL,ltS,lt_q,ltL_u];rfl)
   ·decide
   ·repeat' (first | exact trivial | rfl | (simp only [Row.ren,V.ren,V.renL,renS,ren_q,renL_u];done) | (simp only [Row.ren,V.ren,V.renL,renS,ren_q,renL_u];rfl) | (simp only [V.lt,V.ltL,ltS,lt_q,ltL_u];done) | apply And.intro)
   ·first | rfl | (simp only [Row.ren,V.ren,V.renL,renS,ren_q,renL_u];rfl)
   ·(simp only [setRows,setL,Row.ren,V.ren,V.renL,renS,ren_q,renL_u,pb,Nat.reduceLT,Nat.reduceAdd,Nat.reduceEqDiff,reduceIte];rfl))
 |(apply RunO.skip;· rfl
   ·(simp only [pb,Nat.reduceLT,Nat.reduceAdd,reduceIte];rfl)))
  exact RunO.nil
 ·repeat (first | exact Keep.nil | (apply Keep.take;· rfl) | (apply Keep.drop;· rfl))
 refine AX.sR (rgAV [3,4,6,7,29]) ?_
 refine AX.condF ?_
 refine AX.keepA [3,4,6,7] ?_
 refine AX.skip ?_
 refine nmZ ?_
 refine AX.seq ?_
 refine AX.sR (rgAV [3,4,6,7,10]) ?_
 clear cfill csteps
 refine AX.weaken id (st':=⟨[(10,.i .i64 ((n:Int)-1-(0:Nat))),(7,.ptr 5 0),(6,.rp [.i .i64 n]),(4,.ptr 2 0),(3,.rp [.i .i64 n,.i .i64 c,.sl Bc])],[(5,⟨41,[.i .i64 n,.i .i64 w,.own 4 0 (n*w) 3]⟩),(4,⟨54,qrow (mcells w T (n*w))⟩),(2,⟨41,[.i .i64 0,.i .i64 0,.nl]⟩)],6⟩)
  leQ1
  ?_
 refine AX.block ?_
 refine AX.loop (fun N st=>∃ (s:Nat) (B:Mx),s≤n∧N=n-s∧bakS n T s=B∧st=⟨[(10,.i .i64 ((n:Int)-1-(s:Nat))),(7,.ptr 5 0),(6,.rp [.i .i64 n]),(4,.ptr 2 0),(3,.rp [.i .i64 n,.i .i64 c,.sl Bc])],[(5,⟨41,[.i .i64 n,.i .i64 w,.own 4 0 (n*w) 3]⟩),(4,⟨54,qrow (mcells w B (n*w))⟩),(2,⟨41,[.i .i64 0,.i .i64 0,.nl]⟩)],6⟩) n ⟨0,T,Nat.zero_le _,rfl,rfl,rfl⟩ ?_
 rintro N st ⟨s,B,hs,rfl,hB,rfl⟩
 refine AX.seq ?_
 by_cases h1:s<n
 ·obtain ⟨b1,b2,b3,b4⟩:=bspec s hs
  have b4:=fun t i j=>b4 t i j h1
  rw [hB] at b2 b4
  obtain ⟨i,hi⟩:∃ i,n-1-s=i:=⟨_,rfl⟩
  rw [hi] at b4
  have ei:(n:Int)-1-(s:Nat)=(i:Int):=by omega
  have hin:i<n:=by omega
  have hii:B i i≠0:=by
   rw [b2 i i hin hin,if_neg (fun h=>h.1 rfl)]
   exact (e2 i hin).1
  have hnext:bakS n T (s+1)=bakTo B i i:=by rw [bakS,hB,hi]
  have hpow:2*2 ^ s*(3*(4 ^ n*(L+1))+1)≤bigL n L:=by
   unfold bigL
   refine Nat.mul_le_mul_right _ ?_
   rw [← Nat.pow_succ']
   exact Nat.pow_le_pow_right (by omega) h1
  have hbt:=bakTo_spec hii
  rw [ei]
  refine AX.sR (rgAV [3,4,6,7,10,34]) ?_
  refine AX.condT ?_
  refine AX.keepA [3,4,6,7,10] ?_
  refine AX.skip ?_
  refine nmZ ?_
  refine AX.seq ?_
  refine AX.block ?_
  refine AX.sR (rgAV [3,4,6,7,10,37,38]) ?_
  refine AX.block ?_
  refine AX.loop (fun N st=>∃ (t:Nat) (B2:Mx),t≤i∧N=i-t∧bakTo B i t=B2∧st=⟨[(38,.i .i64 t),(37,.i .i64 i),(10,.i .i64 i),(7,.ptr 5 0),(6,.rp [.i .i64 n]),(4,.ptr 2 0),(3,.rp [.i .i64 n,.i .i64 c,.sl Bc])],[(5,⟨41,[.i .i64 n,.i .i64 w,.own 4 0 (n*w) 3]⟩),(4,⟨54,qrow (mcells w B2 (n*w))⟩),(2,⟨41,[.i .i64 0,.i .i64 0,.nl]⟩)],6⟩) i ⟨0,B,Nat.zero_le _,rfl,rfl,rfl⟩ ?_
  rintro N st ⟨t,B2,ht,rfl,hB2,rfl⟩
  by_cases h2:t<i
  ·have hB2i:B2 i=B i:=by rw [← hB2];exact (hbt t ht).1 i (by omega)
   have hclr:=clear_ok n w i t i (bigL n L) (by omega) (by omega) B2 hin (by omega) (by omega) (by omega) (by rw [hB2i];exact hii) (fun i' j' hi' hj'=>by
    have:=b4 t i' j' (by omega) hi' hj'
    rw [hB2] at this
    omega) (by omega) (by omega)
   have hnx:bakTo B i (t+1)=clearM B2 i t (B2 t i / B2 i i):=by rw [bakTo,hB2]
   obtain ⟨B3,hB3⟩:∃ B3,clearM B2 i t (B2 t i / B2 i i)=B3:=⟨_,rfl⟩
   rw [hB3] at hclr hnx
   refine AX.sR (rgAV [3,4,6,7,10,37,38,39]) ?_
   refine AX.seq ?_
   refine AX.condT ?_
   refine AX.keepA [3,4,6,7,10,37,38] ?_
   refine AX.skip ?_
   refine nmZ ?_
   refine AX.seq ?_
   refine AX.block ?_
   refine AX.sR (rgAV [3,4,6,7,10,11,37,38]) ?_
   apply AX.reg [3,4,6,7,10,37,38] (by simp only [pq];rfl)
   ·repeat (first
   |(apply RunO.op rfl;· rfl
     ·(simp only [opsOf,valsOf,valOf,lkp,ofConst,ofCell,Array.toList,Option.toList,List.map_cons,List.map_nil,List.cons_append,List.nil_append,List.append_nil,Nat.reduceEqDiff,Nat.reducePow,Nat.reduceLT,Nat.reduceLeDiff,reduceIte,if_true,if_false,IntKind.min,IntKind.max,IntKind.bits,IntKind.signed,Int.reduceLE,Int.reduceNeg,Int.reducePow,Int.reduceSub,and_self,Bool.false_eq_true,Nat.reduceSub];rfl)
     iterate 2 (· (simp (disch:=omega) only [go_sem,i64_of,u32_of,u64_of,Nat.reduceLT,Nat.reduceLeDiff,Nat.reduceEqDiff,Nat.reduceAdd,Nat.reduceSub,Nat.reduceMul,Nat.reducePow,Nat.reduceBEq,Int.reduceLE,Int.reduceLT,Int.reduceToNat,Int.reduceEq,Int.reduceNeg,↓reduceIte,reduceCtorEq];rfl))
     ·(simp only [pb,Nat.reduceLT,Nat.reduceAdd,reduceIte];rfl))
   |(apply RunO.gcall [4] rfl;· rfl
     ·(simp only [opsOf,valsOf,valOf,lkp,ofConst,ofCell,Array.toList,Option.toList,List.map_cons,List.map_nil,List.cons_append,List.nil_append,List.append_nil,Nat.reduceEqDiff,Nat.reducePow,Nat.reduceLT,Nat.reduceLeDiff,reduceIte,if_true,if_false,IntKind.min,IntKind.max,IntKind.bits,IntKind.signed,Int.reduceLE,Int.reduceNeg,Int.reducePow,Int.reduceSub,and_self,Bool.false_eq_true,Nat.reduceSub];rfl)
     ·exact hclr
     ·first | rfl | (simp only [Row.ren,V.ren,V.renL,renS,ren_q,renL_u];rfl)
     ·first | rfl | (simp only [V.lt,V.ltL,ltS,lt_q,ltL_u];rfl)
     ·decide
     ·repeat' (first | exact trivial | rfl | (simp only [Row.ren,V.ren,V.renL,renS,ren_q,renL_u];done) | (simp only [Row.ren,V.ren,V.renL,renS,ren_q,renL_u];rfl) | (simp only [V.lt,V.ltL,ltS,lt_q,ltL_u];done) | apply And.intro)
     ·first | rfl | (simp only [Row.ren,V.ren,V.renL,renS,ren_q,renL_u];rfl)
     ·(simp only [setRows,setL,Row.ren,V.ren,V.renL,renS,ren_q,renL_u,pb,Nat.reduceLT,Nat.reduceAdd,Nat.reduceEqDiff,reduceIte];rfl))
   |(apply RunO.skip;· rfl
     ·(simp only [pb,Nat.reduceLT,Nat.reduceAdd,reduceIte];rfl)))
    exact RunO.nil
   ·repeat (first | exact Keep.nil | (apply Keep.take;· rfl) | (apply Keep.drop;· rfl))
   refine nmZ ?_
   refine AX.rR (rgWV [3,4,6,7,10,37,38] (aI @lit_add oT) oT) ?_
   refine nmZ ?_
   refine ⟨_,_,id,?_,
    leQ1
    , ⟨t+1,B3,by omega,rfl,hnx,rfl⟩⟩
   omega
  ·have e:t=i:=by omega
   subst e
   rw [hB2] at hnext
   refine AX.sR (rgAV [3,4,6,7,10,37,38,39]) ?_
   refine AX.seq ?_
   refine AX.condF ?_
   refine AX.exit ?_
   refine nmZ ?_
   refine AX.rR (rgAV [3,4,6,7,10]) ?_
   refine nmZ ?_
   refine ⟨_,_,id,?_,
    leQ1
    , ⟨s+1,B2,by omega,rfl,hnext,rfl⟩⟩
   omega
 ·have e:s=n:=by omega
  subst e
  have hBF:B=F:=by rw [← hB,hfinE]
  subst hBF
  have ei:(s:Int)-1-(s:Nat)=-1:=by omega
  rw [ei]
  refine AX.sR (rgAV [3,4,6,7,10,34]) ?_
  refine AX.condF ?_
  refine AX.exit ?_
  refine nmZ ?_
  refine AX.fz 4 (fr':=[(7,.ptr 5 0),(6,.rp [.i .i64 s]),(4,.ptr 2 0),(3,.rp [.i .i64 s,.i .i64 c,.sl Bc])]) (hp':=[(5,⟨41,[.i .i64 s,.i .i64 w,.sl ((mcells w B (s*w)).map rV)]⟩),(2,⟨41,[.i .i64 0,.i .i64 0,.nl]⟩)]) rfl (hf_q _) (.cons rfl .same (.cons rfl .same (.cons rfl .same (.cons rfl .same .nil)))) (.cons (by decide) rfl rfl rfl ?_ (.keep (by decide) rfl .nil)) ?_
  ·intro k hk
   have:k=0∨k=1∨k=2:=by simp at hk;omega
   rcases this with rfl | rfl | rfl
   ·exact .same
   ·exact .same
   ·have hq:=okFrz_q (mcells w B (s*w))
    rw [mcells_length] at hq
    exact .own hq (by rw [List.drop_zero,qtk,qch])
  refine AX.fz 5 (fr':=[(7,.rp [.i .i64 s,.i .i64 w,.sl ((mcells w B (s*w)).map rV)]),(6,.rp [.i .i64 s]),(4,.ptr 2 0),(3,.rp [.i .i64 s,.i .i64 c,.sl Bc])]) (hp':=[(2,⟨41,[.i .i64 0,.i .i64 0,.nl]⟩)]) rfl rfl (.cons rfl (.ptr rfl) (.cons rfl .same (.cons rfl .same (.cons rfl .same .nil)))) (.keep (by decide) rfl .nil) ?_
  refine AX.sR (rgCV [4,5] (aI cfin oT)) ?_
  refine AX.ret ⟨.inl rfl,?_⟩
  exact dnQ1
def toRT (q:Rat):RT:=(decide (q.num<0),digits q.num.natAbs,digits q.den)
theorem map_toRT (xs:List Rat):(xs.map toRT).map fR=xs.map rV:=by rw [List.map_map];rfl
theorem isR3_toRT (q:Rat):isR3 (toRT q)=true:=by
 show isR (decide (q.num<0)) (digits q.num.natAbs) (digits q.den)=true
 unfold isR
 have h1:0<(digits q.den).length:=Nat.pos_of_ne_zero fun e=>q.den_nz (digits_len_zero.1 e)
 have h2:gcd1 (Nat.gcd (val (digits q.num.natAbs)) (val (digits q.den)))=true:=by
  rw [val_digits,val_digits]
  exact decide_eq_true q.reduced
 have h3:(!decide (q.num<0) || decide (0<(digits q.num.natAbs).length))=true:=by
  by_cases h:q.num<0
  ·have:0<(digits q.num.natAbs).length:=Nat.pos_of_ne_zero fun e=>by have:=digits_len_zero.1 e;omega
   rw [decide_eq_true this,Bool.or_true]
  ·rw [decide_eq_false h]
   rfl
 rw [right_digits,right_digits,decide_eq_true h1,h2,h3]
 rfl
theorem okX_toRT {xs:List Rat} (h:∀ q ∈ xs,rL q<2 ^ 36):okX (xs.map toRT):=by
 intro x hx
 obtain ⟨q,hq,rfl⟩:=List.mem_map.1 hx
 have:=h q hq
 exact ⟨Dg_digits _,Dg_digits _,Nat.lt_of_le_of_lt (Nat.le_max_left _ _) this,Nat.lt_of_le_of_lt (Nat.le_max_right _ _) this⟩
theorem isM_toRT {r c:Nat} (hr:r≤60)(hc:c≤60)(f:Mx):isM r c ((mcells c f (r*c)).map toRT)=true:=by
 unfold isM
 rw [decide_eq_true ⟨by omega,by omega,by omega,by omega,by rw [List.length_map,mcells_length,Int.natCast_mul]⟩]
 rw [Bool.true_and,List.all_eq_true]
 intro x hx
 obtain ⟨q,_,rfl⟩:=List.mem_map.1 hx
 exact isR3_toRT q
theorem mcells_mem {r c:Nat} {f:Mx} {P:Rat→Prop} (h:∀ i k,i<r→k<c→P (f i k)):∀ q ∈ mcells c f (r*c),P q:=by
 intro q hq
 obtain ⟨j,hj,rfl⟩:=List.mem_map.1 hq
 have hj:j<r*c:=by simpa using hj
 have hc:0<c:=Nat.pos_of_ne_zero fun e=>by subst e;simp at hj
 exact h _ _ ((Nat.div_lt_iff_lt_mul hc).2 hj) (Nat.mod_lt _ hc)
theorem mright_q (r c:Nat)(hr:r≤60)(hc:c≤60)(f:Mx)(h:∀ i k,i<r→k<c→rL (f i k)<2 ^ 36):PCall Tryz.prog 105 [qM r c f] (.b true) []:=by
 have kb:r*c≤60*60:=Nat.mul_le_mul hr hc
 have:=mright_raw r c ((mcells c f (r*c)).map toRT) (by omega) (by omega) (okX_toRT (mcells_mem h)) (by rw [List.length_map,mcells_length];omega)
 rw [isM_toRT hr hc,map_toRT] at this
 exact this
set_option maxHeartbeats 4000000 in
theorem solve_ok (n c L:Nat) (hn:n≤60) (hc:c≤60) (A B:Mx) (hN:NonSing n A) (hA:∀ i j,i<n→j<n→rL (A i j)≤L) (hB:∀ i j,i<n→j<c→rL (B i j)≤L) (hL1:1≤L) (hL2:4*bigL n L<2 ^ 33) :
  PCall Tryz.prog 153 [qM n n A,qM n c B] (.tup [qM n c (solX n A B),.i .i64 0]) []:=by
 have hU:=U_le n L
 have hU1:1*(L+1)≤4 ^ n*(L+1):=Nat.mul_le_mul_right _ (Nat.pow_pos (by omega))
 have c1:=mright_q n n hn hn A (fun i k hi hk=>by have:=hA i k hi hk;omega)
 have c2:=mright_q n c hn hc B (fun i k hi hk=>by have:=hB i k hi hk;omega)
 have c3:=solved_ok n c L hn hc A B hN hA hB hL1 hL2
 refine PCall.of_ax Tryz.call153 Tryz.func153 rfl (by simp [Tryz.ntmps153]) fun O w0=>?_
 simp only [Tryz.ntmps153,Tryz.results153,argFr]
 generalize (mcells n A (n*n)).map rV=Ac at *
 generalize (mcells c B (n*c)).map rV=Bc at *
 generalize (mcells c (solX n A B) (n*c)).map rV=Xc at *
 refine AX.sR (rgAV [2,3,4]) ?_
 refine AX.seq ?_
 refine AX.sR (rgCV [2,3,4,15] (aI c1 (aI c2 oT))) ?_
 refine AX.condF ?_
 refine AX.keepA [2,3,4] ?_
 refine AX.skip ?_
 refine nmZ ?_
 refine AX.seq ?_
 refine AX.sR (rgAV [2,3,4,28]) ?_
 refine AX.condF ?_
 refine AX.keepA [2,3,4] ?_
 refine AX.skip ?_
 refine nmZ ?_
 refine AX.sR (rgCV [4,6,7] (aI c3 oT)) ?_
 refine AX.seq ?_
 refine AX.sR (rgAV [4,6,37]) ?_
 refine AX.condF ?_
 refine AX.keepA [4,6] ?_
 refine AX.skip ?_
 refine nmZ ?_
 refine AX.sR (rgAV [4,5]) ?_
 refine AX.ret ⟨.inl rfl,?_⟩
 exact dnQ1
theorem zero1_ok (i k:Int):PCall Tryz.prog 82 [.i .i64 i,.i .i64 k] (rV 0) []:=by
 have c1:PCall Tryz.prog 67 [] (rR (decide ((0:Rat).num<0)) (digits (0:Rat).num.natAbs) (digits (0:Rat).den)) []:=zero_ok
 refine PCall.of_ax Tryz.call82 Tryz.func82 rfl (by simp [Tryz.ntmps82]) fun O w0=>?_
 simp only [Tryz.ntmps82,Tryz.results82,argFr]
 refine AX.sR (rgAV [4]) ?_
 refine AX.sR (rgCV [4] (aI c1 oT)) ?_
 refine AX.ret ⟨.inl rfl,?_⟩
 exact Done.cell rfl rfl
theorem rL0:rL 0≤1:=by
 have:rL (rq false 0 1)≤1:=rL_rq (by rw [digits_zero];exact Nat.zero_le _) (by rw [show (1:Nat)=0+1 from rfl];exact digits_length_le (by decide)) (Nat.le_refl _)
 exact this
theorem sumN_len {n:Nat} {f:Nat→Rat} {L:Nat} (h:∀ i,i<n→rL (f i)≤L):∀ m,m≤n→rL (sumN m f)≤m*(L+1)+1:=by
 intro m
 induction m with
 | zero=>intro _;have:=rL0;show rL 0≤_;omega
 | succ m ih=>
  intro hm
  have h1:=rL_add (sumN m f) (f m) (ih (by omega)) (h m (by omega))
  rw [sumN_succ,Nat.succ_mul]
  omega
theorem num0 {q:Rat}:(digits q.num.natAbs).length=0↔q=0:=by rw [digits_len_zero,Int.natAbs_eq_zero,Rat.num_eq_zero]
end Go.Proofs.YteidabibgjokkaaGreatDoor
