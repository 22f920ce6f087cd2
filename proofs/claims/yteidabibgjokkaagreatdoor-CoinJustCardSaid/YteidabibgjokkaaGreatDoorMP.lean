import Derived.Test.YteidabibgjokkaaGreatDoorHG
import Derived.Test.YteidabibgjokkaaGreatDoorHL
set_option maxRecDepth 20000
set_option linter.all false
namespace Go.Proofs.YteidabibgjokkaaGreatDoor
open Go Go.Proofs.YteidabibgjokkaaGreatDoor.Lift
attribute [local irreducible] Lift.PCall Lift.HCall
set_option maxHeartbeats 16000000 in
theorem steps_b (n w W:Nat) (hn:n≤200) (hnw:n≤w) (hw:w≤200) (A:Mx) (hA:NonSing n A) (hWb:∀ s,s≤n→∀ i j,i<n→j<w→rL ((elim n A s).1 i j)≤W) (hL1:1≤W) (hL2:4*W<2 ^ 33) :
  GCall Tryz.prog 174 [.agg [.i .i64 n,.i .i64 w,.own 0 0 (n*w) 3],.i .i64 n] [⟨54,qrow (mcells w A (n*w))⟩] [⟨54,qrow (mcells w (elim n A n).1 (n*w))⟩] (.tup [.i .i64 n,.b (elim n A n).2]):=by
 have spec:=elim_spec hnw hA (hWb 0 (Nat.zero_le _)) hL1
 refine GCall.of_ax rfl Tryz.call174 Tryz.func174 rfl (by simp [Tryz.ntmps174]) fun O M w0 G=>?_
 simp only [Tryz.ntmps174,Tryz.results174,argFr,rowsFr,List.length_cons,List.length_nil,Nat.zero_add,Nat.reduceAdd]
 refine AX.sR (rgAV [1,2]) ?_
 refine AX.sR (rgAV [1,2,6,7]) ?_
 refine AX.seq ?_
 refine AX.sR (rgAV [1,2,6,7,8]) ?_
 refine AX.block ?_
 refine AX.loop (fun N st=>∃ (c:Nat) (B:Mx) (o:Bool),c≤n∧N=n-c∧elim n A c=(B,o)∧st=⟨[(8,.i .i64 c),(7,.b o),(6,.i .i64 c),(2,.ptr 1 0),(1,.i .i64 n)],[(1,⟨41,[.i .i64 n,.i .i64 w,.own 0 0 (n*w) 3]⟩),(0,⟨54,qrow (mcells w B (n*w))⟩)],2⟩) n ⟨0,A,false,Nat.zero_le _,rfl,rfl,rfl⟩ ?_
 rintro N st ⟨c,B,o,hc,rfl,hE,rfl⟩
 refine AX.seq ?_
 by_cases h1:c<n
 ·obtain ⟨s1,s2,s3,s4⟩:=spec c hc
  obtain ⟨p,p1,p2,p3,p4⟩:=s4 h1
  rw [hE] at s1 s2 s3 p1 p4
  simp only at s1 s2 s3 p1 p4
  have hBW:∀ i j,i<n→j<w→rL (B i j)≤W:=fun i j hi hj=>by have:=hWb c hc i j hi hj;rw [hE] at this;exact this
  have cp:=pivot_ok n w c c W hn hw B hc (by omega) (fun i hi=>by have:=hBW i c hi (by omega);omega) (by omega)
  rw [p1] at cp
  have hl:=qlen w n B
  have tk:=qtk w n B
  have ch:=qch w n B
  have kb:n*w≤200*200:=Nat.mul_le_mul hn hw
  have hsw:=swap_ok n w p c hn hw B p3 h1
  obtain ⟨B1,hB1⟩:∃ B1,swapIf B p c=B1:=⟨_,rfl⟩
  obtain ⟨o1,ho1⟩:∃ o1,(if p=c then o else !o)=o1:=⟨_,rfl⟩
  have hE1:elim n A (c+1)=(clrTo B1 c (n-(c+1)),o1):=by
   rw [elim,hE]
   simp only
   rw [p1,Int.toNat_natCast,hB1,ho1]
  have hcc:B1 c c≠0:=by rw [← hB1,swapIf_piv];exact p4
  have hB1L:∀ i j,i<n→j<w→rL (B1 i j)≤W:=by
   intro i j hi hj
   rw [← hB1]
   unfold swapIf
   split
   ·exact hBW i j hi hj
   ·rw [swapM_at]
    split
    ·exact hBW c j h1 hj
    ·split
     ·exact hBW p j p3 hj
     ·exact hBW i j hi hj
  have hT:∀ t,c+t<n→∀ i j,i<n→j<w→rL (clrTo B1 c t i j)≤W:=fun t ht i j hi hj=>by
   obtain ⟨k1,k2⟩:=clrTo_spec hcc t
   obtain ⟨k3,k4⟩:=clrTo_spec hcc (n-(c+1))
   by_cases h:c<i∧i≤c+t
   ·have h5:=hWb (c+1) h1 i j hi hj
    rw [hE1] at h5
    rw [show clrTo B1 c t i=clrTo B1 c (n-(c+1)) i by rw [k2 i h.1 h.2,k4 i h.1 (by omega)]]
    exact h5
   ·rw [k1 i (by omega)]
    exact hB1L i j hi hj
  have hTc:∀ t,clrTo B1 c t c=B1 c:=fun t=>(clrTo_spec hcc t).1 c (.inl (Nat.le_refl _))
  refine AX.sR (rgAV [1,2,6,7,8,19]) ?_
  refine AX.condT ?_
  refine AX.keepA [1,2,6,7,8] ?_
  refine AX.skip ?_
  refine nmZ ?_
  refine AX.seq ?_
  refine AX.block ?_
  refine AX.sR (rgWV [1,2,6,7,8,9] (aI @hl (aI @tk (aI @ch (aI @flat_q (aI @hf_q oT))))) (aI cp oT)) ?_
  refine AX.seq ?_
  refine AX.sR (rgAV [1,2,6,7,8,9,27]) ?_
  refine AX.condF ?_
  refine AX.keepA [1,2,6,7,8,9] ?_
  refine AX.skip ?_
  refine nmZ ?_
  refine AX.cut (fun st=>Le 1 id ⟨[(8,.i .i64 c),(7,.b o1),(6,.i .i64 c),(2,.ptr 1 0),(1,.i .i64 n)],[(1,⟨41,[.i .i64 n,.i .i64 w,.own 0 0 (n*w) 3]⟩),(0,⟨54,qrow (mcells w B1 (n*w))⟩)],2⟩ st) ?_ ?_
  ·by_cases hpc:p=c
   ·subst hpc
    rw [if_pos rfl] at ho1
    unfold swapIf at hB1
    rw [if_pos rfl] at hB1
    subst ho1 hB1
    refine AX.sR (rgAV [1,2,6,7,8,9,30]) ?_
    refine AX.condF ?_
    refine AX.keepA [1,2,6,7,8] ?_
    refine AX.skip ⟨rfl,
     leQ1
     ⟩
   ·rw [if_neg hpc] at ho1
    unfold swapIf at hB1
    rw [if_neg hpc] at hB1
    rw [hB1] at hsw
    subst ho1
    refine AX.sR (rgAV [1,2,6,7,8,9,30]) ?_
    refine AX.condT ?_
    apply AX.sreg [1,2,6,7,8] (by simp only [pq];rfl)
    ·repeat (first
    |(apply RunO.op rfl;· rfl
      ·(simp only [opsOf,valsOf,valOf,lkp,ofConst,ofCell,Array.toList,Option.toList,List.map_cons,List.map_nil,List.cons_append,List.nil_append,List.append_nil,Nat.reduceEqDiff,Nat.reducePow,Nat.reduceLT,Nat.reduceLeDiff,reduceIte,if_true,if_false,IntKind.min,IntKind.max,IntKind.bits,IntKind.signed,Int.reduceLE,Int.reduceNeg,Int.reducePow,Int.reduceSub,and_self,Bool.false_eq_true,Nat.reduceSub];rfl)
      iterate 2 (· (simp (disch:=omega) only [go_sem,i64_of,u32_of,u64_of,Nat.reduceLT,Nat.reduceLeDiff,Nat.reduceEqDiff,Nat.reduceAdd,Nat.reduceSub,Nat.reduceMul,Nat.reducePow,Nat.reduceBEq,Int.reduceLE,Int.reduceLT,Int.reduceToNat,Int.reduceEq,Int.reduceNeg,↓reduceIte,reduceCtorEq];rfl))
      ·(simp only [pb,Nat.reduceLT,Nat.reduceAdd,reduceIte];rfl))
    |(apply RunO.gcall [0] rfl;· rfl
      ·(simp only [opsOf,valsOf,valOf,lkp,ofConst,ofCell,Array.toList,Option.toList,List.map_cons,List.map_nil,List.cons_append,List.nil_append,List.append_nil,Nat.reduceEqDiff,Nat.reducePow,Nat.reduceLT,Nat.reduceLeDiff,reduceIte,if_true,if_false,IntKind.min,IntKind.max,IntKind.bits,IntKind.signed,Int.reduceLE,Int.reduceNeg,Int.reducePow,Int.reduceSub,and_self,Bool.false_eq_true,Nat.reduceSub];rfl)
      ·exact hsw
      ·first | rfl | (simp only [Row.ren,V.ren,V.renL,renS,ren_q,renL_u];rfl)
      ·first | rfl | (simp only [V.lt,V.ltL,ltS,lt_q,ltL_u];rfl)
      ·decide
      ·repeat' (first | exact trivial | rfl | (simp only [Row.ren,V.ren,V.renL,renS,ren_q,renL_u];done) | (simp only [Row.ren,V.ren,V.renL,renS,ren_q,renL_u];rfl) | (simp only [V.lt,V.ltL,ltS,lt_q,ltL_u];done) | apply And.intro)
      ·first | rfl | (simp only [Row.ren,V.ren,V.renL,renS,ren_q,renL_u];rfl)
      ·(simp only [setRows,setL,Row.ren,V.ren,V.renL,renS,ren_q,renL_u,pb,Nat.reduceLT,Nat.reduceAdd,Nat.reduceEqDiff,reduceIte];rfl))
    |(apply RunO.skip;· rfl
      ·(simp only [pb,Nat.reduceLT,Nat.reduceAdd,reduceIte];rfl)))
     exact RunO.nil
    ·repeat (first | exact Keep.nil | (apply Keep.take;· rfl) | (apply Keep.drop;· rfl))
    refine AX.rR (rgAV [1,2,6,7,8]) ?_
    exact ⟨rfl,
     leQ1
     ⟩
  rintro st hle
  refine AX.weaken id hle ?_
  clear hle cp hsw hl tk ch
  refine AX.seq ?_
  refine AX.sR (rgWV [1,2,6,7,8,10] (aI @lit_add oT) oT) ?_
  refine AX.block ?_
  refine AX.loop (fun N st=>∃ (t:Nat) (B2:Mx),c+1+t≤n∧N=n-(c+1+t)∧clrTo B1 c t=B2∧st=⟨[(10,.i .i64 (c+1+t:Nat)),(8,.i .i64 c),(7,.b o1),(6,.i .i64 c),(2,.ptr 1 0),(1,.i .i64 n)],[(1,⟨41,[.i .i64 n,.i .i64 w,.own 0 0 (n*w) 3]⟩),(0,⟨54,qrow (mcells w B2 (n*w))⟩)],2⟩) (n-(c+1)) ⟨0,B1,by omega,rfl,rfl,rfl⟩ ?_
  rintro N st ⟨t,B2,ht,rfl,hB2,rfl⟩
  refine AX.seq ?_
  by_cases h2:c+1+t<n
  ·have hB2c:B2 c=B1 c:=by rw [← hB2];exact hTc t
   have hclr:=clear_ok n w c (c+1+t) c W hn hw B2 h1 h2 (by omega) (by omega) (by rw [hB2c];exact hcc) (fun i j hi hj=>by
    have:=hT t (by omega) i j hi hj
    rw [hB2] at this
    omega) (by omega) (by omega)
   have hnext:clrTo B1 c (t+1)=clearM B2 c (c+1+t) (B2 (c+1+t) c / B2 c c):=by rw [clrTo,hB2]
   obtain ⟨B3,hB3⟩:∃ B3,clearM B2 c (c+1+t) (B2 (c+1+t) c / B2 c c)=B3:=⟨_,rfl⟩
   rw [hB3] at hclr hnext
   refine AX.sR (rgAV [1,2,6,7,8,10,42]) ?_
   refine AX.condT ?_
   refine AX.keepA [1,2,6,7,8,10] ?_
   refine AX.skip ?_
   refine nmZ ?_
   refine AX.seq ?_
   refine AX.block ?_
   apply AX.reg [1,2,6,7,8,10] (by simp only [pq];rfl)
   ·repeat (first
   |(apply RunO.op rfl;· rfl
     ·(simp only [opsOf,valsOf,valOf,lkp,ofConst,ofCell,Array.toList,Option.toList,List.map_cons,List.map_nil,List.cons_append,List.nil_append,List.append_nil,Nat.reduceEqDiff,Nat.reducePow,Nat.reduceLT,Nat.reduceLeDiff,reduceIte,if_true,if_false,IntKind.min,IntKind.max,IntKind.bits,IntKind.signed,Int.reduceLE,Int.reduceNeg,Int.reducePow,Int.reduceSub,and_self,Bool.false_eq_true,Nat.reduceSub];rfl)
     iterate 2 (· (simp (disch:=omega) only [go_sem,i64_of,u32_of,u64_of,Nat.reduceLT,Nat.reduceLeDiff,Nat.reduceEqDiff,Nat.reduceAdd,Nat.reduceSub,Nat.reduceMul,Nat.reducePow,Nat.reduceBEq,Int.reduceLE,Int.reduceLT,Int.reduceToNat,Int.reduceEq,Int.reduceNeg,↓reduceIte,reduceCtorEq];rfl))
     ·(simp only [pb,Nat.reduceLT,Nat.reduceAdd,reduceIte];rfl))
   |(apply RunO.gcall [0] rfl;· rfl
     ·(simp only [opsOf,valsOf,valOf,lkp,ofConst,ofCell,Array.toList,Option.toList,List.map_cons,List.map_nil,List.cons_append,List.nil_append,List.append_nil,Nat.reduceEqDiff,Nat.reducePow,Nat.reduceLT,Nat.reduceLeDiff,reduceIte,if_true,if_false,IntKind.min,IntKind.max,IntKind.bits,IntKind.signed,Int.reduceLE,Int.reduceNeg,Int.reducePow,Int.reduceSub,and_self,Bool.false_eq_true,Nat.reduceSub];rfl)
     ·exact hclr
     ·first | rfl | (simp only [Row.ren,V.ren,V.renL,renS,ren_q,renL_u];rfl)
     ·first | rfl | (simp only [V.lt,V.ltL,ltS,lt_q,ltL_u];rfl)
     ·decide
     ·repeat' (first | exact trivial | rfl | (simp only [Row.ren,V.ren,V.renL,renS,ren_q,renL_u];done) | (simp only [Row.ren,V.ren,V.renL,renS,ren_q,renL_u];rfl) | (simp only [V.lt,V.ltL,ltS,lt_q,ltL_u];done) | apply And.intro)
     ·first | rfl | (simp only [Row.ren,V.ren,V.renL,renS,ren_q,renL_u];rfl)
     ·(simp only [setRows,setL,Row.ren,V.ren,V.renL,renS,ren_q,renL_u,pb,Nat.reduceLT,Nat.reduceAdd,Nat.reduceEqDiff,reduceIte];rfl))
   |(apply RunO.skip;· rfl
     ·(simp only [pb,Nat.reduceLT,Nat.reduceAdd,reduceIte];rfl)))
    exact RunO.nil
   ·repeat (first | exact Keep.nil | (apply Keep.take;· rfl) | (apply Keep.drop;· rfl))
   refine nmZ ?_
   refine AX.rR (rgWV [1,2,6,7,8,10] (aI @lit_add oT) oT) ?_
   refine nmZ ?_
   refine ⟨_,_,id,?_,
    leQ1
    , ⟨t+1,B3,by omega,rfl,hnext,rfl⟩⟩
   omega
  ·refine AX.sR (rgAV [1,2,6,7,8,10,42]) ?_
   refine AX.condF ?_
   refine AX.exit ?_
   refine nmZ ?_
   refine AX.rR (rgWV [1,2,6,7,8] (aI @lit_add oT) oT) ?_
   refine nmZ ?_
   refine AX.rR (rgWV [1,2,6,7,8] (aI @lit_add oT) oT) ?_
   refine nmZ ?_
   have e:t=n-(c+1):=by omega
   subst e
   rw [hB2] at hE1
   refine ⟨_,_,id,?_,
    leQ1
    , ⟨c+1,B2,o1,by omega,rfl,hE1,rfl⟩⟩
   omega
 ·have e:c=n:=by omega
  subst e
  rw [hE]
  refine AX.sR (rgAV [1,2,6,7,8,19]) ?_
  refine AX.condF ?_
  refine AX.exit ?_
  refine nmZ ?_
  refine AX.sR (rgAV [4,5]) ?_
  refine AX.ret ⟨.inl rfl,?_⟩
  exact DoneG.rowT rfl rfl rfl
structure Bd (n c:Nat) (A B:Mx) (W:Nat):Prop where
 w1:1≤W
 w2:4*W<2 ^ 33
 a:∀ i j,i<n→j<n→rL (A i j)≤W
 b:∀ i j,i<n→j<c→rL (B i j)≤W
 e:∀ s,s≤n→∀ i j,i<n→j<n+c→rL ((elim n (aug n A B) s).1 i j)≤W
 k:∀ s,s≤n→∀ i j,i<n→j<n+c→rL (bakS n (elim n (aug n A B) n).1 s i j)≤W
set_option maxHeartbeats 16000000 in
theorem solved_b (n c W:Nat) (hn:n≤60) (hc:c≤60) (A B:Mx) (hN:NonSing n A) (bd:Bd n c A B W) :
  PCall Tryz.prog 164 [qM n n A,qM n c B] (.tup [qM n c (solX n A B),.b true]) []:=by
 have hw1:=bd.w1
 have hw2:=bd.w2
 have hA:=bd.a
 have hB:=bd.b
 obtain ⟨f1,_,_⟩:=fin_spec hN hA hB hw1
 have f3:∀ i j,i<n→j<n+c→rL (fin n A B i j)≤W:=bd.k n (Nat.le_refl _)
 obtain ⟨e1,e2,e3,_⟩:=elim_spec (w:=n+c) (by omega) (aug_nonsing (B:=B) hN) (aug_len hA hB) hw1 n (Nat.le_refl _)
 have hU:∀ i j,i<n→j<n+c→rL ((elim n (aug n A B) n).1 i j)≤W:=bd.e n (Nat.le_refl _)
 have hbK:=bd.k
 have bspec:=bakS_spec (w:=n+c) (by omega) e2 hU (by omega)
 have cfill:=filled_own n (n+c) (by omega) (by omega) 172 [.rp [.i .i64 n],.rp [.i .i64 n,.i .i64 n,.sl ((mcells n A (n*n)).map rV)],.rp [.i .i64 n,.i .i64 c,.sl ((mcells c B (n*c)).map rV)]] (aug n A B) rfl
  (fun i k hi hk=>solved1_ok n c W (by omega) (by omega) A B i k hi hk hA hB (by omega))
 have csteps:=steps_b n (n+c) W (by omega) (by omega) (by omega) (aug n A B) (aug_nonsing hN) bd.e hw1 hw2
 clear bd
 have cfin:=filled_ok n c (by omega) (by omega) 176 [.rp [.i .i64 n,.i .i64 (n+c:Nat),.sl ((mcells (n+c) (fin n A B) (n*(n+c))).map rV)],.rp [.i .i64 n]] (solX n A B) rfl
  (fun i k hi hk=>solved2_ok n (n+c) W (by omega) (by omega) (fin n A B) i k hi (by omega) f3 (by omega) (by omega) (f1 i hi))
 have hfinE:fin n A B=bakS n (elim n (aug n A B) n).1 n:=rfl
 refine PCall.of_ax Tryz.call164 Tryz.func164 rfl (by simp [Tryz.ntmps164]) fun O w0=>?_
 simp only [Tryz.ntmps164,Tryz.results164,argFr]
 have ew:(n:Int)+(c:Int)=((n+c:Nat):Int):=(Int.natCast_add n c).symm
 have kb:n*(n+c)≤60*120:=Nat.mul_le_mul hn (by omega)
 have hnw:n≤n+c:=by omega
 generalize fin n A B=F at *
 generalize solX n A B=X at *
 generalize aug n A B=G0 at *
 generalize (elim n G0 n).1=T at *
 generalize (elim n G0 n).2=o at *
 generalize n+c=w at *
 refine AX.sR (rgAV [2,3,4]) ?_
 refine AX.sR (rgAV [2,3,4,6]) ?_
 refine AX.fz 3 (fr':=[(6,.rp [.i .i64 n]),(4,.ptr 2 0),(3,.ptr 1 0),(2,.ptr 0 0)]) (hp':=[(2,⟨41,[.i .i64 0,.i .i64 0,.nl]⟩),(1,⟨41,[.i .i64 n,.i .i64 c,.sl ((mcells c B (n*c)).map rV)]⟩),(0,⟨41,[.i .i64 n,.i .i64 n,.sl ((mcells n A (n*n)).map rV)]⟩)]) rfl rfl (.cons rfl (.ptr rfl) (.cons rfl .same (.cons rfl .same (.cons rfl .same .nil)))) (.keep (by decide) rfl (.keep (by decide) rfl (.keep (by decide) rfl .nil))) ?_
 refine AX.fz 1 (fr':=[(6,.rp [.i .i64 n]),(4,.ptr 2 0),(3,.rp [.i .i64 n,.i .i64 c,.sl ((mcells c B (n*c)).map rV)]),(2,.ptr 0 0)]) (hp':=[(2,⟨41,[.i .i64 0,.i .i64 0,.nl]⟩),(0,⟨41,[.i .i64 n,.i .i64 n,.sl ((mcells n A (n*n)).map rV)]⟩)]) rfl rfl (.cons rfl .same (.cons rfl .same (.cons rfl (.ptr rfl) (.cons rfl .same .nil)))) (.keep (by decide) rfl (.keep (by decide) rfl .nil)) ?_
 refine AX.fz 0 (fr':=[(6,.rp [.i .i64 n]),(4,.ptr 2 0),(3,.rp [.i .i64 n,.i .i64 c,.sl ((mcells c B (n*c)).map rV)]),(2,.rp [.i .i64 n,.i .i64 n,.sl ((mcells n A (n*n)).map rV)])]) (hp':=[(2,⟨41,[.i .i64 0,.i .i64 0,.nl]⟩)]) rfl rfl (.cons rfl .same (.cons rfl .same (.cons rfl .same (.cons rfl (.ptr rfl) .nil)))) (.keep (by decide) rfl .nil) ?_
 generalize hBc:(mcells c B (n*c)).map rV=Bc at *
 generalize (mcells n A (n*n)).map rV=Ac at *
 refine AX.sR (rgWV [3,4,6,7] (aI @ew (aI @ren_q oT)) (aI cfill oT)) ?_
 refine AX.seq ?_
 apply AX.sreg [3,4,6,7,8] (by simp only [pq];rfl)
 ·repeat (first
 |(apply RunO.op rfl;· rfl
   ·(simp only [opsOf,valsOf,valOf,lkp,ofConst,ofCell,Array.toList,Option.toList,List.map_cons,List.map_nil,List.cons_append,List.nil_append,List.append_nil,Nat.reduceEqDiff,Nat.reducePow,Nat.reduceLT,Nat.reduceLeDiff,reduceIte,if_true,if_false,IntKind.min,IntKind.max,IntKind.bits,IntKind.signed,Int.reduceLE,Int.reduceNeg,Int.reducePow,Int.reduceSub,and_self,Bool.false_eq_true,Nat.reduceSub];rfl)
   iterate 2 (· (simp (disch:=omega) only [go_sem,i64_of,u32_of,u64_of,Nat.reduceLT,Nat.reduceLeDiff,Nat.reduceEqDiff,Nat.reduceAdd,Nat.reduceSub,Nat.reduceMul,Nat.reducePow,Nat.reduceBEq,Int.reduceLE,Int.reduceLT,Int.reduceToNat,Int.reduceEq,Int.reduceNeg,↓reduceIte,reduceCtorEq];rfl))
   ·(simp only [pb,Nat.reduceLT,Nat.reduceAdd,reduceIte];rfl))
 |(apply RunO.gcall [4] rfl;· rfl
   ·(simp only [opsOf,valsOf,valOf,lkp,ofConst,ofCell,Array.toList,Option.toList,List.map_cons,List.map_nil,List.cons_append,List.nil_append,List.append_nil,Nat.reduceEqDiff,Nat.reducePow,Nat.reduceLT,Nat.reduceLeDiff,reduceIte,if_true,if_false,IntKind.min,IntKind.max,IntKind.bits,IntKind.signed,Int.reduceLE,Int.reduceNeg,Int.reducePow,Int.reduceSub,and_self,Bool.false_eq_true,Nat.reduceSub];rfl)
   ·exact csteps
   ·first | rfl | (simp only [Row.ren,V.ren,V.renL,renS,ren_q,renL_u];rfl)
   ·first | rfl | (simp only [V.lt,V.ltL,ltS,lt_q,ltL_u];rfl)
   ·decide
   ·repeat' (first | exact trivial | rfl | (simp only [Row.ren,V.ren,V.renL,renS,ren_q,renL_u];done) | (simp only [Row.ren,V.ren,V.renL,renS,ren_q,renL_u];rfl) | (simp only [V.lt,V.ltL,ltS,lt_q,ltL_u];done) | apply And.intro)
   ·first | rfl | (simp only [Row.ren,V.ren,V.renL,renS,ren_q,renL_u];rfl)
   ·(simp only [setRows,setL,Row.ren,V.ren,V.renL,renS,ren_q,renL_u,pb,Nat.reduceLT,Nat.reduceAdd,Nat.reduceEqDiff,reduceIte];rfl))
 |(apply RunO.skip;· rfl
   ·(simp only [pb,Nat.reduceLT,Nat.reduceAdd,reduceIte];rfl)))
  exact RunO.nil
 ·repeat (first | exact Keep.nil | (apply Keep.take;· rfl) | (apply Keep.drop;· rfl))
 refine AX.sR (rgAV [3,4,6,7,29]) ?_
 refine AX.condF ?_
 refine AX.keepA [3,4,6,7] ?_
 refine AX.skip ?_
 refine nmZ ?_
 refine AX.seq ?_
 refine AX.sR (rgAV [3,4,6,7,10]) ?_
 clear cfill csteps
 refine AX.weaken id (st':=⟨[(10,.i .i64 ((n:Int)-1-(0:Nat))),(7,.ptr 5 0),(6,.rp [.i .i64 n]),(4,.ptr 2 0),(3,.rp [.i .i64 n,.i .i64 c,.sl Bc])],[(5,⟨41,[.i .i64 n,.i .i64 w,.own 4 0 (n*w) 3]⟩),(4,⟨54,qrow (mcells w T (n*w))⟩),(2,⟨41,[.i .i64 0,.i .i64 0,.nl]⟩)],6⟩)
  leQ1
  ?_
 refine AX.block ?_
 refine AX.loop (fun N st=>∃ (s:Nat) (B:Mx),s≤n∧N=n-s∧bakS n T s=B∧st=⟨[(10,.i .i64 ((n:Int)-1-(s:Nat))),(7,.ptr 5 0),(6,.rp [.i .i64 n]),(4,.ptr 2 0),(3,.rp [.i .i64 n,.i .i64 c,.sl Bc])],[(5,⟨41,[.i .i64 n,.i .i64 w,.own 4 0 (n*w) 3]⟩),(4,⟨54,qrow (mcells w B (n*w))⟩),(2,⟨41,[.i .i64 0,.i .i64 0,.nl]⟩)],6⟩) n ⟨0,T,Nat.zero_le _,rfl,rfl,rfl⟩ ?_
 rintro N st ⟨s,B,hs,rfl,hB,rfl⟩
 refine AX.seq ?_
 by_cases h1:s<n
 ·obtain ⟨b1,b2,b3,b4⟩:=bspec s hs
  rw [hB] at b2
  obtain ⟨i,hi⟩:∃ i,n-1-s=i:=⟨_,rfl⟩
  have ei:(n:Int)-1-(s:Nat)=(i:Int):=by omega
  have hin:i<n:=by omega
  have hii:B i i≠0:=by
   rw [b2 i i hin hin,if_neg (fun h=>h.1 rfl)]
   exact (e2 i hin).1
  have hnext:bakS n T (s+1)=bakTo B i i:=by rw [bakS,hB,hi]
  have hbt:=bakTo_spec hii
  have b4:∀ t i' j',t≤i→i' < n→j' < w→rL (bakTo B i t i' j')≤W:=fun t i' j' ht hi' hj'=>by
   obtain ⟨k1,k2⟩:=hbt t ht
   obtain ⟨k3,k4⟩:=hbt i (Nat.le_refl _)
   by_cases h:i' < t
   ·have h5:=hbK (s+1) h1 i' j' hi' hj'
    rw [hnext] at h5
    rw [show bakTo B i t i'=bakTo B i i i' by rw [k2 i' h,k4 i' (by omega)]]
    exact h5
   ·rw [k1 i' (by omega)]
    have h5:=hbK s hs i' j' hi' hj'
    rw [hB] at h5
    exact h5
  rw [ei]
  refine AX.sR (rgAV [3,4,6,7,10,34]) ?_
  refine AX.condT ?_
  refine AX.keepA [3,4,6,7,10] ?_
  refine AX.skip ?_
  refine nmZ ?_
  refine AX.seq ?_
  refine AX.block ?_
  refine AX.sR (rgAV [3,4,6,7,10,37,38]) ?_
  refine AX.block ?_
  refine AX.loop (fun N st=>∃ (t:Nat) (B2:Mx),t≤i∧N=i-t∧bakTo B i t=B2∧st=⟨[(38,.i .i64 t),(37,.i .i64 i),(10,.i .i64 i),(7,.ptr 5 0),(6,.rp [.i .i64 n]),(4,.ptr 2 0),(3,.rp [.i .i64 n,.i .i64 c,.sl Bc])],[(5,⟨41,[.i .i64 n,.i .i64 w,.own 4 0 (n*w) 3]⟩),(4,⟨54,qrow (mcells w B2 (n*w))⟩),(2,⟨41,[.i .i64 0,.i .i64 0,.nl]⟩)],6⟩) i ⟨0,B,Nat.zero_le _,rfl,rfl,rfl⟩ ?_
  rintro N st ⟨t,B2,ht,rfl,hB2,rfl⟩
  by_cases h2:t<i
  ·have hB2i:B2 i=B i:=by rw [← hB2];exact (hbt t ht).1 i (by omega)
   have hclr:=clear_ok n w i t i W (by omega) (by omega) B2 hin (by omega) (by omega) (by omega) (by rw [hB2i];exact hii) (fun i' j' hi' hj'=>by
    have:=b4 t i' j' (by omega) hi' hj'
    rw [hB2] at this
    omega) (by omega) (by omega)
   have hnx:bakTo B i (t+1)=clearM B2 i t (B2 t i / B2 i i):=by rw [bakTo,hB2]
   obtain ⟨B3,hB3⟩:∃ B3,clearM B2 i t (B2 t i / B2 i i)=B3:=⟨_,rfl⟩
   rw [hB3] at hclr hnx
   refine AX.sR (rgAV [3,4,6,7,10,37,38,39]) ?_
   refine AX.seq ?_
   refine AX.condT ?_
   refine AX.keepA [3,4,6,7,10,37,38] ?_
   refine AX.skip ?_
   refine nmZ ?_
   refine AX.seq ?_
   refine AX.block ?_
   refine AX.sR (rgAV [3,4,6,7,10,11,37,38]) ?_
   apply AX.reg [3,4,6,7,10,37,38] (by simp only [pq];rfl)
   ·repeat (first
   |(apply RunO.op rfl;· rfl
     ·(simp only [opsOf,valsOf,valOf,lkp,ofConst,ofCell,Array.toList,Option.toList,List.map_cons,List.map_nil,List.cons_append,List.nil_append,List.append_nil,Nat.reduceEqDiff,Nat.reducePow,Nat.reduceLT,Nat.reduceLeDiff,reduceIte,if_true,if_false,IntKind.min,IntKind.max,IntKind.bits,IntKind.signed,Int.reduceLE,Int.reduceNeg,Int.reducePow,Int.reduceSub,and_self,Bool.false_eq_true,Nat.reduceSub];rfl)
     iterate 2 (· (simp (disch:=omega) only [go_sem,i64_of,u32_of,u64_of,Nat.reduceLT,Nat.reduceLeDiff,Nat.reduceEqDiff,Nat.reduceAdd,Nat.reduceSub,Nat.reduceMul,Nat.reducePow,Nat.reduceBEq,Int.reduceLE,Int.reduceLT,Int.reduceToNat,Int.reduceEq,Int.reduceNeg,↓reduceIte,reduceCtorEq];rfl))
     ·(simp only [pb,Nat.reduceLT,Nat.reduceAdd,reduceIte];rfl))
   |(apply RunO.gcall [4] rfl;· rfl
     ·(simp only [opsOf,valsOf,valOf,lkp,ofConst,ofCell,Array.toList,Option.toList,List.map_cons,List.map_nil,List.cons_append,List.nil_append,List.append_nil,Nat.reduceEqDiff,Nat.reducePow,Nat.reduceLT,Nat.reduceLeDiff,reduceIte,if_true,if_false,IntKind.min,IntKind.max,IntKind.bits,IntKind.signed,Int.reduceLE,Int.reduceNeg,Int.reducePow,Int.reduceSub,and_self,Bool.false_eq_true,Nat.reduceSub];rfl)
     ·exact hclr
     ·first | rfl | (simp only [Row.ren,V.ren,V.renL,renS,ren_q,renL_u];rfl)
     ·first | rfl | (simp only [V.lt,V.ltL,ltS,lt_q,ltL_u];rfl)
     ·decide
     ·repeat' (first | exact trivial | rfl | (simp only [Row.ren,V.ren,V.renL,renS,ren_q,renL_u];done) | (simp only [Row.ren,V.ren,V.renL,renS,ren_q,renL_u];rfl) | (simp only [V.lt,V.ltL,ltS,lt_q,ltL_u];done) | apply And.intro)
     ·first | rfl | (simp only [Row.ren,V.ren,V.renL,renS,ren_q,renL_u];rfl)
     ·(simp only [setRows,setL,Row.ren,V.ren,V.renL,renS,ren_q,renL_u,pb,Nat.reduceLT,Nat.reduceAdd,Nat.reduceEqDiff,reduceIte];rfl))
   |(apply RunO.skip;· rfl
     ·(simp only [pb,Nat.reduceLT,Nat.reduceAdd,reduceIte];rfl)))
    exact RunO.nil
   ·repeat (first | exact Keep.nil | (apply Keep.take;· rfl) | (apply Keep.drop;· rfl))
   refine nmZ ?_
   refine AX.rR (rgWV [3,4,6,7,10,37,38] (aI @lit_add oT) oT) ?_
   refine nmZ ?_
   refine ⟨_,_,id,?_,
    leQ1
    , ⟨t+1,B3,by omega,rfl,hnx,rfl⟩⟩
   omega
  ·have e:t=i:=by omega
   subst e
   rw [hB2] at hnext
   refine AX.sR (rgAV [3,4,6,7,10,37,38,39]) ?_
   refine AX.seq ?_
   refine AX.condF ?_
   refine AX.exit ?_
   refine nmZ ?_
   refine AX.rR (rgAV [3,4,6,7,10]) ?_
   refine nmZ ?_
   refine ⟨_,_,id,?_,
    leQ1
    , ⟨s+1,B2,by omega,rfl,hnext,rfl⟩⟩
   omega
 ·have e:s=n:=by omega
  subst e
  have hBF:B=F:=by rw [← hB,hfinE]
  subst hBF
  have ei:(s:Int)-1-(s:Nat)=-1:=by omega
  rw [ei]
  refine AX.sR (rgAV [3,4,6,7,10,34]) ?_
  refine AX.condF ?_
  refine AX.exit ?_
  refine nmZ ?_
  refine AX.fz 4 (fr':=[(7,.ptr 5 0),(6,.rp [.i .i64 s]),(4,.ptr 2 0),(3,.rp [.i .i64 s,.i .i64 c,.sl Bc])]) (hp':=[(5,⟨41,[.i .i64 s,.i .i64 w,.sl ((mcells w B (s*w)).map rV)]⟩),(2,⟨41,[.i .i64 0,.i .i64 0,.nl]⟩)]) rfl (hf_q _) (.cons rfl .same (.cons rfl .same (.cons rfl .same (.cons rfl .same .nil)))) (.cons (by decide) rfl rfl rfl ?_ (.keep (by decide) rfl .nil)) ?_
  ·intro k hk
   have:k=0∨k=1∨k=2:=by simp at hk;omega
   rcases this with rfl | rfl | rfl
   ·exact .same
   ·exact .same
   ·have hq:=okFrz_q (mcells w B (s*w))
    rw [mcells_length] at hq
    exact .own hq (by rw [List.drop_zero,qtk,qch])
  refine AX.fz 5 (fr':=[(7,.rp [.i .i64 s,.i .i64 w,.sl ((mcells w B (s*w)).map rV)]),(6,.rp [.i .i64 s]),(4,.ptr 2 0),(3,.rp [.i .i64 s,.i .i64 c,.sl Bc])]) (hp':=[(2,⟨41,[.i .i64 0,.i .i64 0,.nl]⟩)]) rfl rfl (.cons rfl (.ptr rfl) (.cons rfl .same (.cons rfl .same (.cons rfl .same .nil)))) (.keep (by decide) rfl .nil) ?_
  refine AX.sR (rgCV [4,5] (aI cfin oT)) ?_
  refine AX.ret ⟨.inl rfl,?_⟩
  exact dnQ1
set_option maxHeartbeats 4000000 in
theorem solve_b (n c W:Nat) (hn:n≤60) (hc:c≤60) (A B:Mx) (hN:NonSing n A) (bd:Bd n c A B W) :
  PCall Tryz.prog 153 [qM n n A,qM n c B] (.tup [qM n c (solX n A B),.i .i64 0]) []:=by
 have hw2:=bd.w2
 have hA:=bd.a
 have hB:=bd.b
 have c1:=mright_q n n hn hn A (fun i k hi hk=>by have:=hA i k hi hk;omega)
 have c2:=mright_q n c hn hc B (fun i k hi hk=>by have:=hB i k hi hk;omega)
 have c3:=solved_b n c W hn hc A B hN bd
 clear bd
 refine PCall.of_ax Tryz.call153 Tryz.func153 rfl (by simp [Tryz.ntmps153]) fun O w0=>?_
 simp only [Tryz.ntmps153,Tryz.results153,argFr]
 generalize (mcells n A (n*n)).map rV=Ac at *
 generalize (mcells c B (n*c)).map rV=Bc at *
 generalize (mcells c (solX n A B) (n*c)).map rV=Xc at *
 refine AX.sR (rgAV [2,3,4]) ?_
 refine AX.seq ?_
 refine AX.sR (rgCV [2,3,4,15] (aI c1 (aI c2 oT))) ?_
 refine AX.condF ?_
 refine AX.keepA [2,3,4] ?_
 refine AX.skip ?_
 refine nmZ ?_
 refine AX.seq ?_
 refine AX.sR (rgAV [2,3,4,28]) ?_
 refine AX.condF ?_
 refine AX.keepA [2,3,4] ?_
 refine AX.skip ?_
 refine nmZ ?_
 refine AX.sR (rgCV [4,6,7] (aI c3 oT)) ?_
 refine AX.seq ?_
 refine AX.sR (rgAV [4,6,37]) ?_
 refine AX.condF ?_
 refine AX.keepA [4,6] ?_
 refine AX.skip ?_
 refine nmZ ?_
 refine AX.sR (rgAV [4,5]) ?_
 refine AX.ret ⟨.inl rfl,?_⟩
 exact dnQ1
set_option maxHeartbeats 16000000 in
theorem within_b (n m L W:Nat) (hn:n≤60) (hm:m≤60) (A B:Mx) (hA:∀ i k,i<n→k<n→rL (A i k)≤L) (of:List Nat) (p:Nat) (hp:of.length=p) (hp60:p≤60) (hof:∀ i,i<p→of.getD i 0<n) (cols:Nat) (hcols:cols≤60)
  (g:FuncId) (caps:List V) (hh:V.hfL caps=true) (R:Mx) (turned:Bool) (hside:∀ i k,i<p→k<cols→PCall Tryz.prog g (.i .i64 (of.getD i 0:Nat) :: .i .i64 k :: cnlL caps) (.agg [.b (decide ((R i k).num<0)),dg (digits (R i k).num.natAbs),dg (digits (R i k).den)]) [])
  (hN:NonSing p (subM turned of A)) (hR:∀ i k,i<p→k<cols→rL (R i k)≤L+1) (hL1:1≤L) (hLL:4*(L+1)<2 ^ 33) (bd:Bd p cols (subM turned of A) R W) :
  PCall Tryz.prog 132 [cV n m A B,.sl (il of),.i .i64 cols,.fn g caps,.b turned] (qM p cols (solX p (subM turned of A) R)) []:=by
 have cs:=solve_b p cols W hp60 hcols (subM turned of A) R hN bd
 clear bd
 have co:PCall Tryz.prog 96 [] (rR (decide ((1:Rat).num<0)) (digits (1:Rat).num.natAbs) (digits (1:Rat).den)) []:=one_ok
 have cneg:∀ q:Rat,rL q≤L→PCall Tryz.prog 134 [.agg [.b (decide (q.num<0)),dg (digits q.num.natAbs),dg (digits q.den)]] (.agg [.b (decide ((-q).num<0)),dg (digits (-q).num.natAbs),dg (digits (-q).den)]) []:=fun q hq=>qneg_ok (IsQ.of hq) (by omega)
 have cadd:∀ q:Rat,rL q≤L→PCall Tryz.prog 50 [rR (decide ((1:Rat).num<0)) (digits (1:Rat).num.natAbs) (digits (1:Rat).den),.agg [.b (decide ((-q).num<0)),dg (digits (-q).num.natAbs),dg (digits (-q).den)]] (.agg [.b (decide ((1+-q).num<0)),dg (digits (1+-q).num.natAbs),dg (digits (1+-q).den)]) []:=fun q hq=>qadd_ok (L:=L) (IsQ.of (Nat.le_trans rL1 hL1)) (IsQ.of (by rw [rL_neg];exact hq)) (by omega)
 refine PCall.of_ax Tryz.call132 Tryz.func132 rfl (by simp [Tryz.ntmps132]) fun O w=>?_
 simp only [Tryz.ntmps132,Tryz.results132,argFr]
 have hren:∀ f,V.renL f caps=caps:=fun f=>(hf_names f 0 caps hh).1
 have hlt:∀ n,V.ltL n caps=true:=fun n=>(hf_names id n caps hh).2
 have hcA:=fun (i k:Nat) (hi:i<n) (hk:k<n)=>ccell_q hn hn A hi hk
 have hll:=il_length of
 rw [hp] at hll
 have hget:=fun (i:Nat) (hi:i<p)=>il_get (l:=of) (j:=i) (by omega)
 have hpk:∀ i k,pkM turned of A i k=if turned=true then A (of.getD k 0) (of.getD i 0) else A (of.getD i 0) (of.getD k 0):=fun _ _=>rfl
 have hsub:∀ i k,subM turned of A i k=if i=k then 1+-pkM turned of A i k else -pkM turned of A i k:=fun _ _=>rfl
 have hpl:∀ i k,i<p→k<p→rL (pkM turned of A i k)≤L:=fun i k hi hk=>by
  rw [hpk]
  split
  ·exact hA _ _ (hof k hk) (hof i hi)
  ·exact hA _ _ (hof i hi) (hof k hk)
 clear hA
 unfold cV
 generalize (mcells n A (n*n)).map rV=Ac at *
 generalize (mcells m B (n*m)).map rV=Bc at *
 generalize hSM:subM turned of A=S at *
 generalize hPM:pkM turned of A=Pk at *
 clear hSM hPM
 refine AX.sR (rgAV [1,2,3,4,5,10]) ?_
 refine AX.sR (rgWV [1,2,3,4,5,10,11] (aI @hll oT) oT) ?_
 refine AX.sR (rgWV [1,2,3,4,5,10,11,12] (aI @hll oT) oT) ?_
 refine AX.own0c 2 2 54 3 rfl rfl (by show 2<3;decide) ?_
 refine AX.own0c 3 2 54 3 rfl rfl (by show 2<3;decide) ?_
 refine AX.seq ?_
 refine AX.sR (rgWV [1,2,3,4,5,10,11,12,31,32,33] (aI @hll oT) oT) ?_
 refine AX.weaken id (st':=⟨[(33,.i .i64 (0:Nat)),(32,.i .i64 p),(31,.sl (il of)),(12,.ptr 3 0),(11,.ptr 2 0),(10,.ptr 1 0),(5,.ptr 0 0),(4,.b turned),(3,.fn g caps),(2,.i .i64 cols),(1,.sl (il of))],[(0,⟨43,[.i .i64 n,.i .i64 n,.sl Ac,.i .i64 n,.i .i64 m,.sl Bc]⟩),(1,⟨41,[.i .i64 0,.i .i64 0,.nl]⟩),(2,⟨41,[.i .i64 p,.i .i64 p,.own 4 0 0 3]⟩),(3,⟨41,[.i .i64 p,.i .i64 cols,.own 5 0 0 3]⟩),(4,⟨54,qrow []⟩),(5,⟨54,qrow []⟩)],6⟩)
  (leQ4H (And.intro hren hlt))
  ?_
 refine AX.block ?_
 refine AX.loop (fun N st=>∃ (i m1 m2:Nat) (xs ys:List Rat),i≤p∧N=p-i∧m1=i*p+0∧m2=i*cols+0∧xs=mcells p S m1∧ys=mcells cols R m2∧st=⟨[(33,.i .i64 i),(32,.i .i64 p),(31,.sl (il of)),(12,.ptr 3 0),(11,.ptr 2 0),(10,.ptr 1 0),(5,.ptr 0 0),(4,.b turned),(3,.fn g caps),(2,.i .i64 cols),(1,.sl (il of))],[(0,⟨43,[.i .i64 n,.i .i64 n,.sl Ac,.i .i64 n,.i .i64 m,.sl Bc]⟩),(1,⟨41,[.i .i64 0,.i .i64 0,.nl]⟩),(2,⟨41,[.i .i64 p,.i .i64 p,.own 4 0 m1 3]⟩),(3,⟨41,[.i .i64 p,.i .i64 cols,.own 5 0 m2 3]⟩),(4,⟨54,qrow xs⟩),(5,⟨54,qrow ys⟩)],6⟩) p ⟨0,0,0,[],[],Nat.zero_le _,rfl,by omega,by omega,rfl,rfl,rfl⟩ ?_
 rintro N st ⟨i,m1,m2,xs,ys,hi,rfl,hm1,hm2,hxs,hys,rfl⟩
 by_cases h1:i<p
 ·have hgi:=hget i h1
  have hxn:=hof i h1
  have hsd:=fun k=>hside i k h1
  have hcAx:=fun k=>hcA (of.getD i 0) k hxn
  have hcAy:=fun k (hk:k<n)=>hcA k (of.getD i 0) hk hxn
  have hpki:=fun k=>hpk i k
  have hpli:=fun k=>hpl i k h1
  generalize of.getD i 0=x at *
  refine AX.sR (rgAV [1,2,3,4,5,10,11,12,31,32,33,34]) ?_
  refine AX.seq ?_
  refine AX.condT ?_
  refine AX.keepA [1,2,3,4,5,10,11,12,31,32,33] ?_
  refine AX.skip ?_
  refine nmZ ?_
  refine AX.seq ?_
  refine AX.block ?_
  refine AX.sR (rgWV [1,2,3,4,5,10,11,12,13,14,31,32,33] (aI @hll (aI @hgi oT)) oT) ?_
  refine AX.cut (fun st=>∃ (m1':Nat) (xs':List Rat),m1'=i*p+p∧xs'=mcells p S m1'∧Le 0 id ⟨[(33,.i .i64 i),(32,.i .i64 p),(31,.sl (il of)),(14,.i .i64 x),(13,.i .i64 i),(12,.ptr 3 0),(11,.ptr 2 0),(10,.ptr 1 0),(5,.ptr 0 0),(4,.b turned),(3,.fn g caps),(2,.i .i64 cols),(1,.sl (il of))],[(0,⟨43,[.i .i64 n,.i .i64 n,.sl Ac,.i .i64 n,.i .i64 m,.sl Bc]⟩),(1,⟨41,[.i .i64 0,.i .i64 0,.nl]⟩),(2,⟨41,[.i .i64 p,.i .i64 p,.own 4 0 m1' 3]⟩),(3,⟨41,[.i .i64 p,.i .i64 cols,.own 5 0 m2 3]⟩),(4,⟨54,qrow xs'⟩),(5,⟨54,qrow ys⟩)],6⟩ st) ?_ ?_
  ·refine AX.sR (rgWV [1,2,3,4,5,10,11,12,13,14,31,32,33,38,39,40] (aI @hll oT) oT) ?_
   refine AX.weaken id (st':=⟨[(40,.i .i64 (0:Nat)),(39,.i .i64 p),(38,.sl (il of)),(33,.i .i64 i),(32,.i .i64 p),(31,.sl (il of)),(14,.i .i64 x),(13,.i .i64 i),(12,.ptr 3 0),(11,.ptr 2 0),(10,.ptr 1 0),(5,.ptr 0 0),(4,.b turned),(3,.fn g caps),(2,.i .i64 cols),(1,.sl (il of))],[(0,⟨43,[.i .i64 n,.i .i64 n,.sl Ac,.i .i64 n,.i .i64 m,.sl Bc]⟩),(1,⟨41,[.i .i64 0,.i .i64 0,.nl]⟩),(2,⟨41,[.i .i64 p,.i .i64 p,.own 4 0 m1 3]⟩),(3,⟨41,[.i .i64 p,.i .i64 cols,.own 5 0 m2 3]⟩),(4,⟨54,qrow xs⟩),(5,⟨54,qrow ys⟩)],6⟩)
    (leQ4H (And.intro hren hlt))
    ?_
   refine AX.block ?_
   refine AX.loop (fun N st=>∃ (k m1:Nat) (xs:List Rat),k≤p∧N=p-k∧m1=i*p+k∧xs=mcells p S m1∧st=⟨[(40,.i .i64 k),(39,.i .i64 p),(38,.sl (il of)),(33,.i .i64 i),(32,.i .i64 p),(31,.sl (il of)),(14,.i .i64 x),(13,.i .i64 i),(12,.ptr 3 0),(11,.ptr 2 0),(10,.ptr 1 0),(5,.ptr 0 0),(4,.b turned),(3,.fn g caps),(2,.i .i64 cols),(1,.sl (il of))],[(0,⟨43,[.i .i64 n,.i .i64 n,.sl Ac,.i .i64 n,.i .i64 m,.sl Bc]⟩),(1,⟨41,[.i .i64 0,.i .i64 0,.nl]⟩),(2,⟨41,[.i .i64 p,.i .i64 p,.own 4 0 m1 3]⟩),(3,⟨41,[.i .i64 p,.i .i64 cols,.own 5 0 m2 3]⟩),(4,⟨54,qrow xs⟩),(5,⟨54,qrow ys⟩)],6⟩) p ⟨0,m1,xs,Nat.zero_le _,rfl,hm1,hxs,rfl⟩ ?_
   clear hm1 hxs xs m1
   rintro N st ⟨k,m1,xs,hk,rfl,hm1,hxs,rfl⟩
   by_cases h2:k<p
   ·have hgk:=hget k h2
    have hyn:=hof k h2
    have hcx:=hcAx _ hyn
    have hcy:=hcAy _ hyn
    have hpe:=hpki k
    have hple:=hpli k h2
    have hse:=hsub i k
    have cn:=cneg _ hple
    have ca:=cadd _ hple
    have hmb:m1≤60*60+60:=by
     have:i*p≤60*60:=Nat.mul_le_mul (by omega) hp60
     omega
    have hlen:(qrow xs).length=m1*3:=by rw [qrow_length,hxs,mcells_length]
    have hrow:qrow xs++[.b (decide ((S i k).num<0)),dg (digits (S i k).num.natAbs),dg (digits (S i k).den)]=qrow (mcells p S (i*p+(k+1))):=by
     rw [mcells_succ S h2,qrow_app,hxs,hm1]
     rfl
    have hm1':m1+1=i*p+(k+1):=by omega
    obtain ⟨zs,hzs⟩:∃ zs,mcells p S (i*p+(k+1))=zs:=⟨_,rfl⟩
    rw [hzs] at hrow
    clear hcAx hcAy hpki hpli hsub hcA cneg cadd hxs hpk hpl
    generalize of.getD k 0=y at *
    generalize S i k=s at *
    generalize Pk i k=q at *
    refine AX.sR (rgAV [1,2,3,4,5,10,11,12,13,14,31,32,33,38,39,40,41]) ?_
    refine AX.seq ?_
    refine AX.condT ?_
    refine AX.keepA [1,2,3,4,5,10,11,12,13,14,31,32,33,38,39,40] ?_
    refine AX.skip ?_
    refine nmZ ?_
    refine AX.seq ?_
    refine AX.block ?_
    refine AX.sR (rgWV [1,2,3,4,5,10,11,12,13,14,15,16,31,32,33,38,39,40] (aI @hll (aI @hgk oT)) oT) ?_
    refine AX.sR (rgCV [1,2,3,4,5,10,11,12,13,14,15,16,17,31,32,33,38,39,40] (aI hcx oT)) ?_
    refine AX.cut (fun st=>Le 0 id ⟨[(40,.i .i64 k),(39,.i .i64 p),(38,.sl (il of)),(33,.i .i64 i),(32,.i .i64 p),(31,.sl (il of)),(17,.ptr 6 0),(15,.i .i64 k),(14,.i .i64 x),(13,.i .i64 i),(12,.ptr 3 0),(11,.ptr 2 0),(10,.ptr 1 0),(5,.ptr 0 0),(4,.b turned),(3,.fn g caps),(2,.i .i64 cols),(1,.sl (il of))],[(0,⟨43,[.i .i64 n,.i .i64 n,.sl Ac,.i .i64 n,.i .i64 m,.sl Bc]⟩),(1,⟨41,[.i .i64 0,.i .i64 0,.nl]⟩),(2,⟨41,[.i .i64 p,.i .i64 p,.own 4 0 m1 3]⟩),(3,⟨41,[.i .i64 p,.i .i64 cols,.own 5 0 m2 3]⟩),(4,⟨54,qrow xs⟩),(5,⟨54,qrow ys⟩),(6,⟨54,[.b (decide (q.num<0)),dg (digits q.num.natAbs),dg (digits q.den)]⟩)],7⟩ st) ?_ ?_
    ·cases turned
     ·rw [if_neg Bool.false_ne_true] at hpe
      subst hpe
      refine AX.sR (rgAV [1,2,3,4,5,10,11,12,13,14,15,16,17,31,32,33,38,39,40,50]) ?_
      refine AX.condF ?_
      refine AX.keepA [1,2,3,4,5,10,11,12,13,14,15,17,31,32,33,38,39,40] ?_
      refine AX.skip ?_
      refine nmZ ?_
      exact ⟨by first | exact trivial | rfl,
       (leQ4H (And.intro hren hlt))
       ⟩
     ·rw [if_pos rfl] at hpe
      subst hpe
      refine AX.sR (rgAV [1,2,3,4,5,10,11,12,13,14,15,16,17,31,32,33,38,39,40,50]) ?_
      refine AX.condT ?_
      refine AX.rR (rgCV [1,2,3,4,5,10,11,12,13,14,15,17,31,32,33,38,39,40] (aI hcy oT)) ?_
      refine nmZ ?_
      exact ⟨by first | exact trivial | rfl,
       (leQ4H (And.intro hren hlt))
       ⟩
    rintro st hle
    refine AX.weaken id hle ?_
    clear hle hcx hcy
    refine AX.sR (rgCV [1,2,3,4,5,10,11,12,13,14,15,18,31,32,33,38,39,40] (aI cn oT)) ?_
    refine AX.cut (fun st=>Le 0 id ⟨[(40,.i .i64 k),(39,.i .i64 p),(38,.sl (il of)),(33,.i .i64 i),(32,.i .i64 p),(31,.sl (il of)),(18,.ptr 7 0),(14,.i .i64 x),(13,.i .i64 i),(12,.ptr 3 0),(11,.ptr 2 0),(10,.ptr 1 0),(5,.ptr 0 0),(4,.b turned),(3,.fn g caps),(2,.i .i64 cols),(1,.sl (il of))],[(0,⟨43,[.i .i64 n,.i .i64 n,.sl Ac,.i .i64 n,.i .i64 m,.sl Bc]⟩),(1,⟨41,[.i .i64 0,.i .i64 0,.nl]⟩),(2,⟨41,[.i .i64 p,.i .i64 p,.own 4 0 m1 3]⟩),(3,⟨41,[.i .i64 p,.i .i64 cols,.own 5 0 m2 3]⟩),(4,⟨54,qrow xs⟩),(5,⟨54,qrow ys⟩),(7,⟨54,[.b (decide (s.num<0)),dg (digits s.num.natAbs),dg (digits s.den)]⟩)],8⟩ st) ?_ ?_
    ·by_cases hik:i=k
     ·subst hik
      rw [if_pos rfl] at hse
      subst hse
      refine AX.sR (rgAV [1,2,3,4,5,10,11,12,13,14,18,31,32,33,38,39,40,60]) ?_
      refine AX.condT ?_
      refine AX.rD (rgDCV [1,2,3,4,5,10,11,12,13,14,18,31,32,33,38,39,40] (aI co (aI ca oT))) ?_
      refine nmZ ?_
      exact ⟨by first | exact trivial | rfl,
       (leQ4H (And.intro hren hlt))
       ⟩
     ·rw [if_neg hik] at hse
      subst hse
      refine AX.sR (rgAV [1,2,3,4,5,10,11,12,13,14,18,31,32,33,38,39,40,60]) ?_
      refine AX.condF ?_
      refine AX.keepA [1,2,3,4,5,10,11,12,13,14,18,31,32,33,38,39,40] ?_
      refine AX.skip ?_
      refine nmZ ?_
      exact ⟨by first | exact trivial | rfl,
       (leQ4H (And.intro hren hlt))
       ⟩
    rintro st hle
    refine AX.weaken id hle ?_
    clear hle cn ca hse
    refine AX.rR (rgWV [1,2,3,4,5,10,11,12,13,14,31,32,33,38,39,40] (aI @hlen (aI @zerosV_1 (aI @tkS (aI @tk0 oT)))) oT) ?_
    refine nmZ ?_
    rw [hrow]
    refine AX.rR (rgWV [1,2,3,4,5,10,11,12,13,14,31,32,33,38,39,40] (aI @lit_add oT) oT) ?_
    refine nmZ ?_
    refine ⟨_,_,fun n=>if n=4 then 9 else n,?_,
     (leQ4H (And.intro hren hlt))
     , ⟨k+1,m1+1,zs,by omega,rfl,hm1',by rw [hm1',hzs],rfl⟩⟩
    omega
   ·have e:k=p:=by omega
    subst e
    refine AX.sR (rgAV [1,2,3,4,5,10,11,12,13,14,31,32,33,38,39,40,41]) ?_
    refine AX.seq ?_
    refine AX.condF ?_
    refine AX.exit ?_
    refine nmZ ?_
    refine ⟨by first | exact trivial | rfl,m1,xs,hm1,hxs,
     (leQ4H (And.intro hren hlt))
     ⟩
  clear hm1 hxs xs m1
  rintro st ⟨m1,xs,hm1,hxs,hle⟩
  refine AX.weaken id hle ?_
  clear hle
  refine AX.sR (rgAV [1,2,3,4,5,10,11,12,14,31,32,33,71,72]) ?_
  refine AX.weaken id (st':=⟨[(72,.i .i64 (0:Nat)),(71,.i .i64 cols),(33,.i .i64 i),(32,.i .i64 p),(31,.sl (il of)),(14,.i .i64 x),(12,.ptr 3 0),(11,.ptr 2 0),(10,.ptr 1 0),(5,.ptr 0 0),(4,.b turned),(3,.fn g caps),(2,.i .i64 cols),(1,.sl (il of))],[(0,⟨43,[.i .i64 n,.i .i64 n,.sl Ac,.i .i64 n,.i .i64 m,.sl Bc]⟩),(1,⟨41,[.i .i64 0,.i .i64 0,.nl]⟩),(2,⟨41,[.i .i64 p,.i .i64 p,.own 4 0 m1 3]⟩),(3,⟨41,[.i .i64 p,.i .i64 cols,.own 5 0 m2 3]⟩),(4,⟨54,qrow xs⟩),(5,⟨54,qrow ys⟩)],6⟩)
   (leQ4H (And.intro hren hlt))
   ?_
  refine AX.block ?_
  refine AX.loop (fun N st=>∃ (k m2:Nat) (ys:List Rat),k≤cols∧N=cols-k∧m2=i*cols+k∧ys=mcells cols R m2∧st=⟨[(72,.i .i64 k),(71,.i .i64 cols),(33,.i .i64 i),(32,.i .i64 p),(31,.sl (il of)),(14,.i .i64 x),(12,.ptr 3 0),(11,.ptr 2 0),(10,.ptr 1 0),(5,.ptr 0 0),(4,.b turned),(3,.fn g caps),(2,.i .i64 cols),(1,.sl (il of))],[(0,⟨43,[.i .i64 n,.i .i64 n,.sl Ac,.i .i64 n,.i .i64 m,.sl Bc]⟩),(1,⟨41,[.i .i64 0,.i .i64 0,.nl]⟩),(2,⟨41,[.i .i64 p,.i .i64 p,.own 4 0 m1 3]⟩),(3,⟨41,[.i .i64 p,.i .i64 cols,.own 5 0 m2 3]⟩),(4,⟨54,qrow xs⟩),(5,⟨54,qrow ys⟩)],6⟩) cols ⟨0,m2,ys,Nat.zero_le _,rfl,hm2,hys,rfl⟩ ?_
  clear hm2 hys ys m2
  rintro N st ⟨k,m2,ys,hk,rfl,hm2,hys,rfl⟩
  by_cases h2:k<cols
  ·have hc:=hsd k h2
   have hmb:m2≤60*60+60:=by
    have:i*cols≤60*60:=Nat.mul_le_mul (by omega) hcols
    omega
   have hlen:(qrow ys).length=m2*3:=by rw [qrow_length,hys,mcells_length]
   have hrow:qrow ys++[.b (decide ((R i k).num<0)),dg (digits (R i k).num.natAbs),dg (digits (R i k).den)]=qrow (mcells cols R (i*cols+(k+1))):=by
    rw [mcells_succ R h2,qrow_app,hys,hm2]
    rfl
   have hm2':m2+1=i*cols+(k+1):=by omega
   obtain ⟨zs,hzs⟩:∃ zs,mcells cols R (i*cols+(k+1))=zs:=⟨_,rfl⟩
   rw [hzs] at hrow
   clear hsd hys
   generalize R i k=s at *
   refine AX.sR (rgAV [1,2,3,4,5,10,11,12,14,31,32,33,71,72,73]) ?_
   refine AX.seq ?_
   refine AX.condT ?_
   refine AX.keepA [1,2,3,4,5,10,11,12,14,31,32,33,71,72] ?_
   refine AX.skip ?_
   refine nmZ ?_
   refine AX.seq ?_
   refine AX.block ?_
   refine AX.sR (rgAV [1,2,3,4,5,10,11,12,14,19,31,32,33,71,72]) ?_
   refine AX.rD (rgDWV [1,2,3,4,5,10,11,12,14,31,32,33,71,72] (aI @hlen (aI @zerosV_1 (aI @tkS (aI @tk0 oT)))) (aI hc oT)) ?_
   refine nmZ ?_
   rw [hrow]
   refine AX.rR (rgWV [1,2,3,4,5,10,11,12,14,31,32,33,71,72] (aI @lit_add oT) oT) ?_
   refine nmZ ?_
   refine ⟨_,_,fun n=>if n=5 then 7 else n,?_,
    (leQ4H (And.intro hren hlt))
    , ⟨k+1,m2+1,zs,by omega,rfl,hm2',by rw [hm2',hzs],rfl⟩⟩
   omega
  ·have e:k=cols:=by omega
   refine AX.sR (rgAV [1,2,3,4,5,10,11,12,14,31,32,33,71,72,73]) ?_
   refine AX.seq ?_
   refine AX.condF ?_
   refine AX.exit ?_
   refine nmZ ?_
   refine AX.rR (rgWV [1,2,3,4,5,10,11,12,31,32,33] (aI @lit_add oT) oT) ?_
   refine nmZ ?_
   refine ⟨_,_,id,?_,
    (leQ4H (And.intro hren hlt))
    , ⟨i+1,m1,m2,xs,ys,by omega,rfl,by rw [hm1,Nat.succ_mul];omega,by rw [hm2,e,Nat.succ_mul];omega,hxs,hys,rfl⟩⟩
   omega
 ·have e:i=p:=by omega
  have hm1':m1=p*p:=by rw [hm1,e];rfl
  have hm2':m2=p*cols:=by rw [hm2,e];rfl
  rw [hm1'] at hxs
  rw [hm2'] at hys
  have l1:xs.length=m1:=by rw [hxs,hm1',mcells_length]
  have l2:ys.length=m2:=by rw [hys,hm2',mcells_length]
  unfold qM mV at cs
  rw [← hxs,← hys] at cs
  clear hm1 hm2 hm1' hm2' hxs hys
  subst l1 l2
  unfold qM mV
  generalize (mcells cols (solX p S R) (p*cols)).map rV=Xc at *
  refine AX.sR (rgAV [10,11,12,34]) ?_
  refine AX.seq ?_
  refine AX.condF ?_
  refine AX.exit ?_
  refine nmZ ?_
  refine AX.fz 4 (fr':=[(12,.ptr 3 0),(11,.ptr 2 0),(10,.ptr 1 0)]) (hp':=[(1,⟨41,[.i .i64 0,.i .i64 0,.nl]⟩),(2,⟨41,[.i .i64 p,.i .i64 p,.sl (xs.map rV)]⟩),(3,⟨41,[.i .i64 p,.i .i64 cols,.own 5 0 ys.length 3]⟩),(5,⟨54,qrow ys⟩)]) rfl (hf_q xs) (.cons rfl .same (.cons rfl .same (.cons rfl .same .nil))) (.keep (by decide) rfl (.cons (by decide) rfl rfl rfl (fun k hk=>?_) (.keep (by decide) rfl (.keep (by decide) rfl .nil)))) ?_
  ·have:k=0∨k=1∨k=2:=by simp at hk;omega
   rcases this with rfl | rfl | rfl
   ·exact .same
   ·exact .same
   ·exact .own (okFrz_q xs) (by rw [take_q,chunks_q])
  refine AX.fz 5 (fr':=[(12,.ptr 3 0),(11,.ptr 2 0),(10,.ptr 1 0)]) (hp':=[(1,⟨41,[.i .i64 0,.i .i64 0,.nl]⟩),(2,⟨41,[.i .i64 p,.i .i64 p,.sl (xs.map rV)]⟩),(3,⟨41,[.i .i64 p,.i .i64 cols,.sl (ys.map rV)]⟩)]) rfl (hf_q ys) (.cons rfl .same (.cons rfl .same (.cons rfl .same .nil))) (.keep (by decide) rfl (.keep (by decide) rfl (.cons (by decide) rfl rfl rfl (fun k hk=>?_) .nil))) ?_
  ·have:k=0∨k=1∨k=2:=by simp at hk;omega
   rcases this with rfl | rfl | rfl
   ·exact .same
   ·exact .same
   ·exact .own (okFrz_q ys) (by rw [take_q,chunks_q])
  refine AX.sR (rgCV [10,20] (aI cs oT)) ?_
  refine AX.sR (rgAV [10]) ?_
  refine AX.ret ⟨.inl rfl,?_⟩
  exact dnQ4
set_option maxHeartbeats 16000000 in
theorem ceach_b (b:Bool) (n m L W:Nat) (hn:n≤60) (hm:m≤60) (A B:Mx) (hC:isC n m A B=true) (hA:∀ i k,i<n→k<n→rL (A i k)≤L) (hB:∀ i k,i<n→k<m→rL (B i k)≤L) (hL1:1≤L) (bE:Bd (pick n (rchB n m A B)).length m (subM false (pick n (rchB n m A B)) A) (rhsM (pick n (rchB n m A B)) B) W) (hL3:120*(L+1)+1<2 ^ 34) :
  PCall Tryz.prog 93 [cV n m A B] (eachR b n m (eachM n m A B)) (eachRows b n m (eachM n m A B)):=by
 have cr:=cright_ok n m L hn hm A B hA hB hL1 hL3
 rw [hC] at cr
 have creach:=reaches_ok n m L hn hm A B hC
 have cpick:=picked_ok n hn (rchB n m A B)
 have cw:=within_b n m L W hn hm A B hA (pick n (rchB n m A B)) (pick n (rchB n m A B)).length rfl (Nat.le_trans (pick_le _ _) hn) (fun i hi=>(pick_get hi).1) m hm 133 [.rp [.i .i64 n,.i .i64 n,.sl ((mcells n A (n*n)).map rV),.i .i64 n,.i .i64 m,.sl ((mcells m B (n*m)).map rV)]] rfl (rhsM (pick n (rchB n m A B)) B) false (fun i k hi hk=>each1_ok n m hn hm A B _ k (pick_get hi).1 hk)
  (nonsing_sub hC) (fun i k hi hk=>by
   have:=hB _ k (pick_get hi).1 hk
   show rL (B _ k)≤_
   omega) hL1 (by omega) bE
 clear bE
 have cz:=mzero_own n m hn hm
 have hX:∀ i,i<n→rchB n m A B i=true→∀ k,eachM n m A B i k=solX (pick n (rchB n m A B)).length (subM false (pick n (rchB n m A B)) A) (rhsM (pick n (rchB n m A B)) B) (pick i (rchB n m A B)).length k:=fun i _ h k=>if_pos h
 have hX0:∀ i,¬ rchB n m A B i=true→∀ k,eachM n m A B i k=0:=fun i h k=>if_neg h
 have hmpos:∀ i,rchB n m A B i=true→0<m:=fun i h=>rch_pos (rchB_iff.1 h)
 generalize eachM n m A B=E at *
 generalize solX (pick n (rchB n m A B)).length (subM false (pick n (rchB n m A B)) A) (rhsM (pick n (rchB n m A B)) B)=X at *
 generalize hf:rchB n m A B=f at *
 have hgets:=fun (i:Nat) (hi:i<(pick n f).length)=>pick_get hi
 have hat:=fun (s:Nat) (hs:s<n) (h:f s=true)=>pick_at hs h
 have hple:=pick_le n f
 generalize hof:pick n f=of at *
 refine PCall.of_ax Tryz.call93 Tryz.func93 rfl (by simp [Tryz.ntmps93]) fun O w0=>?_
 simp only [Tryz.ntmps93,Tryz.results93,argFr]
 unfold qM mV at cw
 unfold cV at *
 generalize (mcells n A (n*n)).map rV=Ac at *
 generalize (mcells m B (n*m)).map rV=Bc at *
 obtain ⟨p,hp⟩:∃ p,of.length=p:=⟨_,rfl⟩
 have hll:=il_length of
 rw [hp] at hll cw hple
 have hXl:((mcells m X (p*m)).map rV).length=p*m:=by rw [List.length_map,mcells_length]
 have hXs:=fun (i:Nat) (hi:i<p)=>mcells_row' (m:=m) X hi
 have hX1:0<p*m→(((mcells m X (p*m)).map rV).getD 0 .junk).cells.length=3:=by
  intro h
  rw [getD_rV (by rw [mcells_length];exact h)]
  rfl
 generalize (mcells m X (p*m)).map rV=Xc at *
 refine AX.sR (rgAV [1,2]) ?_
 refine AX.seq ?_
 refine AX.sR (rgCV [1,2,12] (aI cr oT)) ?_
 refine AX.condF ?_
 refine AX.keepA [1,2] ?_
 refine AX.skip ?_
 refine nmZ ?_
 refine AX.sR (rgCV [1,2,4] (aI creach (aI cpick oT))) ?_
 refine AX.fz 0 (fr':=[(4,.sl (il of)),(2,.ptr 1 0),(1,.rp [.i .i64 n,.i .i64 n,.sl Ac,.i .i64 n,.i .i64 m,.sl Bc])]) (hp':=[(1,⟨41,[.i .i64 0,.i .i64 0,.nl]⟩)]) rfl rfl (.cons rfl .same (.cons rfl .same (.cons rfl (.ptr rfl) .nil))) (.keep (by decide) rfl .nil) ?_
 refine AX.sR (rgCV [1,2,4,5] (aI cw oT)) ?_
 refine AX.sR (rgCV [2,4,5,6] (aI cz oT)) ?_
 refine AX.seq ?_
 refine AX.sR (rgWV [2,5,6,34,35,36] (aI @hll oT) oT) ?_
 refine AX.weaken id (st':=⟨[(36,.i .i64 (0:Nat)),(35,.i .i64 p),(34,.sl (il of)),(6,.ptr 4 0),(5,.ptr 2 0),(2,.ptr 1 0)],[(1,⟨41,[.i .i64 0,.i .i64 0,.nl]⟩),(2,⟨41,[.i .i64 p,.i .i64 m,.sl Xc]⟩),(3,⟨54,qrow (mcells m (fun _ _=>0) (n*m))⟩),(4,⟨41,[.i .i64 n,.i .i64 m,.own 3 0 (n*m) 3]⟩)],5⟩)
  leQ4
  ?_
 refine AX.block ?_
 refine AX.loop (fun N st=>∃ (i:Nat) (xs:List Rat),i≤p∧N=p-i∧(xs=mcells m (fun s k=>if f s=true∧(pick s f).length<i then X (pick s f).length k else 0) (n*m))∧st=⟨[(36,.i .i64 i),(35,.i .i64 p),(34,.sl (il of)),(6,.ptr 4 0),(5,.ptr 2 0),(2,.ptr 1 0)],[(1,⟨41,[.i .i64 0,.i .i64 0,.nl]⟩),(2,⟨41,[.i .i64 p,.i .i64 m,.sl Xc]⟩),(3,⟨54,qrow xs⟩),(4,⟨41,[.i .i64 n,.i .i64 m,.own 3 0 (n*m) 3]⟩)],5⟩) p ⟨0,_,Nat.zero_le _,rfl,by
  congr 1
  funext s k
  rw [if_neg fun h=>Nat.not_lt_zero _ h.2],rfl⟩ ?_
 rintro N st ⟨i,xs,hi,rfl,hxs,rfl⟩
 by_cases h1:i<p
 ·obtain ⟨g1,g2,g3⟩:=hgets i (by omega)
  have hgi:=il_get (l:=of) (j:=i) (by omega)
  generalize of.getD i 0=s at *
  have hm0:=hmpos s g2
  have hs:=setR_row (n:=n) (m:=m) (s:=s) (fun s k=>if f s=true∧(pick s f).length<i then X (pick s f).length k else 0) (X i) g1 m (Nat.le_refl _)
  have hnew:mcells m (fun i' k=>if i'=s∧k<m then X i k else if f i'=true∧(pick i' f).length<i then X (pick i' f).length k else 0) (n*m)=mcells m (fun s k=>if f s=true∧(pick s f).length<i+1 then X (pick s f).length k else 0) (n*m):=by
   refine mcells_congr fun i' k hi' hk=>?_
   by_cases e:i'=s
   ·subst e
    rw [if_pos ⟨rfl,hk⟩,if_pos ⟨g2,by omega⟩,g3]
   ·rw [if_neg fun h=>e h.1]
    by_cases hf':f i'=true
    ·have hne:(pick i' f).length≠i:=by
      intro h
      have h2:=(hat i' hi' hf').2
      have h3:=(hat s g1 g2).2
      rw [h] at h2
      rw [g3] at h3
      exact e (h2.symm.trans h3)
     by_cases h:(pick i' f).length<i
     ·rw [if_pos ⟨hf',h⟩,if_pos ⟨hf',by omega⟩]
     ·rw [if_neg fun h'=>h h'.2,if_neg fun h'=>by omega]
    ·rw [if_neg fun h=>hf' h.1,if_neg fun h=>hf' h.1]
  rw [hnew,← hxs] at hs
  obtain ⟨ys,hys⟩:∃ ys,mcells m (fun s k=>if f s=true∧(pick s f).length<i+1 then X (pick s f).length k else 0) (n*m)=ys:=⟨_,rfl⟩
  rw [hys] at hs
  have hsl:=hXs i h1
  have hlen:(qrow xs).length=n*m*3:=by rw [qrow_length,hxs,mcells_length]
  have hx1:=hX1 (Nat.mul_pos (by omega) hm0)
  have m1:(s:Int)*(m:Int)=((s*m:Nat):Int):=(Int.natCast_mul s m).symm
  have m2:((s+1:Nat):Int)*(m:Int)=((s*m+m:Nat):Int):=by rw [← Int.natCast_mul,Nat.succ_mul]
  have m3:(i:Int)*(m:Int)=((i*m:Nat):Int):=(Int.natCast_mul i m).symm
  have m4:((i+1:Nat):Int)*(m:Int)=((i*m+m:Nat):Int):=by rw [← Int.natCast_mul,Nat.succ_mul]
  have b1:s*m+m≤n*m:=by
   have:(s+1)*m≤n*m:=Nat.mul_le_mul_right _ g1
   rwa [Nat.succ_mul] at this
  have b2:i*m+m≤p*m:=by
   have:(i+1)*m≤p*m:=Nat.mul_le_mul_right _ h1
   rwa [Nat.succ_mul] at this
  have b3:n*m≤60*60:=Nat.mul_le_mul hn hm
  have b4:p*m≤60*60:=Nat.mul_le_mul (by omega) hm
  have hvl:=vl_length m (X i)
  clear hnew hat hgets hmpos hX hX0 hX1 hXs hxs cw cz cr creach cpick
  generalize vl m (X i)=ws at *
  generalize s*m=z1 at *
  generalize i*m=z2 at *
  generalize n*m=nm at *
  generalize p*m=pm at *
  have hcb:z1*3+m*3≤(qrow xs).length:=by rw [hlen];omega
  refine AX.sR (rgAV [2,5,6,34,35,36,37]) ?_
  refine AX.seq ?_
  refine AX.condT ?_
  refine AX.keepA [2,5,6,34,35,36] ?_
  refine AX.skip ?_
  refine nmZ ?_
  refine AX.seq ?_
  refine AX.block ?_
  refine AX.sR (rgWV [2,5,6,8,9,34,35,36] (aI @hll (aI @hgi oT)) oT) ?_
  apply AX.dreg [2,5,6,34,35,36] (by kernel_rfl) (by simp only [pq];rfl)
  ·repeat (first
  |(apply RunD.op rfl;· rfl
    ·(simp only [opsOf,valsOf,valOf,lkp,ofConst,ofCell,Array.toList,Option.toList,List.map_cons,List.map_nil,List.cons_append,List.nil_append,List.append_nil,Nat.reduceEqDiff,Nat.reducePow,Nat.reduceLT,Nat.reduceLeDiff,reduceIte,if_true,if_false,IntKind.min,IntKind.max,IntKind.bits,IntKind.signed,Int.reduceLE,Int.reduceNeg,Int.reducePow,Int.reduceSub,and_self,Bool.false_eq_true,Nat.reduceSub];rfl)
    iterate 2 (· (simp (disch:=omega) only [go_sem,i64_of,u32_of,u64_of,Nat.reduceLT,Nat.reduceLeDiff,Nat.reduceEqDiff,Nat.reduceAdd,Nat.reduceSub,Nat.reduceMul,Nat.reducePow,Nat.reduceBEq,Int.reduceLE,Int.reduceLT,Int.reduceToNat,Int.reduceEq,Int.reduceNeg,↓reduceIte,reduceCtorEq,lit_add,m1,m2,m3,m4,hXl,hx1,hsl,Nat.add_sub_cancel_left];rfl))
    ·(simp only [pb,Nat.reduceLT,Nat.reduceAdd,reduceIte];rfl)
    ·rfl)
  |(apply RunD.copyQ (xs:=ws) rfl;· rfl
    ·(simp only [opsOf,valsOf,valOf,lkp,ofConst,ofCell,Array.toList,Option.toList,List.map_cons,List.map_nil,List.cons_append,List.nil_append,List.append_nil,Nat.reduceEqDiff,Nat.reducePow,Nat.reduceLT,Nat.reduceLeDiff,reduceIte,if_true,if_false,IntKind.min,IntKind.max,IntKind.bits,IntKind.signed,Int.reduceLE,Int.reduceNeg,Int.reducePow,Int.reduceSub,and_self,Bool.false_eq_true,Nat.reduceSub];rfl)
    ·exact rfl
    ·exact hvl
    ·rfl
    ·rfl
    ·rfl
    ·exact hs
    ·exact hcb
    ·(simp only [pb,Nat.reduceLT,Nat.reduceAdd,reduceIte];rfl)
    ·rfl)
  |(apply RunD.skip;· rfl
    ·(simp only [pb,Nat.reduceLT,Nat.reduceAdd,reduceIte];rfl)
    ·rfl))
   exact RunD.nil
  ·repeat (first | exact Keep.nil | (apply Keep.take;· rfl) | (apply Keep.drop;· rfl))
  ·kernel_rfl
  refine nmZ ?_
  refine AX.rR (rgWV [2,5,6,34,35,36] (aI @lit_add oT) oT) ?_
  refine nmZ ?_
  refine ⟨_,_,id,?_,
   leQ4
   , ⟨i+1,ys,by omega,rfl,hys.symm,rfl⟩⟩
  omega
 ·have e:i=p:=by omega
  have hfin:xs=mcells m E (n*m):=by
   rw [hxs]
   refine mcells_congr fun s k hs hk=>?_
   by_cases h:f s=true
   ·have:=(hat s hs h).1
    rw [if_pos ⟨h,by omega⟩,hX s hs h]
   ·rw [if_neg fun h'=>h h'.1,hX0 s h]
  have hl:n*m=xs.length:=by rw [hfin,mcells_length]
  refine AX.sR (rgAV [2,5,6,34,35,36,37]) ?_
  refine AX.seq ?_
  refine AX.condF ?_
  refine AX.exit ?_
  refine nmZ ?_
  refine AX.sR (rgAV [2,3]) ?_
  cases b
  ·show AX _ _ _ _ (fun e st=>(e=.ret∨e=.normal)∧Done _ _ (.tup [.agg [.i .i64 n,.i .i64 m,.sl ((mcells m E (n*m)).map rV)],.i .i64 0]) [] st)
   rw [← hfin,hl]
   refine AX.fz 3 (fr':=[(2,.ptr 1 0),(3,.i .i64 0)]) (hp':=[(1,⟨41,[.i .i64 n,.i .i64 m,.sl (xs.map rV)]⟩)]) rfl (hf_q xs) (.cons rfl .same (.cons rfl .same .nil)) (.cons (by decide) rfl rfl rfl (fun k hk=>?_) .nil) ?_
   ·have:k=0∨k=1∨k=2:=by simp at hk;omega
    rcases this with rfl | rfl | rfl
    ·exact .same
    ·exact .same
    ·exact .own (okFrz_q xs) (by rw [take_q,chunks_q])
   refine AX.ret ⟨.inl rfl,?_⟩
   exact dnQ4
  ·show AX _ _ _ _ (fun e st=>(e=.ret∨e=.normal)∧Done _ _ (.tup [.agg [.i .i64 n,.i .i64 m,.own 0 0 (n*m) 3],.i .i64 0]) [⟨54,qrow (mcells m E (n*m))⟩] st)
   rw [← hfin]
   refine AX.ret ⟨.inl rfl,?_⟩
   exact Done.matRowE lay_mat rfl rfl rfl rfl
set_option maxHeartbeats 8000000 in
theorem ends_b (n m L LX W:Nat) (hn24:n≤24) (hm:m≤60) (A B:Mx) (hC:isC n m A B=true) (hA:∀ i k,i<n→k<n→rL (A i k)≤L) (hB:∀ i k,i<n→k<m→rL (B i k)≤L) (hL1:1≤L) (bE:Bd (pick n (rchB n m A B)).length m (subM false (pick n (rchB n m A B)) A) (rhsM (pick n (rchB n m A B)) B) W) (hL3:120*(L+1)+1<2 ^ 34) (v:Nat→Rat) (hv:∀ i,i<n→0≤v i)
  (hvL:∀ i,i<n→rL (v i)≤LX) (hX:∀ i j,i<n→j<m→rL (eachM n m A B i j)≤LX) (hLX1:1≤LX) (hLX:60*(2*LX+1)+1<2 ^ 34) (hS:(n+m+1)*(24*(2*LX+1)+1+1)<2 ^ 33) :
  PCall Tryz.prog 53 [cV n m A B,.sl ((vl n v).map rV)] (.tup [.sl ((vl m (thr n v (eachM n m A B))).map rV),rV (neverQ n m A B v),.i .i64 0]) []:=by
 have hn:n≤60:=by omega
 have cr:=cright_ok n m L hn hm A B hA hB hL1 hL3
 rw [hC] at cr
 have cwt:=weights_q n m LX A B hn v hv hvL (by omega)
 have ce:PCall Tryz.prog 93 [cV n m A B] (.tup [qM n m (eachM n m A B),.i .i64 0]) []:=ceach_b false n m L W hn hm A B hC hA hB hL1 bE hL3
 clear bE
 have ct:=through_ok n m LX hn hm v (eachM n m A B) hvL hX hLX1 hLX
 have hlen:=fun (k:Nat) (hk:k<m)=>thr_len (B:=eachM n m A B) (k:=k) hLX1 hvL (fun i hi=>hX i k hi hk) n (Nat.le_refl _)
 have hn60:n*(2*LX+1)≤24*(2*LX+1):=Nat.mul_le_mul_right _ hn24
 have hnS:(n+1)*(24*(2*LX+1)+1+1)≤(n+m+1)*(24*(2*LX+1)+1+1):=Nat.mul_le_mul_right _ (by omega)
 have hmS:(m+1)*(24*(2*LX+1)+1+1)≤(n+m+1)*(24*(2*LX+1)+1+1):=Nat.mul_le_mul_right _ (by omega)
 rw [Nat.add_mul,Nat.one_mul] at hnS hmS
 have hvY:∀ i,i<n→rL (v i)≤24*(2*LX+1)+1:=fun i hi=>by have:=hvL i hi;omega
 have hwY:∀ k,k<m→rL (thr n v (eachM n m A B) k)≤24*(2*LX+1)+1:=fun k hk=>by have:=hlen k hk;omega
 have cs1:=csum hvY (by omega) (by omega)
 have cs2:=csum hwY (by omega) (by omega)
 have l1:=sumN_len hvY n (Nat.le_refl _)
 have l2:=sumN_len hwY m (Nat.le_refl _)
 have csb:PCall Tryz.prog 94 [.agg [.b (decide ((sumN n v).num<0)),dg (digits (sumN n v).num.natAbs),dg (digits (sumN n v).den)],.agg [.b (decide ((sumN m (thr n v (eachM n m A B))).num<0)),dg (digits (sumN m (thr n v (eachM n m A B))).num.natAbs),dg (digits (sumN m (thr n v (eachM n m A B))).den)]] (.agg [.b (decide ((neverQ n m A B v).num<0)),dg (digits (neverQ n m A B v).num.natAbs),dg (digits (neverQ n m A B v).den)]) []:=
  qsub_ok (L:=(n+m+1)*(24*(2*LX+1)+1+1)) (IsQ.of (by omega)) (IsQ.of (by omega)) hS (by omega)
 clear hlen hnS hmS hvY hwY l1 l2 hX
 refine PCall.of_ax Tryz.call53 Tryz.func53 rfl (by simp [Tryz.ntmps53]) fun O w0=>?_
 simp only [Tryz.ntmps53,Tryz.results53,argFr]
 unfold rV
 generalize neverQ n m A B v=nq at *
 generalize hE:eachM n m A B=E at *
 generalize sumN m (thr n v E)=s2 at *
 generalize sumN n v=s1 at *
 unfold qM mV at ce
 unfold cV at *
 generalize (mcells m E (n*m)).map rV=Ec at *
 generalize (mcells n A (n*n)).map rV=Ac at *
 generalize (mcells m B (n*m)).map rV=Bc at *
 unfold rV at *
 generalize List.map (fun q=>rR (decide (q.num<0)) (digits q.num.natAbs) (digits q.den)) (vl m (thr n v E))=ws at *
 generalize List.map (fun q=>rR (decide (q.num<0)) (digits q.num.natAbs) (digits q.den)) (vl n v)=vs at *
 refine AX.sR (rgAV [1,2,5]) ?_
 refine AX.seq ?_
 refine AX.sR (rgCV [1,2,5,18] (aI cr (aI cwt oT))) ?_
 refine AX.condF ?_
 refine AX.keepA [1,2,5] ?_
 refine AX.skip ?_
 refine nmZ ?_
 refine AX.sR (rgCV [1,5,7] (aI ce oT)) ?_
 refine AX.sR (rgCV [1,5,9] (aI ct oT)) ?_
 refine AX.sR (rgCV [4,5,6] (aI cs1 (aI cs2 (aI csb oT)))) ?_
 refine AX.ret ⟨.inl rfl,?_⟩
 exact dnQ4
set_option maxHeartbeats 16000000 in
theorem visits_b (n m L LX W:Nat) (hn24:n≤24) (hm:m≤60) (A B:Mx) (hC:isC n m A B=true) (hA:∀ i k,i<n→k<n→rL (A i k)≤L) (hB:∀ i k,i<n→k<m→rL (B i k)≤L) (hL1:1≤L) (hL3:120*(L+1)+1<2 ^ 34) (v:Nat→Rat) (hv:∀ i,i<n→0≤v i)
  (bE:Bd (pick n (rchB n m A B)).length m (subM false (pick n (rchB n m A B)) A) (rhsM (pick n (rchB n m A B)) B) W) (bV:Bd (pick n (rchB n m A B)).length 1 (subM true (pick n (rchB n m A B)) A) (fun i _=>v ((pick n (rchB n m A B)).getD i 0)) W)
  (hvL:∀ i,i<n→rL (v i)≤L) (hX:∀ i j,i<n→j<m→rL (eachM n m A B i j)≤LX) (hLX1:L≤LX) (hLX:60*(2*LX+1)+1<2 ^ 34) (hS:(n+m+1)*(24*(2*LX+1)+1+1)<2 ^ 33) :
  PCall Tryz.prog 102 [cV n m A B,.sl ((vl n v).map rV)] (if neverQ n m A B v=0 then .tup [.sl ((vl n (visV n m A B v)).map rV),.i .i64 0] else .tup [.sl [],.i .i64 31]) []:=by
 have hn:n≤60:=by omega
 have cen:=ends_b n m L LX W hn24 hm A B hC hA hB hL1 bE hL3 v hv (fun i hi=>Nat.le_trans (hvL i hi) hLX1) hX (by omega) hLX hS
 have creach:=reaches_ok n m L hn hm A B hC
 have cpick:=picked_ok n hn (rchB n m A B)
 have cw:=within_b n m L W hn hm A B hA (pick n (rchB n m A B)) (pick n (rchB n m A B)).length rfl (Nat.le_trans (pick_le _ _) hn) (fun i hi=>(pick_get hi).1) 1 (by omega) 142 [.rp [.sl ((vl n v).map rV)]] rfl (fun i _=>v ((pick n (rchB n m A B)).getD i 0)) true (fun i k hi hk=>visits1_ok n v _ k (pick_get hi).1)
  (nonsing_turn hC hA hL1) (fun i k hi hk=>by
   have:=hvL _ (pick_get hi).1
   show rL (v _)≤_
   omega) hL1 (by omega) bV
 clear bE bV
 have cz:=czeros_own n hn
 have hX':∀ i,i<n→rchB n m A B i=true→visV n m A B v i=solX (pick n (rchB n m A B)).length (subM true (pick n (rchB n m A B)) A) (fun i _=>v ((pick n (rchB n m A B)).getD i 0)) (pick i (rchB n m A B)).length 0:=fun i _ h=>if_pos h
 have hX0:∀ i,¬ rchB n m A B i=true→visV n m A B v i=0:=fun i h=>if_neg h
 have nz:=num0 (q:=neverQ n m A B v)
 clear hX
 generalize visV n m A B v=V0 at *
 generalize solX (pick n (rchB n m A B)).length (subM true (pick n (rchB n m A B)) A) (fun i _=>v ((pick n (rchB n m A B)).getD i 0))=X at *
 generalize thr n v (eachM n m A B)=ew at *
 generalize neverQ n m A B v=nq at *
 generalize hf:rchB n m A B=f at *
 have hgets:=fun (i:Nat) (hi:i<(pick n f).length)=>pick_get hi
 have hat:=fun (s:Nat) (hs:s<n) (h:f s=true)=>pick_at hs h
 have hple:=pick_le n f
 generalize hof:pick n f=of at *
 refine PCall.of_ax Tryz.call102 Tryz.func102 rfl (by simp [Tryz.ntmps102]) fun O w0=>?_
 simp only [Tryz.ntmps102,Tryz.results102,argFr]
 unfold qM mV at cw
 unfold cV at *
 generalize (mcells n A (n*n)).map rV=Ac at *
 generalize (mcells m B (n*m)).map rV=Bc at *
 generalize (vl m ew).map rV=wc at *
 generalize (vl n v).map rV=vs at *
 obtain ⟨p,hp⟩:∃ p,of.length=p:=⟨_,rfl⟩
 have hll:=il_length of
 rw [hp] at hll cw hple
 have hixX:=fun (i:Nat) (hi:i<p)=>fun x y=>effIxM (x:=x) (y:=y) (w:=1) (n:=p) X hi (show 0<1 by decide) (z:=i) (by omega)
 generalize (mcells 1 X (p*1)).map rV=Xc at *
 by_cases hz:nq=0
 ·rw [if_pos hz]
  have e0:=nz.2 hz
  refine AX.sR (rgAV [2,3]) ?_
  refine AX.sR (rgCV [2,3,7,8] (aI cen oT)) ?_
  refine AX.seq ?_
  refine AX.sR (rgAV [2,3,7,8,22]) ?_
  refine AX.condF ?_
  refine AX.keepA [2,3,7] ?_
  refine AX.skip ?_
  refine nmZ ?_
  refine AX.seq ?_
  refine AX.sR (rgWV [2,3,27] (aI @e0 oT) oT) ?_
  refine AX.condF ?_
  refine AX.keepA [2,3] ?_
  refine AX.skip ?_
  refine nmZ ?_
  refine AX.sR (rgCV [2,3,9] (aI creach (aI cpick oT))) ?_
  refine AX.fz 1 (fr':=[(9,.sl (il of)),(3,.rp [.sl vs]),(2,.ptr 0 0)]) (hp':=[(0,⟨43,[.i .i64 n,.i .i64 n,.sl Ac,.i .i64 n,.i .i64 m,.sl Bc]⟩)]) rfl rfl (.cons rfl .same (.cons rfl (.ptr rfl) (.cons rfl .same .nil))) (.keep (by decide) rfl .nil) ?_
  refine AX.sR (rgCV [2,9,10] (aI cw oT)) ?_
  refine AX.sR (rgCV [9,10,11] (aI cz oT)) ?_
  refine AX.seq ?_
  refine AX.sR (rgWV [10,11,39,40,41] (aI @hll oT) oT) ?_
  refine AX.weaken id (st':=⟨[(41,.i .i64 (0:Nat)),(40,.i .i64 p),(39,.sl (il of)),(11,.own 4 0 n 3),(10,.ptr 3 0)],[(3,⟨41,[.i .i64 p,.i .i64 1,.sl Xc]⟩),(4,⟨54,qrow (vl n fun _=>0)⟩)],5⟩)
   leQ4
   ?_
  refine AX.block ?_
  refine AX.loop (fun N st=>∃ (i:Nat) (xs:List Rat),i≤p∧N=p-i∧(xs=vl n fun s=>if f s=true∧(pick s f).length<i then X (pick s f).length 0 else 0)∧st=⟨[(41,.i .i64 i),(40,.i .i64 p),(39,.sl (il of)),(11,.own 4 0 n 3),(10,.ptr 3 0)],[(3,⟨41,[.i .i64 p,.i .i64 1,.sl Xc]⟩),(4,⟨54,qrow xs⟩)],5⟩) p ⟨0,_,Nat.zero_le _,rfl,vl_congr fun s _=>by rw [if_neg fun h=>Nat.not_lt_zero _ h.2],rfl⟩ ?_
  rintro N st ⟨i,xs,hi,rfl,hxs,rfl⟩
  by_cases h1:i<p
  ·obtain ⟨g1,g2,g3⟩:=hgets i (by omega)
   have hgi:=il_get (l:=of) (j:=i) (by omega)
   generalize of.getD i 0=s at *
   have hl:=vl_len3 n (fun s=>if f s=true∧(pick s f).length<i then X (pick s f).length 0 else 0)
   have hset:=vl_set3 (fun s=>if f s=true∧(pick s f).length<i then X (pick s f).length 0 else 0) (X i 0) g1
   rw [← hxs] at hl hset
   obtain ⟨ys,hys⟩:∃ ys,(vl n fun k'=>if k'=s then X i 0 else if f k'=true∧(pick k' f).length<i then X (pick k' f).length 0 else 0)=ys:=⟨_,rfl⟩
   rw [hys] at hset
   have hys':ys=vl n fun s=>if f s=true∧(pick s f).length<i+1 then X (pick s f).length 0 else 0:=by
    rw [← hys]
    refine vl_congr fun i' hi'=>?_
    by_cases e:i'=s
    ·subst e
     rw [if_pos rfl,if_pos ⟨g2,by omega⟩,g3]
    ·rw [if_neg e]
     by_cases hf':f i'=true
     ·have hne:(pick i' f).length≠i:=by
       intro h
       have h2:=(hat i' hi' hf').2
       have h3:=(hat s g1 g2).2
       rw [h] at h2
       rw [g3] at h3
       exact e (h2.symm.trans h3)
      by_cases h:(pick i' f).length<i
      ·rw [if_pos ⟨hf',h⟩,if_pos ⟨hf',by omega⟩]
      ·rw [if_neg fun h'=>h h'.2,if_neg fun h'=>by omega]
     ·rw [if_neg fun h=>hf' h.1,if_neg fun h=>hf' h.1]
   have hix:=hixX i h1
   clear hys hxs hat hgets hX' hX0
   generalize X i 0=q at *
   refine AX.sR (rgAV [10,11,39,40,41,42]) ?_
   refine AX.seq ?_
   refine AX.condT ?_
   refine AX.keepA [10,11,39,40,41] ?_
   refine AX.skip ?_
   refine nmZ ?_
   refine AX.seq ?_
   refine AX.block ?_
   refine AX.sR (rgWV [10,11,12,13,39,40,41] (aI @hll (aI @hgi oT)) oT) ?_
   refine AX.rR (rgEV [10,11,39,40,41] (aI @hl oT) oT (aI hix oT)) ?_
   refine nmZ ?_
   rw [hset]
   refine AX.rR (rgWV [10,11,39,40,41] (aI @lit_add oT) oT) ?_
   refine nmZ ?_
   refine ⟨_,_,id,?_,
    leQ4
    , ⟨i+1,ys,by omega,rfl,hys',rfl⟩⟩
   omega
  ·have hfin:xs=vl n V0:=by
    rw [hxs]
    refine vl_congr fun s hs=>?_
    by_cases h:f s=true
    ·have:=(hat s hs h).1
     rw [if_pos ⟨h,by omega⟩,hX' s hs h]
    ·rw [if_neg fun h'=>h h'.1,hX0 s h]
   have hnl:n=xs.length:=by rw [hfin,vl_length]
   rw [← hfin,hnl]
   refine AX.sR (rgAV [10,11,39,40,41,42]) ?_
   refine AX.seq ?_
   refine AX.condF ?_
   refine AX.exit ?_
   refine nmZ ?_
   refine AX.sR (rgAV [4,5]) ?_
   refine AX.fz 4 (fr':=[(4,.sl (xs.map rV)),(5,.i .i64 0)]) (hp':=[]) rfl (hf_q _) (.cons rfl (.own (okFrz_q xs) (by rw [take_q,chunks_q])) (.cons rfl .same .nil)) .nil ?_
   refine AX.ret ⟨.inl rfl,?_⟩
   exact dnQ4
 ·rw [if_neg hz]
  have e0:0<(digits nq.num.natAbs).length:=Nat.pos_of_ne_zero fun e=>hz (nz.1 e)
  refine AX.sR (rgAV [2,3]) ?_
  refine AX.sR (rgCV [2,3,7,8] (aI cen oT)) ?_
  refine AX.seq ?_
  refine AX.sR (rgAV [2,3,7,8,22]) ?_
  refine AX.condF ?_
  refine AX.keepA [2,3,7] ?_
  refine AX.skip ?_
  refine nmZ ?_
  refine AX.seq ?_
  refine AX.sR (rgAV [2,3,27]) ?_
  refine AX.condT ?_
  refine AX.sR (rgAV [4,5]) ?_
  refine AX.ret ⟨.inl rfl,?_⟩
  exact dnQ4
set_option maxHeartbeats 8000000 in
theorem msteps_b (n m L LX W:Nat) (hn24:n≤24) (hm:m≤60) (A B:Mx) (hC:isC n m A B=true) (hA:∀ i k,i<n→k<n→rL (A i k)≤L) (hB:∀ i k,i<n→k<m→rL (B i k)≤L) (hL1:1≤L) (hL3:120*(L+1)+1<2 ^ 34) (v:Nat→Rat) (hv:∀ i,i<n→0≤v i)
  (bE:Bd (pick n (rchB n m A B)).length m (subM false (pick n (rchB n m A B)) A) (rhsM (pick n (rchB n m A B)) B) W) (bV:Bd (pick n (rchB n m A B)).length 1 (subM true (pick n (rchB n m A B)) A) (fun i _=>v ((pick n (rchB n m A B)).getD i 0)) W)
  (hvL:∀ i,i<n→rL (v i)≤L) (hX:∀ i j,i<n→j<m→rL (eachM n m A B i j)≤LX) (hLX1:L≤LX) (hLX:60*(2*LX+1)+1<2 ^ 34) (hS:(n+m+1)*(24*(2*LX+1)+1+1)<2 ^ 33) (h0:neverQ n m A B v=0) (hV:∀ i,i<n→rL (visV n m A B v i)≤LX) :
  PCall Tryz.prog 57 [cV n m A B,.sl ((vl n v).map rV)] (.tup [rV (sumN n (visV n m A B v)),.i .i64 0]) []:=by
 have hn:n≤60:=by omega
 have cv:=visits_b n m L LX W hn24 hm A B hC hA hB hL1 hL3 v hv bE bV hvL hX hLX1 hLX hS
 clear bE bV
 rw [if_pos h0] at cv
 have hb:n*(LX+1)≤60*(LX+1):=Nat.mul_le_mul_right _ hn
 have cs:=csum hV (by omega) (by omega)
 refine PCall.of_ax Tryz.call57 Tryz.func57 rfl (by simp [Tryz.ntmps57]) fun O w0=>?_
 simp only [Tryz.ntmps57,Tryz.results57,argFr]
 clear hV hX
 generalize sumN n (visV n m A B v)=q at *
 unfold cV at *
 generalize (mcells n A (n*n)).map rV=Ac at *
 generalize (mcells m B (n*m)).map rV=Bc at *
 generalize (vl n (visV n m A B v)).map rV=wc at *
 generalize (vl n v).map rV=vs at *
 refine AX.sR (rgAV [1,2,4]) ?_
 refine AX.sR (rgCV [4,6,7] (aI cv oT)) ?_
 refine AX.seq ?_
 refine AX.sR (rgAV [4,6,7,15]) ?_
 refine AX.condF ?_
 refine AX.keepA [4,6] ?_
 refine AX.skip ?_
 refine nmZ ?_
 refine AX.sR (rgCV [4,5] (aI cs oT)) ?_
 refine AX.ret ⟨.inl rfl,?_⟩
 exact Done.cellE rfl rfl rfl
end Go.Proofs.YteidabibgjokkaaGreatDoor
