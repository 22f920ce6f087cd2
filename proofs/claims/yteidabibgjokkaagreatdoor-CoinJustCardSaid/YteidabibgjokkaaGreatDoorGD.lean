import Derived.Test.YteidabibgjokkaaGreatDoorGQ
set_option maxRecDepth 20000
set_option linter.all false
namespace Go.Proofs.YteidabibgjokkaaGreatDoor
open Go Go.Proofs.YteidabibgjokkaaGreatDoor.Lift
attribute [local irreducible] Lift.PCall Lift.HCall
set_option maxHeartbeats 2000000 in
theorem sign_ok {x:V} {q:Rat} {L:Nat} (h:IsQ x q L)(hL:L<2 ^ 36):PCall Tryz.prog 83 [x] (.i .i64 (sgnR q)) []:=by
 obtain ⟨s,a,b,rfl,ha,hb,rfl,hla,hlb⟩:=h
 refine PCall.of_ax Tryz.call83 Tryz.func83 rfl (by simp [Tryz.ntmps83]) fun O w=>?_
 simp only [Tryz.ntmps83,Tryz.results83,argFr]
 have c1:=cmp_ok a [] ha Dg_nil (by omega) (by decide)
 have c2:=cmp_ok b [] hb Dg_nil (by omega) (by decide)
 rw [show val []=0 from rfl,cmp_zero] at c1 c2
 refine AX.sR (rgAV [1]) ?_
 refine AX.seq ?_
 refine AX.block ?_
 by_cases hm:val a=0
 ·rw [if_pos hm] at c1
  rw [hm,rq_num0,sgnR_zero]
  refine AX.sR (rgCV [1,3] (aI c1 oT)) ?_
  refine AX.condT ?_
  refine AX.sR (rgAV [2]) ?_
  refine AX.ret ⟨.inl rfl,?_⟩
  exact Done.one rfl rfl rfl rfl
 rw [if_neg hm] at c1
 by_cases hn:val b=0
 ·rw [if_pos hn] at c2
  rw [hn,rq_den0,sgnR_zero]
  refine AX.sR (rgCV [1,3] (aI c1 (aI c2 oT))) ?_
  refine AX.condT ?_
  refine AX.sR (rgAV [2]) ?_
  refine AX.ret ⟨.inl rfl,?_⟩
  exact Done.one rfl rfl rfl rfl
 rw [if_neg hn] at c2
 rw [sgnR_rq hm hn]
 refine AX.sR (rgCV [1,3] (aI c1 (aI c2 oT))) ?_
 refine AX.condF ?_
 cases s
 ·refine AX.sR (rgAV [1,14]) ?_
  refine AX.condF ?_
  refine AX.keepA [1] ?_
  refine AX.skip ?_
  refine nmZ ?_
  refine AX.sR (rgAV [2]) ?_
  refine AX.ret ⟨.inl rfl,?_⟩
  exact Done.one rfl rfl rfl rfl
 ·refine AX.sR (rgAV [1,14]) ?_
  refine AX.condT ?_
  refine AX.sR (rgAV [2]) ?_
  refine AX.ret ⟨.inl rfl,?_⟩
  exact Done.one rfl rfl rfl rfl
theorem sgnR_bound (q:Rat):-1≤sgnR q∧sgnR q≤1:=by
 unfold sgnR
 split
 ·omega
 ·split<;>omega
theorem cmp_bound (m n:Nat):-1≤cmp m n∧cmp m n≤1:=by
 unfold cmp
 split
 ·omega
 ·split<;>omega
theorem mul_bound1 {x y:Int} (hx:-1≤x∧x≤1)(hy:-1≤y∧y≤1):-1≤x*y∧x*y≤1:=by
 have:x=-1∨x=0∨x=1:=by omega
 rcases this with rfl | rfl | rfl<;>omega
set_option maxHeartbeats 4000000 in
theorem qcmp_ok {x y:V} {p q:Rat} {L:Nat} (hx:IsQ x p L)(hy:IsQ y q L)(hL:L<2 ^ 36):PCall Tryz.prog 144 [x,y] (.i .i64 (cmpR p q)) []:=by
 have c1:=sign_ok hx hL
 have c2:=sign_ok hy hL
 obtain ⟨s,a,b,rfl,ha,hb,rfl,hla,hlb⟩:=hx
 obtain ⟨t,c,d,rfl,hc,hd,rfl,hlc,hld⟩:=hy
 refine PCall.of_ax Tryz.call144 Tryz.func144 rfl (by simp [Tryz.ntmps144]) fun O w=>?_
 simp only [Tryz.ntmps144,Tryz.results144,argFr]
 have c3:=mul_ok a d ha hd (by omega) (by omega)
 have c4:=mul_ok c b hc hb (by omega) (by omega)
 have l1:=digits_len_mul (val a) (val d)
 have l2:=digits_len_mul (val c) (val b)
 have e1:=digits_length_val ha
 have e2:=digits_length_val hb
 have e3:=digits_length_val hc
 have e4:=digits_length_val hd
 have c5:=cmp_n (val a*val d) (val c*val b) (by omega) (by omega)
 have hz:=mul_bound1 (sgnR_bound (rq s (val a) (val b))) (cmp_bound (val a*val d) (val c*val b))
 have hsa:=sgnR_bound (rq s (val a) (val b))
 have hsb:=sgnR_bound (rq t (val c) (val d))
 rw [cmpR_rq]
 clear l1 l2 e1 e2 e3 e4
 generalize sgnR (rq s (val a) (val b))=X at *
 generalize sgnR (rq t (val c) (val d))=Y at *
 generalize val a*val d=M at *
 generalize val c*val b=N at *
 generalize hzz:X*cmp M N=Z at *
 generalize hcc:cmp M N=W at *
 refine AX.sR (rgAV [2,3]) ?_
 refine AX.sD (rgDCV [2,3,5,6] (aI c1 (aI c2 oT))) ?_
 refine AX.seq ?_
 refine AX.block ?_
 by_cases h1:X<Y
 ·rw [if_pos h1]
  refine AX.sR (rgAV [2,3,5,6,11]) ?_
  refine AX.condT ?_
  refine AX.sR (rgAV [4]) ?_
  refine AX.ret ⟨.inl rfl,?_⟩
  exact Done.one rfl rfl rfl rfl
 rw [if_neg h1]
 refine AX.sR (rgAV [2,3,5,6,11]) ?_
 refine AX.condF ?_
 by_cases h2:Y<X
 ·rw [if_pos h2]
  refine AX.sR (rgAV [2,3,5,6,15]) ?_
  refine AX.condT ?_
  refine AX.sR (rgAV [4]) ?_
  refine AX.ret ⟨.inl rfl,?_⟩
  exact Done.one rfl rfl rfl rfl
 rw [if_neg h2]
 refine AX.sR (rgAV [2,3,5,6,15]) ?_
 refine AX.condF ?_
 refine AX.keepA [2,3,5] ?_
 refine AX.skip ?_
 refine nmZ ?_
 refine AX.sD (rgDWV [4] (aI @hzz oT) (aI c3 (aI c4 (aI c5 oT)))) ?_
 refine AX.ret ⟨.inl rfl,?_⟩
 exact Done.one rfl rfl rfl rfl
set_option maxHeartbeats 2000000 in
theorem qsame_ok {x y:V} {p q:Rat} {L:Nat} (hx:IsQ x p L)(hy:IsQ y q L)(hL:L<2 ^ 36):PCall Tryz.prog 107 [x,y] (.b (decide (p=q))) []:=by
 have c1:=qcmp_ok hx hy hL
 obtain ⟨s,a,b,rfl,ha,hb,hpq,hla,hlb⟩:=hx
 obtain ⟨t,c,d,rfl,hc,hd,hqq,hlc,hld⟩:=hy
 refine PCall.of_ax Tryz.call107 Tryz.func107 rfl (by simp [Tryz.ntmps107]) fun O w=>?_
 simp only [Tryz.ntmps107,Tryz.results107,argFr]
 have hz:=cmpR_eq_zero (p:=p) (q:=q)
 generalize cmpR p q=Z at *
 refine AX.sR (rgAV [2,3]) ?_
 by_cases h:p=q
 ·rw [decide_eq_true h]
  have hz0:=hz.2 h
  refine AX.sR (rgCV [4] (aI c1 oT)) ?_
  refine AX.ret ⟨.inl rfl,?_⟩
  exact Done.one rfl rfl rfl rfl
 ·rw [decide_eq_false h]
  have hz0:Z≠0:=fun e=>h (hz.1 e)
  refine AX.sR (rgCV [4] (aI c1 oT)) ?_
  refine AX.ret ⟨.inl rfl,?_⟩
  exact Done.one rfl rfl rfl rfl
set_option maxHeartbeats 2000000 in
theorem qneg_ok {x:V} {q:Rat} {L:Nat} (h:IsQ x q L)(hL:L<2 ^ 36):PCall Tryz.prog 134 [x] (rV (-q)) []:=by
 obtain ⟨s,a,b,rfl,ha,hb,rfl,hla,hlb⟩:=h
 refine PCall.of_ax Tryz.call134 Tryz.func134 rfl (by simp [Tryz.ntmps134]) fun O w=>?_
 simp only [Tryz.ntmps134,Tryz.results134,argFr]
 have c1:=made_ok (!s) a b ha hb (by omega) (by omega)
 rw [neg_rq]
 refine AX.sR (rgAV [1,2]) ?_
 refine AX.sR (rgCV [2] (aI c1 oT)) ?_
 refine AX.ret ⟨.inl rfl,?_⟩
 exact Done.cell rfl rfl
set_option maxHeartbeats 2000000 in
theorem qmul_ok {x y:V} {p q:Rat} {L:Nat} (hx:IsQ x p L)(hy:IsQ y q L)(hL:L<2 ^ 34):PCall Tryz.prog 111 [x,y] (rV (p*q)) []:=by
 obtain ⟨s,a,b,rfl,ha,hb,rfl,hla,hlb⟩:=hx
 obtain ⟨t,c,d,rfl,hc,hd,rfl,hlc,hld⟩:=hy
 refine PCall.of_ax Tryz.call111 Tryz.func111 rfl (by simp [Tryz.ntmps111]) fun O w=>?_
 simp only [Tryz.ntmps111,Tryz.results111,argFr]
 have c3:=mul_ok a c ha hc (by omega) (by omega)
 have c4:=mul_ok b d hb hd (by omega) (by omega)
 have l1:=digits_len_mul (val a) (val c)
 have l2:=digits_len_mul (val b) (val d)
 have e1:=digits_length_val ha
 have e2:=digits_length_val hb
 have e3:=digits_length_val hc
 have e4:=digits_length_val hd
 have c5:=made_ok (s != t) (digits (val a*val c)) (digits (val b*val d)) (Dg_digits _) (Dg_digits _) (by omega) (by omega)
 rw [val_digits,val_digits] at c5
 rw [mul_rq]
 refine AX.sR (rgAV [2,3,4]) ?_
 refine AX.sD (rgDCV [4] (aI c3 (aI c4 (aI c5 oT)))) ?_
 refine AX.ret ⟨.inl rfl,?_⟩
 exact Done.cell rfl rfl
def qdivV (p q:Rat):V:=if q=0 then .tup [zR,.i .i64 31] else .tup [rV (p / q),.i .i64 0]
theorem sgnR_eq_zero {q:Rat}:sgnR q=0↔q=0:=by
 unfold sgnR
 by_cases h:q<0
 ·rw [if_pos h]
  constructor
  ·intro h2;omega
  ·intro h2;subst h2;exact absurd h Rat.lt_irrefl
 ·rw [if_neg h]
  by_cases h2:q=0
  ·simp [h2]
  ·simp [h2]
set_option maxHeartbeats 2000000 in
theorem qdiv_ok {x y:V} {p q:Rat} {L:Nat} (hx:IsQ x p L)(hy:IsQ y q L)(hL:L<2 ^ 34):PCall Tryz.prog 116 [x,y] (qdivV p q) []:=by
 have c1:=sign_ok hy (by omega)
 obtain ⟨s,a,b,rfl,ha,hb,rfl,hla,hlb⟩:=hx
 obtain ⟨t,c,d,rfl,hc,hd,hq,hlc,hld⟩:=hy
 refine PCall.of_ax Tryz.call116 Tryz.func116 rfl (by simp [Tryz.ntmps116]) fun O w=>?_
 simp only [Tryz.ntmps116,Tryz.results116,argFr]
 have c3:=mul_ok a d ha hd (by omega) (by omega)
 have c4:=mul_ok b c hb hc (by omega) (by omega)
 have l1:=digits_len_mul (val a) (val d)
 have l2:=digits_len_mul (val b) (val c)
 have e1:=digits_length_val ha
 have e2:=digits_length_val hb
 have e3:=digits_length_val hc
 have e4:=digits_length_val hd
 have c5:=made_ok (s != t) (digits (val a*val d)) (digits (val b*val c)) (Dg_digits _) (Dg_digits _) (by omega) (by omega)
 rw [val_digits,val_digits,← div_rq,hq] at c5
 have hz:=sgnR_eq_zero (q:=q)
 generalize sgnR q=Z at *
 unfold qdivV
 refine AX.sR (rgAV [2,3,4,5]) ?_
 refine AX.seq ?_
 by_cases h0:q=0
 ·rw [if_pos h0]
  have hz0:=hz.2 h0
  refine AX.sR (rgCV [2,3,4,8] (aI c1 oT)) ?_
  refine AX.condT ?_
  refine AX.sR (rgAV [4,5]) ?_
  refine AX.ret ⟨.inl rfl,?_⟩
  exact Done.cellZ rfl rfl rfl
 ·rw [if_neg h0]
  have hz0:Z≠0:=fun e=>h0 (hz.1 e)
  refine AX.sR (rgCV [2,3,4,8] (aI c1 oT)) ?_
  refine AX.condF ?_
  refine AX.keepA [2,3,4] ?_
  refine AX.skip ?_
  refine nmZ ?_
  refine AX.sD (rgDCV [4,5] (aI c3 (aI c4 (aI c5 oT)))) ?_
  refine AX.ret ⟨.inl rfl,?_⟩
  exact Done.cellE rfl rfl rfl
set_option maxHeartbeats 8000000 in
theorem qadd_ok {x y:V} {p q:Rat} {L:Nat} (hx:IsQ x p L)(hy:IsQ y q L)(hL:L<2 ^ 34):PCall Tryz.prog 50 [x,y] (rV (p+q)) []:=by
 have c1:=sign_ok hx (by omega)
 have c2:=sign_ok hy (by omega)
 obtain ⟨s,a,b,rfl,ha,hb,hp,hla,hlb⟩:=hx
 obtain ⟨t,c,d,rfl,hc,hd,hq,hlc,hld⟩:=hy
 refine PCall.of_ax Tryz.call50 Tryz.func50 rfl (by simp [Tryz.ntmps50]) fun O w=>?_
 simp only [Tryz.ntmps50,Tryz.results50,argFr]
 have m1:=mul_ok a d ha hd (by omega) (by omega)
 have m2:=mul_ok c b hc hb (by omega) (by omega)
 have m3:=mul_ok b d hb hd (by omega) (by omega)
 have k1:=made_ok t c d hc hd (by omega) (by omega)
 have k2:=made_ok s a b ha hb (by omega) (by omega)
 rw [hq] at k1
 rw [hp] at k2
 have l1:=digits_len_mul (val a) (val d)
 have l2:=digits_len_mul (val c) (val b)
 have l3:=digits_len_mul (val b) (val d)
 have e1:=digits_length_val ha
 have e2:=digits_length_val hb
 have e3:=digits_length_val hc
 have e4:=digits_length_val hd
 have hzp:=sgnR_eq_zero (q:=p)
 have hzq:=sgnR_eq_zero (q:=q)
 refine AX.sR (rgAV [2,3,4]) ?_
 refine AX.seq ?_
 refine AX.block ?_
 by_cases h0:p=0
 ·have hz0:=hzp.2 h0
  have epq:p+q=q:=by rw [h0,Rat.zero_add]
  rw [epq]
  generalize sgnR p=Z at *
  refine AX.sR (rgCV [2,3,4,10] (aI c1 oT)) ?_
  refine AX.condT ?_
  refine AX.sR (rgCV [4] (aI k1 oT)) ?_
  refine AX.ret ⟨.inl rfl,?_⟩
  exact Done.cell rfl rfl
 have hz0:sgnR p≠0:=fun e=>h0 (hzp.1 e)
 generalize sgnR p=Z at *
 refine AX.sR (rgCV [2,3,4,10] (aI c1 oT)) ?_
 refine AX.condF ?_
 by_cases h1:q=0
 ·have hz1:=hzq.2 h1
  have epq:p+q=p:=by rw [h1,Rat.add_zero]
  rw [epq]
  generalize sgnR q=Y at *
  refine AX.sR (rgCV [2,3,4,21] (aI c2 oT)) ?_
  refine AX.condT ?_
  refine AX.sR (rgCV [4] (aI k2 oT)) ?_
  refine AX.ret ⟨.inl rfl,?_⟩
  exact Done.cell rfl rfl
 have hz1:sgnR q≠0:=fun e=>h1 (hzq.1 e)
 generalize sgnR q=Y at *
 refine AX.sR (rgCV [2,3,4,21] (aI c2 oT)) ?_
 refine AX.condF ?_
 refine AX.keepA [2,3,4] ?_
 refine AX.skip ?_
 refine nmZ ?_
 have hb0:val b≠0:=fun e=>h0 (by rw [← hp,e,rq_den0])
 have hd0:val d≠0:=fun e=>h1 (by rw [← hq,e,rq_den0])
 have key:p+q=rq s (val a) (val b)+rq t (val c) (val d):=by rw [hp,hq]
 have ks:s=t→rq s (val a) (val b)+rq t (val c) (val d)=rq s (val a*val d+val c*val b) (val b*val d):=by
  rintro rfl
  exact add_same s hb0 hd0
 have kg:=fun h=>add_ge (s:=s) (t:=t) h (m:=val a) (p:=val c) hb0 hd0
 have kl:=fun h=>add_lt (s:=s) (t:=t) h (m:=val a) (p:=val c) hb0 hd0
 rw [← hp] at k2
 clear hp hq c1 c2 k1 k2 hzp hzq hz0 hz1 h0 h1 hb0 hd0
 rw [key]
 clear key p q Z Y
 generalize rq s (val a) (val b)+rq t (val c) (val d)=R at *
 generalize val a*val d=X at *
 generalize val c*val b=Y at *
 generalize val b*val d=D at *
 refine AX.sD (rgDCV [2,3,4,5,6,7] (aI m1 (aI m2 (aI m3 oT)))) ?_
 refine AX.seq ?_
 by_cases hst:s=t
 ·have ladd:=digits_len_add X Y
  have c1:=add_n X Y (by omega) (by omega)
  have c2:=made_ok s (digits (X+Y)) (digits D) (Dg_digits _) (Dg_digits _) (by omega) (by omega)
  rw [val_digits,val_digits,← ks hst] at c2
  subst hst
  apply AX.sreg [2,3,4,5,6,7,51] (by simp only [pq];rfl)
  ·repeat (first
  |(apply RunO.op rfl;· rfl
    ·(simp only [opsOf,valsOf,valOf,lkp,ofConst,ofCell,Array.toList,Option.toList,List.map_cons,List.map_nil,List.cons_append,List.nil_append,List.append_nil,Nat.reduceEqDiff,Nat.reducePow,Nat.reduceLT,Nat.reduceLeDiff,reduceIte,if_true,if_false,IntKind.min,IntKind.max,IntKind.bits,IntKind.signed,Int.reduceLE,Int.reduceNeg,Int.reducePow,Int.reduceSub,and_self,Bool.false_eq_true,Nat.reduceSub];rfl)
    iterate 2 (· (simp (disch:=omega) only [go_sem,i64_of,u32_of,u64_of,Nat.reduceLT,Nat.reduceLeDiff,Nat.reduceEqDiff,Nat.reduceAdd,Nat.reduceSub,Nat.reduceMul,Nat.reducePow,Nat.reduceBEq,Int.reduceLE,Int.reduceLT,Int.reduceToNat,Int.reduceEq,Int.reduceNeg,↓reduceIte,reduceCtorEq,beq_self_eq_true];rfl))
    ·(simp only [pb,Nat.reduceLT,Nat.reduceAdd,reduceIte];rfl))
  |(apply RunO.skip;· rfl
    ·(simp only [pb,Nat.reduceLT,Nat.reduceAdd,reduceIte];rfl)))
   exact RunO.nil
  ·repeat (first | exact Keep.nil | (apply Keep.take;· rfl) | (apply Keep.drop;· rfl))
  refine AX.condT ?_
  refine AX.sD (rgDCV [4] (aI c1 (aI c2 oT))) ?_
  refine AX.ret ⟨.inl rfl,?_⟩
  exact Done.cell rfl rfl
 have hbe:(s == t)=false:=beq_false_of_ne hst
 refine AX.sR (rgWV [2,3,4,5,6,7,51] (aI @hbe oT) oT) ?_
 refine AX.condF ?_
 refine AX.keepA [2,3,4,5,6,7] ?_
 refine AX.skip ?_
 refine nmZ ?_
 have c3:=cmp_n X Y (by omega) (by omega)
 refine AX.cut (fun st=>∃ (r:Bool) (a' b':List Nat) (U W:Nat),W≤U∧(digits U).length<2 ^ 35∧(digits W).length<2 ^ 35∧rq r (U-W) D=R ∧
  Le 0 id ⟨[(7,nv D),(6,nv W),(5,nv U),(4,.ptr 2 0),(2,.ptr 0 0)],[(2,⟨54,[.b false,.nl,.nl]⟩),(0,⟨54,[.b r,dg a',dg b']⟩)],3⟩ st) ?_ ?_
 ·by_cases hlt:X<Y
  ·rw [cmp_lt hlt] at c3
   refine AX.sR (rgCV [2,3,4,5,6,7,62] (aI c3 oT)) ?_
   refine AX.condT ?_
   refine AX.rR (rgAV [2,4,5,6,7]) ?_
   refine ⟨by first | exact trivial | rfl,t,c,d,Y,X,Nat.le_of_lt hlt,by omega,by omega,(kl hst hlt).symm,?_⟩
   refine (
    leA
    )
  ·have hcz:¬ cmp X Y<0:=by
    unfold cmp
    rw [if_neg hlt]
    split<;>omega
   generalize cmp X Y=Z at *
   refine AX.sR (rgCV [2,3,4,5,6,7,62] (aI c3 oT)) ?_
   refine AX.condF ?_
   refine AX.keepA [2,4,5,6,7] ?_
   refine AX.skip ?_
   refine nmZ ?_
   refine ⟨by first | exact trivial | rfl,s,a,b,X,Y,by omega,by omega,by omega,(kg hst (by omega)).symm,?_⟩
   refine (
    leA
    )
 rintro st ⟨r,a',b',U,W,hWU,hlU,hlW,hR,hle⟩
 refine AX.weaken id hle ?_
 have c4:=sub_n U W (by omega) (by omega)
 rw [if_neg (by omega)] at c4
 unfold numE at c4
 have lsub:=digits_len_mono (Nat.sub_le U W)
 have c5:=made_ok r (digits (U-W)) (digits D) (Dg_digits _) (Dg_digits _) (by omega) (by omega)
 rw [val_digits,val_digits,hR] at c5
 generalize U-W=S at *
 refine AX.sR (rgCV [2,4,7,8] (aI c4 oT)) ?_
 refine AX.sR (rgCV [4] (aI c5 oT)) ?_
 refine AX.ret ⟨.inl rfl,?_⟩
 exact Done.cell rfl rfl
theorem rL_neg (q:Rat):rL (-q)=rL q:=by
 show max (digits (-q.num).natAbs).length (digits q.den).length=_
 rw [Int.natAbs_neg]
 rfl
set_option maxHeartbeats 2000000 in
theorem qsub_ok {x y:V} {p q:Rat} {L:Nat} (hx:IsQ x p L)(hy:IsQ y q L)(hL:L<2 ^ 33)(hL1:1≤L):PCall Tryz.prog 94 [x,y] (rV (p-q)) []:=by
 have c1:=qneg_ok hy (by omega)
 have hn:IsQ (rV (-q)) (-q) L:=by
  obtain ⟨t,c,d,rfl,hc,hd,hq,hlc,hld⟩:=hy
  refine IsQ.of ?_
  rw [rL_neg,← hq]
  exact rL_rq (Nat.le_trans (digits_length_val hc) hlc) (Nat.le_trans (digits_length_val hd) hld) hL1
 have c2:=qadd_ok hx hn (by omega)
 rw [← Rat.sub_eq_add_neg] at c2
 obtain ⟨s,a,b,rfl,ha,hb,hp,hla,hlb⟩:=hx
 obtain ⟨t,c,d,rfl,hc,hd,hq,hlc,hld⟩:=hy
 refine PCall.of_ax Tryz.call94 Tryz.func94 rfl (by simp [Tryz.ntmps94]) fun O w=>?_
 simp only [Tryz.ntmps94,Tryz.results94,argFr]
 generalize -q=nq at *
 generalize p-q=r at *
 refine AX.sR (rgAV [2,3,4]) ?_
 refine AX.sD (rgDCV [4] (aI c1 (aI c2 oT))) ?_
 refine AX.ret ⟨.inl rfl,?_⟩
 exact Done.cell rfl rfl
set_option maxHeartbeats 2000000 in
theorem size_ok (z:Int)(hz:-9223372036854775808≤z∧z≤9223372036854775807):PCall Tryz.prog 79 [.i .i64 z] (nv z.natAbs) []:=by
 refine PCall.of_ax Tryz.call79 Tryz.func79 rfl (by simp [Tryz.ntmps79]) fun O w=>?_
 simp only [Tryz.ntmps79,Tryz.results79,argFr]
 have c1:=of_ok z.natAbs (by omega)
 refine AX.sR (rgAV [0]) ?_
 refine AX.seq ?_
 by_cases h:z<0
 ·have e1:IntKind.u64.wrap z=((18446744073709551616-z.natAbs:Nat):Int):=by rw [u64_wrap];omega
  have e2:IntKind.u64.wrap (0-((18446744073709551616-z.natAbs:Nat):Int))=((z.natAbs:Nat):Int):=by rw [u64_wrap];omega
  refine AX.sR (rgAV [0,4]) ?_
  refine AX.condT ?_
  refine AX.sR (rgWV [2] (aI @e1 (aI @e2 oT)) (aI c1 oT)) ?_
  refine AX.ret ⟨.inl rfl,?_⟩
  exact Done.sl rfl
 ·have e1:IntKind.u64.wrap z=((z.natAbs:Nat):Int):=by rw [u64_wrap];omega
  refine AX.sR (rgAV [0,4]) ?_
  refine AX.condF ?_
  refine AX.keepA [0] ?_
  refine AX.skip ?_
  refine nmZ ?_
  refine AX.sR (rgWV [2] (aI @e1 oT) (aI c1 oT)) ?_
  refine AX.ret ⟨.inl rfl,?_⟩
  exact Done.sl rfl
set_option maxHeartbeats 2000000 in
theorem make_ok (p q:Int)(hp:-9223372036854775808≤p∧p≤9223372036854775807)(hq:-9223372036854775808≤q∧q≤9223372036854775807):PCall Tryz.prog 48 [.i .i64 p,.i .i64 q] (ofV (decide (p<0) != decide (q<0)) p.natAbs q.natAbs) []:=by
 refine PCall.of_ax Tryz.call48 Tryz.func48 rfl (by simp [Tryz.ntmps48]) fun O w=>?_
 simp only [Tryz.ntmps48,Tryz.results48,argFr]
 have c1:=size_ok p hp
 have c2:=size_ok q hq
 have l1:=lenS (n:=p.natAbs) (by omega)
 have l2:=lenS (n:=q.natAbs) (by omega)
 have c3:=qof_ok (decide (p<0) != decide (q<0)) (digits p.natAbs) (digits q.natAbs) (Dg_digits _) (Dg_digits _) (by omega) (by omega)
 rw [val_digits,val_digits] at c3
 generalize hP:p.natAbs=P at *
 generalize hQ:q.natAbs=Q at *
 obtain ⟨bp,hbp⟩:∃ bp,decide (p<0)=bp:=⟨_,rfl⟩
 obtain ⟨bq,hbq⟩:∃ bq,decide (q<0)=bq:=⟨_,rfl⟩
 rw [hbp,hbq] at c3 ⊢
 have hne:(!(bp == bq))=(bp != bq):=rfl
 refine AX.sR (rgAV [0,1,4,5]) ?_
 unfold ofV at c3 ⊢
 by_cases h0:Q=0
 ·rw [if_pos h0] at c3 ⊢
  refine AX.sR (rgWV [4,5] (aI @hbp (aI @hbq (aI @hne oT))) (aI c1 (aI c2 (aI c3 oT)))) ?_
  refine AX.ret ⟨.inl rfl,?_⟩
  exact Done.cellE (x:=[]) (y:=[]) rfl rfl rfl
 ·rw [if_neg h0] at c3 ⊢
  refine AX.sR (rgWV [4,5] (aI @hbp (aI @hbq (aI @hne oT))) (aI c1 (aI c2 (aI c3 oT)))) ?_
  refine AX.ret ⟨.inl rfl,?_⟩
  exact Done.cellE rfl rfl rfl
end Go.Proofs.YteidabibgjokkaaGreatDoor
