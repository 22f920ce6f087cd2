import Derived.Test.YteidabibgjokkaaGreatDoorGJ
import Derived.Test.YteidabibgjokkaaGreatDoorGV
import Derived.Test.YteidabibgjokkaaGreatDoorGG
import Derived.Test.YteidabibgjokkaaGreatDoorGI
set_option maxRecDepth 20000
set_option linter.all false
namespace Go.Proofs.YteidabibgjokkaaGreatDoor
open Go Go.Proofs.YteidabibgjokkaaGreatDoor.Lift
attribute [local irreducible] Lift.PCall Lift.HCall
def powLim (m:Nat) (n:Int):Prop:=0<blen m∧((100000 / blen m:Nat):Int)<n
instance (m:Nat) (n:Int):Decidable (powLim m n):=inferInstanceAs (Decidable (_∧_))
theorem lit_rem (n:Nat):Int.tmod (n:Int) 4294967296=((n % 4294967296:Nat):Int):=rfl
theorem lit_quo (n:Nat):Int.tdiv (n:Int) 4294967296=((n / 4294967296:Nat):Int):=rfl
theorem radd_ok (a b:List Nat)(ha:Dg a)(hb:Dg b)(hla:a.length<2 ^ 39)(hlb:b.length<2 ^ 39):PCall Tryz.prog 90 [dg a,dg b] (nv (val a+val b)) []:=by
 refine PCall.of_ax Tryz.call90 Tryz.func90 rfl (by simp [Tryz.ntmps90]) fun O w=>?_
 simp only [Tryz.ntmps90,Tryz.results90,argFr]
 refine AX.sR (rgA [0,1]) ?_
 refine AX.sR (rgA [0,1,5]) ?_
 refine AX.sR (rgA [0,1,5,6]) ?_
 refine AX.seq ?_
 refine AX.sR (rgA [0,1,5,6,7]) ?_
 refine AX.own0 5 142 1 rfl ?_
 refine AX.keepA [0,1,5,6,7] ?_
 refine AX.block ?_
 refine AX.loop (fun N st=>∃ (i c:Nat) (o:List Nat),N=(a.length+b.length-i)*2+c∧i≤a.length+b.length+1∧(a.length<i→b.length<i→c=0)∧o.length=i∧Dg o∧c≤1∧val o+4294967296 ^ i*c=val (a.take i)+val (b.take i) ∧
  st=⟨[(5,.own 0 0 i 1),(7,.i .i64 i),(6,.i .u64 c),(0,dg a),(1,dg b)],[(0,⟨142,o.map u⟩)],1⟩) ((a.length+b.length)*2) ⟨0,0,[],rfl,by omega,by omega,rfl,Dg_nil,by omega,by simp [val],rfl⟩ ?_
 rintro N st ⟨i,c,o,rfl,hi,hcz,ho,hdo,hc,hval,rfl⟩
 by_cases h:i<a.length∨i<b.length∨0<c
 ·refine AX.cut (fun st=>st=⟨[(5,.own 0 0 i 1),(7,.i .i64 i),(6,.i .u64 c),(0,dg a),(1,dg b)],[(0,⟨142,o.map u⟩)],1⟩) ?_ ?_
  ·by_cases h1:i<a.length
   ·refine AX.sR (rgA [0,1,5,6,7,22]) ?_
    refine AX.condT ?_
    refine AX.keepA [0,1,5,6,7] ?_
    refine AX.skip ?_
    exact ⟨rfl,rfl⟩
   ·by_cases h2:i<b.length
    ·refine AX.sR (rgA [0,1,5,6,7,22]) ?_
     refine AX.condT ?_
     refine AX.keepA [0,1,5,6,7] ?_
     refine AX.skip ?_
     exact ⟨rfl,rfl⟩
    ·refine AX.sR (rgA [0,1,5,6,7,22]) ?_
     refine AX.condT ?_
     refine AX.keepA [0,1,5,6,7] ?_
     refine AX.skip ?_
     exact ⟨rfl,rfl⟩
  rintro st rfl
  have hx:=Dg_getD ha i
  have hy:=Dg_getD hb i
  have hzz:a.length≤i→b.length≤i→a.getD i 0+b.getD i 0=0:=fun e1 e2=>by rw [getD_out e1,getD_out e2]
  refine AX.seq ?_
  refine AX.block ?_
  refine AX.sR (rgW [0,1,5,7,8] (aI @cAdd oT) (aI (at_ok a i ha (by omega)) (aI (at_ok b i hb (by omega)) oT))) ?_
  generalize hs:a.getD i 0+b.getD i 0+c=s
  apply AX.sreg [0,1,5,7,8] (by simp only [pq];rfl)
  ·repeat (first
  |(apply RunO.op rfl;· rfl
    ·rfl
    iterate 2 (· (simp (disch:=omega) only [go_sem,i64_of,u32_of,u64_of,Nat.reduceLT,Nat.reduceLeDiff,Nat.reduceEqDiff,Nat.reduceAdd,Nat.reduceSub,Nat.reduceMul,Nat.reducePow,Nat.reduceBEq,Int.reduceLE,Int.reduceLT,Int.reduceToNat,Int.reduceEq,Int.reduceNeg,↓reduceIte,reduceCtorEq,lit_rem,u32n,Nat.mod_mod];rfl))
    ·(simp only [pb,Nat.reduceLT,Nat.reduceAdd,reduceIte];rfl))
  |(apply RunO.skip;· rfl
    ·(simp only [pb,Nat.reduceLT,Nat.reduceAdd,reduceIte];rfl)))
   exact RunO.nil
  ·repeat (first | exact Keep.nil | (apply Keep.take;· rfl) | (apply Keep.drop;· rfl))
  refine AX.rR (rgW [0,1,5,6,7] (aI @lit_quo oT) oT) ?_
  refine nmZ ?_
  refine AX.rR (rgW [0,1,5,6,7] (aI @lit_add oT) oT) ?_
  refine nmZ ?_
  refine ⟨(a.length+b.length-(i+1))*2+s / 4294967296,_,fun _=>2,by omega,
   leA
   , ⟨i+1,s / 4294967296,o++[s % 4294967296],rfl,by omega,by omega,by simp [ho],?_,by omega,?_,rfl⟩⟩
  ·rw [Dg_append,Dg_cons];exact ⟨hdo,Nat.mod_lt _ (by omega),Dg_nil⟩
  ·rw [sum_step ho (by omega),val_take_step,val_take_step,← hs,Nat.mul_add,Nat.mul_add]
   omega
 ·have h1:¬ i<a.length:=fun e=>h (.inl e)
  have h2:¬ i<b.length:=fun e=>h (.inr (.inl e))
  have h3:c=0:=by
   have:¬ 0<c:=fun e=>h (.inr (.inr e))
   omega
  subst h3
  refine AX.seq ?_
  refine AX.sR (rgA [0,1,5,6,7,22]) ?_
  refine AX.condF ?_
  refine AX.exit ?_
  refine nmZ ?_
  have c3:=rntrim_ok o hdo (by omega)
  have hv:val o=val a+val b:=by
   rw [List.take_of_length_le (by omega),List.take_of_length_le (by omega)] at hval
   omega
  rw [hv] at c3
  have ht:List.take i o=o:=List.take_of_length_le (by omega)
  refine AX.sR (rgW [4] (aI @ht oT) (aI c3 oT)) ?_
  refine AX.ret ⟨.inl rfl,?_⟩
  exact Done.sl rfl
theorem lit_mul (n:Nat):(n:Int)*4294967296=((n*4294967296:Nat):Int):=by omega
theorem rsub_ok (a b:List Nat)(ha:Dg a)(hb:Dg b)(hla:a.length<2 ^ 39)(hlb:b.length<2 ^ 39):PCall Tryz.prog 92 [dg a,dg b] (numE (val a-val b) (if val a<val b then 1 else 0)) []:=by
 refine PCall.of_ax Tryz.call92 Tryz.func92 rfl (by simp [Tryz.ntmps92]) fun O w=>?_
 simp only [Tryz.ntmps92,Tryz.results92,argFr]
 have c0:=rcmp_ok a b ha hb (by omega) (by omega)
 refine AX.sR (rgA [0,1,4,5]) ?_
 refine AX.seq ?_
 by_cases h:val a<val b
 ·rw [cmp_lt h] at c0
  refine AX.sR (rgC [0,1,4,5,13] (aI c0 oT)) ?_
  refine AX.condT ?_
  refine AX.sR (rgA [4,5]) ?_
  refine AX.ret ⟨.inl rfl,?_⟩
  rw [if_pos h,show val a-val b=0 by omega]
  exact Done.nil_ne rfl rfl
 have h0':¬ cmp (val a) (val b)<0:=by
  unfold cmp
  rw [if_neg h]
  split<;>omega
 refine AX.sR (rgC [0,1,4,5,13] (aI c0 oT)) ?_
 refine AX.condF ?_
 refine AX.skip ?_
 refine nmZ ?_
 refine AX.sR (rgA [0,1,6]) ?_
 refine AX.sR (rgA [0,1,6,7]) ?_
 refine AX.seq ?_
 refine AX.sR (rgA [0,1,6,7,8]) ?_
 refine AX.own0 6 142 1 rfl ?_
 refine AX.keepA [0,1,6,7,8] ?_
 refine AX.block ?_
 refine AX.loop (fun N st=>∃ (i c:Nat) (o:List Nat),N=a.length-i∧i≤a.length∧o.length=i∧Dg o∧c≤1∧val o+val (b.take i)=val (a.take i)+4294967296 ^ i*c ∧
  st=⟨[(6,.own 0 0 i 1),(8,.i .i64 i),(7,.i .u64 c),(0,dg a),(1,dg b)],[(0,⟨142,o.map u⟩)],1⟩) a.length ⟨0,0,[],rfl,Nat.zero_le _,rfl,Dg_nil,by omega,by simp [val],rfl⟩ ?_
 rintro N st ⟨i,c,o,rfl,hi,ho,hdo,hc,hval,rfl⟩
 refine AX.seq ?_
 by_cases h1:i<a.length
 ·refine AX.sR (rgA [0,1,6,7,8,17]) ?_
  refine AX.condT ?_
  refine AX.skip ?_
  refine nmZ ?_
  refine AX.seq ?_
  refine AX.block ?_
  have hx:=Dg_getD ha i
  have hy:=Dg_getD hb i
  have ca:=at_ok a i ha (by omega)
  have cb:=at_ok b i hb (by omega)
  have hya:=val_take_step a i
  have hyb:=val_take_step b i
  generalize b.getD i 0=y at *
  generalize a.getD i 0=x at *
  refine AX.sR (rgW [0,1,6,7,8,9] (aI @cAdd oT) (aI ca (aI cb oT))) ?_
  refine AX.sR (rgA [0,1,6,7,8,9]) ?_
  refine AX.cut (fun st=>∃ c':Nat,c'≤1∧y+c≤x+c' * 4294967296∧x+c' * 4294967296<y+c+4294967296∧st=⟨[(7,.i .u64 c'),(9,.i .u64 (y+c:Nat)),(6,.own 0 0 i 1),(8,.i .i64 i),(0,dg a),(1,dg b)],[(0,⟨142,o.map u⟩)],1⟩) ?_ ?_
  ·by_cases h3:x<y+c
   ·refine AX.sR (rgC [0,1,6,7,8,9,29] (aI ca (aI cb oT))) ?_
    refine AX.condT ?_
    refine AX.rR (rgA [0,1,6,7,8,9]) ?_
    exact ⟨rfl,1,by omega,by omega,by omega,rfl⟩
   ·refine AX.sR (rgC [0,1,6,7,8,9,29] (aI ca (aI cb oT))) ?_
    refine AX.condF ?_
    refine AX.keepA [0,1,6,7,8,9] ?_
    refine AX.skip ?_
    exact ⟨rfl,0,by omega,by omega,by omega,rfl⟩
  rintro st ⟨c',hc',hle,hlt,rfl⟩
  have hs:=sub_cast hle
  refine AX.rR (rgW [0,1,6,7,8] (aI @lit_mul (aI @cAdd (aI @hs oT))) (aI ca (aI cb oT))) ?_
  refine nmZ ?_
  refine AX.rR (rgW [0,1,6,7,8] (aI @lit_add oT) oT) ?_
  refine nmZ ?_
  refine ⟨a.length-(i+1),_,fun _=>2,by omega,
   leA
   , ⟨i+1,c',o++[x+c' * 4294967296-(y+c)],rfl,by omega,by simp [ho],?_,hc',?_,rfl⟩⟩
  ·rw [Dg_append,Dg_cons];exact ⟨hdo,by omega,Dg_nil⟩
  ·rw [val_append,ho,hya,hyb,Nat.pow_succ]
   simp only [val,Nat.mul_zero,Nat.add_zero]
   refine diff_step (w:=c) (w':=c') hval ?_
   rw [Nat.mul_comm 4294967296 c']
   omega
 ·refine AX.sR (rgA [0,1,6,7,8,17]) ?_
  refine AX.condF ?_
  refine AX.exit ?_
  refine nmZ ?_
  have hi':i=a.length:=by omega
  have c3:=rntrim_ok o hdo (by omega)
  have hv:val o=val a-val b:=by
   subst hi'
   have h4:=val_lt ha
   rw [List.take_length,val_take_all (by omega)] at hval
   have:=val_lt hdo
   rw [ho] at this
   exact diff_end this hval (by omega)
  rw [hv] at c3
  have ht:List.take i o=o:=List.take_of_length_le (by omega)
  refine AX.sR (rgW [4,5] (aI @ht oT) (aI c3 oT)) ?_
  refine AX.ret ⟨.inl rfl,?_⟩
  rw [if_neg h]
  exact Done.ne rfl rfl
theorem rmul_ok (a b:List Nat)(ha:Dg a)(hb:Dg b)(hla:a.length<2 ^ 38)(hlb:b.length<2 ^ 38):PCall Tryz.prog 71 [dg a,dg b] (nv (val a*val b)) []:=by
 refine PCall.of_ax Tryz.call71 Tryz.func71 rfl (by simp [Tryz.ntmps71]) fun O w=>?_
 simp only [Tryz.ntmps71,Tryz.results71,argFr]
 have c1:=rntrim_ok a ha (by omega)
 have c2:=rntrim_ok b hb (by omega)
 have hma:=digits_length_val ha
 have hmb:=digits_length_val hb
 generalize val a=m at *
 generalize val b=n at *
 have hdx:=Dg_digits m
 have hdy:=Dg_digits n
 refine AX.sR (rgA [0,1]) ?_
 refine AX.sR (rgC [0,1] (aI c1 (aI c2 oT))) ?_
 refine AX.sR (rgW [0,1,5] (aI @cAdd oT) oT) ?_
 generalize hL:(digits m).length+(digits n).length=L at *
 refine AX.seq ?_
 refine AX.sR (rgA [0,1,5,6]) ?_
 refine AX.block ?_
 refine AX.loop (fun N st=>∃ (i:Nat) (r:List Nat),N=(digits m).length-i∧i≤(digits m).length∧r.length=L∧Dg r∧(∀ j,i+(digits n).length≤j→r.getD j 0=0)∧val r=val ((digits m).take i)*n ∧
  st=⟨[(6,.i .i64 i),(5,.own 0 0 L 1),(1,nv n),(0,nv m)],[(0,⟨142,r.map u⟩)],1⟩) (digits m).length ⟨0,List.replicate L 0,rfl,Nat.zero_le _,by simp,Dg_replicate _,fun j _=>by simp [List.getD_eq_getElem?_getD,List.getElem?_replicate];split<;>rfl,by simp [val,val_replicate],rfl⟩ ?_
 rintro N st ⟨i,r,rfl,hi,hr,hdr,hz,hval,rfl⟩
 refine AX.seq ?_
 by_cases h1:i<(digits m).length
 ·refine AX.sR (rgA [0,1,5,6,23]) ?_
  refine AX.condT ?_
  refine AX.keepA [0,1,5,6] ?_
  refine AX.skip ?_
  refine nmZ ?_
  refine AX.seq ?_
  refine AX.block ?_
  have hx:=Dg_getD hdx i
  refine AX.sR (rgA [0,1,5,6,7]) ?_
  have htm:=val_take_step (digits m) i
  generalize hxx:(digits m).getD i 0=x at *
  refine AX.cut (fun st=>∃ (c:Nat) (r':List Nat),c<4294967296∧r'.length=L∧Dg r'∧(∀ j,i+(digits n).length≤j→r'.getD j 0=0)∧val r'+4294967296 ^ i*4294967296 ^ (digits n).length*c=val ((digits m).take i)*n+4294967296 ^ i*(x*n) ∧
   st=⟨[(7,.i .u64 c),(6,.i .i64 i),(5,.own 0 0 L 1),(1,nv n),(0,nv m)],[(0,⟨142,r'.map u⟩)],1⟩) ?_ ?_
  ·refine AX.sR (rgA [0,1,5,6,7,8]) ?_
   refine AX.block ?_
   refine AX.loop (fun N st=>∃ (k c:Nat) (r':List Nat),N=(digits n).length-k∧k≤(digits n).length∧c<4294967296∧r'.length=L∧Dg r'∧(∀ j,i+(digits n).length≤j→r'.getD j 0=0)∧val r'+4294967296 ^ i*4294967296 ^ k*c=val ((digits m).take i)*n+4294967296 ^ i*(x*val ((digits n).take k)) ∧
    st=⟨[(8,.i .i64 k),(7,.i .u64 c),(6,.i .i64 i),(5,.own 0 0 L 1),(1,nv n),(0,nv m)],[(0,⟨142,r'.map u⟩)],1⟩) (digits n).length ⟨0,0,r,rfl,Nat.zero_le _,by omega,hr,hdr,hz,by simp [val,hval],rfl⟩ ?_
   clear hz hdr hr hval r
   rintro N st ⟨k,c,r,rfl,hk,hc,hr,hdr,hz,hval,rfl⟩
   refine AX.seq ?_
   by_cases h2:k<(digits n).length
   ·refine AX.sR (rgA [0,1,5,6,7,8,29]) ?_
    refine AX.condT ?_
    refine AX.keepA [0,1,5,6,7,8] ?_
    refine AX.skip ?_
    refine nmZ ?_
    refine AX.seq ?_
    refine AX.block ?_
    have hy:=Dg_getD hdy k
    have htn:=val_take_step (digits n) k
    have hrj:=Dg_getD hdr (i+k)
    have hset:=fun v=>val_set r (i+k) v (by omega)
    generalize hyy:(digits n).getD k 0=y at *
    generalize hrr:r.getD (i+k) 0=rj at *
    have hxy:=mul_bound hx hy
    refine AX.sD (rgDW [0,1,5,6,8,9] (aI @cAdd (aI @cMul (aI @hrr (aI @hyy (aI @hxx oT))))) oT) ?_
    generalize hs:x*y+rj+c=s at *
    apply AX.sreg [0,1,5,6,8,9] (by simp only [pq];rfl)
    ·repeat (first
    |(apply RunO.op rfl;· rfl
      ·rfl
      iterate 2 (· (simp (disch:=omega) only [go_sem,i64_of,u32_of,u64_of,Nat.reduceLT,Nat.reduceLeDiff,Nat.reduceEqDiff,Nat.reduceAdd,Nat.reduceSub,Nat.reduceMul,Nat.reducePow,Nat.reduceBEq,Int.reduceLE,Int.reduceLT,Int.reduceToNat,Int.reduceEq,Int.reduceNeg,↓reduceIte,reduceCtorEq,← Int.natCast_add,u32n,lit_rem,Nat.mod_mod];rfl))
      ·(simp only [pb,Nat.reduceLT,Nat.reduceAdd,reduceIte];rfl))
    |(apply RunO.skip;· rfl
      ·(simp only [pb,Nat.reduceLT,Nat.reduceAdd,reduceIte];rfl)))
     exact RunO.nil
    ·repeat (first | exact Keep.nil | (apply Keep.take;· rfl) | (apply Keep.drop;· rfl))
    refine AX.rR (rgW [0,1,5,6,7,8] (aI @lit_quo oT) oT) ?_
    refine nmZ ?_
    refine AX.rR (rgW [0,1,5,6,7,8] (aI @lit_add oT) oT) ?_
    refine nmZ ?_
    refine ⟨(digits n).length-(k+1),_,id,by omega,
     leA
     , ⟨k+1,s / 4294967296,r.set (i+k) (s % 4294967296),rfl,by omega,by omega,by simp [hr],Dg_set hdr (by omega),?_,?_,rfl⟩⟩
    ·intro j hj
     rw [List.getD_eq_getElem?_getD,List.getElem?_set_ne (by omega),← List.getD_eq_getElem?_getD]
     exact hz j hj
    ·rw [Nat.pow_succ,htn]
     refine mul_inner (c:=c) hval ?_
     rw [← Nat.pow_add]
     exact mul_step (hset _) (by omega)
   ·refine AX.sR (rgA [0,1,5,6,7,8,29]) ?_
    refine AX.condF ?_
    refine AX.keepA [0,1,5,6,7] ?_
    refine AX.exit ?_
    refine nmZ ?_
    refine ⟨trivial,c,r,hc,hr,hdr,hz,?_,rfl⟩
    have hk':k=(digits n).length:=by omega
    rw [hk',List.take_length,val_digits] at hval
    exact hval
  rintro st ⟨c,r',hc,hr',hdr',hz',hval',rfl⟩
  have hrj:=hz' (i+(digits n).length) (Nat.le_refl _)
  have hset:=val_set r' (i+(digits n).length) c (by omega)
  have hcm:c % 4294967296=c:=Nat.mod_eq_of_lt hc
  refine AX.rR (rgW [0,1,5,6] (aI @cAdd (aI @u32n (aI @hcm oT))) oT) ?_
  refine nmZ ?_
  refine AX.rR (rgW [0,1,5,6] (aI @lit_add oT) oT) ?_
  refine nmZ ?_
  refine ⟨(digits m).length-(i+1),_,id,by omega,
   leA
   , ⟨i+1,r'.set (i+(digits n).length) c,rfl,by omega,by simp [hr'],Dg_set hdr' hc,?_,?_,rfl⟩⟩
  ·intro j hj
   rw [List.getD_eq_getElem?_getD,List.getElem?_set_ne (by omega),← List.getD_eq_getElem?_getD]
   exact hz' j (by omega)
  ·rw [hrj,Nat.mul_zero,Nat.add_zero,Nat.pow_add] at hset
   rw [htm]
   exact mul_outer hval' hset
 ·refine AX.sR (rgA [0,1,5,6,23]) ?_
  refine AX.condF ?_
  refine AX.exit ?_
  refine nmZ ?_
  have hi':i=(digits m).length:=by omega
  rw [hi',List.take_length,val_digits] at hval
  have c3:=rntrim_ok r hdr (by omega)
  rw [hval] at c3
  have ht:List.take L r=r:=List.take_of_length_le (by omega)
  refine AX.sR (rgW [4] (aI @ht oT) (aI c3 oT)) ?_
  refine AX.ret ⟨.inl rfl,?_⟩
  exact Done.sl rfl
end Go.Proofs.YteidabibgjokkaaGreatDoor
