import Derived.Test.YteidabibgjokkaaGreatDoorGW
import Derived.Test.YteidabibgjokkaaGreatDoorGJ
set_option maxRecDepth 20000
set_option linter.all false
namespace Go.Proofs.YteidabibgjokkaaGreatDoor
open Go Go.Proofs.YteidabibgjokkaaGreatDoor.Lift
attribute [local irreducible] Lift.PCall Lift.HCall
theorem rshort_ok (l:List Nat)(d:Nat)(hd:Dg l)(hl:l.length<2 ^ 40)(h0:0<d)(hdB:d<4294967296):PCall Tryz.prog 118 [dg l,.i .u64 d] (.tup [nv (val l / d),.i .u64 (val l % d:Nat)]) []:=by
 refine PCall.of_ax Tryz.call118 Tryz.func118 rfl (by simp [Tryz.ntmps118]) fun O w=>?_
 simp only [Tryz.ntmps118,Tryz.results118,argFr]
 refine AX.sR (rgA [0,1]) ?_
 refine AX.sR (rgA [0,1,6]) ?_
 refine AX.sR (rgA [0,1,6,7]) ?_
 refine AX.seq ?_
 refine AX.sR (rgA [0,1,6,7,8]) ?_
 refine AX.block ?_
 refine AX.loop (fun N st=>∃ (k R:Nat) (r:List Nat),N=k∧k≤l.length∧r.length=l.length∧Dg r∧R<d∧val (l.drop k)=d*val (r.drop k)+R ∧
  st=⟨[(8,.i .i64 ((k:Int)-1)),(7,.i .u64 R),(6,.own 0 0 l.length 1),(0,dg l),(1,.i .u64 d)],[(0,⟨142,r.map u⟩)],1⟩) l.length ⟨l.length,0,List.replicate l.length 0,rfl,Nat.le_refl _,by simp,Dg_replicate _,h0,by simp [val],rfl⟩ ?_
 rintro N st ⟨k,R,r,rfl,hk,hr,hdr,hR,hval,rfl⟩
 refine AX.seq ?_
 cases N with
 | zero=>
  refine AX.sR (rgA [0,1,6,7,17]) ?_
  refine AX.condF ?_
  refine AX.exit ?_
  refine nmZ ?_
  rw [List.drop_zero,List.drop_zero] at hval
  obtain ⟨e1,e2⟩:=divmod_unique hval hR
  have c3:=rntrim_ok r hdr (by omega)
  rw [e1] at c3
  have ht:List.take l.length r=r:=List.take_of_length_le (by omega)
  refine AX.sR (rgW [4,5] (aI @ht oT) (aI c3 oT)) ?_
  refine AX.ret ⟨.inl rfl,?_⟩
  rw [← e2]
  exact Done.of (vs:=[nv (val l / d),.i .u64 R]) rfl (by simp only [packV,frz,frzL];rfl) rfl (by simp only [V.lt,V.ltL,ltL_u];rfl) (by simp only [V.ren,V.renL,renL_u])
 | succ k=>
  have e1:((k+1:Nat):Int)-1=(k:Int):=by omega
  rw [e1]
  refine AX.sR (rgA [0,1,6,7,8,17]) ?_
  refine AX.condT ?_
  refine AX.skip ?_
  refine nmZ ?_
  refine AX.seq ?_
  refine AX.block ?_
  have hx:=Dg_getD hd k
  have hst:=val_drop_step l k (by omega)
  generalize hxx:l.getD k 0=x at *
  refine AX.sR (rgW [0,1,6,8,9] (aI @lit_mul (aI @cAdd (aI @hxx oT))) oT) ?_
  have hq:=short_lt hR hx
  generalize hs:R*4294967296+x=s at *
  have hm:=Nat.mod_lt s h0
  have e2:Int.tdiv (s:Int) (d:Int)=((s / d:Nat):Int):=rfl
  have e3:Int.tmod (s:Int) (d:Int)=((s % d:Nat):Int):=rfl
  generalize hqq:s / d=q at *
  generalize hmm:s % d=R' at *
  refine AX.sR (rgW [0,1,6,8,9] (aI @e2 oT) oT) ?_
  refine AX.rR (rgW [0,1,6,7,8] (aI @e3 oT) oT) ?_
  refine nmZ ?_
  refine AX.rR (rgA [0,1,6,7,8]) ?_
  refine nmZ ?_
  refine ⟨k,_,id,by omega,
   leA
   , ⟨k,R',r.set k q,rfl,by omega,by simp [hr],Dg_set hdr hq,hm,?_,rfl⟩⟩
  rw [hst,drop_set_self r k _ (by omega),val]
  exact short_step hval hs hqq.symm hmm.symm
theorem times_ok (b:List Nat)(x s:Nat)(hd:Dg b)(hl:b.length<2 ^ 38)(hx:x<4294967296)(hs:s<2 ^ 38):PCall Tryz.prog 120 [dg b,.i .u64 x,.i .i64 s] (nv (4294967296 ^ s*(x*val b))) []:=by
 refine PCall.of_ax Tryz.call120 Tryz.func120 rfl (by simp [Tryz.ntmps120]) fun O w=>?_
 simp only [Tryz.ntmps120,Tryz.results120,argFr]
 refine AX.sR (rgA [0,1,2]) ?_
 refine AX.sR (rgA [0,1,7]) ?_
 refine AX.sR (rgA [0,1,7,8]) ?_
 refine AX.seq ?_
 refine AX.sR (rgA [0,1,7,8,9]) ?_
 refine AX.block ?_
 refine AX.loop (fun N st=>∃ (i c:Nat) (o:List Nat),N=b.length-i∧i≤b.length∧o.length=s+i∧Dg o∧c<4294967296∧val o+4294967296 ^ s*4294967296 ^ i*c=4294967296 ^ s*(x*val (b.take i)) ∧
  st=⟨[(9,.i .i64 i),(8,.i .u64 c),(7,.own 0 0 (s+i) 1),(0,dg b),(1,.i .u64 x)],[(0,⟨142,o.map u⟩)],1⟩) b.length ⟨0,0,List.replicate s 0,rfl,Nat.zero_le _,by simp,Dg_replicate _,by omega,by simp [val,val_replicate],rfl⟩ ?_
 rintro N st ⟨i,c,o,rfl,hi,ho,hdo,hc,hval,rfl⟩
 refine AX.seq ?_
 by_cases h1:i<b.length
 ·refine AX.sR (rgA [0,1,7,8,9,16]) ?_
  refine AX.condT ?_
  refine AX.keepA [0,1,7,8,9] ?_
  refine AX.skip ?_
  refine nmZ ?_
  refine AX.seq ?_
  refine AX.block ?_
  have hy:=Dg_getD hd i
  have htb:=val_take_step b i
  generalize hyy:b.getD i 0=y at *
  have hxy:=mul_bound hy hx
  refine AX.sR (rgW [0,1,7,9,10] (aI @cAdd (aI @cMul (aI @hyy oT))) oT) ?_
  generalize hss:y*x+c=t at *
  apply AX.sreg [0,1,7,9,10] (by simp only [pq];rfl)
  ·repeat (first
  |(apply RunO.op rfl;· rfl
    ·rfl
    iterate 2 (· (simp (disch:=omega) only [go_sem,i64_of,u32_of,u64_of,Nat.reduceLT,Nat.reduceLeDiff,Nat.reduceEqDiff,Nat.reduceAdd,Nat.reduceSub,Nat.reduceMul,Nat.reducePow,Nat.reduceBEq,Int.reduceLE,Int.reduceLT,Int.reduceToNat,Int.reduceEq,Int.reduceNeg,↓reduceIte,reduceCtorEq,lit_rem,u32n,Nat.mod_mod];rfl))
    ·(simp only [pb,Nat.reduceLT,Nat.reduceAdd,reduceIte];rfl))
  |(apply RunO.skip;· rfl
    ·(simp only [pb,Nat.reduceLT,Nat.reduceAdd,reduceIte];rfl)))
   exact RunO.nil
  ·repeat (first | exact Keep.nil | (apply Keep.take;· rfl) | (apply Keep.drop;· rfl))
  refine AX.rR (rgW [0,1,7,8,9] (aI @lit_quo oT) oT) ?_
  refine nmZ ?_
  refine AX.rR (rgW [0,1,7,8,9] (aI @lit_add oT) oT) ?_
  refine nmZ ?_
  refine ⟨b.length-(i+1),_,fun _=>2,by omega,
   leA
   , ⟨i+1,t / 4294967296,o++[t % 4294967296],rfl,by omega,by simp [ho];omega,?_,by omega,?_,rfl⟩⟩
  ·rw [Dg_append,Dg_cons];exact ⟨hdo,Nat.mod_lt _ (by omega),Dg_nil⟩
  ·have h3:=sum_step (s:=t) ho (by omega)
   rw [htb,Nat.pow_succ]
   rw [Nat.pow_succ,Nat.pow_add] at h3
   rw [← hss] at h3 ⊢
   grind
 ·refine AX.sR (rgA [0,1,7,8,9,16]) ?_
  refine AX.condF ?_
  refine AX.exit ?_
  refine nmZ ?_
  have hi':i=b.length:=by omega
  have hd2:Dg (o++[c]):=by rw [Dg_append,Dg_cons];exact ⟨hdo,by omega,Dg_nil⟩
  have c3:=rntrim_ok (o++[c]) hd2 (by simp;omega)
  have hv:val (o++[c])=4294967296 ^ s*(x*val b):=by
   rw [val_append,ho,Nat.pow_add]
   simp only [val,Nat.mul_zero,Nat.add_zero]
   rw [hval,hi',List.take_length]
  rw [hv] at c3
  have hcm:c % 4294967296=c:=Nat.mod_eq_of_lt (by omega)
  refine AX.sR (rgW [6] (aI @u32n (aI @hcm oT)) (aI c3 oT)) ?_
  refine AX.ret ⟨.inl rfl,?_⟩
  exact Done.sl rfl
theorem rsmall_ok (a:List Nat)(ha:Dg a)(hl:a.length<2 ^ 40):PCall Tryz.prog 72 [dg a] (smallV (val a)) []:=by
 refine PCall.of_ax Tryz.call72 Tryz.func72 rfl (by simp [Tryz.ntmps72]) fun O w=>?_
 simp only [Tryz.ntmps72,Tryz.results72,argFr]
 have c1:=rntrim_ok a ha hl
 have hm:=digits_length_val ha
 generalize val a=m at *
 have hdm:=Dg_digits m
 have hx:=Dg_getD hdm 0
 have hy:=Dg_getD hdm 1
 refine AX.sR (rgAV [0,2,3]) ?_
 refine AX.sR (rgCV [0,2,3] (aI c1 oT)) ?_
 refine AX.seq ?_
 refine AX.sR (rgAV [0,7]) ?_
 refine AX.block ?_
 by_cases h0:(digits m).length=0
 ·refine AX.sR (rgAV [0,7,8]) ?_
  refine AX.condT ?_
  refine AX.sR (rgAV [2,3]) ?_
  refine AX.ret ⟨.inl rfl,?_⟩
  have e:=digits_val0 m h0
  have e1:smallN m=0:=by subst e;rfl
  have e2:decide (m<18446744073709551616)=true:=by subst e;rfl
  exact Done.sm (by rw [e1];rfl) (by rw [e2];rfl)
 refine AX.sR (rgAV [0,7,8]) ?_
 refine AX.condF ?_
 by_cases h1:(digits m).length=1
 ·refine AX.sR (rgAV [0,7,10]) ?_
  refine AX.condT ?_
  refine AX.sR (rgAV [2,3]) ?_
  refine AX.ret ⟨.inl rfl,?_⟩
  have e:=digits_val1 m h1
  have e1:smallN m=(digits m).getD 0 0:=by unfold smallN;rw [if_pos (by omega)];exact e
  have e2:decide (m<18446744073709551616)=true:=decide_eq_true (by omega)
  exact Done.sm (by rw [e1];rfl) (by rw [e2];rfl)
 refine AX.sR (rgAV [0,7,10]) ?_
 refine AX.condF ?_
 by_cases h2:(digits m).length=2
 ·refine AX.sR (rgAV [0,7,16]) ?_
  refine AX.condT ?_
  have e:=digits_val2 m h2
  have e2:decide (m<18446744073709551616)=true:=decide_eq_true (by omega)
  have e1:smallN m=m:=by unfold smallN;rw [if_pos (by omega)]
  generalize hxx:(digits m).getD 0 0=x at *
  generalize hyy:(digits m).getD 1 0=y at *
  apply AX.sdreg [2,3] (by kernel_rfl) (by simp only [pq];rfl)
  ·repeat (first
  |(apply RunD.op rfl;· rfl
    ·(simp only [opsOf,valsOf,valOf,lkp,ofConst,ofCell,Array.toList,Option.toList,List.map_cons,List.map_nil,List.cons_append,List.nil_append,List.append_nil,Nat.reduceEqDiff,Nat.reducePow,Nat.reduceLT,Nat.reduceLeDiff,reduceIte,if_true,if_false,IntKind.min,IntKind.max,IntKind.bits,IntKind.signed,Int.reduceLE,Int.reduceNeg,Int.reducePow,Int.reduceSub,and_self,Bool.false_eq_true,Nat.reduceSub];rfl)
    iterate 2 (· (simp (disch:=omega) only [go_sem,i64_of,u32_of,u64_of,Nat.reduceLT,Nat.reduceLeDiff,Nat.reduceEqDiff,Nat.reduceAdd,Nat.reduceSub,Nat.reduceMul,Nat.reducePow,Nat.reduceBEq,Int.reduceLE,Int.reduceLT,Int.reduceToNat,Int.reduceEq,Int.reduceNeg,↓reduceIte,reduceCtorEq,hxx,hyy,shl32,ori hx hy,ori' hx hy];rfl))
    ·(simp only [pb,Nat.reduceLT,Nat.reduceAdd,reduceIte];rfl)
    ·rfl)
  |(apply RunD.skip;· rfl
    ·(simp only [pb,Nat.reduceLT,Nat.reduceAdd,reduceIte];rfl)
    ·rfl))
   exact RunD.nil
  ·repeat (first | exact Keep.nil | (apply Keep.take;· rfl) | (apply Keep.drop;· rfl))
  ·kernel_rfl
  refine AX.ret ⟨.inl rfl,?_⟩
  refine Done.sm ?_ (by rw [e2];rfl)
  rw [e1]
  first
   | (rw [e];rfl)
   | ((conv=>rhs;rw [e,Nat.add_comm]);rfl)
 refine AX.sR (rgAV [0,7,16]) ?_
 refine AX.condF ?_
 refine AX.skip ?_
 refine nmZ ?_
 refine AX.sR (rgAV [2,3]) ?_
 refine AX.ret ⟨.inl rfl,?_⟩
 have e:=digits_big m (by omega)
 have e1:smallN m=0:=by unfold smallN;rw [if_neg (by omega)]
 have e2:decide (m<18446744073709551616)=false:=decide_eq_false (by omega)
 exact Done.sm (by rw [e1];rfl) (by rw [e2];rfl)
theorem val_mod2 (l:List Nat):val l % 2=l.getD 0 0 % 2:=by
 cases l with
 | nil=>rfl
 | cons x l=>simp [val];omega
theorem lit_mod2 (n:Nat):Int.tmod (n:Int) 2=((n % 2:Nat):Int):=rfl
theorem even_ok (a:List Nat)(ha:Dg a)(hl:a.length<2 ^ 40):PCall Tryz.prog 121 [dg a] (.b (decide (val a % 2=0))) []:=by
 refine PCall.of_ax Tryz.call121 Tryz.func121 rfl (by simp [Tryz.ntmps121]) fun O w=>?_
 simp only [Tryz.ntmps121,Tryz.results121,argFr]
 have c1:=at_ok a 0 ha hl
 rw [val_mod2]
 generalize a.getD 0 0=x at *
 refine AX.sR (rgAV [0]) ?_
 by_cases h:x % 2=0
 ·refine AX.sR (rgWV [2] (aI @lit_mod2 (aI @h oT)) (aI c1 oT)) ?_
  refine AX.ret ⟨.inl rfl,?_⟩
  exact Done.of rfl (by simp only [packV,frz];rfl) (by simp [h]) rfl rfl
 ·refine AX.sR (rgWV [2] (aI @lit_mod2 oT) (aI c1 oT)) ?_
  refine AX.ret ⟨.inl rfl,?_⟩
  exact Done.of rfl (by simp only [packV,frz];rfl) (by simp [h]) rfl rfl
theorem half_ok (a:List Nat)(ha:Dg a)(hl:a.length<2 ^ 40):PCall Tryz.prog 122 [dg a] (nv (val a / 2)) []:=by
 refine PCall.of_ax Tryz.call122 Tryz.func122 rfl (by simp [Tryz.ntmps122]) fun O w=>?_
 simp only [Tryz.ntmps122,Tryz.results122,argFr]
 have c1:=rntrim_ok a ha hl
 have hm:=digits_length_val ha
 have c2:=rshort_ok (digits (val a)) 2 (Dg_digits _) (by omega) (by omega) (by omega)
 rw [val_digits] at c2
 refine AX.sR (rgAV [0,2]) ?_
 refine AX.sR (rgCV [0,3] (aI c1 (aI c2 oT))) ?_
 refine AX.sR (rgAV [2]) ?_
 refine AX.ret ⟨.inl rfl,?_⟩
 exact Done.sl rfl
theorem gcd_even_left {x y:Nat} (hx:x % 2=0)(ho:Nat.gcd x y % 2=1):Nat.gcd (x / 2) y=Nat.gcd x y:=by
 have h1:x=2*(x / 2):=by omega
 have hy:y % 2=1:=by
  by_cases h:y % 2=1
  ·exact h
  ·exfalso
   have h2:2 ∣ Nat.gcd x y:=Nat.dvd_gcd (Nat.dvd_of_mod_eq_zero hx) (Nat.dvd_of_mod_eq_zero (by omega))
   have:=Nat.mod_eq_zero_of_dvd h2
   omega
 have hc:Nat.Coprime 2 y:=by
  unfold Nat.Coprime
  rw [Nat.gcd_rec,hy]
  rfl
 conv=>rhs;rw [h1]
 exact (Nat.Coprime.gcd_mul_left_cancel _ hc).symm
theorem gcd_even_right {x y:Nat} (hy:y % 2=0)(ho:Nat.gcd x y % 2=1):Nat.gcd x (y / 2)=Nat.gcd x y:=by
 rw [Nat.gcd_comm x (y / 2),gcd_even_left hy (by rwa [Nat.gcd_comm]),Nat.gcd_comm]
theorem gcd_sub_right {x y:Nat} (h:x≤y):Nat.gcd x (y-x)=Nat.gcd x y:=by
 have:=Nat.gcd_add_self_right x (y-x)
 rw [show y-x+x=y by omega] at this
 exact this.symm
theorem gcd_odd_not {x y:Nat} (h:¬ (x % 2=0∧y % 2=0)):Nat.gcd x y % 2=1:=by
 apply Classical.byContradiction
 intro h1
 have h2:2 ∣ Nat.gcd x y:=Nat.dvd_of_mod_eq_zero (by omega)
 have hx:=Nat.mod_eq_zero_of_dvd (Nat.dvd_trans h2 (Nat.gcd_dvd_left x y))
 have hy:=Nat.mod_eq_zero_of_dvd (Nat.dvd_trans h2 (Nat.gcd_dvd_right x y))
 exact h ⟨hx,hy⟩
theorem rsub_n (m n:Nat)(hm:(digits m).length<2 ^ 39)(hn:(digits n).length<2 ^ 39):PCall Tryz.prog 92 [nv m,nv n] (numE (m-n) (if m<n then 1 else 0)) []:=by
 have:=rsub_ok (digits m) (digits n) (Dg_digits _) (Dg_digits _) hm hn
 rwa [val_digits,val_digits] at this
theorem radd_n (m n:Nat)(hm:(digits m).length<2 ^ 39)(hn:(digits n).length<2 ^ 39):PCall Tryz.prog 90 [nv m,nv n] (nv (m+n)) []:=by
 have:=radd_ok (digits m) (digits n) (Dg_digits _) (Dg_digits _) hm hn
 rwa [val_digits,val_digits] at this
theorem rmul_n (m n:Nat)(hm:(digits m).length<2 ^ 38)(hn:(digits n).length<2 ^ 38):PCall Tryz.prog 71 [nv m,nv n] (nv (m*n)) []:=by
 have:=rmul_ok (digits m) (digits n) (Dg_digits _) (Dg_digits _) hm hn
 rwa [val_digits,val_digits] at this
theorem rcmp_n (m n:Nat)(hm:(digits m).length<2 ^ 40)(hn:(digits n).length<2 ^ 40):PCall Tryz.prog 91 [nv m,nv n] (.i .i64 (cmp m n)) []:=by
 have:=rcmp_ok (digits m) (digits n) (Dg_digits _) (Dg_digits _) hm hn
 rwa [val_digits,val_digits] at this
theorem even_n (m:Nat)(hm:(digits m).length<2 ^ 40):PCall Tryz.prog 121 [nv m] (.b (decide (m % 2=0))) []:=by
 have:=even_ok (digits m) (Dg_digits _) hm
 rwa [val_digits] at this
theorem half_n (m:Nat)(hm:(digits m).length<2 ^ 40):PCall Tryz.prog 122 [nv m] (nv (m / 2)) []:=by
 have:=half_ok (digits m) (Dg_digits _) hm
 rwa [val_digits] at this
theorem rsmall_n (m:Nat)(hm:(digits m).length<2 ^ 40):PCall Tryz.prog 72 [nv m] (smallV m) []:=by
 have:=rsmall_ok (digits m) (Dg_digits _) hm
 rwa [val_digits] at this
theorem rgcd_ok (a b:List Nat)(ha:Dg a)(hb:Dg b)(hla:a.length<2 ^ 36)(hlb:b.length<2 ^ 36):PCall Tryz.prog 70 [dg a,dg b] (nv (Nat.gcd (val a) (val b))) []:=by
 refine PCall.of_ax Tryz.call70 Tryz.func70 rfl (by simp [Tryz.ntmps70]) fun O w=>?_
 simp only [Tryz.ntmps70,Tryz.results70,argFr]
 have c1:=rntrim_ok a ha (by omega)
 have c2:=rntrim_ok b hb (by omega)
 have hma:=digits_length_val ha
 have hmb:=digits_length_val hb
 generalize val a=m at *
 generalize val b=n at *
 have hsum:=digits_len_add m n
 have c3:=rsmall_n m (by omega)
 have c4:=rsmall_n n (by omega)
 refine AX.sR (rgA [0,1]) ?_
 refine AX.sR (rgC [0,1] (aI c1 (aI c2 oT))) ?_
 refine AX.sR (rgC [0,1,5,6] (aI c3 oT)) ?_
 refine AX.sR (rgC [0,1,5,6,7,8] (aI c4 oT)) ?_
 refine AX.seq ?_
 by_cases hs:m<18446744073709551616∧n<18446744073709551616
 ·have e1:smallN m=m:=if_pos hs.1
  have e2:smallN n=n:=if_pos hs.2
  have e3:decide (m<18446744073709551616)=true:=decide_eq_true hs.1
  have e4:decide (n<18446744073709551616)=true:=decide_eq_true hs.2
  rw [e1,e2,e3,e4]
  refine AX.sR (rgA [5,7,27]) ?_
  refine AX.condT ?_
  refine AX.keepA [5,7] ?_
  refine AX.seq ?_
  refine AX.block ?_
  refine AX.loop (fun N st=>∃ x:Nat,x<18446744073709551616∧N<18446744073709551616∧Nat.gcd x N=Nat.gcd m n∧st=⟨[(7,.i .u64 N),(5,.i .u64 x)],[],0⟩) n ⟨m,hs.1,hs.2,rfl,rfl⟩ ?_
  rintro N st ⟨x,hx,hN,hg,rfl⟩
  refine AX.seq ?_
  by_cases h0:N=0
  ·subst h0
   refine AX.sR (rgA [5,7,29]) ?_
   refine AX.condF ?_
   refine AX.exit ?_
   refine nmZ ?_
   have c5:=rof_ok x hx
   rw [Nat.gcd_zero_right] at hg
   rw [← hg]
   refine AX.sR (rgC [4] (aI c5 oT)) ?_
   refine AX.ret ⟨.inl rfl,?_⟩
   exact Done.sl rfl
  ·have hml:=Nat.mod_lt x (show 0<N by omega)
   have hgs:=gcd_step x N
   have e5:Int.tmod (x:Int) (N:Int)=((x % N:Nat):Int):=rfl
   generalize x % N=r at *
   refine AX.sR (rgA [5,7,29]) ?_
   refine AX.condT ?_
   refine AX.keepA [5,7] ?_
   refine AX.skip ?_
   refine nmZ ?_
   refine AX.block ?_
   refine AX.rD (rgDW [5,7] (aI @e5 oT) oT) ?_
   refine nmZ ?_
   refine ⟨r,_,id,by omega,
    leA
    , ⟨N,by omega,by omega,by rw [← hg,hgs],rfl⟩⟩
 have e0:(decide (m<18446744073709551616) && decide (n<18446744073709551616))=false:=by
  rw [Bool.and_eq_false_iff]
  by_cases h1:m<18446744073709551616
  ·right
   exact decide_eq_false fun h2=>hs ⟨h1,h2⟩
  ·left
   exact decide_eq_false h1
 refine AX.cut (fun st=>st=⟨[(27,.b false),(1,nv n),(0,nv m)],[],0⟩) ?_ ?_
 ·by_cases h1:m<18446744073709551616
  ·have e3:decide (m<18446744073709551616)=true:=decide_eq_true h1
   have e4:decide (n<18446744073709551616)=false:=decide_eq_false fun h2=>hs ⟨h1,h2⟩
   rw [e3,e4]
   refine AX.rR (rgA [0,1,27]) ?_
   exact ⟨rfl,rfl⟩
  ·have e3:decide (m<18446744073709551616)=false:=decide_eq_false h1
   rw [e3]
   refine AX.rR (rgA [0,1,27]) ?_
   exact ⟨rfl,rfl⟩
 rintro st rfl
 refine AX.condF ?_
 refine AX.skip ?_
 refine nmZ ?_
 refine AX.seq ?_
 by_cases hm0:(digits m).length=0
 ·refine AX.sR (rgA [0,1,38]) ?_
  refine AX.condT ?_
  refine AX.sR (rgA [4]) ?_
  refine AX.ret ⟨.inl rfl,?_⟩
  rw [digits_len_zero.1 hm0,Nat.gcd_zero_left]
  exact Done.sl rfl
 refine AX.sR (rgA [0,1,38]) ?_
 refine AX.condF ?_
 refine AX.skip ?_
 refine nmZ ?_
 refine AX.seq ?_
 by_cases hn0:(digits n).length=0
 ·refine AX.sR (rgA [0,1,42]) ?_
  refine AX.condT ?_
  refine AX.sR (rgA [4]) ?_
  refine AX.ret ⟨.inl rfl,?_⟩
  rw [digits_len_zero.1 hn0,Nat.gcd_zero_right]
  exact Done.sl rfl
 refine AX.sR (rgA [0,1,42]) ?_
 refine AX.condF ?_
 refine AX.skip ?_
 refine nmZ ?_
 have hm1:0<m:=Nat.pos_of_ne_zero fun e=>hm0 (digits_len_zero.2 e)
 have hn1:0<n:=Nat.pos_of_ne_zero fun e=>hn0 (digits_len_zero.2 e)
 have c5:=rof_ok 1 (by omega)
 refine AX.sR (rgC [0,1,9] (aI c5 oT)) ?_
 refine AX.cut (fun st=>∃ x y t:Nat,0<x∧0<y∧x≤m∧y≤n∧t≤m∧Nat.gcd x y % 2=1∧Nat.gcd x y*t=Nat.gcd m n∧st=⟨[(9,nv t),(1,nv y),(0,nv x)],[],0⟩) ?_ ?_
 ·refine AX.block ?_
  refine AX.loop (fun N st=>∃ y t:Nat,0<N∧0<y∧N*t=m∧y*t=n∧st=⟨[(9,nv t),(1,nv y),(0,nv N)],[],0⟩) m ⟨n,1,hm1,hn1,by omega,by omega,rfl⟩ ?_
  rintro x st ⟨y,t,hx,hy,hxt,hyt,rfl⟩
  have htp:0<t:=Nat.pos_of_ne_zero (by rintro rfl;omega)
  have hxm:x≤m:=by rw [← hxt];exact Nat.le_mul_of_pos_right x htp
  have hyn:y≤n:=by rw [← hyt];exact Nat.le_mul_of_pos_right y htp
  have htm:t≤m:=by rw [← hxt];exact Nat.le_mul_of_pos_left t hx
  have lx:=digits_len_mono hxm
  have ly:=digits_len_mono hyn
  have lt:=digits_len_mono htm
  have k1:=even_n x (by omega)
  have k2:=even_n y (by omega)
  refine AX.seq ?_
  by_cases hev:x % 2=0∧y % 2=0
  ·obtain ⟨h1,h2⟩:=hev
   rw [decide_eq_true h1] at k1
   rw [decide_eq_true h2] at k2
   refine AX.sR (rgC [0,1,9,50] (aI k1 (aI k2 oT))) ?_
   refine AX.condT ?_
   refine AX.keepA [0,1,9] ?_
   refine AX.skip ?_
   refine nmZ ?_
   refine AX.block ?_
   have k3:=half_n x (by omega)
   have k4:=half_n y (by omega)
   have k5:=radd_n t t (by omega) (by omega)
   refine AX.rR (rgC [0,1,9] (aI k3 (aI k4 (aI k5 oT)))) ?_
   refine nmZ ?_
   refine ⟨x / 2,_,id,by omega,
    leA
    , ⟨y / 2,t+t,by omega,by omega,?_,?_,rfl⟩⟩
   ·rw [← hxt]
    conv=>rhs;rw [show x=2*(x / 2) by omega]
    rw [← Nat.two_mul,← Nat.mul_assoc,Nat.mul_comm (x / 2) 2]
   ·rw [← hyt]
    conv=>rhs;rw [show y=2*(y / 2) by omega]
    rw [← Nat.two_mul,← Nat.mul_assoc,Nat.mul_comm (y / 2) 2]
  ·have hod:=gcd_odd_not hev
   have hgg:Nat.gcd x y*t=Nat.gcd m n:=by rw [← hxt,← hyt,Nat.gcd_mul_right]
   by_cases h1:x % 2=0
   ·have h2:¬ y % 2=0:=fun h2=>hev ⟨h1,h2⟩
    rw [decide_eq_true h1] at k1
    rw [decide_eq_false h2] at k2
    refine AX.sR (rgC [0,1,9,50] (aI k1 (aI k2 oT))) ?_
    refine AX.condF ?_
    refine AX.keepA [0,1,9] ?_
    refine AX.exit ?_
    refine nmZ ?_
    exact ⟨trivial,x,y,t,hx,hy,hxm,hyn,htm,hod,hgg,rfl⟩
   ·rw [decide_eq_false h1] at k1
    refine AX.sR (rgC [0,1,9,50] (aI k1 oT)) ?_
    refine AX.condF ?_
    refine AX.keepA [0,1,9] ?_
    refine AX.exit ?_
    refine nmZ ?_
    exact ⟨trivial,x,y,t,hx,hy,hxm,hyn,htm,hod,hgg,rfl⟩
 rintro st ⟨x,y,t,hx,hy,hxm,hyn,htm,hod,hgg,rfl⟩
 have lt:=digits_len_mono htm
 refine AX.seq ?_
 refine AX.block ?_
 refine AX.loop (fun N st=>∃ x y:Nat,N=x+y∧0<x∧x+y≤m+n∧Nat.gcd x y % 2=1∧Nat.gcd x y*t=Nat.gcd m n∧st=⟨[(9,nv t),(1,nv y),(0,nv x)],[],0⟩) (x+y) ⟨x,y,rfl,hx,by omega,hod,hgg,rfl⟩ ?_
 clear hx hy hxm hyn hod hgg x y
 rintro N st ⟨x,y,rfl,hx,hle,hod,hgg,rfl⟩
 have lx:=digits_len_mono (show x≤m+n by omega)
 have ly:=digits_len_mono (show y≤m+n by omega)
 refine AX.seq ?_
 by_cases hy0:(digits y).length=0
 ·refine AX.sR (rgA [0,1,9,60]) ?_
  refine AX.condF ?_
  refine AX.exit ?_
  refine nmZ ?_
  have k5:=rmul_n x t (by omega) (by omega)
  rw [digits_len_zero.1 hy0,Nat.gcd_zero_right] at hgg
  rw [← hgg]
  refine AX.sR (rgC [4] (aI k5 oT)) ?_
  refine AX.ret ⟨.inl rfl,?_⟩
  exact Done.sl rfl
 ·have hy:0<y:=Nat.pos_of_ne_zero fun e=>hy0 (digits_len_zero.2 e)
  refine AX.sR (rgA [0,1,9,60]) ?_
  refine AX.condT ?_
  refine AX.keepA [0,1,9] ?_
  refine AX.skip ?_
  refine nmZ ?_
  refine AX.block ?_
  refine AX.cut (fun st=>∃ x':Nat,0<x'∧x'≤x∧Nat.gcd x' y=Nat.gcd x y∧st=⟨[(9,nv t),(1,nv y),(0,nv x')],[],0⟩) ?_ ?_
  ·refine AX.block ?_
   refine AX.loop (fun N st=>0<N∧N≤x∧Nat.gcd N y=Nat.gcd x y∧st=⟨[(9,nv t),(1,nv y),(0,nv N)],[],0⟩) x ⟨hx,Nat.le_refl _,rfl,rfl⟩ ?_
   rintro z st ⟨hz,hzx,hg,rfl⟩
   have lz:=digits_len_mono (show z≤m+n by omega)
   have k1:=even_n z (by omega)
   refine AX.seq ?_
   by_cases h1:z % 2=0
   ·rw [decide_eq_true h1] at k1
    have k3:=half_n z (by omega)
    refine AX.sR (rgC [0,1,9,62] (aI k1 oT)) ?_
    refine AX.condT ?_
    refine AX.keepA [0,1,9] ?_
    refine AX.skip ?_
    refine nmZ ?_
    refine AX.block ?_
    refine AX.rR (rgC [0,1,9] (aI k3 oT)) ?_
    refine nmZ ?_
    refine ⟨z / 2,_,id,by omega,
     leA
     , by omega,by omega,by rw [gcd_even_left h1 (by rw [hg];exact hod),hg],rfl⟩
   ·rw [decide_eq_false h1] at k1
    refine AX.sR (rgC [0,1,9,62] (aI k1 oT)) ?_
    refine AX.condF ?_
    refine AX.keepA [0,1,9] ?_
    refine AX.exit ?_
    refine nmZ ?_
    exact ⟨trivial,z,hz,hzx,hg,rfl⟩
  rintro st ⟨x',hx',hxx,hgx,rfl⟩
  refine AX.cut (fun st=>∃ y':Nat,0<y'∧y'≤y∧Nat.gcd x' y'=Nat.gcd x y∧st=⟨[(9,nv t),(1,nv y'),(0,nv x')],[],0⟩) ?_ ?_
  ·refine AX.block ?_
   refine AX.loop (fun N st=>0<N∧N≤y∧Nat.gcd x' N=Nat.gcd x y∧st=⟨[(9,nv t),(1,nv N),(0,nv x')],[],0⟩) y ⟨hy,Nat.le_refl _,hgx,rfl⟩ ?_
   rintro z st ⟨hz,hzx,hg,rfl⟩
   have lz:=digits_len_mono (show z≤m+n by omega)
   have k1:=even_n z (by omega)
   refine AX.seq ?_
   by_cases h1:z % 2=0
   ·rw [decide_eq_true h1] at k1
    have k3:=half_n z (by omega)
    refine AX.sR (rgC [0,1,9,66] (aI k1 oT)) ?_
    refine AX.condT ?_
    refine AX.keepA [0,1,9] ?_
    refine AX.skip ?_
    refine nmZ ?_
    refine AX.block ?_
    refine AX.rR (rgC [0,1,9] (aI k3 oT)) ?_
    refine nmZ ?_
    refine ⟨z / 2,_,id,by omega,
     leA
     , by omega,by omega,by rw [gcd_even_right h1 (by rw [hg];exact hod),hg],rfl⟩
   ·rw [decide_eq_false h1] at k1
    refine AX.sR (rgC [0,1,9,66] (aI k1 oT)) ?_
    refine AX.condF ?_
    refine AX.keepA [0,1,9] ?_
    refine AX.exit ?_
    refine nmZ ?_
    exact ⟨trivial,z,hz,hzx,hg,rfl⟩
  rintro st ⟨y',hy',hyy,hgy,rfl⟩
  have lx':=digits_len_mono (show x'≤m+n by omega)
  have ly':=digits_len_mono (show y'≤m+n by omega)
  refine AX.cut (fun st=>∃ p q:Nat,0<p∧p≤q∧p+q=x'+y'∧Nat.gcd p q=Nat.gcd x y∧Le 0 id ⟨[(9,nv t),(1,nv q),(0,nv p)],[],0⟩ st) ?_ ?_
  ·have k1:=rcmp_n x' y' (by omega) (by omega)
   by_cases h:y' < x'
   ·rw [cmp_gt h] at k1
    refine AX.sR (rgC [0,1,9,72] (aI k1 oT)) ?_
    refine AX.condT ?_
    refine AX.keepA [0,1,9] ?_
    refine AX.rR (rgA [0,1,9]) ?_
    refine ⟨rfl,y',x',hy',by omega,by omega,by rw [Nat.gcd_comm,hgy],
     leA
     ⟩
   ·have hc:¬ 0<cmp x' y':=by
     unfold cmp
     split
     ·omega
     ·rw [if_pos (by omega)];omega
    generalize cmp x' y'=z at *
    refine AX.sR (rgC [0,1,9,72] (aI k1 oT)) ?_
    refine AX.condF ?_
    refine AX.keepA [0,1,9] ?_
    refine AX.skip ?_
    refine ⟨rfl,x',y',hx',by omega,by omega,hgy,
     leA
     ⟩
  rintro st ⟨p,q,hp,hpq,hsum',hgp,hle'⟩
  refine AX.weaken id hle' ?_
  have lp:=digits_len_mono (show p≤m+n by omega)
  have lq:=digits_len_mono (show q≤m+n by omega)
  have k2:=rsub_n q p (by omega) (by omega)
  refine AX.rR (rgC [0,1,9] (aI k2 oT)) ?_
  refine nmZ ?_
  refine ⟨p+(q-p),_,id,by omega,
   leA
   , ⟨p,q-p,rfl,hp,by omega,by rw [gcd_sub_right hpq,hgp];exact hod,by rw [gcd_sub_right hpq,hgp];exact hgg,rfl⟩⟩
end Go.Proofs.YteidabibgjokkaaGreatDoor
