import Derived.Test.YteidabibgjokkaaGreatDoorGI
set_option maxRecDepth 20000
set_option linter.all false
namespace Go.Proofs.YteidabibgjokkaaGreatDoor
open Go Go.Proofs.YteidabibgjokkaaGreatDoor.Lift
attribute [local irreducible] Lift.PCall Lift.HCall
theorem short_ok (l:List Nat)(d:Nat)(hd:Dg l)(hl:l.length<2 ^ 40)(h0:0<d)(hdB:d<4294967296):PCall Tryz.prog 150 [dg l,.i .u32 d] (.tup [nv (val l / d),.i .u32 (val l % d:Nat)]) []:=by
 refine PCall.of_ax Tryz.call150 Tryz.func150 rfl (by simp [Tryz.ntmps150]) fun O w=>?_
 simp only [Tryz.ntmps150,Tryz.results150,argFr]
 refine AX.sR (rgA [0,1]) ?_
 refine AX.sR (rgA [0,1,6]) ?_
 refine AX.sR (rgA [0,1,6,7]) ?_
 refine AX.seq ?_
 refine AX.sR (rgA [0,1,6,7,8]) ?_
 refine AX.block ?_
 refine AX.loop (fun N st=>∃ (k R:Nat) (r:List Nat),N=k∧k≤l.length∧r.length=l.length∧Dg r∧R<d∧val (l.drop k)=d*val (r.drop k)+R ∧
  st=⟨[(8,.i .i64 ((k:Int)-1)),(7,.i .u64 R),(6,.own 0 0 l.length 1),(0,dg l),(1,.i .u32 d)],[(0,⟨142,r.map u⟩)],1⟩) l.length ⟨l.length,0,List.replicate l.length 0,rfl,Nat.le_refl _,by simp,Dg_replicate _,h0,by simp [val],rfl⟩ ?_
 rintro N st ⟨k,R,r,rfl,hk,hr,hdr,hR,hval,rfl⟩
 refine AX.seq ?_
 cases N with
 | zero=>
  refine AX.sR (rgA [0,1,6,7,16]) ?_
  refine AX.condF ?_
  refine AX.exit ?_
  refine nmZ ?_
  rw [List.drop_zero,List.drop_zero] at hval
  obtain ⟨e1,e2⟩:=divmod_unique hval hR
  have c3:=ntrim_ok r hdr (by omega)
  rw [e1] at c3
  have ht:List.take l.length r=r:=List.take_of_length_le (by omega)
  refine AX.sR (rgW [4,5] (aI @ht oT) (aI c3 oT)) ?_
  refine AX.ret ⟨.inl rfl,?_⟩
  rw [← e2]
  exact Done.of (vs:=[nv (val l / d),.i .u32 R]) rfl (by simp only [packV,frz,frzL];rfl) rfl (by simp only [V.lt,V.ltL,ltL_u];rfl) (by simp only [V.ren,V.renL,renL_u])
 | succ k=>
  have e1:((k+1:Nat):Int)-1=(k:Int):=by omega
  rw [e1]
  refine AX.sR (rgA [0,1,6,7,8,16]) ?_
  refine AX.condT ?_
  refine AX.skip ?_
  refine nmZ ?_
  refine AX.seq ?_
  refine AX.block ?_
  have hx:=Dg_getD hd k
  have hst:=val_drop_step l k (by omega)
  generalize hxx:l.getD k 0=x at *
  apply AX.sreg [0,1,6,7,8] (by simp only [pq];rfl)
  ·repeat (first
  |(apply RunO.op rfl;· rfl
    ·rfl
    iterate 2 (· (simp (disch:=omega) only [go_sem,i64_of,u32_of,u64_of,Nat.reduceLT,Nat.reduceLeDiff,Nat.reduceEqDiff,Nat.reduceAdd,Nat.reduceSub,Nat.reduceMul,Nat.reducePow,Nat.reduceBEq,Int.reduceLE,Int.reduceLT,Int.reduceToNat,Int.reduceEq,Int.reduceNeg,↓reduceIte,reduceCtorEq,shl32,ori' hx (show R<4294967296 by omega),hxx];rfl))
    ·(simp only [pb,Nat.reduceLT,Nat.reduceAdd,reduceIte];rfl))
  |(apply RunO.skip;· rfl
    ·(simp only [pb,Nat.reduceLT,Nat.reduceAdd,reduceIte];rfl)))
   exact RunO.nil
  ·repeat (first | exact Keep.nil | (apply Keep.take;· rfl) | (apply Keep.drop;· rfl))
  have hq:=short_lt hR hx
  generalize hs:R*4294967296+x=s at *
  have hm:=Nat.mod_lt s h0
  have e2:Int.tdiv (s:Int) (d:Int)=((s / d:Nat):Int):=rfl
  have e3:Int.tmod (s:Int) (d:Int)=((s % d:Nat):Int):=rfl
  generalize hqq:s / d=q at *
  generalize hmm:s % d=R' at *
  refine AX.sR (rgW [0,1,6,7,8] (aI @e2 oT) oT) ?_
  refine AX.rR (rgW [0,1,6,7,8] (aI @e3 oT) oT) ?_
  refine nmZ ?_
  refine AX.rR (rgA [0,1,6,7,8]) ?_
  refine nmZ ?_
  refine ⟨k,_,id,by omega,
   leA
   , ⟨k,R',r.set k q,rfl,by omega,by simp [hr],Dg_set hdr hq,hm,?_,rfl⟩⟩
  rw [hst,drop_set_self r k _ (by omega),val]
  exact short_step hval hs hqq.symm hmm.symm
def smallN (n:Nat):Nat:=if n<18446744073709551616 then n else 0
abbrev smallV (n:Nat):V:=.tup [.i .u64 (smallN n),.b (decide (n<18446744073709551616))]
theorem Lift.Done.sm {P:Program} {st:St} {t t':Tmp} {n:Nat} (h1:lkp st.fr t=some (.i .u64 (smallN n)))(h2:lkp st.fr t'=some (.b (decide (n<18446744073709551616)))):Done P #[.tmp t,.tmp t'] (smallV n) [] st:=
 Done.of (vs:=[.i .u64 (smallN n),.b (decide (n<18446744073709551616))]) (by simp [resVs,resV,h1,h2]) (by simp only [packV,frz,frzL];rfl) rfl rfl rfl
theorem digits_val0 (m:Nat)(h:(digits m).length=0):m=0:=digits_len_zero.1 h
theorem digits_val1 (m:Nat)(h:(digits m).length=1):m=(digits m).getD 0 0:=by
 have:=val_digits m
 obtain ⟨x,hx⟩:=List.length_eq_one_iff.1 h
 rw [hx] at this ⊢
 simpa [val] using this.symm
theorem digits_val2 (m:Nat)(h:(digits m).length=2):m=(digits m).getD 0 0+(digits m).getD 1 0*4294967296:=by
 have:=val_digits m
 match hx:digits m,h with
 | [x,y],_=>
  rw [hx] at this
  simp [val] at this ⊢
  omega
theorem digits_big (m:Nat)(h:3≤(digits m).length):18446744073709551616≤m:=by
 have h0:m≠0:=by rintro rfl;rw [digits_zero] at h;simp at h
 have:=pow_le_digits h0
 have h2:4294967296 ^ 2≤4294967296 ^ ((digits m).length-1):=Nat.pow_le_pow_right (by omega) (by omega)
 omega
theorem small_ok (a:List Nat)(ha:Dg a)(hl:a.length<2 ^ 40):PCall Tryz.prog 147 [dg a] (smallV (val a)) []:=by
 refine PCall.of_ax Tryz.call147 Tryz.func147 rfl (by simp [Tryz.ntmps147]) fun O w=>?_
 simp only [Tryz.ntmps147,Tryz.results147,argFr]
 have c1:=ntrim_ok a ha hl
 have hm:=digits_length_val ha
 generalize val a=m at *
 have hdm:=Dg_digits m
 have hx:=Dg_getD hdm 0
 have hy:=Dg_getD hdm 1
 refine AX.sR (rgAV [0,2,3]) ?_
 refine AX.sR (rgCV [0,2,3] (aI c1 oT)) ?_
 refine AX.seq ?_
 refine AX.sR (rgAV [0,7]) ?_
 refine AX.block ?_
 by_cases h0:(digits m).length=0
 ·refine AX.sR (rgAV [0,7,8]) ?_
  refine AX.condT ?_
  refine AX.sR (rgAV [2,3]) ?_
  refine AX.ret ⟨.inl rfl,?_⟩
  have e:=digits_val0 m h0
  have e1:smallN m=0:=by subst e;rfl
  have e2:decide (m<18446744073709551616)=true:=by subst e;rfl
  exact Done.sm (by rw [e1];rfl) (by rw [e2];rfl)
 refine AX.sR (rgAV [0,7,8]) ?_
 refine AX.condF ?_
 by_cases h1:(digits m).length=1
 ·refine AX.sR (rgAV [0,7,10]) ?_
  refine AX.condT ?_
  refine AX.sR (rgAV [2,3]) ?_
  refine AX.ret ⟨.inl rfl,?_⟩
  have e:=digits_val1 m h1
  have e1:smallN m=(digits m).getD 0 0:=by unfold smallN;rw [if_pos (by omega)];exact e
  have e2:decide (m<18446744073709551616)=true:=decide_eq_true (by omega)
  exact Done.sm (by rw [e1];rfl) (by rw [e2];rfl)
 refine AX.sR (rgAV [0,7,10]) ?_
 refine AX.condF ?_
 by_cases h2:(digits m).length=2
 ·refine AX.sR (rgAV [0,7,16]) ?_
  refine AX.condT ?_
  have e:=digits_val2 m h2
  have e2:decide (m<18446744073709551616)=true:=decide_eq_true (by omega)
  have e1:smallN m=m:=by unfold smallN;rw [if_pos (by omega)]
  generalize hxx:(digits m).getD 0 0=x at *
  generalize hyy:(digits m).getD 1 0=y at *
  apply AX.sdreg [2,3] (by kernel_rfl) (by simp only [pq];rfl)
  ·repeat (first
  |(apply RunD.op rfl;· rfl
    ·(simp only [opsOf,valsOf,valOf,lkp,ofConst,ofCell,Array.toList,Option.toList,List.map_cons,List.map_nil,List.cons_append,List.nil_append,List.append_nil,Nat.reduceEqDiff,Nat.reducePow,Nat.reduceLT,Nat.reduceLeDiff,reduceIte,if_true,if_false,IntKind.min,IntKind.max,IntKind.bits,IntKind.signed,Int.reduceLE,Int.reduceNeg,Int.reducePow,Int.reduceSub,and_self,Bool.false_eq_true,Nat.reduceSub];rfl)
    iterate 2 (· (simp (disch:=omega) only [go_sem,i64_of,u32_of,u64_of,Nat.reduceLT,Nat.reduceLeDiff,Nat.reduceEqDiff,Nat.reduceAdd,Nat.reduceSub,Nat.reduceMul,Nat.reducePow,Nat.reduceBEq,Int.reduceLE,Int.reduceLT,Int.reduceToNat,Int.reduceEq,Int.reduceNeg,↓reduceIte,reduceCtorEq,hxx,hyy,shl32,ori hx hy,ori' hx hy];rfl))
    ·(simp only [pb,Nat.reduceLT,Nat.reduceAdd,reduceIte];rfl)
    ·rfl)
  |(apply RunD.skip;· rfl
    ·(simp only [pb,Nat.reduceLT,Nat.reduceAdd,reduceIte];rfl)
    ·rfl))
   exact RunD.nil
  ·repeat (first | exact Keep.nil | (apply Keep.take;· rfl) | (apply Keep.drop;· rfl))
  ·kernel_rfl
  refine AX.ret ⟨.inl rfl,?_⟩
  refine Done.sm ?_ (by rw [e2];rfl)
  rw [e1]
  first
   | (rw [e];rfl)
   | ((conv=>rhs;rw [e,Nat.add_comm]);rfl)
 refine AX.sR (rgAV [0,7,16]) ?_
 refine AX.condF ?_
 refine AX.skip ?_
 refine nmZ ?_
 refine AX.sR (rgAV [2,3]) ?_
 refine AX.ret ⟨.inl rfl,?_⟩
 have e:=digits_big m (by omega)
 have e1:smallN m=0:=by unfold smallN;rw [if_neg (by omega)]
 have e2:decide (m<18446744073709551616)=false:=decide_eq_false (by omega)
 exact Done.sm (by rw [e1];rfl) (by rw [e2];rfl)
theorem lead_ok (x:Nat)(hx:x<4294967296):PCall Tryz.prog 151 [.i .u32 x] (.i .i64 (32-blen x:Nat)) []:=by
 refine PCall.of_ax Tryz.call151 Tryz.func151 rfl (by simp [Tryz.ntmps151]) fun O w=>?_
 simp only [Tryz.ntmps151,Tryz.results151,argFr]
 have c1:=len32_ok x hx
 have hb:=blen_le (n:=x) (k:=32) (by omega)
 have e:(32:Int)-(blen x:Int)=((32-blen x:Nat):Int):=by omega
 refine AX.sR (rgAV [0]) ?_
 refine AX.sR (rgWV [2] (aI @e oT) (aI c1 oT)) ?_
 refine AX.ret ⟨.inl rfl,?_⟩
 exact Done.one rfl (by simp only [frz];rfl) rfl rfl
attribute [go_sem] List.getD_cons_zero List.getD_cons_succ
theorem gcd_step (x y:Nat):Nat.gcd y (x % y)=Nat.gcd x y:=by
 rw [Nat.gcd_comm y,← Nat.gcd_rec,Nat.gcd_comm]
theorem digits_len_add (m n:Nat):(digits (m+n)).length≤(digits m).length+(digits n).length+1:=by
 apply digits_length_le
 have h1:=lt_pow_digits m
 have h2:=lt_pow_digits n
 have h3:4294967296 ^ (digits m).length≤4294967296 ^ ((digits m).length+(digits n).length):=Nat.pow_le_pow_right (by omega) (by omega)
 have h4:4294967296 ^ (digits n).length≤4294967296 ^ ((digits m).length+(digits n).length):=Nat.pow_le_pow_right (by omega) (by omega)
 rw [Nat.pow_succ]
 omega
theorem digits_len_mul (m n:Nat):(digits (m*n)).length≤(digits m).length+(digits n).length:=by
 apply digits_length_le
 rw [Nat.pow_add]
 by_cases hn:n=0
 ·subst hn
  rw [Nat.mul_zero]
  exact Nat.mul_pos (Nat.pow_pos (by omega)) (Nat.pow_pos (by omega))
 ·exact Nat.mul_lt_mul_of_lt_of_le (lt_pow_digits m) (Nat.le_of_lt (lt_pow_digits n)) (Nat.pow_pos (by omega))
theorem mul_n (m n:Nat)(hm:(digits m).length<2 ^ 38)(hn:(digits n).length<2 ^ 38):PCall Tryz.prog 85 [nv m,nv n] (nv (m*n)) []:=by
 have:=mul_ok (digits m) (digits n) (Dg_digits _) (Dg_digits _) hm hn
 rwa [val_digits,val_digits] at this
theorem getD_digits (k:Nat):∀ n:Nat,(digits n).getD k 0=n / 4294967296 ^ k % 4294967296:=by
 induction k with
 | zero=>
  intro n
  by_cases h:n=0
  ·subst h;rw [digits_zero];rfl
  ·rw [digits_pos h];simp
 | succ k ih=>
  intro n
  by_cases h:n=0
  ·subst h;rw [digits_zero];simp
  ·rw [digits_pos h,List.getD_cons_succ,ih,Nat.div_div_eq_div_mul,Nat.pow_succ,Nat.mul_comm (4294967296 ^ k)]
theorem top_one {b n:Nat} (h:b<4294967296 ^ (n+1)):(digits b).getD n 0=b / 4294967296 ^ n:=by
 rw [getD_digits,Nat.mod_eq_of_lt]
 rw [Nat.div_lt_iff_lt_mul (Nat.pow_pos (by omega)),Nat.mul_comm,← Nat.pow_succ]
 exact h
def remN (m n:Nat):Nat:=if n=0 then 0 else m % n
def divE (n:Nat):Int:=if n=0 then 31 else 0
abbrev divV (m n:Nat):V:=.tup [nv (m / n),nv (remN m n),.i .i64 (divE n)]
theorem Lift.Done.div {P:Program} {st:St} {t t' t'':Tmp} {q r:Nat} {e:Int} (h1:lkp st.fr t=some (nv q))(h2:lkp st.fr t'=some (nv r))(h3:lkp st.fr t''=some (.i .i64 e)):Done P #[.tmp t,.tmp t',.tmp t''] (.tup [nv q,nv r,.i .i64 e]) [] st:=
 Done.of (vs:=[nv q,nv r,.i .i64 e]) (by simp [resVs,resV,h1,h2,h3]) (by simp only [packV,frz,frzL];rfl) rfl (by simp only [V.lt,V.ltL,ltL_u];rfl) (by simp only [V.ren,V.renL,renL_u])
theorem Lift.Done.div_nil {P:Program} {st:St} {t t' t'':Tmp} {r:Nat} {e:Int} (h1:lkp st.fr t=some .nl)(h2:lkp st.fr t'=some (nv r))(h3:lkp st.fr t''=some (.i .i64 e)):Done P #[.tmp t,.tmp t',.tmp t''] (.tup [nv 0,nv r,.i .i64 e]) [] st:=
 Done.of (vs:=[.nl,nv r,.i .i64 e]) (by simp [resVs,resV,h1,h2,h3]) (by simp only [packV,frz,frzL];rfl) (by show V.tup [V.sl [],_,_]=V.tup [V.sl ((digits 0).map u),_,_];rw [digits_zero];rfl) (by simp only [V.lt,V.ltL,ltL_u];rfl) (by simp only [V.ren,V.renL,renL_u])
theorem Lift.Done.div_nil2 {P:Program} {st:St} {t t' t'':Tmp} {e:Int} (h1:lkp st.fr t=some .nl)(h2:lkp st.fr t'=some .nl)(h3:lkp st.fr t''=some (.i .i64 e)):Done P #[.tmp t,.tmp t',.tmp t''] (.tup [nv 0,nv 0,.i .i64 e]) [] st:=
 Done.of (vs:=[.nl,.nl,.i .i64 e]) (by simp [resVs,resV,h1,h2,h3]) (by simp only [packV,frz,frzL];rfl) (by show V.tup [V.sl [],V.sl [],_]=V.tup [V.sl ((digits 0).map u),V.sl ((digits 0).map u),_];rw [digits_zero];rfl) (by simp only [V.lt,V.ltL,ltL_u];rfl) (by simp only [V.ren,V.renL,renL_u])
end Go.Proofs.YteidabibgjokkaaGreatDoor
