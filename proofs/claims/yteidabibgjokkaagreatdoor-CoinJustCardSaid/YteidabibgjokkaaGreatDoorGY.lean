import Derived.Test.YteidabibgjokkaaGreatDoorGX
import Derived.Test.YteidabibgjokkaaGreatDoorGJ
set_option maxRecDepth 20000
set_option linter.all false
namespace Go.Proofs.YteidabibgjokkaaGreatDoor
open Go Go.Proofs.YteidabibgjokkaaGreatDoor.Lift
attribute [local irreducible] Lift.PCall Lift.HCall
def gFirst (a:List Nat) (j:Nat):Nat:=a.getD (j+1) 0*4294967296+a.getD j 0
def gHi (f l:Nat):Nat:=if f / l<4294967295 then f / l else 4294967295
def gLo0 (f l:Nat):Nat:=if l+1<4294967296∧f / (l+1)<4294967296 then f / (l+1) else 0
def gLo (f l:Nat):Nat:=if gHi f l<gLo0 f l then gHi f l else gLo0 f l
theorem guess_ok (a b:List Nat) (i:Nat) (ha:Dg a) (hb:Dg b) (hla:a.length<2 ^ 38) (hlb:b.length<2 ^ 38) (hi:i<2 ^ 38) (hb0:0<b.length) (hl0:0<b.getD (b.length-1) 0) :
  PCall Tryz.prog 119 [dg a,dg b,.i .i64 i] (.tup [.i .u64 (gLo (gFirst a (i+b.length-1)) (b.getD (b.length-1) 0)),.i .u64 (gHi (gFirst a (i+b.length-1)) (b.getD (b.length-1) 0))]) []:=by
 refine PCall.of_ax Tryz.call119 Tryz.func119 rfl (by simp [Tryz.ntmps119]) fun O w=>?_
 simp only [Tryz.ntmps119,Tryz.results119,argFr]
 have k1:=at_ok a (i+b.length) ha (by omega)
 have k2:=at_ok a (i+b.length-1) ha (by omega)
 have e1:((i+b.length:Nat):Int)-1=((i+b.length-1:Nat):Int):=by omega
 have e2:((b.length:Nat):Int)-1=((b.length-1:Nat):Int):=by omega
 have hx:=Dg_getD ha (i+b.length)
 have hy:=Dg_getD ha (i+b.length-1)
 have hz:=Dg_getD hb (b.length-1)
 have hf:gFirst a (i+b.length-1)=a.getD (i+b.length) 0*4294967296+a.getD (i+b.length-1) 0:=by
  unfold gFirst
  rw [show i+b.length-1+1=i+b.length by omega]
 rw [hf]
 clear hf
 generalize hxx:a.getD (i+b.length) 0=x at *
 generalize hyy:a.getD (i+b.length-1) 0=y at *
 generalize hll:b.getD (b.length-1) 0=l at *
 refine AX.sR (rgA [0,1,2]) ?_
 refine AX.sR (rgA [0,1,2,8]) ?_
 apply AX.sdreg [9,10] (by kernel_rfl) (by simp only [pq];rfl)
 ·repeat (first
 |(apply RunD.op rfl;· rfl
   ·rfl
   iterate 2 (· (simp (disch:=omega) only [go_sem,i64_of,u32_of,u64_of,Nat.reduceLT,Nat.reduceLeDiff,Nat.reduceEqDiff,Nat.reduceAdd,Nat.reduceSub,Nat.reduceMul,Nat.reducePow,Nat.reduceBEq,Int.reduceLE,Int.reduceLT,Int.reduceToNat,Int.reduceEq,Int.reduceNeg,↓reduceIte,reduceCtorEq,← Int.natCast_add,e1,e2,hll,shl32,ori' hy hx];rfl))
   ·(simp only [pb,Nat.reduceLT,Nat.reduceAdd,reduceIte];rfl)
   ·rfl)
 |(apply RunD.call rfl;· rfl
   ·rfl
   ·first | rfl | (simp only [List.cons_append,List.nil_append,V.hfL,V.hf,Bool.true_and];assumption)
   ·(first | (simp only [cnlL,cnl,List.append_nil,List.cons_append,List.nil_append];first | exact k1 | exact k2) | (first | exact k1 | exact k2))
   ·rfl
   ·(simp only [pb,Nat.reduceLT,Nat.reduceAdd,reduceIte];rfl)
   ·rfl)
 |(apply RunD.skip;· rfl
   ·(simp only [pb,Nat.reduceLT,Nat.reduceAdd,reduceIte];rfl)
   ·rfl))
  exact RunD.nil
 ·repeat (first | exact Keep.nil | (apply Keep.take;· rfl) | (apply Keep.drop;· rfl))
 ·kernel_rfl
 generalize hff:x*4294967296+y=f at *
 refine AX.sR (rgA [9,10,11,12]) ?_
 have e3:Int.tdiv (f:Int) (l:Int)=((f / l:Nat):Int):=rfl
 have e4:Int.tdiv (f:Int) ((l+1:Nat):Int)=((f / (l+1):Nat):Int):=rfl
 have hq1:=Nat.div_le_self f l
 have hq2:=Nat.div_le_self f (l+1)
 unfold gLo gHi gLo0
 generalize f / l=q at *
 generalize f / (l+1)=q' at *
 refine AX.cut (fun st=>Le 0 id ⟨[(12,.i .u64 (if q<4294967295 then q else 4294967295:Nat)),(11,.i .u64 0),(10,.i .u64 l),(9,.i .u64 f)],[],0⟩ st) ?_ ?_
 ·by_cases h:q<4294967295
  ·rw [if_pos h]
   refine AX.sR (rgW [9,10,11,38] (aI @e3 oT) oT) ?_
   refine AX.condT ?_
   refine AX.rR (rgW [9,10,11,12] (aI @e3 oT) oT) ?_
   refine ⟨rfl,
    leA
    ⟩
  ·rw [if_neg h]
   refine AX.sR (rgW [9,10,11,12,38] (aI @e3 oT) oT) ?_
   refine AX.condF ?_
   refine AX.skip ?_
   refine ⟨rfl,
    leA
    ⟩
 rintro st hle
 refine AX.weaken id hle ?_
 clear hle st
 generalize hhi:(if q<4294967295 then q else 4294967295)=hi' at *
 refine AX.cut (fun st=>Le 0 id ⟨[(12,.i .u64 hi'),(11,.i .u64 (if l+1<4294967296∧q' < 4294967296 then q' else 0:Nat))],[],0⟩ st) ?_ ?_
 ·by_cases h:l+1<4294967296
  ·by_cases h2:q' < 4294967296
   ·rw [if_pos ⟨h,h2⟩]
    refine AX.sR (rgW [9,10,11,12,51] (aI @lit_add (aI @e4 oT)) oT) ?_
    refine AX.condT ?_
    refine AX.rR (rgW [11,12] (aI @lit_add (aI @e4 oT)) oT) ?_
    refine ⟨rfl,
     leA
     ⟩
   ·rw [if_neg (fun e=>h2 e.2)]
    refine AX.sR (rgW [9,10,11,12,51] (aI @lit_add (aI @e4 oT)) oT) ?_
    refine AX.condF ?_
    refine AX.skip ?_
    refine ⟨rfl,
     leA
     ⟩
  ·rw [if_neg (fun e=>h e.1)]
   refine AX.sR (rgW [9,10,11,12,51] (aI @lit_add (aI @e4 oT)) oT) ?_
   refine AX.condF ?_
   refine AX.skip ?_
   refine ⟨rfl,
    leA
    ⟩
 rintro st hle
 refine AX.weaken id hle ?_
 clear hle st
 generalize hlo:(if l+1<4294967296∧q' < 4294967296 then q' else 0)=lo' at *
 refine AX.cut (fun st=>Le 0 id ⟨[(12,.i .u64 hi'),(11,.i .u64 (if hi' < lo' then hi' else lo':Nat))],[],0⟩ st) ?_ ?_
 ·by_cases h:hi' < lo'
  ·rw [if_pos h]
   refine AX.sR (rgA [11,12,58]) ?_
   refine AX.condT ?_
   refine AX.rR (rgA [11,12]) ?_
   refine ⟨rfl,
    leA
    ⟩
  ·rw [if_neg h]
   refine AX.sR (rgA [11,12,58]) ?_
   refine AX.condF ?_
   refine AX.skip ?_
   refine ⟨rfl,
    leA
    ⟩
 rintro st hle
 refine AX.weaken id hle ?_
 clear hle st
 refine AX.sR (rgA [6,7]) ?_
 refine AX.ret ⟨.inl rfl,?_⟩
 exact Done.of (vs:=[.i .u64 (if hi' < lo' then hi' else lo':Nat),.i .u64 hi']) rfl (by simp only [packV,frz,frzL];rfl) rfl rfl rfl
theorem top_two {R j:Nat} (h:R<4294967296 ^ (j+2)):gFirst (digits R) j=R / 4294967296 ^ j:=by
 unfold gFirst
 rw [getD_digits,getD_digits]
 have h1:R / 4294967296 ^ (j+1)<4294967296:=by
  rw [Nat.div_lt_iff_lt_mul (Nat.pow_pos (by omega)),Nat.mul_comm,← Nat.pow_succ]
  exact h
 have h2:R / 4294967296 ^ (j+1)=R / 4294967296 ^ j / 4294967296:=by rw [Nat.div_div_eq_div_mul,Nat.pow_succ]
 rw [Nat.mod_eq_of_lt h1,h2]
 omega
theorem guess_sound {R b W I f l q:Nat} (hW:0<W)(hI:0<I)(hb:0<b)(hf:f=R / (W*I))(hl:l=b / W)(hl0:0<l)(hq:q=R / (b*I))(hq1:q<4294967296):gLo f l≤q∧q≤gHi f l:=by
 have hbI:0<b*I:=Nat.mul_pos hb hI
 have hWI:0<W*I:=Nat.mul_pos hW hI
 have h1:l*W≤b:=by rw [hl];exact Nat.div_mul_le_self b W
 have h2:b<(l+1)*W:=by rw [hl];have:=Nat.lt_div_mul_add (a:=b) hW;rw [Nat.add_mul,Nat.one_mul];exact this
 have h3:q*(b*I)≤R:=by rw [hq];exact Nat.div_mul_le_self R _
 have h4:f*(W*I)≤R:=by rw [hf];exact Nat.div_mul_le_self R _
 have hi:q≤f / l:=by
  rw [Nat.le_div_iff_mul_le hl0,hf,Nat.le_div_iff_mul_le hWI]
  have:q*l*(W*I)≤q*(b*I):=by
   have h5:q*(l*W*I)≤q*(b*I):=Nat.mul_le_mul_left _ (Nat.mul_le_mul_right _ h1)
   have e:q*l*(W*I)=q*(l*W*I):=by simp [Nat.mul_assoc]
   omega
  omega
 have lo:f / (l+1)≤q:=by
  rw [hq,Nat.le_div_iff_mul_le hbI]
  have h5:f / (l+1)*(l+1)≤f:=Nat.div_mul_le_self _ _
  generalize f / (l+1)=t at *
  have h6:t*(b*I)≤t*((l+1)*W*I):=Nat.mul_le_mul_left _ (Nat.mul_le_mul_right _ (Nat.le_of_lt h2))
  have e:t*((l+1)*W*I)=t*(l+1)*(W*I):=by simp [Nat.mul_assoc]
  have h7:t*(l+1)*(W*I)≤f*(W*I):=Nat.mul_le_mul_right _ h5
  omega
 have hh:q≤gHi f l:=by
  unfold gHi
  split<;>omega
 refine ⟨?_,hh⟩
 have hl1:gLo0 f l≤q:=by
  unfold gLo0
  split<;>omega
 unfold gLo
 split<;>omega
theorem rdiv_ok (a b:List Nat)(ha:Dg a)(hb:Dg b)(hla:a.length<2 ^ 36)(hlb:b.length<2 ^ 36):PCall Tryz.prog 69 [dg a,dg b] (divV (val a) (val b)) []:=by
 refine PCall.of_ax Tryz.call69 Tryz.func69 rfl (by simp [Tryz.ntmps69]) fun O w=>?_
 simp only [Tryz.ntmps69,Tryz.results69,argFr]
 have c1:=rntrim_ok a ha (by omega)
 have c2:=rntrim_ok b hb (by omega)
 have hma:=digits_length_val ha
 have hmb:=digits_length_val hb
 generalize val a=m at *
 generalize val b=n at *
 refine AX.sR (rgAV [0,1]) ?_
 refine AX.sR (rgCV [0,1] (aI c1 (aI c2 oT))) ?_
 refine AX.seq ?_
 by_cases h0:(digits n).length=0
 ·refine AX.sR (rgAV [0,1,20]) ?_
  refine AX.condT ?_
  refine AX.sR (rgAV [4,5,6]) ?_
  refine AX.ret ⟨.inl rfl,?_⟩
  have hn0:=digits_len_zero.1 h0
  subst hn0
  show Done _ _ (.tup [nv (m / 0),nv (remN m 0),.i .i64 (divE 0)]) _ _
  rw [Nat.div_zero,show remN m 0=0 from rfl,show divE 0=31 from rfl]
  exact Done.div_nil2 rfl rfl rfl
 have hn0:0<n:=Nat.pos_of_ne_zero fun e=>h0 (digits_len_zero.2 e)
 have hr0:remN m n=m % n:=if_neg (by omega)
 have he0:divE n=0:=if_neg (by omega)
 unfold divV
 rw [hr0,he0]
 clear hr0 he0
 refine AX.sR (rgAV [0,1,20]) ?_
 refine AX.condF ?_
 refine AX.skip ?_
 refine nmZ ?_
 refine AX.seq ?_
 by_cases h1:(digits n).length=1
 ·have e1:=digits_val1 n h1
  have hd:=Dg_getD (Dg_digits n) 0
  have k1:=rshort_ok (digits m) n (Dg_digits _) (by omega) hn0 (by omega)
  rw [val_digits] at k1
  have k2:=rof_ok (m % n) (Nat.lt_of_lt_of_le (Nat.mod_lt m hn0) (by omega))
  refine AX.sR (rgAV [0,1,23]) ?_
  refine AX.condT ?_
  refine AX.sR (rgWV [7,8] (aI e1.symm oT) (aI k1 oT)) ?_
  refine AX.sR (rgCV [4,5,6] (aI k2 oT)) ?_
  refine AX.ret ⟨.inl rfl,?_⟩
  exact Done.div rfl rfl rfl
 refine AX.sR (rgAV [0,1,23]) ?_
 refine AX.condF ?_
 refine AX.skip ?_
 refine nmZ ?_
 refine AX.seq ?_
 by_cases h2:(digits m).length<(digits n).length
 ·have hlt:=digits_len_lt h2
  refine AX.sR (rgAV [0,1,40]) ?_
  refine AX.condT ?_
  refine AX.sR (rgAV [4,5,6]) ?_
  refine AX.ret ⟨.inl rfl,?_⟩
  rw [Nat.div_eq_of_lt hlt,Nat.mod_eq_of_lt hlt]
  exact Done.div_nil rfl rfl rfl
 refine AX.sR (rgAV [0,1,40]) ?_
 refine AX.condF ?_
 refine AX.skip ?_
 refine nmZ ?_
 generalize hL:(digits n).length=L at *
 generalize hK:(digits m).length=K at *
 have eK:((K:Nat):Int)-((L:Nat):Int)=((K-L:Nat):Int):=by omega
 have hnL:=lt_pow_digits n
 have hmK:=lt_pow_digits m
 rw [hL] at hnL
 rw [hK] at hmK
 have hnl:=pow_le_digits (show n≠0 by omega)
 rw [hL] at hnl
 have hlead:=Dg_getD (Dg_digits n) (L-1)
 have hlead0:=digits_canon n (by intro e;rw [e] at hL;simp at hL;omega)
 rw [hL] at hlead0
 have hlead1:(digits n).getD (L-1) 0=n / 4294967296 ^ (L-1):=top_one (by rw [show L-1+1=L by omega];exact hnL)
 refine AX.sR (rgWV [0,1,9] (aI @hK oT) oT) ?_
 refine AX.seq ?_
 refine AX.sR (rgWV [0,1,9,10] (aI @hK (aI @hL (aI @eK oT))) oT) ?_
 refine AX.block ?_
 refine AX.loop (fun N st=>∃ (R:Nat) (j:Int) (q:List Nat),j=(N:Int)-1∧N≤K-L+1∧q.length=K∧Dg q∧(∀ j,j<N→q.getD j 0=0)∧n*val q+R=m∧R<n*4294967296 ^ N ∧
  st=⟨[(10,.i .i64 j),(9,.own 0 0 K 1),(1,nv n),(0,nv R)],[(0,⟨142,q.map u⟩)],1⟩) (K-L+1) ⟨m,((K-L:Nat):Int),List.replicate K 0,by omega,Nat.le_refl _,by simp,Dg_replicate _,fun j _=>by simp [List.getD_eq_getElem?_getD,List.getElem?_replicate];split<;>rfl,by simp [val_replicate],?_,rfl⟩ ?_
 ·have h3:4294967296 ^ (L-1)*4294967296 ^ (K-L+1)≤n*4294967296 ^ (K-L+1):=Nat.mul_le_mul_right _ hnl
  rw [← Nat.pow_add,show L-1+(K-L+1)=K by omega] at h3
  omega
 rintro N st ⟨R,j,q,rfl,hN,hq,hdq,hz,hval,hR,rfl⟩
 refine AX.seq ?_
 cases N with
 | zero=>
  refine AX.sR (rgAV [0,1,9,10,51]) ?_
  refine AX.condF ?_
  refine AX.exit ?_
  refine nmZ ?_
  rw [Nat.pow_zero,Nat.mul_one] at hR
  obtain ⟨e1,e2⟩:=divmod_unique hval.symm hR
  have c3:=rntrim_ok q hdq (by omega)
  rw [e1] at c3
  have ht:List.take K q=q:=List.take_of_length_le (by omega)
  refine AX.sR (rgWV [4,5,6] (aI @ht oT) (aI c3 oT)) ?_
  refine AX.ret ⟨.inl rfl,?_⟩
  rw [← e2]
  exact Done.div rfl rfl rfl
 | succ k=>
  have e1:((k+1:Nat):Int)-1=(k:Int):=by omega
  rw [e1]
  have hRm:R≤m:=by omega
  have lR:=digits_len_mono hRm
  rw [hK] at lR
  have hD:0<n*4294967296 ^ k:=Nat.mul_pos hn0 (Nat.pow_pos (by omega))
  have hQ:R / (n*4294967296 ^ k)<4294967296:=by
   rw [Nat.div_lt_iff_lt_mul hD,Nat.mul_comm,Nat.mul_assoc,← Nat.pow_succ]
   exact hR
  have hgf:gFirst (digits R) (k+L-1)=R / (4294967296 ^ (L-1)*4294967296 ^ k):=by
   rw [top_two,← Nat.pow_add,show L-1+k=k+L-1 by omega]
   have h3:n*4294967296 ^ (k+1)≤4294967296 ^ L*4294967296 ^ (k+1):=Nat.mul_le_mul_right _ (Nat.le_of_lt hnL)
   rw [← Nat.pow_add,show L+(k+1)=k+L-1+2 by omega] at h3
   omega
  obtain ⟨hlo,hhi⟩:=guess_sound (R:=R) (b:=n) (W:=4294967296 ^ (L-1)) (I:=4294967296 ^ k) (Nat.pow_pos (by omega)) (Nat.pow_pos (by omega)) hn0 hgf hlead1 (by omega) rfl hQ
  have kg:=guess_ok (digits R) (digits n) k (Dg_digits _) (Dg_digits _) (by omega) (by omega) (by omega) (by omega) (by rw [hL];omega)
  rw [hL] at kg
  have hhB:gHi (gFirst (digits R) (k+L-1)) ((digits n).getD (L-1) 0)<4294967296:=by
   unfold gHi
   split<;>omega
  generalize gLo (gFirst (digits R) (k+L-1)) ((digits n).getD (L-1) 0)=lo at *
  generalize gHi (gFirst (digits R) (k+L-1)) ((digits n).getD (L-1) 0)=hi at *
  clear hgf
  have hQle:=Nat.div_mul_le_self R (n*4294967296 ^ k)
  have hQlt:=Nat.lt_div_mul_add (a:=R) hD
  have hcmpQ:∀ d,4294967296 ^ k*(d*n)≤R↔d≤R / (n*4294967296 ^ k):=by
   intro d
   rw [Nat.le_div_iff_mul_le hD]
   rw [show 4294967296 ^ k*(d*n)=d*(n*4294967296 ^ k) by rw [Nat.mul_comm,Nat.mul_assoc]]
  generalize hQQ:R / (n*4294967296 ^ k)=Q at *
  refine AX.sR (rgAV [0,1,9,10,51]) ?_
  refine AX.condT ?_
  refine AX.keepA [0,1,9,10] ?_
  refine AX.skip ?_
  refine nmZ ?_
  refine AX.seq ?_
  refine AX.block ?_
  refine AX.sR (rgCV [0,1,9,10,11,12] (aI kg oT)) ?_
  refine AX.cut (fun st=>st=⟨[(12,.i .u64 Q),(11,.i .u64 Q),(10,.i .i64 k),(9,.own 0 0 K 1),(1,nv n),(0,nv R)],[(0,⟨142,q.map u⟩)],1⟩) ?_ ?_
  ·refine AX.block ?_
   refine AX.loop (fun N st=>∃ lo hi:Nat,N=hi-lo∧lo≤Q∧Q≤hi∧hi<4294967296∧st=⟨[(12,.i .u64 hi),(11,.i .u64 lo),(10,.i .i64 k),(9,.own 0 0 K 1),(1,nv n),(0,nv R)],[(0,⟨142,q.map u⟩)],1⟩) (hi-lo) ⟨lo,hi,rfl,hlo,hhi,hhB,rfl⟩ ?_
   clear hlo hhi hhB lo hi kg
   rintro N st ⟨lo,hi,rfl,hlo,hhi,hhB,rfl⟩
   refine AX.seq ?_
   by_cases h:lo<hi
   ·have e2:=sub_cast (Nat.le_of_lt h)
    refine AX.sR (rgAV [0,1,9,10,11,12,63]) ?_
    refine AX.condT ?_
    refine AX.keepA [0,1,9,10,11,12] ?_
    refine AX.skip ?_
    refine nmZ ?_
    refine AX.block ?_
    refine AX.sR (rgWV [0,1,9,10,11,12,13] (aI @e2 (aI @lit_add (aI @tdiv_two (aI @cAdd oT)))) oT) ?_
    generalize hmid:lo+(hi-lo+1) / 2=mid at *
    have kt:=times_ok (digits n) mid k (Dg_digits _) (by omega) (by omega) (by omega)
    rw [val_digits] at kt
    have lt:(digits (4294967296 ^ k*(mid*n))).length≤k+1+L:=by
     apply digits_length_le
     rw [show k+1+L=k+(1+L) by omega,Nat.pow_add]
     refine Nat.mul_lt_mul_of_pos_left ?_ (Nat.pow_pos (by omega))
     rw [Nat.pow_add,Nat.pow_one]
     exact Nat.mul_lt_mul_of_lt_of_le (by omega) (Nat.le_of_lt hnL) (by omega)
    have kc:=rcmp_n (4294967296 ^ k*(mid*n)) R (by omega) (by omega)
    have hcm:=hcmpQ mid
    by_cases h3:mid≤Q
    ·have hc:cmp (4294967296 ^ k*(mid*n)) R≤0:=by
      have:=hcm.2 h3
      unfold cmp
      split
      ·omega
      ·rw [if_pos (by omega)];omega
     generalize cmp (4294967296 ^ k*(mid*n)) R=z at *
     refine AX.sR (rgCV [0,1,9,10,11,12,13,77] (aI kt (aI kc oT))) ?_
     refine AX.condT ?_
     refine AX.keepA [0,1,9,10,11,12,13] ?_
     refine AX.rR (rgAV [0,1,9,10,11,12]) ?_
     refine nmZ ?_
     refine ⟨hi-mid,_,id,by omega,
      leA
      , ⟨mid,hi,rfl,h3,hhi,hhB,rfl⟩⟩
    ·have hc:¬ cmp (4294967296 ^ k*(mid*n)) R≤0:=by
      have:¬ 4294967296 ^ k*(mid*n)≤R:=fun e=>h3 (hcm.1 e)
      rw [cmp_gt (by omega)]
      omega
     have e4:((mid:Nat):Int)-1=((mid-1:Nat):Int):=by omega
     generalize cmp (4294967296 ^ k*(mid*n)) R=z at *
     refine AX.sR (rgCV [0,1,9,10,11,12,13,77] (aI kt (aI kc oT))) ?_
     refine AX.condF ?_
     refine AX.keepA [0,1,9,10,11,12,13] ?_
     refine AX.rR (rgWV [0,1,9,10,11,12] (aI @e4 oT) oT) ?_
     refine nmZ ?_
     refine ⟨mid-1-lo,_,id,by omega,
      leA
      , ⟨lo,mid-1,rfl,hlo,by omega,by omega,rfl⟩⟩
   ·refine AX.sR (rgAV [0,1,9,10,11,12,63]) ?_
    refine AX.condF ?_
    refine AX.keepA [0,1,9,10,11,12] ?_
    refine AX.exit ?_
    refine nmZ ?_
    have e2:lo=Q:=by omega
    have e3:hi=Q:=by omega
    rw [e2,e3]
    exact ⟨trivial,rfl⟩
  rintro st rfl
  have kt:=times_ok (digits n) Q k (Dg_digits _) (by omega) (by omega) (by omega)
  rw [val_digits] at kt
  have hTle:=(hcmpQ Q).2 (Nat.le_refl _)
  have lt:=digits_len_mono hTle
  have ks:=rsub_n R (4294967296 ^ k*(Q*n)) (by omega) (by omega)
  have hset:=val_set q k Q (by omega)
  rw [hz k (by omega),Nat.mul_zero,Nat.add_zero] at hset
  have hTe:4294967296 ^ k*(Q*n)=Q*(n*4294967296 ^ k):=by rw [Nat.mul_comm,Nat.mul_assoc]
  have hTn:n*(4294967296 ^ k*Q)=Q*(n*4294967296 ^ k):=by
   rw [← Nat.mul_assoc,Nat.mul_comm]
  refine AX.sR (rgAV [0,1,9,10,11]) ?_
  refine AX.rR (rgCV [0,1,9,10] (aI kt (aI ks oT))) ?_
  refine nmZ ?_
  refine AX.rR (rgAV [0,1,9,10]) ?_
  refine nmZ ?_
  refine ⟨k,_,id,by omega,
   leA
   , ⟨R-4294967296 ^ k*(Q*n),(k:Int)-1,q.set k Q,rfl,by omega,by simp [hq],Dg_set hdq hQ,?_,?_,?_,rfl⟩⟩
  ·intro j hj
   rw [List.getD_eq_getElem?_getD,List.getElem?_set_ne (by omega),← List.getD_eq_getElem?_getD]
   exact hz j (by omega)
  ·rw [hset,Nat.mul_add,hTn]
   omega
  ·omega
end Go.Proofs.YteidabibgjokkaaGreatDoor
