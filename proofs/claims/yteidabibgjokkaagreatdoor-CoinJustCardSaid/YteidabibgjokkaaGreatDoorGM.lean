import Derived.Test.YteidabibgjokkaaGreatDoorGK
import Derived.Test.YteidabibgjokkaaGreatDoorGL
set_option maxRecDepth 20000
set_option linter.all false
namespace Go.Proofs.YteidabibgjokkaaGreatDoor
open Go Go.Proofs.YteidabibgjokkaaGreatDoor.Lift
attribute [local irreducible] Lift.PCall Lift.HCall
theorem val_lt_top {l r:List Nat} {j:Nat} (hd:Dg l)(hl:j+1≤l.length)(h:l.drop (j+1)=r.drop (j+1))(hr:val (r.drop (j+1))=0):val l<4294967296 ^ j*4294967296:=by
 have h1:=val_take_drop l (j+1) hl
 have h2:=val_lt (Dg_take hd (j+1))
 rw [List.length_take,Nat.min_eq_left hl,Nat.pow_succ] at h2
 rw [h,hr,Nat.mul_zero,Nat.add_zero] at h1
 omega
theorem top_zero {r:List Nat} {k L v:Nat} (hkL:k+L+1≤r.length)(hv1:v<4294967296 ^ L)(hrv:val r<v*4294967296 ^ (k+1)):val (r.drop (k+L+1))=0:=by
 have h1:=val_take_drop r (k+L+1) hkL
 have h2:v*4294967296 ^ (k+1)<4294967296 ^ L*4294967296 ^ (k+1):=Nat.mul_lt_mul_of_pos_right hv1 (Nat.pow_pos (by omega))
 rw [← Nat.pow_add,show L+(k+1)=k+L+1 by omega] at h2
 apply Nat.eq_zero_of_not_pos
 intro h3
 have h4:4294967296 ^ (k+L+1)*1≤4294967296 ^ (k+L+1)*val (r.drop (k+L+1)):=Nat.mul_le_mul_left _ h3
 omega
theorem drop_more {t r:List Nat} {j z:Nat} (h:t.drop j=r.drop j):(t.set j z).drop (j+1)=r.drop (j+1):=by
 rw [drop_set_succ]
 have:=congrArg (List.drop 1) h
 rwa [List.drop_drop,List.drop_drop] at this
theorem top_math {R R2 T P W x y z b g v:Nat} (h:T+P*(g*v)=R+W*y)(hs:R2+W*x=T+W*z)(hz:z+y=x+b*4294967296):R2+P*(g*v)=R+W*4294967296*b:=by
 have e1:W*z+W*y=W*x+W*(b*4294967296):=by rw [← Nat.mul_add,hz,Nat.mul_add]
 have e2:W*(b*4294967296)=W*4294967296*b:=by rw [Nat.mul_assoc,Nat.mul_comm b]
 omega
theorem guess_le {R R2 P g v:Nat} (h:R2+P*(g*v)=R)(hv:0<v)(hP:0<P):g≤R / (v*P):=by
 rw [Nat.le_div_iff_mul_le (Nat.mul_pos hv hP),← Nat.mul_assoc,Nat.mul_comm (g*v)]
 omega
theorem guess_mul (R P v:Nat):P*(R / (v*P)*v)≤R:=by
 rw [Nat.mul_comm P,Nat.mul_assoc]
 exact Nat.div_mul_le_self _ _
theorem back_math {R R2 S S' P W x c e m Q0 v:Nat} (h:R2+P*((Q0+1)*v)=R+W*4294967296)(hb:S+W*c=R2+P*v)(hs:S'+W*x=S+W*m)(hm:x+c=4294967296*e+m)(hS:S' < W*4294967296)(hR:P*(Q0*v)≤R)(he:e≤1):S'+P*(Q0*v)=R:=by
 rw [Nat.add_mul,Nat.one_mul,Nat.mul_add] at h
 have e1:W*x+W*c=W*(4294967296*e)+W*m:=by rw [← Nat.mul_add,hm,Nat.mul_add]
 have e2:W*(4294967296*e)=W*4294967296*e:=by rw [Nat.mul_assoc]
 have h1:S'+W*4294967296*e+P*(Q0*v)=R+W*4294967296:=by omega
 have:e=0∨e=1:=by omega
 rcases this with rfl | rfl
 ·rw [Nat.mul_zero] at h1
  omega
 ·rw [Nat.mul_one] at h1
  omega
set_option maxHeartbeats 4000000 in
theorem digit_step {c:Code} (hc:partB 127 2=some c) {O M:Nat→Prop} {w0:World} {K L k s v:Nat} {r q:List Nat} (hL2:2≤L) (hK:K<2 ^ 37) (hk:k+L≤K) (hv1:v<4294967296 ^ L) (hv2:4294967296 ^ L≤2*v) (hvL:(digits v).length=L)
  (hr:r.length=K+1) (hdr:Dg r) (hq:q.length=K+1-L) (hdq:Dg q) (hrv:val r<v*4294967296 ^ (k+1)) {Q:Exit→St→Prop}
  (hQ:∀ (r':List Nat),r'.length=K+1→Dg r'→val r'+4294967296 ^ k*(val r / (v*4294967296 ^ k)*v)=val r→val r / (v*4294967296 ^ k)<4294967296 →
   Q .normal (divSt K L s v k r' (q.set k (val r / (v*4294967296 ^ k))))) :
  AX Tryz.prog ⟨315,O,M,w0,0,fun _=>none⟩ c (divSt K L s v k r q) Q:=by
 simp only [partB,Tryz.func127,Option.bind_some,findB,if_true,if_false,Nat.reduceEqDiff,reduceIte] at hc
 cases hc
 obtain ⟨hU,hQe,htop,hlow⟩:=window hdr hL2 (by omega) hv1 hrv
 have hgm:=guess_mul (val r) (4294967296 ^ k) v
 have hgl:=fun R2 g h1 h2=>guess_le (R:=val r) (R2:=R2) (P:=4294967296 ^ k) (g:=g) (v:=v) h1 h2 (Nat.pow_pos (by omega))
 have hz0:=top_zero (by omega) hv1 hrv
 rw [hQe] at hQ hgm hgl
 have hr1:=Dg_getD hdr (k+L)
 have hr2:=Dg_getD hdr (k+L-1)
 have hr3:=Dg_getD hdr (k+L-2)
 have hdv:=Dg_digits v
 have hw1:=Dg_getD hdv (L-1)
 have hw2:=Dg_getD hdv (L-2)
 have hv0:0<v:=by
  have:0<4294967296 ^ L:=Nat.pow_pos (by omega)
  omega
 have hW:0<4294967296 ^ (L-1):=Nat.pow_pos (by omega)
 have hP:0<4294967296 ^ (L-2):=Nat.pow_pos (by omega)
 have hl1:(digits v).getD (L-1) 0=v / 4294967296 ^ (L-1):=top_one (by rw [show L-1+1=L by omega];exact hv1)
 have hl2:v / 4294967296 ^ (L-2)=v / 4294967296 ^ (L-1)*4294967296+(digits v).getD (L-2) 0:=by
  have:=div_pow_step v (L-2)
  rw [show L-2+1=L-1 by omega,← getD_digits] at this
  exact this
 have eBL:4294967296 ^ L=4294967296*4294967296 ^ (L-1):=by
  conv=>lhs;rw [show L=L-1+1 by omega,Nat.pow_succ,Nat.mul_comm]
 have hlead:2147483648≤v / 4294967296 ^ (L-1):=by
  rw [Nat.le_div_iff_mul_le hW]
  omega
 have hfirst:=kn_first (U:=val (r.drop k)) hW (by omega) hv0
 have htopb:=kn_top hW hU
 have hlo:=fun g h=>(kn_low (U:=val (r.drop k)) (v:=v) (g:=g) hP h).resolve_right (by omega)
 have hBW:4294967296*4294967296 ^ (L-2)≤v:=by
  have e:4294967296 ^ (L-1)=4294967296*4294967296 ^ (L-2):=by
   conv=>lhs;rw [show L-1=L-2+1 by omega,Nat.pow_succ,Nat.mul_comm]
  have:4294967296 ^ (L-1)*2147483648≤v:=by omega
  omega
 have hhi:=fun g h hg=>kn_high (U:=val (r.drop k)) (v:=v) (g:=g) (B:=4294967296) hP hv0 h hg hBW
 rw [← htop] at hfirst htopb hlow
 rw [← hl1] at hlead hfirst htopb hl2
 rw [hl2,hlow] at hlo hhi
 have hQB:val (r.drop k) / v<4294967296:=by
  rw [Nat.div_lt_iff_lt_mul hv0,Nat.mul_comm]
  exact hU
 generalize hQQ:val (r.drop k) / v=Q0 at *
 have k1:((k+L:Nat):Int)-1=((k+L-1:Nat):Int):=by omega
 have k3:((L:Nat):Int)-1=((L-1:Nat):Int):=by omega
 clear hl1 hl2 htop hlow hQe hBW eBL hU hW hP hdv hQQ hv2
 generalize hx1:r.getD (k+L) 0=x1 at *
 generalize hx2:r.getD (k+L-1) 0=x2 at *
 generalize hx3:r.getD (k+L-2) 0=x3 at *
 generalize hy1:(digits v).getD (L-1) 0=y1 at *
 generalize hy2:(digits v).getD (L-2) 0=y2 at *
 apply AX.sdreg [9,10,11,12,13,14,15] (by kernel_rfl) (by simp only [pq];rfl)
 ·repeat (first
 |(apply RunD.op rfl;· rfl
   ·rfl
   iterate 2 (· (simp (disch:=omega) only [go_sem,i64_of,u32_of,u64_of,Nat.reduceLT,Nat.reduceLeDiff,Nat.reduceEqDiff,Nat.reduceAdd,Nat.reduceSub,Nat.reduceMul,Nat.reducePow,Nat.reduceBEq,Int.reduceLE,Int.reduceLT,Int.reduceToNat,Int.reduceEq,Int.reduceNeg,↓reduceIte,reduceCtorEq,← Int.natCast_add,k1,hx1,hx2,shl32,ori' hr2 hr1];rfl))
   ·(simp only [pb,Nat.reduceLT,Nat.reduceAdd,reduceIte];rfl)
   ·rfl)
 |(apply RunD.skip;· rfl
   ·(simp only [pb,Nat.reduceLT,Nat.reduceAdd,reduceIte];rfl)
   ·rfl))
  exact RunD.nil
 ·repeat (first | exact Keep.nil | (apply Keep.take;· rfl) | (apply Keep.drop;· rfl))
 ·kernel_rfl
 obtain ⟨top,htt⟩:∃ top,top=x1*4294967296+x2:=⟨_,rfl⟩
 have htop64:top<18446744073709551616:=by omega
 rw [← htt] at hfirst htopb hlo hhi
 rw [← htt]
 have e3:Int.tdiv (top:Int) (y1:Int)=((top / y1:Nat):Int):=rfl
 have e4:Int.tmod (top:Int) (y1:Int)=((top % y1:Nat):Int):=rfl
 have hdm:=Nat.div_add_mod top y1
 have hml:=Nat.mod_lt top (show 0<y1 by omega)
 have hdl:=Nat.div_le_self top y1
 generalize htq:top / y1=g0 at *
 generalize htr:top % y1=rest0 at *
 refine AX.sD (rgDW [9,10,11,12,13,14,16,17] (aI @k3 (aI @hy1 (aI @hvL (aI @e3 (aI @e4 oT))))) oT) ?_
 refine AX.cut (fun st=>∃ g:Nat,Q0≤g∧g≤Q0+1∧g<4294967296∧st=⟨[(16,.i .u64 g),(14,.i .i64 k),(13,.own 2 0 (K+1-L) 1),(12,.i .i64 L),(11,nv v),(10,.own 0 0 (K+1) 1),(9,.i .u64 s)],[(2,⟨142,q.map u⟩),(0,⟨142,r.map u⟩)],3⟩) ?_ ?_
 ·refine AX.block ?_
  refine guess_step (by simp only [partB,Tryz.func127,Option.bind_some];rfl) hL2 hK hk hvL hr hr3 hw1 hw2 hx3 hy1 hy2 hlead htop64 htopb hlo hhi hQB (by rw [Nat.mul_comm];exact hdm) (by omega) hfirst ?_
  intro g h1 h2 h3
  refine nmZ ?_
  exact ⟨trivial,g,h1,h2,h3,rfl⟩
 clear hlo hhi hfirst htopb hlead htop64 htt hdm hml hdl htq htr e3 e4 g0 rest0 hx1 hx2 hx3 hy1 hy2 hw1 hw2 hr1 hr2 hr3 y1 y2 x1 x2 x3 top k1 k3
 rintro st ⟨g,hQg,hg1,hgB,rfl⟩
 refine AX.sR (rgA [9,10,11,12,13,14,16,18,19]) ?_
 refine AX.cut (fun st=>∃ (c w:Nat) (t:List Nat),t.length=K+1∧Dg t∧c<4294967296∧w≤1∧t.drop (k+L)=r.drop (k+L)∧val t+4294967296 ^ k*(g*v)=val r+4294967296 ^ (k+L)*(c+w) ∧
  st=⟨[(19,.i .u64 c),(18,.i .u64 w),(16,.i .u64 g),(14,.i .i64 k),(13,.own 2 0 (K+1-L) 1),(12,.i .i64 L),(11,nv v),(10,.own 0 0 (K+1) 1),(9,.i .u64 s)],[(2,⟨142,q.map u⟩),(0,⟨142,t.map u⟩)],3⟩) ?_ ?_
 ·refine AX.sR (rgA [9,10,11,12,13,14,16,18,19,158,159]) ?_
  refine AX.block ?_
  refine sub_step (by simp only [partB,Tryz.func127,Option.bind_some];rfl) hK hk hvL hr hdr hgB ?_
  intro c w t h1 h2 h3 h4 h5 h6
  refine nmZ ?_
  exact ⟨trivial,c,w,t,h1,h2,h3,h4,h5,h6,rfl⟩
 rintro st ⟨c,w,t,ht,hdt,hcB,hw,htd,hval,rfl⟩
 obtain ⟨y,hy⟩:∃ y,y=c+w:=⟨_,rfl⟩
 rw [← hy] at hval
 have hyB:y≤4294967296:=by omega
 refine AX.sR (rgW [9,10,11,12,13,14,16,22] (aI @cAdd (aI hy.symm oT)) oT) ?_
 clear hcB hw hy c w
 have hx:=Dg_getD hdt (k+L)
 have hset:=fun z=>val_set t (k+L) z (by omega)
 generalize hxx:t.getD (k+L) 0=x at *
 have eg:g % 4294967296=g:=Nat.mod_eq_of_lt hgB
 by_cases hb:x<y
 ·obtain ⟨z,hz⟩:∃ z,z=x+4294967296-y:=⟨_,rfl⟩
  have hzB:z<4294967296:=by omega
  have e1:IntKind.u64.wrap ((x:Int)-(y:Int))=((z+18446744069414584320:Nat):Int):=by rw [u64_wrap];omega
  have e2:(z+18446744069414584320) % 4294967296=z:=by omega
  refine AX.sR (rgW [9,10,11,12,13,14,16,22,23] (aI @cAdd (aI @hxx oT)) oT) ?_
  refine AX.sR (rgW [9,10,11,12,13,14,16,23] (aI @cAdd (aI @hxx (aI @e1 (aI @u32n (aI @e2 oT))))) oT) ?_
  have hR2:=top_math (b:=1) hval (hset z) (by omega)
  have hd2:=Dg_set hdt (i:=k+L) hzB
  have hl2:(t.set (k+L) z).length=K+1:=by simp [ht]
  have htp:=val_lt_top hd2 (by omega) (drop_more htd) hz0
  have htd2:(t.set (k+L) z).drop (k+L+1)=r.drop (k+L+1):=drop_more htd
  rw [Nat.mul_one] at hR2
  clear hset hval hxx hx e1 e2 htd hz hb
  generalize t.set (k+L) z=r2 at *
  clear hdt ht hzB hyB
  clear t x y z
  have hgQ:g=Q0+1:=by
   apply Classical.byContradiction
   intro hne
   have:g=Q0:=by omega
   subst this
   omega
  subst hgQ
  have eg1:((Q0+1:Nat):Int)-1=(Q0:Int):=by omega
  refine AX.seq ?_
  refine AX.sR (rgA [9,10,11,12,13,14,16,232]) ?_
  refine AX.condT ?_
  refine AX.sR (rgW [9,10,11,12,13,14,16] (aI @eg1 oT) oT) ?_
  refine AX.sR (rgA [9,10,11,12,13,14,16,19]) ?_
  refine AX.cut (fun st=>∃ (c:Nat) (t:List Nat),t.length=K+1∧Dg t∧c≤1∧t.drop (k+L)=r2.drop (k+L)∧val t+4294967296 ^ (k+L)*c=val r2+4294967296 ^ k*v ∧
   st=⟨[(19,.i .u64 c),(16,.i .u64 Q0),(14,.i .i64 k),(13,.own 2 0 (K+1-L) 1),(12,.i .i64 L),(11,nv v),(10,.own 0 0 (K+1) 1),(9,.i .u64 s)],[(2,⟨142,q.map u⟩),(0,⟨142,t.map u⟩)],3⟩) ?_ ?_
  ·refine AX.sR (rgA [9,10,11,12,13,14,16,19,235,236]) ?_
   refine AX.block ?_
   refine back_step (by simp only [partB,Tryz.func127,Option.bind_some];rfl) hK hk hvL hl2 hd2 ?_
   intro c t h1 h2 h3 h4 h5
   refine nmZ ?_
   exact ⟨trivial,c,t,h1,h2,h3,h4,h5,rfl⟩
  rintro st ⟨c,t,ht,hdt,hc1,htd,hval,rfl⟩
  have hx:=Dg_getD hdt (k+L)
  have hset:=fun z=>val_set t (k+L) z (by omega)
  generalize hxx:t.getD (k+L) 0=x at *
  have hcm:c % 4294967296=c:=Nat.mod_eq_of_lt (by omega)
  obtain ⟨m,hm⟩:∃ m,m=(x+c) % 4294967296:=⟨_,rfl⟩
  have hmB:m<4294967296:=by omega
  refine AX.rR (rgW [9,10,11,12,13,14,16] (aI @cAdd (aI @hxx (aI @u32n (aI @hcm (aI hm.symm oT))))) oT) ?_
  refine nmZ ?_
  apply AX.reg [9,10,11,12,13,14] (by simp only [pq];rfl)
  ·repeat (first
  |(apply RunO.op rfl;· rfl
    ·rfl
    iterate 2 (· (simp (disch:=omega) only [go_sem,i64_of,u32_of,u64_of,Nat.reduceLT,Nat.reduceLeDiff,Nat.reduceEqDiff,Nat.reduceAdd,Nat.reduceSub,Nat.reduceMul,Nat.reducePow,Nat.reduceBEq,Int.reduceLE,Int.reduceLT,Int.reduceToNat,Int.reduceEq,Int.reduceNeg,↓reduceIte,reduceCtorEq,u32n,Nat.mod_eq_of_lt hQB];rfl))
    ·(simp only [pb,Nat.reduceLT,Nat.reduceAdd,reduceIte];rfl))
  |(apply RunO.skip;· rfl
    ·(simp only [pb,Nat.reduceLT,Nat.reduceAdd,reduceIte];rfl)))
   exact RunO.nil
  ·repeat (first | exact Keep.nil | (apply Keep.take;· rfl) | (apply Keep.drop;· rfl))
  refine nmZ ?_
  have hd3:=Dg_set hdt (i:=k+L) hmB
  refine hQ (t.set (k+L) m) (by simp [ht]) hd3 ?_ hQB
  have htp2:=val_lt_top hd3 (by simp;omega) (drop_more htd) (by rw [htd2];exact hz0)
  exact back_math (e:=(x+c) / 4294967296) hR2 hval (hset m) (by omega) htp2 hgm (by omega)
 ·obtain ⟨z,hz⟩:∃ z,z=x-y:=⟨_,rfl⟩
  have hzB:z<4294967296:=by omega
  have e1:IntKind.u64.wrap ((x:Int)-(y:Int))=((z:Nat):Int):=by rw [u64_wrap];omega
  have e2:z % 4294967296=z:=by omega
  refine AX.sR (rgW [9,10,11,12,13,14,16,22,23] (aI @cAdd (aI @hxx oT)) oT) ?_
  refine AX.sR (rgW [9,10,11,12,13,14,16,23] (aI @cAdd (aI @hxx (aI @e1 (aI @u32n (aI @e2 oT))))) oT) ?_
  have hR2:=top_math (b:=0) hval (hset z) (by omega)
  have hd2:=Dg_set hdt (i:=k+L) hzB
  rw [Nat.mul_zero,Nat.add_zero] at hR2
  have hgQ:g=Q0:=by
   have:=hgl _ g hR2 hv0
   omega
  subst hgQ
  refine AX.seq ?_
  refine AX.sR (rgA [9,10,11,12,13,14,16,232]) ?_
  refine AX.condF ?_
  refine AX.keepA [9,10,11,12,13,14,16] ?_
  refine AX.skip ?_
  refine nmZ ?_
  refine AX.rR (rgW [9,10,11,12,13,14] (aI @u32n (aI @eg oT)) oT) ?_
  refine nmZ ?_
  exact hQ (t.set (k+L) z) (by simp [ht]) hd2 hR2 hgB
theorem cmp_n (m n:Nat)(hm:(digits m).length<2 ^ 40)(hn:(digits n).length<2 ^ 40):PCall Tryz.prog 87 [nv m,nv n] (.i .i64 (cmp m n)) []:=by
 have:=cmp_ok (digits m) (digits n) (Dg_digits _) (Dg_digits _) hm hn
 rwa [val_digits,val_digits] at this
theorem norm_facts {n L s lead:Nat} (hL:(digits n).length=L) (hL2:2≤L) (hld:(digits n).getD (L-1) 0=lead) (hlead:lead<4294967296) (h0:lead≠0) (hs:32-blen lead=s) :
  s≤31∧n*2 ^ s<4294967296 ^ L∧4294967296 ^ L≤2*(n*2 ^ s)∧(digits (n*2 ^ s)).length=L:=by
 have hb1:=blen_pos h0
 have hb2:=blen_le (n:=lead) (k:=32) (by omega)
 obtain ⟨hb3,hb4⟩:=blen_spec h0
 have hsl:s≤31:=by omega
 have hn:=lt_pow_digits n
 rw [hL] at hn
 have hW:0<4294967296 ^ (L-1):=Nat.pow_pos (by omega)
 have hl1:lead=n / 4294967296 ^ (L-1):=by rw [← hld];exact top_one (by rw [show L-1+1=L by omega];exact hn)
 have hlo:lead*4294967296 ^ (L-1)≤n:=by rw [hl1];exact Nat.div_mul_le_self _ _
 have hhi:n<(lead+1)*4294967296 ^ (L-1):=by
  rw [hl1]
  have:=Nat.lt_div_mul_add (a:=n) hW
  rw [Nat.add_mul,Nat.one_mul]
  exact this
 have hBL:4294967296 ^ L=4294967296*4294967296 ^ (L-1):=by
  conv=>lhs;rw [show L=L-1+1 by omega,Nat.pow_succ,Nat.mul_comm]
 have hp:2 ^ blen lead*2 ^ s=4294967296:=by
  rw [← Nat.pow_add,show blen lead+s=32 by omega]
 have hp2:2 ^ (blen lead-1)*2 ^ s*2=4294967296:=by
  rw [Nat.mul_right_comm,← Nat.pow_succ,Nat.succ_eq_add_one,show blen lead-1+1=blen lead by omega,hp]
 have hs0:0<2 ^ s:=Nat.pow_pos (by omega)
 have h1:n*2 ^ s<4294967296 ^ L:=by
  have h2:n*2 ^ s<(lead+1)*4294967296 ^ (L-1)*2 ^ s:=Nat.mul_lt_mul_of_pos_right hhi hs0
  have h3:(lead+1)*2 ^ s≤4294967296:=by rw [← hp];exact Nat.mul_le_mul_right _ hb4
  have h4:(lead+1)*2 ^ s*4294967296 ^ (L-1)≤4294967296*4294967296 ^ (L-1):=Nat.mul_le_mul_right _ h3
  rw [Nat.mul_right_comm] at h2
  omega
 have h2:4294967296 ^ L≤2*(n*2 ^ s):=by
  have h3:lead*4294967296 ^ (L-1)*2 ^ s≤n*2 ^ s:=Nat.mul_le_mul_right _ hlo
  have h4:2 ^ (blen lead-1)*2 ^ s≤lead*2 ^ s:=Nat.mul_le_mul_right _ hb3
  have h5:4294967296≤2*(lead*2 ^ s):=by omega
  have h6:4294967296*4294967296 ^ (L-1)≤2*(lead*2 ^ s)*4294967296 ^ (L-1):=Nat.mul_le_mul_right _ h5
  rw [Nat.mul_assoc 2,Nat.mul_right_comm] at h6
  rw [hBL]
  omega
 refine ⟨hsl,h1,h2,?_⟩
 have h3:=digits_length_le h1
 have h4:L≤(digits (n*2 ^ s)).length:=by
  apply Classical.byContradiction
  intro h5
  have h6:=lt_pow_digits (n*2 ^ s)
  have h7:4294967296 ^ (digits (n*2 ^ s)).length≤4294967296 ^ (L-1):=Nat.pow_le_pow_right (by omega) (by omega)
  rw [hBL] at h2
  omega
 omega
theorem unshift_step {X Y P x p x' d D:Nat} (h:X*d+p=Y+P*(x % d))(hD:d*D=4294967296):(X+P*(x / d+x' % d*D))*d+p=Y+P*x+P*4294967296*(x' % d):=by
 have h1:=Nat.div_add_mod x d
 have h2:P*(x / d+x' % d*D)*d=P*(d*(x / d))+P*(d*D)*(x' % d):=by grind
 have h3:P*x=P*(d*(x / d))+P*(x % d):=by rw [← Nat.mul_add,h1]
 rw [Nat.add_mul,h2,hD]
 omega
theorem shr_lt {x s:Nat} (hs:s≤32)(hx:x<4294967296):x / 2 ^ s<2 ^ (32-s):=by
 rw [Nat.div_lt_iff_lt_mul (Nat.pow_pos (by omega)),← Nat.pow_add,show 32-s+s=32 by omega]
 exact hx
theorem shl_back {x s:Nat} (hs:s≤32):x*2 ^ (32-s) % 4294967296=x % 2 ^ s*2 ^ (32-s):=by
 have:(4294967296:Nat)=2 ^ s*2 ^ (32-s):=by
  rw [← Nat.pow_add,show s+(32-s)=32 by omega]
 rw [this,Nat.mul_mod_mul_right]
set_option maxHeartbeats 4000000 in
theorem div_ok (a b:List Nat)(ha:Dg a)(hb:Dg b)(hla:a.length<2 ^ 36)(hlb:b.length<2 ^ 36):PCall Tryz.prog 127 [dg a,dg b] (divV (val a) (val b)) []:=by
 refine PCall.of_ax Tryz.call127 Tryz.func127 rfl (by simp [Tryz.ntmps127]) fun O w=>?_
 simp only [Tryz.ntmps127,Tryz.results127,argFr]
 have c1:=ntrim_ok a ha (by omega)
 have c2:=ntrim_ok b hb (by omega)
 have hma:=digits_length_val ha
 have hmb:=digits_length_val hb
 generalize val a=m at *
 generalize val b=n at *
 refine AX.sR (rgAV [0,1]) ?_
 refine AX.sR (rgCV [0,1] (aI c1 (aI c2 oT))) ?_
 refine AX.seq ?_
 refine AX.block ?_
 by_cases h0:(digits n).length=0
 ·refine AX.sR (rgAV [0,1,31]) ?_
  refine AX.condT ?_
  refine AX.sR (rgAV [4,5,6]) ?_
  refine AX.ret ⟨.inl rfl,?_⟩
  have hn0:=digits_len_zero.1 h0
  subst hn0
  show Done _ _ (.tup [nv (m / 0),nv (remN m 0),.i .i64 (divE 0)]) _ _
  rw [Nat.div_zero,show remN m 0=0 from rfl,show divE 0=31 from rfl]
  exact Done.div_nil2 rfl rfl rfl
 have hn0:0<n:=Nat.pos_of_ne_zero fun e=>h0 (digits_len_zero.2 e)
 have hr0:remN m n=m % n:=if_neg (by omega)
 have he0:divE n=0:=if_neg (by omega)
 unfold divV
 rw [hr0,he0]
 clear hr0 he0
 refine AX.sR (rgAV [0,1,31]) ?_
 refine AX.condF ?_
 have kc:=cmp_n m n (by omega) (by omega)
 by_cases h2:m<n
 ·rw [cmp_lt h2] at kc
  have kl:=clone_ok (digits m) (by omega)
  refine AX.sR (rgCV [0,1,35] (aI kc oT)) ?_
  refine AX.condT ?_
  refine AX.sR (rgCV [4,5,6] (aI kl oT)) ?_
  refine AX.ret ⟨.inl rfl,?_⟩
  rw [Nat.div_eq_of_lt h2,Nat.mod_eq_of_lt h2]
  exact Done.div_nil rfl rfl rfl
 have hc:¬ cmp m n<0:=by
  unfold cmp
  rw [if_neg h2]
  split<;>omega
 generalize cmp m n=z at *
 refine AX.sR (rgCV [0,1,35] (aI kc oT)) ?_
 refine AX.condF ?_
 by_cases h1:(digits n).length=1
 ·have e1:=digits_val1 n h1
  have hd:=Dg_getD (Dg_digits n) 0
  have k1:=short_ok (digits m) n (Dg_digits _) (by omega) hn0 (by omega)
  rw [val_digits] at k1
  have hml:=Nat.mod_lt m hn0
  have k2:=of_ok (m % n) (by omega)
  generalize hmm:m % n=mr at *
  refine AX.sR (rgAV [0,1,42]) ?_
  refine AX.condT ?_
  refine AX.sR (rgWV [7,8] (aI e1.symm oT) (aI k1 oT)) ?_
  refine AX.sR (rgCV [4,5,6] (aI k2 oT)) ?_
  refine AX.ret ⟨.inl rfl,?_⟩
  exact Done.div rfl rfl rfl
 refine AX.sR (rgAV [0,1,42]) ?_
 refine AX.condF ?_
 refine AX.skip ?_
 refine nmZ ?_
 -- the long division
 have hlen:(digits n).length≤(digits m).length:=digits_len_mono (by omega)
 generalize hL:(digits n).length=L at *
 generalize hK:(digits m).length=K at *
 have eL:((L:Nat):Int)-1=((L-1:Nat):Int):=by omega
 have hlead:=Dg_getD (Dg_digits n) (L-1)
 have hlead0:=digits_canon n (by intro e;rw [e] at hL;simp at hL;omega)
 rw [hL] at hlead0
 generalize hld:(digits n).getD (L-1) 0=lead at *
 have kl:=lead_ok lead hlead
 have hbl:=blen_pos hlead0
 have hbl2:=blen_le (n:=lead) (k:=32) (by omega)
 have hL2:2≤L:=by omega
 obtain ⟨hs31,hv1,hv2,hvL⟩:=norm_facts hL hL2 hld hlead hlead0 rfl
 generalize hs:32-blen lead=s at *
 have ks1:=shifted_ok (digits m) s (Dg_digits _) (by omega) hs31
 have ks2:=shifted_ok (digits n) s (Dg_digits _) (by omega) hs31
 rw [val_digits,hK] at ks1
 rw [val_digits,hL] at ks2
 have hp0:0<2 ^ s:=Nat.pow_pos (by omega)
 have hp1:2 ^ s≤2 ^ 31:=Nat.pow_le_pow_right (by omega) hs31
 have hmK:=lt_pow_digits m
 rw [hK] at hmK
 have hu1:m*2 ^ s<4294967296 ^ (K+1):=by
  rw [Nat.pow_succ]
  exact Nat.mul_lt_mul_of_lt_of_le hmK (by omega) (by omega)
 have hvp:n*2 ^ s<4294967296 ^ (L+1):=by rw [Nat.pow_succ];omega
 have kt:=ntrim_ok (pad (L+1) (n*2 ^ s)) pad_Dg (by rw [pad_length hvp];omega)
 rw [pad_val] at kt
 have htp:List.take (L+1) (pad (L+1) (n*2 ^ s))=pad (L+1) (n*2 ^ s):=List.take_of_length_le (by rw [pad_length hvp];exact Nat.le_refl _)
 have hpl:=pad_length hvp
 have hplu:=pad_length hu1
 refine AX.sR (rgWV [0,1,9] (aI @hL (aI @eL (aI @hld (aI @u64n oT)))) (aI kl oT)) ?_
 refine AX.sR (rgWV [9,10,11] (aI @htp (aI @hpl oT)) (aI ks1 (aI ks2 (aI kt oT)))) ?_
 have eKL:(((K+1:Nat):Int))-((L:Nat):Int)=((K+1-L:Nat):Int):=by omega
 have eKL1:(((K+1-L:Nat):Int))-1=((K-L:Nat):Int):=by omega
 refine AX.sR (rgWV [9,10,11,12] (aI @hvL oT) oT) ?_
 refine AX.sR (rgWV [9,10,11,12,13] (aI @eKL oT) oT) ?_
 refine AX.seq ?_
 refine AX.sR (rgWV [9,10,11,12,13,14] (aI @eKL (aI @eKL1 oT)) oT) ?_
 refine AX.block ?_
 generalize hv:n*2 ^ s=v at *
 have hpr:=hplu
 generalize hr0:pad (K+1) (m*2 ^ s)=r0 at *
 have hdr0:Dg r0:=by rw [← hr0];exact pad_Dg
 have hvr0:val r0=m*2 ^ s:=by rw [← hr0];exact pad_val
 refine AX.loop (fun N st=>∃ (j:Int) (r q:List Nat),j=(N:Int)-1∧N≤K+1-L∧r.length=K+1∧Dg r∧q.length=K+1-L∧Dg q∧(∀ i,i<N→q.getD i 0=0)∧v*val q+val r=m*2 ^ s∧val r<v*4294967296 ^ N ∧
  st=⟨[(14,.i .i64 j),(13,.own 2 0 (K+1-L) 1),(12,.i .i64 L),(11,nv v),(10,.own 0 0 (K+1) 1),(9,.i .u64 s)],[(2,⟨142,q.map u⟩),(0,⟨142,r.map u⟩)],3⟩) (K+1-L)
  ⟨((K-L:Nat):Int),r0,List.replicate (K+1-L) 0,by omega,Nat.le_refl _,hpr,hdr0,by simp,Dg_replicate _,fun j _=>by simp [List.getD_eq_getElem?_getD,List.getElem?_replicate];split<;>rfl,by simp [val_replicate,hvr0],?_,rfl⟩ ?_
 ·rw [hvr0]
  have h3:4294967296 ^ L*4294967296 ^ (K+1-L)≤2*v*4294967296 ^ (K+1-L):=Nat.mul_le_mul_right _ hv2
  rw [← Nat.pow_add,show L+(K+1-L)=K+1 by omega,Nat.pow_succ,Nat.mul_assoc 2] at h3
  have h4:m*2 ^ s<4294967296 ^ K*2 ^ 31:=Nat.mul_lt_mul_of_lt_of_le hmK hp1 (by omega)
  omega
 rintro N st ⟨j,r,q,rfl,hN,hr,hdr,hq,hdq,hz,hval,hrv,rfl⟩
 refine AX.seq ?_
 cases N with
 | zero=>
  refine AX.sR (rgAV [9,10,11,12,13,86]) ?_
  refine AX.condF ?_
  refine AX.keepA [9,10,12,13] ?_
  refine AX.exit ?_
  refine nmZ ?_
  refine AX.sR (rgAV [9,10,12,13,25]) ?_
  refine AX.seq ?_
  refine AX.sR (rgAV [9,10,13,25,281,282]) ?_
  refine AX.block ?_
  rw [Nat.pow_zero,Nat.mul_one] at hrv
  have hpD:2 ^ s*2 ^ (32-s)=4294967296:=by
   rw [← Nat.pow_add,show s+(32-s)=32 by omega]
  have hrL:r.getD L 0=0:=by
   have h1:=val_take_drop r L (by omega)
   have h2:=val_drop_step r L (by omega)
   apply Nat.eq_zero_of_not_pos
   intro h3
   have h4:4294967296 ^ L*1≤4294967296 ^ L*val (r.drop L):=Nat.mul_le_mul_left _ (by omega)
   omega
  have hqr:val r=(m-n*val q)*2 ^ s:=by
   rw [Nat.sub_mul,Nat.mul_right_comm,hv]
   omega
  have hr0m:r.getD 0 0 % 2 ^ s=0:=by
   have h1:val r % 2 ^ s=0:=by rw [hqr];exact Nat.mul_mod_left _ _
   have h2:=val_drop_step r 0 (by omega)
   rw [List.drop_zero] at h2
   rw [h2,← hpD,Nat.mul_assoc,Nat.add_mul_mod_self_left] at h1
   exact h1
  refine AX.loop (fun N st=>∃ (i:Nat) (t:List Nat),N=L-i∧i≤L∧t.length=L∧Dg t∧val (t.take i)*2 ^ s+0=val (r.take i)+4294967296 ^ i*(r.getD i 0 % 2 ^ s) ∧
   st=⟨[(282,.i .i64 i),(281,.i .i64 L),(25,.own 3 0 L 1),(13,.own 2 0 (K+1-L) 1),(10,.own 0 0 (K+1) 1),(9,.i .u64 s)],[(3,⟨142,t.map u⟩),(2,⟨142,q.map u⟩),(0,⟨142,r.map u⟩)],4⟩) L ⟨0,List.replicate L 0,rfl,Nat.zero_le _,by simp,Dg_replicate _,by simp only [List.take_zero,val,hr0m];simp,rfl⟩ ?_
  rintro N st ⟨i,t,rfl,hi,ht,hdt,hvt,rfl⟩
  by_cases h:i<L
  ·have hx:=Dg_getD hdr i
   have hx':=Dg_getD hdr (i+1)
   have htr:=val_take_step r i
   have hal:=shr_lt (s:=s) (by omega) hx
   have hst:=unshift_step (x':=r.getD (i+1) 0) hvt hpD
   have hsb:=shl_back (x:=r.getD (i+1) 0) (s:=s) (by omega)
   have hxm:r.getD (i+1) 0 % 2 ^ s<2 ^ s:=Nat.mod_lt _ hp0
   have hb3:(r.getD (i+1) 0 % 2 ^ s+1)*2 ^ (32-s)≤2 ^ s*2 ^ (32-s):=Nat.mul_le_mul_right _ hxm
   rw [hpD,Nat.add_mul,Nat.one_mul] at hb3
   have m1:min s 32=s:=Nat.min_eq_left (by omega)
   have m3:min (32-s) 32=32-s:=Nat.min_eq_left (by omega)
   have e32:(32:Int)-(s:Int)=((32-s:Nat):Int):=by omega
   have hadd:r.getD i 0 / 2 ^ s≤r.getD i 0:=Nat.div_le_self _ _
   have hor:=fun h0:0<s=>or32 (a:=r.getD i 0 / 2 ^ s) (b:=r.getD (i+1) 0 % 2 ^ s) (s:=32-s) hal (by omega) (by omega)
   have hget:(t.set i (r.getD i 0 / 2 ^ s)).getD i 0=r.getD i 0 / 2 ^ s:=by
    simp [List.getD_eq_getElem?_getD,show i<t.length by omega]
   have h00:s=0→r.getD (i+1) 0 % 2 ^ s=0:=by
    intro e
    rw [e,Nat.pow_zero,Nat.mod_one]
   refine AX.sR (rgAV [9,10,13,25,281,282,283]) ?_
   refine AX.seq ?_
   refine AX.condT ?_
   refine AX.keepA [9,10,13,25,281,282] ?_
   refine AX.skip ?_
   refine nmZ ?_
   refine AX.seq ?_
   refine AX.block ?_
   refine AX.sR (rgAV [9,10,13,25,26,281,282]) ?_
   generalize hxx:r.getD i 0=x at *
   generalize hxx':r.getD (i+1) 0=x' at *
   generalize hq1:x / 2 ^ s=a1 at *
   refine AX.sR (rgWV [9,10,13,25,26,281,282] (aI @m1 (aI @shr_nat (aI @hxx (aI @hq1 oT)))) oT) ?_
   generalize hq2:x' % 2 ^ s*2 ^ (32-s)=b1 at *
   have hgu:(List.map u (t.set i a1)).getD i V.junk=V.i .u32 ((a1:Nat):Int):=by rw [getD_u _ _ (by simp;omega),hget]
   by_cases h0:0<s
   ·refine AX.sR (rgAV [9,10,13,25,26,281,282,295]) ?_
    refine AX.condT ?_
    apply AX.dreg [9,10,13,25,281,282] (by kernel_rfl) (by simp only [pq];rfl)
    ·repeat (first
    |(apply RunD.op rfl;· rfl
      ·(simp only [opsOf,valsOf,valOf,lkp,ofConst,ofCell,Array.toList,Option.toList,List.map_cons,List.map_nil,List.cons_append,List.nil_append,List.append_nil,Nat.reduceEqDiff,Nat.reducePow,Nat.reduceLT,Nat.reduceLeDiff,reduceIte,if_true,if_false,IntKind.min,IntKind.max,IntKind.bits,IntKind.signed,Int.reduceLE,Int.reduceNeg,Int.reducePow,Int.reduceSub,and_self,Bool.false_eq_true,Nat.reduceSub];rfl)
      iterate 2 (· (simp (disch:=omega) only [go_sem,i64_of,u32_of,u64_of,Nat.reduceLT,Nat.reduceLeDiff,Nat.reduceEqDiff,Nat.reduceAdd,Nat.reduceSub,Nat.reduceMul,Nat.reducePow,Nat.reduceBEq,Int.reduceLE,Int.reduceLT,Int.reduceToNat,Int.reduceEq,Int.reduceNeg,↓reduceIte,reduceCtorEq,lit_add,e32,m3,shl_nat,u32n,hsb,hxx',hgu,hor h0,List.set_set];rfl))
      ·(simp only [pb,Nat.reduceLT,Nat.reduceAdd,reduceIte];rfl)
      ·rfl)
    |(apply RunD.skip;· rfl
      ·(simp only [pb,Nat.reduceLT,Nat.reduceAdd,reduceIte];rfl)
      ·rfl))
     exact RunD.nil
    ·repeat (first | exact Keep.nil | (apply Keep.take;· rfl) | (apply Keep.drop;· rfl))
    ·kernel_rfl
    refine nmZ ?_
    refine AX.rR (rgWV [9,10,13,25,281,282] (aI @lit_add oT) oT) ?_
    refine nmZ ?_
    refine ⟨L-(i+1),_,id,by omega,
     leA
     , ⟨i+1,t.set i (a1+b1),rfl,by omega,by simp [ht],Dg_set hdt (by omega),?_,rfl⟩⟩
    rw [take_set_succ t i _ (by omega),val_append,List.length_take,Nat.min_eq_left (by omega),htr,hxx']
    simp only [val,Nat.mul_zero,Nat.add_zero]
    rw [Nat.add_zero,Nat.add_zero] at *
    rw [hst,Nat.pow_succ]
   ·refine AX.sR (rgAV [9,10,13,25,26,281,282,295]) ?_
    refine AX.condF ?_
    refine AX.keepA [9,10,13,25,281,282] ?_
    refine AX.skip ?_
    refine nmZ ?_
    refine AX.rR (rgWV [9,10,13,25,281,282] (aI @lit_add oT) oT) ?_
    refine nmZ ?_
    have hb0:b1=0:=by rw [← hq2,h00 (by omega),Nat.zero_mul]
    rw [hb0,Nat.add_zero] at hst
    refine ⟨L-(i+1),_,id,by omega,
     leA
     , ⟨i+1,t.set i a1,rfl,by omega,by simp [ht],Dg_set hdt (by omega),?_,rfl⟩⟩
    rw [take_set_succ t i _ (by omega),val_append,List.length_take,Nat.min_eq_left (by omega),htr,hxx']
    simp only [val,Nat.mul_zero,Nat.add_zero]
    rw [Nat.add_zero] at hst
    rw [hst,Nat.pow_succ]
  ·refine AX.sR (rgAV [9,10,13,25,281,282,283]) ?_
   refine AX.seq ?_
   refine AX.condF ?_
   refine AX.exit ?_
   refine nmZ ?_
   have hiL:i=L:=by omega
   rw [hiL,hrL,Nat.zero_mod,Nat.mul_zero,Nat.add_zero,Nat.add_zero,← ht,List.take_length,ht,val_take_all (by omega),hqr] at hvt
   have hvt2:val t=m-n*val q:=Nat.eq_of_mul_eq_mul_right hp0 hvt
   have hle:n*val q≤m:=by
    apply Nat.le_of_mul_le_mul_right (c:=2 ^ s) _ hp0
    rw [Nat.mul_right_comm,hv]
    omega
   have hlt:val t<n:=by
    apply Nat.lt_of_mul_lt_mul_right (a:=2 ^ s)
    rw [hvt2,← hqr,hv]
    exact hrv
   obtain ⟨e1,e2⟩:=divmod_unique (n:=m) (d:=n) (q:=val q) (r:=val t) (by omega) hlt
   have c3:=ntrim_ok q hdq (by omega)
   have c4:=ntrim_ok t hdt (by omega)
   rw [e1] at c3
   rw [e2] at c4
   have ht1:List.take (K+1-L) q=q:=List.take_of_length_le (by omega)
   have ht2:List.take L t=t:=List.take_of_length_le (by omega)
   refine AX.sR (rgWV [4,5,6] (aI @ht1 (aI @ht2 oT)) (aI c3 (aI c4 oT))) ?_
   refine AX.ret ⟨.inl rfl,?_⟩
   exact Done.div rfl rfl rfl
 | succ k=>
  have e1:((k+1:Nat):Int)-1=(k:Int):=by omega
  rw [e1]
  refine AX.sR (rgAV [9,10,11,12,13,14,86]) ?_
  refine AX.condT ?_
  refine AX.keepA [9,10,11,12,13,14] ?_
  refine AX.skip ?_
  refine nmZ ?_
  refine AX.seq ?_
  refine AX.block ?_
  refine digit_step (by simp only [partB,Tryz.func127,Option.bind_some];rfl) hL2 (by omega) (by omega) hv1 hv2 hvL hr hdr hq hdq hrv ?_
  intro r' h1 h2 h3 h4
  obtain ⟨Q0,hQ0⟩:∃ Q0,Q0=val r / (v*4294967296 ^ k):=⟨_,rfl⟩
  rw [← hQ0] at h3 h4
  rw [← hQ0]
  refine nmZ ?_
  refine AX.rR (rgAV [9,10,11,12,13,14]) ?_
  refine nmZ ?_
  have hv0:0<v:=by
   have:0<4294967296 ^ L:=Nat.pow_pos (by omega)
   omega
  have hvk:0<v*4294967296 ^ k:=Nat.mul_pos hv0 (Nat.pow_pos (by omega))
  have hs:=set_zero_val (v:=Q0) (show k<q.length by omega) (hz k (by omega))
  refine ⟨k,_,id,by omega,
   leA
   , ⟨(k:Int)-1,r',q.set k Q0,rfl,by omega,h1,h2,by simp [hq],Dg_set hdq h4,?_,?_,?_,rfl⟩⟩
  ·intro i hi
   rw [List.getD_eq_getElem?_getD,List.getElem?_set_ne (by omega),← List.getD_eq_getElem?_getD]
   exact hz i (by omega)
  ·have e:v*(4294967296 ^ k*Q0)=4294967296 ^ k*(Q0*v):=by rw [Nat.mul_left_comm,Nat.mul_comm v]
   rw [hs,Nat.mul_add,e,← hval]
   omega
  ·have h5:=Nat.div_add_mod (val r) (v*4294967296 ^ k)
   have h6:=Nat.mod_lt (val r) hvk
   rw [← hQ0,Nat.mul_comm v,Nat.mul_assoc,Nat.mul_comm v Q0] at h5
   rw [Nat.mul_comm v] at h6 ⊢
   omega
theorem div_n (m n:Nat)(hm:(digits m).length<2 ^ 36)(hn:(digits n).length<2 ^ 36):PCall Tryz.prog 127 [nv m,nv n] (divV m n) []:=by
 have:=div_ok (digits m) (digits n) (Dg_digits _) (Dg_digits _) hm hn
 rwa [val_digits,val_digits] at this
set_option maxHeartbeats 1000000 in
theorem gcd_ok (a b:List Nat)(ha:Dg a)(hb:Dg b)(hla:a.length<2 ^ 36)(hlb:b.length<2 ^ 36):PCall Tryz.prog 126 [dg a,dg b] (nv (Nat.gcd (val a) (val b))) []:=by
 refine PCall.of_ax Tryz.call126 Tryz.func126 rfl (by simp [Tryz.ntmps126]) fun O w=>?_
 simp only [Tryz.ntmps126,Tryz.results126,argFr]
 have c1:=ntrim_ok a ha (by omega)
 have c2:=ntrim_ok b hb (by omega)
 have hma:=digits_length_val ha
 have hmb:=digits_length_val hb
 generalize val a=m at *
 generalize val b=n at *
 refine AX.sR (rgA [0,1]) ?_
 refine AX.sR (rgC [0,1] (aI c1 (aI c2 oT))) ?_
 refine AX.seq ?_
 refine AX.block ?_
 refine AX.loop (fun N st=>∃ x:Nat,(digits x).length<2 ^ 36∧(digits N).length<2 ^ 36∧Nat.gcd x N=Nat.gcd m n∧st=⟨[(1,nv N),(0,nv x)],[],0⟩) n ⟨m,by omega,by omega,rfl,rfl⟩ ?_
 rintro N st ⟨x,hx,hN,hg,rfl⟩
 refine AX.seq ?_
 by_cases h0:(digits N).length=0
 ·have hN0:=digits_len_zero.1 h0
  subst hN0
  refine AX.sR (rgA [0,1,14]) ?_
  refine AX.condF ?_
  refine AX.exit ?_
  refine nmZ ?_
  rw [Nat.gcd_zero_right] at hg
  have c3:=clone_ok (digits x) (by omega)
  rw [← hg]
  refine AX.sR (rgC [4] (aI c3 oT)) ?_
  refine AX.ret ⟨.inl rfl,?_⟩
  exact Done.sl rfl
 ·have hN0:0<N:=Nat.pos_of_ne_zero fun e=>h0 (digits_len_zero.2 e)
  have hml:=Nat.mod_lt x hN0
  have hgs:=gcd_step x N
  have hmr:remN x N=x % N:=if_neg (by omega)
  have c3:=div_n x N hx hN
  unfold divV at c3
  rw [hmr] at c3
  have hdl:(digits (x % N)).length≤(digits N).length:=digits_len_mono (by omega)
  generalize x % N=y at *
  refine AX.sR (rgA [0,1,14]) ?_
  refine AX.condT ?_
  refine AX.keepA [0,1] ?_
  refine AX.skip ?_
  refine nmZ ?_
  refine AX.block ?_
  refine AX.sR (rgC [0,1,6] (aI c3 oT)) ?_
  refine AX.rR (rgA [0,1]) ?_
  refine nmZ ?_
  refine ⟨y,_,id,hml,
   leA
   , ⟨N,by omega,by omega,hgs.trans hg,rfl⟩⟩
end Go.Proofs.YteidabibgjokkaaGreatDoor
