import Derived.Test.YteidabibgjokkaaGreatDoorGK
import Derived.Test.YteidabibgjokkaaGreatDoorGL
set_option maxRecDepth 20000
set_option linter.all false
namespace Go.Proofs.YteidabibgjokkaaGreatDoor
open Go Go.Proofs.YteidabibgjokkaaGreatDoor.Lift
attribute [local irreducible] Lift.PCall Lift.HCall
theorem val_lt_top {l r:List Nat} {j:Nat} (hd:Dg l)(hl:j+1≤l.length)(h:l.drop (j+1)=r.drop (j+1))(hr:val (r.drop (j+1))=0):val l<4294967296 ^ j*4294967296:=by
 have h1:=val_take_drop l (j+1) hl
 have h2:=val_lt (Dg_take hd (j+1))
 rw [List.length_take,Nat.min_eq_left hl,Nat.pow_succ] at h2
 rw [h,hr,Nat.mul_zero,Nat.add_zero] at h1
 omega
theorem top_zero {r:List Nat} {k L v:Nat} (hkL:k+L+1≤r.length)(hv1:v<4294967296 ^ L)(hrv:val r<v*4294967296 ^ (k+1)):val (r.drop (k+L+1))=0:=by
 have h1:=val_take_drop r (k+L+1) hkL
 have h2:v*4294967296 ^ (k+1)<4294967296 ^ L*4294967296 ^ (k+1):=Nat.mul_lt_mul_of_pos_right hv1 (Nat.pow_pos (by omega))
 rw [← Nat.pow_add,show L+(k+1)=k+L+1 by omega] at h2
 apply Nat.eq_zero_of_not_pos
 intro h3
 have h4:4294967296 ^ (k+L+1)*1≤4294967296 ^ (k+L+1)*val (r.drop (k+L+1)):=Nat.mul_le_mul_left _ h3
 omega
theorem drop_more {t r:List Nat} {j z:Nat} (h:t.drop j=r.drop j):(t.set j z).drop (j+1)=r.drop (j+1):=by
 rw [drop_set_succ]
 have:=congrArg (List.drop 1) h
 rwa [List.drop_drop,List.drop_drop] at this
theorem top_math {R R2 T P W x y z b g v:Nat} (h:T+P*(g*v)=R+W*y)(hs:R2+W*x=T+W*z)(hz:z+y=x+b*4294967296):R2+P*(g*v)=R+W*4294967296*b:=by
 have e1:W*z+W*y=W*x+W*(b*4294967296):=by rw [← Nat.mul_add,hz,Nat.mul_add]
 have e2:W*(b*4294967296)=W*4294967296*b:=by rw [Nat.mul_assoc,Nat.mul_comm b]
 omega
theorem guess_le {R R2 P g v:Nat} (h:R2+P*(g*v)=R)(hv:0<v)(hP:0<P):g≤R / (v*P):=by
 rw [Nat.le_div_iff_mul_le (Nat.mul_pos hv hP),← Nat.mul_assoc,Nat.mul_comm (g*v)]
 omega
theorem guess_mul (R P v:Nat):P*(R / (v*P)*v)≤R:=by
 rw [Nat.mul_comm P,Nat.mul_assoc]
 exact Nat.div_mul_le_self _ _
theorem back_math {R R2 S S' P W x c e m Q0 v:Nat} (h:R2+P*((Q0+1)*v)=R+W*4294967296)(hb:S+W*c=R2+P*v)(hs:S'+W*x=S+W*m)(hm:x+c=4294967296*e+m)(hS:S' < W*4294967296)(hR:P*(Q0*v)≤R)(he:e≤1):S'+P*(Q0*v)=R:=by
 rw [Nat.add_mul,Nat.one_mul,Nat.mul_add] at h
 have e1:W*x+W*c=W*(4294967296*e)+W*m:=by rw [← Nat.mul_add,hm,Nat.mul_add]
 have e2:W*(4294967296*e)=W*4294967296*e:=by rw [Nat.mul_assoc]
 have h1:S'+W*4294967296*e+P*(Q0*v)=R+W*4294967296:=by omega
 have:e=0∨e=1:=by omega
 rcases this with rfl | rfl
 ·rw [Nat.mul_zero] at h1
  omega
 ·rw [Nat.mul_one] at h1
  omega
set_option maxHeartbeats 4000000 in
theorem digit_step {c:Code} (hc:partB 127 2=some c) {O M:Nat→Prop} {w0:World} {K L k s v:Nat} {r q:List Nat} (hL2:2≤L) (hK:K<2 ^ 37) (hk:k+L≤K) (hv1:v<4294967296 ^ L) (hv2:4294967296 ^ L≤2*v) (hvL:(digits v).length=L)
  (hr:r.length=K+1) (hdr:Dg r) (hq:q.length=K+1-L) (hdq:Dg q) (hrv:val r<v*4294967296 ^ (k+1)) {Q:Exit→St→Prop}
  (hQ:∀ (r':List Nat),r'.length=K+1→Dg r'→val r'+4294967296 ^ k*(val r / (v*4294967296 ^ k)*v)=val r→val r / (v*4294967296 ^ k)<4294967296 →
   Q .normal (divSt K L s v k r' (q.set k (val r / (v*4294967296 ^ k))))) :
  AX Tryz.prog ⟨315,O,M,w0,0,fun _=>none⟩ c (divSt K L s v k r q) Q:=by
 simp only [partB,Tryz.func127,Option.bind_some,findB,if_true,if_false,Nat.reduceEqDiff,reduceIte] at hc
 cases hc
 obtain ⟨hU,hQe,htop,hlow⟩:=window hdr hL2 (by omega) hv1 hrv
 have hgm:=guess_mul (val r) (4294967296 ^ k) v
 have hgl:=fun R2 g h1 h2=>guess_le (R:=val r) (R2:=R2) (P:=4294967296 ^ k) (g:=g) (v:=v) h1 h2 (Nat.pow_pos (by omega))
 have hz0:=top_zero (by omega) hv1 hrv
 rw [hQe] at hQ hgm hgl
 have hr1:=Dg_getD hdr (k+L)
 have hr2:=Dg_getD hdr (k+L-1)
 have hr3:=Dg_getD hdr (k+L-2)
 have hdv:=Dg_digits v
 have hw1:=Dg_getD hdv (L-1)
 have hw2:=Dg_getD hdv (L-2)
 have hv0:0<v:=by
  have:0<4294967296 ^ L:=Nat.pow_pos (by omega)
  omega
 have hW:0<4294967296 ^ (L-1):=Nat.pow_pos (by omega)
 have hP:0<4294967296 ^ (L-2):=Nat.pow_pos (by omega)
 have hl1:(digits v).getD (L-1) 0=v / 4294967296 ^ (L-1):=top_one (by rw [show L-1+1=L by omega];exact hv1)
 have hl2:v / 4294967296 ^ (L-2)=v / 4294967296 ^ (L-1)*4294967296+(digits v).getD (L-2) 0:=by
  have:=div_pow_step v (L-2)
  rw [show L-2+1=L-1 by omega,← getD_digits] at this
  exact this
 have eBL:4294967296 ^ L=4294967296*4294967296 ^ (L-1):=by
  conv=>lhs;rw [show L=L-1+1 by omega,Nat.pow_succ,Nat.mul_comm]
 have hlead:2147483648≤v / 4294967296 ^ (L-1):=by
  rw [Nat.le_div_iff_mul_le hW]
  omega
 have hfirst:=kn_first (U:=val (r.drop k)) hW (by omega) hv0
 have htopb:=kn_top hW hU
 have hlo:=fun g h=>(kn_low (U:=val (r.drop k)) (v:=v) (g:=g) hP h).resolve_right (by omega)
 have hBW:4294967296*4294967296 ^ (L-2)≤v:=by
  have e:4294967296 ^ (L-1)=4294967296*4294967296 ^ (L-2):=by
   conv=>lhs;rw [show L-1=L-2+1 by omega,Nat.pow_succ,Nat.mul_comm]
  have:4294967296 ^ (L-1)*2147483648≤v:=by omega
  omega
 have hhi:=fun g h hg=>kn_high (U:=val (r.drop k)) (v:=v) (g:=g) (B:=4294967296) hP hv0 h hg hBW
 rw [← htop] at hfirst htopb hlow
 rw [← hl1] at hlead hfirst htopb hl2
 rw [hl2,hlow] at hlo hhi
 have hQB:val (r.drop k) / v<4294967296:=by
  rw [Nat.div_lt_iff_lt_mul hv0,Nat.mul_comm]
  exact hU
 generalize hQQ:val (r.drop k) / v=Q0 at *
 have k1:((k+L:Nat):Int)-1=((k+L-1:Nat):Int):=by omega
 have k3:((L:Nat):Int)-1=((L-1:Nat):Int):=by omega
 clear hl1 hl2 htop hlow hQe hBW eBL hU hW hP hdv hQQ hv2
 generalize hx1:r.getD (k+L) 0=x1 at *
 generalize hx2:r.getD (k+L-1) 0=x2 at *
 generalize hx3:r.getD (k+L-2) 0=x3 at *
 generalize hy1:(digits v).getD (L-1) 0=y1 at *
 generalize hy2:(digits v).getD (L-2) 0=y2 at *
 apply AX.sdreg [9,10,11,12,13,14,15] (by kernel_rfl) (by simp only [pq];rfl)
 ·repeat (first
 |(apply RunD.op rfl;· rfl
   ·rfl
   iterate 2 (· (simp (disch:=omega) only [go_sem,i64_of,u32_of,u64_of,Nat.reduceLT,Nat.reduceLeDiff,Nat.reduceEqDiff,Nat.reduceAdd,Nat.reduceSub,Nat.reduceMul,Nat.reducePow,Nat.reduceBEq,Int.reduceLE,Int.reduceLT,Int.reduceToNat,Int.reduceEq,Int.reduceNeg,↓reduceIte,reduceCtorEq,← Int.natCast_add,k1,hx1,hx2,shl32,ori' hr2 hr1];rfl))
   ·(simp only [pb,Nat.reduceLT,Nat.reduceAdd,reduceIte];rfl)
   ·rfl)
 |(apply RunD.skip;· rfl
   ·(simp only [pb,Nat.reduceLT,Nat.reduceAdd,reduceIte];rfl)
   ·rfl))
  exact RunD.nil
 ·repeat (first | exact Keep.nil | (apply Keep.take;· rfl) | (apply Keep.drop;· rfl))
 ·kernel_rfl
 obtain ⟨top,htt⟩:∃ top,top=x1*4294967296+x2:=⟨_,rfl⟩
 have htop64:top<18446744073709551616:=by omega
 rw [← htt] at hfirst htopb hlo hhi
 rw [← htt]
 have e3:Int.tdiv (top:Int) (y1:Int)=((top / y1:Nat):Int):=rfl
 have e4:Int.tmod (top:Int) (y1:Int)=((top % y1:Nat):Int):=rfl
 have hdm:=Nat.div_add_mod top y1
 have hml:=Nat.mod_lt top (show 0<y1 by omega)
 have hdl:=Nat.div_le_self top y1
 generalize htq:top / y1=g0 at *
 generalize htr:top % y1=rest0 at *
 refine AX.sD (rgDW [9,10,11,12,13,14,16,17] (aI @k3 (aI @hy1 (aI @hvL (aI @e3 (aI @e4 oT))))) oT) ?_
 refine AX.cut (fun st=>∃ g:Nat,Q0≤g∧g≤Q0+1∧g<4294967296∧st=⟨[(16,.i .u64 g),(14,.i .i64 k),(13,.own 2 0 (K+1-L) 1),(12,.i .i64 L),(11,nv v),(10,.own 0 0 (K+1) 1),(9,.i .u64 s)],[(2,⟨142,q.map u⟩),(0,⟨142,r.map u⟩)],3⟩) ?_ ?_
 ·refine AX.block ?_
  refine guess_step (by simp only [partB,Tryz.func127,Option.bind_some];rfl) hL2 hK hk hvL hr hr3 hw1 hw2 hx3 hy1 hy2 hlead htop64 htopb hlo hhi hQB (by rw [Nat.mul_comm];exact hdm) (by omega) hfirst ?_
  intro g h1 h2 h3
  refine nmZ ?_
  exact ⟨trivial,g,h1,h2,h3,rfl⟩
 clear hlo hhi hfirst htopb hlead htop64 htt hdm hml hdl htq htr e3 e4 g0 rest0 hx1 hx2 hx3 hy1 hy2 hw1 hw2 hr1 hr2 hr3 y1 y2 x1 x2 x3 top k1 k3
 rintro st ⟨g,hQg,hg1,hgB,rfl⟩
 refine AX.sR (rgA [9,10,11,12,13,14,16,18,19]) ?_
 refine AX.cut (fun st=>∃ (c w:Nat) (t:List Nat),t.length=K+1∧Dg t∧c<4294967296∧w≤1∧t.drop (k+L)=r.drop (k+L)∧val t+4294967296 ^ k*(g*v)=val r+4294967296 ^ (k+L)*(c+w) ∧
  st=⟨[(19,.i .u64 c),(18,.i .u64 w),(16,.i .u64 g),(14,.i .i64 k),(13,.own 2 0 (K+1-L) 1),(12,.i .i64 L),(11,nv v),(10,.own 0 0 (K+1) 1),(9,.i .u64 s)],[(2,⟨142,q.map u⟩),(0,⟨142,t.map u⟩)],3⟩) ?_ ?_
 ·refine AX.sR (rgA [9,10,11,12,13,14,16,18,19,158,159]) ?_
  refine AX.block ?_
  refine sub_step (by simp only [partB,Tryz.func127,Option.bind_some];rfl) hK hk hvL hr hdr hgB ?_
  intro c w t h1 h2 h3 h4 h5 h6
  refine nmZ ?_
  exact ⟨trivial,c,w,t,h1,h2,h3,h4,h5,h6,rfl⟩
 rintro st ⟨c,w,t,ht,hdt,hcB,hw,htd,hval,rfl⟩
 obtain ⟨y,hy⟩:∃ y,y=c+w:=⟨_,rfl⟩
 rw [← hy] at hval
 have hyB:y≤4294967296:=by omega
 refine AX.sR (rgW [9,10,11,12,13,14,16,22] (aI @cAdd (aI hy.symm oT)) oT) ?_
 clear hcB hw hy c w
 have hx:=Dg_getD hdt (k+L)
 have hset:=fun z=>val_set t (k+L) z (by omega)
 generalize hxx:t.getD (k+L) 0=x at *
 have eg:g % 4294967296=g:=Nat.mod_eq_of_lt hgB
 by_cases hb:x<y
 ·obtain ⟨z,hz⟩:∃ z,z=x+4294967296-y:=⟨_,rfl⟩
  have hzB:z<4294967296:=by omega
  have e1:IntKind.u64.wrap ((x:Int)-(y:Int))=((z+18446744069414584320:Nat):Int):=by rw [u64_wrap];omega
  have e2:(z+18446744069414584320) % 4294967296=z:=by omega
  refine AX.sR (rgW [9,10,11,12,13,14,16,22,23] (aI @cAdd (aI @hxx oT)) oT) ?_
  refine AX.sR (rgW [9,10,11,12,13,14,16,23] (aI @cAdd (aI @hxx (aI @e1 (aI @u32n (aI @e2 oT))))) oT) ?_
  have hR2:=top_math (b:=1) hval (hset z) (by omega)
  have hd2:=Dg_set hdt (i:=k+L) hzB
  have hl2:(t.set (k+L) z).length=K+1:=by simp [ht]
  have htp:=val_lt_top hd2 (by omega) (drop_more htd) hz0
  have htd2:(t.set (k+L) z).drop (k+L+1)=r.drop (k+L+1):=drop_more htd
  rw [Nat.mul_one] at hR2
  clear hset hval hxx hx e1 e2 htd hz hb
  generalize t.set (k+L) z=r2 at *
  clear hdt ht hzB hyB
  clear t x y z
  have hgQ:g=Q0+1:=by
   apply Classical.byContradiction
   intro hne
   have:g=Q0:=by omega
   subst this
   omega
  subst hgQ
  have eg1:((Q0+1:Nat):Int)-1=(Q0:Int):=by omega
  refine AX.seq ?_
  refine AX.sR (rgA [9,10,11,12,13,14,16,232]) ?_
  refine AX.condT ?_
  refine AX.sR (rgW [9,10,11,12,13,14,16] (aI @eg1 oT) oT) ?_
  refine AX.sR (rgA [9,10,11,12,13,14,16,19]) ?_
  refine AX.cut (fun st=>∃ (c:Nat) (t:List Nat),t.length=K+1∧Dg t∧c≤1∧t.drop (k+L)=r2.drop (k+L)∧val t+4294967296 ^ (k+L)*c=val r2+4294967296 ^ k*v ∧
   st=⟨[(19,.i .u64 c),(16,.i .u64 Q0),(14,.i .i64 k),(13,.own 2 0 (K+1-L) 1),(12,.i .i64 L),(11,nv v),(10,.own 0 0 (K+1) 1),(9,.i .u64 s)],[(2,⟨142,q.map u⟩),(0,⟨142,t.map u⟩)],3⟩) ?_ ?_
  ·refine AX.sR (rgA [9,10,11,12,13,14,16,19,235,236]) ?_
   refine AX.block ?_
   refine back_step (by simp only [partB,Tryz.func127,Option.bind_some];rfl) hK hk hvL hl2 hd2 ?_
   intro c t h1 h2 h3 h4 h5
   refine nmZ ?_
   exact ⟨trivial,c,t,h1,h2,h3,h4,h5,rfl⟩
  rintro st ⟨c,t,ht,hdt,hc1,htd,hval,rfl⟩
  have hx:=Dg_getD hdt (k+L)
  have hset:=fun z=>val_set t (k+L) z (by omega)
  generalize hxx:t.getD (k+L) 0=x at *
  have hcm:c % 4294967296=c:=Nat.mod_eq_of_lt (by omega)
  obtain ⟨m,hm⟩:∃ m,m=(x+c) % 4294967296:=⟨_,rfl⟩
  have hmB:m<4294967296:=by omega
  refine AX.rR (rgW [9,10,11,12,13,14,16] (aI @cAdd (aI @hxx (aI @u32n (aI @hcm (aI hm.symm oT))))) oT) ?_
  refine nmZ ?_
  apply AX.reg [9,10,11,12,13,14] (by simp only [pq];rfl)
  ·repeat (first
  |(apply RunO.op rfl;· rfl
    ·rfl
    iterate 2 (· (simp (disch:=omega) only [go_sem,i64_of,u32_of,u64_of,Nat.reduceLT,Nat.reduceLeDiff,Nat.reduceEqDiff,Nat.reduceAdd,Nat.reduceSub,Nat.reduceMul,Nat.reducePow,Nat.reduceBEq,Int.reduceLE,Int.reduceLT,Int.reduceToNat,Int.reduceEq,Int.reduceNeg,↓reduceIte,reduceCtorEq,u32n,Nat.mod_eq_of_lt hQB];rfl))
    ·(simp only [pb,Nat.reduceLT,Nat.reduceAdd,reduceIte];rfl))
  |(apply RunO.skip;· rfl
    ·(simp only [pb,Nat.reduceLT,Nat.reduceAdd,reduceIte];rfl)))
   exact RunO.nil
  ·repeat (first | exact Keep.nil | (apply Keep.take;· rfl) | (apply Keep.drop;· rfl))
  refine nmZ ?_
  have hd3:=Dg_set hdt (i:=k+L) hmB
  refine hQ (t.set (k+L) m) (by simp [ht]) hd3 ?_ hQB
  have htp2:=val_lt_top hd3 (by simp;omega) (drop_more htd) (by rw [htd2];exact hz0)
  exact back_math (e:=(x+c) / 4294967296) hR2 hval (hset m) (by omega) htp2 hgm (by omega)
 ·obtain ⟨z,hz⟩:∃ z,z=x-y:=⟨_,rfl⟩
  have hzB:z<4294967296:=by omega
  have e1:IntKind.u64.wrap ((x:Int)-(y:Int))=((z:Nat):Int):=by rw [u64_wrap];omega
  have e2:z % 4294967296=z:=by omega
  refine AX.sR (rgW [9,10,11,12,13,14,16,22,23] (aI @cAdd (aI @hxx oT)) oT) ?_
  refine AX.sR (rgW [9,10,11,12,13,14,16,23] (aI @cAdd (aI @hxx (aI @e1 (aI @u32n (aI @e2 oT))))) oT) ?_
  have hR2:=top_math (b:=0) hval (hset z) (by omega)
  have hd2:=Dg_set hdt (i:=k+L) hzB
  rw [Nat.mul_zero,Nat.add_zero] at hR2
  have hgQ:g=Q0:=by
   have:=hgl _ g hR2 hv0
   omega
  subst hgQ
  refine AX.seq ?_
  refine AX.sR (rgA [9,10,11,12,13,14,16,232]) ?_
  refine AX.condF ?_
  refine AX.keepA [9,10,11,12,13,14,16] ?_
  refine AX.skip ?_
  refine nmZ ?_
  refine AX.rR (rgW [9,10,11,12,13,14] (aI @u32n (aI @eg oT)) oT) ?_
  refine nmZ ?_
  exact hQ (t.set (k+L) z) (by simp [ht]) hd2 hR2 hgB
end Go.Proofs.YteidabibgjokkaaGreatDoor
