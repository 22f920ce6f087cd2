import Derived.Test.YteidabibgjokkaaGreatDoorQ2A
import Derived.Test.YteidabibgjokkaaGreatDoorGS
set_option maxRecDepth 20000
set_option linter.all false
namespace Go.Proofs.YteidabibgjokkaaGreatDoor
open Go Go.Proofs.YteidabibgjokkaaGreatDoor.Lift
attribute [local irreducible] Lift.PCall Lift.HCall
def gcd1 (g:Nat):Bool:=decide (g=1)
def isR (s:Bool) (a b:List Nat):Bool:=right a && right b && decide (0<b.length) && gcd1 (Nat.gcd (val a) (val b)) && (!s || decide (0<a.length))
theorem gcd_lt {a b:List Nat} (hla:a.length<2 ^ 36)(hlb:b.length<2 ^ 36)(ha:Dg a)(hb:Dg b):(digits (Nat.gcd (val a) (val b))).length<2 ^ 36:=by
 have h1:=digits_length_val ha
 have h2:=digits_length_val hb
 by_cases h:val b=0
 ·rw [h,Nat.gcd_zero_right];omega
 ·have:=digits_len_mono (Nat.gcd_le_right (val a) (Nat.pos_of_ne_zero h))
  omega
set_option maxHeartbeats 4000000 in
theorem qright_raw (s:Bool)(a b:List Nat)(ha:Dg a)(hb:Dg b)(hla:a.length<2 ^ 36)(hlb:b.length<2 ^ 36):PCall Tryz.prog 110 [rR s a b] (.b (isR s a b)) []:=by
 have c1:=right_ok a (by omega)
 have c2:=right_ok b (by omega)
 have c3:=gcd_ok a b ha hb hla hlb
 have c4:=small_n (Nat.gcd (val a) (val b)) (by have:=gcd_lt hla hlb ha hb;omega)
 obtain ⟨R,hR⟩:∃ R,isR s a b=R:=⟨_,rfl⟩
 rw [hR]
 unfold isR at hR
 generalize Nat.gcd (val a) (val b)=g at *
 unfold gcd1 at hR
 unfold smallV at c4
 refine PCall.of_ax Tryz.call110 Tryz.func110 rfl (by simp [Tryz.ntmps110]) fun O w=>?_
 simp only [Tryz.ntmps110,Tryz.results110,argFr]
 refine AX.sR (rgAV [1]) ?_
 cases hra:right a
 ·rw [hra] at c1
  have e:R=false:=by rw [← hR,hra];rfl
  subst e
  refine AX.seq ?_
  refine AX.sR (rgCV [1,30] (aI c1 oT)) ?_
  refine AX.condT ?_
  refine AX.sR (rgAV [2]) ?_
  refine AX.ret ⟨.inl rfl,?_⟩
  exact Done.one rfl rfl rfl rfl
 rw [hra] at c1
 cases hrb:right b
 ·rw [hrb] at c2
  have e:R=false:=by rw [← hR,hra,hrb];rfl
  subst e
  refine AX.seq ?_
  refine AX.sR (rgCV [1,30] (aI c1 (aI c2 oT))) ?_
  refine AX.condT ?_
  refine AX.sR (rgAV [2]) ?_
  refine AX.ret ⟨.inl rfl,?_⟩
  exact Done.one rfl rfl rfl rfl
 rw [hrb] at c2
 by_cases hb0:b.length=0
 ·have e:R=false:=by rw [← hR,hra,hrb,decide_eq_false (by omega:¬ 0<b.length)];rfl
  subst e
  refine AX.seq ?_
  refine AX.sR (rgCV [1,30] (aI c1 (aI c2 oT))) ?_
  refine AX.condT ?_
  refine AX.sR (rgAV [2]) ?_
  refine AX.ret ⟨.inl rfl,?_⟩
  exact Done.one rfl rfl rfl rfl
 refine AX.cutR (fun st=>(s=false∨0<a.length)∧st=⟨[(1,.ptr 0 0)],[(0,⟨54,[.b s,dg a,dg b]⟩)],1⟩) ?_ ?_
 ·by_cases ha0:a.length=0
  ·cases s
   ·refine AX.sR (rgCV [1,30] (aI c1 (aI c2 oT))) ?_
    refine AX.condF ?_
    refine AX.keepA [1] ?_
    refine AX.skip ⟨.inl rfl,rfl⟩
   ·have e:R=false:=by rw [← hR,decide_eq_false (by omega:¬ 0<a.length)];simp
    subst e
    refine AX.sR (rgCV [1,30] (aI c1 (aI c2 oT))) ?_
    refine AX.condT ?_
    refine AX.sR (rgAV [2]) ?_
    refine AX.ret ⟨.inl rfl,?_⟩
    exact Done.one rfl rfl rfl rfl
  ·refine AX.sR (rgCV [1,30] (aI c1 (aI c2 oT))) ?_
   refine AX.condF ?_
   refine AX.keepA [1] ?_
   refine AX.skip ⟨.inr (by omega),rfl⟩
 rintro st ⟨hs,rfl⟩
 have e:R=decide (g=1):=by
  rw [← hR,hra,hrb,decide_eq_true (by omega:0<b.length)]
  rcases hs with rfl | hs
  ·simp
  ·rw [decide_eq_true hs];simp
 subst e
 clear hR
 by_cases hg:g=1
 ·subst hg
  refine AX.sR (rgCV [3,4] (aI c3 (aI c4 oT))) ?_
  refine AX.sR (rgAV [2]) ?_
  refine AX.ret ⟨.inl rfl,?_⟩
  exact Done.one rfl rfl rfl rfl
 ·rw [decide_eq_false hg]
  by_cases hg2:g<18446744073709551616
  ·have e:smallN g=g:=if_pos hg2
   rw [decide_eq_true hg2,e] at c4
   refine AX.sR (rgCV [3,4] (aI c3 (aI c4 oT))) ?_
   refine AX.sR (rgWV [2] (aI @hg oT) oT) ?_
   refine AX.ret ⟨.inl rfl,?_⟩
   exact Done.one rfl rfl rfl rfl
  ·rw [decide_eq_false hg2] at c4
   refine AX.sR (rgCV [3,4] (aI c3 (aI c4 oT))) ?_
   refine AX.sR (rgAV [2]) ?_
   refine AX.ret ⟨.inl rfl,?_⟩
   exact Done.one rfl rfl rfl rfl
theorem cmp_one (g:Nat):decide (cmp g 1=0)=gcd1 g:=by
 unfold gcd1
 by_cases h:g=1
 ·subst h;rw [decide_eq_true rfl,cmp_eq,decide_eq_true rfl]
 ·rw [decide_eq_false h]
  apply decide_eq_false
  unfold cmp
  split<;>first | omega | (split<;>omega)
set_option maxHeartbeats 4000000 in
theorem pright_ok (s:Bool)(a b:List Nat)(ha:Dg a)(hb:Dg b)(hla:a.length<2 ^ 36)(hlb:b.length<2 ^ 36):PCall Tryz.prog 136 [rR s a b] (.b (isR s a b)) []:=by
 have c1:=rright_ok a (by omega)
 have c2:=rright_ok b (by omega)
 have c3:=rgcd_ok a b ha hb hla hlb
 have c4:=rof_ok 1 (by omega)
 have l1:(digits 1).length≤2:=lenS (by omega)
 have c5:=rcmp_n (Nat.gcd (val a) (val b)) 1 (by have:=gcd_lt hla hlb ha hb;omega) (by omega)
 have c6:=rcmp_ok b (digits 1) hb (Dg_digits _) (by omega) (by omega)
 rw [val_digits] at c6
 have z5:=cmp_one (Nat.gcd (val a) (val b))
 have z6:=cmp_one (val b)
 have z7:a.length=0→Nat.gcd (val a) (val b)=val b:=by
  intro h
  rw [List.length_eq_zero_iff.1 h]
  exact Nat.gcd_zero_left _
 clear l1
 obtain ⟨R,hR⟩:∃ R,isR s a b=R:=⟨_,rfl⟩
 rw [hR]
 unfold isR at hR
 generalize Nat.gcd (val a) (val b)=g at *
 unfold gcd1 at hR z5 z6
 generalize val b=vb at *
 generalize cmp g 1=x5 at *
 generalize cmp vb 1=x6 at *
 refine PCall.of_ax Tryz.call136 Tryz.func136 rfl (by simp [Tryz.ntmps136]) fun O w=>?_
 simp only [Tryz.ntmps136,Tryz.results136,argFr]
 refine AX.sR (rgAV [1]) ?_
 refine AX.seq ?_
 cases hra:right a
 ·rw [hra] at c1
  have e:R=false:=by rw [← hR,hra];rfl
  subst e
  refine AX.sR (rgCV [1,18] (aI c1 oT)) ?_
  refine AX.condT ?_
  refine AX.sR (rgAV [2]) ?_
  refine AX.ret ⟨.inl rfl,?_⟩
  exact Done.one rfl rfl rfl rfl
 rw [hra] at c1
 cases hrb:right b
 ·rw [hrb] at c2
  have e:R=false:=by rw [← hR,hra,hrb];rfl
  subst e
  refine AX.sR (rgCV [1,18] (aI c1 (aI c2 oT))) ?_
  refine AX.condT ?_
  refine AX.sR (rgAV [2]) ?_
  refine AX.ret ⟨.inl rfl,?_⟩
  exact Done.one rfl rfl rfl rfl
 rw [hrb] at c2
 by_cases hb0:b.length=0
 ·have e:R=false:=by rw [← hR,hra,hrb,decide_eq_false (by omega:¬ 0<b.length)];rfl
  subst e
  refine AX.sR (rgCV [1,18] (aI c1 (aI c2 oT))) ?_
  refine AX.condT ?_
  refine AX.sR (rgAV [2]) ?_
  refine AX.ret ⟨.inl rfl,?_⟩
  exact Done.one rfl rfl rfl rfl
 rw [hra,hrb,decide_eq_true (by omega:0<b.length)] at hR
 refine AX.sR (rgCV [1,18] (aI c1 (aI c2 oT))) ?_
 refine AX.condF ?_
 refine AX.keepA [1] ?_
 refine AX.skip ?_
 refine nmZ ?_
 refine AX.seq ?_
 by_cases ha0:a.length=0
 ·rw [decide_eq_false (by omega:¬ 0<a.length),z7 ha0,← z6] at hR
  refine AX.sR (rgAV [1,22]) ?_
  refine AX.condT ?_
  cases s
  ·have e:R=decide (x6=0):=by rw [← hR];simp
   subst e
   clear hR
   refine AX.sD (rgDCV [2] (aI c4 (aI c6 oT))) ?_
   refine AX.ret ⟨.inl rfl,?_⟩
   exact Done.one rfl rfl rfl rfl
  ·have e:R=false:=by rw [← hR];simp
   subst e
   refine AX.sD (rgDCV [2] (aI c4 (aI c6 oT))) ?_
   refine AX.ret ⟨.inl rfl,?_⟩
   exact Done.one rfl rfl rfl rfl
 ·rw [decide_eq_true (by omega:0<a.length),← z5] at hR
  have e:R=decide (x5=0):=by rw [← hR];cases s<;>simp
  subst e
  clear hR
  refine AX.sR (rgAV [1,22]) ?_
  refine AX.condF ?_
  refine AX.keepA [1] ?_
  refine AX.skip ?_
  refine nmZ ?_
  refine AX.sR (rgCV [2] (aI c3 (aI c4 (aI c5 oT)))) ?_
  refine AX.ret ⟨.inl rfl,?_⟩
  exact Done.one rfl rfl rfl rfl
set_option maxHeartbeats 2000000 in
theorem psize_ok (z:Int)(hz:-9223372036854775808≤z∧z≤9223372036854775807):PCall Tryz.prog 64 [.i .i64 z] (.tup [nv z.natAbs,.b (decide (z<0))]) []:=by
 refine PCall.of_ax Tryz.call64 Tryz.func64 rfl (by simp [Tryz.ntmps64]) fun O w=>?_
 simp only [Tryz.ntmps64,Tryz.results64,argFr]
 have c1:=rof_ok z.natAbs (by omega)
 refine AX.sR (rgAV [0]) ?_
 refine AX.seq ?_
 by_cases h:z<0
 ·rw [decide_eq_true h]
  have e1:((z.natAbs:Nat):Int)=0-(z+1)+1:=by omega
  rw [e1] at c1
  generalize z.natAbs=m at *
  refine AX.sR (rgAV [0,5]) ?_
  refine AX.condT ?_
  refine AX.sR (rgCV [2,3] (aI c1 oT)) ?_
  refine AX.ret ⟨.inl rfl,?_⟩
  exact Done.two rfl rfl rfl rfl rfl
 ·rw [decide_eq_false h]
  have e1:((z.natAbs:Nat):Int)=z:=by omega
  rw [e1] at c1
  generalize z.natAbs=m at *
  refine AX.sR (rgAV [0,5]) ?_
  refine AX.condF ?_
  refine AX.keepA [0] ?_
  refine AX.skip ?_
  refine nmZ ?_
  refine AX.sR (rgCV [2,3] (aI c1 oT)) ?_
  refine AX.ret ⟨.inl rfl,?_⟩
  exact Done.two rfl rfl rfl rfl rfl
set_option maxHeartbeats 2000000 in
theorem pmake_ok (p q:Int)(hp:-9223372036854775808≤p∧p≤9223372036854775807)(hq:-9223372036854775808≤q∧q≤9223372036854775807):PCall Tryz.prog 33 [.i .i64 p,.i .i64 q] (ofV (decide (p<0) != decide (q<0)) p.natAbs q.natAbs) []:=by
 refine PCall.of_ax Tryz.call33 Tryz.func33 rfl (by simp [Tryz.ntmps33]) fun O w=>?_
 simp only [Tryz.ntmps33,Tryz.results33,argFr]
 have c1:=psize_ok p hp
 have c2:=psize_ok q hq
 have l1:(digits p.natAbs).length≤2:=lenS (by omega)
 have l2:(digits q.natAbs).length≤2:=lenS (by omega)
 have c3:=pof_ok (decide (p<0) != decide (q<0)) (digits p.natAbs) (digits q.natAbs) (Dg_digits _) (Dg_digits _) (by omega) (by omega)
 rw [val_digits,val_digits] at c3
 clear l1 l2
 generalize decide (p<0)=s at *
 generalize decide (q<0)=t at *
 generalize p.natAbs=m at *
 generalize q.natAbs=n at *
 refine AX.sR (rgAV [0,1,4]) ?_
 refine AX.sR (rgCV [1,4,6,7] (aI c1 oT)) ?_
 refine AX.sR (rgCV [4,6,7,8,9] (aI c2 oT)) ?_
 unfold ofV at c3 ⊢
 by_cases hn:n=0
 ·rw [if_pos hn] at c3 ⊢
  refine AX.sR (rgCV [4,5] (aI c3 oT)) ?_
  refine AX.ret ⟨.inl rfl,?_⟩
  exact Done.cellE (x:=[]) (y:=[]) rfl rfl rfl
 ·rw [if_neg hn] at c3 ⊢
  refine AX.sR (rgCV [4,5] (aI c3 oT)) ?_
  refine AX.ret ⟨.inl rfl,?_⟩
  exact Done.cellE rfl rfl rfl
theorem psgn_sub (A B:Rat):sgnR (A-B)=cmpR A B:=by
 have tri:A<B∨A=B∨B<A:=by grind
 unfold sgnR
 rcases tri with h | h | h
 ·rw [cmpR_lt h,if_pos (by grind)]
 ·subst h;rw [cmpR_self,if_neg (by grind),if_pos (by grind)]
 ·rw [cmpR_gt h,if_neg (by grind),if_neg (by grind)]
set_option maxHeartbeats 2000000 in
theorem pcmp_ok {x y:V} {p q:Rat} {L:Nat} (hx:IsQ x p L)(hy:IsQ y q L)(hL:L<2 ^ 33)(hL1:1≤L):PCall Tryz.prog 37 [x,y] (.i .i64 (cmpR p q)) []:=by
 have c1:=psub_ok hx hy hL hL1
 have l1:=rL_sub p q (hx.rL hL1) (hy.rL hL1)
 have c2:=psign_ok (IsQ.of l1) (by omega)
 rw [psgn_sub] at c2
 obtain ⟨s,a,b,rfl,ha,hb,hp,hla,hlb⟩:=hx
 obtain ⟨t,c,d,rfl,hc,hd,hq,hlc,hld⟩:=hy
 refine PCall.of_ax Tryz.call37 Tryz.func37 rfl (by simp [Tryz.ntmps37]) fun O w=>?_
 simp only [Tryz.ntmps37,Tryz.results37,argFr]
 generalize p-q=R at *
 generalize cmpR p q=Z at *
 refine AX.sR (rgAV [2,3]) ?_
 refine AX.sR (rgCV [4] (aI c1 (aI c2 oT))) ?_
 refine AX.ret ⟨.inl rfl,?_⟩
 exact Done.one rfl rfl rfl rfl
theorem cmp0_dec (p q:Rat):decide (cmpR p q=0)=decide (p=q):=decide_eq_decide.2 cmpR_eq_zero
set_option maxHeartbeats 2000000 in
theorem psame_ok {x y:V} {p q:Rat} {L:Nat} (hx:IsQ x p L)(hy:IsQ y q L)(hL:L<2 ^ 33)(hL1:1≤L):PCall Tryz.prog 27 [x,y] (.b (decide (p=q))) []:=by
 have c1:=pcmp_ok hx hy hL hL1
 have e:=cmp0_dec p q
 obtain ⟨s,a,b,rfl,ha,hb,hp,hla,hlb⟩:=hx
 obtain ⟨t,c,d,rfl,hc,hd,hq,hlc,hld⟩:=hy
 refine PCall.of_ax Tryz.call27 Tryz.func27 rfl (by simp [Tryz.ntmps27]) fun O w=>?_
 simp only [Tryz.ntmps27,Tryz.results27,argFr]
 rw [← e]
 generalize cmpR p q=Z at *
 refine AX.sR (rgAV [2,3]) ?_
 refine AX.sR (rgCV [4] (aI c1 oT)) ?_
 refine AX.ret ⟨.inl rfl,?_⟩
 exact Done.one rfl rfl rfl rfl
set_option maxHeartbeats 4000000 in
theorem psum_ok {els:List V} {qs:List Rat} {L:Nat} (h:IsQs els qs L)(hL:els.length*(L+1)+L+1<2 ^ 34)(hL1:1≤L):PCall Tryz.prog 101 [.sl els] (rV (sumTo qs els.length)) []:=by
 have hlen:els.length<2 ^ 34:=by
  have:els.length*1≤els.length*(L+1):=Nat.mul_le_mul_left _ (by omega)
  omega
 refine PCall.of_ax Tryz.call101 Tryz.func101 rfl (by simp [Tryz.ntmps101]) fun O w=>?_
 simp only [Tryz.ntmps101,Tryz.results101,argFr]
 have c1:PCall Tryz.prog 30 [] (rR (decide ((0:Rat).num<0)) (digits (0:Rat).num.natAbs) (digits (0:Rat).den)) []:=pzero_ok
 refine AX.sR (rgAV [0,2]) ?_
 refine AX.sR (rgCV [0,2,3] (aI c1 oT)) ?_
 refine AX.seq ?_
 refine AX.sR (rgAV [0,2,3,4]) ?_
 refine AX.block ?_
 refine AX.loop (fun N st=>∃ i:Nat,i≤els.length∧N=els.length-i∧st=⟨[(4,.i .i64 i),(3,.ptr 1 0),(2,.ptr 0 0),(0,.sl els)],[(1,⟨54,[.b (decide ((sumTo qs i).num<0)),dg (digits (sumTo qs i).num.natAbs),dg (digits (sumTo qs i).den)]⟩),(0,⟨54,[.b false,.nl,.nl]⟩)],2⟩) els.length ⟨0,Nat.zero_le _,rfl,rfl⟩ ?_
 rintro N st ⟨i,hi,rfl,rfl⟩
 refine AX.seq ?_
 by_cases h1:i<els.length
 ·obtain ⟨s,a,b,he,ha,hb,hq,hla,hlb⟩:=h.2 i h1
  have hm:i*(L+1)+(L+1)≤els.length*(L+1):=by
   rw [← Nat.succ_mul]
   exact Nat.mul_le_mul_right _ (by omega)
  have hs:=sumTo_len h hL1 i hi
  have c2:PCall Tryz.prog 52 [rR (decide ((sumTo qs i).num<0)) (digits (sumTo qs i).num.natAbs) (digits (sumTo qs i).den),rR s a b] (rR (decide ((sumTo qs (i+1)).num<0)) (digits (sumTo qs (i+1)).num.natAbs) (digits (sumTo qs (i+1)).den)) []:=
   padd_ok (L:=i*(L+1)+1+L) (IsQ.of (by omega)) ⟨s,a,b,rfl,ha,hb,hq,by omega,by omega⟩ (by omega) (by omega)
  have hix:=fun x y=>effIxR (x:=x) (y:=y) h1 he
  generalize sumTo qs i=P0 at *
  refine AX.sR (rgAV [0,2,3,4,9]) ?_
  refine AX.condT ?_
  refine AX.keepA [0,2,3,4] ?_
  refine AX.skip ?_
  refine nmZ ?_
  refine AX.seq ?_
  refine AX.block ?_
  refine AX.rD (rgDEV [0,2,3,4] oT (aI c2 oT) (aI hix oT)) ?_
  refine nmZ ?_
  refine AX.rR (rgWV [0,2,3,4] (aI @lit_add oT) oT) ?_
  refine nmZ ?_
  refine ⟨els.length-(i+1),_,id,by omega,
   leA
   , ⟨i+1,by omega,rfl,rfl⟩⟩
 ·refine AX.sR (rgAV [0,2,3,4,9]) ?_
  refine AX.condF ?_
  refine AX.exit ?_
  refine nmZ ?_
  have e:i=els.length:=by omega
  subst e
  refine AX.sR (rgAV [2]) ?_
  refine AX.ret ⟨.inl rfl,?_⟩
  exact Done.cell rfl rfl
end Go.Proofs.YteidabibgjokkaaGreatDoor
