import Derived.Test.YteidabibgjokkaaGreatDoorGD
import Derived.Test.YteidabibgjokkaaGreatDoorGY
import Derived.Test.YteidabibgjokkaaGreatDoorGS
set_option maxRecDepth 20000
set_option linter.all false
namespace Go.Proofs.YteidabibgjokkaaGreatDoor
open Go Go.Proofs.YteidabibgjokkaaGreatDoor.Lift
attribute [local irreducible] Lift.PCall Lift.HCall
theorem pzero_ok:PCall Tryz.prog 30 [] (rV 0) []:=by
 refine PCall.of_ax Tryz.call30 Tryz.func30 rfl (by simp [Tryz.ntmps30]) fun O w=>?_
 simp only [Tryz.ntmps30,Tryz.results30,argFr]
 have c1:=rof_ok 1 (by omega)
 refine AX.sR (rgAV [0]) ?_
 refine AX.sR (rgCV [0] (aI c1 oT)) ?_
 refine AX.ret ⟨.inl rfl,?_⟩
 rw [rV_zero]
 exact Done.cell0 rfl rfl
theorem blen_z0 {n:Nat}:blen n=0↔n=0:=by
 constructor
 ·intro e
  apply Classical.byContradiction
  intro h
  have:=blen_pos h
  omega
 ·rintro rfl;exact blen_zero
set_option maxHeartbeats 2000000 in
theorem pof_ok (s:Bool)(a b:List Nat)(ha:Dg a)(hb:Dg b)(hla:a.length<2 ^ 36)(hlb:b.length<2 ^ 36):PCall Tryz.prog 65 [.b s,dg a,dg b] (ofV s (val a) (val b)) []:=by
 refine PCall.of_ax Tryz.call65 Tryz.func65 rfl (by simp [Tryz.ntmps65]) fun O w=>?_
 simp only [Tryz.ntmps65,Tryz.results65,argFr]
 have hma:=digits_length_val ha
 have hmb:=digits_length_val hb
 have c1:=rgcd_ok a b ha hb hla hlb
 have c2:=rbits_ok b hb (by omega)
 have hbz:=blen_z0 (n:=val b)
 refine AX.sR (rgAV [0,1,2,6,7]) ?_
 refine AX.seq ?_
 unfold ofV
 by_cases hn:val b=0
 ·rw [if_pos hn]
  have hB:=hbz.2 hn
  rw [hB] at c2
  refine AX.sR (rgCV [0,1,2,6,7,17] (aI c2 oT)) ?_
  refine AX.condT ?_
  refine AX.sR (rgAV [6,7]) ?_
  refine AX.ret ⟨.inl rfl,?_⟩
  exact Done.cellZ rfl rfl rfl
 rw [if_neg hn]
 have hB:blen (val b)≠0:=fun e=>hn (hbz.1 e)
 have hg0:Nat.gcd (val a) (val b)≠0:=fun e=>hn (Nat.gcd_eq_zero_iff.1 e).2
 have hgl2:(digits (Nat.gcd (val a) (val b))).length<2 ^ 36:=by
  have h1:=digits_len_mono (Nat.gcd_le_right (val a) (Nat.pos_of_ne_zero hn))
  omega
 have c3:=rdiv_ok a (digits (Nat.gcd (val a) (val b))) ha (Dg_digits _) hla hgl2
 have c4:=rdiv_ok b (digits (Nat.gcd (val a) (val b))) hb (Dg_digits _) hlb hgl2
 rw [val_digits] at c3 c4
 unfold divV at c3 c4
 rw [rV_rq hn]
 have hq:=digits_len_mono (Nat.div_le_self (val a) (Nat.gcd (val a) (val b)))
 clear hbz
 generalize blen (val b)=BL at *
 generalize val a=m at *
 generalize val b=n at *
 generalize Nat.gcd m n=g at *
 generalize remN m g=r1 at *
 generalize remN n g=r2 at *
 generalize divE g=e at *
 generalize m / g=x at *
 generalize n / g=y at *
 refine AX.sR (rgCV [0,1,2,6,17] (aI c2 oT)) ?_
 refine AX.condF ?_
 refine AX.keepA [0,1,2,6] ?_
 refine AX.skip ?_
 refine nmZ ?_
 refine AX.sR (rgCV [0,1,2,6,8] (aI c1 oT)) ?_
 refine AX.sR (rgCV [0,2,6,8,9] (aI c3 oT)) ?_
 refine AX.sR (rgCV [0,6,9,12] (aI c4 oT)) ?_
 cases s
 ·refine AX.sR (rgAV [6,7]) ?_
  refine AX.ret ⟨.inl rfl,?_⟩
  exact Done.cellE rfl rfl rfl
 ·by_cases hx:0<(digits x).length
  ·rw [decide_eq_true hx]
   refine AX.sR (rgAV [6,7]) ?_
   refine AX.ret ⟨.inl rfl,?_⟩
   exact Done.cellE rfl rfl rfl
  ·rw [decide_eq_false hx]
   refine AX.sR (rgAV [6,7]) ?_
   refine AX.ret ⟨.inl rfl,?_⟩
   exact Done.cellE rfl rfl rfl
set_option maxHeartbeats 2000000 in
theorem pvalid_ok {x:V} {q:Rat} {L:Nat} (h:IsQ x q L)(hL:L<2 ^ 36):PCall Tryz.prog 66 [x] (rV q) []:=by
 obtain ⟨s,a,b,rfl,ha,hb,rfl,hla,hlb⟩:=h
 refine PCall.of_ax Tryz.call66 Tryz.func66 rfl (by simp [Tryz.ntmps66]) fun O w=>?_
 simp only [Tryz.ntmps66,Tryz.results66,argFr]
 have c1:=pof_ok s a b ha hb (by omega) (by omega)
 unfold ofV at c1
 refine AX.sR (rgAV [1,2]) ?_
 by_cases hn:val b=0
 ·rw [if_pos hn] at c1
  have c2:=pzero_ok
  rw [hn,rq_den0,rV_zero]
  rw [rV_zero] at c2
  refine AX.sR (rgCV [2,3,4] (aI c1 oT)) ?_
  refine AX.seq ?_
  refine AX.sR (rgAV [2,3,16]) ?_
  refine AX.condT ?_
  refine AX.sR (rgCV [2] (aI c2 oT)) ?_
  refine AX.ret ⟨.inl rfl,?_⟩
  exact Done.cell (x:=[]) rfl rfl
 ·rw [if_neg hn] at c1
  refine AX.sR (rgCV [2,3,4] (aI c1 oT)) ?_
  refine AX.seq ?_
  refine AX.sR (rgAV [2,3,16]) ?_
  refine AX.condF ?_
  refine AX.keepA [2,3] ?_
  refine AX.skip ?_
  refine nmZ ?_
  refine AX.sR (rgAV [2]) ?_
  refine AX.ret ⟨.inl rfl,?_⟩
  exact Done.cell rfl rfl
set_option maxHeartbeats 2000000 in
theorem psign_ok {x:V} {q:Rat} {L:Nat} (h:IsQ x q L)(hL:L<2 ^ 36):PCall Tryz.prog 34 [x] (.i .i64 (sgnR q)) []:=by
 have c1:PCall Tryz.prog 66 [x] (rR (decide (q.num<0)) (digits q.num.natAbs) (digits q.den)) []:=pvalid_ok h hL
 refine PCall.of_ax Tryz.call34 Tryz.func34 rfl (by simp [Tryz.ntmps34]) fun O w=>?_
 simp only [Tryz.ntmps34,Tryz.results34,argFr]
 have e0:(digits q.num.natAbs).length=0↔q=0:=by
  rw [digits_len_zero,Int.natAbs_eq_zero,Rat.num_eq_zero]
 have e1:q.num<0↔q<0:=by
  have h:=rq_neg (s:=decide (q.num<0)) (m:=q.num.natAbs) q.den_nz
  rw [rq_self,sg_self] at h
  exact h.symm
 unfold sgnR
 obtain ⟨s,a,b,rfl,ha,hb,hq,hla,hlb⟩:=h
 clear hq
 generalize q.num.natAbs=N at *
 generalize q.den=D at *
 by_cases hz:q=0
 ·have h1:¬ q<0:=by rw [hz];exact Rat.lt_irrefl
  rw [if_neg h1,if_pos hz]
  have h0:=e0.2 hz
  generalize decide (q.num<0)=sg at *
  refine AX.sR (rgAV [1]) ?_
  refine AX.sR (rgCV [1] (aI c1 oT)) ?_
  refine AX.seq ?_
  refine AX.block ?_
  refine AX.sR (rgAV [1,5]) ?_
  refine AX.condT ?_
  refine AX.sR (rgAV [2]) ?_
  refine AX.ret ⟨.inl rfl,?_⟩
  exact Done.one rfl rfl rfl rfl
 ·have h0:(digits N).length≠0:=fun e=>hz (e0.1 e)
  by_cases h1:q<0
  ·rw [if_pos h1]
   rw [decide_eq_true (e1.2 h1)] at c1
   refine AX.sR (rgAV [1]) ?_
   refine AX.sR (rgCV [1] (aI c1 oT)) ?_
   refine AX.seq ?_
   refine AX.block ?_
   refine AX.sR (rgAV [1,5]) ?_
   refine AX.condF ?_
   refine AX.sR (rgAV [1,10]) ?_
   refine AX.condT ?_
   refine AX.sR (rgAV [2]) ?_
   refine AX.ret ⟨.inl rfl,?_⟩
   exact Done.one rfl rfl rfl rfl
  ·rw [if_neg h1,if_neg hz]
   rw [decide_eq_false (fun e=>h1 (e1.1 e))] at c1
   refine AX.sR (rgAV [1]) ?_
   refine AX.sR (rgCV [1] (aI c1 oT)) ?_
   refine AX.seq ?_
   refine AX.block ?_
   refine AX.sR (rgAV [1,5]) ?_
   refine AX.condF ?_
   refine AX.sR (rgAV [1,10]) ?_
   refine AX.condF ?_
   refine AX.keepA [1] ?_
   refine AX.skip ?_
   refine nmZ ?_
   refine AX.sR (rgAV [2]) ?_
   refine AX.ret ⟨.inl rfl,?_⟩
   exact Done.one rfl rfl rfl rfl
theorem rV_neg (q:Rat):rV (-q)=rR (!decide (q.num<0) && decide (0<(digits q.num.natAbs).length)) (digits q.num.natAbs) (digits q.den):=by
 have e1:(-q).num=-q.num:=Rat.neg_num q
 have e2:(-q).den=q.den:=Rat.neg_den q
 unfold rV
 rw [e1,e2,Int.natAbs_neg]
 have e3:decide (-q.num<0)=(!decide (q.num<0) && decide (0<(digits q.num.natAbs).length)):=by
  by_cases h:q.num<0
  ·rw [decide_eq_true h,decide_eq_false (by omega)];rfl
  ·rw [decide_eq_false h]
   by_cases h0:q.num=0
   ·rw [h0]
    have:(digits (0:Int).natAbs).length=0:=by rw [Int.natAbs_zero,digits_zero];rfl
    rw [this]
    rfl
   ·have:0<(digits q.num.natAbs).length:=Nat.pos_of_ne_zero fun e=>by have:=digits_len_zero.1 e;omega
    rw [decide_eq_true this,decide_eq_true (by omega)];rfl
 rw [e3]
set_option maxHeartbeats 2000000 in
theorem pneg_ok {x:V} {q:Rat} {L:Nat} (h:IsQ x q L)(hL:L<2 ^ 36):PCall Tryz.prog 123 [x] (rV (-q)) []:=by
 have c1:PCall Tryz.prog 66 [x] (rR (decide (q.num<0)) (digits q.num.natAbs) (digits q.den)) []:=pvalid_ok h hL
 obtain ⟨s,a,b,rfl,ha,hb,hq,hla,hlb⟩:=h
 refine PCall.of_ax Tryz.call123 Tryz.func123 rfl (by simp [Tryz.ntmps123]) fun O w=>?_
 simp only [Tryz.ntmps123,Tryz.results123,argFr]
 rw [rV_neg]
 clear hq
 generalize q.num.natAbs=N at *
 generalize q.den=D at *
 generalize decide (q.num<0)=sg at *
 refine AX.sR (rgAV [1,2]) ?_
 refine AX.sR (rgCV [1,2] (aI c1 oT)) ?_
 cases sg
 ·by_cases hx:0<(digits N).length
  ·rw [decide_eq_true hx]
   refine AX.sR (rgAV [1,2]) ?_
   refine AX.sR (rgAV [2]) ?_
   refine AX.ret ⟨.inl rfl,?_⟩
   exact Done.cell rfl rfl
  ·rw [decide_eq_false hx]
   refine AX.sR (rgAV [1,2]) ?_
   refine AX.sR (rgAV [2]) ?_
   refine AX.ret ⟨.inl rfl,?_⟩
   exact Done.cell rfl rfl
 ·refine AX.sR (rgAV [1,2]) ?_
  refine AX.sR (rgAV [2]) ?_
  refine AX.ret ⟨.inl rfl,?_⟩
  exact Done.cell rfl rfl
set_option maxHeartbeats 4000000 in
theorem padd_ok {x y:V} {p q:Rat} {L:Nat} (hx:IsQ x p L)(hy:IsQ y q L)(hL1:1≤L)(hL:L<2 ^ 34):PCall Tryz.prog 52 [x,y] (rV (p+q)) []:=by
 have c1:PCall Tryz.prog 66 [x] (rR (decide (p.num<0)) (digits p.num.natAbs) (digits p.den)) []:=pvalid_ok hx (by omega)
 have c2:PCall Tryz.prog 66 [y] (rR (decide (q.num<0)) (digits q.num.natAbs) (digits q.den)) []:=pvalid_ok hy (by omega)
 have lp:rL p≤L:=by
  obtain ⟨s,a,b,rfl,ha,hb,hp,hla,hlb⟩:=hx
  rw [← hp]
  exact rL_rq (Nat.le_trans (digits_length_val ha) hla) (Nat.le_trans (digits_length_val hb) hlb) hL1
 have lq:rL q≤L:=by
  obtain ⟨s,a,b,rfl,ha,hb,hp,hla,hlb⟩:=hy
  rw [← hp]
  exact rL_rq (Nat.le_trans (digits_length_val ha) hla) (Nat.le_trans (digits_length_val hb) hlb) hL1
 have p1:(digits p.num.natAbs).length≤rL p:=Nat.le_max_left _ _
 have p2:(digits p.den).length≤rL p:=Nat.le_max_right _ _
 have q1:(digits q.num.natAbs).length≤rL q:=Nat.le_max_left _ _
 have q2:(digits q.den).length≤rL q:=Nat.le_max_right _ _
 have ep:=rq_self p
 have eq:=rq_self q
 have dp:=p.den_nz
 have dq:=q.den_nz
 obtain ⟨s,a,b,rfl,ha,hb,hp,hla,hlb⟩:=hx
 obtain ⟨t,c,d,rfl,hc,hd,hq,hlc,hld⟩:=hy
 refine PCall.of_ax Tryz.call52 Tryz.func52 rfl (by simp [Tryz.ntmps52]) fun O w=>?_
 simp only [Tryz.ntmps52,Tryz.results52,argFr]
 have e:p+q=rq (decide (p.num<0)) p.num.natAbs p.den+rq (decide (q.num<0)) q.num.natAbs q.den:=by rw [ep,eq]
 rw [e]
 clear e ep eq hp hq
 generalize p.num.natAbs=N1 at *
 generalize q.num.natAbs=N2 at *
 generalize p.den=D1 at *
 generalize q.den=D2 at *
 generalize decide (p.num<0)=s1 at *
 generalize decide (q.num<0)=s2 at *
 have m1:=rmul_n N1 D2 (by omega) (by omega)
 have m2:=rmul_n N2 D1 (by omega) (by omega)
 have m3:=rmul_n D1 D2 (by omega) (by omega)
 have l1:=digits_len_mul N1 D2
 have l2:=digits_len_mul N2 D1
 have l3:=digits_len_mul D1 D2
 have k1:=radd_n (N1*D2) (N2*D1) (by omega) (by omega)
 have l4:=digits_len_add (N1*D2) (N2*D1)
 have k2:=rcmp_n (N1*D2) (N2*D1) (by omega) (by omega)
 have k3:=rsub_n (N1*D2) (N2*D1) (by omega) (by omega)
 have k4:=rsub_n (N2*D1) (N1*D2) (by omega) (by omega)
 have hden:D1*D2≠0:=Nat.mul_ne_zero dp dq
 have of:=fun (s:Bool) (n:Nat) (hn:(digits n).length<2 ^ 36)=>pof_ok s (digits n) (digits (D1*D2)) (Dg_digits _) (Dg_digits _) hn (by omega)
 simp only [val_digits,ofV,if_neg hden] at of
 refine AX.sR (rgAV [2,3,4]) ?_
 refine AX.sD (rgDCV [2,3,4] (aI c1 (aI c2 oT))) ?_
 refine AX.sD (rgDCV [2,3,4,5,6,7] (aI m1 (aI m2 (aI m3 oT)))) ?_
 refine AX.sD (rgDCV [2,3,4,5,6,7,8,9] (aI k1 oT)) ?_
 by_cases hs:s1=s2
 ·subst hs
  rw [add_same s1 dp dq]
  have o1:=of s1 (N1*D2+N2*D1) (by omega)
  generalize rq s1 (N1*D2+N2*D1) (D1*D2)=R at *
  have hss:(s1 == s1)=true:=by simp
  refine AX.seq ?_
  refine AX.sR (rgWV [4,7,8,9,40] (aI @hss oT) oT) ?_
  refine AX.condF ?_
  refine AX.keepA [4,7,8,9] ?_
  refine AX.skip ?_
  refine nmZ ?_
  refine AX.sR (rgCV [4,10] (aI o1 oT)) ?_
  refine AX.sR (rgAV [4]) ?_
  refine AX.ret ⟨.inl rfl,?_⟩
  exact Done.cell rfl rfl
 ·have hss:(s1 == s2)=false:=by simpa using hs
  by_cases hle:N2*D1≤N1*D2
  ·rw [add_ge hs dp dq hle]
   have o1:=of s1 (N1*D2-N2*D1) (by have:=digits_len_mono (Nat.sub_le (N1*D2) (N2*D1));omega)
   rw [if_neg (by omega)] at k3
   have hc:¬ cmp (N1*D2) (N2*D1)<0:=by
    unfold cmp
    rw [if_neg (by omega)]
    split<;>omega
   generalize rq s1 (N1*D2-N2*D1) (D1*D2)=R at *
   generalize N1*D2-N2*D1=Z at *
   generalize cmp (N1*D2) (N2*D1)=K at *
   refine AX.seq ?_
   refine AX.sR (rgWV [2,3,4,5,6,7,8,9,40] (aI @hss oT) oT) ?_
   refine AX.condT ?_
   refine AX.sR (rgCV [2,3,4,5,6,7,8,9,44] (aI k2 oT)) ?_
   refine AX.condT ?_
   refine AX.rR (rgCV [4,7,8,9] (aI k3 oT)) ?_
   refine nmZ ?_
   refine AX.sR (rgCV [4,10] (aI o1 oT)) ?_
   refine AX.sR (rgAV [4]) ?_
   refine AX.ret ⟨.inl rfl,?_⟩
   exact Done.cell rfl rfl
  ·rw [add_lt hs dp dq (by omega)]
   have o1:=of s2 (N2*D1-N1*D2) (by have:=digits_len_mono (Nat.sub_le (N2*D1) (N1*D2));omega)
   rw [if_neg (by omega)] at k4
   have hc:cmp (N1*D2) (N2*D1)<0:=by
    unfold cmp
    rw [if_pos (by omega)]
    omega
   generalize rq s2 (N2*D1-N1*D2) (D1*D2)=R at *
   generalize N2*D1-N1*D2=Z at *
   generalize cmp (N1*D2) (N2*D1)=K at *
   refine AX.seq ?_
   refine AX.sR (rgWV [2,3,4,5,6,7,8,9,40] (aI @hss oT) oT) ?_
   refine AX.condT ?_
   refine AX.sR (rgCV [2,3,4,5,6,7,8,9,44] (aI k2 oT)) ?_
   refine AX.condF ?_
   refine AX.sR (rgAV [2,3,4,5,6,7,8,9]) ?_
   refine AX.rR (rgCV [4,7,8,9] (aI k4 oT)) ?_
   refine nmZ ?_
   refine AX.sR (rgCV [4,10] (aI o1 oT)) ?_
   refine AX.sR (rgAV [4]) ?_
   refine AX.ret ⟨.inl rfl,?_⟩
   exact Done.cell rfl rfl
set_option maxHeartbeats 2000000 in
theorem psub_ok {x y:V} {p q:Rat} {L:Nat} (hx:IsQ x p L)(hy:IsQ y q L)(hL:L<2 ^ 33)(hL1:1≤L):PCall Tryz.prog 73 [x,y] (rV (p-q)) []:=by
 have c1:=pneg_ok hy (by omega)
 have lq:rL (-q)≤L:=by
  rw [rL_neg]
  obtain ⟨s,a,b,rfl,ha,hb,hp,hla,hlb⟩:=hy
  rw [← hp]
  exact rL_rq (Nat.le_trans (digits_length_val ha) hla) (Nat.le_trans (digits_length_val hb) hlb) hL1
 have c2:=padd_ok hx (IsQ.of lq) hL1 (by omega)
 rw [← Rat.sub_eq_add_neg] at c2
 obtain ⟨s,a,b,rfl,ha,hb,hp,hla,hlb⟩:=hx
 obtain ⟨t,c,d,rfl,hc,hd,hq,hlc,hld⟩:=hy
 refine PCall.of_ax Tryz.call73 Tryz.func73 rfl (by simp [Tryz.ntmps73]) fun O w=>?_
 simp only [Tryz.ntmps73,Tryz.results73,argFr]
 generalize p-q=R at *
 generalize -q=M at *
 refine AX.sR (rgAV [2,3,4]) ?_
 refine AX.sD (rgDCV [4] (aI c1 (aI c2 oT))) ?_
 refine AX.ret ⟨.inl rfl,?_⟩
 exact Done.cell rfl rfl
def gcd1 (g:Nat):Bool:=decide (g=1)
def isR (s:Bool) (a b:List Nat):Bool:=right a && right b && decide (0<b.length) && gcd1 (Nat.gcd (val a) (val b)) && (!s || decide (0<a.length))
theorem gcd_lt {a b:List Nat} (hla:a.length<2 ^ 36)(hlb:b.length<2 ^ 36)(ha:Dg a)(hb:Dg b):(digits (Nat.gcd (val a) (val b))).length<2 ^ 36:=by
 have h1:=digits_length_val ha
 have h2:=digits_length_val hb
 by_cases h:val b=0
 ·rw [h,Nat.gcd_zero_right];omega
 ·have:=digits_len_mono (Nat.gcd_le_right (val a) (Nat.pos_of_ne_zero h))
  omega
set_option maxHeartbeats 4000000 in
theorem qright_raw (s:Bool)(a b:List Nat)(ha:Dg a)(hb:Dg b)(hla:a.length<2 ^ 36)(hlb:b.length<2 ^ 36):PCall Tryz.prog 110 [rR s a b] (.b (isR s a b)) []:=by
 have c1:=right_ok a (by omega)
 have c2:=right_ok b (by omega)
 have c3:=gcd_ok a b ha hb hla hlb
 have c4:=small_n (Nat.gcd (val a) (val b)) (by have:=gcd_lt hla hlb ha hb;omega)
 obtain ⟨R,hR⟩:∃ R,isR s a b=R:=⟨_,rfl⟩
 rw [hR]
 unfold isR at hR
 generalize Nat.gcd (val a) (val b)=g at *
 unfold gcd1 at hR
 unfold smallV at c4
 refine PCall.of_ax Tryz.call110 Tryz.func110 rfl (by simp [Tryz.ntmps110]) fun O w=>?_
 simp only [Tryz.ntmps110,Tryz.results110,argFr]
 refine AX.sR (rgAV [1]) ?_
 cases hra:right a
 ·rw [hra] at c1
  have e:R=false:=by rw [← hR,hra];rfl
  subst e
  refine AX.seq ?_
  refine AX.sR (rgCV [1,30] (aI c1 oT)) ?_
  refine AX.condT ?_
  refine AX.sR (rgAV [2]) ?_
  refine AX.ret ⟨.inl rfl,?_⟩
  exact Done.one rfl rfl rfl rfl
 rw [hra] at c1
 cases hrb:right b
 ·rw [hrb] at c2
  have e:R=false:=by rw [← hR,hra,hrb];rfl
  subst e
  refine AX.seq ?_
  refine AX.sR (rgCV [1,30] (aI c1 (aI c2 oT))) ?_
  refine AX.condT ?_
  refine AX.sR (rgAV [2]) ?_
  refine AX.ret ⟨.inl rfl,?_⟩
  exact Done.one rfl rfl rfl rfl
 rw [hrb] at c2
 by_cases hb0:b.length=0
 ·have e:R=false:=by rw [← hR,hra,hrb,decide_eq_false (by omega:¬ 0<b.length)];rfl
  subst e
  refine AX.seq ?_
  refine AX.sR (rgCV [1,30] (aI c1 (aI c2 oT))) ?_
  refine AX.condT ?_
  refine AX.sR (rgAV [2]) ?_
  refine AX.ret ⟨.inl rfl,?_⟩
  exact Done.one rfl rfl rfl rfl
 refine AX.cutR (fun st=>(s=false∨0<a.length)∧st=⟨[(1,.ptr 0 0)],[(0,⟨54,[.b s,dg a,dg b]⟩)],1⟩) ?_ ?_
 ·by_cases ha0:a.length=0
  ·cases s
   ·refine AX.sR (rgCV [1,30] (aI c1 (aI c2 oT))) ?_
    refine AX.condF ?_
    refine AX.keepA [1] ?_
    refine AX.skip ⟨.inl rfl,rfl⟩
   ·have e:R=false:=by rw [← hR,decide_eq_false (by omega:¬ 0<a.length)];simp
    subst e
    refine AX.sR (rgCV [1,30] (aI c1 (aI c2 oT))) ?_
    refine AX.condT ?_
    refine AX.sR (rgAV [2]) ?_
    refine AX.ret ⟨.inl rfl,?_⟩
    exact Done.one rfl rfl rfl rfl
  ·refine AX.sR (rgCV [1,30] (aI c1 (aI c2 oT))) ?_
   refine AX.condF ?_
   refine AX.keepA [1] ?_
   refine AX.skip ⟨.inr (by omega),rfl⟩
 rintro st ⟨hs,rfl⟩
 have e:R=decide (g=1):=by
  rw [← hR,hra,hrb,decide_eq_true (by omega:0<b.length)]
  rcases hs with rfl | hs
  ·simp
  ·rw [decide_eq_true hs];simp
 subst e
 clear hR
 by_cases hg:g=1
 ·subst hg
  refine AX.sR (rgCV [3,4] (aI c3 (aI c4 oT))) ?_
  refine AX.sR (rgAV [2]) ?_
  refine AX.ret ⟨.inl rfl,?_⟩
  exact Done.one rfl rfl rfl rfl
 ·rw [decide_eq_false hg]
  by_cases hg2:g<18446744073709551616
  ·have e:smallN g=g:=if_pos hg2
   rw [decide_eq_true hg2,e] at c4
   refine AX.sR (rgCV [3,4] (aI c3 (aI c4 oT))) ?_
   refine AX.sR (rgWV [2] (aI @hg oT) oT) ?_
   refine AX.ret ⟨.inl rfl,?_⟩
   exact Done.one rfl rfl rfl rfl
  ·rw [decide_eq_false hg2] at c4
   refine AX.sR (rgCV [3,4] (aI c3 (aI c4 oT))) ?_
   refine AX.sR (rgAV [2]) ?_
   refine AX.ret ⟨.inl rfl,?_⟩
   exact Done.one rfl rfl rfl rfl
set_option maxHeartbeats 2000000 in
theorem psize_ok (z:Int)(hz:-9223372036854775808≤z∧z≤9223372036854775807):PCall Tryz.prog 64 [.i .i64 z] (.tup [nv z.natAbs,.b (decide (z<0))]) []:=by
 refine PCall.of_ax Tryz.call64 Tryz.func64 rfl (by simp [Tryz.ntmps64]) fun O w=>?_
 simp only [Tryz.ntmps64,Tryz.results64,argFr]
 have c1:=rof_ok z.natAbs (by omega)
 refine AX.sR (rgAV [0]) ?_
 refine AX.seq ?_
 by_cases h:z<0
 ·rw [decide_eq_true h]
  have e1:((z.natAbs:Nat):Int)=0-(z+1)+1:=by omega
  rw [e1] at c1
  generalize z.natAbs=m at *
  refine AX.sR (rgAV [0,5]) ?_
  refine AX.condT ?_
  refine AX.sR (rgCV [2,3] (aI c1 oT)) ?_
  refine AX.ret ⟨.inl rfl,?_⟩
  exact Done.two rfl rfl rfl rfl rfl
 ·rw [decide_eq_false h]
  have e1:((z.natAbs:Nat):Int)=z:=by omega
  rw [e1] at c1
  generalize z.natAbs=m at *
  refine AX.sR (rgAV [0,5]) ?_
  refine AX.condF ?_
  refine AX.keepA [0] ?_
  refine AX.skip ?_
  refine nmZ ?_
  refine AX.sR (rgCV [2,3] (aI c1 oT)) ?_
  refine AX.ret ⟨.inl rfl,?_⟩
  exact Done.two rfl rfl rfl rfl rfl
set_option maxHeartbeats 2000000 in
theorem pmake_ok (p q:Int)(hp:-9223372036854775808≤p∧p≤9223372036854775807)(hq:-9223372036854775808≤q∧q≤9223372036854775807):PCall Tryz.prog 33 [.i .i64 p,.i .i64 q] (ofV (decide (p<0) != decide (q<0)) p.natAbs q.natAbs) []:=by
 refine PCall.of_ax Tryz.call33 Tryz.func33 rfl (by simp [Tryz.ntmps33]) fun O w=>?_
 simp only [Tryz.ntmps33,Tryz.results33,argFr]
 have c1:=psize_ok p hp
 have c2:=psize_ok q hq
 have l1:(digits p.natAbs).length≤2:=lenS (by omega)
 have l2:(digits q.natAbs).length≤2:=lenS (by omega)
 have c3:=pof_ok (decide (p<0) != decide (q<0)) (digits p.natAbs) (digits q.natAbs) (Dg_digits _) (Dg_digits _) (by omega) (by omega)
 rw [val_digits,val_digits] at c3
 clear l1 l2
 generalize decide (p<0)=s at *
 generalize decide (q<0)=t at *
 generalize p.natAbs=m at *
 generalize q.natAbs=n at *
 refine AX.sR (rgAV [0,1,4]) ?_
 refine AX.sR (rgCV [1,4,6,7] (aI c1 oT)) ?_
 refine AX.sR (rgCV [4,6,7,8,9] (aI c2 oT)) ?_
 unfold ofV at c3 ⊢
 by_cases hn:n=0
 ·rw [if_pos hn] at c3 ⊢
  refine AX.sR (rgCV [4,5] (aI c3 oT)) ?_
  refine AX.ret ⟨.inl rfl,?_⟩
  exact Done.cellE (x:=[]) (y:=[]) rfl rfl rfl
 ·rw [if_neg hn] at c3 ⊢
  refine AX.sR (rgCV [4,5] (aI c3 oT)) ?_
  refine AX.ret ⟨.inl rfl,?_⟩
  exact Done.cellE rfl rfl rfl
theorem psgn_sub (A B:Rat):sgnR (A-B)=cmpR A B:=by
 have tri:A<B∨A=B∨B<A:=by grind
 unfold sgnR
 rcases tri with h | h | h
 ·rw [cmpR_lt h,if_pos (by grind)]
 ·subst h;rw [cmpR_self,if_neg (by grind),if_pos (by grind)]
 ·rw [cmpR_gt h,if_neg (by grind),if_neg (by grind)]
set_option maxHeartbeats 2000000 in
theorem pcmp_ok {x y:V} {p q:Rat} {L:Nat} (hx:IsQ x p L)(hy:IsQ y q L)(hL:L<2 ^ 33)(hL1:1≤L):PCall Tryz.prog 37 [x,y] (.i .i64 (cmpR p q)) []:=by
 have c1:=psub_ok hx hy hL hL1
 have l1:=rL_sub p q (hx.rL hL1) (hy.rL hL1)
 have c2:=psign_ok (IsQ.of l1) (by omega)
 rw [psgn_sub] at c2
 obtain ⟨s,a,b,rfl,ha,hb,hp,hla,hlb⟩:=hx
 obtain ⟨t,c,d,rfl,hc,hd,hq,hlc,hld⟩:=hy
 refine PCall.of_ax Tryz.call37 Tryz.func37 rfl (by simp [Tryz.ntmps37]) fun O w=>?_
 simp only [Tryz.ntmps37,Tryz.results37,argFr]
 generalize p-q=R at *
 generalize cmpR p q=Z at *
 refine AX.sR (rgAV [2,3]) ?_
 refine AX.sR (rgCV [4] (aI c1 (aI c2 oT))) ?_
 refine AX.ret ⟨.inl rfl,?_⟩
 exact Done.one rfl rfl rfl rfl
theorem cmp0_dec (p q:Rat):decide (cmpR p q=0)=decide (p=q):=decide_eq_decide.2 cmpR_eq_zero
set_option maxHeartbeats 2000000 in
theorem psame_ok {x y:V} {p q:Rat} {L:Nat} (hx:IsQ x p L)(hy:IsQ y q L)(hL:L<2 ^ 33)(hL1:1≤L):PCall Tryz.prog 27 [x,y] (.b (decide (p=q))) []:=by
 have c1:=pcmp_ok hx hy hL hL1
 have e:=cmp0_dec p q
 obtain ⟨s,a,b,rfl,ha,hb,hp,hla,hlb⟩:=hx
 obtain ⟨t,c,d,rfl,hc,hd,hq,hlc,hld⟩:=hy
 refine PCall.of_ax Tryz.call27 Tryz.func27 rfl (by simp [Tryz.ntmps27]) fun O w=>?_
 simp only [Tryz.ntmps27,Tryz.results27,argFr]
 rw [← e]
 generalize cmpR p q=Z at *
 refine AX.sR (rgAV [2,3]) ?_
 refine AX.sR (rgCV [4] (aI c1 oT)) ?_
 refine AX.ret ⟨.inl rfl,?_⟩
 exact Done.one rfl rfl rfl rfl
end Go.Proofs.YteidabibgjokkaaGreatDoor
