import Derived.Test.YteidabibgjokkaaGreatDoorHL
set_option maxRecDepth 20000
set_option linter.all false
namespace Go.Proofs.YteidabibgjokkaaGreatDoor
open Go Go.Proofs.YteidabibgjokkaaGreatDoor.Lift
attribute [local irreducible] Lift.PCall Lift.HCall
theorem mcells_const (c m:Nat):mcells c (fun _ _=>0) m++[0]=mcells c (fun _ _=>0) (m+1):=by
 unfold mcells
 rw [List.range_succ,List.map_append]
 rfl
set_option maxHeartbeats 4000000 in
theorem wzeros_own (r c:Nat)(hr:r≤60)(hc:c≤60):PCall Tryz.prog 89 [.i .i64 r,.i .i64 c] (.agg [.i .i64 r,.i .i64 c,.own 0 0 (r*c) 3]) [⟨54,qrow (mcells c (fun _ _=>0) (r*c))⟩]:=by
 have cz:PCall Tryz.prog 30 [] (.agg [.b (decide ((0:Rat).num<0)),dg (digits (0:Rat).num.natAbs),dg (digits (0:Rat).den)]) []:=pzero_ok
 refine PCall.of_ax Tryz.call89 Tryz.func89 rfl (by simp [Tryz.ntmps89]) fun O w=>?_
 simp only [Tryz.ntmps89,Tryz.results89,argFr]
 have hrc:r*c≤60*60:=Nat.mul_le_mul hr hc
 have m1:(r:Int)*(c:Int)=((r*c:Nat):Int):=(Int.natCast_mul r c).symm
 have happ0:=fun j=>mcells_const c j
 generalize r*c=K at *
 refine AX.sR (rgAV [0,1,4]) ?_
 refine AX.sR (rgAV [0,1,4,5]) ?_
 refine AX.own0c 1 2 54 3 rfl rfl (by show 2<3;decide) ?_
 refine AX.seq ?_
 refine AX.sR (rgAV [0,1,4,5,6]) ?_
 refine AX.weaken id (st':=⟨[(6,.i .i64 (0:Nat)),(5,.ptr 1 0),(4,.ptr 0 0),(1,.i .i64 c),(0,.i .i64 r)],[(0,⟨46,[.i .i64 0,.i .i64 0,.nl]⟩),(1,⟨46,[.i .i64 r,.i .i64 c,.own 2 0 0 3]⟩),(2,⟨54,qrow []⟩)],3⟩)
  leQ4
  ?_
 refine AX.block ?_
 refine AX.loop (fun N st=>∃ (j:Nat) (xs:List Rat),j≤K∧N=K-j∧xs=mcells c (fun _ _=>0) j∧st=⟨[(6,.i .i64 j),(5,.ptr 1 0),(4,.ptr 0 0),(1,.i .i64 c),(0,.i .i64 r)],[(0,⟨46,[.i .i64 0,.i .i64 0,.nl]⟩),(1,⟨46,[.i .i64 r,.i .i64 c,.own 2 0 j 3]⟩),(2,⟨54,qrow xs⟩)],3⟩) K ⟨0,[],Nat.zero_le _,rfl,rfl,rfl⟩ ?_
 rintro N st ⟨j,xs,hj,rfl,hxs,rfl⟩
 by_cases h1:j<K
 ·have hlen:(qrow xs).length=j*3:=by rw [qrow_length,hxs,mcells_length]
  have hrow:qrow xs++[.b (decide ((0:Rat).num<0)),dg (digits (0:Rat).num.natAbs),dg (digits (0:Rat).den)]=qrow (mcells c (fun _ _=>0) (j+1)):=by
   rw [← happ0,qrow_app,hxs]
   rfl
  obtain ⟨ys,hys⟩:∃ ys,mcells c (fun _ _=>(0:Rat)) (j+1)=ys:=⟨_,rfl⟩
  rw [hys] at hrow
  refine AX.seq ?_
  refine AX.sR (rgWV [0,1,4,5,6,14] (aI @m1 oT) oT) ?_
  refine AX.condT ?_
  refine AX.keepA [0,1,4,5,6] ?_
  refine AX.skip ?_
  refine nmZ ?_
  refine AX.seq ?_
  refine AX.block ?_
  refine AX.rD (rgDWV [0,1,4,5,6] (aI @hlen (aI @zerosV_1 (aI @tkS (aI @tk0 oT)))) (aI cz oT)) ?_
  refine nmZ ?_
  rw [hrow]
  refine AX.rR (rgWV [0,1,4,5,6] (aI @lit_add oT) oT) ?_
  refine nmZ ?_
  refine ⟨_,_,fun n=>if n=2 then 4 else n,?_,
   leQ4
   , ⟨j+1,ys,by omega,rfl,hys.symm,rfl⟩⟩
  omega
 ·have e:j=K:=by omega
  subst e
  refine AX.seq ?_
  refine AX.sR (rgWV [0,1,4,5,6,14] (aI @m1 oT) oT) ?_
  refine AX.condF ?_
  refine AX.exit ?_
  refine nmZ ?_
  refine AX.sR (rgAV [4]) ?_
  refine AX.ret ⟨.inl rfl,?_⟩
  rw [← hxs]
  exact Done.matRow lay_mat19 rfl rfl rfl
set_option maxHeartbeats 16000000 in
theorem wtimes_ok (r n c L:Nat) (hr:r≤60) (hn:n≤60) (hc:c≤60) (A B:Mx) (hA:∀ i j,i<r→j<n→rL (A i j)≤L) (hB:∀ j k,j<n→k<c→rL (B j k)≤L) (hL1:1≤L) (hL:60*(2*L+1)+1<2 ^ 34) :
  PCall Tryz.prog 158 [qM r n A,qM n c B] (qM r c (mulM n A B)) []:=by
 have cz:=wzeros_own r c hr hc
 have cmul:∀ i j k,i<r→j<n→k<c→PCall Tryz.prog 165 [.agg [.b (decide ((A i j).num<0)),dg (digits (A i j).num.natAbs),dg (digits (A i j).den)],.agg [.b (decide ((B j k).num<0)),dg (digits (B j k).num.natAbs),dg (digits (B j k).den)]] (.agg [.b (decide ((A i j*B j k).num<0)),dg (digits (A i j*B j k).num.natAbs),dg (digits (A i j*B j k).den)]) []:=fun i j k hi hj hk=>
  pmul_ok (IsQ.of (hA i j hi hj)) (IsQ.of (hB j k hj hk)) hL1 (by omega)
 have cadd:∀ i j k,i<r→j<n→k<c→PCall Tryz.prog 52 [.agg [.b (decide ((mulM j A B i k).num<0)),dg (digits (mulM j A B i k).num.natAbs),dg (digits (mulM j A B i k).den)],.agg [.b (decide ((A i j*B j k).num<0)),dg (digits (A i j*B j k).num.natAbs),dg (digits (A i j*B j k).den)]] (.agg [.b (decide ((mulM (j+1) A B i k).num<0)),dg (digits (mulM (j+1) A B i k).num.natAbs),dg (digits (mulM (j+1) A B i k).den)]) []:=fun i j k hi hj hk=>by
  have h1:=mulM_len (k:=k) hL1 (fun j hj=>hA i j hi hj) (fun j hj=>hB j k hj hk) j (Nat.le_of_lt hj)
  have h2:=rL_mul (A i j) (B j k) (hA i j hi hj) (hB j k hj hk) (by omega)
  have h3:j*(2*L+1)≤60*(2*L+1):=Nat.mul_le_mul_right _ (by omega)
  exact padd_ok (L:=60*(2*L+1)+1) (IsQ.of (by omega)) (IsQ.of (by omega)) (by omega) hL
 refine PCall.of_ax Tryz.call158 Tryz.func158 rfl (by simp [Tryz.ntmps158]) fun O w0=>?_
 simp only [Tryz.ntmps158,Tryz.results158,argFr]
 have ixA:=fun (i j:Nat) (hi:i<r) (hj:j<n)=>fun x y=>effIxM (x:=x) (y:=y) A hi hj rfl
 have ixB:=fun (j k:Nat) (hj:j<n) (hk:k<c)=>fun x y=>effIxM (x:=x) (y:=y) B hj hk rfl
 have hstep:∀ i j k,mulM (j+1) A B i k=mulM j A B i k+A i j*B j k:=fun _ _ _=>rfl
 have hz0:∀ i k,mulM 0 A B i k=0:=fun _ _=>rfl
 have hrc:r*c≤60*60:=Nat.mul_le_mul hr hc
 clear hA hB
 unfold qM mV
 generalize (mcells n A (r*n)).map rV=Ac at *
 generalize (mcells c B (n*c)).map rV=Bc at *
 refine AX.sR (rgAV [2,3,4]) ?_
 refine AX.sR (rgCV [2,3,4,5] (aI cz oT)) ?_
 refine AX.seq ?_
 refine AX.sR (rgAV [2,3,4,5,6]) ?_
 refine AX.weaken id (st':=⟨[(6,.i .i64 (0:Nat)),(5,.ptr 4 0),(4,.ptr 2 0),(3,.ptr 1 0),(2,.ptr 0 0)],[(0,⟨46,[.i .i64 r,.i .i64 n,.sl Ac]⟩),(1,⟨46,[.i .i64 n,.i .i64 c,.sl Bc]⟩),(2,⟨46,[.i .i64 0,.i .i64 0,.nl]⟩),(3,⟨54,qrow (mcells c (fun _ _=>0) (r*c))⟩),(4,⟨46,[.i .i64 r,.i .i64 c,.own 3 0 (r*c) 3]⟩)],5⟩)
  leQ4
  ?_
 refine AX.block ?_
 refine AX.loop (fun N st=>∃ (i:Nat) (Z:Mx),i≤r∧N=r-i∧(∀ i' k',Z i' k'=if i' < i then mulM n A B i' k' else 0)∧st=⟨[(6,.i .i64 i),(5,.ptr 4 0),(4,.ptr 2 0),(3,.ptr 1 0),(2,.ptr 0 0)],[(0,⟨46,[.i .i64 r,.i .i64 n,.sl Ac]⟩),(1,⟨46,[.i .i64 n,.i .i64 c,.sl Bc]⟩),(2,⟨46,[.i .i64 0,.i .i64 0,.nl]⟩),(3,⟨54,qrow (mcells c Z (r*c))⟩),(4,⟨46,[.i .i64 r,.i .i64 c,.own 3 0 (r*c) 3]⟩)],5⟩) r ⟨0,fun _ _=>0,Nat.zero_le _,rfl,fun i' k'=>by rw [if_neg (Nat.not_lt_zero _)],rfl⟩ ?_
 rintro N st ⟨i,Z,hi,rfl,hZ,rfl⟩
 by_cases h1:i<r
 ·refine AX.seq ?_
  refine AX.sR (rgAV [2,3,4,5,6,17]) ?_
  refine AX.condT ?_
  refine AX.keepA [2,3,4,5,6] ?_
  refine AX.skip ?_
  refine nmZ ?_
  refine AX.seq ?_
  refine AX.block ?_
  refine AX.sR (rgAV [2,3,4,5,6,7]) ?_
  refine AX.weaken id (st':=⟨[(7,.i .i64 (0:Nat)),(6,.i .i64 i),(5,.ptr 4 0),(4,.ptr 2 0),(3,.ptr 1 0),(2,.ptr 0 0)],[(0,⟨46,[.i .i64 r,.i .i64 n,.sl Ac]⟩),(1,⟨46,[.i .i64 n,.i .i64 c,.sl Bc]⟩),(2,⟨46,[.i .i64 0,.i .i64 0,.nl]⟩),(3,⟨54,qrow (mcells c Z (r*c))⟩),(4,⟨46,[.i .i64 r,.i .i64 c,.own 3 0 (r*c) 3]⟩)],5⟩)
   leQ4
   ?_
  refine AX.block ?_
  refine AX.loop (fun N st=>∃ (k:Nat) (Z:Mx),k≤c∧N=c-k∧(∀ i' k',Z i' k'=if i' < i∨(i'=i∧k' < k) then mulM n A B i' k' else 0)∧st=⟨[(7,.i .i64 k),(6,.i .i64 i),(5,.ptr 4 0),(4,.ptr 2 0),(3,.ptr 1 0),(2,.ptr 0 0)],[(0,⟨46,[.i .i64 r,.i .i64 n,.sl Ac]⟩),(1,⟨46,[.i .i64 n,.i .i64 c,.sl Bc]⟩),(2,⟨46,[.i .i64 0,.i .i64 0,.nl]⟩),(3,⟨54,qrow (mcells c Z (r*c))⟩),(4,⟨46,[.i .i64 r,.i .i64 c,.own 3 0 (r*c) 3]⟩)],5⟩) c ⟨0,Z,Nat.zero_le _,rfl,fun i' k'=>by
   rw [hZ]
   by_cases h:i' < i
   ·rw [if_pos h,if_pos (.inl h)]
   ·rw [if_neg h,if_neg (by omega)],rfl⟩ ?_
  clear hZ Z
  rintro N st ⟨k,Z,hk,rfl,hZ,rfl⟩
  by_cases h2:k<c
  ·refine AX.seq ?_
   refine AX.sR (rgAV [2,3,4,5,6,7,23]) ?_
   refine AX.condT ?_
   refine AX.keepA [2,3,4,5,6,7] ?_
   refine AX.skip ?_
   refine nmZ ?_
   refine AX.seq ?_
   refine AX.block ?_
   refine AX.sR (rgAV [2,3,4,5,6,7,8]) ?_
   refine AX.weaken id (st':=⟨[(8,.i .i64 (0:Nat)),(7,.i .i64 k),(6,.i .i64 i),(5,.ptr 4 0),(4,.ptr 2 0),(3,.ptr 1 0),(2,.ptr 0 0)],[(0,⟨46,[.i .i64 r,.i .i64 n,.sl Ac]⟩),(1,⟨46,[.i .i64 n,.i .i64 c,.sl Bc]⟩),(2,⟨46,[.i .i64 0,.i .i64 0,.nl]⟩),(3,⟨54,qrow (mcells c Z (r*c))⟩),(4,⟨46,[.i .i64 r,.i .i64 c,.own 3 0 (r*c) 3]⟩)],5⟩)
    leQ4
    ?_
   refine AX.block ?_
   refine AX.loop (fun N st=>∃ (j:Nat) (Z:Mx),j≤n∧N=n-j∧(∀ i' k',Z i' k'=if i' < i∨(i'=i∧k' < k) then mulM n A B i' k' else if i'=i∧k'=k then mulM j A B i k else 0)∧st=⟨[(8,.i .i64 j),(7,.i .i64 k),(6,.i .i64 i),(5,.ptr 4 0),(4,.ptr 2 0),(3,.ptr 1 0),(2,.ptr 0 0)],[(0,⟨46,[.i .i64 r,.i .i64 n,.sl Ac]⟩),(1,⟨46,[.i .i64 n,.i .i64 c,.sl Bc]⟩),(2,⟨46,[.i .i64 0,.i .i64 0,.nl]⟩),(3,⟨54,qrow (mcells c Z (r*c))⟩),(4,⟨46,[.i .i64 r,.i .i64 c,.own 3 0 (r*c) 3]⟩)],5⟩) n ⟨0,Z,Nat.zero_le _,rfl,fun i' k'=>by
    rw [hZ]
    by_cases h:i' < i∨(i'=i∧k' < k)
    ·rw [if_pos h,if_pos h]
    ·rw [if_neg h,if_neg h,hz0]
     split<;>rfl,rfl⟩ ?_
   clear hZ Z
   rintro N st ⟨j,Z,hj,rfl,hZ,rfl⟩
   by_cases h3:j<n
   ·have hZik:Z i k=mulM j A B i k:=by rw [hZ,if_neg (by omega),if_pos ⟨rfl,rfl⟩]
    have cm:=cmul i j k h1 h3 h2
    have ca:=cadd i j k h1 h3 h2
    have ix1:=ixA i j h1 h3
    have ix2:=ixB j k h3 h2
    obtain ⟨z,e1⟩:∃ z,i*c+k=z:=⟨_,rfl⟩
    have hg:=qget Z h1 h2 e1
    rw [hZik] at hg
    have hset:=qset Z (mulM (j+1) A B i k) h1 h2 e1
    have hl:=qlen c r Z
    have hlz:=(mcells_get (r:=r) (c:=c) Z h1 h2).1
    rw [e1] at hlz
    have hnew:∀ i' k',updM Z i k (mulM (j+1) A B i k) i' k'=if i' < i∨(i'=i∧k' < k) then mulM n A B i' k' else if i'=i∧k'=k then mulM (j+1) A B i k else 0:=by
     intro i' k'
     unfold updM
     by_cases h:i'=i∧k'=k
     ·obtain ⟨rfl,rfl⟩:=h
      rw [if_pos ⟨rfl,rfl⟩,if_neg (by omega),if_pos ⟨rfl,rfl⟩]
     ·rw [if_neg h,hZ,if_neg h,if_neg h]
    obtain ⟨Z2,hZ2⟩:∃ Z2,updM Z i k (mulM (j+1) A B i k)=Z2:=⟨_,rfl⟩
    rw [hZ2] at hset hnew
    have m1:(i:Int)*(c:Int)=((i*c:Nat):Int):=(Int.natCast_mul i c).symm
    have a1:((i*c:Nat):Int)+(k:Int)=(z:Int):=by rw [← Int.natCast_add,e1]
    have m2:(i:Int)*(n:Int)=((i*n:Nat):Int):=(Int.natCast_mul i n).symm
    have a2:((i*n:Nat):Int)+(j:Int)=((i*n+j:Nat):Int):=(Int.natCast_add _ _).symm
    have m3:(j:Int)*(c:Int)=((j*c:Nat):Int):=(Int.natCast_mul j c).symm
    have a3:((j*c:Nat):Int)+(k:Int)=((j*c+k:Nat):Int):=(Int.natCast_add _ _).symm
    have b1:i*n≤60*60:=Nat.mul_le_mul (by omega) hn
    have b2:j*c≤60*60:=Nat.mul_le_mul (by omega) hc
    clear hstep hz0 ixA ixB cmul cadd hZ hZik hZ2 cz
    obtain ⟨s',hs'⟩:∃ s',mulM (j+1) A B i k=s':=⟨_,rfl⟩
    rw [hs'] at ca hset
    generalize mulM j A B i k=s at *
    generalize A i j*B j k=prd at *
    generalize A i j=p at *
    generalize B j k=q at *
    generalize i*c=x1 at *
    generalize i*n+j=z2 at *
    generalize i*n=x2 at *
    generalize j*c+k=z3 at *
    generalize j*c=x3 at *
    generalize r*c=K at *
    refine AX.seq ?_
    refine AX.sR (rgAV [2,3,4,5,6,7,8,29]) ?_
    refine AX.condT ?_
    refine AX.keepA [2,3,4,5,6,7,8] ?_
    refine AX.skip ?_
    refine nmZ ?_
    refine AX.seq ?_
    refine AX.block ?_
    refine AX.rD (rgDEV [2,3,4,5,6,7,8] (aI @m1 (aI @a1 (aI @m2 (aI @a2 (aI @m3 (aI @a3 (aI @hl (aI @hg oT)))))))) (aI cm (aI ca oT)) (aI ix1 (aI ix2 oT))) ?_
    refine nmZ ?_
    rw [hset]
    refine AX.rR (rgWV [2,3,4,5,6,7,8] (aI @lit_add oT) oT) ?_
    refine nmZ ?_
    refine ⟨_,_,id,?_,
     leQ4
     , ⟨j+1,Z2,by omega,rfl,hnew,rfl⟩⟩
    omega
   ·have e:j=n:=by omega
    subst e
    refine AX.seq ?_
    refine AX.sR (rgAV [2,3,4,5,6,7,8,29]) ?_
    refine AX.condF ?_
    refine AX.exit ?_
    refine nmZ ?_
    refine AX.rR (rgWV [2,3,4,5,6,7] (aI @lit_add oT) oT) ?_
    refine nmZ ?_
    refine ⟨_,_,id,?_,
     leQ4
     , ⟨k+1,Z,by omega,rfl,(fun i' k'=>by
       rw [hZ]
       by_cases h:i' < i∨(i'=i∧k' < k)
       ·rw [if_pos h,if_pos (by omega)]
       ·rw [if_neg h]
        by_cases h':i'=i∧k'=k
        ·obtain ⟨rfl,rfl⟩:=h'
         rw [if_pos ⟨rfl,rfl⟩,if_pos (by omega)]
        ·rw [if_neg h',if_neg (by omega)]),rfl⟩⟩
    omega
  ·refine AX.seq ?_
   have hZ':mcells c Z (r*c)=mcells c (fun i' k'=>if i' < i+1 then mulM n A B i' k' else 0) (r*c):=by
    refine mcells_congr fun i' k' hi' hk'=>?_
    rw [hZ]
    by_cases h:i' < i+1
    ·rw [if_pos (by omega),if_pos h]
    ·rw [if_neg (by omega),if_neg h]
   rw [hZ']
   refine AX.sR (rgAV [2,3,4,5,6,7,23]) ?_
   refine AX.condF ?_
   refine AX.exit ?_
   refine nmZ ?_
   refine AX.rR (rgWV [2,3,4,5,6] (aI @lit_add oT) oT) ?_
   refine nmZ ?_
   refine ⟨_,_,id,?_,
    leQ4
    , ⟨i+1,_,by omega,rfl,fun _ _=>rfl,rfl⟩⟩
   omega
 ·have hfin:mcells c Z (r*c)=mcells c (mulM n A B) (r*c):=mcells_congr fun i' k' hi' _=>by rw [hZ,if_pos (by omega)]
  rw [hfin]
  obtain ⟨xs,hxs⟩:∃ xs,mcells c (mulM n A B) (r*c)=xs:=⟨_,rfl⟩
  have hK:r*c=xs.length:=by rw [← hxs,mcells_length]
  rw [hxs,hK]
  refine AX.seq ?_
  refine AX.sR (rgAV [2,3,4,5,6,17]) ?_
  refine AX.condF ?_
  refine AX.exit ?_
  refine nmZ ?_
  refine AX.sR (rgAV [4]) ?_
  refine AX.fz 3 (fr':=[(4,.ptr 2 0)]) (hp':=[(2,⟨46,[.i .i64 r,.i .i64 c,.sl (xs.map rV)]⟩)]) rfl (hf_q xs) (.cons rfl .same .nil) (.cons (by decide) rfl rfl rfl (fun k hk=>?_) .nil) ?_
  ·have:k=0∨k=1∨k=2:=by simp at hk;omega
   rcases this with rfl | rfl | rfl
   ·exact .same
   ·exact .same
   ·exact .own (okFrz_q xs) (by rw [take_q,chunks_q])
  refine AX.ret ⟨.inl rfl,?_⟩
  exact dnQ4
set_option maxHeartbeats 4000000 in
theorem wmul_ok (r n c L:Nat) (hr:r≤60) (hn:n≤60) (hc:c≤60) (A B:Mx) (hA:∀ i j,i<r→j<n→rL (A i j)≤L) (hB:∀ j k,j<n→k<c→rL (B j k)≤L) (hL1:1≤L) (hL:60*(2*L+1)+1<2 ^ 34) :
  PCall Tryz.prog 140 [qM r n A,qM n c B] (.tup [qM r c (mulM n A B),.i .i64 0]) []:=by
 have c1:=wright_q r n hr hn A (fun i k hi hk=>by have:=hA i k hi hk;omega)
 have c2:=wright_q n c hn hc B (fun i k hi hk=>by have:=hB i k hi hk;omega)
 have c3:=wtimes_ok r n c L hr hn hc A B hA hB hL1 hL
 refine PCall.of_ax Tryz.call140 Tryz.func140 rfl (by simp [Tryz.ntmps140]) fun O w0=>?_
 simp only [Tryz.ntmps140,Tryz.results140,argFr]
 unfold qM at *
 generalize (mcells n A (r*n)).map rV=Ac at *
 generalize (mcells c B (n*c)).map rV=Bc at *
 generalize (mcells c (mulM n A B) (r*c)).map rV=Xc at *
 refine AX.sR (rgAV [2,3,4]) ?_
 refine AX.seq ?_
 refine AX.block ?_
 refine AX.sR (rgCV [2,3,4,6] (aI c1 (aI c2 oT))) ?_
 refine AX.condF ?_
 refine AX.sR (rgAV [2,3,4,16]) ?_
 refine AX.condF ?_
 refine AX.keepA [2,3,4] ?_
 refine AX.skip ?_
 refine nmZ ?_
 refine AX.sR (rgCV [4,5] (aI c3 oT)) ?_
 refine AX.ret ⟨.inl rfl,?_⟩
 exact dnQ4
theorem mcells_one (n:Nat)(v:Nat→Rat):mcells n (fun _ k=>v k) (1*n)=vl n v:=by
 unfold mcells vl
 rw [Nat.one_mul]
 refine List.map_congr_left fun j hj=>?_
 have hj:j<n:=by simpa using hj
 show v (j % n)=v j
 rw [Nat.mod_eq_of_lt hj]
set_option maxHeartbeats 4000000 in
theorem rby_ok (n m L:Nat) (hn:n≤60) (hm:m≤60) (v:Nat→Rat) (B:Mx) (hv:∀ i,i<n→rL (v i)≤L) (hB:∀ i k,i<n→k<m→rL (B i k)≤L) (hL1:1≤L) (hL:60*(2*L+1)+1<2 ^ 34) :
  PCall Tryz.prog 100 [.sl ((vl n v).map rV),.agg [.i .i64 n,.i .i64 m,.sl ((mcells m B (n*m)).map rV)]] (.sl ((vl m (thr n v B)).map rV)) []:=by
 have hvl:((vl n v).map rV).length=n:=by rw [List.length_map,vl_length]
 have crow:PCall Tryz.prog 141 [.sl ((vl n v).map rV)] (.agg [.i .i64 1,.i .i64 n,.sl ((vl n v).map rV)]) []:=by
  refine PCall.of_ax Tryz.call141 Tryz.func141 rfl (by simp [Tryz.ntmps141]) fun O w=>?_
  simp only [Tryz.ntmps141,Tryz.results141,argFr]
  generalize (vl n v).map rV=vs at *
  refine AX.sR (rgAV [0,2]) ?_
  refine AX.sR (rgWV [2] (aI @hvl oT) oT) ?_
  refine AX.ret ⟨.inl rfl,?_⟩
  exact dnQ4
 have cm:=wmul_ok 1 n m L (by decide) hn hm (fun _ k=>v k) B (fun _ j _ hj=>hv j hj) hB hL1 hL
 unfold qM mV at cm
 have e1:mcells m (mulM n (fun _ k=>v k) B) (1*m)=vl m (thr n v B):=by
  rw [← mcells_one]
  rfl
 rw [mcells_one,e1] at cm
 have cm:PCall Tryz.prog 140 [.agg [.i .i64 1,.i .i64 n,.sl ((vl n v).map rV)],.agg [.i .i64 n,.i .i64 m,.sl ((mcells m B (n*m)).map rV)]] (.tup [.agg [.i .i64 1,.i .i64 m,.sl ((vl m (thr n v B)).map rV)],.i .i64 0]) []:=cm
 refine PCall.of_ax Tryz.call100 Tryz.func100 rfl (by simp [Tryz.ntmps100]) fun O w=>?_
 simp only [Tryz.ntmps100,Tryz.results100,argFr]
 generalize (vl m (thr n v B)).map rV=ws at *
 generalize (vl n v).map rV=vs at *
 generalize (mcells m B (n*m)).map rV=Bc at *
 refine AX.sR (rgAV [0,3]) ?_
 refine AX.sD (rgDCV [5] (aI crow (aI cm oT))) ?_
 refine AX.sR (rgAV [4]) ?_
 refine AX.ret ⟨.inl rfl,?_⟩
 exact Done.one rfl rfl rfl rfl
end Go.Proofs.YteidabibgjokkaaGreatDoor
