import Derived.Test.YteidabibgjokkaaGreatDoorHI
import Derived.Test.YteidabibgjokkaaGreatDoorGB
set_option maxRecDepth 20000
set_option linter.all false
namespace Go.Proofs.YteidabibgjokkaaGreatDoor
open Go Go.Proofs.YteidabibgjokkaaGreatDoor.Lift
attribute [local irreducible] Lift.PCall Lift.HCall
theorem flatCells_q (xs:List Rat):flatCells (xs.map rV)=qrow xs:=by
 unfold flatCells qrow
 rw [List.flatMap_map]
theorem Lift.RunD.copyQ {P:Program} {N:Nat} {o:PO} {l:List PO} {Ts:List Tr} {st st1 st2:St} {e:TypeId} {t:TypeId} {x y:Operand} {by':Nat} {z:List V} {T:Tr} {h off K:Nat} {els row row':List V} {T0:TypeId} {xs:List Rat} (ho:o.op=.call ⟨.builtin .copy,#[x,y],#[t,t]⟩) (hg:guardP st.fr o.g=some true)
  (hv:valsOf st.fr (opsOf o.op)=some [.own h off K 3,.sl els]) (hx:els=xs.map rV) (hK:xs.length=K) (hu:P.underlying t=some (.slice e)) (hL:lay P e=some ⟨3,true,by',z⟩) (hr:lkp st.hp h=some ⟨T0,row⟩) (hrow:setR row off (qrow xs)=row') (hle:off+K*3≤row.length)
  (hp1:putSt N o.dst (.i .i64 (K:Int)) st.fr (setL st.hp h ⟨T0,row'⟩) st.nx=some st1) (hT:T=⟨o.dst,slotsOf (opsOf o.op)++gSlot o.g,.i .i64 (K:Int),[h],[(h,lkp (setL st.hp h ⟨T0,row'⟩) h)],[]⟩) (hk:RunD P N l st1 Ts st2):RunD P N (o :: l) st (T :: Ts) st2:=by
 subst hx
 refine RunD.copy (L:=⟨3,true,by',z⟩) ho hg hv hu hL (Nat.zero_lt_succ 2) (by rw [List.length_map];exact hK) ?_ (by rw [flatCells_q,qrow_length,hK]) (by rw [flatCells_q];exact flat_q xs) (v:=.i .i64 (K:Int)) (hp:=setL st.hp h ⟨T0,row'⟩) ?_ hp1 ?_ hk
 ·cases xs with
  | nil=>exact .inr rfl
  | cons q xs=>exact .inl rfl
 ·simp only [copyE,Eff.runL,hr,flatCells_q,hrow,if_pos hle]
 ·rw [hT]
  rfl
theorem setR_app (a b:List V):∀ (l:List V) (off:Nat),setR l off (a++b)=setR (setR l off a) (off+a.length) b:=by
 induction a with
 | nil=>intro l off;rfl
 | cons v a ih=>
  intro l off
  show setR (l.set off v) (off+1) (a++b)=setR (setR (l.set off v) (off+1) a) (off+(a.length+1)) b
  rw [ih,show off+1+a.length=off+(a.length+1) by omega]
theorem vl_succ (n:Nat)(v:Nat→Rat):vl (n+1) v=vl n v++[v n]:=by
 unfold vl
 rw [List.range_succ,List.map_append]
 rfl
theorem setR_row {n m s:Nat} (Z:Mx)(v:Nat→Rat)(hs:s<n):∀ t,t≤m→setR (qrow (mcells m Z (n*m))) (s*m*3) (qrow (vl t v))=qrow (mcells m (fun i k=>if i=s∧k<t then v k else Z i k) (n*m)):=by
 intro t
 induction t with
 | zero=>
  intro _
  show qrow _=_
  congr 2
  funext i k
  rw [if_neg fun h=>Nat.not_lt_zero _ h.2]
 | succ t ih=>
  intro ht
  have ht':t<m:=ht
  rw [vl_succ,qrow_app,setR_app,ih (by omega),qrow_length,vl_length,show s*m*3+t*3=(s*m+t)*3 by rw [Nat.add_mul]]
  have h1:=(mcells_get (r:=n) (c:=m) Z hs ht').1
  have e:qrow [v t]=(rV (v t)).cells:=rfl
  rw [e,set_q (v t) (by rw [mcells_length];exact h1),mcells_set _ (v t) hs ht']
  congr 2
  funext i k
  unfold updM
  dsimp only
  by_cases h:i=s
  ·subst h
   by_cases hk:k=t
   ·subst hk
    rw [if_pos ⟨rfl,rfl⟩,if_pos ⟨rfl,by omega⟩]
   ·rw [if_neg fun h=>hk h.2]
    by_cases hlt:k<t
    ·rw [if_pos ⟨rfl,hlt⟩,if_pos ⟨rfl,by omega⟩]
    ·rw [if_neg fun h=>hlt h.2,if_neg fun h=>by omega]
  ·rw [if_neg fun h'=>h h'.1,if_neg fun h'=>h h'.1,if_neg fun h'=>h h'.1]
theorem mcells_row' {p m i:Nat} (X:Mx)(hi:i<p):List.drop (i*m) (List.take (i*m+m) ((mcells m X (p*m)).map rV))=(vl m (X i)).map rV:=by
 have hle:i*m+m≤p*m:=by
  have:(i+1)*m≤p*m:=Nat.mul_le_mul_right _ hi
  rwa [Nat.succ_mul] at this
 rw [← List.map_take,← List.map_drop]
 congr 1
 apply List.ext_getElem?
 intro j
 rw [List.getElem?_drop,List.getElem?_take]
 by_cases hj:j<m
 ·rw [if_pos (by omega)]
  have h1:(mcells m X (p*m))[i*m+j]? = some (X i j):=by
   obtain ⟨h1,h2⟩:=mcells_get (r:=p) (c:=m) X hi hj
   have hl:i*m+j<(mcells m X (p*m)).length:=by rw [mcells_length];exact h1
   rw [List.getD_eq_getElem?_getD,List.getElem?_eq_getElem hl] at h2
   rw [List.getElem?_eq_getElem hl]
   exact congrArg some h2
  rw [h1]
  simp [vl,hj]
 ·rw [if_neg (by omega)]
  exact (List.getElem?_eq_none (by rw [vl_length];omega)).symm
theorem Lift.Done.matRowE {st:St} {t t':Tmp} {h h2:Nat} {T T' T2:TypeId} {z:List V} {K:Nat} {xs:List Rat} {k1 k2:IntKind} {n1 n2 e:Int} (hL:lay Tryz.prog T'=some ⟨3,true,40,z⟩) (h1:lkp st.fr t=some (.ptr h 0)) (g1:lkp st.hp h=some ⟨T,[.i k1 n1,.i k2 n2,.own h2 0 K 3]⟩) (g2:lkp st.hp h2=some ⟨T2,qrow xs⟩) (g3:lkp st.fr t'=some (.i .i64 e)) :
  Done Tryz.prog #[.cell t T',.tmp t'] (.tup [.agg [.i k1 n1,.i k2 n2,.own 0 0 K 3],.i .i64 e]) [⟨T2,qrow xs⟩] st:=by
 refine ⟨[.agg [.i k1 n1,.i k2 n2,.own h2 0 K 3],.i .i64 e],?_,[h2],fun _=>h2,.tup [.agg [.i k1 n1,.i k2 n2,.own h2 0 K 3],.i .i64 e],st.hp,?_,?_,?_,?_,?_⟩
 ·simp only [resVs,resV,h1,g1,hL,g3];rfl
 ·simp only [packV,frz,frzL,List.mem_singleton,if_true]
 ·simp only [V.ren,V.renL]
 ·simp only [V.lt,V.ltL];rfl
 ·intro h q hq
  match h,hq with
  | 0,hq=>
   cases hq
   refine ⟨?_,lt_q _ _⟩
   rw [g2]
   simp only [Row.ren,ren_q]
 ·intro a b ha hb _
  simp at ha hb
  omega
set_option maxHeartbeats 4000000 in
theorem mzero_own (r c:Nat)(hr:r≤60)(hc:c≤60):PCall Tryz.prog 49 [.i .i64 r,.i .i64 c] (.tup [.agg [.i .i64 r,.i .i64 c,.own 0 0 (r*c) 3],.i .i64 0]) [⟨54,qrow (mcells c (fun _ _=>0) (r*c))⟩]:=by
 have c1:=msized_ok r c hr hc
 have c2:=filled_own r c (by omega) (by omega) 82 [] (fun _ _=>0) rfl (fun i k _ _=>zero1_ok i k)
 refine PCall.of_ax Tryz.call49 Tryz.func49 rfl (by simp [Tryz.ntmps49]) fun O w0=>?_
 simp only [Tryz.ntmps49,Tryz.results49,argFr]
 generalize hK:r*c=K at *
 generalize mcells c (fun _ _=>0) K=zs at *
 refine AX.sR (rgAV [0,1,4]) ?_
 refine AX.seq ?_
 refine AX.sR (rgCV [0,1,4,6] (aI c1 oT)) ?_
 refine AX.sR (rgAV [0,1,4,6,11]) ?_
 refine AX.condF ?_
 refine AX.keepA [0,1,4] ?_
 refine AX.skip ?_
 refine nmZ ?_
 refine AX.sR (rgWV [4,5] (aI @ren_q oT) (aI c2 oT)) ?_
 refine AX.ret ⟨.inl rfl,?_⟩
 exact Done.matRowE lay_mat rfl rfl rfl rfl
theorem rch_pos {c:Chn} {i:Nat} (h:c.Rch i):0<c.m:=by
 induction h with
 | exit _ h _=>omega
 | move _ _ _ _ ih=>exact ih
theorem each1_ok (n m:Nat) (hn:n≤60) (hm:m≤60) (A B:Mx) (i k:Nat) (hi:i<n) (hk:k<m) :
  PCall Tryz.prog 133 [.i .i64 i,.i .i64 k,.rp [.i .i64 n,.i .i64 n,.sl ((mcells n A (n*n)).map rV),.i .i64 n,.i .i64 m,.sl ((mcells m B (n*m)).map rV)]] (.agg [.b (decide ((B i k).num<0)),dg (digits (B i k).num.natAbs),dg (digits (B i k).den)]) []:=by
 have c1:=ccell_q hn hm B hi hk
 refine PCall.of_ax Tryz.call133 Tryz.func133 rfl (by simp [Tryz.ntmps133]) fun O w0=>?_
 simp only [Tryz.ntmps133,Tryz.results133,argFr]
 generalize B i k=q at *
 generalize (mcells n A (n*n)).map rV=Ac at *
 generalize (mcells m B (n*m)).map rV=Bc at *
 refine AX.sR (rgAV [0,1,2,5]) ?_
 refine AX.sR (rgCV [5] (aI c1 oT)) ?_
 refine AX.ret ⟨.inl rfl,?_⟩
 exact Done.cell rfl rfl
def eachR (b:Bool) (n m:Nat) (X:Mx):V:=if b=true then .tup [.agg [.i .i64 n,.i .i64 m,.own 0 0 (n*m) 3],.i .i64 0] else .tup [qM n m X,.i .i64 0]
def eachRows (b:Bool) (n m:Nat) (X:Mx):List Row:=if b=true then [⟨54,qrow (mcells m X (n*m))⟩] else []
set_option maxHeartbeats 16000000 in
theorem ceachB (b:Bool) (n m L:Nat) (hn:n≤60) (hm:m≤60) (A B:Mx) (hC:isC n m A B=true) (hA:∀ i k,i<n→k<n→rL (A i k)≤L) (hB:∀ i k,i<n→k<m→rL (B i k)≤L) (hL1:1≤L) (hL2:4*bigL n (L+1)<2 ^ 33) (hL3:120*(L+1)+1<2 ^ 34) :
  PCall Tryz.prog 93 [cV n m A B] (eachR b n m (eachM n m A B)) (eachRows b n m (eachM n m A B)):=by
 have hU:=U_le n (L+1)
 have hU1:1*(L+1+1)≤4 ^ n*(L+1+1):=Nat.mul_le_mul_right _ (Nat.pow_pos (by omega))
 have cr:=cright_ok n m L hn hm A B hA hB hL1 hL3
 rw [hC] at cr
 have creach:=reaches_ok n m L hn hm A B hC
 have cpick:=picked_ok n hn (rchB n m A B)
 have hmono:=bigL_mono (L:=L+1) (pick_le n (rchB n m A B))
 have cw:=within_ok n m L hn hm A B hA (pick n (rchB n m A B)) (pick n (rchB n m A B)).length rfl (Nat.le_trans (pick_le _ _) hn) (fun i hi=>(pick_get hi).1) m hm 133 [.rp [.i .i64 n,.i .i64 n,.sl ((mcells n A (n*n)).map rV),.i .i64 n,.i .i64 m,.sl ((mcells m B (n*m)).map rV)]] rfl (rhsM (pick n (rchB n m A B)) B) false (fun i k hi hk=>each1_ok n m hn hm A B _ k (pick_get hi).1 hk)
  (nonsing_sub hC) (fun i k hi hk=>by
   have:=hB _ k (pick_get hi).1 hk
   show rL (B _ k)≤_
   omega) hL1 (by omega)
 have cz:=mzero_own n m hn hm
 have hX:∀ i,i<n→rchB n m A B i=true→∀ k,eachM n m A B i k=solX (pick n (rchB n m A B)).length (subM false (pick n (rchB n m A B)) A) (rhsM (pick n (rchB n m A B)) B) (pick i (rchB n m A B)).length k:=fun i _ h k=>if_pos h
 have hX0:∀ i,¬ rchB n m A B i=true→∀ k,eachM n m A B i k=0:=fun i h k=>if_neg h
 have hmpos:∀ i,rchB n m A B i=true→0<m:=fun i h=>rch_pos (rchB_iff.1 h)
 generalize eachM n m A B=E at *
 generalize solX (pick n (rchB n m A B)).length (subM false (pick n (rchB n m A B)) A) (rhsM (pick n (rchB n m A B)) B)=X at *
 generalize hf:rchB n m A B=f at *
 have hgets:=fun (i:Nat) (hi:i<(pick n f).length)=>pick_get hi
 have hat:=fun (s:Nat) (hs:s<n) (h:f s=true)=>pick_at hs h
 have hple:=pick_le n f
 generalize hof:pick n f=of at *
 refine PCall.of_ax Tryz.call93 Tryz.func93 rfl (by simp [Tryz.ntmps93]) fun O w0=>?_
 simp only [Tryz.ntmps93,Tryz.results93,argFr]
 unfold qM mV at cw
 unfold cV at *
 generalize (mcells n A (n*n)).map rV=Ac at *
 generalize (mcells m B (n*m)).map rV=Bc at *
 obtain ⟨p,hp⟩:∃ p,of.length=p:=⟨_,rfl⟩
 have hll:=il_length of
 rw [hp] at hll cw hple
 have hXl:((mcells m X (p*m)).map rV).length=p*m:=by rw [List.length_map,mcells_length]
 have hXs:=fun (i:Nat) (hi:i<p)=>mcells_row' (m:=m) X hi
 have hX1:0<p*m→(((mcells m X (p*m)).map rV).getD 0 .junk).cells.length=3:=by
  intro h
  rw [getD_rV (by rw [mcells_length];exact h)]
  rfl
 generalize (mcells m X (p*m)).map rV=Xc at *
 refine AX.sR (rgAV [1,2]) ?_
 refine AX.seq ?_
 refine AX.sR (rgCV [1,2,12] (aI cr oT)) ?_
 refine AX.condF ?_
 refine AX.keepA [1,2] ?_
 refine AX.skip ?_
 refine nmZ ?_
 refine AX.sR (rgCV [1,2,4] (aI creach (aI cpick oT))) ?_
 refine AX.fz 0 (fr':=[(4,.sl (il of)),(2,.ptr 1 0),(1,.rp [.i .i64 n,.i .i64 n,.sl Ac,.i .i64 n,.i .i64 m,.sl Bc])]) (hp':=[(1,⟨41,[.i .i64 0,.i .i64 0,.nl]⟩)]) rfl rfl (.cons rfl .same (.cons rfl .same (.cons rfl (.ptr rfl) .nil))) (.keep (by decide) rfl .nil) ?_
 refine AX.sR (rgCV [1,2,4,5] (aI cw oT)) ?_
 refine AX.sR (rgCV [2,4,5,6] (aI cz oT)) ?_
 refine AX.seq ?_
 refine AX.sR (rgWV [2,5,6,34,35,36] (aI @hll oT) oT) ?_
 refine AX.weaken id (st':=⟨[(36,.i .i64 (0:Nat)),(35,.i .i64 p),(34,.sl (il of)),(6,.ptr 4 0),(5,.ptr 2 0),(2,.ptr 1 0)],[(1,⟨41,[.i .i64 0,.i .i64 0,.nl]⟩),(2,⟨41,[.i .i64 p,.i .i64 m,.sl Xc]⟩),(3,⟨54,qrow (mcells m (fun _ _=>0) (n*m))⟩),(4,⟨41,[.i .i64 n,.i .i64 m,.own 3 0 (n*m) 3]⟩)],5⟩)
  leQ4
  ?_
 refine AX.block ?_
 refine AX.loop (fun N st=>∃ (i:Nat) (xs:List Rat),i≤p∧N=p-i∧(xs=mcells m (fun s k=>if f s=true∧(pick s f).length<i then X (pick s f).length k else 0) (n*m))∧st=⟨[(36,.i .i64 i),(35,.i .i64 p),(34,.sl (il of)),(6,.ptr 4 0),(5,.ptr 2 0),(2,.ptr 1 0)],[(1,⟨41,[.i .i64 0,.i .i64 0,.nl]⟩),(2,⟨41,[.i .i64 p,.i .i64 m,.sl Xc]⟩),(3,⟨54,qrow xs⟩),(4,⟨41,[.i .i64 n,.i .i64 m,.own 3 0 (n*m) 3]⟩)],5⟩) p ⟨0,_,Nat.zero_le _,rfl,by
  congr 1
  funext s k
  rw [if_neg fun h=>Nat.not_lt_zero _ h.2],rfl⟩ ?_
 rintro N st ⟨i,xs,hi,rfl,hxs,rfl⟩
 by_cases h1:i<p
 ·obtain ⟨g1,g2,g3⟩:=hgets i (by omega)
  have hgi:=il_get (l:=of) (j:=i) (by omega)
  generalize of.getD i 0=s at *
  have hm0:=hmpos s g2
  have hs:=setR_row (n:=n) (m:=m) (s:=s) (fun s k=>if f s=true∧(pick s f).length<i then X (pick s f).length k else 0) (X i) g1 m (Nat.le_refl _)
  have hnew:mcells m (fun i' k=>if i'=s∧k<m then X i k else if f i'=true∧(pick i' f).length<i then X (pick i' f).length k else 0) (n*m)=mcells m (fun s k=>if f s=true∧(pick s f).length<i+1 then X (pick s f).length k else 0) (n*m):=by
   refine mcells_congr fun i' k hi' hk=>?_
   by_cases e:i'=s
   ·subst e
    rw [if_pos ⟨rfl,hk⟩,if_pos ⟨g2,by omega⟩,g3]
   ·rw [if_neg fun h=>e h.1]
    by_cases hf':f i'=true
    ·have hne:(pick i' f).length≠i:=by
      intro h
      have h2:=(hat i' hi' hf').2
      have h3:=(hat s g1 g2).2
      rw [h] at h2
      rw [g3] at h3
      exact e (h2.symm.trans h3)
     by_cases h:(pick i' f).length<i
     ·rw [if_pos ⟨hf',h⟩,if_pos ⟨hf',by omega⟩]
     ·rw [if_neg fun h'=>h h'.2,if_neg fun h'=>by omega]
    ·rw [if_neg fun h=>hf' h.1,if_neg fun h=>hf' h.1]
  rw [hnew,← hxs] at hs
  obtain ⟨ys,hys⟩:∃ ys,mcells m (fun s k=>if f s=true∧(pick s f).length<i+1 then X (pick s f).length k else 0) (n*m)=ys:=⟨_,rfl⟩
  rw [hys] at hs
  have hsl:=hXs i h1
  have hlen:(qrow xs).length=n*m*3:=by rw [qrow_length,hxs,mcells_length]
  have hx1:=hX1 (Nat.mul_pos (by omega) hm0)
  have m1:(s:Int)*(m:Int)=((s*m:Nat):Int):=(Int.natCast_mul s m).symm
  have m2:((s+1:Nat):Int)*(m:Int)=((s*m+m:Nat):Int):=by rw [← Int.natCast_mul,Nat.succ_mul]
  have m3:(i:Int)*(m:Int)=((i*m:Nat):Int):=(Int.natCast_mul i m).symm
  have m4:((i+1:Nat):Int)*(m:Int)=((i*m+m:Nat):Int):=by rw [← Int.natCast_mul,Nat.succ_mul]
  have b1:s*m+m≤n*m:=by
   have:(s+1)*m≤n*m:=Nat.mul_le_mul_right _ g1
   rwa [Nat.succ_mul] at this
  have b2:i*m+m≤p*m:=by
   have:(i+1)*m≤p*m:=Nat.mul_le_mul_right _ h1
   rwa [Nat.succ_mul] at this
  have b3:n*m≤60*60:=Nat.mul_le_mul hn hm
  have b4:p*m≤60*60:=Nat.mul_le_mul (by omega) hm
  have hvl:=vl_length m (X i)
  clear hnew hat hgets hmpos hX hX0 hX1 hXs hxs cw cz cr creach cpick
  generalize vl m (X i)=ws at *
  generalize s*m=z1 at *
  generalize i*m=z2 at *
  generalize n*m=nm at *
  generalize p*m=pm at *
  have hcb:z1*3+m*3≤(qrow xs).length:=by rw [hlen];omega
  refine AX.sR (rgAV [2,5,6,34,35,36,37]) ?_
  refine AX.seq ?_
  refine AX.condT ?_
  refine AX.keepA [2,5,6,34,35,36] ?_
  refine AX.skip ?_
  refine nmZ ?_
  refine AX.seq ?_
  refine AX.block ?_
  refine AX.sR (rgWV [2,5,6,8,9,34,35,36] (aI @hll (aI @hgi oT)) oT) ?_
  apply AX.dreg [2,5,6,34,35,36] (by kernel_rfl) (by simp only [pq];rfl)
  ·repeat (first
  |(apply RunD.op rfl;· rfl
    ·(simp only [opsOf,valsOf,valOf,lkp,ofConst,ofCell,Array.toList,Option.toList,List.map_cons,List.map_nil,List.cons_append,List.nil_append,List.append_nil,Nat.reduceEqDiff,Nat.reducePow,Nat.reduceLT,Nat.reduceLeDiff,reduceIte,if_true,if_false,IntKind.min,IntKind.max,IntKind.bits,IntKind.signed,Int.reduceLE,Int.reduceNeg,Int.reducePow,Int.reduceSub,and_self,Bool.false_eq_true,Nat.reduceSub];rfl)
    iterate 2 (· (simp (disch:=omega) only [go_sem,i64_of,u32_of,u64_of,Nat.reduceLT,Nat.reduceLeDiff,Nat.reduceEqDiff,Nat.reduceAdd,Nat.reduceSub,Nat.reduceMul,Nat.reducePow,Nat.reduceBEq,Int.reduceLE,Int.reduceLT,Int.reduceToNat,Int.reduceEq,Int.reduceNeg,↓reduceIte,reduceCtorEq,lit_add,m1,m2,m3,m4,hXl,hx1,hsl,Nat.add_sub_cancel_left];rfl))
    ·(simp only [pb,Nat.reduceLT,Nat.reduceAdd,reduceIte];rfl)
    ·rfl)
  |(apply RunD.copyQ (xs:=ws) rfl;· rfl
    ·(simp only [opsOf,valsOf,valOf,lkp,ofConst,ofCell,Array.toList,Option.toList,List.map_cons,List.map_nil,List.cons_append,List.nil_append,List.append_nil,Nat.reduceEqDiff,Nat.reducePow,Nat.reduceLT,Nat.reduceLeDiff,reduceIte,if_true,if_false,IntKind.min,IntKind.max,IntKind.bits,IntKind.signed,Int.reduceLE,Int.reduceNeg,Int.reducePow,Int.reduceSub,and_self,Bool.false_eq_true,Nat.reduceSub];rfl)
    ·exact rfl
    ·exact hvl
    ·rfl
    ·rfl
    ·rfl
    ·exact hs
    ·exact hcb
    ·(simp only [pb,Nat.reduceLT,Nat.reduceAdd,reduceIte];rfl)
    ·rfl)
  |(apply RunD.skip;· rfl
    ·(simp only [pb,Nat.reduceLT,Nat.reduceAdd,reduceIte];rfl)
    ·rfl))
   exact RunD.nil
  ·repeat (first | exact Keep.nil | (apply Keep.take;· rfl) | (apply Keep.drop;· rfl))
  ·kernel_rfl
  refine nmZ ?_
  refine AX.rR (rgWV [2,5,6,34,35,36] (aI @lit_add oT) oT) ?_
  refine nmZ ?_
  refine ⟨_,_,id,?_,
   leQ4
   , ⟨i+1,ys,by omega,rfl,hys.symm,rfl⟩⟩
  omega
 ·have e:i=p:=by omega
  have hfin:xs=mcells m E (n*m):=by
   rw [hxs]
   refine mcells_congr fun s k hs hk=>?_
   by_cases h:f s=true
   ·have:=(hat s hs h).1
    rw [if_pos ⟨h,by omega⟩,hX s hs h]
   ·rw [if_neg fun h'=>h h'.1,hX0 s h]
  have hl:n*m=xs.length:=by rw [hfin,mcells_length]
  refine AX.sR (rgAV [2,5,6,34,35,36,37]) ?_
  refine AX.seq ?_
  refine AX.condF ?_
  refine AX.exit ?_
  refine nmZ ?_
  refine AX.sR (rgAV [2,3]) ?_
  cases b
  ·show AX _ _ _ _ (fun e st=>(e=.ret∨e=.normal)∧Done _ _ (.tup [.agg [.i .i64 n,.i .i64 m,.sl ((mcells m E (n*m)).map rV)],.i .i64 0]) [] st)
   rw [← hfin,hl]
   refine AX.fz 3 (fr':=[(2,.ptr 1 0),(3,.i .i64 0)]) (hp':=[(1,⟨41,[.i .i64 n,.i .i64 m,.sl (xs.map rV)]⟩)]) rfl (hf_q xs) (.cons rfl .same (.cons rfl .same .nil)) (.cons (by decide) rfl rfl rfl (fun k hk=>?_) .nil) ?_
   ·have:k=0∨k=1∨k=2:=by simp at hk;omega
    rcases this with rfl | rfl | rfl
    ·exact .same
    ·exact .same
    ·exact .own (okFrz_q xs) (by rw [take_q,chunks_q])
   refine AX.ret ⟨.inl rfl,?_⟩
   exact dnQ4
  ·show AX _ _ _ _ (fun e st=>(e=.ret∨e=.normal)∧Done _ _ (.tup [.agg [.i .i64 n,.i .i64 m,.own 0 0 (n*m) 3],.i .i64 0]) [⟨54,qrow (mcells m E (n*m))⟩] st)
   rw [← hfin]
   refine AX.ret ⟨.inl rfl,?_⟩
   exact Done.matRowE lay_mat rfl rfl rfl rfl
theorem ceach_ok (n m L:Nat) (hn:n≤60) (hm:m≤60) (A B:Mx) (hC:isC n m A B=true) (hA:∀ i k,i<n→k<n→rL (A i k)≤L) (hB:∀ i k,i<n→k<m→rL (B i k)≤L) (hL1:1≤L) (hL2:4*bigL n (L+1)<2 ^ 33) (hL3:120*(L+1)+1<2 ^ 34) :
  PCall Tryz.prog 93 [cV n m A B] (.tup [qM n m (eachM n m A B),.i .i64 0]) []:=ceachB false n m L hn hm A B hC hA hB hL1 hL2 hL3
def atC (n:Nat) (A:Mx) (v:Nat→Rat):Nat→Nat→Rat
 | 0=>v
 | t+1=>thr n (atC n A v t) A
def outC (n:Nat) (A B:Mx) (v:Nat→Rat):Nat→Nat→Rat
 | 0=>fun _=>0
 | t+1=>fun k=>outC n A B v t k+thr n (atC n A v t) B k
theorem isW_vl {n:Nat} {v:Nat→Rat} (hv:∀ i,i<n→0≤v i):isW n ((vl n v).map toRT)=true:=by
 unfold isW
 rw [List.length_map,vl_length,decide_eq_true rfl,Bool.true_and,Bool.not_eq_true',List.any_eq_false]
 intro x hx
 obtain ⟨q,hq,rfl⟩:=List.mem_map.1 hx
 obtain ⟨i,hi,rfl⟩:=List.mem_map.1 hq
 have h0:=hv i (by simpa using hi)
 rw [isR3_toRT]
 have:(toRT (v i)).1=false:=num_nonneg.2 h0
 rw [this]
 simp
theorem vl_mem {n:Nat} {v:Nat→Rat} {P:Rat→Prop} (h:∀ i,i<n→P (v i)):∀ q ∈ vl n v,P q:=by
 intro q hq
 obtain ⟨i,hi,rfl⟩:=List.mem_map.1 hq
 exact h i (by simpa using hi)
theorem weights_q (n m L:Nat)(A B:Mx)(hn:n≤60)(v:Nat→Rat)(hv:∀ i,i<n→0≤v i)(hl:∀ i,i<n→rL (v i)≤L)(hL:L<2 ^ 36):PCall Tryz.prog 61 [cV n m A B,.sl ((vl n v).map rV)] (.b true) []:=by
 have:=weights_ok n m A B hn ((vl n v).map toRT) (by rw [List.length_map,vl_length];omega) (okX_toRT (vl_mem fun i hi=>Nat.lt_of_le_of_lt (hl i hi) hL))
 rw [isW_vl hv,map_toRT] at this
 exact this
end Go.Proofs.YteidabibgjokkaaGreatDoor
