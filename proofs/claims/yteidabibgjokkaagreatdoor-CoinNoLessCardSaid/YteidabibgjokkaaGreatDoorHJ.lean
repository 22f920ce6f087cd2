import Derived.Test.YteidabibgjokkaaGreatDoorHI
import Derived.Test.YteidabibgjokkaaGreatDoorGB
set_option maxRecDepth 20000
set_option linter.all false
namespace Go.Proofs.YteidabibgjokkaaGreatDoor
open Go Go.Proofs.YteidabibgjokkaaGreatDoor.Lift
attribute [local irreducible] Lift.PCall Lift.HCall
theorem flatCells_q (xs:List Rat):flatCells (xs.map rV)=qrow xs:=by
 unfold flatCells qrow
 rw [List.flatMap_map]
theorem Lift.RunD.copyQ {P:Program} {N:Nat} {o:PO} {l:List PO} {Ts:List Tr} {st st1 st2:St} {e:TypeId} {t:TypeId} {x y:Operand} {by':Nat} {z:List V} {T:Tr} {h off K:Nat} {els row row':List V} {T0:TypeId} {xs:List Rat} (ho:o.op=.call ⟨.builtin .copy,#[x,y],#[t,t]⟩) (hg:guardP st.fr o.g=some true)
  (hv:valsOf st.fr (opsOf o.op)=some [.own h off K 3,.sl els]) (hx:els=xs.map rV) (hK:xs.length=K) (hu:P.underlying t=some (.slice e)) (hL:lay P e=some ⟨3,true,by',z⟩) (hr:lkp st.hp h=some ⟨T0,row⟩) (hrow:setR row off (qrow xs)=row') (hle:off+K*3≤row.length)
  (hp1:putSt N o.dst (.i .i64 (K:Int)) st.fr (setL st.hp h ⟨T0,row'⟩) st.nx=some st1) (hT:T=⟨o.dst,slotsOf (opsOf o.op)++gSlot o.g,.i .i64 (K:Int),[h],[(h,lkp (setL st.hp h ⟨T0,row'⟩) h)],[]⟩) (hk:RunD P N l st1 Ts st2):RunD P N (o :: l) st (T :: Ts) st2:=by
 subst hx
 refine RunD.copy (L:=⟨3,true,by',z⟩) ho hg hv hu hL (Nat.zero_lt_succ 2) (by rw [List.length_map];exact hK) ?_ (by rw [flatCells_q,qrow_length,hK]) (by rw [flatCells_q];exact flat_q xs) (v:=.i .i64 (K:Int)) (hp:=setL st.hp h ⟨T0,row'⟩) ?_ hp1 ?_ hk
 ·cases xs with
  | nil=>exact .inr rfl
  | cons q xs=>exact .inl rfl
 ·simp only [copyE,Eff.runL,hr,flatCells_q,hrow,if_pos hle]
 ·rw [hT]
  rfl
theorem setR_app (a b:List V):∀ (l:List V) (off:Nat),setR l off (a++b)=setR (setR l off a) (off+a.length) b:=by
 induction a with
 | nil=>intro l off;rfl
 | cons v a ih=>
  intro l off
  show setR (l.set off v) (off+1) (a++b)=setR (setR (l.set off v) (off+1) a) (off+(a.length+1)) b
  rw [ih,show off+1+a.length=off+(a.length+1) by omega]
theorem vl_succ (n:Nat)(v:Nat→Rat):vl (n+1) v=vl n v++[v n]:=by
 unfold vl
 rw [List.range_succ,List.map_append]
 rfl
theorem setR_row {n m s:Nat} (Z:Mx)(v:Nat→Rat)(hs:s<n):∀ t,t≤m→setR (qrow (mcells m Z (n*m))) (s*m*3) (qrow (vl t v))=qrow (mcells m (fun i k=>if i=s∧k<t then v k else Z i k) (n*m)):=by
 intro t
 induction t with
 | zero=>
  intro _
  show qrow _=_
  congr 2
  funext i k
  rw [if_neg fun h=>Nat.not_lt_zero _ h.2]
 | succ t ih=>
  intro ht
  have ht':t<m:=ht
  rw [vl_succ,qrow_app,setR_app,ih (by omega),qrow_length,vl_length,show s*m*3+t*3=(s*m+t)*3 by rw [Nat.add_mul]]
  have h1:=(mcells_get (r:=n) (c:=m) Z hs ht').1
  have e:qrow [v t]=(rV (v t)).cells:=rfl
  rw [e,set_q (v t) (by rw [mcells_length];exact h1),mcells_set _ (v t) hs ht']
  congr 2
  funext i k
  unfold updM
  dsimp only
  by_cases h:i=s
  ·subst h
   by_cases hk:k=t
   ·subst hk
    rw [if_pos ⟨rfl,rfl⟩,if_pos ⟨rfl,by omega⟩]
   ·rw [if_neg fun h=>hk h.2]
    by_cases hlt:k<t
    ·rw [if_pos ⟨rfl,hlt⟩,if_pos ⟨rfl,by omega⟩]
    ·rw [if_neg fun h=>hlt h.2,if_neg fun h=>by omega]
  ·rw [if_neg fun h'=>h h'.1,if_neg fun h'=>h h'.1,if_neg fun h'=>h h'.1]
theorem mcells_row' {p m i:Nat} (X:Mx)(hi:i<p):List.drop (i*m) (List.take (i*m+m) ((mcells m X (p*m)).map rV))=(vl m (X i)).map rV:=by
 have hle:i*m+m≤p*m:=by
  have:(i+1)*m≤p*m:=Nat.mul_le_mul_right _ hi
  rwa [Nat.succ_mul] at this
 rw [← List.map_take,← List.map_drop]
 congr 1
 apply List.ext_getElem?
 intro j
 rw [List.getElem?_drop,List.getElem?_take]
 by_cases hj:j<m
 ·rw [if_pos (by omega)]
  have h1:(mcells m X (p*m))[i*m+j]? = some (X i j):=by
   obtain ⟨h1,h2⟩:=mcells_get (r:=p) (c:=m) X hi hj
   have hl:i*m+j<(mcells m X (p*m)).length:=by rw [mcells_length];exact h1
   rw [List.getD_eq_getElem?_getD,List.getElem?_eq_getElem hl] at h2
   rw [List.getElem?_eq_getElem hl]
   exact congrArg some h2
  rw [h1]
  simp [vl,hj]
 ·rw [if_neg (by omega)]
  exact (List.getElem?_eq_none (by rw [vl_length];omega)).symm
theorem Lift.Done.matRowE {st:St} {t t':Tmp} {h h2:Nat} {T T' T2:TypeId} {z:List V} {K:Nat} {xs:List Rat} {k1 k2:IntKind} {n1 n2 e:Int} (hL:lay Tryz.prog T'=some ⟨3,true,40,z⟩) (h1:lkp st.fr t=some (.ptr h 0)) (g1:lkp st.hp h=some ⟨T,[.i k1 n1,.i k2 n2,.own h2 0 K 3]⟩) (g2:lkp st.hp h2=some ⟨T2,qrow xs⟩) (g3:lkp st.fr t'=some (.i .i64 e)) :
  Done Tryz.prog #[.cell t T',.tmp t'] (.tup [.agg [.i k1 n1,.i k2 n2,.own 0 0 K 3],.i .i64 e]) [⟨T2,qrow xs⟩] st:=by
 refine ⟨[.agg [.i k1 n1,.i k2 n2,.own h2 0 K 3],.i .i64 e],?_,[h2],fun _=>h2,.tup [.agg [.i k1 n1,.i k2 n2,.own h2 0 K 3],.i .i64 e],st.hp,?_,?_,?_,?_,?_⟩
 ·simp only [resVs,resV,h1,g1,hL,g3];rfl
 ·simp only [packV,frz,frzL,List.mem_singleton,if_true]
 ·simp only [V.ren,V.renL]
 ·simp only [V.lt,V.ltL];rfl
 ·intro h q hq
  match h,hq with
  | 0,hq=>
   cases hq
   refine ⟨?_,lt_q _ _⟩
   rw [g2]
   simp only [Row.ren,ren_q]
 ·intro a b ha hb _
  simp at ha hb
  omega
set_option maxHeartbeats 4000000 in
theorem mzero_own (r c:Nat)(hr:r≤60)(hc:c≤60):PCall Tryz.prog 49 [.i .i64 r,.i .i64 c] (.tup [.agg [.i .i64 r,.i .i64 c,.own 0 0 (r*c) 3],.i .i64 0]) [⟨54,qrow (mcells c (fun _ _=>0) (r*c))⟩]:=by
 have c1:=msized_ok r c hr hc
 have c2:=filled_own r c (by omega) (by omega) 82 [] (fun _ _=>0) rfl (fun i k _ _=>zero1_ok i k)
 refine PCall.of_ax Tryz.call49 Tryz.func49 rfl (by simp [Tryz.ntmps49]) fun O w0=>?_
 simp only [Tryz.ntmps49,Tryz.results49,argFr]
 generalize hK:r*c=K at *
 generalize mcells c (fun _ _=>0) K=zs at *
 refine AX.sR (rgAV [0,1,4]) ?_
 refine AX.seq ?_
 refine AX.sR (rgCV [0,1,4,6] (aI c1 oT)) ?_
 refine AX.sR (rgAV [0,1,4,6,11]) ?_
 refine AX.condF ?_
 refine AX.keepA [0,1,4] ?_
 refine AX.skip ?_
 refine nmZ ?_
 refine AX.sR (rgWV [4,5] (aI @ren_q oT) (aI c2 oT)) ?_
 refine AX.ret ⟨.inl rfl,?_⟩
 exact Done.matRowE lay_mat rfl rfl rfl rfl
theorem rch_pos {c:Chn} {i:Nat} (h:c.Rch i):0<c.m:=by
 induction h with
 | exit _ h _=>omega
 | move _ _ _ _ ih=>exact ih
theorem each1_ok (n m:Nat) (hn:n≤60) (hm:m≤60) (A B:Mx) (i k:Nat) (hi:i<n) (hk:k<m) :
  PCall Tryz.prog 133 [.i .i64 i,.i .i64 k,.rp [.i .i64 n,.i .i64 n,.sl ((mcells n A (n*n)).map rV),.i .i64 n,.i .i64 m,.sl ((mcells m B (n*m)).map rV)]] (.agg [.b (decide ((B i k).num<0)),dg (digits (B i k).num.natAbs),dg (digits (B i k).den)]) []:=by
 have c1:=ccell_q hn hm B hi hk
 refine PCall.of_ax Tryz.call133 Tryz.func133 rfl (by simp [Tryz.ntmps133]) fun O w0=>?_
 simp only [Tryz.ntmps133,Tryz.results133,argFr]
 generalize B i k=q at *
 generalize (mcells n A (n*n)).map rV=Ac at *
 generalize (mcells m B (n*m)).map rV=Bc at *
 refine AX.sR (rgAV [0,1,2,5]) ?_
 refine AX.sR (rgCV [5] (aI c1 oT)) ?_
 refine AX.ret ⟨.inl rfl,?_⟩
 exact Done.cell rfl rfl
def eachR (b:Bool) (n m:Nat) (X:Mx):V:=if b=true then .tup [.agg [.i .i64 n,.i .i64 m,.own 0 0 (n*m) 3],.i .i64 0] else .tup [qM n m X,.i .i64 0]
def eachRows (b:Bool) (n m:Nat) (X:Mx):List Row:=if b=true then [⟨54,qrow (mcells m X (n*m))⟩] else []
set_option maxHeartbeats 16000000 in
theorem ceachB (b:Bool) (n m L:Nat) (hn:n≤60) (hm:m≤60) (A B:Mx) (hC:isC n m A B=true) (hA:∀ i k,i<n→k<n→rL (A i k)≤L) (hB:∀ i k,i<n→k<m→rL (B i k)≤L) (hL1:1≤L) (hL2:4*bigL n (L+1)<2 ^ 33) (hL3:120*(L+1)+1<2 ^ 34) :
  PCall Tryz.prog 93 [cV n m A B] (eachR b n m (eachM n m A B)) (eachRows b n m (eachM n m A B)):=by
 have hU:=U_le n (L+1)
 have hU1:1*(L+1+1)≤4 ^ n*(L+1+1):=Nat.mul_le_mul_right _ (Nat.pow_pos (by omega))
 have cr:=cright_ok n m L hn hm A B hA hB hL1 hL3
 rw [hC] at cr
 have creach:=reaches_ok n m L hn hm A B hC
 have cpick:=picked_ok n hn (rchB n m A B)
 have hmono:=bigL_mono (L:=L+1) (pick_le n (rchB n m A B))
 have cw:=within_ok n m L hn hm A B hA (pick n (rchB n m A B)) (pick n (rchB n m A B)).length rfl (Nat.le_trans (pick_le _ _) hn) (fun i hi=>(pick_get hi).1) m hm 133 [.rp [.i .i64 n,.i .i64 n,.sl ((mcells n A (n*n)).map rV),.i .i64 n,.i .i64 m,.sl ((mcells m B (n*m)).map rV)]] rfl (rhsM (pick n (rchB n m A B)) B) false (fun i k hi hk=>each1_ok n m hn hm A B _ k (pick_get hi).1 hk)
  (nonsing_sub hC) (fun i k hi hk=>by
   have:=hB _ k (pick_get hi).1 hk
   show rL (B _ k)≤_
   omega) hL1 (by omega)
 have cz:=mzero_own n m hn hm
 have hX:∀ i,i<n→rchB n m A B i=true→∀ k,eachM n m A B i k=solX (pick n (rchB n m A B)).length (subM false (pick n (rchB n m A B)) A) (rhsM (pick n (rchB n m A B)) B) (pick i (rchB n m A B)).length k:=fun i _ h k=>if_pos h
 have hX0:∀ i,¬ rchB n m A B i=true→∀ k,eachM n m A B i k=0:=fun i h k=>if_neg h
 have hmpos:∀ i,rchB n m A B i=true→0<m:=fun i h=>rch_pos (rchB_iff.1 h)
 generalize eachM n m A B=E at *
 generalize solX (pick n (rchB n m A B)).length (subM false (pick n (rchB n m A B)) A) (rhsM (pick n (rchB n m A B)) B)=X at *
 generalize hf:rchB n m A B=f at *
 have hgets:=fun (i:Nat) (hi:i<(pick n f).length)=>pick_get hi
 have hat:=fun (s:Nat) (hs:s<n) (h:f s=true)=>pick_at hs h
 have hple:=pick_le n f
 generalize hof:pick n f=of at *
 refine PCall.of_ax Tryz.call93 Tryz.func93 rfl (by simp [Tryz.ntmps93]) fun O w0=>?_
 simp only [Tryz.ntmps93,Tryz.results93,argFr]
 unfold qM mV at cw
 unfold cV at *
 generalize (mcells n A (n*n)).map rV=Ac at *
 generalize (mcells m B (n*m)).map rV=Bc at *
 obtain ⟨p,hp⟩:∃ p,of.length=p:=⟨_,rfl⟩
 have hll:=il_length of
 rw [hp] at hll cw hple
 have hXl:((mcells m X (p*m)).map rV).length=p*m:=by rw [List.length_map,mcells_length]
 have hXs:=fun (i:Nat) (hi:i<p)=>mcells_row' (m:=m) X hi
 have hX1:0<p*m→(((mcells m X (p*m)).map rV).getD 0 .junk).cells.length=3:=by
  intro h
  rw [getD_rV (by rw [mcells_length];exact h)]
  rfl
 generalize (mcells m X (p*m)).map rV=Xc at *
 refine AX.sR (rgAV [1,2]) ?_
 refine AX.seq ?_
 refine AX.sR (rgCV [1,2,12] (aI cr oT)) ?_
 refine AX.condF ?_
 refine AX.keepA [1,2] ?_
 refine AX.skip ?_
 refine nmZ ?_
 refine AX.sR (rgCV [1,2,4] (aI creach (aI cpick oT))) ?_
 refine AX.fz 0 (fr':=[(4,.sl (il of)),(2,.ptr 1 0),(1,.rp [.i .i64 n,.i .i64 n,.sl Ac,.i .i64 n,.i .i64 m,.sl Bc])]) (hp':=[(1,⟨41,[.i .i64 0,.i .i64 0,.nl]⟩)]) rfl rfl (.cons rfl .same (.cons rfl .same (.cons rfl (.ptr rfl) .nil))) (.keep (by decide) rfl .nil) ?_
 refine AX.sR (rgCV [1,2,4,5] (aI cw oT)) ?_
 refine AX.sR (rgCV [2,4,5,6] (aI cz oT)) ?_
 refine AX.seq ?_
 refine AX.sR (rgWV [2,5,6,34,35,36] (aI @hll oT) oT) ?_
 refine AX.weaken id (st':=⟨[(36,.i .i64 (0:Nat)),(35,.i .i64 p),(34,.sl (il of)),(6,.ptr 4 0),(5,.ptr 2 0),(2,.ptr 1 0)],[(1,⟨41,[.i .i64 0,.i .i64 0,.nl]⟩),(2,⟨41,[.i .i64 p,.i .i64 m,.sl Xc]⟩),(3,⟨54,qrow (mcells m (fun _ _=>0) (n*m))⟩),(4,⟨41,[.i .i64 n,.i .i64 m,.own 3 0 (n*m) 3]⟩)],5⟩)
  leQ4
  ?_
 refine AX.block ?_
 refine AX.loop (fun N st=>∃ (i:Nat) (xs:List Rat),i≤p∧N=p-i∧(xs=mcells m (fun s k=>if f s=true∧(pick s f).length<i then X (pick s f).length k else 0) (n*m))∧st=⟨[(36,.i .i64 i),(35,.i .i64 p),(34,.sl (il of)),(6,.ptr 4 0),(5,.ptr 2 0),(2,.ptr 1 0)],[(1,⟨41,[.i .i64 0,.i .i64 0,.nl]⟩),(2,⟨41,[.i .i64 p,.i .i64 m,.sl Xc]⟩),(3,⟨54,qrow xs⟩),(4,⟨41,[.i .i64 n,.i .i64 m,.own 3 0 (n*m) 3]⟩)],5⟩) p ⟨0,_,Nat.zero_le _,rfl,by
  congr 1
  funext s k
  rw [if_neg fun h=>Nat.not_lt_zero _ h.2],rfl⟩ ?_
 rintro N st ⟨i,xs,hi,rfl,hxs,rfl⟩
 by_cases h1:i<p
 ·obtain ⟨g1,g2,g3⟩:=hgets i (by omega)
  have hgi:=il_get (l:=of) (j:=i) (by omega)
  generalize of.getD i 0=s at *
  have hm0:=hmpos s g2
  have hs:=setR_row (n:=n) (m:=m) (s:=s) (fun s k=>if f s=true∧(pick s f).length<i then X (pick s f).length k else 0) (X i) g1 m (Nat.le_refl _)
  have hnew:mcells m (fun i' k=>if i'=s∧k<m then X i k else if f i'=true∧(pick i' f).length<i then X (pick i' f).length k else 0) (n*m)=mcells m (fun s k=>if f s=true∧(pick s f).length<i+1 then X (pick s f).length k else 0) (n*m):=by
   refine mcells_congr fun i' k hi' hk=>?_
   by_cases e:i'=s
   ·subst e
    rw [if_pos ⟨rfl,hk⟩,if_pos ⟨g2,by omega⟩,g3]
   ·rw [if_neg fun h=>e h.1]
    by_cases hf':f i'=true
    ·have hne:(pick i' f).length≠i:=by
      intro h
      have h2:=(hat i' hi' hf').2
      have h3:=(hat s g1 g2).2
      rw [h] at h2
      rw [g3] at h3
      exact e (h2.symm.trans h3)
     by_cases h:(pick i' f).length<i
     ·rw [if_pos ⟨hf',h⟩,if_pos ⟨hf',by omega⟩]
     ·rw [if_neg fun h'=>h h'.2,if_neg fun h'=>by omega]
    ·rw [if_neg fun h=>hf' h.1,if_neg fun h=>hf' h.1]
  rw [hnew,← hxs] at hs
  obtain ⟨ys,hys⟩:∃ ys,mcells m (fun s k=>if f s=true∧(pick s f).length<i+1 then X (pick s f).length k else 0) (n*m)=ys:=⟨_,rfl⟩
  rw [hys] at hs
  have hsl:=hXs i h1
  have hlen:(qrow xs).length=n*m*3:=by rw [qrow_length,hxs,mcells_length]
  have hx1:=hX1 (Nat.mul_pos (by omega) hm0)
  have m1:(s:Int)*(m:Int)=((s*m:Nat):Int):=(Int.natCast_mul s m).symm
  have m2:((s+1:Nat):Int)*(m:Int)=((s*m+m:Nat):Int):=by rw [← Int.natCast_mul,Nat.succ_mul]
  have m3:(i:Int)*(m:Int)=((i*m:Nat):Int):=(Int.natCast_mul i m).symm
  have m4:((i+1:Nat):Int)*(m:Int)=((i*m+m:Nat):Int):=by rw [← Int.natCast_mul,Nat.succ_mul]
  have b1:s*m+m≤n*m:=by
   have:(s+1)*m≤n*m:=Nat.mul_le_mul_right _ g1
   rwa [Nat.succ_mul] at this
  have b2:i*m+m≤p*m:=by
   have:(i+1)*m≤p*m:=Nat.mul_le_mul_right _ h1
   rwa [Nat.succ_mul] at this
  have b3:n*m≤60*60:=Nat.mul_le_mul hn hm
  have b4:p*m≤60*60:=Nat.mul_le_mul (by omega) hm
  have hvl:=vl_length m (X i)
  clear hnew hat hgets hmpos hX hX0 hX1 hXs hxs cw cz cr creach cpick
  generalize vl m (X i)=ws at *
  generalize s*m=z1 at *
  generalize i*m=z2 at *
  generalize n*m=nm at *
  generalize p*m=pm at *
  have hcb:z1*3+m*3≤(qrow xs).length:=by rw [hlen];omega
  refine AX.sR (rgAV [2,5,6,34,35,36,37]) ?_
  refine AX.seq ?_
  refine AX.condT ?_
  refine AX.keepA [2,5,6,34,35,36] ?_
  refine AX.skip ?_
  refine nmZ ?_
  refine AX.seq ?_
  refine AX.block ?_
  refine AX.sR (rgWV [2,5,6,8,9,34,35,36] (aI @hll (aI @hgi oT)) oT) ?_
  apply AX.dreg [2,5,6,34,35,36] (by kernel_rfl) (by simp only [pq];rfl)
  ·repeat (first
  |(apply RunD.op rfl;· rfl
    ·(simp only [opsOf,valsOf,valOf,lkp,ofConst,ofCell,Array.toList,Option.toList,List.map_cons,List.map_nil,List.cons_append,List.nil_append,List.append_nil,Nat.reduceEqDiff,Nat.reducePow,Nat.reduceLT,Nat.reduceLeDiff,reduceIte,if_true,if_false,IntKind.min,IntKind.max,IntKind.bits,IntKind.signed,Int.reduceLE,Int.reduceNeg,Int.reducePow,Int.reduceSub,and_self,Bool.false_eq_true,Nat.reduceSub];rfl)
    iterate 2 (· (simp (disch:=omega) only [go_sem,i64_of,u32_of,u64_of,Nat.reduceLT,Nat.reduceLeDiff,Nat.reduceEqDiff,Nat.reduceAdd,Nat.reduceSub,Nat.reduceMul,Nat.reducePow,Nat.reduceBEq,Int.reduceLE,Int.reduceLT,Int.reduceToNat,Int.reduceEq,Int.reduceNeg,↓reduceIte,reduceCtorEq,lit_add,m1,m2,m3,m4,hXl,hx1,hsl,Nat.add_sub_cancel_left];rfl))
    ·(simp only [pb,Nat.reduceLT,Nat.reduceAdd,reduceIte];rfl)
    ·rfl)
  |(apply RunD.copyQ (xs:=ws) rfl;· rfl
    ·(simp only [opsOf,valsOf,valOf,lkp,ofConst,ofCell,Array.toList,Option.toList,List.map_cons,List.map_nil,List.cons_append,List.nil_append,List.append_nil,Nat.reduceEqDiff,Nat.reducePow,Nat.reduceLT,Nat.reduceLeDiff,reduceIte,if_true,if_false,IntKind.min,IntKind.max,IntKind.bits,IntKind.signed,Int.reduceLE,Int.reduceNeg,Int.reducePow,Int.reduceSub,and_self,Bool.false_eq_true,Nat.reduceSub];rfl)
    ·exact rfl
    ·exact hvl
    ·rfl
    ·rfl
    ·rfl
    ·exact hs
    ·exact hcb
    ·(simp only [pb,Nat.reduceLT,Nat.reduceAdd,reduceIte];rfl)
    ·rfl)
  |(apply RunD.skip;· rfl
    ·(simp only [pb,Nat.reduceLT,Nat.reduceAdd,reduceIte];rfl)
    ·rfl))
   exact RunD.nil
  ·repeat (first | exact Keep.nil | (apply Keep.take;· rfl) | (apply Keep.drop;· rfl))
  ·kernel_rfl
  refine nmZ ?_
  refine AX.rR (rgWV [2,5,6,34,35,36] (aI @lit_add oT) oT) ?_
  refine nmZ ?_
  refine ⟨_,_,id,?_,
   leQ4
   , ⟨i+1,ys,by omega,rfl,hys.symm,rfl⟩⟩
  omega
 ·have e:i=p:=by omega
  have hfin:xs=mcells m E (n*m):=by
   rw [hxs]
   refine mcells_congr fun s k hs hk=>?_
   by_cases h:f s=true
   ·have:=(hat s hs h).1
    rw [if_pos ⟨h,by omega⟩,hX s hs h]
   ·rw [if_neg fun h'=>h h'.1,hX0 s h]
  have hl:n*m=xs.length:=by rw [hfin,mcells_length]
  refine AX.sR (rgAV [2,5,6,34,35,36,37]) ?_
  refine AX.seq ?_
  refine AX.condF ?_
  refine AX.exit ?_
  refine nmZ ?_
  refine AX.sR (rgAV [2,3]) ?_
  cases b
  ·show AX _ _ _ _ (fun e st=>(e=.ret∨e=.normal)∧Done _ _ (.tup [.agg [.i .i64 n,.i .i64 m,.sl ((mcells m E (n*m)).map rV)],.i .i64 0]) [] st)
   rw [← hfin,hl]
   refine AX.fz 3 (fr':=[(2,.ptr 1 0),(3,.i .i64 0)]) (hp':=[(1,⟨41,[.i .i64 n,.i .i64 m,.sl (xs.map rV)]⟩)]) rfl (hf_q xs) (.cons rfl .same (.cons rfl .same .nil)) (.cons (by decide) rfl rfl rfl (fun k hk=>?_) .nil) ?_
   ·have:k=0∨k=1∨k=2:=by simp at hk;omega
    rcases this with rfl | rfl | rfl
    ·exact .same
    ·exact .same
    ·exact .own (okFrz_q xs) (by rw [take_q,chunks_q])
   refine AX.ret ⟨.inl rfl,?_⟩
   exact dnQ4
  ·show AX _ _ _ _ (fun e st=>(e=.ret∨e=.normal)∧Done _ _ (.tup [.agg [.i .i64 n,.i .i64 m,.own 0 0 (n*m) 3],.i .i64 0]) [⟨54,qrow (mcells m E (n*m))⟩] st)
   rw [← hfin]
   refine AX.ret ⟨.inl rfl,?_⟩
   exact Done.matRowE lay_mat rfl rfl rfl rfl
theorem ceach_ok (n m L:Nat) (hn:n≤60) (hm:m≤60) (A B:Mx) (hC:isC n m A B=true) (hA:∀ i k,i<n→k<n→rL (A i k)≤L) (hB:∀ i k,i<n→k<m→rL (B i k)≤L) (hL1:1≤L) (hL2:4*bigL n (L+1)<2 ^ 33) (hL3:120*(L+1)+1<2 ^ 34) :
  PCall Tryz.prog 93 [cV n m A B] (.tup [qM n m (eachM n m A B),.i .i64 0]) []:=ceachB false n m L hn hm A B hC hA hB hL1 hL2 hL3
def atC (n:Nat) (A:Mx) (v:Nat→Rat):Nat→Nat→Rat
 | 0=>v
 | t+1=>thr n (atC n A v t) A
def outC (n:Nat) (A B:Mx) (v:Nat→Rat):Nat→Nat→Rat
 | 0=>fun _=>0
 | t+1=>fun k=>outC n A B v t k+thr n (atC n A v t) B k
theorem isW_vl {n:Nat} {v:Nat→Rat} (hv:∀ i,i<n→0≤v i):isW n ((vl n v).map toRT)=true:=by
 unfold isW
 rw [List.length_map,vl_length,decide_eq_true rfl,Bool.true_and,Bool.not_eq_true',List.any_eq_false]
 intro x hx
 obtain ⟨q,hq,rfl⟩:=List.mem_map.1 hx
 obtain ⟨i,hi,rfl⟩:=List.mem_map.1 hq
 have h0:=hv i (by simpa using hi)
 rw [isR3_toRT]
 have:(toRT (v i)).1=false:=num_nonneg.2 h0
 rw [this]
 simp
theorem vl_mem {n:Nat} {v:Nat→Rat} {P:Rat→Prop} (h:∀ i,i<n→P (v i)):∀ q ∈ vl n v,P q:=by
 intro q hq
 obtain ⟨i,hi,rfl⟩:=List.mem_map.1 hq
 exact h i (by simpa using hi)
theorem weights_q (n m L:Nat)(A B:Mx)(hn:n≤60)(v:Nat→Rat)(hv:∀ i,i<n→0≤v i)(hl:∀ i,i<n→rL (v i)≤L)(hL:L<2 ^ 36):PCall Tryz.prog 61 [cV n m A B,.sl ((vl n v).map rV)] (.b true) []:=by
 have:=weights_ok n m A B hn ((vl n v).map toRT) (by rw [List.length_map,vl_length];omega) (okX_toRT (vl_mem fun i hi=>Nat.lt_of_le_of_lt (hl i hi) hL))
 rw [isW_vl hv,map_toRT] at this
 exact this
set_option maxHeartbeats 16000000 in
theorem after_ok (n m L LT t:Nat) (hn:n≤60) (hm:m≤60) (A B:Mx) (hC:isC n m A B=true) (hA:∀ i k,i<n→k<n→rL (A i k)≤L) (hB:∀ i k,i<n→k<m→rL (B i k)≤L) (hL1:1≤L) (hL3:120*(L+1)+1<2 ^ 34) (v:Nat→Rat) (hv:∀ i,i<n→0≤v i) (ht:t≤200)
  (hat:∀ j,j≤t→∀ i,i<n→rL (atC n A v j i)≤LT) (hout:∀ j,j≤t→∀ k,k<m→rL (outC n A B v j k)≤LT) (hLT:L≤LT) (hLT2:60*(2*LT+1)+1<2 ^ 34) :
  PCall Tryz.prog 32 [cV n m A B,.sl ((vl n v).map rV),.i .i64 t] (.tup [.sl ((vl n (atC n A v t)).map rV),.sl ((vl m (outC n A B v t)).map rV),.i .i64 0]) []:=by
 have cr:=cright_ok n m L hn hm A B hA hB hL1 hL3
 rw [hC] at cr
 have hvL:∀ i,i<n→rL (v i)≤LT:=fun i hi=>hat 0 (Nat.zero_le _) i hi
 have cwt:=weights_q n m LT A B hn v hv hvL (by omega)
 have cz1:=czeros_own n hn
 have cz2:=czeros_own m hm
 have ct1:=fun (j:Nat) (hj:j≤t)=>through_ok n m LT hn hm (atC n A v j) B (hat j hj) (fun i k hi hk=>Nat.le_trans (hB i k hi hk) hLT) (by omega) hLT2
 have ct2:=fun (j:Nat) (hj:j≤t)=>through_ok n n LT hn hn (atC n A v j) A (hat j hj) (fun i k hi hk=>Nat.le_trans (hA i k hi hk) hLT) (by omega) hLT2
 have hthl:=fun (j k:Nat) (hj:j≤t) (hk:k<m)=>thr_len (B:=B) (k:=k) (by omega) (hat j hj) (fun i hi=>Nat.le_trans (hB i k hi hk) hLT) n (Nat.le_refl _)
 have cadd:∀ p q:Rat,rL p≤60*(2*LT+1)+1→rL q≤60*(2*LT+1)+1→PCall Tryz.prog 50 [.agg [.b (decide (p.num<0)),dg (digits p.num.natAbs),dg (digits p.den)],.agg [.b (decide (q.num<0)),dg (digits q.num.natAbs),dg (digits q.den)]] (.agg [.b (decide ((p+q).num<0)),dg (digits (p+q).num.natAbs),dg (digits (p+q).den)]) []:=fun p q h1 h2=>qadd_ok (IsQ.of h1) (IsQ.of h2) hLT2
 refine PCall.of_ax Tryz.call32 Tryz.func32 rfl (by simp [Tryz.ntmps32]) fun O w0=>?_
 simp only [Tryz.ntmps32,Tryz.results32,argFr]
 have hvl:((vl n v).map rV).length=n:=by rw [List.length_map,vl_length]
 have hixv:=fun (j:Nat) (hj:j<n)=>fun x y=>effIxL (x:=x) (y:=y) v hj
 have hat0:atC n A v 0=v:=rfl
 have hats:∀ j,atC n A v (j+1)=thr n (atC n A v j) A:=fun _=>rfl
 have houts:∀ j k,outC n A B v (j+1) k=outC n A B v j k+thr n (atC n A v j) B k:=fun _ _=>rfl
 unfold cV at *
 generalize (mcells n A (n*n)).map rV=Ac at *
 generalize (mcells m B (n*m)).map rV=Bc at *
 generalize hvs:(vl n v).map rV=vs at *
 refine AX.sR (rgAV [1,2,3]) ?_
 refine AX.seq ?_
 refine AX.block ?_
 refine AX.sR (rgCV [1,2,3,15] (aI cr (aI cwt oT))) ?_
 refine AX.condF ?_
 refine AX.sR (rgAV [1,2,3,29]) ?_
 refine AX.condF ?_
 refine AX.keepA [1,2,3] ?_
 refine AX.skip ?_
 refine nmZ ?_
 apply AX.sdreg [1,2,3,9,10] (by kernel_rfl) (by simp only [pq];rfl)
 ·repeat (first
 |(apply RunD.op rfl;· rfl
   ·(simp only [opsOf,valsOf,valOf,lkp,ofConst,ofCell,Array.toList,Option.toList,List.map_cons,List.map_nil,List.cons_append,List.nil_append,List.append_nil,Nat.reduceEqDiff,Nat.reducePow,Nat.reduceLT,Nat.reduceLeDiff,reduceIte,if_true,if_false,IntKind.min,IntKind.max,IntKind.bits,IntKind.signed,Int.reduceLE,Int.reduceNeg,Int.reducePow,Int.reduceSub,and_self,Bool.false_eq_true,Nat.reduceSub];rfl)
   iterate 2 (· (simp (disch:=omega) only [go_sem,i64_of,u32_of,u64_of,Nat.reduceLT,Nat.reduceLeDiff,Nat.reduceEqDiff,Nat.reduceAdd,Nat.reduceSub,Nat.reduceMul,Nat.reducePow,Nat.reduceBEq,Int.reduceLE,Int.reduceLT,Int.reduceToNat,Int.reduceEq,Int.reduceNeg,↓reduceIte,reduceCtorEq];rfl))
   ·(simp only [pb,Nat.reduceLT,Nat.reduceAdd,reduceIte];rfl)
   ·rfl)
 |(apply RunD.callOwn rfl;· rfl
   ·(simp only [opsOf,valsOf,valOf,lkp,ofConst,ofCell,Array.toList,Option.toList,List.map_cons,List.map_nil,List.cons_append,List.nil_append,List.append_nil,Nat.reduceEqDiff,Nat.reducePow,Nat.reduceLT,Nat.reduceLeDiff,reduceIte,if_true,if_false,IntKind.min,IntKind.max,IntKind.bits,IntKind.signed,Int.reduceLE,Int.reduceNeg,Int.reducePow,Int.reduceSub,and_self,Bool.false_eq_true,Nat.reduceSub];rfl)
   ·first | rfl | (simp only [List.cons_append,List.nil_append,V.hfL,V.hf,Bool.true_and];assumption)
   ·(first | (simp only [cnlL,cnl,List.append_nil,List.cons_append,List.nil_append];exact cz1) | (exact cz1))
   ·(simp only [V.ren,V.renL,ren_q,renL_u,ren_z,ren_bl,ren_il];rfl)
   ·(simp only [Row.ren,V.ren,V.renL,ren_q,renL_u,ren_z,ren_bl,ren_il];rfl)
   ·(simp only [pb,Nat.reduceLT,Nat.reduceAdd,reduceIte];rfl)
   ·rfl)
 |(apply RunD.callOwn rfl;· rfl
   ·(simp only [opsOf,valsOf,valOf,lkp,ofConst,ofCell,Array.toList,Option.toList,List.map_cons,List.map_nil,List.cons_append,List.nil_append,List.append_nil,Nat.reduceEqDiff,Nat.reducePow,Nat.reduceLT,Nat.reduceLeDiff,reduceIte,if_true,if_false,IntKind.min,IntKind.max,IntKind.bits,IntKind.signed,Int.reduceLE,Int.reduceNeg,Int.reducePow,Int.reduceSub,and_self,Bool.false_eq_true,Nat.reduceSub];rfl)
   ·first | rfl | (simp only [List.cons_append,List.nil_append,V.hfL,V.hf,Bool.true_and];assumption)
   ·(first | (simp only [cnlL,cnl,List.append_nil,List.cons_append,List.nil_append];exact cz2) | (exact cz2))
   ·(simp only [V.ren,V.renL,ren_q,renL_u,ren_z,ren_bl,ren_il];rfl)
   ·(simp only [Row.ren,V.ren,V.renL,ren_q,renL_u,ren_z,ren_bl,ren_il];rfl)
   ·(simp only [pb,Nat.reduceLT,Nat.reduceAdd,reduceIte];rfl)
   ·rfl)
 |(apply RunD.skip;· rfl
   ·(simp only [pb,Nat.reduceLT,Nat.reduceAdd,reduceIte];rfl)
   ·rfl))
  exact RunD.nil
 ·repeat (first | exact Keep.nil | (apply Keep.take;· rfl) | (apply Keep.drop;· rfl))
 ·kernel_rfl
 refine AX.cut (fun st=>Le 0 id ⟨[(2,.i .i64 t),(3,.ptr 0 0),(9,.own 1 0 n 3),(10,.own 2 0 m 3)],[(0,⟨43,[.i .i64 n,.i .i64 n,.sl Ac,.i .i64 n,.i .i64 m,.sl Bc]⟩),(1,⟨54,qrow (vl n v)⟩),(2,⟨54,qrow (vl m fun _=>0)⟩)],3⟩ st) ?_ ?_
 ·refine AX.sR (rgWV [2,3,9,10,40,41,42] (aI @hvl oT) oT) ?_
  refine AX.weaken id (st':=⟨[(42,.i .i64 (0:Nat)),(41,.i .i64 n),(40,.sl vs),(10,.own 2 0 m 3),(9,.own 1 0 n 3),(3,.ptr 0 0),(2,.i .i64 t)],[(0,⟨43,[.i .i64 n,.i .i64 n,.sl Ac,.i .i64 n,.i .i64 m,.sl Bc]⟩),(1,⟨54,qrow (vl n fun _=>0)⟩),(2,⟨54,qrow (vl m fun _=>0)⟩)],3⟩)
   leQ4
   ?_
  refine AX.block ?_
  refine AX.loop (fun N st=>∃ (i:Nat) (xs:List Rat),i≤n∧N=n-i∧(xs=vl n fun k=>if k<i then v k else 0)∧st=⟨[(42,.i .i64 i),(41,.i .i64 n),(40,.sl vs),(10,.own 2 0 m 3),(9,.own 1 0 n 3),(3,.ptr 0 0),(2,.i .i64 t)],[(0,⟨43,[.i .i64 n,.i .i64 n,.sl Ac,.i .i64 n,.i .i64 m,.sl Bc]⟩),(1,⟨54,qrow xs⟩),(2,⟨54,qrow (vl m fun _=>0)⟩)],3⟩) n ⟨0,_,Nat.zero_le _,rfl,vl_congr fun k _=>by rw [if_neg (Nat.not_lt_zero _)],rfl⟩ ?_
  rintro N st ⟨i,xs,hi,rfl,hxs,rfl⟩
  by_cases h1:i<n
  ·have hix:=hixv i h1
   have hl:=vl_len3 n (fun k=>if k<i then v k else 0)
   have hg:=vl_get3 (fun k=>if k<i then v k else 0) h1
   rw [if_neg (Nat.lt_irrefl _)] at hg
   have hset:=vl_set3 (fun k=>if k<i then v k else 0) (v i) h1
   rw [← hxs] at hl hg hset
   obtain ⟨ys,hys⟩:∃ ys,(vl n fun k'=>if k'=i then v i else if k' < i then v k' else 0)=ys:=⟨_,rfl⟩
   rw [hys] at hset
   have hys':ys=vl n fun k=>if k<i+1 then v k else 0:=by
    rw [← hys]
    refine vl_congr fun k _=>?_
    by_cases e:k=i
    ·subst e
     rw [if_pos rfl,if_pos (Nat.lt_succ_self _)]
    ·rw [if_neg e]
     by_cases h:k<i
     ·rw [if_pos h,if_pos (by omega)]
     ·rw [if_neg h,if_neg (by omega)]
   have ca:=cadd 0 (v i) (Nat.le_trans rL0 (by omega)) (Nat.le_trans (hvL i h1) (by omega))
   rw [Rat.zero_add] at ca
   clear hys hxs
   generalize v i=q at *
   obtain ⟨z0,hz0⟩:∃ z0:Rat,(0:Rat)=z0:=⟨_,rfl⟩
   rw [hz0] at ca hg
   refine AX.sR (rgAV [2,3,9,10,40,41,42,43]) ?_
   refine AX.seq ?_
   refine AX.condT ?_
   refine AX.keepA [2,3,9,10,40,41,42] ?_
   refine AX.skip ?_
   refine nmZ ?_
   refine AX.seq ?_
   refine AX.block ?_
   refine AX.sR (rgEV [2,3,9,10,11,12,40,41,42] oT oT (aI hix oT)) ?_
   refine AX.rD (rgDWV [2,3,9,10,40,41,42] (aI @hl (aI @hg oT)) (aI ca oT)) ?_
   refine nmZ ?_
   rw [hset]
   refine AX.rR (rgWV [2,3,9,10,40,41,42] (aI @lit_add oT) oT) ?_
   refine nmZ ?_
   refine ⟨_,_,id,?_,
    leQ4
    , ⟨i+1,ys,by omega,rfl,hys',rfl⟩⟩
   omega
  ·have e:xs=vl n v:=by
    rw [hxs]
    exact vl_congr fun k hk=>if_pos (by omega)
   rw [e]
   refine AX.sR (rgAV [2,3,9,10,40,41,42,43]) ?_
   refine AX.seq ?_
   refine AX.condF ?_
   refine AX.exit ?_
   refine nmZ ?_
   exact ⟨by first | exact trivial | rfl,
    leQ4
    ⟩
 rintro st hle
 refine AX.weaken id hle ?_
 clear hle
 refine AX.fz 1 (fr':=[(2,.i .i64 t),(3,.ptr 0 0),(9,.sl ((vl n (atC n A v 0)).map rV)),(10,.own 2 0 m 3)]) (hp':=[(0,⟨43,[.i .i64 n,.i .i64 n,.sl Ac,.i .i64 n,.i .i64 m,.sl Bc]⟩),(2,⟨54,qrow (vl m (outC n A B v 0))⟩)]) rfl (hf_q _) (.cons rfl .same (.cons rfl .same (.cons rfl (.own (by have:=okFrz_q (vl n v);rw [vl_length] at this;exact this) (by have h1:=take_q (vl n v);have h2:=chunks_q (vl n v);rw [vl_length] at h1 h2;rw [h1,h2];rfl)) (.cons rfl .same .nil)))) (.keep (by decide) rfl (.keep (by decide) rfl .nil)) ?_
 refine AX.seq ?_
 refine AX.sR (rgAV [3,9,10,57,58]) ?_
 refine AX.weaken id (st':=⟨[(58,.i .i64 (0:Nat)),(57,.i .i64 t),(10,.own 2 0 m 3),(9,.sl ((vl n (atC n A v 0)).map rV)),(3,.ptr 0 0)],[(0,⟨43,[.i .i64 n,.i .i64 n,.sl Ac,.i .i64 n,.i .i64 m,.sl Bc]⟩),(2,⟨54,qrow (vl m (outC n A B v 0))⟩)],3⟩)
  leQ4
  ?_
 refine AX.block ?_
 refine AX.loop (fun N st=>∃ (j:Nat) (xs ys:List Rat),j≤t∧N=t-j∧xs=vl n (atC n A v j)∧ys=vl m (outC n A B v j)∧st=⟨[(58,.i .i64 j),(57,.i .i64 t),(10,.own 2 0 m 3),(9,.sl (xs.map rV)),(3,.ptr 0 0)],[(0,⟨43,[.i .i64 n,.i .i64 n,.sl Ac,.i .i64 n,.i .i64 m,.sl Bc]⟩),(2,⟨54,qrow ys⟩)],3⟩) t ⟨0,_,_,Nat.zero_le _,rfl,rfl,rfl,rfl⟩ ?_
 rintro N st ⟨j,xs,ys,hj,rfl,hxs,hys,rfl⟩
 by_cases h1:j<t
 ·have c1:=ct1 j hj
  have c2:=ct2 j hj
  rw [← hxs] at c1 c2
  have houts':=houts j
  have hol:=hout j hj
  have htl:=fun k=>hthl j k hj
  have hatj:=hats j
  obtain ⟨zs,hzs⟩:∃ zs,vl n (atC n A v (j+1))=zs:=⟨_,rfl⟩
  rw [← hatj,hzs] at c2
  have hixw:=fun (k:Nat) (hk:k<m)=>fun x y=>effIxL (x:=x) (y:=y) (thr n (atC n A v j) B) hk
  have hwl:((vl m (thr n (atC n A v j) B)).map rV).length=m:=by rw [List.length_map,vl_length]
  generalize thr n (atC n A v j) B=W at *
  generalize (vl m W).map rV=Wc at *
  generalize xs.map rV=Xc at *
  refine AX.sR (rgAV [3,9,10,57,58,59]) ?_
  refine AX.seq ?_
  refine AX.condT ?_
  refine AX.keepA [3,9,10,57,58] ?_
  refine AX.skip ?_
  refine nmZ ?_
  refine AX.seq ?_
  refine AX.block ?_
  refine AX.seq ?_
  refine AX.sR (rgWV [3,9,10,57,58,63,64,65] (aI @hwl oT) (aI c1 oT)) ?_
  refine AX.weaken id (st':=⟨[(65,.i .i64 (0:Nat)),(64,.i .i64 m),(63,.sl Wc),(58,.i .i64 j),(57,.i .i64 t),(10,.own 2 0 m 3),(9,.sl Xc),(3,.ptr 0 0)],[(0,⟨43,[.i .i64 n,.i .i64 n,.sl Ac,.i .i64 n,.i .i64 m,.sl Bc]⟩),(2,⟨54,qrow ys⟩)],3⟩)
   leQ4
   ?_
  refine AX.block ?_
  refine AX.loop (fun N st=>∃ (k:Nat) (ys:List Rat),k≤m∧N=m-k∧(ys=vl m fun k'=>if k' < k then outC n A B v (j+1) k' else outC n A B v j k')∧st=⟨[(65,.i .i64 k),(64,.i .i64 m),(63,.sl Wc),(58,.i .i64 j),(57,.i .i64 t),(10,.own 2 0 m 3),(9,.sl Xc),(3,.ptr 0 0)],[(0,⟨43,[.i .i64 n,.i .i64 n,.sl Ac,.i .i64 n,.i .i64 m,.sl Bc]⟩),(2,⟨54,qrow ys⟩)],3⟩) m ⟨0,ys,Nat.zero_le _,rfl,by rw [hys];exact vl_congr fun k' _=>by rw [if_neg (Nat.not_lt_zero _)],rfl⟩ ?_
  clear hys ys
  rintro N st ⟨k,ys,hk,rfl,hys,rfl⟩
  by_cases h2:k<m
  ·have hix:=hixw k h2
   have hl:=vl_len3 m (fun k'=>if k' < k then outC n A B v (j+1) k' else outC n A B v j k')
   have hg:=vl_get3 (fun k'=>if k' < k then outC n A B v (j+1) k' else outC n A B v j k') h2
   rw [if_neg (Nat.lt_irrefl _)] at hg
   have hset:=vl_set3 (fun k'=>if k' < k then outC n A B v (j+1) k' else outC n A B v j k') (outC n A B v j k+W k) h2
   rw [← hys] at hl hg hset
   obtain ⟨us,hus⟩:∃ us,(vl m fun k'=>if k'=k then outC n A B v j k+W k else if k' < k then outC n A B v (j+1) k' else outC n A B v j k')=us:=⟨_,rfl⟩
   rw [hus] at hset
   have hus':us=vl m fun k'=>if k' < k+1 then outC n A B v (j+1) k' else outC n A B v j k':=by
    rw [← hus]
    refine vl_congr fun k' _=>?_
    by_cases e:k'=k
    ·subst e
     rw [if_pos rfl,if_pos (Nat.lt_succ_self _),houts']
    ·rw [if_neg e]
     by_cases h:k' < k
     ·rw [if_pos h,if_pos (by omega)]
     ·rw [if_neg h,if_neg (by omega)]
   have hnl:n*(2*LT+1)≤60*(2*LT+1):=Nat.mul_le_mul_right _ hn
   have ca:=cadd (outC n A B v j k) (W k) (Nat.le_trans (hol k h2) (by omega)) (Nat.le_trans (htl k h2) (by omega))
   clear hus hys houts' hol htl hatj houts hats hat hout hthl
   generalize outC n A B v j k+W k=s' at *
   generalize outC n A B v j k=s at *
   generalize W k=q at *
   refine AX.sR (rgAV [3,9,10,57,58,63,64,65,66]) ?_
   refine AX.seq ?_
   refine AX.condT ?_
   refine AX.keepA [3,9,10,57,58,63,64,65] ?_
   refine AX.skip ?_
   refine nmZ ?_
   refine AX.seq ?_
   refine AX.block ?_
   refine AX.sR (rgEV [3,9,10,13,14,57,58,63,64,65] oT oT (aI hix oT)) ?_
   refine AX.rD (rgDWV [3,9,10,57,58,63,64,65] (aI @hl (aI @hg oT)) (aI ca oT)) ?_
   refine nmZ ?_
   rw [hset]
   refine AX.rR (rgWV [3,9,10,57,58,63,64,65] (aI @lit_add oT) oT) ?_
   refine nmZ ?_
   refine ⟨_,_,id,?_,
    leQ4
    , ⟨k+1,us,by omega,rfl,hus',rfl⟩⟩
   omega
  ·have hys':ys=vl m (outC n A B v (j+1)):=by
    rw [hys]
    exact vl_congr fun k' hk'=>if_pos (by omega)
   refine AX.sR (rgAV [3,9,10,57,58,63,64,65,66]) ?_
   refine AX.seq ?_
   refine AX.condF ?_
   refine AX.exit ?_
   refine nmZ ?_
   refine AX.rR (rgCV [3,9,10,57,58] (aI c2 oT)) ?_
   refine nmZ ?_
   refine AX.rR (rgWV [3,9,10,57,58] (aI @lit_add oT) oT) ?_
   refine nmZ ?_
   refine ⟨_,_,id,?_,
    leQ4
    , ⟨j+1,zs,ys,by omega,rfl,hzs.symm,hys',rfl⟩⟩
   omega
 ·have e:j=t:=by omega
  subst e
  rw [← hxs,← hys]
  have hml:m=ys.length:=by rw [hys,vl_length]
  rw [hml]
  refine AX.sR (rgAV [3,9,10,57,58,59]) ?_
  refine AX.seq ?_
  refine AX.condF ?_
  refine AX.exit ?_
  refine nmZ ?_
  refine AX.sR (rgAV [6,7,8]) ?_
  refine AX.fz 2 (fr':=[(6,.sl (xs.map rV)),(7,.sl (ys.map rV)),(8,.i .i64 0)]) (hp':=[]) rfl (hf_q _) (.cons rfl .same (.cons rfl (.own (okFrz_q ys) (by rw [take_q,chunks_q])) (.cons rfl .same .nil))) .nil ?_
  refine AX.ret ⟨.inl rfl,?_⟩
  exact dnQ4
end Go.Proofs.YteidabibgjokkaaGreatDoor
