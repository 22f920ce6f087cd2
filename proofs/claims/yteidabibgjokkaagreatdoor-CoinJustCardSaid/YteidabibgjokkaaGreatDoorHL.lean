import Derived.Test.YteidabibgjokkaaGreatDoorHJ
set_option maxRecDepth 20000
set_option linter.all false
namespace Go.Proofs.YteidabibgjokkaaGreatDoor
open Go Go.Proofs.YteidabibgjokkaaGreatDoor.Lift
attribute [local irreducible] Lift.PCall Lift.HCall
theorem sumTo_vl (n:Nat)(v:Nat→Rat):∀ k,k≤n→sumTo (vl n v) k=sumN k v:=by
 intro k
 induction k with
 | zero=>intro _;rfl
 | succ k ih=>
  intro hk
  show sumTo (vl n v) k+(vl n v).getD k 0=sumN k v+v k
  rw [ih (by omega),vl_get v hk]
theorem isQs_vl {n L:Nat} {v:Nat→Rat} (h:∀ i,i<n→rL (v i)≤L):IsQs ((vl n v).map rV) (vl n v) L:=by
 refine ⟨List.length_map ..,fun i hi=>?_⟩
 have hi':i<n:=by rwa [List.length_map,vl_length] at hi
 rw [getD_rV (by rw [vl_length];exact hi'),vl_get v hi']
 exact IsQ.of (h i hi')
theorem csum {n L:Nat} {v:Nat→Rat} (h:∀ i,i<n→rL (v i)≤L)(hL1:1≤L)(hL:n*(L+1)+L+1<2 ^ 34):PCall Tryz.prog 95 [.sl ((vl n v).map rV)] (.agg [.b (decide ((sumN n v).num<0)),dg (digits (sumN n v).num.natAbs),dg (digits (sumN n v).den)]) []:=by
 have e:((vl n v).map rV).length=n:=by rw [List.length_map,vl_length]
 have:=qsum_ok (isQs_vl h) (by rw [e];exact hL) hL1
 rw [e,sumTo_vl n v n (Nat.le_refl _)] at this
 exact this
noncomputable def neverQ (n m:Nat) (A B:Mx) (v:Nat→Rat):Rat:=sumN n v-sumN m (thr n v (eachM n m A B))
set_option maxHeartbeats 8000000 in
theorem ends_ok (n m L LX:Nat) (hn:n≤60) (hm:m≤60) (A B:Mx) (hC:isC n m A B=true) (hA:∀ i k,i<n→k<n→rL (A i k)≤L) (hB:∀ i k,i<n→k<m→rL (B i k)≤L) (hL1:1≤L) (hL2:4*bigL n (L+1)<2 ^ 33) (hL3:120*(L+1)+1<2 ^ 34) (v:Nat→Rat) (hv:∀ i,i<n→0≤v i)
  (hvL:∀ i,i<n→rL (v i)≤LX) (hX:∀ i j,i<n→j<m→rL (eachM n m A B i j)≤LX) (hLX1:1≤LX) (hLX:60*(2*LX+1)+1<2 ^ 34) (hS:(n+m+1)*(60*(2*LX+1)+1+1)<2 ^ 33) :
  PCall Tryz.prog 53 [cV n m A B,.sl ((vl n v).map rV)] (.tup [.sl ((vl m (thr n v (eachM n m A B))).map rV),rV (neverQ n m A B v),.i .i64 0]) []:=by
 have cr:=cright_ok n m L hn hm A B hA hB hL1 hL3
 rw [hC] at cr
 have cwt:=weights_q n m LX A B hn v hv hvL (by omega)
 have ce:=ceach_ok n m L hn hm A B hC hA hB hL1 hL2 hL3
 have ct:=through_ok n m LX hn hm v (eachM n m A B) hvL hX hLX1 hLX
 have hlen:=fun (k:Nat) (hk:k<m)=>thr_len (B:=eachM n m A B) (k:=k) hLX1 hvL (fun i hi=>hX i k hi hk) n (Nat.le_refl _)
 have hn60:n*(2*LX+1)≤60*(2*LX+1):=Nat.mul_le_mul_right _ hn
 have hnS:(n+1)*(60*(2*LX+1)+1+1)≤(n+m+1)*(60*(2*LX+1)+1+1):=Nat.mul_le_mul_right _ (by omega)
 have hmS:(m+1)*(60*(2*LX+1)+1+1)≤(n+m+1)*(60*(2*LX+1)+1+1):=Nat.mul_le_mul_right _ (by omega)
 rw [Nat.add_mul,Nat.one_mul] at hnS hmS
 have hvY:∀ i,i<n→rL (v i)≤60*(2*LX+1)+1:=fun i hi=>by have:=hvL i hi;omega
 have hwY:∀ k,k<m→rL (thr n v (eachM n m A B) k)≤60*(2*LX+1)+1:=fun k hk=>by have:=hlen k hk;omega
 have cs1:=csum hvY (by omega) (by omega)
 have cs2:=csum hwY (by omega) (by omega)
 have l1:=sumN_len hvY n (Nat.le_refl _)
 have l2:=sumN_len hwY m (Nat.le_refl _)
 have csb:PCall Tryz.prog 94 [.agg [.b (decide ((sumN n v).num<0)),dg (digits (sumN n v).num.natAbs),dg (digits (sumN n v).den)],.agg [.b (decide ((sumN m (thr n v (eachM n m A B))).num<0)),dg (digits (sumN m (thr n v (eachM n m A B))).num.natAbs),dg (digits (sumN m (thr n v (eachM n m A B))).den)]] (.agg [.b (decide ((neverQ n m A B v).num<0)),dg (digits (neverQ n m A B v).num.natAbs),dg (digits (neverQ n m A B v).den)]) []:=
  qsub_ok (L:=(n+m+1)*(60*(2*LX+1)+1+1)) (IsQ.of (by omega)) (IsQ.of (by omega)) hS (by omega)
 clear hlen hnS hmS hvY hwY l1 l2 hX
 refine PCall.of_ax Tryz.call53 Tryz.func53 rfl (by simp [Tryz.ntmps53]) fun O w0=>?_
 simp only [Tryz.ntmps53,Tryz.results53,argFr]
 unfold rV
 generalize neverQ n m A B v=nq at *
 generalize hE:eachM n m A B=E at *
 generalize sumN m (thr n v E)=s2 at *
 generalize sumN n v=s1 at *
 unfold qM mV at ce
 unfold cV at *
 generalize (mcells m E (n*m)).map rV=Ec at *
 generalize (mcells n A (n*n)).map rV=Ac at *
 generalize (mcells m B (n*m)).map rV=Bc at *
 unfold rV at *
 generalize List.map (fun q=>rR (decide (q.num<0)) (digits q.num.natAbs) (digits q.den)) (vl m (thr n v E))=ws at *
 generalize List.map (fun q=>rR (decide (q.num<0)) (digits q.num.natAbs) (digits q.den)) (vl n v)=vs at *
 refine AX.sR (rgAV [1,2,5]) ?_
 refine AX.seq ?_
 refine AX.sR (rgCV [1,2,5,18] (aI cr (aI cwt oT))) ?_
 refine AX.condF ?_
 refine AX.keepA [1,2,5] ?_
 refine AX.skip ?_
 refine nmZ ?_
 refine AX.sR (rgCV [1,5,7] (aI ce oT)) ?_
 refine AX.sR (rgCV [1,5,9] (aI ct oT)) ?_
 refine AX.sR (rgCV [4,5,6] (aI cs1 (aI cs2 (aI csb oT)))) ?_
 refine AX.ret ⟨.inl rfl,?_⟩
 exact dnQ4
theorem subM_turn (of:List Nat)(A:Mx):subM true of A=fun i k=>subM false of A k i:=by
 funext i k
 unfold subM pkM
 by_cases h:i=k
 ·subst h
  simp
 ·have h':¬ k=i:=fun e=>h e.symm
  simp [h,h']
theorem nonsing_turn {n m L:Nat} {A B:Mx} (hC:isC n m A B=true)(hA:∀ i k,i<n→k<n→rL (A i k)≤L)(hL1:1≤L):NonSing (pick n (rchB n m A B)).length (subM true (pick n (rchB n m A B)) A):=by
 rw [subM_turn]
 exact NonSing.transp (L:=L+1) (nonsing_sub hC) (fun i j hi hj=>subM_len hA hL1 (pick_get hi).1 (pick_get hj).1) (by omega)
noncomputable def visV (n m:Nat) (A B:Mx) (v:Nat→Rat):Nat→Rat:=fun i=>if rchB n m A B i=true then solX (pick n (rchB n m A B)).length (subM true (pick n (rchB n m A B)) A) (fun i _=>v ((pick n (rchB n m A B)).getD i 0)) (pick i (rchB n m A B)).length 0 else 0
theorem visits1_ok (n:Nat)(v:Nat→Rat)(i:Nat)(k:Int)(hi:i<n):PCall Tryz.prog 142 [.i .i64 i,.i .i64 k,.rp [.sl ((vl n v).map rV)]] (.agg [.b (decide ((v i).num<0)),dg (digits (v i).num.natAbs),dg (digits (v i).den)]) []:=by
 have hix:=fun x y=>effIxL (x:=x) (y:=y) v hi
 refine PCall.of_ax Tryz.call142 Tryz.func142 rfl (by simp [Tryz.ntmps142]) fun O w0=>?_
 simp only [Tryz.ntmps142,Tryz.results142,argFr]
 generalize (vl n v).map rV=vs at *
 generalize v i=q at *
 refine AX.sR (rgAV [0,2,5]) ?_
 refine AX.sR (rgEV [5] oT oT (aI hix oT)) ?_
 refine AX.ret ⟨.inl rfl,?_⟩
 exact Done.cell rfl rfl
set_option maxHeartbeats 16000000 in
theorem visits_ok (n m L LX:Nat) (hn:n≤60) (hm:m≤60) (A B:Mx) (hC:isC n m A B=true) (hA:∀ i k,i<n→k<n→rL (A i k)≤L) (hB:∀ i k,i<n→k<m→rL (B i k)≤L) (hL1:1≤L) (hL2:4*bigL n (L+1)<2 ^ 33) (hL3:120*(L+1)+1<2 ^ 34) (v:Nat→Rat) (hv:∀ i,i<n→0≤v i)
  (hvL:∀ i,i<n→rL (v i)≤L) (hX:∀ i j,i<n→j<m→rL (eachM n m A B i j)≤LX) (hLX1:L≤LX) (hLX:60*(2*LX+1)+1<2 ^ 34) (hS:(n+m+1)*(60*(2*LX+1)+1+1)<2 ^ 33) :
  PCall Tryz.prog 102 [cV n m A B,.sl ((vl n v).map rV)] (if neverQ n m A B v=0 then .tup [.sl ((vl n (visV n m A B v)).map rV),.i .i64 0] else .tup [.sl [],.i .i64 31]) []:=by
 have cen:=ends_ok n m L LX hn hm A B hC hA hB hL1 hL2 hL3 v hv (fun i hi=>Nat.le_trans (hvL i hi) hLX1) hX (by omega) hLX hS
 have creach:=reaches_ok n m L hn hm A B hC
 have cpick:=picked_ok n hn (rchB n m A B)
 have hmono:=bigL_mono (L:=L+1) (pick_le n (rchB n m A B))
 have cw:=within_ok n m L hn hm A B hA (pick n (rchB n m A B)) (pick n (rchB n m A B)).length rfl (Nat.le_trans (pick_le _ _) hn) (fun i hi=>(pick_get hi).1) 1 (by omega) 142 [.rp [.sl ((vl n v).map rV)]] rfl (fun i _=>v ((pick n (rchB n m A B)).getD i 0)) true (fun i k hi hk=>visits1_ok n v _ k (pick_get hi).1)
  (nonsing_turn hC hA hL1) (fun i k hi hk=>by
   have:=hvL _ (pick_get hi).1
   show rL (v _)≤_
   omega) hL1 (by omega)
 have cz:=czeros_own n hn
 have hX':∀ i,i<n→rchB n m A B i=true→visV n m A B v i=solX (pick n (rchB n m A B)).length (subM true (pick n (rchB n m A B)) A) (fun i _=>v ((pick n (rchB n m A B)).getD i 0)) (pick i (rchB n m A B)).length 0:=fun i _ h=>if_pos h
 have hX0:∀ i,¬ rchB n m A B i=true→visV n m A B v i=0:=fun i h=>if_neg h
 have nz:=num0 (q:=neverQ n m A B v)
 clear hX
 generalize visV n m A B v=V0 at *
 generalize solX (pick n (rchB n m A B)).length (subM true (pick n (rchB n m A B)) A) (fun i _=>v ((pick n (rchB n m A B)).getD i 0))=X at *
 generalize thr n v (eachM n m A B)=ew at *
 generalize neverQ n m A B v=nq at *
 generalize hf:rchB n m A B=f at *
 have hgets:=fun (i:Nat) (hi:i<(pick n f).length)=>pick_get hi
 have hat:=fun (s:Nat) (hs:s<n) (h:f s=true)=>pick_at hs h
 have hple:=pick_le n f
 generalize hof:pick n f=of at *
 refine PCall.of_ax Tryz.call102 Tryz.func102 rfl (by simp [Tryz.ntmps102]) fun O w0=>?_
 simp only [Tryz.ntmps102,Tryz.results102,argFr]
 unfold qM mV at cw
 unfold cV at *
 generalize (mcells n A (n*n)).map rV=Ac at *
 generalize (mcells m B (n*m)).map rV=Bc at *
 generalize (vl m ew).map rV=wc at *
 generalize (vl n v).map rV=vs at *
 obtain ⟨p,hp⟩:∃ p,of.length=p:=⟨_,rfl⟩
 have hll:=il_length of
 rw [hp] at hll cw hple
 have hixX:=fun (i:Nat) (hi:i<p)=>fun x y=>effIxM (x:=x) (y:=y) (w:=1) (n:=p) X hi (show 0<1 by decide) (z:=i) (by omega)
 generalize (mcells 1 X (p*1)).map rV=Xc at *
 by_cases hz:nq=0
 ·rw [if_pos hz]
  have e0:=nz.2 hz
  refine AX.sR (rgAV [2,3]) ?_
  refine AX.sR (rgCV [2,3,7,8] (aI cen oT)) ?_
  refine AX.seq ?_
  refine AX.sR (rgAV [2,3,7,8,22]) ?_
  refine AX.condF ?_
  refine AX.keepA [2,3,7] ?_
  refine AX.skip ?_
  refine nmZ ?_
  refine AX.seq ?_
  refine AX.sR (rgWV [2,3,27] (aI @e0 oT) oT) ?_
  refine AX.condF ?_
  refine AX.keepA [2,3] ?_
  refine AX.skip ?_
  refine nmZ ?_
  refine AX.sR (rgCV [2,3,9] (aI creach (aI cpick oT))) ?_
  refine AX.fz 1 (fr':=[(9,.sl (il of)),(3,.rp [.sl vs]),(2,.ptr 0 0)]) (hp':=[(0,⟨43,[.i .i64 n,.i .i64 n,.sl Ac,.i .i64 n,.i .i64 m,.sl Bc]⟩)]) rfl rfl (.cons rfl .same (.cons rfl (.ptr rfl) (.cons rfl .same .nil))) (.keep (by decide) rfl .nil) ?_
  refine AX.sR (rgCV [2,9,10] (aI cw oT)) ?_
  refine AX.sR (rgCV [9,10,11] (aI cz oT)) ?_
  refine AX.seq ?_
  refine AX.sR (rgWV [10,11,39,40,41] (aI @hll oT) oT) ?_
  refine AX.weaken id (st':=⟨[(41,.i .i64 (0:Nat)),(40,.i .i64 p),(39,.sl (il of)),(11,.own 4 0 n 3),(10,.ptr 3 0)],[(3,⟨41,[.i .i64 p,.i .i64 1,.sl Xc]⟩),(4,⟨54,qrow (vl n fun _=>0)⟩)],5⟩)
   leQ4
   ?_
  refine AX.block ?_
  refine AX.loop (fun N st=>∃ (i:Nat) (xs:List Rat),i≤p∧N=p-i∧(xs=vl n fun s=>if f s=true∧(pick s f).length<i then X (pick s f).length 0 else 0)∧st=⟨[(41,.i .i64 i),(40,.i .i64 p),(39,.sl (il of)),(11,.own 4 0 n 3),(10,.ptr 3 0)],[(3,⟨41,[.i .i64 p,.i .i64 1,.sl Xc]⟩),(4,⟨54,qrow xs⟩)],5⟩) p ⟨0,_,Nat.zero_le _,rfl,vl_congr fun s _=>by rw [if_neg fun h=>Nat.not_lt_zero _ h.2],rfl⟩ ?_
  rintro N st ⟨i,xs,hi,rfl,hxs,rfl⟩
  by_cases h1:i<p
  ·obtain ⟨g1,g2,g3⟩:=hgets i (by omega)
   have hgi:=il_get (l:=of) (j:=i) (by omega)
   generalize of.getD i 0=s at *
   have hl:=vl_len3 n (fun s=>if f s=true∧(pick s f).length<i then X (pick s f).length 0 else 0)
   have hset:=vl_set3 (fun s=>if f s=true∧(pick s f).length<i then X (pick s f).length 0 else 0) (X i 0) g1
   rw [← hxs] at hl hset
   obtain ⟨ys,hys⟩:∃ ys,(vl n fun k'=>if k'=s then X i 0 else if f k'=true∧(pick k' f).length<i then X (pick k' f).length 0 else 0)=ys:=⟨_,rfl⟩
   rw [hys] at hset
   have hys':ys=vl n fun s=>if f s=true∧(pick s f).length<i+1 then X (pick s f).length 0 else 0:=by
    rw [← hys]
    refine vl_congr fun i' hi'=>?_
    by_cases e:i'=s
    ·subst e
     rw [if_pos rfl,if_pos ⟨g2,by omega⟩,g3]
    ·rw [if_neg e]
     by_cases hf':f i'=true
     ·have hne:(pick i' f).length≠i:=by
       intro h
       have h2:=(hat i' hi' hf').2
       have h3:=(hat s g1 g2).2
       rw [h] at h2
       rw [g3] at h3
       exact e (h2.symm.trans h3)
      by_cases h:(pick i' f).length<i
      ·rw [if_pos ⟨hf',h⟩,if_pos ⟨hf',by omega⟩]
      ·rw [if_neg fun h'=>h h'.2,if_neg fun h'=>by omega]
     ·rw [if_neg fun h=>hf' h.1,if_neg fun h=>hf' h.1]
   have hix:=hixX i h1
   clear hys hxs hat hgets hX' hX0
   generalize X i 0=q at *
   refine AX.sR (rgAV [10,11,39,40,41,42]) ?_
   refine AX.seq ?_
   refine AX.condT ?_
   refine AX.keepA [10,11,39,40,41] ?_
   refine AX.skip ?_
   refine nmZ ?_
   refine AX.seq ?_
   refine AX.block ?_
   refine AX.sR (rgWV [10,11,12,13,39,40,41] (aI @hll (aI @hgi oT)) oT) ?_
   refine AX.rR (rgEV [10,11,39,40,41] (aI @hl oT) oT (aI hix oT)) ?_
   refine nmZ ?_
   rw [hset]
   refine AX.rR (rgWV [10,11,39,40,41] (aI @lit_add oT) oT) ?_
   refine nmZ ?_
   refine ⟨_,_,id,?_,
    leQ4
    , ⟨i+1,ys,by omega,rfl,hys',rfl⟩⟩
   omega
  ·have hfin:xs=vl n V0:=by
    rw [hxs]
    refine vl_congr fun s hs=>?_
    by_cases h:f s=true
    ·have:=(hat s hs h).1
     rw [if_pos ⟨h,by omega⟩,hX' s hs h]
    ·rw [if_neg fun h'=>h h'.1,hX0 s h]
   have hnl:n=xs.length:=by rw [hfin,vl_length]
   rw [← hfin,hnl]
   refine AX.sR (rgAV [10,11,39,40,41,42]) ?_
   refine AX.seq ?_
   refine AX.condF ?_
   refine AX.exit ?_
   refine nmZ ?_
   refine AX.sR (rgAV [4,5]) ?_
   refine AX.fz 4 (fr':=[(4,.sl (xs.map rV)),(5,.i .i64 0)]) (hp':=[]) rfl (hf_q _) (.cons rfl (.own (okFrz_q xs) (by rw [take_q,chunks_q])) (.cons rfl .same .nil)) .nil ?_
   refine AX.ret ⟨.inl rfl,?_⟩
   exact dnQ4
 ·rw [if_neg hz]
  have e0:0<(digits nq.num.natAbs).length:=Nat.pos_of_ne_zero fun e=>hz (nz.1 e)
  refine AX.sR (rgAV [2,3]) ?_
  refine AX.sR (rgCV [2,3,7,8] (aI cen oT)) ?_
  refine AX.seq ?_
  refine AX.sR (rgAV [2,3,7,8,22]) ?_
  refine AX.condF ?_
  refine AX.keepA [2,3,7] ?_
  refine AX.skip ?_
  refine nmZ ?_
  refine AX.seq ?_
  refine AX.sR (rgAV [2,3,27]) ?_
  refine AX.condT ?_
  refine AX.sR (rgAV [4,5]) ?_
  refine AX.ret ⟨.inl rfl,?_⟩
  exact dnQ4
set_option maxHeartbeats 8000000 in
theorem steps_ok' (n m L LX:Nat) (hn:n≤60) (hm:m≤60) (A B:Mx) (hC:isC n m A B=true) (hA:∀ i k,i<n→k<n→rL (A i k)≤L) (hB:∀ i k,i<n→k<m→rL (B i k)≤L) (hL1:1≤L) (hL2:4*bigL n (L+1)<2 ^ 33) (hL3:120*(L+1)+1<2 ^ 34) (v:Nat→Rat) (hv:∀ i,i<n→0≤v i)
  (hvL:∀ i,i<n→rL (v i)≤L) (hX:∀ i j,i<n→j<m→rL (eachM n m A B i j)≤LX) (hLX1:L≤LX) (hLX:60*(2*LX+1)+1<2 ^ 34) (hS:(n+m+1)*(60*(2*LX+1)+1+1)<2 ^ 33) (h0:neverQ n m A B v=0) (hV:∀ i,i<n→rL (visV n m A B v i)≤LX) :
  PCall Tryz.prog 57 [cV n m A B,.sl ((vl n v).map rV)] (.tup [rV (sumN n (visV n m A B v)),.i .i64 0]) []:=by
 have cv:=visits_ok n m L LX hn hm A B hC hA hB hL1 hL2 hL3 v hv hvL hX hLX1 hLX hS
 rw [if_pos h0] at cv
 have hb:n*(LX+1)≤60*(LX+1):=Nat.mul_le_mul_right _ hn
 have cs:=csum hV (by omega) (by omega)
 refine PCall.of_ax Tryz.call57 Tryz.func57 rfl (by simp [Tryz.ntmps57]) fun O w0=>?_
 simp only [Tryz.ntmps57,Tryz.results57,argFr]
 clear hV hX
 generalize sumN n (visV n m A B v)=q at *
 unfold cV at *
 generalize (mcells n A (n*n)).map rV=Ac at *
 generalize (mcells m B (n*m)).map rV=Bc at *
 generalize (vl n (visV n m A B v)).map rV=wc at *
 generalize (vl n v).map rV=vs at *
 refine AX.sR (rgAV [1,2,4]) ?_
 refine AX.sR (rgCV [4,6,7] (aI cv oT)) ?_
 refine AX.seq ?_
 refine AX.sR (rgAV [4,6,7,15]) ?_
 refine AX.condF ?_
 refine AX.keepA [4,6] ?_
 refine AX.skip ?_
 refine nmZ ?_
 refine AX.sR (rgCV [4,5] (aI cs oT)) ?_
 refine AX.ret ⟨.inl rfl,?_⟩
 exact Done.cellE rfl rfl rfl
def hQ:Rat:=rq false 1 2
def hA:Mx:=fun _ _=>hQ
end Go.Proofs.YteidabibgjokkaaGreatDoor
