import Derived.Test.YteidabibgjokkaaGreatDoorJC
import Derived.Test.YteidabibgjokkaaGreatDoorHN
import Derived.Test.YteidabibgjokkaaGreatDoorMD
import Derived.Test.YteidabibgjokkaaGreatDoorMC
import Derived.Test.YteidabibgjokkaaGreatDoorMJ
set_option maxRecDepth 20000
set_option linter.all false
namespace Go.Proofs.YteidabibgjokkaaGreatDoor
open Go Go.Proofs.YteidabibgjokkaaGreatDoor.Lift
attribute [local irreducible] Lift.PCall Lift.HCall
theorem bigL9 {n:Nat} (hn:n≤9):4*bigL n (1+1)<2 ^ 33:=by
 have h1:=bigL_mono (L:=1+1) hn
 have h2:4*bigL 9 (1+1)<2 ^ 33:=by decide
 omega
theorem five9 {n:Nat} (hn:n≤9):5 ^ n*(1+2)<2 ^ 30:=by
 have h1:5 ^ n*(1+2)≤5 ^ 9*(1+2):=Nat.mul_le_mul_right _ (Nat.pow_le_pow_right (by decide) hn)
 have h2:5 ^ 9*(1+2)<2 ^ 30:=by decide
 omega
theorem sol_small9 {n:Nat} (hn:n≤9) {A:Mx} {b x:Nat→Rat} (hN:NonSing n A)(hA:∀ i j,i<n→j<n→rL (A i j)≤2)(hb:∀ i,i<n→rL (b i)≤2)(hx:∀ i,i<n→(sumN n fun j=>A i j*x j)=b i):∀ i,i<n→rL (x i)≤100000:=by
 intro i hi
 have h1:=sol_small (by omega) hN hA hb hx i hi
 have h2:sysB n (32*2*(n+2))≤sysB 9 (32*2*11):=sysB_mono hn (Nat.mul_le_mul_left _ (by omega))
 have h3:sysB 9 (32*2*11)≤3199000:=by decide
 omega
theorem each_small9 {n m:Nat} {A B:Mx} (hn:n≤9)(hC:isC n m A B=true)(hA:∀ i k,i<n→k<n→rL (A i k)≤1)(hB:∀ i k,i<n→k<m→rL (B i k)≤1):∀ i j,i<n→j<m→rL (eachM n m A B i j)≤100000:=by
 intro i j hi hj
 unfold eachM
 split
 ·rename_i hf
  have hA':∀ i j,i<(pick n (rchB n m A B)).length→j<(pick n (rchB n m A B)).length→rL (subM false (pick n (rchB n m A B)) A i j)≤2:=fun i j hi hj=>subM_len hA (by decide) (pick_get hi).1 (pick_get hj).1
  have hB':∀ i j,i<(pick n (rchB n m A B)).length→j<m→rL (rhsM (pick n (rchB n m A B)) B i j)≤2:=fun i j hi hj=>Nat.le_trans (hB _ j (pick_get hi).1 hj) (by decide)
  obtain ⟨_,h2,_⟩:=fin_spec (n:=(pick n (rchB n m A B)).length) (c:=m) (L:=2) (B:=rhsM (pick n (rchB n m A B)) B) (nonsing_sub hC) hA' hB' (by decide)
  exact sol_small9 (Nat.le_trans (pick_le n _) hn) (nonsing_sub hC) hA' (fun i hi=>hB' i j hi hj) (x:=fun k=>solX _ _ _ k j) (fun i hi=>h2 i j hi hj) _ (pick_at hi hf).1
 ·exact Nat.le_trans rL0 (by decide)
theorem vis_small9 {n m:Nat} {A B:Mx} {v:Nat→Rat} (hn:n≤9)(hC:isC n m A B=true)(hA:∀ i k,i<n→k<n→rL (A i k)≤1)(hvL:∀ i,i<n→rL (v i)≤1):∀ i,i<n→rL (visV n m A B v i)≤100000:=by
 intro i hi
 unfold visV
 split
 ·rename_i hf
  have hA':∀ i j,i<(pick n (rchB n m A B)).length→j<(pick n (rchB n m A B)).length→rL (subM true (pick n (rchB n m A B)) A i j)≤2:=fun i j hi hj=>subM_len hA (by decide) (pick_get hi).1 (pick_get hj).1
  exact sol_small9 (Nat.le_trans (pick_le n _) hn) (nonsing_turn hC hA (by decide)) hA' (fun i hi=>Nat.le_trans (hvL _ (pick_get hi).1) (by decide)) (x:=fun k=>solX _ _ _ k 0) (fun i hi=>vis_sys hC hA (fun i hi=>Nat.le_trans (hvL i hi) (by decide)) (by decide) i hi) _ (pick_at hi hf).1
 ·exact Nat.le_trans rL0 (by decide)
structure Sm9 (n m:Nat) (A B:Mx) (v:Nat→Rat):Prop where
 hn:n≤9
 hm:m≤60
 hA:∀ i k,i<n→k<n→rL (A i k)≤1
 hB:∀ i k,i<n→k<m→rL (B i k)≤1
 hC:isC n m A B=true
 hv:∀ i,i<n→0≤v i
 hvL:∀ i,i<n→rL (v i)≤1
namespace Sm9
variable {n m:Nat} {A B:Mx} {v:Nat→Rat}
theorem right (h:Sm9 n m A B v):PCall Tryz.prog 60 [cV n m A B] (.b true) []:=by
 have c1:=cright_ok n m 1 (by have:=h.hn;omega) (by have:=h.hm;omega) A B h.hA h.hB (by decide) (by decide)
 rwa [h.hC] at c1
theorem hX (h:Sm9 n m A B v):∀ i j,i<n→j<m→rL (eachM n m A B i j)≤100000:=each_small9 h.hn h.hC h.hA h.hB
theorem is (h:Sm9 n m A B v):(chn n m A B).IsEach (eachM n m A B):=each_is h.hC h.hA h.hB (by decide)
theorem each (h:Sm9 n m A B v):PCall Tryz.prog 93 [cV n m A B] (.tup [qM n m (eachM n m A B),.i .i64 0]) []:=
 ceach_ok n m 1 (by have:=h.hn;omega) (by have:=h.hm;omega) A B h.hC h.hA h.hB (by decide) (bigL9 h.hn) (by decide)
theorem ends (h:Sm9 n m A B v):PCall Tryz.prog 53 [cV n m A B,.sl ((vl n v).map rV)] (.tup [.sl ((vl m (thr n v (eachM n m A B))).map rV),rV (neverQ n m A B v),.i .i64 0]) []:=
 ends_ok n m 1 100000 (by have:=h.hn;omega) (by have:=h.hm;omega) A B h.hC h.hA h.hB (by decide) (bigL9 h.hn) (by decide) v h.hv (fun i hi=>Nat.le_trans (h.hvL i hi) (by decide)) h.hX (by decide) (by decide) (by
  have:=h.hn
  have:=h.hm
  have h1:(n+m+1)*(60*(2*100000+1)+1+1)≤70*(60*(2*100000+1)+1+1):=Nat.mul_le_mul_right _ (by omega)
  omega)
theorem endL (h:Sm9 n m A B v):∀ k,k<m→rL (thr n v (eachM n m A B) k)≤2000000:=fun k hk=>by
 have h1:=thr_len (B:=eachM n m A B) (k:=k) (L:=100000) (by decide) (fun i hi=>Nat.le_trans (h.hvL i hi) (by decide)) (fun i hi=>h.hX i k hi hk) n (Nat.le_refl _)
 have h2:n*(2*100000+1)≤9*(2*100000+1):=Nat.mul_le_mul_right _ h.hn
 omega
theorem neverL (h:Sm9 n m A B v):rL (neverQ n m A B v)≤130000000:=by
 have h1:=sumN_len h.hvL n (Nat.le_refl _)
 have h2:=sumN_len h.endL m (Nat.le_refl _)
 have h3:n*(1+1)≤9*(1+1):=Nat.mul_le_mul_right _ h.hn
 have h4:m*(2000000+1)≤60*(2000000+1):=Nat.mul_le_mul_right _ h.hm
 have:=rL_sub _ _ h1 h2
 unfold neverQ
 omega
end Sm9
namespace Sm9
variable {n m:Nat} {A B:Mx} {v:Nat→Rat}
theorem visits (h:Sm9 n m A B v):PCall Tryz.prog 102 [cV n m A B,.sl ((vl n v).map rV)] (if neverQ n m A B v=0 then .tup [.sl ((vl n (visV n m A B v)).map rV),.i .i64 0] else .tup [.sl [],.i .i64 31]) []:=
 visits_ok n m 1 100000 (by have:=h.hn;omega) (by have:=h.hm;omega) A B h.hC h.hA h.hB (by decide) (bigL9 h.hn) (by decide) v h.hv (fun i hi=>Nat.le_trans (h.hvL i hi) (by decide)) h.hX (by decide) (by decide) (by
  have:=h.hn
  have:=h.hm
  have h1:(n+m+1)*(60*(2*100000+1)+1+1)≤70*(60*(2*100000+1)+1+1):=Nat.mul_le_mul_right _ (by omega)
  omega)
theorem isVis (h:Sm9 n m A B v):(chn n m A B).IsVis v (visV n m A B v):=vis_is (L:=1) h.hC h.hA (fun i hi=>Nat.le_trans (h.hvL i hi) (by decide)) (by decide)
theorem visL (h:Sm9 n m A B v):∀ i,i<n→rL (visV n m A B v i)≤100000:=vis_small9 h.hn h.hC h.hA h.hvL
theorem never_eq (h:Sm9 n m A B v):neverQ n m A B v=(chn n m A B).never (eachM n m A B) v:=rfl
end Sm9
theorem Sm9.reach {n m:Nat} {A B:Mx} {v:Nat→Rat} (h:Sm9 n m A B v):PCall Tryz.prog 99 [cV n m A B] (.tup [qM n m (eachM n m A B),.i .i64 0]) []:=
 r20each_ok n m 1 (by have:=h.hn;omega) (by have:=h.hm;omega) A B _ h.hC h.is h.hA h.hB (by decide) (by decide) (five9 h.hn)
set_option maxHeartbeats 8000000 in
theorem Sm9.rends {n m:Nat} {A B:Mx} {v:Nat→Rat} (h:Sm9 n m A B v):PCall Tryz.prog 55 [cV n m A B,.sl ((vl n v).map rV)] (.tup [.sl ((vl m (thr n v (eachM n m A B))).map rV),rV (neverQ n m A B v),.i .i64 0]) []:=by
 have hn:=h.hn
 have hm:=h.hm
 have cr:=r20right_ok n m 1 (by omega) (by omega) A B h.hA h.hB (by decide) (by decide)
 rw [h.hC] at cr
 have cw:=rweights_q n 1 (by omega) v h.hv h.hvL (by decide)
 have ce:=h.reach
 have cb:=rby_ok n m 100000 (by omega) (by omega) v (eachM n m A B) (fun i hi=>Nat.le_trans (h.hvL i hi) (by decide)) h.hX (by decide) (by decide)
 have cs1:=pvsum h.hvL (by decide) (by omega)
 have cs2:=pvsum h.endL (by decide) (by omega)
 have h1:=sumN_len h.hvL n (Nat.le_refl _)
 have h2:=sumN_len h.endL m (Nat.le_refl _)
 have h3:n*(1+1)≤9*(1+1):=Nat.mul_le_mul_right _ h.hn
 have h4:m*(2000000+1)≤60*(2000000+1):=Nat.mul_le_mul_right _ h.hm
 have cd:PCall Tryz.prog 73 [.agg [.b (decide ((sumN n v).num<0)),dg (digits (sumN n v).num.natAbs),dg (digits (sumN n v).den)],.agg [.b (decide ((sumN m (thr n v (eachM n m A B))).num<0)),dg (digits (sumN m (thr n v (eachM n m A B))).num.natAbs),dg (digits (sumN m (thr n v (eachM n m A B))).den)]] (rV (neverQ n m A B v)) []:=psub_ok (L:=130000000) (IsQ.of (by omega)) (IsQ.of (by omega)) (by decide) (by decide)
 refine PCall.of_ax Tryz.call55 Tryz.func55 rfl (by simp [Tryz.ntmps55]) fun O w=>?_
 simp only [Tryz.ntmps55,Tryz.results55,argFr]
 clear h h1 h2 h3 h4
 unfold cV qM mV at *
 generalize (mcells n A (n*n)).map rV=Ac at *
 generalize (mcells m B (n*m)).map rV=Bc at *
 generalize neverQ n m A B v=nq at *
 generalize sumN m (thr n v (eachM n m A B))=s2 at *
 generalize sumN n v=s1 at *
 generalize (vl m (thr n v (eachM n m A B))).map rV=Le' at *
 generalize (mcells m (eachM n m A B) (n*m)).map rV=Xc at *
 generalize (vl n v).map rV=Sc at *
 refine AX.sR (rgAV [1,2,5]) ?_
 refine AX.seq ?_
 refine AX.sR (rgCV [1,2,5,20] (aI cr (aI cw oT))) ?_
 refine AX.condF ?_
 refine AX.keepA [1,2,5] ?_
 refine AX.skip ?_
 refine nmZ ?_
 refine AX.sR (rgCV [1,5,7] (aI ce oT)) ?_
 refine AX.sR (rgCV [1,5,9] (aI cb oT)) ?_
 refine AX.sR (rgCV [4,5,6] (aI cs1 (aI cs2 (aI cd oT)))) ?_
 refine AX.ret ⟨.inl rfl,?_⟩
 exact dnQ8
set_option maxHeartbeats 64000000 in
theorem Sm9.rvisits {n m:Nat} {A B:Mx} {v:Nat→Rat} (h:Sm9 n m A B v) (hnv:neverQ n m A B v=0) (x:Nat→Rat) (hx:(chn n m A B).IsVis v x) :
  PCall Tryz.prog 103 [cV n m A B,.sl ((vl n v).map rV)] (.tup [.sl ((vl n x).map rV),.i .i64 0]) []:=by
 have hn:=h.hn
 have hm:=h.hm
 have ce:=h.rends
 rw [hnv] at ce
 have c0:PCall Tryz.prog 34 [.agg [.b (decide (((0:Rat)).num<0)),dg (digits ((0:Rat)).num.natAbs),dg (digits ((0:Rat)).den)]] (.i .i64 (sgnR 0)) []:=psign_ok (L:=1) (IsQ.of (by decide +kernel)) (by decide)
 rw [sgnR_eq_zero.2 rfl] at c0
 have crc:=rreach_ok n m 1 (by omega) A B h.hA (by decide)
 have cs:∀ i,i<n→PCall Tryz.prog 34 [.agg [.b (decide (((v i)).num<0)),dg (digits ((v i)).num.natAbs),dg (digits ((v i)).den)]] (.i .i64 (sgnR (v i))) []:=fun i hi=>psign_ok (IsQ.of (h.hvL i hi)) (by decide)
 have ixv:=fun (i:Nat) (hi:i<n)=>fun x y=>effIxL (x:=x) (y:=y) v hi
 have ixA:=fun (i j:Nat) (hi:i<n) (hj:j<n)=>fun x y=>effIxM (x:=x) (y:=y) A hi hj rfl
 have hbll:=bll_length n (toB n A)
 have hblg:=fun (i:Nat) (hi:i<n)=>bll_get (toB n A) hi
 have hbl1:=fun (i:Nat)=>bl_length n (toB n A i)
 have hbg1:=fun (i k:Nat) (hk:k<n)=>bl_get (toB n A i) hk
 have hblm:=fun (i k:Nat)=>bl_length n (metP n A v i k)
 have cid:=rident_own n (by omega)
 have czr:=rzero_own n 1 (by omega) (by decide)
 have e1:mcells n (idM n) (n*n)=mcells n (eqV (metB n A v) A 0 0) (n*n):=mcells_congr fun i k hi hk=>by
  unfold idM eqV eqA dlt1
  rw [if_neg (fun h:(i<0∨_)∧_=>by omega)]
  by_cases e:i=k
  ·rw [if_pos ⟨e,hi⟩,if_pos e]
  ·rw [if_neg (fun h=>e h.1),if_neg e]
 have e2:mcells 1 (fun _ _=>(0:Rat)) (n*1)=mcells 1 (eqW (metB n A v) v 0) (n*1):=mcells_congr fun i k hi hk=>by
  unfold eqW
  rw [if_neg (fun h=>by omega)]
 rw [e1] at cid
 rw [e2] at czr
 have hnv':(chn n m A B).never (eachM n m A B) v=0:=by rw [← hnv];rfl
 have csv:=rsolve_ok n 1 (1+2) (by omega) (by decide) (eqV (metB n A v) A n 0) (eqW (metB n A v) v n) (fun j _=>x j) (eqV_nonsing h.hC h.is h.hv hnv') (fun i j hi hj=>eqA_len (fun i k hi hk=>h.hA k i hk hi) i j hi hj) (fun i j hi hj=>by
  unfold eqW
  split
  ·have:=h.hvL i hi
   omega
  ·have:rL 0≤1:=by decide +kernel
   omega) (by decide) (five9 hn) (eqV_sol h.hC h.is h.hv hnv' h.hA (fun i hi=>Nat.le_trans (h.hvL i hi) (by decide)) hx)
 have ckA:chunks 3 (n*n) (qrow (mcells n (eqV (metB n A v) A n 0) (n*n)))=(mcells n (eqV (metB n A v) A n 0) (n*n)).map rV:=by
  have:=chunks_q (mcells n (eqV (metB n A v) A n 0) (n*n))
  rwa [mcells_length] at this
 have ckB:chunks 3 (n*1) (qrow (mcells 1 (eqW (metB n A v) v n) (n*1)))=(mcells 1 (eqW (metB n A v) v n) (n*1)).map rV:=by
  have:=chunks_q (mcells 1 (eqW (metB n A v) v n) (n*1))
  rwa [mcells_length] at this
 have tkA:List.take (n*n*3) (qrow (mcells n (eqV (metB n A v) A n 0) (n*n)))=qrow (mcells n (eqV (metB n A v) A n 0) (n*n)):=by rw [← qlen n n (eqV (metB n A v) A n 0)];exact List.take_length
 have tkB:List.take (n*1*3) (qrow (mcells 1 (eqW (metB n A v) v n) (n*1)))=qrow (mcells 1 (eqW (metB n A v) v n) (n*1)):=by rw [← qlen 1 n (eqW (metB n A v) v n)];exact List.take_length
 have eX:(mcells 1 (fun j _=>x j) (n*1)).map rV=(vl n x).map rV:=by
  unfold mcells vl
  rw [Nat.mul_one]
  congr 1
  exact List.map_congr_left fun j _=>by rw [Nat.div_one]
 unfold qM mV at csv
 rw [eX] at csv
 refine PCall.of_ax Tryz.call103 Tryz.func103 rfl (by simp [Tryz.ntmps103]) fun O w0=>?_
 simp only [Tryz.ntmps103,Tryz.results103,argFr]
 unfold cV at *
 generalize (mcells n A (n*n)).map rV=Ac at *
 generalize (mcells m B (n*m)).map rV=Bc at *
 obtain ⟨Vc,hVc⟩:∃ l,(vl n v).map rV=l:=⟨_,rfl⟩
 rw [hVc] at ce ixv ⊢
 generalize (vl m (thr n v (eachM n m A B))).map rV=Ec at *
 refine AX.sR (rgAV [1,2]) ?_
 refine AX.sR (rgCV [1,2,7,8] (aI ce oT)) ?_
 refine AX.seq ?_
 refine AX.block ?_
 refine AX.sR (rgAV [1,2,7,8,29]) ?_
 refine AX.condF ?_
 refine AX.sR (rgCV [1,2,33] (aI c0 oT)) ?_
 refine AX.condF ?_
 refine AX.keepA [1,2] ?_
 refine AX.skip ?_
 refine nmZ ?_
 refine AX.sR (rgAV [1,2,9]) ?_
 refine AX.sR (rgCV [1,2,9,10] (aI crc oT)) ?_
 refine AX.sR (rgAV [1,2,9,10,11]) ?_
 refine AX.seq ?_
 refine AX.sR (rgAV [1,2,9,10,11,45,46]) ?_
 have hb0:List.replicate n (V.b false)=bl n (metP n A v 0 0):=by
  rw [bl_congr (g:=fun _=>false) fun k hk=>metP_zero n A v k]
  exact bl_zero n
 refine AX.weaken id (st':=⟨[(46,.i .i64 (0:Nat)),(45,.i .i64 n),(11,.own 2 0 n 1),(10,.sl (bll n (toB n A))),(9,.i .i64 n),(2,.ptr 0 0),(1,.sl Vc)],[(2,⟨4,bl n (metP n A v 0 0)⟩),(0,⟨48,[.i .i64 n,.i .i64 n,.sl Ac,.i .i64 n,.i .i64 m,.sl Bc]⟩)],3⟩)
  (leQ8H hb0)
  ?_
 refine AX.block ?_
 refine AX.loop (fun N st=>∃ i:Nat,i≤n∧N=n-i∧st=⟨[(46,.i .i64 i),(45,.i .i64 n),(11,.own 2 0 n 1),(10,.sl (bll n (toB n A))),(9,.i .i64 n),(2,.ptr 0 0),(1,.sl Vc)],[(2,⟨4,bl n (metP n A v i 0)⟩),(0,⟨48,[.i .i64 n,.i .i64 n,.sl Ac,.i .i64 n,.i .i64 m,.sl Bc]⟩)],3⟩) n ⟨0,Nat.zero_le _,rfl,rfl⟩ ?_
 rintro N st ⟨i,hi,rfl,rfl⟩
 by_cases h1:i<n
 ·refine AX.sR (rgAV [1,2,9,10,11,45,46,47]) ?_
  refine AX.seq ?_
  refine AX.condT ?_
  refine AX.keepA [1,2,9,10,11,45,46] ?_
  refine AX.skip ?_
  refine nmZ ?_
  refine AX.seq ?_
  refine AX.block ?_
  refine AX.sR (rgAV [1,2,9,10,11,12,45,46]) ?_
  refine AX.sR (rgAV [1,2,9,10,11,12,45,46,50,51]) ?_
  refine AX.weaken id (st':=⟨[(51,.i .i64 (0:Nat)),(50,.i .i64 n),(46,.i .i64 i),(45,.i .i64 n),(12,.i .i64 i),(11,.own 2 0 n 1),(10,.sl (bll n (toB n A))),(9,.i .i64 n),(2,.ptr 0 0),(1,.sl Vc)],[(2,⟨4,bl n (metP n A v i 0)⟩),(0,⟨48,[.i .i64 n,.i .i64 n,.sl Ac,.i .i64 n,.i .i64 m,.sl Bc]⟩)],3⟩)
   leQ8
   ?_
  refine AX.block ?_
  refine AX.loop (fun N st=>∃ k:Nat,k≤n∧N=n-k∧st=⟨[(51,.i .i64 k),(50,.i .i64 n),(46,.i .i64 i),(45,.i .i64 n),(12,.i .i64 i),(11,.own 2 0 n 1),(10,.sl (bll n (toB n A))),(9,.i .i64 n),(2,.ptr 0 0),(1,.sl Vc)],[(2,⟨4,bl n (metP n A v i k)⟩),(0,⟨48,[.i .i64 n,.i .i64 n,.sl Ac,.i .i64 n,.i .i64 m,.sl Bc]⟩)],3⟩) n ⟨0,Nat.zero_le _,rfl,rfl⟩ ?_
  rintro N st ⟨k,hk,rfl,rfl⟩
  by_cases h2:k<n
  ·have hl:=hblm i k
   have hg:=bl_get (metP n A v i k) h2
   have hset:=fun b=>bl_set (metP n A v i k) b h2
   have hnx:=metP_next n A v i k
   have hnext:∀ b,b=metP n A v i (k+1) k→bl n (updB (metP n A v i k) k b)=bl n (metP n A v i (k+1)):=fun b hb=>bl_congr fun j hj=>by
    unfold updB
    by_cases e:j=k
    ·rw [if_pos e,hb,e]
    ·rw [if_neg e,metP_other n A v e]
   have c1:=cs i h1
   have ix:=ixv i h1
   have b2:=hblg i h1
   have b3:=hbl1 i
   have b4:=hbg1 i k h2
   clear cs ixv hblg hbl1 hbg1 hblm
   cases hb:metP n A v i k k
   ·rw [hb] at hg hnx
    by_cases hp:0<v i
    ·have hps:0<sgnR (v i):=sgnR_pos.2 hp
     cases ht:toB n A i k
     ·rw [ht] at b4 hnx
      have hfin:=hnext false (by rw [hnx];simp)
      clear hnext hnx
      generalize v i=q at *
      refine AX.sR (rgAV [1,2,9,10,11,12,45,46,50,51,52]) ?_
      refine AX.seq ?_
      refine AX.condT ?_
      refine AX.keepA [1,2,9,10,11,12,45,46,50,51] ?_
      refine AX.skip ?_
      refine nmZ ?_
      refine AX.seq ?_
      refine AX.block ?_
      refine AX.sR (rgAV [1,2,9,10,11,12,13,45,46,50,51]) ?_
      refine AX.rR (rgEV [1,2,9,10,11,12,45,46,50,51] (aI @hl (aI @hg (aI @hbll (aI @b2 (aI @b3 (aI @b4 (aI @hps oT))))))) (aI c1 oT) (aI ix oT)) ?_
      refine nmZ ?_
      rw [hset,hfin]
      refine AX.rR (rgWV [1,2,9,10,11,12,45,46,50,51] (aI @lit_add oT) oT) ?_
      refine nmZ ?_
      refine ⟨_,_,id,?_,
       leQ8
       , ⟨k+1,by omega,rfl,rfl⟩⟩
      omega
     ·rw [ht] at b4 hnx
      have hfin:=hnext true (by rw [hnx];simp [hp])
      clear hnext hnx
      generalize v i=q at *
      refine AX.sR (rgAV [1,2,9,10,11,12,45,46,50,51,52]) ?_
      refine AX.seq ?_
      refine AX.condT ?_
      refine AX.keepA [1,2,9,10,11,12,45,46,50,51] ?_
      refine AX.skip ?_
      refine nmZ ?_
      refine AX.seq ?_
      refine AX.block ?_
      refine AX.sR (rgAV [1,2,9,10,11,12,13,45,46,50,51]) ?_
      refine AX.rR (rgEV [1,2,9,10,11,12,45,46,50,51] (aI @hl (aI @hg (aI @hbll (aI @b2 (aI @b3 (aI @b4 (aI @hps oT))))))) (aI c1 oT) (aI ix oT)) ?_
      refine nmZ ?_
      rw [hset,hfin]
      refine AX.rR (rgWV [1,2,9,10,11,12,45,46,50,51] (aI @lit_add oT) oT) ?_
      refine nmZ ?_
      refine ⟨_,_,id,?_,
       leQ8
       , ⟨k+1,by omega,rfl,rfl⟩⟩
      omega
    ·have hps:¬ 0<sgnR (v i):=fun h=>hp (sgnR_pos.1 h)
     have hfin:=hnext false (by rw [hnx];simp [hp])
     clear hnext hnx
     generalize v i=q at *
     refine AX.sR (rgAV [1,2,9,10,11,12,45,46,50,51,52]) ?_
     refine AX.seq ?_
     refine AX.condT ?_
     refine AX.keepA [1,2,9,10,11,12,45,46,50,51] ?_
     refine AX.skip ?_
     refine nmZ ?_
     refine AX.seq ?_
     refine AX.block ?_
     refine AX.sR (rgAV [1,2,9,10,11,12,13,45,46,50,51]) ?_
     refine AX.rR (rgEV [1,2,9,10,11,12,45,46,50,51] (aI @hl (aI @hg (aI @hps oT))) (aI c1 oT) (aI ix oT)) ?_
     refine nmZ ?_
     rw [hset,hfin]
     refine AX.rR (rgWV [1,2,9,10,11,12,45,46,50,51] (aI @lit_add oT) oT) ?_
     refine nmZ ?_
     refine ⟨_,_,id,?_,
      leQ8
      , ⟨k+1,by omega,rfl,rfl⟩⟩
     omega
   ·rw [hb] at hg hnx
    have hfin:=hnext true (by rw [hnx];simp)
    clear hnext hnx
    refine AX.sR (rgAV [1,2,9,10,11,12,45,46,50,51,52]) ?_
    refine AX.seq ?_
    refine AX.condT ?_
    refine AX.keepA [1,2,9,10,11,12,45,46,50,51] ?_
    refine AX.skip ?_
    refine nmZ ?_
    refine AX.seq ?_
    refine AX.block ?_
    refine AX.sR (rgAV [1,2,9,10,11,12,13,45,46,50,51]) ?_
    refine AX.rR (rgWV [1,2,9,10,11,12,45,46,50,51] (aI @hl (aI @hg oT)) oT) ?_
    refine nmZ ?_
    rw [hset,hfin]
    refine AX.rR (rgWV [1,2,9,10,11,12,45,46,50,51] (aI @lit_add oT) oT) ?_
    refine nmZ ?_
    refine ⟨_,_,id,?_,
     leQ8
     , ⟨k+1,by omega,rfl,rfl⟩⟩
    omega
  ·obtain rfl:n=k:=by omega
   have hrow:bl n (metP n A v i n)=bl n (metP n A v (i+1) 0):=bl_congr fun k hk=>metP_row n A v hk
   refine AX.sR (rgAV [1,2,9,10,11,12,45,46,50,51,52]) ?_
   refine AX.seq ?_
   refine AX.condF ?_
   refine AX.exit ?_
   refine nmZ ?_
   rw [hrow]
   refine AX.rR (rgWV [1,2,9,10,11,45,46] (aI @lit_add oT) oT) ?_
   refine nmZ ?_
   refine ⟨_,_,id,?_,
    leQ8
    , ⟨i+1,by omega,rfl,rfl⟩⟩
   omega
 ·obtain rfl:n=i:=by omega
  have hend:bl n (metP n A v n 0)=bl n (metB n A v):=bl_congr fun k hk=>metP_end n A v k
  refine AX.sR (rgAV [1,2,9,10,11,45,46,47]) ?_
  refine AX.seq ?_
  refine AX.condF ?_
  refine AX.exit ?_
  refine nmZ ?_
  rw [hend]
  have nn1:n*1=n:=Nat.mul_one n
  rw [nn1] at czr csv ckB tkB
  obtain ⟨Kn,hKn⟩:∃ K,n*n=K:=⟨_,rfl⟩
  rw [hKn] at cid csv ckA tkA
  have hmb:=bl_length n (metB n A v)
  have hmg:=fun (i:Nat) (hi:i<n)=>bl_get (metB n A v) hi
  have hmlt:=fun k=>(lt_bl k n (metB n A v))
  obtain ⟨bs,hbs⟩:∃ x,bl n (metB n A v)=x:=⟨_,rfl⟩
  rw [hbs] at hmb hmg ⊢
  refine AX.sR (rgCV [1,2,9,11,14] (aI cid oT)) ?_
  refine AX.sR (rgCV [1,2,9,11,14,16] (aI czr oT)) ?_
  refine AX.seq ?_
  refine AX.sR (rgAV [1,2,9,11,14,16,18]) ?_
  have hl7:V.ltL 7 bs=true:=by rw [← hbs];exact lt_bl ..
  refine AX.weaken id (st':=⟨[(18,.i .i64 (0:Nat)),(16,.ptr 6 0),(14,.ptr 4 0),(11,.own 2 0 n 1),(9,.i .i64 n),(2,.ptr 0 0),(1,.sl Vc)],[(6,⟨46,[.i .i64 n,.i .i64 1,.own 5 0 n 3]⟩),(5,⟨54,qrow (mcells 1 (eqW (metB n A v) v 0) n)⟩),(4,⟨46,[.i .i64 n,.i .i64 n,.own 3 0 Kn 3]⟩),(3,⟨54,qrow (mcells n (eqV (metB n A v) A 0 0) Kn)⟩),(2,⟨4,bs⟩),(0,⟨48,[.i .i64 n,.i .i64 n,.sl Ac,.i .i64 n,.i .i64 m,.sl Bc]⟩)],7⟩)
   (leQ8H hl7)
   ?_
  refine AX.block ?_
  have qV:=fun i k=>qlen n n (eqV (metB n A v) A i k)
  have qW:=fun i=>qlen 1 n (eqW (metB n A v) v i)
  rw [hKn] at qV
  rw [nn1] at qW
  have hnn:Kn≤60*60:=by rw [← hKn];exact Nat.mul_le_mul (by omega) (by omega)
  refine AX.loop (fun N st=>∃ i:Nat,i≤n∧N=n-i∧st=⟨[(18,.i .i64 i),(16,.ptr 6 0),(14,.ptr 4 0),(11,.own 2 0 n 1),(9,.i .i64 n),(2,.ptr 0 0),(1,.sl Vc)],[(6,⟨46,[.i .i64 n,.i .i64 1,.own 5 0 n 3]⟩),(5,⟨54,qrow (mcells 1 (eqW (metB n A v) v i) n)⟩),(4,⟨46,[.i .i64 n,.i .i64 n,.own 3 0 Kn 3]⟩),(3,⟨54,qrow (mcells n (eqV (metB n A v) A i 0) Kn)⟩),(2,⟨4,bs⟩),(0,⟨48,[.i .i64 n,.i .i64 n,.sl Ac,.i .i64 n,.i .i64 m,.sl Bc]⟩)],7⟩) n ⟨0,Nat.zero_le _,rfl,rfl⟩ ?_
  rintro N st ⟨i,hi,rfl,rfl⟩
  refine AX.seq ?_
  by_cases h1:i<n
  ·have hbi:=hmg i h1
   refine AX.sR (rgAV [1,2,9,11,14,16,18,92]) ?_
   refine AX.condT ?_
   refine AX.keepA [1,2,9,11,14,16,18] ?_
   refine AX.skip ?_
   refine nmZ ?_
   refine AX.seq ?_
   refine AX.block ?_
   refine AX.seq ?_
   cases hri:metB n A v i
   ·have n1:mcells n (eqV (metB n A v) A i 0) Kn=mcells n (eqV (metB n A v) A (i+1) 0) Kn:=by
     rw [← hKn]
     refine mcells_congr fun a k ha hk=>?_
     unfold eqV eqA
     by_cases e:a=i
     ·rw [e,hri,if_neg (fun h=>by cases h.2.1),if_neg (fun h=>by cases h.2.1)]
     ·have e3:(a<i∨a=i∧k<0)=(a<i+1∨a=i+1∧k<0):=by
       apply propext
       constructor<;>intro h<;>omega
      simp only [e3]
    have n2:mcells 1 (eqW (metB n A v) v i) n=mcells 1 (eqW (metB n A v) v (i+1)) n:=by
     have:=mcells_congr (r:=n) (c:=1) (f:=eqW (metB n A v) v i) (g:=eqW (metB n A v) v (i+1)) fun a k ha hk=>by
      unfold eqW
      by_cases e:a=i
      ·rw [e,hri,if_neg (fun h=>by cases h.2),if_neg (fun h=>by cases h.2)]
      ·have e3:(a<i)=(a<i+1):=by
        apply propext
        constructor<;>intro h<;>omega
       simp only [e3]
     rwa [nn1] at this
    rw [hri] at hbi
    rw [n1,n2]
    refine AX.sR (rgWV [1,2,9,11,14,16,18,99] (aI @hmb (aI @hbi oT)) oT) ?_
    refine AX.condT ?_
    refine AX.exit ?_
    refine nmZ ?_
    refine AX.rR (rgWV [1,2,9,11,14,16,18] (aI @lit_add oT) oT) ?_
    refine nmZ ?_
    refine ⟨_,_,id,?_,
     (leQ8H hl7)
     , ⟨i+1,by omega,rfl,rfl⟩⟩
    omega
   ·rw [hri] at hbi
    have c1:=ixv i h1
    have z1:i*1+0=i:=by omega
    have hlW:=qW i
    have hsW:=qset (n:=n) (w:=1) (eqW (metB n A v) v i) (v i) h1 (show 0<1 by decide) z1
    have n2:mcells 1 (updM (eqW (metB n A v) v i) i 0 (v i)) n=mcells 1 (eqW (metB n A v) v (i+1)) n:=by
     have:=mcells_congr (r:=n) (c:=1) (f:=updM (eqW (metB n A v) v i) i 0 (v i)) (g:=eqW (metB n A v) v (i+1)) fun a k ha hk=>by
      unfold updM eqW
      by_cases e:a=i
      ·rw [e,if_pos ⟨rfl,by omega⟩,if_pos ⟨by omega,hri⟩]
      ·rw [if_neg (fun h=>e h.1)]
       have e3:(a<i)=(a<i+1):=by
        apply propext
        constructor<;>intro h<;>omega
       simp only [e3]
     rwa [nn1] at this
    rw [nn1,n2] at hsW
    generalize v i=q at c1 hsW
    refine AX.sR (rgWV [1,2,9,11,14,16,18,99] (aI @hmb (aI @hbi oT)) oT) ?_
    refine AX.condF ?_
    refine AX.keepA [1,2,9,11,14,16,18] ?_
    refine AX.skip ?_
    refine nmZ ?_
    refine AX.sD (rgDEV [1,2,9,11,14,16,18] (aI @hlW oT) oT (aI c1 oT)) ?_
    rw [hsW]
    refine AX.sR (rgAV [1,2,9,11,14,16,18,19]) ?_
    refine AX.block ?_
    refine AX.loop (fun N st=>∃ k:Nat,k≤n∧N=n-k∧st=⟨[(19,.i .i64 k),(18,.i .i64 i),(16,.ptr 6 0),(14,.ptr 4 0),(11,.own 2 0 n 1),(9,.i .i64 n),(2,.ptr 0 0),(1,.sl Vc)],[(6,⟨46,[.i .i64 n,.i .i64 1,.own 5 0 n 3]⟩),(5,⟨54,qrow (mcells 1 (eqW (metB n A v) v (i+1)) n)⟩),(4,⟨46,[.i .i64 n,.i .i64 n,.own 3 0 Kn 3]⟩),(3,⟨54,qrow (mcells n (eqV (metB n A v) A i k) Kn)⟩),(2,⟨4,bs⟩),(0,⟨48,[.i .i64 n,.i .i64 n,.sl Ac,.i .i64 n,.i .i64 m,.sl Bc]⟩)],7⟩) n ⟨0,Nat.zero_le _,rfl,rfl⟩ ?_
    rintro N st ⟨k,hk,rfl,rfl⟩
    refine AX.seq ?_
    by_cases h2:k<n
    ·have hbk:=hmg k h2
     have ix:=ixA k i h2 h1
     obtain ⟨z,hz⟩:∃ z,i*n+k=z:=⟨_,rfl⟩
     obtain ⟨y,hy⟩:∃ y,k*n+i=y:=⟨_,rfl⟩
     rw [hy] at ix
     have m1:(i:Int)*(n:Int)=((i*n:Nat):Int):=(Int.natCast_mul i n).symm
     have a1:((i*n:Nat):Int)+(k:Int)=(z:Int):=by rw [← Int.natCast_add,hz]
     have m2:(k:Int)*(n:Int)=((k*n:Nat):Int):=(Int.natCast_mul k n).symm
     have a2:((k*n:Nat):Int)+(i:Int)=(y:Int):=by rw [← Int.natCast_add,hy]
     have hzK:z<Kn:=by
      rw [← hz,← hKn]
      have:(i+1)*n≤n*n:=Nat.mul_le_mul_right _ h1
      rw [Nat.succ_mul] at this
      omega
     have hyK:y<Kn:=by
      rw [← hy,← hKn]
      have:(k+1)*n≤n*n:=Nat.mul_le_mul_right _ h2
      rw [Nat.succ_mul] at this
      omega
     have bz:i*n≤60*60:=by
      have:i*n≤n*n:=Nat.mul_le_mul_right _ hi
      omega
     have by':k*n≤60*60:=by
      have:k*n≤n*n:=Nat.mul_le_mul_right _ hk
      omega
     have hl:=qV i k
     have hg:=qget (n:=n) (eqV (metB n A v) A i k) h1 h2 hz
     have ev:eqV (metB n A v) A i k i k=dlt1 i k:=by
      unfold eqV eqA
      rw [if_neg (fun h=>by omega)]
     rw [ev] at hg
     have hset:=qset (n:=n) (eqV (metB n A v) A i k) (dlt1 i k-A k i) h1 h2 hz
     rw [hKn] at hg hset
     refine AX.sR (rgAV [1,2,9,11,14,16,18,19,110]) ?_
     refine AX.condT ?_
     refine AX.keepA [1,2,9,11,14,16,18,19] ?_
     refine AX.skip ?_
     refine nmZ ?_
     refine AX.seq ?_
     refine AX.block ?_
     cases hrk:metB n A v k
     ·have hnext:mcells n (eqV (metB n A v) A i k) Kn=mcells n (eqV (metB n A v) A i (k+1)) Kn:=by
       rw [← hKn]
       refine mcells_congr fun a b ha hb=>?_
       unfold eqV eqA
       by_cases e:a=i∧b=k
       ·rw [if_neg (fun h=>by rw [e.2,hrk] at h;cases h.2.2),if_neg (fun h=>by rw [e.2,hrk] at h;cases h.2.2)]
       ·have e3:(a<i∨a=i∧b<k)=(a<i∨a=i∧b<k+1):=by
         apply propext
         constructor<;>intro h<;>omega
        simp only [e3]
      rw [hrk] at hbk
      rw [hnext]
      refine AX.sR (rgWV [1,2,9,11,14,16,18,19,116] (aI @hmb (aI @hbk oT)) oT) ?_
      refine AX.condF ?_
      refine AX.keepA [1,2,9,11,14,16,18,19] ?_
      refine AX.skip ?_
      refine nmZ ?_
      refine AX.rR (rgWV [1,2,9,11,14,16,18,19] (aI @lit_add oT) oT) ?_
      refine nmZ ?_
      refine ⟨_,_,id,?_,
       (leQ8H hl7)
       , ⟨k+1,by omega,rfl,rfl⟩⟩
      omega
     ·have hnext:mcells n (updM (eqV (metB n A v) A i k) i k (dlt1 i k-A k i)) Kn=mcells n (eqV (metB n A v) A i (k+1)) Kn:=by
       rw [← hKn]
       refine mcells_congr fun a b ha hb=>?_
       unfold updM eqV eqA
       by_cases e:a=i∧b=k
       ·rw [if_pos e,if_pos ⟨.inr ⟨e.1,by omega⟩,by rw [e.1];exact hri,by rw [e.2];exact hrk⟩,e.1,e.2]
       ·rw [if_neg e]
        have e3:(a<i∨a=i∧b<k)=(a<i∨a=i∧b<k+1):=by
         apply propext
         constructor<;>intro h<;>omega
        simp only [e3]
      rw [hnext] at hset
      rw [hrk] at hbk
      have cb:PCall Tryz.prog 73 [.agg [.b (decide (((dlt1 i k)).num<0)),dg (digits ((dlt1 i k)).num.natAbs),dg (digits ((dlt1 i k)).den)],.agg [.b (decide (((A k i)).num<0)),dg (digits ((A k i)).num.natAbs),dg (digits ((A k i)).den)]] (.agg [.b (decide (((dlt1 i k-A k i)).num<0)),dg (digits ((dlt1 i k-A k i)).num.natAbs),dg (digits ((dlt1 i k-A k i)).den)]) []:=psub_ok (L:=40) (IsQ.of (Nat.le_trans (dlt1_len i k) (by decide))) (IsQ.of (Nat.le_trans (h.hA k i h2 h1) (by decide))) (by decide) (by decide)
      clear hnext ev
      generalize dlt1 i k-A k i=q1 at *
      generalize dlt1 i k=q2 at *
      generalize A k i=q3 at *
      refine AX.sR (rgWV [1,2,9,11,14,16,18,19,116] (aI @hmb (aI @hbk oT)) oT) ?_
      refine AX.condT ?_
      refine AX.rD (rgDEV [1,2,9,11,14,16,18,19] (aI @m1 (aI @a1 (aI @m2 (aI @a2 (aI @hl (aI @hg oT)))))) (aI cb oT) (aI ix oT)) ?_
      refine nmZ ?_
      rw [hset]
      refine AX.rR (rgWV [1,2,9,11,14,16,18,19] (aI @lit_add oT) oT) ?_
      refine nmZ ?_
      refine ⟨_,_,id,?_,
       (leQ8H hl7)
       , ⟨k+1,by omega,rfl,rfl⟩⟩
      omega
    ·obtain rfl:n=k:=by omega
     have n3:mcells n (eqV (metB n A v) A i n) Kn=mcells n (eqV (metB n A v) A (i+1) 0) Kn:=by
      rw [← hKn]
      refine mcells_congr fun a b ha hb=>?_
      unfold eqV eqA
      have e3:(a<i∨a=i∧b<n)=(a<i+1∨a=i+1∧b<0):=by
       apply propext
       constructor<;>intro h<;>omega
      simp only [e3]
     refine AX.sR (rgAV [1,2,9,11,14,16,18,19,110]) ?_
     refine AX.condF ?_
     refine AX.exit ?_
     refine nmZ ?_
     rw [n3]
     refine AX.rR (rgWV [1,2,9,11,14,16,18] (aI @lit_add oT) oT) ?_
     refine nmZ ?_
     refine ⟨_,_,id,?_,
      (leQ8H hl7)
      , ⟨i+1,by omega,rfl,rfl⟩⟩
     omega
  ·obtain rfl:n=i:=by omega
   have lA:=qV n 0
   have lB:=qW n
   refine AX.sR (rgAV [1,2,9,11,14,16,18,92]) ?_
   refine AX.condF ?_
   refine AX.exit ?_
   refine nmZ ?_
   clear hmb hmg ixA ixv
   generalize mcells n (eqV (metB n A v) A n 0) Kn=xs at *
   generalize mcells 1 (eqW (metB n A v) v n) n=ys at *
   have f1:=flat_q xs
   have f2:=hf_q xs
   have f3:=flat_q ys
   have f4:=hf_q ys
   apply AX.sreg [20] (by simp only [pq];rfl)
   ·repeat (first
   |(apply RunO.op rfl;· rfl
     ·(simp only [opsOf,valsOf,valOf,lkp,ofConst,ofCell,Array.toList,Option.toList,List.map_cons,List.map_nil,List.cons_append,List.nil_append,List.append_nil,Nat.reduceEqDiff,Nat.reducePow,Nat.reduceLT,Nat.reduceLeDiff,reduceIte,if_true,if_false,IntKind.min,IntKind.max,IntKind.bits,IntKind.signed,Int.reduceLE,Int.reduceNeg,Int.reducePow,Int.reduceSub,and_self,Bool.false_eq_true,Nat.reduceSub];rfl)
     iterate 2 (· (simp (disch:=omega) only [go_sem,i64_of,u32_of,u64_of,Nat.reduceLT,Nat.reduceLeDiff,Nat.reduceEqDiff,Nat.reduceAdd,Nat.reduceSub,Nat.reduceMul,Nat.reducePow,Nat.reduceBEq,Int.reduceLE,Int.reduceLT,Int.reduceToNat,Int.reduceEq,Int.reduceNeg,↓reduceIte,reduceCtorEq,lA,tkA,ckA,f1,f2,lB,tkB,ckB,f3,f4,nleQ,List.not_mem_nil];rfl))
     ·(simp only [pb,Nat.reduceLT,Nat.reduceAdd,reduceIte];rfl))
   |(apply RunO.call rfl;· rfl
     ·(simp only [opsOf,valsOf,valOf,lkp,ofConst,ofCell,Array.toList,Option.toList,List.map_cons,List.map_nil,List.cons_append,List.nil_append,List.append_nil,Nat.reduceEqDiff,Nat.reducePow,Nat.reduceLT,Nat.reduceLeDiff,reduceIte,if_true,if_false,IntKind.min,IntKind.max,IntKind.bits,IntKind.signed,Int.reduceLE,Int.reduceNeg,Int.reducePow,Int.reduceSub,and_self,Bool.false_eq_true,Nat.reduceSub];rfl)
     ·(simp (disch:=omega) only [go_sem,i64_of,u32_of,u64_of,Nat.reduceLT,Nat.reduceLeDiff,Nat.reduceEqDiff,Nat.reduceAdd,Nat.reduceSub,Nat.reduceMul,Nat.reducePow,Nat.reduceBEq,Int.reduceLE,Int.reduceLT,Int.reduceToNat,Int.reduceEq,Int.reduceNeg,↓reduceIte,reduceCtorEq,lA,tkA,ckA,f1,f2,lB,tkB,ckB,f3,f4,nleQ,List.not_mem_nil];rfl)
     ·rfl
     ·(first | exact csv)
     ·(simp (disch:=omega) only [go_sem,i64_of,u32_of,u64_of,Nat.reduceLT,Nat.reduceLeDiff,Nat.reduceEqDiff,Nat.reduceAdd,Nat.reduceSub,Nat.reduceMul,Nat.reducePow,Nat.reduceBEq,Int.reduceLE,Int.reduceLT,Int.reduceToNat,Int.reduceEq,Int.reduceNeg,↓reduceIte,reduceCtorEq,lA,tkA,ckA,f1,f2,lB,tkB,ckB,f3,f4,nleQ,List.not_mem_nil];rfl)
     ·(simp only [pb,Nat.reduceLT,Nat.reduceAdd,reduceIte];rfl))
   |(apply RunO.skip;· rfl
     ·(simp only [pb,Nat.reduceLT,Nat.reduceAdd,reduceIte];rfl)))
    exact RunO.nil
   ·repeat (first | exact Keep.nil | (apply Keep.take;· rfl) | (apply Keep.drop;· rfl))
   refine AX.sR (rgAV [4,5]) ?_
   refine AX.ret ⟨.inl rfl,?_⟩
   exact dnQ8
theorem Sm9.rvisits_zero {n m:Nat} {A B:Mx} {v:Nat→Rat} (h:Sm9 n m A B v)(h0:neverQ n m A B v≠0):PCall Tryz.prog 103 [cV n m A B,.sl ((vl n v).map rV)] (.tup [.sl [],.i .i64 31]) []:=by
 have ce:=h.rends
 have c0:PCall Tryz.prog 34 [.agg [.b (decide ((neverQ n m A B v).num<0)),dg (digits (neverQ n m A B v).num.natAbs),dg (digits (neverQ n m A B v).den)]] (.i .i64 (sgnR (neverQ n m A B v))) []:=psign_ok (IsQ.of h.neverL) (by decide)
 have hne:sgnR (neverQ n m A B v)≠0:=fun e=>h0 (sgnR_eq_zero.1 e)
 refine PCall.of_ax Tryz.call103 Tryz.func103 rfl (by simp [Tryz.ntmps103]) fun O w=>?_
 simp only [Tryz.ntmps103,Tryz.results103,argFr]
 unfold cV at *
 generalize (mcells n A (n*n)).map rV=Ac at *
 generalize (mcells m B (n*m)).map rV=Bc at *
 generalize (vl m (thr n v (eachM n m A B))).map rV=Ec at *
 generalize (vl n v).map rV=Vc at *
 generalize neverQ n m A B v=q at *
 refine AX.sR (rgAV [1,2]) ?_
 refine AX.sR (rgCV [1,2,7,8] (aI ce oT)) ?_
 refine AX.seq ?_
 refine AX.block ?_
 refine AX.sR (rgAV [1,2,7,8,29]) ?_
 refine AX.condF ?_
 refine AX.sR (rgWV [1,2,33] (aI @hne oT) (aI c0 oT)) ?_
 refine AX.condT ?_
 refine AX.sR (rgAV [4,5]) ?_
 refine AX.ret ⟨.inl rfl,?_⟩
 exact dnQ8
theorem Sm9.csteps {n m:Nat} {A B:Mx} {v:Nat→Rat} (h:Sm9 n m A B v)(h0:neverQ n m A B v=0):PCall Tryz.prog 57 [cV n m A B,.sl ((vl n v).map rV)] (.tup [rV (sumN n (visV n m A B v)),.i .i64 0]) []:=
 steps_ok' n m 1 100000 (by have:=h.hn;omega) (by have:=h.hm;omega) A B h.hC h.hA h.hB (by decide) (bigL9 h.hn) (by decide) v h.hv (fun i hi=>Nat.le_trans (h.hvL i hi) (by decide)) h.hX (by decide) (by decide) (by
  have:=h.hn
  have:=h.hm
  have h1:(n+m+1)*(60*(2*100000+1)+1+1)≤70*(60*(2*100000+1)+1+1):=Nat.mul_le_mul_right _ (by omega)
  omega) h0 h.visL
theorem Sm9.rsteps {n m:Nat} {A B:Mx} {v:Nat→Rat} (h:Sm9 n m A B v)(h0:neverQ n m A B v=0):PCall Tryz.prog 58 [cV n m A B,.sl ((vl n v).map rV)] (.tup [rV (sumN n (visV n m A B v)),.i .i64 0]) []:=by
 have cv:=h.rvisits h0 _ h.isVis
 have hn:=h.hn
 have cs:=pvsum h.visL (by decide) (by
  have h3:n*(100000+1)≤9*(100000+1):=Nat.mul_le_mul_right _ hn
  omega)
 refine PCall.of_ax Tryz.call58 Tryz.func58 rfl (by simp [Tryz.ntmps58]) fun O w0=>?_
 simp only [Tryz.ntmps58,Tryz.results58,argFr]
 clear h
 generalize sumN n (visV n m A B v)=q at *
 unfold cV at *
 generalize (mcells n A (n*n)).map rV=Ac at *
 generalize (mcells m B (n*m)).map rV=Bc at *
 generalize (vl n (visV n m A B v)).map rV=wc at *
 generalize (vl n v).map rV=vs at *
 refine AX.sR (rgAV [1,2,4]) ?_
 refine AX.sR (rgCV [4,6,7] (aI cv oT)) ?_
 refine AX.seq ?_
 refine AX.sR (rgAV [4,6,7,15]) ?_
 refine AX.condF ?_
 refine AX.keepA [4,6] ?_
 refine AX.skip ?_
 refine nmZ ?_
 refine AX.sR (rgCV [4,5] (aI cs oT)) ?_
 refine AX.ret ⟨.inl rfl,?_⟩
 exact Done.cellE rfl rfl rfl
theorem Lift.Done.rchN {st:St} {a t':Tmp} {h:Nat} {T:TypeId} {e:Int} (h1:lkp st.fr a=some (.ptr h 0))(h2:lkp st.hp h=some ⟨T,[.i .i64 0,.i .i64 0,.nl,.i .i64 0,.i .i64 0,.nl]⟩)(h4:lkp st.fr t'=some (.i .i64 e)):Done Tryz.prog #[.cell a 48,.tmp t'] (.tup [.agg [.i .i64 0,.i .i64 0,.sl [],.i .i64 0,.i .i64 0,.sl []],.i .i64 e]) [] st:=by
 refine Done.of (vs:=[.agg [.i .i64 0,.i .i64 0,.nl,.i .i64 0,.i .i64 0,.nl],.i .i64 e]) (hp:=st.hp) ?_ rfl rfl rfl rfl
 simp only [resVs,resV,h1,h2,h4,lay_chain20];rfl
theorem Lift.Done.rchO {st:St} {a t':Tmp} {h g g' k k':Nat} {T T1 T2:TypeId} {n1 n2 n3 n4:Nat} {xs ys:List Rat} {e:Int} (h1:lkp st.fr a=some (.ptr h 0)) (h2:lkp st.hp h=some ⟨T,[.i .i64 n1,.i .i64 n2,.own g 0 k 3,.i .i64 n3,.i .i64 n4,.own g' 0 k' 3]⟩) (h3:lkp st.hp g=some ⟨T1,qrow xs⟩) (h3':lkp (dlt st.hp g) g'=some ⟨T2,qrow ys⟩) (h4:lkp st.fr t'=some (.i .i64 e)) (hk:k=xs.length) (hk':k'=ys.length) :
  Done Tryz.prog #[.cell a 48,.tmp t'] (.tup [.agg [.i .i64 n1,.i .i64 n2,.sl (xs.map rV),.i .i64 n3,.i .i64 n4,.sl (ys.map rV)],.i .i64 e]) [] st:=by
 subst hk hk'
 refine Done.of (vs:=[.agg [.i .i64 n1,.i .i64 n2,.own g 0 xs.length 3,.i .i64 n3,.i .i64 n4,.own g' 0 ys.length 3],.i .i64 e]) (hp:=dlt (dlt st.hp g) g') ?_ ?_ rfl ?_ ?_
 ·simp only [resVs,resV,h1,h2,h4,lay_chain20];rfl
 ·simp only [packV,frz,frzL,h3,h3',List.not_mem_nil,if_false,Nat.zero_add,qrow_length,Nat.le_refl,take_q,flat_q,hf_q,chunks_q,and_self,if_true,Nat.zero_lt_succ,Nat.lt_succ_self,true_and]
 ·rfl
 ·rfl
theorem rhalf_ok:PCall Tryz.prog 33 [.i .i64 1,.i .i64 2] (.tup [.agg [.b (decide ((1 / 2:Rat).num<0)),dg (digits (1 / 2:Rat).num.natAbs),dg (digits (1 / 2:Rat).den)],.i .i64 0]) []:=by
 have c:=pmake_ok 1 2 (by omega) (by omega)
 have e:ofV (decide ((1:Int)<0) != decide ((2:Int)<0)) (1:Int).natAbs (2:Int).natAbs=.tup [rV (rq false 1 2),.i .i64 0]:=rfl
 rw [e,half_eq] at c
 exact c
set_option maxHeartbeats 16000000 in
theorem rchain_bad (T:T2)(hS:isS T=false)(hl:T.length<2 ^ 62)(hb:bT T):PCall Tryz.prog 20 [smp T] (.tup [zC,.i .i64 1]) []:=by
 have c1:=right29_ok T hl hb
 rw [hS] at c1
 refine PCall.of_ax Tryz.call20 Tryz.func20 rfl (by simp [Tryz.ntmps20]) fun O w=>?_
 simp only [Tryz.ntmps20,Tryz.results20,argFr]
 unfold smp at *
 refine AX.sR (rgAV [1,2]) ?_
 refine AX.seq ?_
 refine AX.sR (rgCV [1,2,17] (aI c1 oT)) ?_
 refine AX.condT ?_
 refine AX.sR (rgAV [2,3]) ?_
 refine AX.ret ⟨.inl rfl,?_⟩
 exact Done.rchN rfl rfl rfl
set_option maxHeartbeats 16000000 in
theorem rchain_limit (T:T2)(hS:isS T=true)(hm60:60<exI T T.length):PCall Tryz.prog 20 [smp T] (.tup [zC,.i .i64 2]) []:=by
 obtain ⟨n1,n2,hr⟩:=isS_iff.1 hS
 have hb:bT T:=fun x hx=>by have:=hr x hx;omega
 have c1:=right29_ok T (by omega) hb
 rw [hS] at c1
 have hml:=nx_length T
 have hex:=exI_bd hr
 obtain ⟨m,hmx⟩:∃ m,exT T=m:=⟨_,rfl⟩
 have hmI:exI T T.length=(m:Int):=by have:=hex T.length (Nat.le_refl _);rw [← hmx];unfold exT;omega
 have hge:=exI_ge T T.length
 rw [hmI] at hge hm60
 clear hge
 refine PCall.of_ax Tryz.call20 Tryz.func20 rfl (by simp [Tryz.ntmps20]) fun O w=>?_
 simp only [Tryz.ntmps20,Tryz.results20,argFr]
 unfold smp at *
 refine AX.sR (rgAV [1,2]) ?_
 refine AX.seq ?_
 refine AX.sR (rgCV [1,2,17] (aI c1 oT)) ?_
 refine AX.condF ?_
 refine AX.keepA [1,2] ?_
 refine AX.skip ?_
 refine nmZ ?_
 clear c1
 refine AX.sR (rgAV [1,2,4]) ?_
 refine AX.seq ?_
 refine AX.sR (rgWV [1,2,4,20,21,22] (aI @hml oT) oT) ?_
 refine AX.weaken id (st':=⟨[(22,.i .i64 (0:Nat)),(21,.i .i64 T.length),(20,.sl (nx T)),(4,.i .i64 0),(2,.ptr 1 0),(1,.ptr 0 0)],[(1,⟨48,[.i .i64 0,.i .i64 0,.nl,.i .i64 0,.i .i64 0,.nl]⟩),(0,⟨29,[.sl (nx T)]⟩)],2⟩)
  leQ7
  ?_
 refine AX.block ?_
 refine AX.loop (fun N st=>∃ (i:Nat) (s:Int),i≤T.length∧N=T.length-i∧exI T i=s∧st=⟨[(22,.i .i64 i),(21,.i .i64 T.length),(20,.sl (nx T)),(4,.i .i64 s),(2,.ptr 1 0),(1,.ptr 0 0)],[(1,⟨48,[.i .i64 0,.i .i64 0,.nl,.i .i64 0,.i .i64 0,.nl]⟩),(0,⟨29,[.sl (nx T)]⟩)],2⟩) T.length ⟨0,0,Nat.zero_le _,rfl,rfl,rfl⟩ ?_
 rintro N st ⟨i,s,hi,rfl,hs,rfl⟩
 by_cases h3:i<T.length
 ·have hix:=fun x y=>effIx2 (x:=x) (y:=y) (els:=nx T) (j:=i) (by omega) (nx_get h3)
  have hrx:=hr _ (getD_mem_T h3)
  have s1:exI T (i+1)=mx3 s (T.getD i z2).1 (T.getD i z2).2:=by rw [exI,hs]
  have hsb:=hex i hi
  rw [hs] at hsb
  generalize T.getD i z2=x at *
  obtain ⟨a,b⟩:=x
  dsimp only at hix hrx s1
  have k1:(if 0-b > (if 0-a > s then 0-a else s) then 0-b else (if 0-a > s then 0-a else s))=mx3 s a b:=by unfold mx3;simp only [Int.zero_sub]
  generalize nx T=A at *
  refine AX.sR (rgAV [1,2,4,20,21,22,23]) ?_
  refine AX.seq ?_
  refine AX.condT ?_
  refine AX.keepA [1,2,4,20,21,22] ?_
  refine AX.skip ?_
  refine nmZ ?_
  refine AX.seq ?_
  refine AX.block ?_
  refine AX.sR (rgEV [1,2,4,6,20,21,22] oT oT (aI hix oT)) ?_
  apply AX.reg [1,2,4,20,21,22] (by simp only [pq];rfl)
  ·repeat (first
  |(apply RunO.op rfl;· rfl
    ·(simp only [opsOf,valsOf,valOf,lkp,ofConst,ofCell,Array.toList,Option.toList,List.map_cons,List.map_nil,List.cons_append,List.nil_append,List.append_nil,Nat.reduceEqDiff,Nat.reducePow,Nat.reduceLT,Nat.reduceLeDiff,reduceIte,if_true,if_false,IntKind.min,IntKind.max,IntKind.bits,IntKind.signed,Int.reduceLE,Int.reduceNeg,Int.reducePow,Int.reduceSub,and_self,Bool.false_eq_true,Nat.reduceSub];rfl)
    ·first | exact effMx | (simp (disch:=omega) only [go_sem,i64_of,u32_of,u64_of,Nat.reduceLT,Nat.reduceLeDiff,Nat.reduceEqDiff,Nat.reduceAdd,Nat.reduceSub,Nat.reduceMul,Nat.reducePow,Nat.reduceBEq,Int.reduceLE,Int.reduceLT,Int.reduceToNat,Int.reduceEq,Int.reduceNeg,↓reduceIte,reduceCtorEq];rfl)
    ·(simp (disch:=omega) only [go_sem,i64_of,u32_of,u64_of,Nat.reduceLT,Nat.reduceLeDiff,Nat.reduceEqDiff,Nat.reduceAdd,Nat.reduceSub,Nat.reduceMul,Nat.reducePow,Nat.reduceBEq,Int.reduceLE,Int.reduceLT,Int.reduceToNat,Int.reduceEq,Int.reduceNeg,↓reduceIte,reduceCtorEq];rfl)
    ·(simp only [pb,Nat.reduceLT,Nat.reduceAdd,reduceIte];rfl))
  |(apply RunO.skip;· rfl
    ·(simp only [pb,Nat.reduceLT,Nat.reduceAdd,reduceIte];rfl)))
   exact RunO.nil
  ·repeat (first | exact Keep.nil | (apply Keep.take;· rfl) | (apply Keep.drop;· rfl))
  refine nmZ ?_
  refine AX.rR (rgWV [1,2,4,20,21,22] (aI @lit_add oT) oT) ?_
  refine nmZ ?_
  refine ⟨_,_,id,?_,
   leQ7
   , ⟨i+1,_,by omega,rfl,s1,rfl⟩⟩
  omega
 obtain rfl:i=T.length:=by omega
 obtain rfl:s=(m:Int):=hs.symm.trans hmI
 refine AX.sR (rgAV [1,2,4,20,21,22,23]) ?_
 refine AX.seq ?_
 refine AX.condF ?_
 refine AX.exit ?_
 refine nmZ ?_
 refine AX.seq ?_
 refine AX.sR (rgAV [1,2,4,36]) ?_
 refine AX.condT ?_
 refine AX.sR (rgAV [2,3]) ?_
 refine AX.ret ⟨.inl rfl,?_⟩
 exact Done.rchN rfl rfl rfl
set_option maxHeartbeats 16000000 in
theorem rchain_walk (T:T2)(hS:isS T=true)(hm60:¬ 60<exI T T.length):PCall Tryz.prog 20 [smp T] (.tup [cV T.length (exT T) (chA T) (chB T),.i .i64 0]) []:=by
 obtain ⟨n1,n2,hr⟩:=isS_iff.1 hS
 have hb:bT T:=fun x hx=>by have:=hr x hx;omega
 have c1:=right29_ok T (by omega) hb
 rw [hS] at c1
 have hml:=nx_length T
 have hex:=exI_bd hr
 obtain ⟨m,hmx⟩:∃ m,exT T=m:=⟨_,rfl⟩
 have hmI:exI T T.length=(m:Int):=by have:=hex T.length (Nat.le_refl _);rw [← hmx];unfold exT;omega
 have hge:=exI_ge T T.length
 rw [hmI] at hge hm60
 rw [hmx]
 have cz1:=rzero_own T.length T.length n2 n2
 have cz2:=rzero_own T.length m n2 (by omega)
 rw [← hM_zero T wM] at cz1
 rw [← hM_zero T wE] at cz2
 have cmk:=rhalf_ok
 obtain ⟨hf,hhf⟩:∃ q:Rat,(1 / 2:Rat)=q:=⟨_,rfl⟩
 have hfl:rL hf≤1:=by rw [← hhf];decide +kernel
 rw [hhf] at cmk
 refine PCall.of_ax Tryz.call20 Tryz.func20 rfl (by simp [Tryz.ntmps20]) fun O w=>?_
 simp only [Tryz.ntmps20,Tryz.results20,argFr]
 unfold smp at *
 unfold cV chA chB
 refine AX.sR (rgAV [1,2]) ?_
 refine AX.seq ?_
 refine AX.sR (rgCV [1,2,17] (aI c1 oT)) ?_
 refine AX.condF ?_
 refine AX.keepA [1,2] ?_
 refine AX.skip ?_
 refine nmZ ?_
 clear c1
 refine AX.sR (rgAV [1,2,4]) ?_
 refine AX.seq ?_
 refine AX.sR (rgWV [1,2,4,20,21,22] (aI @hml oT) oT) ?_
 refine AX.weaken id (st':=⟨[(22,.i .i64 (0:Nat)),(21,.i .i64 T.length),(20,.sl (nx T)),(4,.i .i64 0),(2,.ptr 1 0),(1,.ptr 0 0)],[(1,⟨48,[.i .i64 0,.i .i64 0,.nl,.i .i64 0,.i .i64 0,.nl]⟩),(0,⟨29,[.sl (nx T)]⟩)],2⟩)
  leQ7
  ?_
 refine AX.block ?_
 refine AX.loop (fun N st=>∃ (i:Nat) (s:Int),i≤T.length∧N=T.length-i∧exI T i=s∧st=⟨[(22,.i .i64 i),(21,.i .i64 T.length),(20,.sl (nx T)),(4,.i .i64 s),(2,.ptr 1 0),(1,.ptr 0 0)],[(1,⟨48,[.i .i64 0,.i .i64 0,.nl,.i .i64 0,.i .i64 0,.nl]⟩),(0,⟨29,[.sl (nx T)]⟩)],2⟩) T.length ⟨0,0,Nat.zero_le _,rfl,rfl,rfl⟩ ?_
 rintro N st ⟨i,s,hi,rfl,hs,rfl⟩
 by_cases h3:i<T.length
 ·have hix:=fun x y=>effIx2 (x:=x) (y:=y) (els:=nx T) (j:=i) (by omega) (nx_get h3)
  have hrx:=hr _ (getD_mem_T h3)
  have s1:exI T (i+1)=mx3 s (T.getD i z2).1 (T.getD i z2).2:=by rw [exI,hs]
  have hsb:=hex i hi
  rw [hs] at hsb
  generalize T.getD i z2=x at *
  obtain ⟨a,b⟩:=x
  dsimp only at hix hrx s1
  have k1:(if 0-b > (if 0-a > s then 0-a else s) then 0-b else (if 0-a > s then 0-a else s))=mx3 s a b:=by unfold mx3;simp only [Int.zero_sub]
  generalize nx T=A at *
  refine AX.sR (rgAV [1,2,4,20,21,22,23]) ?_
  refine AX.seq ?_
  refine AX.condT ?_
  refine AX.keepA [1,2,4,20,21,22] ?_
  refine AX.skip ?_
  refine nmZ ?_
  refine AX.seq ?_
  refine AX.block ?_
  refine AX.sR (rgEV [1,2,4,6,20,21,22] oT oT (aI hix oT)) ?_
  apply AX.reg [1,2,4,20,21,22] (by simp only [pq];rfl)
  ·repeat (first
  |(apply RunO.op rfl;· rfl
    ·(simp only [opsOf,valsOf,valOf,lkp,ofConst,ofCell,Array.toList,Option.toList,List.map_cons,List.map_nil,List.cons_append,List.nil_append,List.append_nil,Nat.reduceEqDiff,Nat.reducePow,Nat.reduceLT,Nat.reduceLeDiff,reduceIte,if_true,if_false,IntKind.min,IntKind.max,IntKind.bits,IntKind.signed,Int.reduceLE,Int.reduceNeg,Int.reducePow,Int.reduceSub,and_self,Bool.false_eq_true,Nat.reduceSub];rfl)
    ·first | exact effMx | (simp (disch:=omega) only [go_sem,i64_of,u32_of,u64_of,Nat.reduceLT,Nat.reduceLeDiff,Nat.reduceEqDiff,Nat.reduceAdd,Nat.reduceSub,Nat.reduceMul,Nat.reducePow,Nat.reduceBEq,Int.reduceLE,Int.reduceLT,Int.reduceToNat,Int.reduceEq,Int.reduceNeg,↓reduceIte,reduceCtorEq];rfl)
    ·(simp (disch:=omega) only [go_sem,i64_of,u32_of,u64_of,Nat.reduceLT,Nat.reduceLeDiff,Nat.reduceEqDiff,Nat.reduceAdd,Nat.reduceSub,Nat.reduceMul,Nat.reducePow,Nat.reduceBEq,Int.reduceLE,Int.reduceLT,Int.reduceToNat,Int.reduceEq,Int.reduceNeg,↓reduceIte,reduceCtorEq];rfl)
    ·(simp only [pb,Nat.reduceLT,Nat.reduceAdd,reduceIte];rfl))
  |(apply RunO.skip;· rfl
    ·(simp only [pb,Nat.reduceLT,Nat.reduceAdd,reduceIte];rfl)))
   exact RunO.nil
  ·repeat (first | exact Keep.nil | (apply Keep.take;· rfl) | (apply Keep.drop;· rfl))
  refine nmZ ?_
  refine AX.rR (rgWV [1,2,4,20,21,22] (aI @lit_add oT) oT) ?_
  refine nmZ ?_
  refine ⟨_,_,id,?_,
   leQ7
   , ⟨i+1,_,by omega,rfl,s1,rfl⟩⟩
  omega
 obtain rfl:i=T.length:=by omega
 obtain rfl:s=(m:Int):=hs.symm.trans hmI
 refine AX.sR (rgAV [1,2,4,20,21,22,23]) ?_
 refine AX.seq ?_
 refine AX.condF ?_
 refine AX.exit ?_
 refine nmZ ?_
 refine AX.seq ?_
 refine AX.sR (rgAV [1,2,4,36]) ?_
 refine AX.condF ?_
 refine AX.keepA [1,2,4] ?_
 refine AX.skip ?_
 refine nmZ ?_
 refine AX.sR (rgWV [1,2,4,7] (aI @hml oT) oT) ?_
 refine AX.sR (rgAV [1,2,4,7,8]) ?_
 refine AX.sR (rgWV [1,2,4,7,8] (aI @ren_q oT) (aI cz1 oT)) ?_
 refine AX.sR (rgWV [1,2,4,7,8] (aI @ren_q oT) (aI cz2 oT)) ?_
 refine AX.sR (rgCV [1,2,4,7,8,9] (aI cmk oT)) ?_
 refine AX.seq ?_
 refine AX.sR (rgWV [2,4,7,8,9,60,61,62] (aI @hml oT) oT) ?_
 clear cmk cz1 cz2 hex hmI
 refine AX.weaken id (st':=⟨[(62,.i .i64 (0:Nat)),(61,.i .i64 T.length),(60,.sl (nx T)),(9,.ptr 5 0),(8,.ptr 2 0),(7,.i .i64 T.length),(4,.i .i64 m),(2,.ptr 1 0)],[(5,⟨54,[.b (decide (hf.num<0)),dg (digits hf.num.natAbs),dg (digits hf.den)]⟩),(4,⟨54,qrow (mcells m (hM T wE 0 0) (T.length*m))⟩),(3,⟨54,qrow (mcells T.length (hM T wM 0 0) (T.length*T.length))⟩),(2,⟨48,[.i .i64 T.length,.i .i64 T.length,.own 3 0 (T.length*T.length) 3,.i .i64 T.length,.i .i64 m,.own 4 0 (T.length*m) 3]⟩),(1,⟨48,[.i .i64 0,.i .i64 0,.nl,.i .i64 0,.i .i64 0,.nl]⟩)],6⟩)
  leQ7
  ?_
 refine AX.block ?_
 refine AX.loop (fun N st=>∃ i:Nat,i≤T.length∧N=T.length-i∧st=⟨[(62,.i .i64 i),(61,.i .i64 T.length),(60,.sl (nx T)),(9,.ptr 5 0),(8,.ptr 2 0),(7,.i .i64 T.length),(4,.i .i64 m),(2,.ptr 1 0)],[(5,⟨54,[.b (decide (hf.num<0)),dg (digits hf.num.natAbs),dg (digits hf.den)]⟩),(4,⟨54,qrow (mcells m (hM T wE i 0) (T.length*m))⟩),(3,⟨54,qrow (mcells T.length (hM T wM i 0) (T.length*T.length))⟩),(2,⟨48,[.i .i64 T.length,.i .i64 T.length,.own 3 0 (T.length*T.length) 3,.i .i64 T.length,.i .i64 m,.own 4 0 (T.length*m) 3]⟩),(1,⟨48,[.i .i64 0,.i .i64 0,.nl,.i .i64 0,.i .i64 0,.nl]⟩)],6⟩) T.length ⟨0,Nat.zero_le _,rfl,rfl⟩ ?_
 rintro N st ⟨i,hi,rfl,rfl⟩
 by_cases h3:i<T.length
 ·have hix:=fun x y=>effIx2 (x:=x) (y:=y) (els:=nx T) (j:=i) (by omega) (nx_get h3)
  have hrx:=hr _ (getD_mem_T h3)
  have hgx:=hge i h3
  obtain ⟨x,hx⟩:∃ x,T.getD i z2=x:=⟨_,rfl⟩
  rw [hx] at hix hrx hgx
  obtain ⟨a,b⟩:=x
  dsimp only at hix hrx hgx
  generalize nx T=AA at *
  clear hge hr hb
  refine AX.sR (rgAV [2,4,7,8,9,60,61,62,63]) ?_
  refine AX.seq ?_
  refine AX.condT ?_
  refine AX.keepA [2,4,7,8,9,60,61,62] ?_
  refine AX.skip ?_
  refine nmZ ?_
  refine AX.seq ?_
  refine AX.block ?_
  refine AX.sR (rgEV [2,4,7,8,9,11,12,60,61,62] oT oT (aI hix oT)) ?_
  refine AX.sR (rgAV [2,4,7,8,9,11,60,61,62,67,68]) ?_
  refine AX.weaken id (st':=⟨[(68,.i .i64 (0:Nat)),(67,.agg [.i .i64 a,.i .i64 b]),(62,.i .i64 i),(61,.i .i64 T.length),(60,.sl AA),(11,.i .i64 i),(9,.ptr 5 0),(8,.ptr 2 0),(7,.i .i64 T.length),(4,.i .i64 m),(2,.ptr 1 0)],[(5,⟨54,[.b (decide (hf.num<0)),dg (digits hf.num.natAbs),dg (digits hf.den)]⟩),(4,⟨54,qrow (mcells m (hM T wE i 0) (T.length*m))⟩),(3,⟨54,qrow (mcells T.length (hM T wM i 0) (T.length*T.length))⟩),(2,⟨48,[.i .i64 T.length,.i .i64 T.length,.own 3 0 (T.length*T.length) 3,.i .i64 T.length,.i .i64 m,.own 4 0 (T.length*m) 3]⟩),(1,⟨48,[.i .i64 0,.i .i64 0,.nl,.i .i64 0,.i .i64 0,.nl]⟩)],6⟩)
   leQ7
   ?_
  refine AX.block ?_
  refine AX.loop (fun N st=>∃ j:Nat,j≤2∧N=2-j∧st=⟨[(68,.i .i64 j),(67,.agg [.i .i64 a,.i .i64 b]),(62,.i .i64 i),(61,.i .i64 T.length),(60,.sl AA),(11,.i .i64 i),(9,.ptr 5 0),(8,.ptr 2 0),(7,.i .i64 T.length),(4,.i .i64 m),(2,.ptr 1 0)],[(5,⟨54,[.b (decide (hf.num<0)),dg (digits hf.num.natAbs),dg (digits hf.den)]⟩),(4,⟨54,qrow (mcells m (hM T wE i j) (T.length*m))⟩),(3,⟨54,qrow (mcells T.length (hM T wM i j) (T.length*T.length))⟩),(2,⟨48,[.i .i64 T.length,.i .i64 T.length,.own 3 0 (T.length*T.length) 3,.i .i64 T.length,.i .i64 m,.own 4 0 (T.length*m) 3]⟩),(1,⟨48,[.i .i64 0,.i .i64 0,.nl,.i .i64 0,.i .i64 0,.nl]⟩)],6⟩) 2 ⟨0,Nat.zero_le _,rfl,rfl⟩ ?_
  rintro N st ⟨j,hj,rfl,rfl⟩
  by_cases h4:j<2
  ·have k2:=fun x y=>effAr2 (x:=x) (y:=y) (a:=a) (b:=b) h4
   have hv:-64≤ev (a,b) j∧ev (a,b) j<T.length∧-(ev (a,b) j)≤m:=by
    unfold ev
    split
    ·exact ⟨hrx.1.1,hrx.1.2,hgx.1⟩
    ·exact ⟨hrx.2.1,hrx.2.2,hgx.2⟩
   obtain ⟨v,hvv⟩:∃ v,ev (a,b) j=v:=⟨_,rfl⟩
   rw [hvv] at k2 hv
   have hvx:ev (T.getD i z2) j=v:=by rw [hx,hvv]
   have x1:i*T.length≤60*60:=Nat.mul_le_mul (by omega) (by omega)
   have x2:i*m≤60*60:=Nat.mul_le_mul (by omega) (by omega)
   have m1:(i:Int)*(T.length:Int)=((i*T.length:Nat):Int):=(Int.natCast_mul _ _).symm
   have m2:(i:Int)*(m:Int)=((i*m:Nat):Int):=(Int.natCast_mul _ _).symm
   by_cases h6:v<0
   ·obtain ⟨k0,hk0⟩:∃ k0:Nat,v=wE k0:=⟨(-1-v).toNat,by unfold wE;omega⟩
    have hkm:k0<m:=by unfold wE at hk0;omega
    have st1:=hM_hit (T:=T) (w:=wE) (i:=i) (j:=j) h4 (wE_inj k0) (hvx.trans hk0)
    have st2:=hM_miss (T:=T) (w:=wM) (i:=i) (j:=j) h4 (fun k e=>by rw [hvx] at e;unfold wM at e;omega)
    rw [hhf] at st1
    obtain ⟨z,e1⟩:∃ z,i*m+k0=z:=⟨_,rfl⟩
    have a1:((i*m:Nat):Int)-1-v=(z:Int):=by unfold wE at hk0;omega
    have l1:=(mcells_get (r:=T.length) (c:=m) (hM T wE i j) h3 hkm).1
    have g1:=qget (hM T wE i j) h3 hkm e1
    have s1:=qset (hM T wE i j) (hM T wE i j i k0+hf) h3 hkm e1
    have hl:=qlen m T.length (hM T wE i j)
    have ca:PCall Tryz.prog 52 [.agg [.b (decide ((hM T wE i j i k0).num<0)),dg (digits (hM T wE i j i k0).num.natAbs),dg (digits (hM T wE i j i k0).den)],.agg [.b (decide (hf.num<0)),dg (digits hf.num.natAbs),dg (digits hf.den)]] (.agg [.b (decide ((hM T wE i j i k0+hf).num<0)),dg (digits (hM T wE i j i k0+hf).num.natAbs),dg (digits (hM T wE i j i k0+hf).den)]) []:=padd_ok (L:=1) (IsQ.of (hM_len ..)) (IsQ.of hfl) (by decide) (by omega)
    rw [e1] at l1
    rw [← st1] at s1
    rw [← st2]
    clear st1 st2 hk0 hvx hvv
    generalize hM T wE i j i k0+hf=q3 at *
    generalize hM T wE i j i k0=q1 at *
    obtain ⟨E2,hE2⟩:∃ q,hM T wE i (j+1)=q:=⟨_,rfl⟩
    obtain ⟨A2,hA2⟩:∃ q,hM T wM i (j+1)=q:=⟨_,rfl⟩
    rw [hE2] at s1
    rw [hA2]
    generalize hM T wE i j=E1 at *
    generalize i*m=p2 at *
    generalize i*T.length=p1 at *
    refine AX.sR (rgAV [2,4,7,8,9,11,60,61,62,67,68,69]) ?_
    refine AX.seq ?_
    refine AX.condT ?_
    refine AX.keepA [2,4,7,8,9,11,60,61,62,67,68] ?_
    refine AX.skip ?_
    refine nmZ ?_
    refine AX.seq ?_
    refine AX.block ?_
    refine AX.sR (rgEV [2,4,7,8,9,11,14,60,61,62,67,68] oT oT (aI k2 oT)) ?_
    refine AX.sR (rgAV [2,4,7,8,9,11,14,60,61,62,67,68,72]) ?_
    refine AX.condF ?_
    refine AX.rD (rgDWV [2,4,7,8,9,11,60,61,62,67,68] (aI @m2 (aI @a1 (aI @hl (aI @g1 (aI @s1 oT))))) (aI ca oT)) ?_
    refine nmZ ?_
    refine AX.rR (rgWV [2,4,7,8,9,11,60,61,62,67,68] (aI @lit_add oT) oT) ?_
    refine nmZ ?_
    subst hE2 hA2
    refine ⟨_,_,id,?_,
     leQ7
     , ⟨j+1,by omega,rfl,rfl⟩⟩
    omega
   ·obtain ⟨k0,hk0⟩:∃ k0:Nat,v=wM k0:=⟨v.toNat,by unfold wM;omega⟩
    have hkm:k0<T.length:=by unfold wM at hk0;omega
    have st1:=hM_hit (T:=T) (w:=wM) (i:=i) (j:=j) h4 (wM_inj k0) (hvx.trans hk0)
    have st2:=hM_miss (T:=T) (w:=wE) (i:=i) (j:=j) h4 (fun k e=>by rw [hvx] at e;unfold wE at e;omega)
    rw [hhf] at st1
    obtain ⟨z,e1⟩:∃ z,i*T.length+k0=z:=⟨_,rfl⟩
    have a1:((i*T.length:Nat):Int)+v=(z:Int):=by unfold wM at hk0;omega
    have l1:=(mcells_get (r:=T.length) (c:=T.length) (hM T wM i j) h3 hkm).1
    have g1:=qget (hM T wM i j) h3 hkm e1
    have s1:=qset (hM T wM i j) (hM T wM i j i k0+hf) h3 hkm e1
    have hl:=qlen T.length T.length (hM T wM i j)
    have ca:PCall Tryz.prog 52 [.agg [.b (decide ((hM T wM i j i k0).num<0)),dg (digits (hM T wM i j i k0).num.natAbs),dg (digits (hM T wM i j i k0).den)],.agg [.b (decide (hf.num<0)),dg (digits hf.num.natAbs),dg (digits hf.den)]] (.agg [.b (decide ((hM T wM i j i k0+hf).num<0)),dg (digits (hM T wM i j i k0+hf).num.natAbs),dg (digits (hM T wM i j i k0+hf).den)]) []:=padd_ok (L:=1) (IsQ.of (hM_len ..)) (IsQ.of hfl) (by decide) (by omega)
    rw [e1] at l1
    rw [← st1] at s1
    rw [← st2]
    clear st1 st2 hk0 hvx hvv
    generalize hM T wM i j i k0+hf=q3 at *
    generalize hM T wM i j i k0=q1 at *
    obtain ⟨E2,hE2⟩:∃ q,hM T wM i (j+1)=q:=⟨_,rfl⟩
    obtain ⟨A2,hA2⟩:∃ q,hM T wE i (j+1)=q:=⟨_,rfl⟩
    rw [hE2] at s1
    rw [hA2]
    generalize hM T wM i j=E1 at *
    generalize i*m=p2 at *
    generalize i*T.length=p1 at *
    refine AX.sR (rgAV [2,4,7,8,9,11,60,61,62,67,68,69]) ?_
    refine AX.seq ?_
    refine AX.condT ?_
    refine AX.keepA [2,4,7,8,9,11,60,61,62,67,68] ?_
    refine AX.skip ?_
    refine nmZ ?_
    refine AX.seq ?_
    refine AX.block ?_
    refine AX.sR (rgEV [2,4,7,8,9,11,14,60,61,62,67,68] oT oT (aI k2 oT)) ?_
    refine AX.sR (rgAV [2,4,7,8,9,11,14,60,61,62,67,68,72]) ?_
    refine AX.condT ?_
    refine AX.rD (rgDWV [2,4,7,8,9,11,60,61,62,67,68] (aI @m1 (aI @a1 (aI @hl (aI @g1 (aI @s1 oT))))) (aI ca oT)) ?_
    refine nmZ ?_
    refine AX.rR (rgWV [2,4,7,8,9,11,60,61,62,67,68] (aI @lit_add oT) oT) ?_
    refine nmZ ?_
    subst hE2 hA2
    refine ⟨_,_,id,?_,
     leQ7
     , ⟨j+1,by omega,rfl,rfl⟩⟩
    omega
  obtain rfl:j=2:=by omega
  rw [hM_two,hM_two]
  refine AX.sR (rgAV [2,4,7,8,9,11,60,61,62,67,68,69]) ?_
  refine AX.seq ?_
  refine AX.condF ?_
  refine AX.exit ?_
  refine nmZ ?_
  refine AX.rR (rgWV [2,4,7,8,9,60,61,62] (aI @lit_add oT) oT) ?_
  refine nmZ ?_
  refine ⟨_,_,id,?_,
   leQ7
   , ⟨i+1,by omega,rfl,rfl⟩⟩
  omega
 obtain rfl:T.length=i:=by omega
 refine AX.sR (rgAV [2,4,7,8,9,60,61,62,63]) ?_
 refine AX.seq ?_
 refine AX.condF ?_
 refine AX.exit ?_
 refine nmZ ?_
 refine AX.sR (rgAV [2,3]) ?_
 refine AX.ret ⟨.inl rfl,?_⟩
 exact Done.rchO rfl rfl rfl rfl rfl (mcells_length ..).symm (mcells_length ..).symm
set_option maxHeartbeats 16000000 in
theorem rmean_bad {T:T2} {e:Int} (he:e≠0) (cc:PCall Tryz.prog 20 [smp T] (.tup [zC,.i .i64 e]) []) :
  PCall Tryz.prog 24 [smp T] (.tup [zR,.i .i64 e]) []:=by
 refine PCall.of_ax Tryz.call24 Tryz.func24 rfl (by simp [Tryz.ntmps24]) fun O w=>?_
 simp only [Tryz.ntmps24,Tryz.results24,argFr]
 unfold smp zC at *
 generalize nx T=A at *
 refine AX.sR (rgAV [1,2]) ?_
 refine AX.sR (rgCV [1,2,4,5] (aI cc oT)) ?_
 refine AX.seq ?_
 refine AX.sR (rgAV [1,2,4,5,12]) ?_
 refine AX.condT ?_
 refine AX.sR (rgAV [2,3]) ?_
 refine AX.ret ⟨.inl rfl,?_⟩
 exact Done.cellZ rfl rfl rfl
set_option maxHeartbeats 16000000 in
theorem rspread_ok {T:T2} {n m:Nat} {a b:List V} {xs d:List Rat} {q:Rat} (hl:T.length=n) (cc:PCall Tryz.prog 20 [smp T] (.tup [.agg [.i .i64 n,.i .i64 n,.sl a,.i .i64 n,.i .i64 m,.sl b],.i .i64 0]) [])
  (cs:PCall Tryz.prog 56 [.i .i64 n] (.sl (xs.map rV)) [])
  (ct:PCall Tryz.prog 55 [.agg [.i .i64 n,.i .i64 n,.sl a,.i .i64 n,.i .i64 m,.sl b],.sl (xs.map rV)] (.tup [.sl (d.map rV),rV q,.i .i64 0]) []) :
  PCall Tryz.prog 22 [smp T] (.tup [.sl (d.map rV),rV q,.i .i64 0]) []:=by
 have hml:=(nx_length T).trans hl
 refine PCall.of_ax Tryz.call22 Tryz.func22 rfl (by simp [Tryz.ntmps22]) fun O w=>?_
 simp only [Tryz.ntmps22,Tryz.results22,argFr]
 unfold smp at *
 unfold rV rR at ct
 generalize nx T=A at *
 refine AX.sR (rgAV [1,3]) ?_
 refine AX.sR (rgCV [1,3,5,6] (aI cc oT)) ?_
 refine AX.seq ?_
 refine AX.sR (rgAV [1,3,5,6,13]) ?_
 refine AX.condF ?_
 refine AX.keepA [1,3,5] ?_
 refine AX.skip ?_
 refine nmZ ?_
 refine AX.sD (rgDWV [2,3,4] (aI @hml oT) (aI cs (aI ct oT))) ?_
 refine AX.ret ⟨.inl rfl,?_⟩
 exact Done.spO rfl rfl rfl rfl
set_option maxHeartbeats 16000000 in
theorem rspread_bad {T:T2} {e:Int} (he:e≠0) (cc:PCall Tryz.prog 20 [smp T] (.tup [zC,.i .i64 e]) []) :
  PCall Tryz.prog 22 [smp T] (.tup [.sl [],zR,.i .i64 e]) []:=by
 refine PCall.of_ax Tryz.call22 Tryz.func22 rfl (by simp [Tryz.ntmps22]) fun O w=>?_
 simp only [Tryz.ntmps22,Tryz.results22,argFr]
 unfold smp zC at *
 generalize nx T=A at *
 refine AX.sR (rgAV [1,3]) ?_
 refine AX.sR (rgCV [1,3,5,6] (aI cc oT)) ?_
 refine AX.seq ?_
 refine AX.sR (rgAV [1,3,5,6,13]) ?_
 refine AX.condT ?_
 refine AX.sR (rgAV [2,3,4]) ?_
 refine AX.ret ⟨.inl rfl,?_⟩
 exact Done.spN rfl rfl rfl rfl
set_option maxHeartbeats 8000000 in
theorem same29_ok (xs ys:List Rat) (L:Nat) (hx:∀ q ∈ xs,rL q≤L) (hy:∀ q ∈ ys,rL q≤L) (hL1:1≤L) (hL:L<2 ^ 33) (lx:xs.length<2 ^ 40) (ly:ys.length<2 ^ 40) :
  PCall Tryz.prog 26 [.sl (xs.map rV),.sl (ys.map rV)] (.b (decide (xs=ys))) []:=by
 refine PCall.of_ax Tryz.call26 Tryz.func26 rfl (by simp [Tryz.ntmps26]) fun O w0=>?_
 simp only [Tryz.ntmps26,Tryz.results26,argFr]
 have hmx:(xs.map rV).length=xs.length:=List.length_map ..
 have hmy:(ys.map rV).length=ys.length:=List.length_map ..
 have ixx:=fun (j:Nat) (h:j<xs.length)=>fun x y=>effIxQ (x:=x) (y:=y) h
 have ixy:=fun (j:Nat) (h:j<ys.length)=>fun x y=>effIxQ (x:=x) (y:=y) h
 refine AX.sR (rgAV [0,1]) ?_
 refine AX.seq ?_
 by_cases h3:xs.length=ys.length
 ·generalize hX:xs.map rV=X at *
  generalize hY:ys.map rV=Y at *
  refine AX.sR (rgWV [0,1,10] (aI @hmx (aI @hmy (aI @h3 oT))) oT) ?_
  refine AX.condF ?_
  refine AX.keepA [0,1] ?_
  refine AX.skip ?_
  refine nmZ ?_
  refine AX.seq ?_
  refine AX.sR (rgWV [0,1,12,13] (aI @hmx oT) oT) ?_
  refine AX.weaken id (st':=⟨[(13,.i .i64 (0:Nat)),(12,.i .i64 xs.length),(1,.sl Y),(0,.sl X)],[],0⟩)
   leQ7
   ?_
  refine AX.block ?_
  refine AX.loop (fun n st=>∃ i:Nat,i≤xs.length∧n=xs.length-i∧(∀ j,j<i→xs.getD j 0=ys.getD j 0)∧st=⟨[(13,.i .i64 i),(12,.i .i64 xs.length),(1,.sl Y),(0,.sl X)],[],0⟩) xs.length ⟨0,Nat.zero_le _,rfl,fun j hj=>absurd hj (Nat.not_lt_zero j),rfl⟩ ?_
  rintro n st ⟨i,hi,rfl,hij,rfl⟩
  by_cases h:i<xs.length
  ·have hxi:=hx (xs.getD i 0) (by rw [List.getD_eq_getElem?_getD,List.getElem?_eq_getElem h];exact List.getElem_mem _)
   have hyi:=hy (ys.getD i 0) (by rw [List.getD_eq_getElem?_getD,List.getElem?_eq_getElem (h3 ▸ h)];exact List.getElem_mem _)
   have ix1:=ixx i h
   have ix2:=ixy i (h3 ▸ h)
   have cp:PCall Tryz.prog 27 [.agg [.b (decide ((xs.getD i 0).num<0)),dg (digits (xs.getD i 0).num.natAbs),dg (digits (xs.getD i 0).den)],.agg [.b (decide ((ys.getD i 0).num<0)),dg (digits (ys.getD i 0).num.natAbs),dg (digits (ys.getD i 0).den)]] (.b (decide (xs.getD i 0=ys.getD i 0))) []:=psame_ok (IsQ.of hxi) (IsQ.of hyi) (by omega) hL1
   by_cases he:xs.getD i 0=ys.getD i 0
   ·rw [decide_eq_true he] at cp
    have hnext:∀ j,j<i+1→xs.getD j 0=ys.getD j 0:=by
     intro j hj
     by_cases e:j=i
     ·subst e;exact he
     ·exact hij j (by omega)
    clear he
    generalize xs.getD i 0=a at ix1 cp
    generalize ys.getD i 0=b at ix2 cp
    refine AX.sR (rgAV [0,1,12,13,14]) ?_
    refine AX.seq ?_
    refine AX.condT ?_
    refine AX.keepA [0,1,12,13] ?_
    refine AX.skip ?_
    refine nmZ ?_
    refine AX.seq ?_
    refine AX.block ?_
    refine AX.sR (rgAV [0,1,5,12,13]) ?_
    refine AX.sD (rgDEV [0,1,12,13,25] oT (aI cp oT) (aI ix1 (aI ix2 oT))) ?_
    refine AX.condF ?_
    refine AX.keepA [0,1,12,13] ?_
    refine AX.skip ?_
    refine nmZ ?_
    refine AX.rR (rgWV [0,1,12,13] (aI @lit_add oT) oT) ?_
    refine nmZ ?_
    refine ⟨_,_,id,?_,
     leQ7
     , ⟨i+1,by omega,rfl,hnext,rfl⟩⟩
    omega
   ·rw [decide_eq_false he] at cp
    have hne:xs≠ys:=fun e=>he (by rw [e])
    rw [decide_eq_false hne]
    clear he
    generalize xs.getD i 0=a at ix1 cp
    generalize ys.getD i 0=b at ix2 cp
    refine AX.sR (rgAV [0,1,12,13,14]) ?_
    refine AX.seq ?_
    refine AX.condT ?_
    refine AX.keepA [0,1,12,13] ?_
    refine AX.skip ?_
    refine nmZ ?_
    refine AX.seq ?_
    refine AX.block ?_
    refine AX.sR (rgAV [0,1,5,12,13]) ?_
    refine AX.sD (rgDEV [0,1,12,13,25] oT (aI cp oT) (aI ix1 (aI ix2 oT))) ?_
    refine AX.condT ?_
    refine AX.sR (rgAV [4]) ?_
    refine AX.ret ⟨.inl rfl,?_⟩
    exact Done.one rfl rfl rfl rfl
  ·have e:xs=ys:=by
    apply List.ext_getElem h3
    intro j hj hj'
    have:=hij j (by omega)
    simpa [List.getD_eq_getElem?_getD,hj,hj'] using this
   rw [decide_eq_true e]
   refine AX.sR (rgAV [0,1,12,13,14]) ?_
   refine AX.seq ?_
   refine AX.condF ?_
   refine AX.exit ?_
   refine nmZ ?_
   refine AX.sR (rgAV [4]) ?_
   refine AX.ret ⟨.inl rfl,?_⟩
   exact Done.one rfl rfl rfl rfl
 ·rw [decide_eq_false (fun h=>h3 (by rw [h]))]
  generalize xs.map rV=X at *
  generalize ys.map rV=Y at *
  refine AX.sR (rgWV [0,1,10] (aI @hmx (aI @hmy oT)) oT) ?_
  refine AX.condT ?_
  refine AX.sR (rgAV [4]) ?_
  refine AX.ret ⟨.inl rfl,?_⟩
  exact Done.one rfl rfl rfl rfl
set_option maxHeartbeats 4000000 in
theorem rstart_ok (n:Nat)(hn1:1≤n)(hn:n≤60):PCall Tryz.prog 56 [.i .i64 n] (.sl ((vl n e1).map rV)) []:=by
 have cz:PCall Tryz.prog 30 [] (.agg [.b (decide ((0:Rat).num<0)),dg (digits (0:Rat).num.natAbs),dg (digits (0:Rat).den)]) []:=pzero_ok
 have co:PCall Tryz.prog 31 [] (.agg [.b (decide ((1:Rat).num<0)),dg (digits (1:Rat).num.natAbs),dg (digits (1:Rat).den)]) []:=pone_ok
 refine PCall.of_ax Tryz.call56 Tryz.func56 rfl (by simp [Tryz.ntmps56]) fun O w=>?_
 simp only [Tryz.ntmps56,Tryz.results56,argFr]
 have hv1:qrow [(1:Rat)]=[.b (decide ((1:Rat).num<0)),dg (digits (1:Rat).num.natAbs),dg (digits (1:Rat).den)]:=rfl
 refine AX.sR (rgAV [0]) ?_
 refine AX.sR (rgWV [0,3] (aI @zerosV_1 (aI @tkS (aI @tk0 oT))) (aI co oT)) ?_
 refine AX.seq ?_
 refine AX.weaken id (st':=⟨[(3,.own 0 0 1 3),(0,.i .i64 n)],[(0,⟨54,qrow [1]⟩)],1⟩)
  (leQ7H hv1)
  ?_
 refine AX.block ?_
 refine AX.loop (fun N st=>∃ (j:Nat) (xs:List Rat),1≤j∧j≤n∧N=n-j∧xs=vl j e1∧st=⟨[(3,.own 0 0 j 3),(0,.i .i64 n)],[(0,⟨54,qrow xs⟩)],1⟩) (n-1) ⟨1,[1],Nat.le_refl _,hn1,rfl,rfl,rfl⟩ ?_
 rintro N st ⟨j,xs,hj1,hj,rfl,hxs,rfl⟩
 by_cases h1:j<n
 ·have hlen:(qrow xs).length=j*3:=by rw [qrow_length,hxs,vl_length]
  have e0:e1 j=0:=by unfold e1;rw [if_neg (by omega)]
  have hrow:qrow xs++[.b (decide ((0:Rat).num<0)),dg (digits (0:Rat).num.natAbs),dg (digits (0:Rat).den)]=qrow (vl (j+1) e1):=by
   rw [vl_succ,qrow_app,hxs,e0]
   rfl
  obtain ⟨ys,hys⟩:∃ ys,(vl (j+1) e1)=ys:=⟨_,rfl⟩
  rw [hys] at hrow
  refine AX.seq ?_
  refine AX.sR (rgAV [0,3,9]) ?_
  refine AX.condT ?_
  refine AX.keepA [0,3] ?_
  refine AX.skip ?_
  refine nmZ ?_
  refine AX.block ?_
  refine AX.rR (rgWV [0,3] (aI @hlen (aI @zerosV_1 (aI @tkS (aI @tk0 oT)))) (aI cz oT)) ?_
  refine nmZ ?_
  rw [hrow]
  refine ⟨_,_,fun n=>if n=0 then 2 else n,?_,
   leQ7
   , ⟨j+1,ys,by omega,by omega,rfl,hys.symm,rfl⟩⟩
  omega
 ·have e:j=n:=by omega
  subst e
  refine AX.seq ?_
  refine AX.sR (rgAV [0,3,9]) ?_
  refine AX.condF ?_
  refine AX.exit ?_
  refine nmZ ?_
  refine AX.sR (rgAV [2]) ?_
  refine AX.ret ⟨.inl rfl,?_⟩
  rw [← hxs]
  exact Done.slQ rfl rfl (by rw [hxs,vl_length])
theorem Lift.Done.smpO1 {st:St} {a:Tmp} {h g k:Nat} {T T':TypeId} {S:T2} (h1:lkp st.fr a=some (.ptr h 0))(h2:lkp st.hp h=some ⟨T,[.own g 0 k 2]⟩)(h3:lkp st.hp g=some ⟨T',wl (fl S)⟩)(hk:k=S.length):Done Tryz.prog #[.cell a 25] (.agg [.sl (nx S)]) [] st:=by
 subst hk
 have e1:List.take (S.length*2) (List.drop 0 (wl (fl S)))=wl (fl S):=by rw [List.drop_zero];exact List.take_of_length_le (by rw [wlfl_length];exact Nat.le_refl _)
 refine Done.of (vs:=[.agg [.own g 0 S.length 2]]) (hp:=dlt st.hp g) ?_ ?_ rfl ?_ ?_
 ·simp only [resVs,resV,h1,h2,co_lay_smp];rfl
 ·simp only [packV,frz,frzL,h3,List.not_mem_nil,if_false,Nat.zero_add,wlfl_length,Nat.le_refl,e1,(wl_hf (fl S)).1,(wl_hf (fl S)).2,and_self,if_true,Nat.zero_lt_succ,Nat.lt_succ_self,true_and,chunks2]
 ·rfl
 ·rfl
theorem Lift.Done.smpN1 {st:St} {a:Tmp} {h:Nat} {T:TypeId} (h1:lkp st.fr a=some (.ptr h 0))(h2:lkp st.hp h=some ⟨T,[.nl]⟩):Done Tryz.prog #[.cell a 25] (.agg [.sl []]) [] st:=by
 refine Done.of (vs:=[.agg [.nl]]) (hp:=st.hp) ?_ rfl rfl rfl rfl
 simp only [resVs,resV,h1,h2,co_lay_smp];rfl
def cut9 (x:Int):Int:=if 9≤x then 0 else x
def cutT (T:T2):T2:=(T.take 9).map fun x=>(cut9 x.1,cut9 x.2)
def fewT (T:T2):T2:=if 100<T.length then [] else if isS T=false∨T.length≤9 then T else cutT T
theorem cutT_length {T:T2} (h:9≤T.length):(cutT T).length=9:=by unfold cutT;rw [List.length_map,List.length_take];omega
theorem cut9_bd {x:Int} (h:-64≤x):-64≤cut9 x∧cut9 x<9:=by unfold cut9;split<;>omega
theorem cutT_is {T:T2} (h:9≤T.length)(hr:∀ x ∈ T,(-64≤x.1∧x.1<T.length)∧-64≤x.2∧x.2<T.length):isS (cutT T)=true:=by
 have hl:=cutT_length h
 refine isS_iff.2 ⟨by omega,by omega,fun x hx=>?_⟩
 obtain ⟨y,hy,rfl⟩:=List.mem_map.1 hx
 have:=hr y (List.mem_of_mem_take hy)
 have h1:=cut9_bd this.1.1
 have h2:=cut9_bd this.2.1
 rw [hl]
 exact ⟨⟨h1.1,by show cut9 y.1 < _;omega⟩,h2.1,by show cut9 y.2 < _;omega⟩
theorem fewT_is (T:T2):isS (fewT T)=false∨(isS (fewT T)=true∧(fewT T).length≤9):=by
 unfold fewT
 by_cases h:100<T.length
 ·rw [if_pos h]
  exact .inl (by decide +kernel)
 rw [if_neg h]
 cases hS:isS T
 ·rw [if_pos (.inl rfl)]
  exact .inl hS
 ·by_cases h9:T.length≤9
  ·rw [if_pos (.inr h9)]
   exact .inr ⟨hS,h9⟩
  ·rw [if_neg (by simp [h9])]
   exact .inr ⟨cutT_is (by omega) (isS_iff.1 hS).2.2,by rw [cutT_length (by omega)];decide⟩
theorem fewT_bd {T:T2} (hb:bT T)(hl:T.length<2 ^ 62):bT (fewT T)∧(fewT T).length<2 ^ 62:=by
 unfold fewT
 by_cases h:100<T.length
 ·rw [if_pos h]
  exact ⟨fun x hx=>(nomatch hx),by decide⟩
 rw [if_neg h]
 split
 ·exact ⟨hb,hl⟩
 ·refine ⟨fun x hx=>?_,?_⟩
  ·obtain ⟨y,hy,rfl⟩:=List.mem_map.1 hx
   have h1:=hb y (List.mem_of_mem_take hy)
   have k:∀ z:Int,(-9223372036854775808≤z∧z≤9223372036854775807)→(-9223372036854775808≤cut9 z∧cut9 z≤9223372036854775807):=fun z hz=>by unfold cut9;split<;>omega
   exact ⟨k _ h1.1,k _ h1.2⟩
  ·unfold cutT
   rw [List.length_map,List.length_take]
   omega
set_option maxHeartbeats 16000000 in
theorem few29_ok (T:T2)(hl:T.length<2 ^ 62)(hb:bT T):PCall Tryz.prog 18 [smp T] (smp (fewT T)) []:=by
 have c0:=of29_ok (nx T)
 have c1:=right29_ok T hl hb
 have hml:=nx_length T
 refine PCall.of_ax Tryz.call18 Tryz.func18 rfl (by simp [Tryz.ntmps18]) fun O w=>?_
 simp only [Tryz.ntmps18,Tryz.results18,argFr]
 unfold fewT
 by_cases h1:100<T.length
 ·rw [if_pos h1]
  unfold smp at *
  generalize nx T=A at *
  refine AX.sR (rgAV [1,2]) ?_
  refine AX.seq ?_
  refine AX.sR (rgWV [1,2,10] (aI @hml oT) oT) ?_
  refine AX.condT ?_
  refine AX.sR (rgAV [2]) ?_
  refine AX.ret ⟨.inl rfl,?_⟩
  exact Done.smpN1 rfl rfl
 rw [if_neg h1]
 cases hS:isS T
 ·rw [if_pos (.inl rfl)]
  rw [hS] at c1
  unfold smp at *
  generalize nx T=A at *
  refine AX.sR (rgAV [1,2]) ?_
  refine AX.seq ?_
  refine AX.sR (rgWV [1,2,10] (aI @hml oT) oT) ?_
  refine AX.condF ?_
  refine AX.keepA [1,2] ?_
  refine AX.skip ?_
  refine nmZ ?_
  refine AX.seq ?_
  refine AX.sR (rgWV [1,2,21] (aI @hml oT) (aI c0 (aI c1 oT))) ?_
  refine AX.condT ?_
  refine AX.sR (rgAV [2]) ?_
  refine AX.ret ⟨.inl rfl,?_⟩
  exact Done.smp rfl rfl
 rw [hS] at c1
 by_cases h9:T.length≤9
 ·rw [if_pos (.inr h9)]
  unfold smp at *
  generalize nx T=A at *
  refine AX.sR (rgAV [1,2]) ?_
  refine AX.seq ?_
  refine AX.sR (rgWV [1,2,10] (aI @hml oT) oT) ?_
  refine AX.condF ?_
  refine AX.keepA [1,2] ?_
  refine AX.skip ?_
  refine nmZ ?_
  refine AX.seq ?_
  refine AX.sR (rgWV [1,2,21] (aI @hml oT) (aI c0 (aI c1 oT))) ?_
  refine AX.condT ?_
  refine AX.sR (rgAV [2]) ?_
  refine AX.ret ⟨.inl rfl,?_⟩
  exact Done.smp rfl rfl
 rw [if_neg (by simp [h9])]
 have hr:=(isS_iff.1 hS).2.2
 unfold smp at *
 refine AX.sR (rgAV [1,2]) ?_
 refine AX.seq ?_
 refine AX.sR (rgWV [1,2,10] (aI @hml oT) oT) ?_
 refine AX.condF ?_
 refine AX.keepA [1,2] ?_
 refine AX.skip ?_
 refine nmZ ?_
 refine AX.seq ?_
 refine AX.sR (rgWV [1,2,21] (aI @hml oT) (aI c0 (aI c1 oT))) ?_
 refine AX.condF ?_
 refine AX.keepA [1,2] ?_
 refine AX.skip ?_
 refine nmZ ?_
 refine AX.sR (rgAV [1,2,3]) ?_
 refine AX.own0c 2 0 64 2 rfl rfl (by show 0<1;decide) ?_
 refine AX.seq ?_
 refine AX.sR (rgAV [1,2,3,4]) ?_
 refine AX.weaken id (st':=⟨[(4,.i .i64 (0:Nat)),(3,.ptr 2 0),(2,.ptr 1 0),(1,.ptr 0 0)],[(3,⟨64,wl (fl ([]:T2))⟩),(2,⟨25,[.own 3 0 ([]:T2).length 2]⟩),(1,⟨25,[.nl]⟩),(0,⟨25,[.sl (nx T)]⟩)],4⟩)
  leQ7
  ?_
 refine AX.block ?_
 refine AX.loop (fun N st=>∃ (i:Nat) (S:T2),i≤9∧N=9-i∧(T.take i).map (fun x=>(cut9 x.1,cut9 x.2))=S∧st=⟨[(4,.i .i64 i),(3,.ptr 2 0),(2,.ptr 1 0),(1,.ptr 0 0)],[(3,⟨64,wl (fl S)⟩),(2,⟨25,[.own 3 0 S.length 2]⟩),(1,⟨25,[.nl]⟩),(0,⟨25,[.sl (nx T)]⟩)],4⟩) 9 ⟨0,[],Nat.zero_le _,rfl,rfl,rfl⟩ ?_
 rintro N st ⟨i,S,hi,rfl,hSi,rfl⟩
 by_cases h3:i<9
 ·have hix:=fun x y=>effIx2 (x:=x) (y:=y) (els:=nx T) (j:=i) (by omega) (nx_get (by omega))
  have hrx:=hr _ (getD_mem_T (show i<T.length by omega))
  have lS:S.length=i:=by rw [← hSi,List.length_map,List.length_take];omega
  have s1:(T.take (i+1)).map (fun x=>(cut9 x.1,cut9 x.2))=S++[(cut9 (T.getD i z2).1,cut9 (T.getD i z2).2)]:=by
   rw [← hSi,List.take_succ_eq_append_getElem (by omega),List.map_append]
   have e:T.getD i z2=T[i]:=by rw [List.getD_eq_getElem?_getD,List.getElem?_eq_getElem (by omega)];rfl
   rw [e]
   rfl
  generalize T.getD i z2=x at *
  obtain ⟨a,b⟩:=x
  dsimp only at hix hrx s1
  generalize nx T=A at *
  refine AX.seq ?_
  refine AX.sR (rgAV [1,2,3,4,24]) ?_
  refine AX.condT ?_
  refine AX.keepA [1,2,3,4] ?_
  refine AX.skip ?_
  refine nmZ ?_
  refine AX.seq ?_
  refine AX.block ?_
  refine AX.sR (rgEV [1,2,3,4,5] oT oT (aI hix oT)) ?_
  refine AX.seq ?_
  refine AX.sR (rgAV [1,2,3,4,5,6]) ?_
  refine AX.weaken id (st':=⟨[(6,.i .i64 (0:Nat)),(5,.ptr 4 0),(4,.i .i64 i),(3,.ptr 2 0),(2,.ptr 1 0),(1,.ptr 0 0)],[(4,⟨64,[.i .i64 a,.i .i64 b]⟩),(3,⟨64,wl (fl S)⟩),(2,⟨25,[.own 3 0 S.length 2]⟩),(1,⟨25,[.nl]⟩),(0,⟨25,[.sl A]⟩)],5⟩)
   leQ7
   ?_
  refine AX.block ?_
  refine AX.loop (fun N st=>∃ (j:Nat) (p q:Int),j≤2∧N=2-j∧((j=0∧p=a∧q=b)∨(j=1∧p=cut9 a∧q=b)∨(j=2∧p=cut9 a∧q=cut9 b))∧st=⟨[(6,.i .i64 j),(5,.ptr 4 0),(4,.i .i64 i),(3,.ptr 2 0),(2,.ptr 1 0),(1,.ptr 0 0)],[(4,⟨64,[.i .i64 p,.i .i64 q]⟩),(3,⟨64,wl (fl S)⟩),(2,⟨25,[.own 3 0 S.length 2]⟩),(1,⟨25,[.nl]⟩),(0,⟨25,[.sl A]⟩)],5⟩) 2 ⟨0,a,b,Nat.zero_le _,rfl,.inl ⟨rfl,rfl,rfl⟩,rfl⟩ ?_
  rintro N st ⟨j,p,q,hj,rfl,hc,rfl⟩
  rcases hc with ⟨rfl,rfl,rfl⟩ | ⟨rfl,hp,rfl⟩ | ⟨rfl,hp,hq⟩
  ·refine AX.seq ?_
   refine AX.sR (rgAV [1,2,3,4,5,6,33]) ?_
   refine AX.condT ?_
   refine AX.keepA [1,2,3,4,5,6] ?_
   refine AX.skip ?_
   refine nmZ ?_
   refine AX.seq ?_
   refine AX.block ?_
   by_cases h5:9≤p
   ·have e:0=cut9 p:=by unfold cut9;rw [if_pos h5]
    refine AX.sR (rgAV [1,2,3,4,5,6,39]) ?_
    refine AX.condT ?_
    refine AX.rR (rgAV [1,2,3,4,5,6]) ?_
    refine nmZ ?_
    refine AX.rR (rgWV [1,2,3,4,5,6] (aI @lit_add oT) oT) ?_
    refine nmZ ?_
    refine ⟨_,_,id,?_,
     leQ7
     , ⟨1,0,q,by omega,rfl,.inr (.inl ⟨rfl,e,rfl⟩),rfl⟩⟩
    omega
   ·have e:p=cut9 p:=by unfold cut9;rw [if_neg h5]
    refine AX.sR (rgAV [1,2,3,4,5,6,39]) ?_
    refine AX.condF ?_
    refine AX.keepA [1,2,3,4,5,6] ?_
    refine AX.skip ?_
    refine nmZ ?_
    refine AX.rR (rgWV [1,2,3,4,5,6] (aI @lit_add oT) oT) ?_
    refine nmZ ?_
    refine ⟨_,_,id,?_,
     leQ7
     , ⟨1,p,q,by omega,rfl,.inr (.inl ⟨rfl,e,rfl⟩),rfl⟩⟩
    omega
  ·refine AX.seq ?_
   refine AX.sR (rgAV [1,2,3,4,5,6,33]) ?_
   refine AX.condT ?_
   refine AX.keepA [1,2,3,4,5,6] ?_
   refine AX.skip ?_
   refine nmZ ?_
   refine AX.seq ?_
   refine AX.block ?_
   by_cases h5:9≤q
   ·have e:0=cut9 q:=by unfold cut9;rw [if_pos h5]
    refine AX.sR (rgAV [1,2,3,4,5,6,39]) ?_
    refine AX.condT ?_
    refine AX.rR (rgAV [1,2,3,4,5,6]) ?_
    refine nmZ ?_
    refine AX.rR (rgWV [1,2,3,4,5,6] (aI @lit_add oT) oT) ?_
    refine nmZ ?_
    refine ⟨_,_,id,?_,
     leQ7
     , ⟨2,p,0,by omega,rfl,.inr (.inr ⟨rfl,hp,e⟩),rfl⟩⟩
    omega
   ·have e:q=cut9 q:=by unfold cut9;rw [if_neg h5]
    refine AX.sR (rgAV [1,2,3,4,5,6,39]) ?_
    refine AX.condF ?_
    refine AX.keepA [1,2,3,4,5,6] ?_
    refine AX.skip ?_
    refine nmZ ?_
    refine AX.rR (rgWV [1,2,3,4,5,6] (aI @lit_add oT) oT) ?_
    refine nmZ ?_
    refine ⟨_,_,id,?_,
     leQ7
     , ⟨2,p,q,by omega,rfl,.inr (.inr ⟨rfl,hp,e⟩),rfl⟩⟩
    omega
  ·subst hp hq
   have hwf:=wlfl_length S
   have happ:=wl_fl S (cut9 a) (cut9 b)
   have hlen:(S++[(cut9 a,cut9 b)]).length=S.length+1:=by simp
   generalize cut9 a=p at *
   generalize cut9 b=q at *
   generalize S++[(p,q)]=S2 at *
   refine AX.seq ?_
   refine AX.sR (rgAV [1,2,3,4,5,6,33]) ?_
   refine AX.condF ?_
   refine AX.exit ?_
   refine nmZ ?_
   refine AX.rR (rgEV [1,2,3,4] (aI @hwf (aI @zerosV_1 (aI @tkS (aI @tk0 oT)))) oT (aI (effBs2 _) oT)) ?_
   refine nmZ ?_
   rw [happ]
   refine AX.rR (rgWV [1,2,3,4] (aI @lit_add oT) oT) ?_
   refine nmZ ?_
   refine ⟨_,_,fun n=>if n=3 then 6 else n,?_,
    (leQ7H hlen)
    , ⟨i+1,S2,by omega,rfl,s1,rfl⟩⟩
   omega
 obtain rfl:i=9:=by omega
 refine AX.seq ?_
 refine AX.sR (rgAV [1,2,3,4,24]) ?_
 refine AX.condF ?_
 refine AX.exit ?_
 refine nmZ ?_
 refine AX.sR (rgAV [2]) ?_
 refine AX.ret ⟨.inl rfl,?_⟩
 have e:cutT T=S:=hSi
 rw [e]
 exact Done.smpO1 rfl rfl rfl rfl
theorem sumN_hit0 {v:Int} {w:Nat→Int}:∀ n,(∀ k,k<n→v≠w k)→sumN n (fun k=>((hit v (w k):Nat):Rat))=0
 | 0,_=>rfl
 | n+1,h=>by
  show sumN n (fun k=>((hit v (w k):Nat):Rat))+((hit v (w n):Nat):Rat)=0
  rw [sumN_hit0 n fun k hk=>h k (by omega),show hit v (w n)=0 from if_neg (h n (by omega))]
  decide +kernel
theorem sumN_hit1 {w:Nat→Int} {k0:Nat} (hw:∀ k,w k=w k0→k=k0):∀ n,k0<n→sumN n (fun k=>((hit (w k0) (w k):Nat):Rat))=1
 | n+1,h=>by
  show sumN n (fun k=>((hit (w k0) (w k):Nat):Rat))+((hit (w k0) (w n):Nat):Rat)=1
  by_cases e:k0=n
  ·subst e
   rw [sumN_hit0 k0 fun k hk e=>by have:=hw k e.symm;omega,show hit (w k0) (w k0)=1 from if_pos rfl]
   decide +kernel
  ·rw [sumN_hit1 hw n (by omega),show hit (w k0) (w n)=0 from if_neg fun h=>e (hw n h.symm).symm]
   decide +kernel
theorem hit_sum {v:Int} {n m:Nat} (h1:v<n)(h2:-v≤m):sumN n (fun k=>((hit v (wM k):Nat):Rat))+sumN m (fun k=>((hit v (wE k):Nat):Rat))=1:=by
 by_cases h:v<0
 ·obtain ⟨k0,rfl⟩:∃ k0:Nat,v=wE k0:=⟨(-1-v).toNat,by unfold wE;omega⟩
  rw [sumN_hit0 n fun k _ e=>by unfold wM wE at e;omega,sumN_hit1 (wE_inj k0) m (by unfold wE at h2;omega)]
  decide +kernel
 ·obtain ⟨k0,rfl⟩:∃ k0:Nat,v=wM k0:=⟨v.toNat,by unfold wM;omega⟩
  rw [sumN_hit1 (wM_inj k0) n (by unfold wM at h1;omega),sumN_hit0 m fun k _ e=>by unfold wM wE at e;omega]
  decide +kernel
theorem cnt_full {T:T2} {w:Nat→Int} {a k:Nat} (h:a<T.length):cnt T w T.length 0 a k=hit (T.getD a z2).1 (w k)+hit (T.getD a z2).2 (w k):=by
 unfold cnt
 rw [if_pos (.inl h),if_pos (.inl h)]
theorem hM_row {T:T2} {w:Nat→Int} {a n:Nat} (h:a<T.length):sumN n (hM T w T.length 0 a)=(sumN n (fun k=>((hit (T.getD a z2).1 (w k):Nat):Rat))+sumN n (fun k=>((hit (T.getD a z2).2 (w k):Nat):Rat)))*(1 / 2):=by
 rw [← sumN_add,← sumN_mulr]
 refine sumN_congr fun k _=>?_
 show ((cnt T w T.length 0 a k:Nat):Rat) / 2=_
 rw [cnt_full h]
 push_cast
 grind
theorem hM_nonneg (T:T2)(w:Nat→Int)(i j a k:Nat):0≤hM T w i j a k:=by
 have h:=cnt_le T w i j a k
 unfold hM
 generalize cnt T w i j a k=c at *
 match c,h with
 | 0,_=>decide +kernel
 | 1,_=>decide +kernel
 | 2,_=>decide +kernel
theorem chain_isC {T:T2} {m:Nat} (hr:∀ x ∈ T,(-64≤x.1∧x.1<T.length)∧-64≤x.2∧x.2<T.length)(hm:∀ i,i<T.length→-(T.getD i z2).1≤m∧-(T.getD i z2).2≤m):isC T.length m (chA T) (chB T)=true:=by
 unfold isC
 rw [decide_eq_true_eq]
 intro i hi
 refine ⟨fun k _=>hM_nonneg ..,fun k _=>hM_nonneg ..,?_⟩
 have e1:sumN T.length (chA T i)=_:=hM_row (w:=wM) (n:=T.length) hi
 have e2:sumN m (chB T i)=_:=hM_row (w:=wE) (n:=m) hi
 rw [e1,e2]
 have hx:=hr _ (getD_mem_T hi)
 have hy:=hm i hi
 have s1:=hit_sum (n:=T.length) (m:=m) hx.1.2 hy.1
 have s2:=hit_sum (n:=T.length) (m:=m) hx.2.2 hy.2
 grind
theorem sm9_of {T:T2} (hS:isS T=true)(h9:T.length≤9) {m:Nat} (hm60:¬ 60<exI T T.length)(hmx:exT T=m):Sm9 T.length m (chA T) (chB T) e1:=by
 have hr:=(isS_iff.1 hS).2.2
 have hex:=exI_bd hr T.length (Nat.le_refl _)
 have hmI:exI T T.length=(m:Int):=by rw [← hmx];unfold exT;omega
 have hge:=exI_ge T T.length
 rw [hmI] at hge hm60
 exact ⟨h9,by omega,fun i k _ _=>hM_len ..,fun i k _ _=>hM_len ..,chain_isC hr hge,fun i _=>by unfold e1;split<;>decide,fun i _=>by unfold e1;split<;>decide +kernel⟩
set_option maxHeartbeats 16000000 in
theorem cchain_limit (T:T2)(hS:isS T=true)(hm60:60<exI T T.length):PCall Tryz.prog 19 [smp T] (.tup [zC,.i .i64 2]) []:=by
 obtain ⟨n1,n2,hr⟩:=isS_iff.1 hS
 have hb:bT T:=fun x hx=>by have:=hr x hx;omega
 have c1:=cright_smp T (by omega) hb
 rw [hS] at c1
 have hml:=nx_length T
 have hex:=exI_bd hr
 obtain ⟨m,hmx⟩:∃ m,exT T=m:=⟨_,rfl⟩
 have hmI:exI T T.length=(m:Int):=by have:=hex T.length (Nat.le_refl _);rw [← hmx];unfold exT;omega
 have hge:=exI_ge T T.length
 rw [hmI] at hge hm60
 refine PCall.of_ax Tryz.call19 Tryz.func19 rfl (by simp [Tryz.ntmps19]) fun O w=>?_
 simp only [Tryz.ntmps19,Tryz.results19,argFr]
 unfold smp at *
 refine AX.sR (rgAV [1,2]) ?_
 refine AX.seq ?_
 refine AX.sR (rgCV [1,2,19] (aI c1 oT)) ?_
 refine AX.condF ?_
 refine AX.keepA [1,2] ?_
 refine AX.skip ?_
 refine nmZ ?_
 clear c1
 refine AX.sR (rgWV [1,2,4,5] (aI @hml oT) oT) ?_
 refine AX.seq ?_
 refine AX.sR (rgWV [1,2,4,5,25,26,27] (aI @hml oT) oT) ?_
 refine AX.weaken id (st':=⟨[(27,.i .i64 (0:Nat)),(26,.i .i64 T.length),(25,.sl (nx T)),(5,.i .i64 0),(4,.i .i64 T.length),(2,.ptr 1 0),(1,.ptr 0 0)],[(1,⟨43,[.i .i64 0,.i .i64 0,.nl,.i .i64 0,.i .i64 0,.nl]⟩),(0,⟨25,[.sl (nx T)]⟩)],2⟩)
  leQ7
  ?_
 refine AX.block ?_
 refine AX.loop (fun N st=>∃ (i:Nat) (s:Int),i≤T.length∧N=T.length-i∧exI T i=s∧st=⟨[(27,.i .i64 i),(26,.i .i64 T.length),(25,.sl (nx T)),(5,.i .i64 s),(4,.i .i64 T.length),(2,.ptr 1 0),(1,.ptr 0 0)],[(1,⟨43,[.i .i64 0,.i .i64 0,.nl,.i .i64 0,.i .i64 0,.nl]⟩),(0,⟨25,[.sl (nx T)]⟩)],2⟩) T.length ⟨0,0,Nat.zero_le _,rfl,rfl,rfl⟩ ?_
 rintro N st ⟨i,s,hi,rfl,hs,rfl⟩
 by_cases h3:i<T.length
 ·have hix:=fun x y=>effIx2 (x:=x) (y:=y) (els:=nx T) (j:=i) (by omega) (nx_get h3)
  have hrx:=hr _ (getD_mem_T h3)
  have s1:exI T (i+1)=mx3 s (T.getD i z2).1 (T.getD i z2).2:=by rw [exI,hs]
  have hsb:=hex i hi
  rw [hs] at hsb
  generalize T.getD i z2=x at *
  obtain ⟨a,b⟩:=x
  dsimp only at hix hrx s1
  have k1:(if 0-b > (if 0-a > s then 0-a else s) then 0-b else (if 0-a > s then 0-a else s))=mx3 s a b:=by unfold mx3;simp only [Int.zero_sub]
  generalize nx T=A at *
  refine AX.sR (rgAV [1,2,4,5,25,26,27,28]) ?_
  refine AX.seq ?_
  refine AX.condT ?_
  refine AX.keepA [1,2,4,5,25,26,27] ?_
  refine AX.skip ?_
  refine nmZ ?_
  refine AX.seq ?_
  refine AX.block ?_
  refine AX.sR (rgEV [1,2,4,5,7,25,26,27] oT oT (aI hix oT)) ?_
  apply AX.reg [1,2,4,5,25,26,27] (by simp only [pq];rfl)
  ·repeat (first
  |(apply RunO.op rfl;· rfl
    ·(simp only [opsOf,valsOf,valOf,lkp,ofConst,ofCell,Array.toList,Option.toList,List.map_cons,List.map_nil,List.cons_append,List.nil_append,List.append_nil,Nat.reduceEqDiff,Nat.reducePow,Nat.reduceLT,Nat.reduceLeDiff,reduceIte,if_true,if_false,IntKind.min,IntKind.max,IntKind.bits,IntKind.signed,Int.reduceLE,Int.reduceNeg,Int.reducePow,Int.reduceSub,and_self,Bool.false_eq_true,Nat.reduceSub];rfl)
    ·first | exact effMx | (simp (disch:=omega) only [go_sem,i64_of,u32_of,u64_of,Nat.reduceLT,Nat.reduceLeDiff,Nat.reduceEqDiff,Nat.reduceAdd,Nat.reduceSub,Nat.reduceMul,Nat.reducePow,Nat.reduceBEq,Int.reduceLE,Int.reduceLT,Int.reduceToNat,Int.reduceEq,Int.reduceNeg,↓reduceIte,reduceCtorEq];rfl)
    ·(simp (disch:=omega) only [go_sem,i64_of,u32_of,u64_of,Nat.reduceLT,Nat.reduceLeDiff,Nat.reduceEqDiff,Nat.reduceAdd,Nat.reduceSub,Nat.reduceMul,Nat.reducePow,Nat.reduceBEq,Int.reduceLE,Int.reduceLT,Int.reduceToNat,Int.reduceEq,Int.reduceNeg,↓reduceIte,reduceCtorEq];rfl)
    ·(simp only [pb,Nat.reduceLT,Nat.reduceAdd,reduceIte];rfl))
  |(apply RunO.skip;· rfl
    ·(simp only [pb,Nat.reduceLT,Nat.reduceAdd,reduceIte];rfl)))
   exact RunO.nil
  ·repeat (first | exact Keep.nil | (apply Keep.take;· rfl) | (apply Keep.drop;· rfl))
  refine nmZ ?_
  refine AX.rR (rgWV [1,2,4,5,25,26,27] (aI @lit_add oT) oT) ?_
  refine nmZ ?_
  refine ⟨_,_,id,?_,
   leQ7
   , ⟨i+1,_,by omega,rfl,s1,rfl⟩⟩
  omega
 obtain rfl:i=T.length:=by omega
 obtain rfl:s=(m:Int):=hs.symm.trans hmI
 refine AX.sR (rgAV [1,2,4,5,25,26,27,28]) ?_
 refine AX.seq ?_
 refine AX.condF ?_
 refine AX.exit ?_
 refine nmZ ?_
 refine AX.seq ?_
 refine AX.sR (rgAV [1,2,4,5,41]) ?_
 refine AX.condT ?_
 refine AX.sR (rgAV [2,3]) ?_
 refine AX.ret ⟨.inl rfl,?_⟩
 exact Done.chnN rfl rfl rfl
set_option maxHeartbeats 16000000 in
theorem cmean_any {T:T2} {n m:Nat} {a b:List V} {xs:List Rat} {s:Bool} {x y:List Nat} {e:Int} (hl:T.length=n) (cc:PCall Tryz.prog 19 [smp T] (.tup [.agg [.i .i64 n,.i .i64 n,.sl a,.i .i64 n,.i .i64 m,.sl b],.i .i64 0]) [])
  (cs:PCall Tryz.prog 54 [.i .i64 n] (.sl (xs.map rV)) [])
  (ct:PCall Tryz.prog 57 [.agg [.i .i64 n,.i .i64 n,.sl a,.i .i64 n,.i .i64 m,.sl b],.sl (xs.map rV)] (.tup [rR s x y,.i .i64 e]) []) :
  PCall Tryz.prog 23 [smp T] (.tup [rR s x y,.i .i64 e]) []:=by
 have hml:=(nx_length T).trans hl
 refine PCall.of_ax Tryz.call23 Tryz.func23 rfl (by simp [Tryz.ntmps23]) fun O w=>?_
 simp only [Tryz.ntmps23,Tryz.results23,argFr]
 unfold smp at *
 unfold rV rR at ct
 generalize nx T=A at *
 refine AX.sR (rgAV [1,2]) ?_
 refine AX.sR (rgCV [1,2,4,5] (aI cc oT)) ?_
 refine AX.seq ?_
 refine AX.sR (rgAV [1,2,4,5,12]) ?_
 refine AX.condF ?_
 refine AX.keepA [1,2,4] ?_
 refine AX.skip ?_
 refine nmZ ?_
 refine AX.sD (rgDWV [2,3] (aI @hml oT) (aI cs (aI ct oT))) ?_
 refine AX.ret ⟨.inl rfl,?_⟩
 exact Done.cellE rfl rfl rfl
set_option maxHeartbeats 16000000 in
theorem rmean_any {T:T2} {n m:Nat} {a b:List V} {xs:List Rat} {s:Bool} {x y:List Nat} {e:Int} (hl:T.length=n) (cc:PCall Tryz.prog 20 [smp T] (.tup [.agg [.i .i64 n,.i .i64 n,.sl a,.i .i64 n,.i .i64 m,.sl b],.i .i64 0]) [])
  (cs:PCall Tryz.prog 56 [.i .i64 n] (.sl (xs.map rV)) [])
  (ct:PCall Tryz.prog 58 [.agg [.i .i64 n,.i .i64 n,.sl a,.i .i64 n,.i .i64 m,.sl b],.sl (xs.map rV)] (.tup [rR s x y,.i .i64 e]) []) :
  PCall Tryz.prog 24 [smp T] (.tup [rR s x y,.i .i64 e]) []:=by
 have hml:=(nx_length T).trans hl
 refine PCall.of_ax Tryz.call24 Tryz.func24 rfl (by simp [Tryz.ntmps24]) fun O w=>?_
 simp only [Tryz.ntmps24,Tryz.results24,argFr]
 unfold smp at *
 unfold rV rR at ct
 generalize nx T=A at *
 refine AX.sR (rgAV [1,2]) ?_
 refine AX.sR (rgCV [1,2,4,5] (aI cc oT)) ?_
 refine AX.seq ?_
 refine AX.sR (rgAV [1,2,4,5,12]) ?_
 refine AX.condF ?_
 refine AX.keepA [1,2,4] ?_
 refine AX.skip ?_
 refine nmZ ?_
 refine AX.sD (rgDWV [2,3] (aI @hml oT) (aI cs (aI ct oT))) ?_
 refine AX.ret ⟨.inl rfl,?_⟩
 exact Done.cellE rfl rfl rfl
def SpreadsAgree (T:T2):Prop:=∃ (n m:Nat) (e g i:Int) (a b:List V) (d:List Rat) (s1 s2:Bool) (x1 y1 x2 y2:List Nat),
 PCall Tryz.prog 19 [smp T] (.tup [.agg [.i .i64 n,.i .i64 n,.sl a,.i .i64 n,.i .i64 m,.sl b],.i .i64 e]) []∧PCall Tryz.prog 20 [smp T] (.tup [.agg [.i .i64 n,.i .i64 n,.sl a,.i .i64 n,.i .i64 m,.sl b],.i .i64 e]) [] ∧
 PCall Tryz.prog 21 [smp T] (.tup [.sl (d.map rV),rR s1 x1 y1,.i .i64 g]) []∧PCall Tryz.prog 22 [smp T] (.tup [.sl (d.map rV),rR s1 x1 y1,.i .i64 g]) [] ∧
 PCall Tryz.prog 23 [smp T] (.tup [rR s2 x2 y2,.i .i64 i]) []∧PCall Tryz.prog 24 [smp T] (.tup [rR s2 x2 y2,.i .i64 i]) [] ∧
 PCall Tryz.prog 25 [.agg [.i .i64 n,.i .i64 n,.sl a],.agg [.i .i64 n,.i .i64 n,.sl a]] (.b true) []∧PCall Tryz.prog 25 [.agg [.i .i64 n,.i .i64 m,.sl b],.agg [.i .i64 n,.i .i64 m,.sl b]] (.b true) [] ∧
 PCall Tryz.prog 26 [.sl (d.map rV),.sl (d.map rV)] (.b true) []∧PCall Tryz.prog 27 [rR s1 x1 y1,rR s1 x1 y1] (.b true) []∧PCall Tryz.prog 27 [rR s2 x2 y2,rR s2 x2 y2] (.b true) []
theorem same29_nil:PCall Tryz.prog 26 [.sl (([]:List Rat).map rV),.sl (([]:List Rat).map rV)] (.b true) []:=same29_ok [] [] 1 (fun q h=>nomatch h) (fun q h=>nomatch h) (by decide) (by decide) (by decide) (by decide)
theorem spreads_bad {T:T2} {e:Int} (he:e≠0)(c1:PCall Tryz.prog 19 [smp T] (.tup [zC,.i .i64 e]) [])(c2:PCall Tryz.prog 20 [smp T] (.tup [zC,.i .i64 e]) []):SpreadsAgree T:=
 ⟨0,0,e,e,e,[],[],[],false,false,[],[],[],[],c1,c2,cspread_bad he c1,rspread_bad he c2,cmean_bad he c1,rmean_bad he c2,wsame_nil 0 0,wsame_nil 0 0,same29_nil,psame_z,psame_z⟩
theorem spreads_sm9 {T:T2} {n m:Nat} (hl:T.length=n)(h1:1≤n)(h:Sm9 n m (chA T) (chB T) e1)(c1:PCall Tryz.prog 19 [smp T] (.tup [cV n m (chA T) (chB T),.i .i64 0]) [])(c2:PCall Tryz.prog 20 [smp T] (.tup [cV n m (chA T) (chB T),.i .i64 0]) []):SpreadsAgree T:=by
 have hn:=h.hn
 have hm:=h.hm
 have k1:=cstart_ok n h1 (by omega)
 have k2:=rstart_ok n h1 (by omega)
 have p1:=cspread_ok hl c1 k1 h.ends
 have p2:=rspread_ok hl c2 k2 h.rends
 have w1:PCall Tryz.prog 25 [qM n n (chA T),qM n n (chA T)] (.b true) []:=wsame_m (by omega) (by omega) fun i k hi hk=>Nat.le_trans (h.hA i k hi hk) (by decide)
 have w2:PCall Tryz.prog 25 [qM n m (chB T),qM n m (chB T)] (.b true) []:=wsame_m (by omega) (by omega) fun i k hi hk=>Nat.le_trans (h.hB i k hi hk) (by decide)
 have hq:∀ q ∈ vl m (thr n e1 (eachM n m (chA T) (chB T))),rL q≤2000000:=vl_mem h.endL
 have sm:=same29_ok _ _ 2000000 hq hq (by decide) (by decide) (by rw [vl_length];omega) (by rw [vl_length];omega)
 rw [decide_eq_true rfl] at sm
 have s1:=psame_q h.neverL (by decide) (by decide)
 by_cases h0:neverQ n m (chA T) (chB T) e1=0
 ·have m1:=cmean_any hl c1 k1 (h.csteps h0)
  have m2:=rmean_any hl c2 k2 (h.rsteps h0)
  have hs:=sumN_len h.visL n (Nat.le_refl _)
  have h3:n*(100000+1)≤9*(100000+1):=Nat.mul_le_mul_right _ hn
  exact ⟨n,m,0,0,0,_,_,_,_,_,_,_,_,_,c1,c2,p1,p2,m1,m2,w1,w2,sm,s1,psame_q (L:=2000000) (by omega) (by decide) (by decide)⟩
 ·have v1:=h.visits
  rw [if_neg h0] at v1
  have v2:=h.rvisits_zero h0
  have m1:=cmean_any (s:=false) (x:=[]) (y:=[]) hl c1 k1 (csteps_err _ 31 n n n m _ _ _ rfl (by decide) v1)
  have m2:=rmean_any (s:=false) (x:=[]) (y:=[]) hl c2 k2 (rsteps_err _ 31 n n n m _ _ _ rfl (by decide) v2)
  exact ⟨n,m,0,0,31,_,_,_,_,false,_,_,[],[],c1,c2,p1,p2,m1,m2,w1,w2,sm,s1,psame_z⟩
theorem spreads_any {T:T2} (hb:bT T)(hl:T.length<2 ^ 62)(h:isS T=false∨(isS T=true∧T.length≤9)):SpreadsAgree T:=by
 rcases h with hS | ⟨hS,h9⟩
 ·exact spreads_bad (by decide) (cchain_bad T hS hl hb) (rchain_bad T hS hl hb)
 ·by_cases hm60:60<exI T T.length
  ·exact spreads_bad (by decide) (cchain_limit T hS hm60) (rchain_limit T hS hm60)
  ·exact spreads_sm9 rfl (isS_iff.1 hS).1 (sm9_of hS h9 hm60 rfl) (cchain_walk T hS hm60) (rchain_walk T hS hm60)
set_option maxHeartbeats 16000000 in
theorem coinSpreads_ok (T:T2)(hb:bT T)(hl:T.length<2 ^ 62):PCall Tryz.prog 4 [smp T] (.b true) []:=by
 have cf:=few29_ok T hl hb
 obtain ⟨hb',hl'⟩:=fewT_bd hb hl
 have hf:=fewT_is T
 generalize fewT T=T' at *
 have c0:=of29_ok (nx T')
 obtain ⟨n,m,e,g,i,a,b,d,s1,s2,x1,y1,x2,y2,k1,k2,k3,k4,k5,k6,k7,k8,k9,k10,k11⟩:=spreads_any hb' hl' hf
 have cal:=calive_ok
 refine PCall.of_ax Tryz.call4 Tryz.func4 rfl (by simp [Tryz.ntmps4]) fun O w=>?_
 simp only [Tryz.ntmps4,Tryz.results4,argFr]
 unfold smp rR at *
 generalize d.map rV=D at *
 generalize nx T'=A' at *
 generalize nx T=A at *
 refine AX.sR (rgAV [1]) ?_
 refine AX.sR (rgCV [1] (aI cf oT)) ?_
 refine AX.sR (rgCV [1,3,4] (aI k1 oT)) ?_
 refine AX.sR (rgCV [1,3,4,5,6] (aI c0 (aI k2 oT))) ?_
 refine AX.sR (rgCV [1,3,4,5,6,7,8,9] (aI k3 oT)) ?_
 refine AX.sR (rgCV [1,3,4,5,6,7,8,9,10,11,12] (aI c0 (aI k4 oT))) ?_
 refine AX.sR (rgCV [1,3,4,5,6,7,8,9,10,11,12,13,14] (aI k5 oT)) ?_
 refine AX.sR (rgCV [3,4,5,6,7,8,9,10,11,12,13,14,15,16] (aI c0 (aI k6 oT))) ?_
 refine AX.sR (rgCV [2] (aI k7 (aI k8 (aI k9 (aI k10 (aI k11 (aI cal oT))))))) ?_
 refine AX.ret ⟨.inl rfl,?_⟩
 exact Done.one rfl rfl rfl rfl
end Go.Proofs.YteidabibgjokkaaGreatDoor
