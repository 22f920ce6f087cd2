import Derived.Test.YteidabibgjokkaaGreatDoorHF
import Derived.Test.YteidabibgjokkaaGreatDoorHL
set_option maxRecDepth 20000
set_option linter.all false
namespace Go.Proofs.YteidabibgjokkaaGreatDoor
open Go Go.Proofs.YteidabibgjokkaaGreatDoor.Lift
attribute [local irreducible] Lift.PCall Lift.HCall
structure Chn.IsVis (c:Chn) (v x:Nat→Rat):Prop where
 z:∀ i,i<c.n→¬ c.Rch i→x i=0
 eq:∀ i,i<c.n→c.Rch i→x i=v i+sumN c.n fun k=>x k*c.M k i
theorem sumN_zero_each {n:Nat} {f:Nat→Rat} (h:∀ i,i<n→0≤f i)(h0:sumN n f=0):∀ i,i<n→f i=0:=fun i hi=>sumN_zero_inv hi h h0
theorem Chn.IsVis.nonneg {c:Chn} (hc:c.Ok) {v x:Nat→Rat} (hv:∀ i,i<c.n→0≤v i)(h:c.IsVis v x):∀ i,i<c.n→0≤x i:=by
 obtain ⟨p,hp⟩:∃ p:Nat→Rat,p=fun i=>if x i<0 then -x i else 0:=⟨_,rfl⟩
 have p0:∀ i,0≤p i:=fun i=>by
  rw [hp]
  show 0≤(if x i<0 then -x i else 0)
  split<;>grind
 have px:∀ i,-x i≤p i:=fun i=>by
  rw [hp]
  show -x i≤(if x i<0 then -x i else 0)
  split<;>grind
 have pz:∀ i,i<c.n→¬ c.Rch i→p i=0:=fun i hi hr=>by
  rw [hp]
  show (if x i<0 then -x i else 0)=0
  rw [h.z i hi hr,if_neg (by decide)]
 have ple:∀ i,i<c.n→c.Rch i→p i≤sumN c.n fun k=>p k*c.M k i:=fun i hi hr=>by
  have h1:0≤sumN c.n fun k=>p k*c.M k i:=sumN_nonneg fun k hk=>Rat.mul_nonneg (p0 k) (hc.M0 k i hk hi)
  have h2:(sumN c.n fun k=>(-x k)*c.M k i)≤sumN c.n fun k=>p k*c.M k i:=sumN_le fun k hk=>Rat.mul_le_mul_of_nonneg_right (px k) (hc.M0 k i hk hi)
  have h3:(sumN c.n fun k=>(-x k)*c.M k i)=-sumN c.n fun k=>x k*c.M k i:=by
   have:(sumN c.n fun k=>(-x k)*c.M k i)=sumN c.n fun k=>(-1)*(x k*c.M k i):=sumN_congr fun k _=>by grind
   rw [this,sumN_mul]
   grind
  have h4:=h.eq i hi hr
  have h5:=hv i hi
  have h6:p i=if x i<0 then -x i else 0:=by rw [hp]
  rw [h6]
  split<;>grind
 -- all is equality,and nothing leaves
 obtain ⟨g,hg⟩:∃ g:Nat→Rat,g=fun i=>@ite _ (c.Rch i) (Classical.propDecidable _) 1 0:=⟨_,rfl⟩
 have g1:∀ i,c.Rch i→g i=1:=fun i hr=>by rw [hg];exact if_pos hr
 have g0:∀ i,¬ c.Rch i→g i=0:=fun i hr=>by rw [hg];exact if_neg hr
 have tm:∀ i,i<c.n→0≤(g i*sumN c.n fun k=>p k*c.M k i)-p i:=fun i hi=>by
  by_cases hr:c.Rch i
  ·have:=ple i hi hr
   rw [g1 i hr,Rat.one_mul]
   grind
  ·rw [g0 i hr,pz i hi hr,Rat.zero_mul]
   grind
 have dk:∀ k,k<c.n→0≤1-sumN c.n fun i=>g i*c.M k i:=fun k hk=>by
  have h1:=hc.one k hk
  have h2:0≤sumN c.m (c.E k):=sumN_nonneg fun j hj=>hc.E0 k j hk hj
  have h3:(sumN c.n fun i=>g i*c.M k i)≤sumN c.n (c.M k):=sumN_le fun i hi=>by
   have hM:=hc.M0 k i hk hi
   by_cases hr:c.Rch i
   ·rw [g1 i hr,Rat.one_mul];exact Rat.le_refl
   ·rw [g0 i hr,Rat.zero_mul];exact hM
  grind
 have bal:(sumN c.n fun i=>(g i*sumN c.n fun k=>p k*c.M k i)-p i)=-sumN c.n fun k=>p k*(1-sumN c.n fun i=>g i*c.M k i):=by
  have e1:(sumN c.n fun i=>g i*sumN c.n fun k=>p k*c.M k i)=sumN c.n fun k=>p k*sumN c.n fun i=>g i*c.M k i:=by
   have:(sumN c.n fun i=>g i*sumN c.n fun k=>p k*c.M k i)=sumN c.n fun i=>sumN c.n fun k=>p k*(g i*c.M k i):=sumN_congr fun i _=>by
    rw [← sumN_mul]
    exact sumN_congr fun k _=>by grind
   rw [this,sumN_swap]
   exact sumN_congr fun k _=>sumN_mul ..
  have e2:(sumN c.n fun k=>p k*(1-sumN c.n fun i=>g i*c.M k i))=sumN c.n p-sumN c.n fun k=>p k*sumN c.n fun i=>g i*c.M k i:=by
   rw [← sumN_sub]
   exact sumN_congr fun k _=>by grind
  rw [sumN_sub,e1,e2]
  grind
 have s1:=sumN_nonneg tm
 have s2:0≤sumN c.n fun k=>p k*(1-sumN c.n fun i=>g i*c.M k i):=sumN_nonneg fun k hk=>Rat.mul_nonneg (p0 k) (dk k hk)
 rw [bal] at s1
 have z1:(sumN c.n fun k=>p k*(1-sumN c.n fun i=>g i*c.M k i))=0:=by grind
 have z2:(sumN c.n fun i=>(g i*sumN c.n fun k=>p k*c.M k i)-p i)=0:=by rw [bal,z1];grind
 have leave:=sumN_zero_each (fun k hk=>Rat.mul_nonneg (p0 k) (dk k hk)) z1
 have eqs:=sumN_zero_each tm z2
 have key:∀ i,c.Rch i→p i=0:=by
  intro i hr
  induction hr with
  | exit hi hj hE=>
   rename_i i j
   have h1:=leave i hi
   have h1:p i*(1-sumN c.n fun i'=>g i' * c.M i i')=0:=h1
   rcases Rat.mul_eq_zero.1 h1 with h2 | h2
   ·exact h2
   ·exfalso
    have h3:=hc.one i hi
    have h4:=le_sumN hj (fun j hj=>hc.E0 i j hi hj)
    have h5:(sumN c.n fun i'=>g i' * c.M i i')≤sumN c.n (c.M i):=sumN_le fun i' hi'=>by
     have hM:=hc.M0 i i' hi hi'
     by_cases hr:c.Rch i'
     ·rw [g1 i' hr,Rat.one_mul];exact Rat.le_refl
     ·rw [g0 i' hr,Rat.zero_mul];exact hM
    grind
  | move hi hk hM hr ih=>
   rename_i i k
   have h1:=eqs k hk
   have h1:(g k*sumN c.n fun l=>p l*c.M l k)-p k=0:=h1
   rw [g1 k hr,Rat.one_mul,ih] at h1
   have h2:=sumN_zero_inv hi (fun l hl=>Rat.mul_nonneg (p0 l) (hc.M0 l k hl hk)) (by grind)
   have h2:p i*c.M i k=0:=h2
   rcases Rat.mul_eq_zero.1 h2 with h3 | h3
   ·exact h3
   ·rw [h3] at hM
    exact absurd hM (by decide)
 intro i hi
 have h1:=px i
 by_cases hr:c.Rch i
 ·rw [key i hr] at h1
  grind
 ·rw [h.z i hi hr]
  exact Rat.le_refl
def Chn.never (c:Chn) (X:Nat→Nat→Rat) (v:Nat→Rat):Rat:=sumN c.n v-sumN c.m fun j=>sumN c.n fun i=>v i*X i j
theorem Chn.never_eq (c:Chn)(X:Nat→Nat→Rat)(v:Nat→Rat):c.never X v=sumN c.n fun i=>v i*(1-sumN c.m (X i)):=by
 unfold Chn.never
 have e:(sumN c.n fun i=>v i*(1-sumN c.m (X i)))=sumN c.n v-sumN c.n fun i=>v i*sumN c.m (X i):=by
  rw [← sumN_sub]
  exact sumN_congr fun i _=>by grind
 rw [e,sumN_swap]
 congr 1
 exact sumN_congr fun i _=>sumN_mul ..
theorem Chn.IsEach.lost {c:Chn} (hc:c.Ok) {X:Nat→Nat→Rat} (h:c.IsEach X) {i:Nat} (hi:i<c.n):1-sumN c.m (X i)=sumN c.n fun k=>c.M i k*(1-sumN c.m (X k)):=by
 have e1:sumN c.m (X i)=(sumN c.n fun k=>c.M i k*sumN c.m (X k))+sumN c.m (c.E i):=by
  have:sumN c.m (X i)=sumN c.m fun j=>(sumN c.n fun k=>c.M i k*X k j)+c.E i j:=sumN_congr fun j hj=>h.all hc i j hi hj
  rw [this,sumN_add,sumN_swap]
  congr 1
  exact sumN_congr fun k _=>sumN_mul ..
 have e2:(sumN c.n fun k=>c.M i k*(1-sumN c.m (X k)))=sumN c.n (c.M i)-sumN c.n fun k=>c.M i k*sumN c.m (X k):=by
  rw [← sumN_sub]
  exact sumN_congr fun k _=>by grind
 have h4:=hc.one i hi
 rw [e1,e2]
 grind
theorem Chn.IsVis.ends {c:Chn} (hc:c.Ok) {X:Nat→Nat→Rat} (hX:c.IsEach X) {v x:Nat→Rat} (h:c.IsVis v x):∀ j,j<c.m→(sumN c.n fun i=>x i*c.E i j)=sumN c.n fun i=>v i*X i j:=by
 intro j hj
 have e1:(sumN c.n fun i=>x i*c.E i j)=(sumN c.n fun i=>x i*X i j)-sumN c.n fun i=>x i*sumN c.n fun k=>c.M i k*X k j:=by
  rw [← sumN_sub]
  refine sumN_congr fun i hi=>?_
  have:=hX.all hc i j hi hj
  rw [this]
  grind
 have e2:(sumN c.n fun i=>x i*sumN c.n fun k=>c.M i k*X k j)=sumN c.n fun k=>(sumN c.n fun i=>x i*c.M i k)*X k j:=by
  have:(sumN c.n fun i=>x i*sumN c.n fun k=>c.M i k*X k j)=sumN c.n fun i=>sumN c.n fun k=>x i*c.M i k*X k j:=sumN_congr fun i _=>by
   rw [← sumN_mul]
   exact sumN_congr fun k _=>by grind
  rw [this,sumN_swap]
  exact sumN_congr fun k _=>sumN_mulr ..
 rw [e1,e2,← sumN_sub]
 refine sumN_congr fun k hk=>?_
 by_cases hr:c.Rch k
 ·have:=h.eq k hk hr
  rw [this]
  grind
 ·rw [hX.z k j hk hj hr]
  grind
theorem pk_sumT {n:Nat} {f:Nat→Bool} {A:Mx} {i:Nat} (hi:i<(pick n f).length)(y:Nat→Rat):(sumN (pick n f).length fun k=>pkM true (pick n f) A i k*y k)=sumN n fun k=>lift n f y k*A k ((pick n f).getD i 0):=by
 have:=sumN_pick f (fun j k=>y j*A k ((pick n f).getD i 0)) n
 have e:(sumN n fun k=>lift n f y k*A k ((pick n f).getD i 0))=sumN n fun k=>if f k=true then y (pick k f).length*A k ((pick n f).getD i 0) else 0:=by
  refine sumN_congr fun k _=>?_
  unfold lift
  split
  ·rfl
  ·exact Rat.zero_mul _
 rw [e,this]
 refine sumN_congr fun k _=>?_
 unfold pkM
 rw [if_pos rfl]
 exact Rat.mul_comm _ _
theorem vis_sys {n m L:Nat} {A B:Mx} {v:Nat→Rat} (hC:isC n m A B=true)(hA:∀ i k,i<n→k<n→rL (A i k)≤L)(hvL:∀ i,i<n→rL (v i)≤L+1)(hL1:1≤L):∀ i,i<(pick n (rchB n m A B)).length →
  (sumN (pick n (rchB n m A B)).length fun k=>subM true (pick n (rchB n m A B)) A i k*solX (pick n (rchB n m A B)).length (subM true (pick n (rchB n m A B)) A) (fun i _=>v ((pick n (rchB n m A B)).getD i 0)) k 0)=v ((pick n (rchB n m A B)).getD i 0):=by
 obtain ⟨_,h2,_⟩:=fin_spec (n:=(pick n (rchB n m A B)).length) (c:=1) (L:=L+1) (B:=fun i _=>v ((pick n (rchB n m A B)).getD i 0)) (nonsing_turn hC hA hL1) (fun i j hi hj=>subM_len hA hL1 (pick_get hi).1 (pick_get hj).1) (fun i j hi hj=>hvL _ (pick_get hi).1) (by omega)
 exact fun i hi=>h2 i 0 hi (by decide)
theorem vis_is {n m L:Nat} {A B:Mx} {v:Nat→Rat} (hC:isC n m A B=true)(hA:∀ i k,i<n→k<n→rL (A i k)≤L)(hvL:∀ i,i<n→rL (v i)≤L+1)(hL1:1≤L):(chn n m A B).IsVis v (visV n m A B v):=by
 refine ⟨fun i hi hr=>if_neg fun h=>hr (rchB_iff.1 h),fun i hi hr=>?_⟩
 have hi:i<n:=hi
 have hf:=rchB_iff.2 hr
 obtain ⟨h3,h4⟩:=pick_at hi hf
 have h5:=vis_sys hC hA hvL hL1 _ h3
 rw [subM_sum h3,pk_sumT h3,h4] at h5
 have e1:visV n m A B v i=solX (pick n (rchB n m A B)).length (subM true (pick n (rchB n m A B)) A) (fun i _=>v ((pick n (rchB n m A B)).getD i 0)) (pick i (rchB n m A B)).length 0:=if_pos hf
 have e2:(sumN n fun k=>visV n m A B v k*A k i)=sumN n fun k=>lift n (rchB n m A B) (fun k=>solX (pick n (rchB n m A B)).length (subM true (pick n (rchB n m A B)) A) (fun i _=>v ((pick n (rchB n m A B)).getD i 0)) k 0) k*A k i:=rfl
 show visV n m A B v i=v i+sumN n fun k=>visV n m A B v k*A k i
 rw [e1,e2]
 grind
theorem vis_small {n m:Nat} {A B:Mx} {v:Nat→Rat} (hn:n≤8)(hC:isC n m A B=true)(hA:∀ i k,i<n→k<n→rL (A i k)≤38)(hvL:∀ i,i<n→rL (v i)≤3):∀ i,i<n→rL (visV n m A B v i)≤100000:=by
 intro i hi
 unfold visV
 split
 ·rename_i hf
  have hA':∀ i j,i<(pick n (rchB n m A B)).length→j<(pick n (rchB n m A B)).length→rL (subM true (pick n (rchB n m A B)) A i j)≤39:=fun i j hi hj=>subM_len hA (by decide) (pick_get hi).1 (pick_get hj).1
  exact sol_small8 (Nat.le_trans (pick_le n _) hn) (nonsing_turn hC hA (by decide)) hA' (fun i hi=>Nat.le_trans (hvL _ (pick_get hi).1) (by decide)) (x:=fun k=>solX _ _ _ k 0) (fun i hi=>vis_sys hC hA (fun i hi=>Nat.le_trans (hvL i hi) (by decide)) (by decide) i hi) _ (pick_at hi hf).1
 ·exact Nat.le_trans rL0 (by decide)
end Go.Proofs.YteidabibgjokkaaGreatDoor
