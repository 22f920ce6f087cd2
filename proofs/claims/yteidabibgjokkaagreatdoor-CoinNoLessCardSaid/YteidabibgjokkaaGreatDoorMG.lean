import Derived.Test.YteidabibgjokkaaGreatDoorME
import Derived.Test.YteidabibgjokkaaGreatDoorMJ
import Derived.Test.YteidabibgjokkaaGreatDoorHF
set_option maxRecDepth 20000
set_option linter.all false
namespace Go.Proofs.YteidabibgjokkaaGreatDoor
open Go Go.Proofs.YteidabibgjokkaaGreatDoor.Lift
attribute [local irreducible] Lift.PCall Lift.HCall
def cN (f:Nat→Int) (v:Int):Nat→Nat
 | 0=>0
 | n+1=>cN f v n+hit (f n) v
theorem cN_le (f:Nat→Int)(v:Int):∀ n,cN f v n≤n
 | 0=>Nat.le_refl _
 | n+1=>by
  have:=cN_le f v n
  have:=hit_le (f n) v
  rw [cN]
  omega
theorem cN_sum (f:Nat→Int)(v:Int):∀ n,((cN f v n:Nat):Rat)=sumN n fun i=>((hit (f i) v:Nat):Rat)
 | 0=>rfl
 | n+1=>by
  rw [cN,sumN_succ,← cN_sum f v n]
  push_cast
  rfl
def nxS (T:T2) (s:Int) (c:Bool):Int:=if s<0 then s else stepC (T.getD s.toNat z2) c
def stS (T:T2) (n:Nat):Nat→Int
 | 0=>0
 | k+1=>nxS T (stS T n k) (n.testBit k)
theorem stS_bits {T:T2} {n m:Nat}:∀ k,(∀ j,j<k→n.testBit j=m.testBit j)→stS T n k=stS T m k
 | 0,_=>rfl
 | k+1,h=>by rw [stS,stS,stS_bits k fun j hj=>h j (by omega),h k (Nat.lt_succ_self _)]
theorem stS_low (T:T2)(n k:Nat):stS T (2 ^ k+n) k=stS T n k:=stS_bits k fun j hj=>Nat.testBit_two_pow_add_gt hj n
theorem stS_t0 {T:T2} {n k:Nat} (h:n<2 ^ k):stS T n (k+1)=nxS T (stS T n k) false:=by rw [stS,Nat.testBit_lt_two_pow h]
theorem stS_t1 {T:T2} {n k:Nat} (h:n<2 ^ k):stS T (2 ^ k+n) (k+1)=nxS T (stS T n k) true:=by rw [stS,stS_low,Nat.testBit_two_pow_add_eq,Nat.testBit_lt_two_pow h];rfl
theorem stepC_lt {T:T2} (hr:∀ x ∈ T,(-64≤x.1∧x.1<T.length)∧-64≤x.2∧x.2<T.length) {p:Nat} (hp:p<T.length)(c:Bool):-64≤stepC (T.getD p z2) c∧stepC (T.getD p z2) c<T.length:=by
 have:=hr _ (getD_mem_T hp)
 unfold stepC
 cases c
 ·exact this.1
 ·exact this.2
theorem stS_lt {T:T2} (h0:1≤T.length)(hr:∀ x ∈ T,(-64≤x.1∧x.1<T.length)∧-64≤x.2∧x.2<T.length)(n:Nat):∀ k,-64≤stS T n k∧stS T n k<T.length
 | 0=>by
  show (-64:Int)≤0∧(0:Int)<T.length
  omega
 | k+1=>by
  have ih:=stS_lt h0 hr n k
  rw [stS,nxS]
  split
  ·exact ih
  ·exact stepC_lt hr (by omega) _
theorem hit_nx {T:T2} {s v:Int} (hs:s<T.length)(c:Bool):((hit (nxS T s c) v:Nat):Rat)=(if v<0 then ((hit s v:Nat):Rat) else 0)+sumN T.length fun i=>((hit s (wM i):Nat):Rat)*((hit (stepC (T.getD i z2) c) v:Nat):Rat):=by
 by_cases h:s<0
 ·have e1:(sumN T.length fun i=>((hit s (wM i):Nat):Rat)*((hit (stepC (T.getD i z2) c) v:Nat):Rat))=0:=sumN_eq_zero fun i _=>by
   rw [show hit s (wM i)=0 from if_neg (by unfold wM;omega)]
   exact Rat.zero_mul _
  rw [e1,nxS,if_pos h,Rat.add_zero]
  by_cases hv:v<0
  ·rw [if_pos hv]
  ·rw [if_neg hv,show hit s v=0 from if_neg (by omega)]
   rfl
 ·obtain ⟨p,rfl⟩:∃ p:Nat,s=p:=⟨s.toNat,by omega⟩
  have e1:(if v<0 then ((hit (p:Int) v:Nat):Rat) else 0)=0:=by
   split
   ·rw [show hit (p:Int) v=0 from if_neg (by omega)]
    rfl
   ·rfl
  rw [e1,nxS,if_neg h,Int.toNat_natCast,Rat.zero_add,sumN_single (k:=p) (by omega) fun i _ hne=>by
   rw [show hit (p:Int) (wM i)=0 from if_neg (by unfold wM;omega)]
   exact Rat.zero_mul _]
  rw [show hit (p:Int) (wM p)=1 from if_pos rfl]
  exact (Rat.one_mul _).symm
def cS (T:T2) (k:Nat) (v:Int):Nat:=cN (fun n=>stS T n k) v (2 ^ k)
theorem cS_sum (T:T2)(k:Nat)(v:Int):((cS T k v:Nat):Rat)=sumN (2 ^ k) fun n=>((hit (stS T n k) v:Nat):Rat):=cN_sum _ _ _
theorem cS_succ {T:T2} (h0:1≤T.length)(hr:∀ x ∈ T,(-64≤x.1∧x.1<T.length)∧-64≤x.2∧x.2<T.length)(k:Nat)(v:Int):((cS T (k+1) v:Nat):Rat)=2*(if v<0 then ((cS T k v:Nat):Rat) else 0)+sumN T.length fun i=>((cS T k (wM i):Nat):Rat)*(((hit (T.getD i z2).1 v:Nat):Rat)+((hit (T.getD i z2).2 v:Nat):Rat)):=by
 have e1:(sumN T.length fun i=>((cS T k (wM i):Nat):Rat)*(((hit (T.getD i z2).1 v:Nat):Rat)+((hit (T.getD i z2).2 v:Nat):Rat)))=sumN (2 ^ k) fun n=>sumN T.length fun i=>((hit (stS T n k) (wM i):Nat):Rat)*(((hit (T.getD i z2).1 v:Nat):Rat)+((hit (T.getD i z2).2 v:Nat):Rat)):=by
  rw [sumN_swap]
  exact sumN_congr fun i _=>by rw [cS_sum,← sumN_mulr]
 have e2:(if v<0 then ((cS T k v:Nat):Rat) else 0)=sumN (2 ^ k) fun n=>if v<0 then ((hit (stS T n k) v:Nat):Rat) else 0:=by
  by_cases hv:v<0
  ·simp only [hv,if_true]
   exact cS_sum ..
  ·simp only [hv,if_false]
   exact (sumN_zero _).symm
 rw [e1,e2,← sumN_mul,← sumN_add,cS_sum,show 2 ^ (k+1)=2 ^ k+2 ^ k by rw [Nat.pow_succ];omega,sumN_split,← sumN_add]
 refine sumN_congr fun n hn=>?_
 have hs:=(stS_lt h0 hr n k).2
 rw [stS_t0 hn,stS_t1 hn,hit_nx hs,hit_nx hs]
 generalize (if v<0 then ((hit (stS T n k) v:Nat):Rat) else 0)=a
 have e3:(sumN T.length fun i=>((hit (stS T n k) (wM i):Nat):Rat)*(((hit (T.getD i z2).1 v:Nat):Rat)+((hit (T.getD i z2).2 v:Nat):Rat)))=(sumN T.length fun i=>((hit (stS T n k) (wM i):Nat):Rat)*((hit (stepC (T.getD i z2) false) v:Nat):Rat))+sumN T.length fun i=>((hit (stS T n k) (wM i):Nat):Rat)*((hit (stepC (T.getD i z2) true) v:Nat):Rat):=by
  rw [← sumN_add]
  exact sumN_congr fun i _=>Rat.mul_add ..
 rw [e3]
 grind
def hlf:Nat→Rat
 | 0=>1
 | k+1=>hlf k*(1 / 2)
theorem hlf_pow:∀ k,hlf k*((2 ^ k:Nat):Rat)=1
 | 0=>by decide +kernel
 | k+1=>by
  have ih:=hlf_pow k
  rw [hlf,Nat.pow_succ]
  push_cast at *
  grind
theorem half_row {T:T2} {w:Nat→Int} {i k:Nat} (h:i<T.length):hM T w T.length 0 i k=(((hit (T.getD i z2).1 (w k):Nat):Rat)+((hit (T.getD i z2).2 (w k):Nat):Rat))*(1 / 2):=by
 show ((cnt T w T.length 0 i k:Nat):Rat) / 2=_
 rw [cnt_full h]
 push_cast
 grind
theorem thr_half {T:T2} {w:Nat→Int} {k m:Nat} {v:Nat→Rat} (hv:∀ i,i<T.length→v i=((cS T m (wM i):Nat):Rat)*hlf m):thr T.length v (hM T w T.length 0) k=(sumN T.length fun i=>((cS T m (wM i):Nat):Rat)*(((hit (T.getD i z2).1 (w k):Nat):Rat)+((hit (T.getD i z2).2 (w k):Nat):Rat)))*hlf (m+1):=by
 unfold thr
 rw [← sumN_mulr]
 refine sumN_congr fun i hi=>?_
 rw [hv i hi,half_row hi,hlf]
 grind
theorem atC_cS {T:T2} (h0:1≤T.length)(hr:∀ x ∈ T,(-64≤x.1∧x.1<T.length)∧-64≤x.2∧x.2<T.length):∀ k i,i<T.length→atC T.length (chA T) e1 k i=((cS T k (wM i):Nat):Rat)*hlf k
 | 0,i,_=>by
  show e1 i=((0+hit 0 (wM i):Nat):Rat)*1
  unfold e1 hit wM
  by_cases h:i=0
  ·subst h
   decide +kernel
  ·rw [if_neg h,if_neg (by omega)]
   decide +kernel
 | k+1,i,hi=>by
  have ih:=atC_cS h0 hr k
  rw [cS_succ h0 hr,if_neg (by unfold wM;omega),Rat.mul_zero,Rat.zero_add]
  exact thr_half ih
theorem outC_cS {T:T2} (h0:1≤T.length)(hr:∀ x ∈ T,(-64≤x.1∧x.1<T.length)∧-64≤x.2∧x.2<T.length):∀ k j,outC T.length (chA T) (chB T) e1 k j=((cS T k (wE j):Nat):Rat)*hlf k
 | 0,j=>by
  show (0:Rat)=((0+hit 0 (wE j):Nat):Rat)*1
  unfold hit wE
  rw [if_neg (by omega)]
  decide +kernel
 | k+1,j=>by
  have ih:=outC_cS h0 hr k j
  rw [cS_succ h0 hr,if_pos (by unfold wE;omega),Rat.add_mul,← thr_half (atC_cS h0 hr k)]
  show outC T.length (chA T) (chB T) e1 k j+thr T.length (atC T.length (chA T) e1 k) (chB T) j=2*((cS T k (wE j):Nat):Rat)*(hlf k*(1 / 2))+thr T.length (atC T.length (chA T) e1 k) (chB T) j
  rw [ih]
  grind
theorem hlf_rq (c k:Nat):((c:Nat):Rat)*hlf k=rq false c (2 ^ k):=by
 have e:rq false c (2 ^ k)=mkRat (c:Int) (2 ^ k):=rfl
 have h:=hlf_pow k
 have h2:((2 ^ k:Nat):Rat)≠0:=fun h0=>by rw [h0,Rat.mul_zero] at h;exact absurd h (by decide +kernel)
 rw [e,Rat.mkRat_eq_div]
 show (c:Rat)*hlf k=((c:Int):Rat) / ((2 ^ k:Nat):Rat)
 rw [Rat.intCast_natCast]
 grind
theorem hlf_len {c k:Nat} (hc:c≤2 ^ k)(hk:k≤7):rL (((c:Nat):Rat)*hlf k)≤1:=by
 have h:2 ^ k≤2 ^ 7:=Nat.pow_le_pow_right (by decide) hk
 rw [hlf_rq]
 exact rL_rq (digits_length_le (by omega)) (digits_length_le (by omega)) (Nat.le_refl _)
def bitsL (n k:Nat):List Bool:=(List.range k).map fun i=>n.testBit i
theorem bitsL_length (n k:Nat):(bitsL n k).length=k:=by rw [bitsL,List.length_map,List.length_range]
theorem bitsL_get {n k i:Nat} (h:i<k):(bitsL n k).getD i false=n.testBit i:=by
 unfold bitsL
 rw [List.getD_eq_getElem?_getD,List.getElem?_map,List.getElem?_range h]
 rfl
theorem bitsL_succ (n k:Nat):bitsL n (k+1)=bitsL n k++[n.testBit k]:=by
 unfold bitsL
 rw [List.range_succ,List.map_append]
 rfl
theorem stS_stay {T:T2} {n i:Nat} (h:stS T n i<0):∀ j,stS T n (i+j)=stS T n i
 | 0=>rfl
 | j+1=>by rw [← Nat.add_assoc,stS,stS_stay h j,nxS,if_pos h]
theorem run_st {T:T2} (h0:1≤T.length)(hr:∀ x ∈ T,(-64≤x.1∧x.1<T.length)∧-64≤x.2∧x.2<T.length)(n k:Nat):∀ j i p:Nat,i+j=k→stS T n i=(p:Int)→(runC T ((bitsL n k).drop i) p i=none∧0≤stS T n k)∨∃ u,u≤k∧runC T ((bitsL n k).drop i) p i=some (-1-stS T n k,u)∧stS T n k<0
 | 0,i,p,e,h=>by
  obtain rfl:i=k:=e
  left
  rw [List.drop_of_length_le (by rw [bitsL_length];omega),h]
  exact ⟨rfl,by omega⟩
 | j+1,i,p,e,h=>by
  have hi:i<k:=by omega
  have hn:stS T n (i+1)=stepC (T.getD p z2) (n.testBit i):=by
   rw [stS,h,nxS,if_neg (by omega),Int.toNat_natCast]
  rw [runC_drop (by rw [bitsL_length];exact hi),bitsL_get hi,← hn]
  by_cases hs:stS T n (i+1)<0
  ·right
   have st:=stS_stay hs j
   rw [show i+1+j=k by omega] at st
   rw [if_pos hs,st]
   exact ⟨i+1,by omega,rfl,hs⟩
  ·rw [if_neg hs]
   exact run_st h0 hr n k j (i+1) _ (by omega) (by omega)
def rmd (o n i:Nat):Nat:=o*2 ^ i % n
def dig (o n i:Nat):Nat:=2*rmd o n i / n
theorem rmd_succ (o n i:Nat):rmd o n (i+1)=2*rmd o n i % n:=by
 unfold rmd
 rw [Nat.pow_succ,← Nat.mul_assoc,Nat.mul_comm 2,Nat.mul_mod (o*2 ^ i % n),Nat.mod_mod,← Nat.mul_mod]
theorem rmd_lt {o n i:Nat} (hn:0<n):rmd o n i<n:=Nat.mod_lt _ hn
theorem dig_eq (o n i:Nat):2*rmd o n i=dig o n i*n+rmd o n (i+1):=by
 have h:=Nat.div_add_mod (2*rmd o n i) n
 rw [rmd_succ]
 unfold dig
 rw [Nat.mul_comm (2*rmd o n i / n)]
 omega
theorem dig_le {o n i:Nat} (hn:0<n):dig o n i≤1:=by
 have h:=rmd_lt (o:=o) (i:=i) hn
 unfold dig
 have:2*rmd o n i / n<2:=(Nat.div_lt_iff_lt_mul hn).2 (by omega)
 omega
def gR (o n i:Nat):Rat:=((rmd o n i:Nat):Rat) / (n:Rat)*hlf i
theorem hlf_pos:∀ k,0<hlf k
 | 0=>by decide +kernel
 | k+1=>by
  have:=hlf_pos k
  rw [hlf]
  grind
theorem hlf_add (a:Nat):∀ p,hlf (a+p)=hlf a*hlf p
 | 0=>(Rat.mul_one _).symm
 | p+1=>by rw [← Nat.add_assoc,hlf,hlf,hlf_add a p,Rat.mul_assoc]
theorem hlf_lt:∀ p,1≤p→hlf p<1
 | 1,_=>by decide +kernel
 | p+2,_=>by
  have h1:=hlf_lt (p+1) (by omega)
  have h2:=hlf_pos (p+1)
  rw [hlf]
  grind
theorem n_ne {n:Nat} (hn:0<n):(n:Rat)≠0:=by
 intro h
 have:n=0:=by exact_mod_cast h
 omega
theorem div_mulR (x:Rat) {n:Rat} (hn:n≠0):x / n*n=x:=Rat.div_mul_cancel hn
theorem gR_le {o n i:Nat} (hn:0<n):gR o n i≤hlf i:=by
 unfold gR
 have h1:(0:Rat)<n:=by exact_mod_cast hn
 have h2:((rmd o n i:Nat):Rat)<n:=by exact_mod_cast rmd_lt hn
 have h3:=div_mulR ((rmd o n i:Nat):Rat) (n_ne hn)
 have h4:((rmd o n i:Nat):Rat) / (n:Rat)≤1:=by
  generalize ((rmd o n i:Nat):Rat) / (n:Rat)=x at *
  by_cases hx:x≤1
  ·exact hx
  ·have:=Rat.mul_lt_mul_of_pos_right (show 1<x by grind) h1
   grind
 have h5:=Rat.mul_le_mul_of_nonneg_right h4 (show 0≤hlf i by have:=hlf_pos i;grind)
 rw [Rat.one_mul] at h5
 exact h5
theorem dig_g {o n i:Nat} (hn:0<n):((dig o n i:Nat):Rat)*hlf (i+1)=gR o n i-gR o n (i+1):=by
 have h:((2*rmd o n i:Nat):Rat)=((dig o n i*n+rmd o n (i+1):Nat):Rat):=by rw [dig_eq]
 push_cast at h
 unfold gR
 have h0:=n_ne hn
 have h1:=div_mulR ((rmd o n i:Nat):Rat) h0
 have h2:=div_mulR ((rmd o n (i+1):Nat):Rat) h0
 generalize ((rmd o n i:Nat):Rat) / (n:Rat)=x at *
 generalize ((rmd o n (i+1):Nat):Rat) / (n:Rat)=y at *
 rw [← h1,← h2] at h
 have h3:(2*x-((dig o n i:Nat):Rat)-y)*(n:Rat)=0:=by grind
 have h4:2*x-((dig o n i:Nat):Rat)-y=0:=by
  rcases Rat.mul_eq_zero.1 h3 with h | h
  ·exact h
  ·exact absurd h h0
 rw [hlf]
 grind
theorem sum_dig {o n:Nat} (hn:0<n):∀ b,(sumN b fun i=>((dig o n i:Nat):Rat)*hlf (i+1))=gR o n 0-gR o n b
 | 0=>by
  show (0:Rat)=_
  grind
 | b+1=>by
  rw [sumN_succ,sum_dig hn b,dig_g hn]
  grind
theorem sum_idig {o n:Nat} (hn:0<n):∀ b,(sumN b fun i=>(((i+1)*dig o n i:Nat):Rat)*hlf (i+1))=sumN b (gR o n)-((b:Nat):Rat)*gR o n b
 | 0=>by
  show (0:Rat)=(0:Rat)-((0:Nat):Rat)*gR o n 0
  have:((0:Nat):Rat)=0:=rfl
  rw [this]
  grind
 | b+1=>by
  rw [sumN_succ,sum_idig hn b,sumN_succ]
  have h:=dig_g (o:=o) (n:=n) (i:=b) hn
  push_cast
  grind
theorem sumN_if (f:Nat→Rat)(a:Nat):∀ p,(sumN (a+p) fun i=>if i<a then f i else 0)=sumN a f
 | 0=>sumN_congr fun i hi=>if_pos hi
 | p+1=>by
  rw [← Nat.add_assoc,sumN_succ,sumN_if f a p,if_neg (by omega),Rat.add_zero]
theorem sumN_else (f:Nat→Rat)(a:Nat):∀ p,(sumN (a+p) fun i=>if i<a then 0 else f i)=sumN (a+p) f-sumN a f
 | 0=>by
  rw [Nat.add_zero,sumN_eq_zero fun i hi=>if_pos hi]
  grind
 | p+1=>by
  rw [← Nat.add_assoc,sumN_succ,sumN_else f a p,if_neg (by omega),sumN_succ]
  grind
def dgV (o n a p:Nat):Rat:=sumN a (gR o n)+(sumN (a+p) (gR o n)-sumN a (gR o n)) / (1-hlf p)
theorem gR_again {o n a p:Nat} (hr:rmd o n (a+p)=rmd o n a):∀ j,rmd o n (a+j+p)=rmd o n (a+j)
 | 0=>hr
 | j+1=>by
  have ih:=gR_again hr j
  rw [show a+(j+1)+p=a+j+p+1 by omega,rmd_succ,ih,← rmd_succ]
  rfl
theorem gR_shift {o n a p K:Nat} (hr:rmd o n (a+p)=rmd o n a)(hK:a≤K):gR o n (K+p)=gR o n K*hlf p:=by
 obtain ⟨j,rfl⟩:∃ j,K=a+j:=⟨K-a,by omega⟩
 unfold gR
 rw [gR_again hr j,hlf_add (a+j) p,Rat.mul_assoc]
theorem dgV_eq {o n a p:Nat} (hn:0<n) (hp:1≤p) (hr:rmd o n (a+p)=rmd o n a) :
  (sumN (a+p) fun i=>((if i<a then (i+1)*dig o n i else 0:Nat):Rat)*hlf (i+1))+((sumN (a+p) fun i=>((if i<a then 0 else (i+1)*dig o n i:Nat):Rat)*hlf (i+1)) / (1-hlf p)+((sumN (a+p) fun i=>((if i<a then 0 else dig o n i:Nat):Rat)*hlf (i+1))*((p:Nat):Rat)*hlf p) / ((1-hlf p)*(1-hlf p)))=dgV o n a p:=by
 have e1:(sumN (a+p) fun i=>((if i<a then (i+1)*dig o n i else 0:Nat):Rat)*hlf (i+1))=sumN a fun i=>(((i+1)*dig o n i:Nat):Rat)*hlf (i+1):=by
  rw [← sumN_if _ a p]
  refine sumN_congr fun i _=>?_
  by_cases h:i<a
  ·simp only [h,if_true]
  ·simp only [h,if_false]
   exact Rat.zero_mul _
 have e2:(sumN (a+p) fun i=>((if i<a then 0 else (i+1)*dig o n i:Nat):Rat)*hlf (i+1))=sumN (a+p) (fun i=>(((i+1)*dig o n i:Nat):Rat)*hlf (i+1))-sumN a fun i=>(((i+1)*dig o n i:Nat):Rat)*hlf (i+1):=by
  rw [← sumN_else _ a p]
  refine sumN_congr fun i _=>?_
  by_cases h:i<a
  ·simp only [h,if_true]
   exact Rat.zero_mul _
  ·simp only [h,if_false]
 have e3:(sumN (a+p) fun i=>((if i<a then 0 else dig o n i:Nat):Rat)*hlf (i+1))=sumN (a+p) (fun i=>((dig o n i:Nat):Rat)*hlf (i+1))-sumN a fun i=>((dig o n i:Nat):Rat)*hlf (i+1):=by
  rw [← sumN_else _ a p]
  refine sumN_congr fun i _=>?_
  by_cases h:i<a
  ·simp only [h,if_true]
   exact Rat.zero_mul _
  ·simp only [h,if_false]
 rw [e1,e2,e3,sum_idig hn,sum_idig hn,sum_dig hn,sum_dig hn,gR_shift hr (Nat.le_refl _)]
 unfold dgV
 have h1:=hlf_lt p hp
 generalize hlf p=q at *
 have hq:1-q≠0:=by grind
 generalize sumN a (gR o n)=s
 generalize sumN (a+p) (gR o n)=S
 generalize gR o n a=g
 generalize gR o n 0=g0
 push_cast
 generalize ((a:Nat):Rat)=x
 generalize ((p:Nat):Rat)=y
 obtain ⟨d,hd⟩:∃ d:Rat,1-q=d:=⟨_,rfl⟩
 have hq':q=1-d:=by grind
 rw [hd] at hq ⊢
 subst hq'
 obtain ⟨i,hi⟩:∃ i:Rat,d⁻¹=i:=⟨_,rfl⟩
 have hdi:d*i=1:=by rw [← hi];exact Rat.mul_inv_cancel d hq
 have hdd:(d*d)⁻¹=i*i:=by
  have h0:d*d≠0:=fun h=>by rcases Rat.mul_eq_zero.1 h with h | h<;>exact hq h
  have h2:(d*d)*(d*d)⁻¹=1:=Rat.mul_inv_cancel _ h0
  generalize (d*d)⁻¹=z at *
  have:z=(d*i)*(d*i)*z:=by rw [hdi];grind
  rw [this]
  have:d*i*(d*i)*z=(d*d*z)*(i*i):=by grind
  rw [this,h2,Rat.one_mul]
 rw [Rat.div_def,Rat.div_def,Rat.div_def,hdd,hi]
 grind
theorem dgV_le {o n a p:Nat} (hn:0<n)(hp:1≤p)(hr:rmd o n (a+p)=rmd o n a)(K:Nat):dgV o n a p≤sumN K (gR o n)+2*hlf K:=by
 have h1:=hlf_lt p hp
 have hd:1-hlf p≠0:=by grind
 have t0:dgV o n a p-sumN (a+p) (gR o n)=(dgV o n a p-sumN a (gR o n))*hlf p:=by
  unfold dgV
  have h:=div_mulR (sumN (a+p) (gR o n)-sumN a (gR o n)) hd
  generalize (sumN (a+p) (gR o n)-sumN a (gR o n)) / (1-hlf p)=z at *
  grind
 have tj:∀ j,dgV o n a p-sumN (a+j+p) (gR o n)=(dgV o n a p-sumN (a+j) (gR o n))*hlf p:=fun j=>by
  induction j with
  | zero=>exact t0
  | succ j ih=>
   have hs:=gR_shift hr (show a≤a+j by omega)
   rw [show a+(j+1)+p=a+j+p+1 by omega,show a+(j+1)=a+j+1 by omega,sumN_succ,sumN_succ,hs]
   grind
 have big:∀ j,dgV o n a p≤sumN (a+j) (gR o n)+2*hlf (a+j):=fun j=>by
  have dec:∀ i,2*hlf (a+j+i)-(dgV o n a p-sumN (a+j+i) (gR o n))≤2*hlf (a+j)-(dgV o n a p-sumN (a+j) (gR o n)):=fun i=>by
   induction i with
   | zero=>exact Rat.le_refl
   | succ i ih=>
    have hg:=gR_le (o:=o) (i:=a+j+i) hn
    rw [← Nat.add_assoc,hlf,sumN_succ]
    grind
  have hd2:=dec p
  rw [tj j,hlf_add (a+j) p] at hd2
  have h3:0≤(2*hlf (a+j)-(dgV o n a p-sumN (a+j) (gR o n)))*(1-hlf p):=by grind
  have h4:0<1-hlf p:=by grind
  generalize hb:2*hlf (a+j)-(dgV o n a p-sumN (a+j) (gR o n))=b at *
  by_cases hb0:0≤b
  ·grind
  ·have h5:0 < -b:=by grind
   have:=Rat.mul_pos h5 h4
   grind
 by_cases hK:a≤K
 ·obtain ⟨j,rfl⟩:∃ j,K=a+j:=⟨K-a,by omega⟩
  exact big j
 ·have dec:∀ i,i≤a→dgV o n a p≤sumN (a-i) (gR o n)+2*hlf (a-i):=fun i=>by
   induction i with
   | zero=>intro _;exact big 0
   | succ i ih=>
    intro hi
    have ih:=ih (by omega)
    obtain ⟨k,hk⟩:∃ k,a-i=k+1:=⟨a-i-1,by omega⟩
    have hg:=gR_le (o:=o) (i:=k) hn
    rw [hk,sumN_succ,hlf] at ih
    rw [show a-(i+1)=k by omega]
    grind
  have:=dec (a-K) (by omega)
  rwa [show a-(a-K)=K by omega] at this
theorem hlf_small {c:Rat} {x:Rat} (hx:0<x):∃ K,c*hlf K<x:=by
 obtain ⟨C,hC⟩:∃ C:Nat,c≤(C:Rat):=by
  refine ⟨c.ceil.toNat,?_⟩
  have h:=Rat.le_ceil (x:=c)
  have h2:c.ceil≤(c.ceil.toNat:Int):=Int.self_le_toNat _
  have h3:(c.ceil:Rat)≤((c.ceil.toNat:Int):Rat):=Rat.intCast_le_intCast.2 h2
  rw [Rat.intCast_natCast] at h3
  grind
 refine ⟨C*x.den,?_⟩
 have h1:=hlf_pow (C*x.den)
 have h2:=hlf_pos (C*x.den)
 have h3:C*x.den<2 ^ (C*x.den):=Nat.lt_two_pow_self
 have h3':((C*x.den:Nat):Rat)<((2 ^ (C*x.den):Nat):Rat):=by exact_mod_cast h3
 generalize hlf (C*x.den)=h at *
 generalize ((2 ^ (C*x.den):Nat):Rat)=w at *
 have hd0:(x.den:Rat)≠0:=n_ne x.den_pos
 have hdp:(0:Rat)<(x.den:Rat):=by exact_mod_cast x.den_pos
 have h4:x*(x.den:Rat)=(x.num:Rat):=by
  have h:=div_mulR (x.num:Rat) hd0
  rwa [← Rat.mkRat_eq_div,Rat.mkRat_self] at h
 have h5:(1:Rat)≤(x.num:Rat):=by
  have hp:=Rat.mul_pos hx hdp
  rw [h4] at hp
  have hp:(0:Int)<x.num:=by exact_mod_cast hp
  have:(1:Int)≤x.num:=by omega
  exact_mod_cast this
 rw [Rat.natCast_mul] at h3'
 have h6:(C:Rat)*(x.den:Rat)*h<1:=by
  have:=Rat.mul_lt_mul_of_pos_right h3' h2
  grind
 have h7:c*h≤(C:Rat)*h:=Rat.mul_le_mul_of_nonneg_right hC (by grind)
 by_cases hlt:c*h<x
 ·exact hlt
 ·have h8:x≤(C:Rat)*h:=by grind
  have h9:=Rat.mul_le_mul_of_nonneg_right h8 (show (0:Rat)≤(x.den:Rat) by grind)
  grind
theorem le_of_hlf {c x y:Rat} (h:∀ K,x≤y+c*hlf K):x≤y:=by
 by_cases hxy:x≤y
 ·exact hxy
 ·obtain ⟨K,hK⟩:=hlf_small (c:=c) (x:=x-y) (by grind)
  have:=h K
  grind
theorem gR_out {o N c t:Nat} (hN:0<N)(h:((c:Nat):Rat)*hlf t≤((o:Nat):Rat) / (N:Rat)):((c:Nat):Rat)*hlf t+gR o N t≤((o:Nat):Rat) / (N:Rat):=by
 have h0:=n_ne hN
 have hNp:(0:Rat)<N:=by exact_mod_cast hN
 have hw:=hlf_pow t
 have hp:=hlf_pos t
 have h1:=div_mulR ((o:Nat):Rat) h0
 have h2:=div_mulR ((rmd o N t:Nat):Rat) h0
 have hw0:(0:Rat)<((2 ^ t:Nat):Rat):=by exact_mod_cast Nat.two_pow_pos t
 have hc:c*N≤o*2 ^ t:=by
  have h3:=Rat.mul_le_mul_of_nonneg_right h (show (0:Rat)≤(N:Rat)*((2 ^ t:Nat):Rat) by exact Rat.mul_nonneg (by grind) (by grind))
  have h4:((c:Nat):Rat)*hlf t*((N:Rat)*((2 ^ t:Nat):Rat))=((c*N:Nat):Rat):=by
   rw [Rat.natCast_mul]
   grind
  have h5:((o:Nat):Rat) / (N:Rat)*((N:Rat)*((2 ^ t:Nat):Rat))=((o*2 ^ t:Nat):Rat):=by
   rw [← Rat.mul_assoc,h1,Rat.natCast_mul]
  rw [h4,h5] at h3
  exact_mod_cast h3
 have hm:rmd o N t≤o*2 ^ t-N*c:=by
  unfold rmd
  rw [← Nat.sub_mul_mod (x:=o*2 ^ t) (n:=N) (k:=c) (by rw [Nat.mul_comm];exact hc)]
  exact Nat.mod_le _ _
 have hm2:rmd o N t+c*N≤o*2 ^ t:=by
  rw [Nat.mul_comm N c] at hm
  omega
 have hm3:((rmd o N t:Nat):Rat)+((c:Nat):Rat)*(N:Rat)≤((o:Nat):Rat)*((2 ^ t:Nat):Rat):=by exact_mod_cast hm2
 unfold gR
 generalize ((rmd o N t:Nat):Rat) / (N:Rat)=r at *
 generalize ((o:Nat):Rat) / (N:Rat)=O at *
 generalize ((2 ^ t:Nat):Rat)=w at *
 generalize hlf t=g at *
 rw [← h1,← h2] at hm3
 have h6:(r+(c:Rat))*(N:Rat)≤O*w*(N:Rat):=by grind
 have h7:r+(c:Rat)≤O*w:=by
  by_cases hle:r+(c:Rat)≤O*w
  ·exact hle
  ·have:=Rat.mul_lt_mul_of_pos_right (show O*w<r+(c:Rat) by grind) hNp
   grind
 have hh0:(0:Rat)≤g:=by grind
 have h8:=Rat.mul_le_mul_of_nonneg_right h7 hh0
 have h9:O*w*g=O:=by
  rw [Rat.mul_assoc,Rat.mul_comm w g,hw,Rat.mul_one]
 rw [h9] at h8
 grind
theorem vis_part {n m:Nat} {A B:Mx} {v x:Nat→Rat} (hC:(chn n m A B).Ok)(hx0:∀ i,i<n→0≤x i)(hf:∀ i,i<n→x i=v i+sumN n fun k=>x k*A k i):∀ K,∃ y:Nat→Rat,(∀ i,i<n→0≤y i)∧(∀ i,i<n→y i=atC n A v K i+sumN n fun k=>y k*A k i)∧∀ i,i<n→x i=(sumN K fun t=>atC n A v t i)+y i
 | 0=>⟨x,hx0,hf,fun i _=>by show x i=0+x i;exact (Rat.zero_add _).symm⟩
 | K+1=>by
  obtain ⟨y,h1,h2,h3⟩:=vis_part hC hx0 hf K
  refine ⟨fun i=>sumN n fun k=>y k*A k i,fun i hi=>sumN_nonneg fun k hk=>Rat.mul_nonneg (h1 k hk) (hC.M0 k i hk hi),fun i hi=>?_,fun i hi=>?_⟩
  ·show (sumN n fun k=>y k*A k i)=(sumN n fun k=>atC n A v K k*A k i)+sumN n fun k=>(sumN n fun l=>y l*A l k)*A k i
   rw [← sumN_add]
   refine sumN_congr fun k hk=>?_
   have h4:=h2 k hk
   generalize (sumN n fun l=>y l*A l k)=z at *
   rw [h4]
   grind
  ·show x i=(sumN K fun t=>atC n A v t i)+atC n A v K i+sumN n fun k=>y k*A k i
   rw [h3 i hi]
   have h4:=h2 i hi
   generalize (sumN n fun l=>y l*A l i)=z at *
   rw [h4]
   grind
theorem e1_sum {n:Nat} (hn:1≤n):sumN n e1=1:=by
 rw [sumN_single (f:=e1) (k:=0) (by omega) fun i _ hne=>if_neg hne]
 rfl
theorem mean_ge {T:T2} {m N:Nat} (h0:1≤T.length)(hr:∀ x ∈ T,(-64≤x.1∧x.1<T.length)∧-64≤x.2∧x.2<T.length)(q:Sm9 T.length m (chA T) (chB T) e1)(hnv:neverQ T.length m (chA T) (chB T) e1=0) {o:Nat→Nat} (hN:0<N)(ho:∀ j,j<m→thr T.length e1 (eachM T.length m (chA T) (chB T)) j=((o j:Nat):Rat) / (N:Rat)) (K:Nat) :
  (sumN K fun t=>sumN m fun j=>gR (o j) N t)≤sumN T.length (visV T.length m (chA T) (chB T) e1):=by
 have hok:=isC_ok q.hC
 have he:∀ i,i<T.length→0≤e1 i:=fun i _=>by unfold e1;split<;>decide +kernel
 have hv:=q.isVis
 have hx0:=hv.nonneg hok he
 have hfl:=hv.flow hok q.is he (q.never_eq ▸ hnv)
 obtain ⟨y,h1,h2,h3⟩:=vis_part hok hx0 hfl K
 have e:sumN T.length (visV T.length m (chA T) (chB T) e1)=(sumN K fun t=>sumN T.length (atC T.length (chA T) e1 t))+sumN T.length y:=by
  rw [sumN_congr h3,sumN_add,sumN_swap]
 have hy:0≤sumN T.length y:=sumN_nonneg h1
 rw [e]
 have key:(sumN K fun t=>sumN m fun j=>gR (o j) N t)≤sumN K fun t=>sumN T.length (atC T.length (chA T) e1 t):=sumN_le fun t _=>by
  have ht:=Chn.total hok e1 t
  have ht:sumN T.length ((chn T.length m (chA T) (chB T)).at e1 t)+sumN m ((chn T.length m (chA T) (chB T)).outs e1 t)=sumN T.length e1:=ht
  rw [(at_atC ..).1,(at_atC ..).2,e1_sum h0] at ht
  have hnv':sumN T.length e1-sumN m (thr T.length e1 (eachM T.length m (chA T) (chB T)))=0:=hnv
  rw [e1_sum h0] at hnv'
  have hle:(sumN m fun j=>outC T.length (chA T) (chB T) e1 t j+gR (o j) N t)≤sumN m (thr T.length e1 (eachM T.length m (chA T) (chB T))):=sumN_le fun j hj=>by
   have hs:=Chn.ends_split hok q.is e1 t j hj
   have hs:thr T.length e1 (eachM T.length m (chA T) (chB T)) j=(chn T.length m (chA T) (chB T)).outs e1 t j+sumN T.length fun i=>(chn T.length m (chA T) (chB T)).at e1 t i*eachM T.length m (chA T) (chB T) i j:=hs
   rw [(at_atC ..).1,(at_atC ..).2] at hs
   have hat:=Chn.at_nonneg hok he t
   rw [(at_atC ..).1] at hat
   have hX:=q.is.nonneg hok
   have hnn:0≤sumN T.length fun i=>atC T.length (chA T) e1 t i*eachM T.length m (chA T) (chB T) i j:=sumN_nonneg fun i hi=>Rat.mul_nonneg (hat i hi) (hX i j hi hj)
   rw [outC_cS h0 hr] at hs ⊢
   rw [ho j hj] at hs ⊢
   exact gR_out hN (by grind)
  rw [sumN_add] at hle
  grind
 grind
end Go.Proofs.YteidabibgjokkaaGreatDoor
