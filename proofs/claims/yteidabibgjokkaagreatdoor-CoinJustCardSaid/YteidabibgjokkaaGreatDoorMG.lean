import Derived.Test.YteidabibgjokkaaGreatDoorME
import Derived.Test.YteidabibgjokkaaGreatDoorMJ
import Derived.Test.YteidabibgjokkaaGreatDoorHF
set_option maxRecDepth 20000
set_option linter.all false
namespace Go.Proofs.YteidabibgjokkaaGreatDoor
open Go Go.Proofs.YteidabibgjokkaaGreatDoor.Lift
attribute [local irreducible] Lift.PCall Lift.HCall
def cN (f:Nat→Int) (v:Int):Nat→Nat
 | 0=>0
 | n+1=>cN f v n+hit (f n) v
def nxS (T:T2) (s:Int) (c:Bool):Int:=if s<0 then s else stepC (T.getD s.toNat z2) c
def stS (T:T2) (n:Nat):Nat→Int
 | 0=>0
 | k+1=>nxS T (stS T n k) (n.testBit k)
def cS (T:T2) (k:Nat) (v:Int):Nat:=cN (fun n=>stS T n k) v (2 ^ k)
def hlf:Nat→Rat
 | 0=>1
 | k+1=>hlf k*(1 / 2)
theorem hlf_pow:∀ k,hlf k*((2 ^ k:Nat):Rat)=1
 | 0=>by decide +kernel
 | k+1=>by
  have ih:=hlf_pow k
  rw [hlf,Nat.pow_succ]
  push_cast at *
  grind
theorem half_row {T:T2} {w:Nat→Int} {i k:Nat} (h:i<T.length):hM T w T.length 0 i k=(((hit (T.getD i z2).1 (w k):Nat):Rat)+((hit (T.getD i z2).2 (w k):Nat):Rat))*(1 / 2):=by
 show ((cnt T w T.length 0 i k:Nat):Rat) / 2=_
 rw [cnt_full h]
 push_cast
 grind
theorem hlf_rq (c k:Nat):((c:Nat):Rat)*hlf k=rq false c (2 ^ k):=by
 have e:rq false c (2 ^ k)=mkRat (c:Int) (2 ^ k):=rfl
 have h:=hlf_pow k
 have h2:((2 ^ k:Nat):Rat)≠0:=fun h0=>by rw [h0,Rat.mul_zero] at h;exact absurd h (by decide +kernel)
 rw [e,Rat.mkRat_eq_div]
 show (c:Rat)*hlf k=((c:Int):Rat) / ((2 ^ k:Nat):Rat)
 rw [Rat.intCast_natCast]
 grind
def rmd (o n i:Nat):Nat:=o*2 ^ i % n
def dig (o n i:Nat):Nat:=2*rmd o n i / n
theorem rmd_succ (o n i:Nat):rmd o n (i+1)=2*rmd o n i % n:=by
 unfold rmd
 rw [Nat.pow_succ,← Nat.mul_assoc,Nat.mul_comm 2,Nat.mul_mod (o*2 ^ i % n),Nat.mod_mod,← Nat.mul_mod]
theorem rmd_lt {o n i:Nat} (hn:0<n):rmd o n i<n:=Nat.mod_lt _ hn
theorem dig_eq (o n i:Nat):2*rmd o n i=dig o n i*n+rmd o n (i+1):=by
 have h:=Nat.div_add_mod (2*rmd o n i) n
 rw [rmd_succ]
 unfold dig
 rw [Nat.mul_comm (2*rmd o n i / n)]
 omega
theorem dig_le {o n i:Nat} (hn:0<n):dig o n i≤1:=by
 have h:=rmd_lt (o:=o) (i:=i) hn
 unfold dig
 have:2*rmd o n i / n<2:=(Nat.div_lt_iff_lt_mul hn).2 (by omega)
 omega
def gR (o n i:Nat):Rat:=((rmd o n i:Nat):Rat) / (n:Rat)*hlf i
theorem hlf_pos:∀ k,0<hlf k
 | 0=>by decide +kernel
 | k+1=>by
  have:=hlf_pos k
  rw [hlf]
  grind
theorem hlf_add (a:Nat):∀ p,hlf (a+p)=hlf a*hlf p
 | 0=>(Rat.mul_one _).symm
 | p+1=>by rw [← Nat.add_assoc,hlf,hlf,hlf_add a p,Rat.mul_assoc]
theorem hlf_lt:∀ p,1≤p→hlf p<1
 | 1,_=>by decide +kernel
 | p+2,_=>by
  have h1:=hlf_lt (p+1) (by omega)
  have h2:=hlf_pos (p+1)
  rw [hlf]
  grind
theorem n_ne {n:Nat} (hn:0<n):(n:Rat)≠0:=by
 intro h
 have:n=0:=by exact_mod_cast h
 omega
theorem div_mulR (x:Rat) {n:Rat} (hn:n≠0):x / n*n=x:=Rat.div_mul_cancel hn
theorem gR_le {o n i:Nat} (hn:0<n):gR o n i≤hlf i:=by
 unfold gR
 have h1:(0:Rat)<n:=by exact_mod_cast hn
 have h2:((rmd o n i:Nat):Rat)<n:=by exact_mod_cast rmd_lt hn
 have h3:=div_mulR ((rmd o n i:Nat):Rat) (n_ne hn)
 have h4:((rmd o n i:Nat):Rat) / (n:Rat)≤1:=by
  generalize ((rmd o n i:Nat):Rat) / (n:Rat)=x at *
  by_cases hx:x≤1
  ·exact hx
  ·have:=Rat.mul_lt_mul_of_pos_right (show 1<x by grind) h1
   grind
 have h5:=Rat.mul_le_mul_of_nonneg_right h4 (show 0≤hlf i by have:=hlf_pos i;grind)
 rw [Rat.one_mul] at h5
 exact h5
theorem dig_g {o n i:Nat} (hn:0<n):((dig o n i:Nat):Rat)*hlf (i+1)=gR o n i-gR o n (i+1):=by
 have h:((2*rmd o n i:Nat):Rat)=((dig o n i*n+rmd o n (i+1):Nat):Rat):=by rw [dig_eq]
 push_cast at h
 unfold gR
 have h0:=n_ne hn
 have h1:=div_mulR ((rmd o n i:Nat):Rat) h0
 have h2:=div_mulR ((rmd o n (i+1):Nat):Rat) h0
 generalize ((rmd o n i:Nat):Rat) / (n:Rat)=x at *
 generalize ((rmd o n (i+1):Nat):Rat) / (n:Rat)=y at *
 rw [← h1,← h2] at h
 have h3:(2*x-((dig o n i:Nat):Rat)-y)*(n:Rat)=0:=by grind
 have h4:2*x-((dig o n i:Nat):Rat)-y=0:=by
  rcases Rat.mul_eq_zero.1 h3 with h | h
  ·exact h
  ·exact absurd h h0
 rw [hlf]
 grind
theorem sum_dig {o n:Nat} (hn:0<n):∀ b,(sumN b fun i=>((dig o n i:Nat):Rat)*hlf (i+1))=gR o n 0-gR o n b
 | 0=>by
  show (0:Rat)=_
  grind
 | b+1=>by
  rw [sumN_succ,sum_dig hn b,dig_g hn]
  grind
theorem sum_idig {o n:Nat} (hn:0<n):∀ b,(sumN b fun i=>(((i+1)*dig o n i:Nat):Rat)*hlf (i+1))=sumN b (gR o n)-((b:Nat):Rat)*gR o n b
 | 0=>by
  show (0:Rat)=(0:Rat)-((0:Nat):Rat)*gR o n 0
  have:((0:Nat):Rat)=0:=rfl
  rw [this]
  grind
 | b+1=>by
  rw [sumN_succ,sum_idig hn b,sumN_succ]
  have h:=dig_g (o:=o) (n:=n) (i:=b) hn
  push_cast
  grind
theorem sumN_if (f:Nat→Rat)(a:Nat):∀ p,(sumN (a+p) fun i=>if i<a then f i else 0)=sumN a f
 | 0=>sumN_congr fun i hi=>if_pos hi
 | p+1=>by
  rw [← Nat.add_assoc,sumN_succ,sumN_if f a p,if_neg (by omega),Rat.add_zero]
theorem sumN_else (f:Nat→Rat)(a:Nat):∀ p,(sumN (a+p) fun i=>if i<a then 0 else f i)=sumN (a+p) f-sumN a f
 | 0=>by
  rw [Nat.add_zero,sumN_eq_zero fun i hi=>if_pos hi]
  grind
 | p+1=>by
  rw [← Nat.add_assoc,sumN_succ,sumN_else f a p,if_neg (by omega),sumN_succ]
  grind
def dgV (o n a p:Nat):Rat:=sumN a (gR o n)+(sumN (a+p) (gR o n)-sumN a (gR o n)) / (1-hlf p)
theorem gR_again {o n a p:Nat} (hr:rmd o n (a+p)=rmd o n a):∀ j,rmd o n (a+j+p)=rmd o n (a+j)
 | 0=>hr
 | j+1=>by
  have ih:=gR_again hr j
  rw [show a+(j+1)+p=a+j+p+1 by omega,rmd_succ,ih,← rmd_succ]
  rfl
theorem gR_shift {o n a p K:Nat} (hr:rmd o n (a+p)=rmd o n a)(hK:a≤K):gR o n (K+p)=gR o n K*hlf p:=by
 obtain ⟨j,rfl⟩:∃ j,K=a+j:=⟨K-a,by omega⟩
 unfold gR
 rw [gR_again hr j,hlf_add (a+j) p,Rat.mul_assoc]
theorem dgV_eq {o n a p:Nat} (hn:0<n) (hp:1≤p) (hr:rmd o n (a+p)=rmd o n a) :
  (sumN (a+p) fun i=>((if i<a then (i+1)*dig o n i else 0:Nat):Rat)*hlf (i+1))+((sumN (a+p) fun i=>((if i<a then 0 else (i+1)*dig o n i:Nat):Rat)*hlf (i+1)) / (1-hlf p)+((sumN (a+p) fun i=>((if i<a then 0 else dig o n i:Nat):Rat)*hlf (i+1))*((p:Nat):Rat)*hlf p) / ((1-hlf p)*(1-hlf p)))=dgV o n a p:=by
 have e1:(sumN (a+p) fun i=>((if i<a then (i+1)*dig o n i else 0:Nat):Rat)*hlf (i+1))=sumN a fun i=>(((i+1)*dig o n i:Nat):Rat)*hlf (i+1):=by
  rw [← sumN_if _ a p]
  refine sumN_congr fun i _=>?_
  by_cases h:i<a
  ·simp only [h,if_true]
  ·simp only [h,if_false]
   exact Rat.zero_mul _
 have e2:(sumN (a+p) fun i=>((if i<a then 0 else (i+1)*dig o n i:Nat):Rat)*hlf (i+1))=sumN (a+p) (fun i=>(((i+1)*dig o n i:Nat):Rat)*hlf (i+1))-sumN a fun i=>(((i+1)*dig o n i:Nat):Rat)*hlf (i+1):=by
  rw [← sumN_else _ a p]
  refine sumN_congr fun i _=>?_
  by_cases h:i<a
  ·simp only [h,if_true]
   exact Rat.zero_mul _
  ·simp only [h,if_false]
 have e3:(sumN (a+p) fun i=>((if i<a then 0 else dig o n i:Nat):Rat)*hlf (i+1))=sumN (a+p) (fun i=>((dig o n i:Nat):Rat)*hlf (i+1))-sumN a fun i=>((dig o n i:Nat):Rat)*hlf (i+1):=by
  rw [← sumN_else _ a p]
  refine sumN_congr fun i _=>?_
  by_cases h:i<a
  ·simp only [h,if_true]
   exact Rat.zero_mul _
  ·simp only [h,if_false]
 rw [e1,e2,e3,sum_idig hn,sum_idig hn,sum_dig hn,sum_dig hn,gR_shift hr (Nat.le_refl _)]
 unfold dgV
 have h1:=hlf_lt p hp
 generalize hlf p=q at *
 have hq:1-q≠0:=by grind
 generalize sumN a (gR o n)=s
 generalize sumN (a+p) (gR o n)=S
 generalize gR o n a=g
 generalize gR o n 0=g0
 push_cast
 generalize ((a:Nat):Rat)=x
 generalize ((p:Nat):Rat)=y
 obtain ⟨d,hd⟩:∃ d:Rat,1-q=d:=⟨_,rfl⟩
 have hq':q=1-d:=by grind
 rw [hd] at hq ⊢
 subst hq'
 obtain ⟨i,hi⟩:∃ i:Rat,d⁻¹=i:=⟨_,rfl⟩
 have hdi:d*i=1:=by rw [← hi];exact Rat.mul_inv_cancel d hq
 have hdd:(d*d)⁻¹=i*i:=by
  have h0:d*d≠0:=fun h=>by rcases Rat.mul_eq_zero.1 h with h | h<;>exact hq h
  have h2:(d*d)*(d*d)⁻¹=1:=Rat.mul_inv_cancel _ h0
  generalize (d*d)⁻¹=z at *
  have:z=(d*i)*(d*i)*z:=by rw [hdi];grind
  rw [this]
  have:d*i*(d*i)*z=(d*d*z)*(i*i):=by grind
  rw [this,h2,Rat.one_mul]
 rw [Rat.div_def,Rat.div_def,Rat.div_def,hdd,hi]
 grind
theorem dgV_le {o n a p:Nat} (hn:0<n)(hp:1≤p)(hr:rmd o n (a+p)=rmd o n a)(K:Nat):dgV o n a p≤sumN K (gR o n)+2*hlf K:=by
 have h1:=hlf_lt p hp
 have hd:1-hlf p≠0:=by grind
 have t0:dgV o n a p-sumN (a+p) (gR o n)=(dgV o n a p-sumN a (gR o n))*hlf p:=by
  unfold dgV
  have h:=div_mulR (sumN (a+p) (gR o n)-sumN a (gR o n)) hd
  generalize (sumN (a+p) (gR o n)-sumN a (gR o n)) / (1-hlf p)=z at *
  grind
 have tj:∀ j,dgV o n a p-sumN (a+j+p) (gR o n)=(dgV o n a p-sumN (a+j) (gR o n))*hlf p:=fun j=>by
  induction j with
  | zero=>exact t0
  | succ j ih=>
   have hs:=gR_shift hr (show a≤a+j by omega)
   rw [show a+(j+1)+p=a+j+p+1 by omega,show a+(j+1)=a+j+1 by omega,sumN_succ,sumN_succ,hs]
   grind
 have big:∀ j,dgV o n a p≤sumN (a+j) (gR o n)+2*hlf (a+j):=fun j=>by
  have dec:∀ i,2*hlf (a+j+i)-(dgV o n a p-sumN (a+j+i) (gR o n))≤2*hlf (a+j)-(dgV o n a p-sumN (a+j) (gR o n)):=fun i=>by
   induction i with
   | zero=>exact Rat.le_refl
   | succ i ih=>
    have hg:=gR_le (o:=o) (i:=a+j+i) hn
    rw [← Nat.add_assoc,hlf,sumN_succ]
    grind
  have hd2:=dec p
  rw [tj j,hlf_add (a+j) p] at hd2
  have h3:0≤(2*hlf (a+j)-(dgV o n a p-sumN (a+j) (gR o n)))*(1-hlf p):=by grind
  have h4:0<1-hlf p:=by grind
  generalize hb:2*hlf (a+j)-(dgV o n a p-sumN (a+j) (gR o n))=b at *
  by_cases hb0:0≤b
  ·grind
  ·have h5:0 < -b:=by grind
   have:=Rat.mul_pos h5 h4
   grind
 by_cases hK:a≤K
 ·obtain ⟨j,rfl⟩:∃ j,K=a+j:=⟨K-a,by omega⟩
  exact big j
 ·have dec:∀ i,i≤a→dgV o n a p≤sumN (a-i) (gR o n)+2*hlf (a-i):=fun i=>by
   induction i with
   | zero=>intro _;exact big 0
   | succ i ih=>
    intro hi
    have ih:=ih (by omega)
    obtain ⟨k,hk⟩:∃ k,a-i=k+1:=⟨a-i-1,by omega⟩
    have hg:=gR_le (o:=o) (i:=k) hn
    rw [hk,sumN_succ,hlf] at ih
    rw [show a-(i+1)=k by omega]
    grind
  have:=dec (a-K) (by omega)
  rwa [show a-(a-K)=K by omega] at this
theorem hlf_small {c:Rat} {x:Rat} (hx:0<x):∃ K,c*hlf K<x:=by
 obtain ⟨C,hC⟩:∃ C:Nat,c≤(C:Rat):=by
  refine ⟨c.ceil.toNat,?_⟩
  have h:=Rat.le_ceil (x:=c)
  have h2:c.ceil≤(c.ceil.toNat:Int):=Int.self_le_toNat _
  have h3:(c.ceil:Rat)≤((c.ceil.toNat:Int):Rat):=Rat.intCast_le_intCast.2 h2
  rw [Rat.intCast_natCast] at h3
  grind
 refine ⟨C*x.den,?_⟩
 have h1:=hlf_pow (C*x.den)
 have h2:=hlf_pos (C*x.den)
 have h3:C*x.den<2 ^ (C*x.den):=Nat.lt_two_pow_self
 have h3':((C*x.den:Nat):Rat)<((2 ^ (C*x.den):Nat):Rat):=by exact_mod_cast h3
 generalize hlf (C*x.den)=h at *
 generalize ((2 ^ (C*x.den):Nat):Rat)=w at *
 have hd0:(x.den:Rat)≠0:=n_ne x.den_pos
 have hdp:(0:Rat)<(x.den:Rat):=by exact_mod_cast x.den_pos
 have h4:x*(x.den:Rat)=(x.num:Rat):=by
  have h:=div_mulR (x.num:Rat) hd0
  rwa [← Rat.mkRat_eq_div,Rat.mkRat_self] at h
 have h5:(1:Rat)≤(x.num:Rat):=by
  have hp:=Rat.mul_pos hx hdp
  rw [h4] at hp
  have hp:(0:Int)<x.num:=by exact_mod_cast hp
  have:(1:Int)≤x.num:=by omega
  exact_mod_cast this
 rw [Rat.natCast_mul] at h3'
 have h6:(C:Rat)*(x.den:Rat)*h<1:=by
  have:=Rat.mul_lt_mul_of_pos_right h3' h2
  grind
 have h7:c*h≤(C:Rat)*h:=Rat.mul_le_mul_of_nonneg_right hC (by grind)
 by_cases hlt:c*h<x
 ·exact hlt
 ·have h8:x≤(C:Rat)*h:=by grind
  have h9:=Rat.mul_le_mul_of_nonneg_right h8 (show (0:Rat)≤(x.den:Rat) by grind)
  grind
theorem le_of_hlf {c x y:Rat} (h:∀ K,x≤y+c*hlf K):x≤y:=by
 by_cases hxy:x≤y
 ·exact hxy
 ·obtain ⟨K,hK⟩:=hlf_small (c:=c) (x:=x-y) (by grind)
  have:=h K
  grind
theorem e1_sum {n:Nat} (hn:1≤n):sumN n e1=1:=by
 rw [sumN_single (f:=e1) (k:=0) (by omega) fun i _ hne=>if_neg hne]
 rfl
end Go.Proofs.YteidabibgjokkaaGreatDoor
