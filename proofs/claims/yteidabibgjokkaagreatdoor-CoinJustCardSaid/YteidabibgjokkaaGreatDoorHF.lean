import Derived.Test.YteidabibgjokkaaGreatDoorHD
import Derived.Test.YteidabibgjokkaaGreatDoorHL
set_option maxRecDepth 20000
set_option linter.all false
namespace Go.Proofs.YteidabibgjokkaaGreatDoor
open Go Go.Proofs.YteidabibgjokkaaGreatDoor.Lift
attribute [local irreducible] Lift.PCall Lift.HCall
theorem HD.mul {p q:Rat} {D E:Nat} (hp:HD p D)(hq:HD q E):HD (p*q) (D*E):=by
 obtain ⟨z,hz⟩:=hp
 obtain ⟨y,hy⟩:=hq
 refine ⟨z*y,?_⟩
 rw [Int.natCast_mul,Rat.intCast_mul,Rat.intCast_mul,← hz,← hy]
 grind
theorem HD.zero (D:Nat):HD 0 D:=⟨0,by rw [Rat.zero_mul];rfl⟩
theorem at_atC (n m:Nat)(A B:Mx)(v:Nat→Rat):∀ t,(chn n m A B).at v t=atC n A v t∧(chn n m A B).outs v t=outC n A B v t:=by
 intro t
 induction t with
 | zero=>exact ⟨rfl,rfl⟩
 | succ t ih=>
  refine ⟨?_,?_⟩
  ·show (chn n m A B).step ((chn n m A B).at v t)=thr n (atC n A v t) A
   rw [ih.1]
   rfl
  ·show (fun k=>(chn n m A B).outs v t k+(chn n m A B).ended ((chn n m A B).at v t) k)=fun k=>outC n A B v t k+thr n (atC n A v t) B k
   rw [ih.1,ih.2]
   rfl
def sumZ:Nat→(Nat→Int)→Int
 | 0,_=>0
 | n+1,f=>sumZ n f+f n
theorem sumZ_cast (n:Nat)(f:Nat→Int):((sumZ n f:Int):Rat)=sumN n fun i=>((f i:Int):Rat):=by
 induction n with
 | zero=>rfl
 | succ n ih=>
  show ((sumZ n f+f n:Int):Rat)=_
  rw [Rat.intCast_add,ih]
  rfl
theorem sumZ_le {n M:Nat} {f:Nat→Int} (h:∀ i,i<n→(f i).natAbs≤M):(sumZ n f).natAbs≤n*M:=by
 induction n with
 | zero=>exact Nat.zero_le _
 | succ n ih=>
  have h1:=ih fun i hi=>h i (by omega)
  have h2:=h n (by omega)
  have h3:=Int.natAbs_add_le (sumZ n f) (f n)
  rw [Nat.succ_mul]
  show (sumZ n f+f n).natAbs≤_
  omega
def sysB:Nat→Nat→Nat
 | 0,_=>1
 | n+1,K=>sysB n (2*K+1)+K+5
theorem mul_lt_pow {a b S K:Nat} (ha:a<2 ^ S)(hb:b<2 ^ K):a*b<2 ^ (S+K):=by
 rw [Nat.pow_add]
 exact Nat.mul_lt_mul'' ha hb
theorem castZ (a b c d:Int):((a*b-c*d:Int):Rat)=(a:Rat)*(b:Rat)-(c:Rat)*(d:Rat):=by rw [Rat.intCast_sub,Rat.intCast_mul,Rat.intCast_mul]
theorem sys_den:∀ (n K:Nat)(A:Nat→Nat→Int)(b:Nat→Int)(x:Nat→Rat),n≤16→NonSing n (fun i j=>((A i j:Int):Rat))→(∀ i j,i<n→j<n→(A i j).natAbs<2 ^ K)→(∀ i,i<n→(b i).natAbs<2 ^ K) →
  (∀ i,i<n→(sumN n fun j=>((A i j:Int):Rat)*x j)=((b i:Int):Rat)) →
  ∃ (D:Int) (z:Nat→Int),D≠0∧D.natAbs<2 ^ sysB n K∧∀ i,i<n→x i*(D:Rat)=(z i:Rat)∧(z i).natAbs<2 ^ sysB n K:=by
 intro n
 induction n with
 | zero=>exact fun K A b x _ _ _ _ _=>⟨1,fun _=>0,by decide,by show 1<2 ^ 1;decide,fun i hi=>absurd hi (Nat.not_lt_zero _)⟩
 | succ n ih=>
  intro K A b x hn hN hA hb hx
  obtain ⟨p,hp,hp0⟩:∃ p,p<n+1∧A p n≠0:=by
   apply Classical.byContradiction
   intro hne
   have h0:=hN (fun j=>if j=n then 1 else 0) (fun i hi=>by
    rw [sumN_single (k:=n) (by omega) (fun j _ hj=>by rw [if_neg hj,Rat.mul_zero])]
    have:A i n=0:=Classical.byContradiction fun h=>hne ⟨i,hi,h⟩
    show ((A i n:Int):Rat)*(if n=n then 1 else 0)=0
    rw [this]
    exact Rat.zero_mul _) n (by omega)
   rw [if_pos rfl] at h0
   exact absurd h0 (by decide)
  have hp0':((A p n:Int):Rat)≠0:=by exact_mod_cast hp0
  obtain ⟨r,hr⟩:∃ r:Nat→Nat,r=fun i=>if i=p then n else i:=⟨_,rfl⟩
  have hrl:∀ i,i<n→r i<n+1∧r i≠p:=by
   intro i hi
   rw [hr]
   show (if i=p then n else i)<n+1∧(if i=p then n else i)≠p
   split
   ·rename_i e
    exact ⟨by omega,by omega⟩
   ·rename_i e
    exact ⟨by omega,e⟩
  have hrs:∀ i,i<n+1→i≠p→∃ j,j<n∧r j=i:=by
   intro i hi hip
   by_cases e:i=n
   ·refine ⟨p,by omega,?_⟩
    rw [hr]
    show (if p=p then n else p)=i
    rw [if_pos rfl,e]
   ·refine ⟨i,by omega,?_⟩
    rw [hr]
    exact if_neg hip
  -- the smaller equations
  obtain ⟨A',hA'⟩:∃ A':Nat→Nat→Int,A'=fun i j=>A p n*A (r i) j-A (r i) n*A p j:=⟨_,rfl⟩
  obtain ⟨b',hb'⟩:∃ b':Nat→Int,b'=fun i=>A p n*b (r i)-A (r i) n*b p:=⟨_,rfl⟩
  have cA:∀ i j,((A' i j:Int):Rat)=(A p n:Rat)*(A (r i) j:Rat)-(A (r i) n:Rat)*(A p j:Rat):=fun i j=>by rw [hA'];exact castZ ..
  have cb:∀ i,((b' i:Int):Rat)=(A p n:Rat)*(b (r i):Rat)-(A (r i) n:Rat)*(b p:Rat):=fun i=>by rw [hb'];exact castZ ..
  have sA:∀ i (y:Nat→Rat),(sumN n fun j=>((A' i j:Int):Rat)*y j)=(A p n:Rat)*(sumN n fun j=>(A (r i) j:Rat)*y j)-(A (r i) n:Rat)*sumN n fun j=>(A p j:Rat)*y j:=by
   intro i y
   rw [← sumN_mul,← sumN_mul,← sumN_sub]
   exact sumN_congr fun j _=>by rw [cA];grind
  have hpow:∀ a c:Int,∀ d e:Int,a.natAbs<2 ^ K→c.natAbs<2 ^ K→d.natAbs<2 ^ K→e.natAbs<2 ^ K→(a*c-d*e).natAbs<2 ^ (2*K+1):=by
   intro a c d e h1 h2 h3 h4
   have k1:(a*c).natAbs<2 ^ (K+K):=by rw [Int.natAbs_mul];exact mul_lt_pow h1 h2
   have k2:(d*e).natAbs<2 ^ (K+K):=by rw [Int.natAbs_mul];exact mul_lt_pow h3 h4
   have k3:(2:Nat) ^ (2*K+1)=2 ^ (K+K)*2:=by rw [show 2*K+1=(K+K)+1 by omega,Nat.pow_succ]
   omega
  have hN':NonSing n fun i j=>((A' i j:Int):Rat):=by
   intro y hy
   obtain ⟨s,hs⟩:∃ s:Rat,s*(A p n:Rat)=-(sumN n fun j=>(A p j:Rat)*y j):=by
    refine ⟨-(sumN n fun j=>(A p j:Rat)*y j) / (A p n:Rat),?_⟩
    rw [Rat.div_mul_cancel hp0']
   have hcut:∀ i,(sumN n fun j=>(A i j:Rat)*(if j=n then s else y j))=sumN n fun j=>(A i j:Rat)*y j:=fun i=>sumN_congr fun j hj=>by rw [if_neg (by omega)]
   have hrow:∀ i,(sumN (n+1) fun j=>(A i j:Rat)*(if j=n then s else y j))=(sumN n fun j=>(A i j:Rat)*y j)+(A i n:Rat)*s:=by
    intro i
    rw [sumN_succ,hcut,if_pos rfl]
   have h0:=hN (fun j=>if j=n then s else y j) (fun i hi=>by
    show (sumN (n+1) fun j=>(A i j:Rat)*(if j=n then s else y j))=0
    rw [hrow]
    by_cases e:i=p
    ·subst e
     grind
    ·obtain ⟨j,hj,rfl⟩:=hrs i hi e
     have h1:=hy j hj
     have h1:(sumN n fun k=>((A' j k:Int):Rat)*y k)=0:=h1
     rw [sA] at h1
     have h2:(A p n:Rat)*((sumN n fun k=>(A (r j) k:Rat)*y k)+(A (r j) n:Rat)*s)=0:=by grind
     rcases Rat.mul_eq_zero.1 h2 with h3 | h3
     ·exact absurd h3 hp0'
     ·exact h3)
   intro k hk
   have h2:(if k=n then s else y k)=0:=h0 k (by omega)
   rwa [if_neg (by omega)] at h2
  have hxr:∀ i,i<n+1→(sumN n fun j=>(A i j:Rat)*x j)+(A i n:Rat)*x n=(b i:Rat):=fun i hi=>by
   have:=hx i hi
   rwa [sumN_succ] at this
  obtain ⟨D,z,hD0,hDl,hz⟩:=ih (2*K+1) A' b' x (by omega) hN' (fun i j hi hj=>by
   rw [hA']
   obtain ⟨h1,_⟩:=hrl i hi
   exact hpow _ _ _ _ (hA p n hp (by omega)) (hA _ j h1 (by omega)) (hA _ n h1 (by omega)) (hA p j hp (by omega))) (fun i hi=>by
   rw [hb']
   obtain ⟨h1,_⟩:=hrl i hi
   exact hpow _ _ _ _ (hA p n hp (by omega)) (hb _ h1) (hA _ n h1 (by omega)) (hb p hp)) (fun i hi=>by
   rw [sA,cb]
   obtain ⟨h1,_⟩:=hrl i hi
   have h2:=hxr _ h1
   have h3:=hxr p hp
   grind)
  obtain ⟨S,hS⟩:∃ S,sysB n (2*K+1)=S:=⟨_,rfl⟩
  rw [hS] at hDl hz
  have hSK:sysB (n+1) K=S+K+5:=by show sysB n (2*K+1)+K+5=_;rw [hS]
  rw [hSK]
  have h32:(2:Nat) ^ (S+K+5)=2 ^ (S+K)*32:=by rw [Nat.pow_add]
  have hpos:0<(2:Nat) ^ (S+K):=Nat.two_pow_pos _
  have hpK:=hA p n hp (by omega)
  refine ⟨D*A p n,fun i=>if i=n then D*b p-sumZ n fun j=>A p j*z j else z i*A p n,Int.mul_ne_zero hD0 hp0,?_,?_⟩
  ·rw [Int.natAbs_mul,h32]
   have:=mul_lt_pow hDl hpK
   omega
  ·intro i hi
   by_cases e:i=n
   ·subst e
    simp only [↓reduceIte]
    constructor
    ·rw [Rat.intCast_mul,Rat.intCast_sub,Rat.intCast_mul,sumZ_cast]
     have e1:(sumN i fun j=>((A p j*z j:Int):Rat))=(sumN i fun j=>(A p j:Rat)*x j)*(D:Rat):=by
      rw [← sumN_mulr]
      exact sumN_congr fun j hj=>by rw [Rat.intCast_mul,← (hz j hj).1];grind
     rw [e1]
     have h3:=hxr p hp
     grind
    ·have k1:(D*b p).natAbs<2 ^ (S+K):=by rw [Int.natAbs_mul];exact mul_lt_pow hDl (hb p hp)
     have k2:(sumZ i fun j=>A p j*z j).natAbs≤i*2 ^ (S+K):=sumZ_le fun j hj=>by
      rw [Int.natAbs_mul,Nat.mul_comm]
      exact Nat.le_of_lt (mul_lt_pow (hz j hj).2 (hA p j hp (by omega)))
     have k3:i*2 ^ (S+K)≤16*2 ^ (S+K):=Nat.mul_le_mul_right _ (by omega)
     rw [h32]
     omega
   ·simp only [if_neg e]
    obtain ⟨h1,h2⟩:=hz i (by omega)
    constructor
    ·rw [Rat.intCast_mul,Rat.intCast_mul,← h1]
     grind
    ·rw [Int.natAbs_mul,h32]
     have:=mul_lt_pow h2 hpK
     omega
theorem lt_bits {n L:Nat} (h:(digits n).length≤L):n<2 ^ (32*L):=by
 refine Nat.lt_of_lt_of_le (lt_pow_digits n) ?_
 rw [Nat.pow_mul]
 exact Nat.pow_le_pow_right (by decide) h
theorem bits_len {n S:Nat} (h:n<2 ^ S):(digits n).length≤S / 32+1:=by
 refine digits_length_le (Nat.lt_of_lt_of_le h ?_)
 have e:(4294967296:Nat) ^ (S / 32+1)=2 ^ (32*(S / 32+1)):=by rw [Nat.pow_mul]
 rw [e]
 exact Nat.pow_le_pow_right (by decide) (by omega)
def denP (f:Nat→Rat):Nat→Nat
 | 0=>1
 | n+1=>denP f n*(f n).den
theorem denP_pos (f:Nat→Rat):∀ n,denP f n≠0
 | 0=>by show (1:Nat)≠0;decide
 | n+1=>Nat.mul_ne_zero (denP_pos f n) (f n).den_nz
theorem denP_lt {f:Nat→Rat} {L:Nat}:∀ n,(∀ i,i<n→rL (f i)≤L)→denP f n≤2 ^ (32*L*n):=by
 intro n
 induction n with
 | zero=>intro _;exact Nat.le_refl _
 | succ n ih=>
  intro h
  have h1:=ih fun i hi=>h i (by omega)
  have h2:=lt_bits (Nat.le_trans (Nat.le_max_right _ _) (h n (by omega)))
  show denP f n*(f n).den≤_
  rw [Nat.mul_succ,Nat.pow_add]
  exact Nat.mul_le_mul h1 (Nat.le_of_lt h2)
theorem denP_dvd (f:Nat→Rat):∀ n i,i<n→(f i).den ∣ denP f n:=by
 intro n
 induction n with
 | zero=>exact fun i hi=>absurd hi (Nat.not_lt_zero _)
 | succ n ih=>
  intro i hi
  by_cases e:i=n
  ·subst e
   exact Nat.dvd_mul_left _ _
  ·exact Nat.dvd_trans (ih i (by omega)) (Nat.dvd_mul_right _ _)
theorem whole {q:Rat} {d:Nat} (h:q.den ∣ d) {L M:Nat} (hq:rL q≤L)(hd:d≤2 ^ M):∃ z:Int,q*((d:Int):Rat)=(z:Rat)∧z.natAbs<2 ^ (32*L+M):=by
 obtain ⟨e,rfl⟩:=h
 refine ⟨q.num*(e:Int),?_,?_⟩
 ·obtain ⟨z,hz⟩:=HD.self q
  have e1:q*((q.den:Int):Rat)=(q.num:Rat):=by
   have e:q=(q.num:Rat) / (q.den:Rat):=by rw [← Rat.mkRat_eq_div,Rat.mkRat_self]
   have hd:(q.den:Rat)≠0:=by exact_mod_cast q.den_nz
   have e2:((q.den:Int):Rat)=(q.den:Rat):=rfl
   rw [e2]
   grind
  rw [Int.natCast_mul,Rat.intCast_mul,Rat.intCast_mul,← e1]
  grind
 ·have h1:=lt_bits (Nat.le_trans (Nat.le_max_left _ _) hq)
  rw [Int.natAbs_mul,Int.natAbs_natCast]
  have h2:e≤2 ^ M:=Nat.le_trans (Nat.le_mul_of_pos_left e (Nat.pos_of_ne_zero q.den_nz)) hd
  rw [Nat.pow_add]
  exact Nat.lt_of_lt_of_le (Nat.mul_lt_mul_of_lt_of_le h1 h2 (Nat.two_pow_pos _)) (Nat.le_refl _)
theorem rL_frac {q:Rat} {D z:Int} {S:Nat} (hD:D≠0)(h:q*(D:Rat)=(z:Rat))(h1:D.natAbs<2 ^ S)(h2:z.natAbs<2 ^ S):rL q≤S / 32+1:=by
 have hD':(D:Rat)≠0:=by exact_mod_cast hD
 by_cases hp:0<D
 ·have e:q=mkRat z D.natAbs:=by
   rw [Rat.mkRat_eq_div]
   have e2:((D.natAbs:Nat):Rat)=(D:Rat):=by
    have:((D.natAbs:Nat):Int)=D:=by omega
    show (((D.natAbs:Nat):Int):Rat)=_
    rw [this]
   rw [e2,← h]
   grind
  rw [e]
  exact rL_mk _ _ _ (bits_len h2) (bits_len h1) (by omega)
 ·have e:q=mkRat (-z) D.natAbs:=by
   rw [Rat.mkRat_eq_div]
   have e2:((D.natAbs:Nat):Rat)=-(D:Rat):=by
    have:((D.natAbs:Nat):Int)=-D:=by omega
    show (((D.natAbs:Nat):Int):Rat)=_
    rw [this,Rat.intCast_neg]
   rw [e2,Rat.intCast_neg,← h]
   grind
  rw [e]
  exact rL_mk _ _ _ (by rw [Int.natAbs_neg];exact bits_len h2) (bits_len h1) (by omega)
theorem sol_small {n L:Nat} (hn:n≤16) {A:Mx} {b x:Nat→Rat} (hN:NonSing n A) (hA:∀ i j,i<n→j<n→rL (A i j)≤L) (hb:∀ i,i<n→rL (b i)≤L) (hx:∀ i,i<n→(sumN n fun j=>A i j*x j)=b i) :
  ∀ i,i<n→rL (x i)≤sysB n (32*L*(n+2)) / 32+1:=by
 obtain ⟨d,hd⟩:∃ d:Nat→Nat,d=fun i=>denP (A i) n*(b i).den:=⟨_,rfl⟩
 have hd0:∀ i,d i≠0:=fun i=>by rw [hd];exact Nat.mul_ne_zero (denP_pos _ _) (b i).den_nz
 have hdl:∀ i,i<n→d i≤2 ^ (32*L*(n+1)):=by
  intro i hi
  rw [hd,Nat.mul_succ,Nat.pow_add]
  exact Nat.mul_le_mul (denP_lt n (hA i · hi)) (Nat.le_of_lt (lt_bits (Nat.le_trans (Nat.le_max_right _ _) (hb i hi))))
 have hK:32*L+32*L*(n+1)=32*L*(n+2):=by rw [show n+2=(n+1)+1 by omega,Nat.mul_succ (32*L) (n+1),Nat.add_comm]
 have wA:∀ i j,∃ z:Int,i<n→j<n→A i j*((d i:Int):Rat)=(z:Rat)∧z.natAbs<2 ^ (32*L*(n+2)):=by
  intro i j
  by_cases h:i<n∧j<n
  ·obtain ⟨z,h1,h2⟩:=whole (q:=A i j) (d:=d i) (by rw [hd];exact Nat.dvd_trans (denP_dvd (A i) n j h.2) (Nat.dvd_mul_right _ _)) (hA i j h.1 h.2) (hdl i h.1)
   rw [hK] at h2
   exact ⟨z,fun _ _=>⟨h1,h2⟩⟩
  ·exact ⟨0,fun h1 h2=>absurd ⟨h1,h2⟩ h⟩
 have wb:∀ i,∃ z:Int,i<n→b i*((d i:Int):Rat)=(z:Rat)∧z.natAbs<2 ^ (32*L*(n+2)):=by
  intro i
  by_cases h:i<n
  ·obtain ⟨z,h1,h2⟩:=whole (q:=b i) (d:=d i) (by rw [hd];exact Nat.dvd_mul_left _ _) (hb i h) (hdl i h)
   rw [hK] at h2
   exact ⟨z,fun _=>⟨h1,h2⟩⟩
  ·exact ⟨0,fun h1=>absurd h1 h⟩
 obtain ⟨ZA,hZA⟩:∃ f:Nat→Nat→Int,∀ i j,i<n→j<n→A i j*((d i:Int):Rat)=(f i j:Rat)∧(f i j).natAbs<2 ^ (32*L*(n+2)):=⟨fun i j=>Classical.choose (wA i j),fun i j=>Classical.choose_spec (wA i j)⟩
 obtain ⟨Zb,hZb⟩:∃ f:Nat→Int,∀ i,i<n→b i*((d i:Int):Rat)=(f i:Rat)∧(f i).natAbs<2 ^ (32*L*(n+2)):=⟨fun i=>Classical.choose (wb i),fun i=>Classical.choose_spec (wb i)⟩
 have hsc:∀ i,i<n→∀ y:Nat→Rat,(sumN n fun j=>(ZA i j:Rat)*y j)=(sumN n fun j=>A i j*y j)*((d i:Int):Rat):=by
  intro i hi y
  rw [← sumN_mulr]
  exact sumN_congr fun j hj=>by rw [← (hZA i j hi hj).1];grind
 have hdr:∀ i,((d i:Int):Rat)≠0:=fun i=>by
  have:((d i:Int))≠0:=by have:=hd0 i;omega
  exact_mod_cast this
 obtain ⟨D,z,h1,h2,h3⟩:=sys_den n (32*L*(n+2)) ZA Zb x hn (by
  intro y hy
  refine hN y fun i hi=>?_
  have h:=hy i hi
  have h:(sumN n fun j=>(ZA i j:Rat)*y j)=0:=h
  rw [hsc i hi] at h
  rcases Rat.mul_eq_zero.1 h with h | h
  ·exact h
  ·exact absurd h (hdr i)) (fun i j hi hj=>(hZA i j hi hj).2) (fun i hi=>(hZb i hi).2) (fun i hi=>by
  rw [hsc i hi,hx i hi]
  exact (hZb i hi).1)
 intro i hi
 exact rL_frac h1 (h3 i hi).1 h2 (h3 i hi).2
theorem sysB_mono {n:Nat}:∀ {m K K':Nat},n≤m→K≤K'→sysB n K≤sysB m K':=by
 induction n with
 | zero=>
  intro m K K' _ _
  cases m with
  | zero=>exact Nat.le_refl _
  | succ m=>
   show 1≤sysB m (2*K'+1)+K'+5
   omega
 | succ n ih=>
  intro m K K' h hK
  cases m with
  | zero=>omega
  | succ m=>
   have:=ih (m:=m) (K:=2*K+1) (K':=2*K'+1) (by omega) (by omega)
   show sysB n (2*K+1)+K+5≤sysB m (2*K'+1)+K'+5
   omega
theorem sol_small8 {n:Nat} (hn:n≤8) {A:Mx} {b x:Nat→Rat} (hN:NonSing n A)(hA:∀ i j,i<n→j<n→rL (A i j)≤39)(hb:∀ i,i<n→rL (b i)≤39)(hx:∀ i,i<n→(sumN n fun j=>A i j*x j)=b i):∀ i,i<n→rL (x i)≤100000:=by
 intro i hi
 have h1:=sol_small (by omega) hN hA hb hx i hi
 have h2:sysB n (32*39*(n+2))≤sysB 8 (32*39*10):=sysB_mono hn (Nat.mul_le_mul_left _ (by omega))
 have h3:sysB 8 (32*39*10)≤3199000:=by decide
 omega
theorem each_small {n m:Nat} {A B:Mx} (hn:n≤8)(hC:isC n m A B=true)(hA:∀ i k,i<n→k<n→rL (A i k)≤38)(hB:∀ i k,i<n→k<m→rL (B i k)≤38):∀ i j,i<n→j<m→rL (eachM n m A B i j)≤100000:=by
 intro i j hi hj
 unfold eachM
 split
 ·rename_i hf
  have hA':∀ i j,i<(pick n (rchB n m A B)).length→j<(pick n (rchB n m A B)).length→rL (subM false (pick n (rchB n m A B)) A i j)≤39:=fun i j hi hj=>subM_len hA (by decide) (pick_get hi).1 (pick_get hj).1
  have hB':∀ i j,i<(pick n (rchB n m A B)).length→j<m→rL (rhsM (pick n (rchB n m A B)) B i j)≤39:=fun i j hi hj=>Nat.le_trans (hB _ j (pick_get hi).1 hj) (by decide)
  obtain ⟨_,h2,_⟩:=fin_spec (n:=(pick n (rchB n m A B)).length) (c:=m) (L:=39) (B:=rhsM (pick n (rchB n m A B)) B) (nonsing_sub hC) hA' hB' (by decide)
  exact sol_small8 (Nat.le_trans (pick_le n _) hn) (nonsing_sub hC) hA' (fun i hi=>hB' i j hi hj) (x:=fun k=>solX _ _ _ k j) (fun i hi=>h2 i j hi hj) _ (pick_at hi hf).1
 ·exact Nat.le_trans rL0 (by decide)
structure Chn.IsVis (c:Chn) (v x:Nat→Rat):Prop where
 z:∀ i,i<c.n→¬ c.Rch i→x i=0
 eq:∀ i,i<c.n→c.Rch i→x i=v i+sumN c.n fun k=>x k*c.M k i
theorem sumN_zero_each {n:Nat} {f:Nat→Rat} (h:∀ i,i<n→0≤f i)(h0:sumN n f=0):∀ i,i<n→f i=0:=fun i hi=>sumN_zero_inv hi h h0
theorem Chn.IsVis.nonneg {c:Chn} (hc:c.Ok) {v x:Nat→Rat} (hv:∀ i,i<c.n→0≤v i)(h:c.IsVis v x):∀ i,i<c.n→0≤x i:=by
 obtain ⟨p,hp⟩:∃ p:Nat→Rat,p=fun i=>if x i<0 then -x i else 0:=⟨_,rfl⟩
 have p0:∀ i,0≤p i:=fun i=>by
  rw [hp]
  show 0≤(if x i<0 then -x i else 0)
  split<;>grind
 have px:∀ i,-x i≤p i:=fun i=>by
  rw [hp]
  show -x i≤(if x i<0 then -x i else 0)
  split<;>grind
 have pz:∀ i,i<c.n→¬ c.Rch i→p i=0:=fun i hi hr=>by
  rw [hp]
  show (if x i<0 then -x i else 0)=0
  rw [h.z i hi hr,if_neg (by decide)]
 have ple:∀ i,i<c.n→c.Rch i→p i≤sumN c.n fun k=>p k*c.M k i:=fun i hi hr=>by
  have h1:0≤sumN c.n fun k=>p k*c.M k i:=sumN_nonneg fun k hk=>Rat.mul_nonneg (p0 k) (hc.M0 k i hk hi)
  have h2:(sumN c.n fun k=>(-x k)*c.M k i)≤sumN c.n fun k=>p k*c.M k i:=sumN_le fun k hk=>Rat.mul_le_mul_of_nonneg_right (px k) (hc.M0 k i hk hi)
  have h3:(sumN c.n fun k=>(-x k)*c.M k i)=-sumN c.n fun k=>x k*c.M k i:=by
   have:(sumN c.n fun k=>(-x k)*c.M k i)=sumN c.n fun k=>(-1)*(x k*c.M k i):=sumN_congr fun k _=>by grind
   rw [this,sumN_mul]
   grind
  have h4:=h.eq i hi hr
  have h5:=hv i hi
  have h6:p i=if x i<0 then -x i else 0:=by rw [hp]
  rw [h6]
  split<;>grind
 -- all is equality,and nothing leaves
 obtain ⟨g,hg⟩:∃ g:Nat→Rat,g=fun i=>@ite _ (c.Rch i) (Classical.propDecidable _) 1 0:=⟨_,rfl⟩
 have g1:∀ i,c.Rch i→g i=1:=fun i hr=>by rw [hg];exact if_pos hr
 have g0:∀ i,¬ c.Rch i→g i=0:=fun i hr=>by rw [hg];exact if_neg hr
 have tm:∀ i,i<c.n→0≤(g i*sumN c.n fun k=>p k*c.M k i)-p i:=fun i hi=>by
  by_cases hr:c.Rch i
  ·have:=ple i hi hr
   rw [g1 i hr,Rat.one_mul]
   grind
  ·rw [g0 i hr,pz i hi hr,Rat.zero_mul]
   grind
 have dk:∀ k,k<c.n→0≤1-sumN c.n fun i=>g i*c.M k i:=fun k hk=>by
  have h1:=hc.one k hk
  have h2:0≤sumN c.m (c.E k):=sumN_nonneg fun j hj=>hc.E0 k j hk hj
  have h3:(sumN c.n fun i=>g i*c.M k i)≤sumN c.n (c.M k):=sumN_le fun i hi=>by
   have hM:=hc.M0 k i hk hi
   by_cases hr:c.Rch i
   ·rw [g1 i hr,Rat.one_mul];exact Rat.le_refl
   ·rw [g0 i hr,Rat.zero_mul];exact hM
  grind
 have bal:(sumN c.n fun i=>(g i*sumN c.n fun k=>p k*c.M k i)-p i)=-sumN c.n fun k=>p k*(1-sumN c.n fun i=>g i*c.M k i):=by
  have e1:(sumN c.n fun i=>g i*sumN c.n fun k=>p k*c.M k i)=sumN c.n fun k=>p k*sumN c.n fun i=>g i*c.M k i:=by
   have:(sumN c.n fun i=>g i*sumN c.n fun k=>p k*c.M k i)=sumN c.n fun i=>sumN c.n fun k=>p k*(g i*c.M k i):=sumN_congr fun i _=>by
    rw [← sumN_mul]
    exact sumN_congr fun k _=>by grind
   rw [this,sumN_swap]
   exact sumN_congr fun k _=>sumN_mul ..
  have e2:(sumN c.n fun k=>p k*(1-sumN c.n fun i=>g i*c.M k i))=sumN c.n p-sumN c.n fun k=>p k*sumN c.n fun i=>g i*c.M k i:=by
   rw [← sumN_sub]
   exact sumN_congr fun k _=>by grind
  rw [sumN_sub,e1,e2]
  grind
 have s1:=sumN_nonneg tm
 have s2:0≤sumN c.n fun k=>p k*(1-sumN c.n fun i=>g i*c.M k i):=sumN_nonneg fun k hk=>Rat.mul_nonneg (p0 k) (dk k hk)
 rw [bal] at s1
 have z1:(sumN c.n fun k=>p k*(1-sumN c.n fun i=>g i*c.M k i))=0:=by grind
 have z2:(sumN c.n fun i=>(g i*sumN c.n fun k=>p k*c.M k i)-p i)=0:=by rw [bal,z1];grind
 have leave:=sumN_zero_each (fun k hk=>Rat.mul_nonneg (p0 k) (dk k hk)) z1
 have eqs:=sumN_zero_each tm z2
 have key:∀ i,c.Rch i→p i=0:=by
  intro i hr
  induction hr with
  | exit hi hj hE=>
   rename_i i j
   have h1:=leave i hi
   have h1:p i*(1-sumN c.n fun i'=>g i' * c.M i i')=0:=h1
   rcases Rat.mul_eq_zero.1 h1 with h2 | h2
   ·exact h2
   ·exfalso
    have h3:=hc.one i hi
    have h4:=le_sumN hj (fun j hj=>hc.E0 i j hi hj)
    have h5:(sumN c.n fun i'=>g i' * c.M i i')≤sumN c.n (c.M i):=sumN_le fun i' hi'=>by
     have hM:=hc.M0 i i' hi hi'
     by_cases hr:c.Rch i'
     ·rw [g1 i' hr,Rat.one_mul];exact Rat.le_refl
     ·rw [g0 i' hr,Rat.zero_mul];exact hM
    grind
  | move hi hk hM hr ih=>
   rename_i i k
   have h1:=eqs k hk
   have h1:(g k*sumN c.n fun l=>p l*c.M l k)-p k=0:=h1
   rw [g1 k hr,Rat.one_mul,ih] at h1
   have h2:=sumN_zero_inv hi (fun l hl=>Rat.mul_nonneg (p0 l) (hc.M0 l k hl hk)) (by grind)
   have h2:p i*c.M i k=0:=h2
   rcases Rat.mul_eq_zero.1 h2 with h3 | h3
   ·exact h3
   ·rw [h3] at hM
    exact absurd hM (by decide)
 intro i hi
 have h1:=px i
 by_cases hr:c.Rch i
 ·rw [key i hr] at h1
  grind
 ·rw [h.z i hi hr]
  exact Rat.le_refl
def Chn.never (c:Chn) (X:Nat→Nat→Rat) (v:Nat→Rat):Rat:=sumN c.n v-sumN c.m fun j=>sumN c.n fun i=>v i*X i j
theorem Chn.never_eq (c:Chn)(X:Nat→Nat→Rat)(v:Nat→Rat):c.never X v=sumN c.n fun i=>v i*(1-sumN c.m (X i)):=by
 unfold Chn.never
 have e:(sumN c.n fun i=>v i*(1-sumN c.m (X i)))=sumN c.n v-sumN c.n fun i=>v i*sumN c.m (X i):=by
  rw [← sumN_sub]
  exact sumN_congr fun i _=>by grind
 rw [e,sumN_swap]
 congr 1
 exact sumN_congr fun i _=>sumN_mul ..
theorem Chn.never_nonneg {c:Chn} (hc:c.Ok) {X:Nat→Nat→Rat} (hX:c.IsEach X) {v:Nat→Rat} (hv:∀ i,i<c.n→0≤v i):0≤c.never X v:=by
 rw [c.never_eq]
 refine sumN_nonneg fun i hi=>Rat.mul_nonneg (hv i hi) ?_
 have:=(hX.row hc i hi).1
 grind
theorem Chn.IsEach.lost {c:Chn} (hc:c.Ok) {X:Nat→Nat→Rat} (h:c.IsEach X) {i:Nat} (hi:i<c.n):1-sumN c.m (X i)=sumN c.n fun k=>c.M i k*(1-sumN c.m (X k)):=by
 have e1:sumN c.m (X i)=(sumN c.n fun k=>c.M i k*sumN c.m (X k))+sumN c.m (c.E i):=by
  have:sumN c.m (X i)=sumN c.m fun j=>(sumN c.n fun k=>c.M i k*X k j)+c.E i j:=sumN_congr fun j hj=>h.all hc i j hi hj
  rw [this,sumN_add,sumN_swap]
  congr 1
  exact sumN_congr fun k _=>sumN_mul ..
 have e2:(sumN c.n fun k=>c.M i k*(1-sumN c.m (X k)))=sumN c.n (c.M i)-sumN c.n fun k=>c.M i k*sumN c.m (X k):=by
  rw [← sumN_sub]
  exact sumN_congr fun k _=>by grind
 have h4:=hc.one i hi
 rw [e1,e2]
 grind
theorem Chn.IsVis.ends {c:Chn} (hc:c.Ok) {X:Nat→Nat→Rat} (hX:c.IsEach X) {v x:Nat→Rat} (h:c.IsVis v x):∀ j,j<c.m→(sumN c.n fun i=>x i*c.E i j)=sumN c.n fun i=>v i*X i j:=by
 intro j hj
 have e1:(sumN c.n fun i=>x i*c.E i j)=(sumN c.n fun i=>x i*X i j)-sumN c.n fun i=>x i*sumN c.n fun k=>c.M i k*X k j:=by
  rw [← sumN_sub]
  refine sumN_congr fun i hi=>?_
  have:=hX.all hc i j hi hj
  rw [this]
  grind
 have e2:(sumN c.n fun i=>x i*sumN c.n fun k=>c.M i k*X k j)=sumN c.n fun k=>(sumN c.n fun i=>x i*c.M i k)*X k j:=by
  have:(sumN c.n fun i=>x i*sumN c.n fun k=>c.M i k*X k j)=sumN c.n fun i=>sumN c.n fun k=>x i*c.M i k*X k j:=sumN_congr fun i _=>by
   rw [← sumN_mul]
   exact sumN_congr fun k _=>by grind
  rw [this,sumN_swap]
  exact sumN_congr fun k _=>sumN_mulr ..
 rw [e1,e2,← sumN_sub]
 refine sumN_congr fun k hk=>?_
 by_cases hr:c.Rch k
 ·have:=h.eq k hk hr
  rw [this]
  grind
 ·rw [hX.z k j hk hj hr]
  grind
theorem pk_sumT {n:Nat} {f:Nat→Bool} {A:Mx} {i:Nat} (hi:i<(pick n f).length)(y:Nat→Rat):(sumN (pick n f).length fun k=>pkM true (pick n f) A i k*y k)=sumN n fun k=>lift n f y k*A k ((pick n f).getD i 0):=by
 have:=sumN_pick f (fun j k=>y j*A k ((pick n f).getD i 0)) n
 have e:(sumN n fun k=>lift n f y k*A k ((pick n f).getD i 0))=sumN n fun k=>if f k=true then y (pick k f).length*A k ((pick n f).getD i 0) else 0:=by
  refine sumN_congr fun k _=>?_
  unfold lift
  split
  ·rfl
  ·exact Rat.zero_mul _
 rw [e,this]
 refine sumN_congr fun k _=>?_
 unfold pkM
 rw [if_pos rfl]
 exact Rat.mul_comm _ _
theorem vis_sys {n m L:Nat} {A B:Mx} {v:Nat→Rat} (hC:isC n m A B=true)(hA:∀ i k,i<n→k<n→rL (A i k)≤L)(hvL:∀ i,i<n→rL (v i)≤L+1)(hL1:1≤L):∀ i,i<(pick n (rchB n m A B)).length →
  (sumN (pick n (rchB n m A B)).length fun k=>subM true (pick n (rchB n m A B)) A i k*solX (pick n (rchB n m A B)).length (subM true (pick n (rchB n m A B)) A) (fun i _=>v ((pick n (rchB n m A B)).getD i 0)) k 0)=v ((pick n (rchB n m A B)).getD i 0):=by
 obtain ⟨_,h2,_⟩:=fin_spec (n:=(pick n (rchB n m A B)).length) (c:=1) (L:=L+1) (B:=fun i _=>v ((pick n (rchB n m A B)).getD i 0)) (nonsing_turn hC hA hL1) (fun i j hi hj=>subM_len hA hL1 (pick_get hi).1 (pick_get hj).1) (fun i j hi hj=>hvL _ (pick_get hi).1) (by omega)
 exact fun i hi=>h2 i 0 hi (by decide)
theorem vis_is {n m L:Nat} {A B:Mx} {v:Nat→Rat} (hC:isC n m A B=true)(hA:∀ i k,i<n→k<n→rL (A i k)≤L)(hvL:∀ i,i<n→rL (v i)≤L+1)(hL1:1≤L):(chn n m A B).IsVis v (visV n m A B v):=by
 refine ⟨fun i hi hr=>if_neg fun h=>hr (rchB_iff.1 h),fun i hi hr=>?_⟩
 have hi:i<n:=hi
 have hf:=rchB_iff.2 hr
 obtain ⟨h3,h4⟩:=pick_at hi hf
 have h5:=vis_sys hC hA hvL hL1 _ h3
 rw [subM_sum h3,pk_sumT h3,h4] at h5
 have e1:visV n m A B v i=solX (pick n (rchB n m A B)).length (subM true (pick n (rchB n m A B)) A) (fun i _=>v ((pick n (rchB n m A B)).getD i 0)) (pick i (rchB n m A B)).length 0:=if_pos hf
 have e2:(sumN n fun k=>visV n m A B v k*A k i)=sumN n fun k=>lift n (rchB n m A B) (fun k=>solX (pick n (rchB n m A B)).length (subM true (pick n (rchB n m A B)) A) (fun i _=>v ((pick n (rchB n m A B)).getD i 0)) k 0) k*A k i:=rfl
 show visV n m A B v i=v i+sumN n fun k=>visV n m A B v k*A k i
 rw [e1,e2]
 grind
theorem vis_small {n m:Nat} {A B:Mx} {v:Nat→Rat} (hn:n≤8)(hC:isC n m A B=true)(hA:∀ i k,i<n→k<n→rL (A i k)≤38)(hvL:∀ i,i<n→rL (v i)≤3):∀ i,i<n→rL (visV n m A B v i)≤100000:=by
 intro i hi
 unfold visV
 split
 ·rename_i hf
  have hA':∀ i j,i<(pick n (rchB n m A B)).length→j<(pick n (rchB n m A B)).length→rL (subM true (pick n (rchB n m A B)) A i j)≤39:=fun i j hi hj=>subM_len hA (by decide) (pick_get hi).1 (pick_get hj).1
  exact sol_small8 (Nat.le_trans (pick_le n _) hn) (nonsing_turn hC hA (by decide)) hA' (fun i hi=>Nat.le_trans (hvL _ (pick_get hi).1) (by decide)) (x:=fun k=>solX _ _ _ k 0) (fun i hi=>vis_sys hC hA (fun i hi=>Nat.le_trans (hvL i hi) (by decide)) (by decide) i hi) _ (pick_at hi hf).1
 ·exact Nat.le_trans rL0 (by decide)
end Go.Proofs.YteidabibgjokkaaGreatDoor
