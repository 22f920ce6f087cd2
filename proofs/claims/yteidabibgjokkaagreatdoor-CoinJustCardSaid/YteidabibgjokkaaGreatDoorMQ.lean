import Derived.Test.YteidabibgjokkaaGreatDoorMP
import Derived.Test.YteidabibgjokkaaGreatDoorHF
import Derived.Test.YteidabibgjokkaaGreatDoorMN
import Derived.Test.YteidabibgjokkaaGreatDoorMH
import Derived.Test.YteidabibgjokkaaGreatDoorMJ
import Derived.Test.YteidabibgjokkaaGreatDoorLiftY
set_option maxRecDepth 20000
set_option linter.all false
namespace Go.Proofs.YteidabibgjokkaaGreatDoor
open Go Go.Proofs.YteidabibgjokkaaGreatDoor.Lift
attribute [local irreducible] Lift.PCall Lift.HCall
theorem sys_den30:∀ (n K:Nat)(A:Nat→Nat→Int)(b:Nat→Int)(x:Nat→Rat),n≤30→NonSing n (fun i j=>((A i j:Int):Rat))→(∀ i j,i<n→j<n→(A i j).natAbs<2 ^ K)→(∀ i,i<n→(b i).natAbs<2 ^ K) →
  (∀ i,i<n→(sumN n fun j=>((A i j:Int):Rat)*x j)=((b i:Int):Rat)) →
  ∃ (D:Int) (z:Nat→Int),D≠0∧D.natAbs<2 ^ sysB n K∧∀ i,i<n→x i*(D:Rat)=(z i:Rat)∧(z i).natAbs<2 ^ sysB n K:=by
 intro n
 induction n with
 | zero=>exact fun K A b x _ _ _ _ _=>⟨1,fun _=>0,by decide,by show 1<2 ^ 1;decide,fun i hi=>absurd hi (Nat.not_lt_zero _)⟩
 | succ n ih=>
  intro K A b x hn hN hA hb hx
  obtain ⟨p,hp,hp0⟩:∃ p,p<n+1∧A p n≠0:=by
   apply Classical.byContradiction
   intro hne
   have h0:=hN (fun j=>if j=n then 1 else 0) (fun i hi=>by
    rw [sumN_single (k:=n) (by omega) (fun j _ hj=>by rw [if_neg hj,Rat.mul_zero])]
    have:A i n=0:=Classical.byContradiction fun h=>hne ⟨i,hi,h⟩
    show ((A i n:Int):Rat)*(if n=n then 1 else 0)=0
    rw [this]
    exact Rat.zero_mul _) n (by omega)
   rw [if_pos rfl] at h0
   exact absurd h0 (by decide)
  have hp0':((A p n:Int):Rat)≠0:=by exact_mod_cast hp0
  obtain ⟨r,hr⟩:∃ r:Nat→Nat,r=fun i=>if i=p then n else i:=⟨_,rfl⟩
  have hrl:∀ i,i<n→r i<n+1∧r i≠p:=by
   intro i hi
   rw [hr]
   show (if i=p then n else i)<n+1∧(if i=p then n else i)≠p
   split
   ·rename_i e
    exact ⟨by omega,by omega⟩
   ·rename_i e
    exact ⟨by omega,e⟩
  have hrs:∀ i,i<n+1→i≠p→∃ j,j<n∧r j=i:=by
   intro i hi hip
   by_cases e:i=n
   ·refine ⟨p,by omega,?_⟩
    rw [hr]
    show (if p=p then n else p)=i
    rw [if_pos rfl,e]
   ·refine ⟨i,by omega,?_⟩
    rw [hr]
    exact if_neg hip
  -- the smaller equations
  obtain ⟨A',hA'⟩:∃ A':Nat→Nat→Int,A'=fun i j=>A p n*A (r i) j-A (r i) n*A p j:=⟨_,rfl⟩
  obtain ⟨b',hb'⟩:∃ b':Nat→Int,b'=fun i=>A p n*b (r i)-A (r i) n*b p:=⟨_,rfl⟩
  have cA:∀ i j,((A' i j:Int):Rat)=(A p n:Rat)*(A (r i) j:Rat)-(A (r i) n:Rat)*(A p j:Rat):=fun i j=>by rw [hA'];exact castZ ..
  have cb:∀ i,((b' i:Int):Rat)=(A p n:Rat)*(b (r i):Rat)-(A (r i) n:Rat)*(b p:Rat):=fun i=>by rw [hb'];exact castZ ..
  have sA:∀ i (y:Nat→Rat),(sumN n fun j=>((A' i j:Int):Rat)*y j)=(A p n:Rat)*(sumN n fun j=>(A (r i) j:Rat)*y j)-(A (r i) n:Rat)*sumN n fun j=>(A p j:Rat)*y j:=by
   intro i y
   rw [← sumN_mul,← sumN_mul,← sumN_sub]
   exact sumN_congr fun j _=>by rw [cA];grind
  have hpow:∀ a c:Int,∀ d e:Int,a.natAbs<2 ^ K→c.natAbs<2 ^ K→d.natAbs<2 ^ K→e.natAbs<2 ^ K→(a*c-d*e).natAbs<2 ^ (2*K+1):=by
   intro a c d e h1 h2 h3 h4
   have k1:(a*c).natAbs<2 ^ (K+K):=by rw [Int.natAbs_mul];exact mul_lt_pow h1 h2
   have k2:(d*e).natAbs<2 ^ (K+K):=by rw [Int.natAbs_mul];exact mul_lt_pow h3 h4
   have k3:(2:Nat) ^ (2*K+1)=2 ^ (K+K)*2:=by rw [show 2*K+1=(K+K)+1 by omega,Nat.pow_succ]
   omega
  have hN':NonSing n fun i j=>((A' i j:Int):Rat):=by
   intro y hy
   obtain ⟨s,hs⟩:∃ s:Rat,s*(A p n:Rat)=-(sumN n fun j=>(A p j:Rat)*y j):=by
    refine ⟨-(sumN n fun j=>(A p j:Rat)*y j) / (A p n:Rat),?_⟩
    rw [Rat.div_mul_cancel hp0']
   have hcut:∀ i,(sumN n fun j=>(A i j:Rat)*(if j=n then s else y j))=sumN n fun j=>(A i j:Rat)*y j:=fun i=>sumN_congr fun j hj=>by rw [if_neg (by omega)]
   have hrow:∀ i,(sumN (n+1) fun j=>(A i j:Rat)*(if j=n then s else y j))=(sumN n fun j=>(A i j:Rat)*y j)+(A i n:Rat)*s:=by
    intro i
    rw [sumN_succ,hcut,if_pos rfl]
   have h0:=hN (fun j=>if j=n then s else y j) (fun i hi=>by
    show (sumN (n+1) fun j=>(A i j:Rat)*(if j=n then s else y j))=0
    rw [hrow]
    by_cases e:i=p
    ·subst e
     grind
    ·obtain ⟨j,hj,rfl⟩:=hrs i hi e
     have h1:=hy j hj
     have h1:(sumN n fun k=>((A' j k:Int):Rat)*y k)=0:=h1
     rw [sA] at h1
     have h2:(A p n:Rat)*((sumN n fun k=>(A (r j) k:Rat)*y k)+(A (r j) n:Rat)*s)=0:=by grind
     rcases Rat.mul_eq_zero.1 h2 with h3 | h3
     ·exact absurd h3 hp0'
     ·exact h3)
   intro k hk
   have h2:(if k=n then s else y k)=0:=h0 k (by omega)
   rwa [if_neg (by omega)] at h2
  have hxr:∀ i,i<n+1→(sumN n fun j=>(A i j:Rat)*x j)+(A i n:Rat)*x n=(b i:Rat):=fun i hi=>by
   have:=hx i hi
   rwa [sumN_succ] at this
  obtain ⟨D,z,hD0,hDl,hz⟩:=ih (2*K+1) A' b' x (by omega) hN' (fun i j hi hj=>by
   rw [hA']
   obtain ⟨h1,_⟩:=hrl i hi
   exact hpow _ _ _ _ (hA p n hp (by omega)) (hA _ j h1 (by omega)) (hA _ n h1 (by omega)) (hA p j hp (by omega))) (fun i hi=>by
   rw [hb']
   obtain ⟨h1,_⟩:=hrl i hi
   exact hpow _ _ _ _ (hA p n hp (by omega)) (hb _ h1) (hA _ n h1 (by omega)) (hb p hp)) (fun i hi=>by
   rw [sA,cb]
   obtain ⟨h1,_⟩:=hrl i hi
   have h2:=hxr _ h1
   have h3:=hxr p hp
   grind)
  obtain ⟨S,hS⟩:∃ S,sysB n (2*K+1)=S:=⟨_,rfl⟩
  rw [hS] at hDl hz
  have hSK:sysB (n+1) K=S+K+5:=by show sysB n (2*K+1)+K+5=_;rw [hS]
  rw [hSK]
  have h32:(2:Nat) ^ (S+K+5)=2 ^ (S+K)*32:=by rw [Nat.pow_add]
  have hpos:0<(2:Nat) ^ (S+K):=Nat.two_pow_pos _
  have hpK:=hA p n hp (by omega)
  refine ⟨D*A p n,fun i=>if i=n then D*b p-sumZ n fun j=>A p j*z j else z i*A p n,Int.mul_ne_zero hD0 hp0,?_,?_⟩
  ·rw [Int.natAbs_mul,h32]
   have:=mul_lt_pow hDl hpK
   omega
  ·intro i hi
   by_cases e:i=n
   ·subst e
    simp only [↓reduceIte]
    constructor
    ·rw [Rat.intCast_mul,Rat.intCast_sub,Rat.intCast_mul,sumZ_cast]
     have e1:(sumN i fun j=>((A p j*z j:Int):Rat))=(sumN i fun j=>(A p j:Rat)*x j)*(D:Rat):=by
      rw [← sumN_mulr]
      exact sumN_congr fun j hj=>by rw [Rat.intCast_mul,← (hz j hj).1];grind
     rw [e1]
     have h3:=hxr p hp
     grind
    ·have k1:(D*b p).natAbs<2 ^ (S+K):=by rw [Int.natAbs_mul];exact mul_lt_pow hDl (hb p hp)
     have k2:(sumZ i fun j=>A p j*z j).natAbs≤i*2 ^ (S+K):=sumZ_le fun j hj=>by
      rw [Int.natAbs_mul,Nat.mul_comm]
      exact Nat.le_of_lt (mul_lt_pow (hz j hj).2 (hA p j hp (by omega)))
     have k3:i*2 ^ (S+K)≤30*2 ^ (S+K):=Nat.mul_le_mul_right _ (by omega)
     rw [h32]
     omega
   ·simp only [if_neg e]
    obtain ⟨h1,h2⟩:=hz i (by omega)
    constructor
    ·rw [Rat.intCast_mul,Rat.intCast_mul,← h1]
     grind
    ·rw [Int.natAbs_mul,h32]
     have:=mul_lt_pow h2 hpK
     omega
def Cd (n w:Nat) (A:Mx) (S:Nat):Prop:=∃ (D:Int) (z:Nat→Nat→Int),D≠0∧D.natAbs<2 ^ S∧∀ i j,i<n→j<w→A i j*(D:Rat)=(z i j:Rat)∧(z i j).natAbs<2 ^ S
theorem Cd.len {n w S:Nat} {A:Mx} (h:Cd n w A S):∀ i j,i<n→j<w→rL (A i j)≤S / 32+1:=by
 obtain ⟨D,z,h0,h1,h2⟩:=h
 exact fun i j hi hj=>rL_frac h0 (h2 i j hi hj).1 h1 (h2 i j hi hj).2
theorem swapIf_rows (A:Mx) {n p c:Nat} (hp:p<n)(hc:c<n):∃ σ:Nat→Nat,∀ i,i<n→σ i<n∧swapIf A p c i=A (σ i):=by
 unfold swapIf
 by_cases e:p=c
 ·rw [if_pos e]
  exact ⟨id,fun i hi=>⟨hi,rfl⟩⟩
 ·rw [if_neg e]
  refine ⟨fun i=>if i=p then c else if i=c then p else i,fun i hi=>?_⟩
  show (if i=p then c else if i=c then p else i)<n∧swapM A p c i=A (if i=p then c else if i=c then p else i)
  unfold swapM
  by_cases h1:i=p
  ·rw [if_pos h1,if_pos h1]
   exact ⟨hc,rfl⟩
  ·rw [if_neg h1,if_neg h1]
   by_cases h2:i=c
   ·rw [if_pos h2,if_pos h2]
    exact ⟨hp,rfl⟩
   ·rw [if_neg h2,if_neg h2]
    exact ⟨hi,rfl⟩
theorem Cd.swap {n w S p c:Nat} {A:Mx} (h:Cd n w A S)(hp:p<n)(hc:c<n):Cd n w (swapIf A p c) S:=by
 obtain ⟨D,z,h0,h1,h2⟩:=h
 obtain ⟨σ,hσ⟩:=swapIf_rows A hp hc
 refine ⟨D,fun i j=>z (σ i) j,h0,h1,fun i j hi hj=>?_⟩
 obtain ⟨g1,g2⟩:=hσ i hi
 rw [g2]
 exact h2 _ j g1 hj
theorem Cd.clr {n w S c:Nat} {A:Mx} (h:Cd n w A S)(hw:n≤w)(hc:c<n)(h0:A c c≠0):Cd n w (clrTo A c (n-(c+1))) (2*S+1):=by
 obtain ⟨D,z,hD,h1,h2⟩:=h
 obtain ⟨k1,k2⟩:=clrTo_spec h0 (n-(c+1))
 have hcc:=(h2 c c hc (by omega)).1
 have hz:z c c≠0:=fun e=>by
  rw [e] at hcc
  rcases Rat.mul_eq_zero.1 (show A c c*(D:Rat)=0 from hcc) with h | h
  ·exact h0 h
  ·exact hD (by exact_mod_cast h)
 have hpow:∀ a b:Int,a.natAbs<2 ^ S→b.natAbs<2 ^ S→(a*b).natAbs<2 ^ (S+S):=fun a b ha hb=>by
  rw [Int.natAbs_mul]
  exact mul_lt_pow ha hb
 have h3:(2:Nat) ^ (2*S+1)=2 ^ (S+S)*2:=by rw [show 2*S+1=(S+S)+1 by omega,Nat.pow_succ]
 refine ⟨D*z c c,fun i j=>if c<i then z i j*z c c-z i c*z c j else z i j*z c c,Int.mul_ne_zero hD hz,?_,fun i j hi hj=>?_⟩
 ·have:=hpow D (z c c) h1 (h2 c c hc (by omega)).2
  rw [h3]
  omega
 ·obtain ⟨e1,l1⟩:=h2 i j hi hj
  obtain ⟨e2,l2⟩:=h2 i c hi (by omega)
  obtain ⟨e3,l3⟩:=h2 c j hc hj
  have l4:=(h2 c c hc (by omega)).2
  have m1:=hpow _ _ l1 l4
  have m2:=hpow _ _ l2 l3
  by_cases hci:c<i
  ·simp only [if_pos hci]
   rw [k2 i hci (by omega)]
   refine ⟨?_,by rw [h3];omega⟩
   rw [castZ,Rat.intCast_mul]
   show (A i j-A i c / A c c*A c j)*((D:Rat)*(z c c:Rat))=_
   have e5:A i c / A c c*A c c=A i c:=Rat.div_mul_cancel h0
   rw [← e1,← e2,← e3,← hcc]
   generalize A i c / A c c=f at *
   rw [← e5]
   grind
  ·simp only [if_neg hci]
   rw [k1 i (.inl (by omega))]
   refine ⟨?_,by rw [h3];omega⟩
   rw [Rat.intCast_mul,Rat.intCast_mul,← e1]
   grind
def eS:Nat→Nat
 | 0=>2
 | c+1=>2*eS c+1
theorem eS_mono:∀ {a b:Nat},a≤b→eS a≤eS b
 | a,0,h=>by
  have:a=0:=by omega
  subst this
  exact Nat.le_refl _
 | a,b+1,h=>by
  by_cases e:a=b+1
  ·subst e;exact Nat.le_refl _
  ·have:=eS_mono (a:=a) (b:=b) (by omega)
   rw [eS]
   omega
theorem elim_cd {n w:Nat} {A:Mx} (hw:n≤w)(hN:NonSing n A)(h:Cd n w A 2):∀ c,c≤n→Cd n w (elim n A c).1 (eS c)
 | 0,_=>h
 | c+1,hc=>by
  have ih:=elim_cd hw hN h c (by omega)
  obtain ⟨_,_,_,s4⟩:=elim_spec (L:=1) hw hN (fun i j hi hj=>h.len i j hi hj) (by decide) c (by omega)
  obtain ⟨p,p1,p2,p3,p4⟩:=s4 (by omega)
  have ee:(elim n A (c+1)).1=clrTo (swapIf (elim n A c).1 p c) c (n-(c+1)):=by
   show clrTo (swapIf (elim n A c).1 (pivI n (elim n A c).1 c c).toNat c) c (n-(c+1))=_
   rw [p1,Int.toNat_natCast]
  rw [ee]
  exact (ih.swap p3 (by omega)).clr hw (by omega) (by rw [swapIf_piv];exact p4)
def Hf (q:Rat):Prop:=∃ z:Int,q*2=(z:Rat)∧z.natAbs<4
theorem sol_half {n:Nat} (hn:n≤24) {A:Mx} {b x:Nat→Rat} (hN:NonSing n A)(hA:∀ i j,i<n→j<n→Hf (A i j))(hb:∀ i,i<n→Hf (b i))(hx:∀ i,i<n→(sumN n fun j=>A i j*x j)=b i):∀ i,i<n→rL (x i)≤1572900:=by
 have wA:∀ i j,∃ z:Int,i<n→j<n→A i j*2=(z:Rat)∧z.natAbs<2 ^ 2:=fun i j=>by
  by_cases h:i<n∧j<n
  ·obtain ⟨z,h1,h2⟩:=hA i j h.1 h.2
   exact ⟨z,fun _ _=>⟨h1,h2⟩⟩
  ·exact ⟨0,fun h1 h2=>absurd ⟨h1,h2⟩ h⟩
 have wb:∀ i,∃ z:Int,i<n→b i*2=(z:Rat)∧z.natAbs<2 ^ 2:=fun i=>by
  by_cases h:i<n
  ·obtain ⟨z,h1,h2⟩:=hb i h
   exact ⟨z,fun _=>⟨h1,h2⟩⟩
  ·exact ⟨0,fun h1=>absurd h1 h⟩
 obtain ⟨ZA,hZA⟩:∃ f:Nat→Nat→Int,∀ i j,i<n→j<n→A i j*2=(f i j:Rat)∧(f i j).natAbs<2 ^ 2:=⟨fun i j=>Classical.choose (wA i j),fun i j=>Classical.choose_spec (wA i j)⟩
 obtain ⟨Zb,hZb⟩:∃ f:Nat→Int,∀ i,i<n→b i*2=(f i:Rat)∧(f i).natAbs<2 ^ 2:=⟨fun i=>Classical.choose (wb i),fun i=>Classical.choose_spec (wb i)⟩
 have hsc:∀ i,i<n→∀ y:Nat→Rat,(sumN n fun j=>(ZA i j:Rat)*y j)=(sumN n fun j=>A i j*y j)*2:=by
  intro i hi y
  rw [← sumN_mulr]
  exact sumN_congr fun j hj=>by rw [← (hZA i j hi hj).1];grind
 obtain ⟨D,z,h1,h2,h3⟩:=sys_den30 n 2 ZA Zb x (by omega) (by
  intro y hy
  refine hN y fun i hi=>?_
  have h:=hy i hi
  have h:(sumN n fun j=>(ZA i j:Rat)*y j)=0:=h
  rw [hsc i hi] at h
  grind) (fun i j hi hj=>(hZA i j hi hj).2) (fun i hi=>(hZb i hi).2) (fun i hi=>by
  rw [hsc i hi,hx i hi]
  exact (hZb i hi).1)
 intro i hi
 have h4:=rL_frac h1 (h3 i hi).1 h2 (h3 i hi).2
 have h5:=sysB_mono (K:=2) (K':=2) hn (Nat.le_refl _)
 have h6:sysB 24 2=50331742:=by decide +kernel
 rw [h6] at h5
 omega
theorem bd_half {n c:Nat} (hn:n≤24) {A B:Mx} (hN:NonSing n A)(hA:∀ i j,i<n→j<n→Hf (A i j))(hB:∀ i j,i<n→j<c→Hf (B i j)):Bd n c A B 75500000:=by
 have hH:∀ i j,i<n→j<n+c→Hf (aug n A B i j):=fun i j hi hj=>by
  unfold aug
  split
  ·exact hA i j hi (by omega)
  ·exact hB i (j-n) hi (by omega)
 have hcd:Cd n (n+c) (aug n A B) 2:=by
  have w:∀ i j,∃ z:Int,i<n→j<n+c→aug n A B i j*2=(z:Rat)∧z.natAbs<2 ^ 2:=fun i j=>by
   by_cases h:i<n∧j<n+c
   ·obtain ⟨z,h1,h2⟩:=hH i j h.1 h.2
    exact ⟨z,fun _ _=>⟨h1,h2⟩⟩
   ·exact ⟨0,fun h1 h2=>absurd ⟨h1,h2⟩ h⟩
  exact ⟨2,fun i j=>Classical.choose (w i j),by decide,by decide,fun i j hi hj=>Classical.choose_spec (w i j) hi hj⟩
 have hNa:=aug_nonsing (B:=B) hN
 have h24:eS 24=50331647:=by decide +kernel
 have hE:∀ s,s≤n→∀ i j,i<n→j<n+c→rL ((elim n (aug n A B) s).1 i j)≤1572864:=fun s hs i j hi hj=>by
  have h1:=(elim_cd (by omega) hNa hcd s hs).len i j hi hj
  have h2:=eS_mono (show s≤24 by omega)
  rw [h24] at h2
  omega
 have hA1:∀ i j,i<n→j<n→rL (A i j)≤1:=fun i j hi hj=>by
  have:=hcd.len i j hi (by omega)
  unfold aug at this
  rwa [if_pos hj] at this
 have hB1:∀ i j,i<n→j<c→rL (B i j)≤1:=fun i j hi hj=>by
  have:=hcd.len i (n+j) hi (by omega)
  unfold aug at this
  rwa [if_neg (by omega),Nat.add_sub_cancel_left] at this
 obtain ⟨_,hsol,_⟩:=fin_spec hN hA1 hB1 (by decide)
 obtain ⟨e1,e2,_,_⟩:=elim_spec (w:=n+c) (by omega) hNa (aug_len hA1 hB1) (by decide) n (Nat.le_refl _)
 have bspec:=bakS_spec (w:=n+c) (by omega) e2 (hE n (Nat.le_refl _)) (by decide)
 refine ⟨by decide,by decide,fun i j hi hj=>Nat.le_trans (hA1 i j hi hj) (by decide),fun i j hi hj=>Nat.le_trans (hB1 i j hi hj) (by decide),fun s hs i j hi hj=>Nat.le_trans (hE s hs i j hi hj) (by decide),fun s hs i j hi hj=>?_⟩
 obtain ⟨b1,b2,_,_⟩:=bspec s hs
 have hleft:∀ k,k<n→rL (bakS n (elim n (aug n A B) n).1 s i k)≤1572864:=fun k hk=>by
  rw [b2 i k hi hk]
  split
  ·exact Nat.le_trans rL0 (by decide)
  ·exact hE n (Nat.le_refl _) i k hi (by omega)
 by_cases hjn:j<n
 ·exact Nat.le_trans (hleft j hjn) (by decide)
 ·obtain ⟨q,rfl⟩:∃ q,j=n+q:=⟨j-n,by omega⟩
  have hX:=sol_half hn hN hA (b:=fun i=>B i q) (x:=fun k=>solX n A B k q) (fun i hi=>hB i q hi (by omega)) (fun i hi=>hsol i q hi (by omega))
  have hK:Ker n (aug n A B) (n+q) (fun k=>solX n A B k q) (-1):=fun i hi=>by
   have h1:=hsol i q hi (by omega)
   have h2:(sumN n fun k=>aug n A B i k*solX n A B k q)=sumN n fun k=>A i k*solX n A B k q:=sumN_congr fun k hk=>by
    unfold aug
    rw [if_pos hk]
   have h3:aug n A B i (n+q)=B i q:=by unfold aug;rw [if_neg (by omega),Nat.add_sub_cancel_left]
   rw [h2,h1,h3]
   grind
  have hKb:=((e1.trans b1) (n+q) _ _).1 hK i hi
  have hv:bakS n (elim n (aug n A B) n).1 s i (n+q)=sumN n fun k=>bakS n (elim n (aug n A B) n).1 s i k*solX n A B k q:=by
   generalize bakS n (elim n (aug n A B) n).1 s=Z at *
   grind
  rw [hv]
  have h5:=sumN_len (n:=n) (f:=fun k=>bakS n (elim n (aug n A B) n).1 s i k*solX n A B k q) (L:=1572864+1572900) (fun k hk=>rL_mul _ _ (hleft k hk) (hX k hk) (by omega)) n (Nat.le_refl _)
  have h6:n*(1572864+1572900+1)≤24*(1572864+1572900+1):=Nat.mul_le_mul_right _ hn
  omega
theorem hf_hM (T:T2)(w:Nat→Int)(i j a k:Nat):Hf (hM T w i j a k)∧Hf (-hM T w i j a k)∧Hf (1+-hM T w i j a k):=by
 have h1:=cnt_le T w i j a k
 have h2:hM T w i j a k*2=((cnt T w i j a k:Nat):Rat):=Rat.div_mul_cancel (by decide +kernel)
 generalize hM T w i j a k=x at *
 generalize cnt T w i j a k=c at *
 have hc:((c:Nat):Rat)=(((c:Nat):Int):Rat):=(Rat.intCast_natCast c).symm
 refine ⟨⟨(c:Int),by rw [h2,hc],by omega⟩,⟨-(c:Int),?_,by omega⟩,⟨2-(c:Int),?_,by omega⟩⟩
 ·rw [Rat.intCast_neg,← hc]
  grind
 ·rw [Rat.intCast_sub,← hc]
  have:((2:Int):Rat)=2:=rfl
  grind
theorem hf_sub (t:Bool)(of:List Nat)(T:T2)(i k:Nat):Hf (subM t of (chA T) i k):=by
 unfold subM pkM chA
 split
 ·split
  ·exact (hf_hM ..).2.2
  ·exact (hf_hM ..).2.2
 ·split
  ·exact (hf_hM ..).2.1
  ·exact (hf_hM ..).2.1
theorem hf_e1 (i:Nat):Hf (e1 i):=by
 unfold e1
 split
 ·exact ⟨2,by decide +kernel,by decide⟩
 ·exact ⟨0,by decide +kernel,by decide⟩
section
variable {T:T2} {N m:Nat}
theorem bE24 (hC:isC N m (chA T) (chB T)=true)(h24:N≤24):Bd (pick N (rchB N m (chA T) (chB T))).length m (subM false (pick N (rchB N m (chA T) (chB T))) (chA T)) (rhsM (pick N (rchB N m (chA T) (chB T))) (chB T)) 75500000:=
 bd_half (Nat.le_trans (pick_le _ _) h24) (nonsing_sub hC) (fun i j _ _=>hf_sub ..) (fun i j _ _=>(hf_hM ..).1)
theorem bV24 (hC:isC N m (chA T) (chB T)=true)(h24:N≤24):Bd (pick N (rchB N m (chA T) (chB T))).length 1 (subM true (pick N (rchB N m (chA T) (chB T))) (chA T)) (fun i _=>e1 ((pick N (rchB N m (chA T) (chB T))).getD i 0)) 75500000:=
 bd_half (Nat.le_trans (pick_le _ _) h24) (nonsing_turn (L:=1) hC (fun i k _ _=>hM_len ..) (by decide)) (fun i j _ _=>hf_sub ..) (fun i j _ _=>hf_e1 _)
theorem each24 (hC:isC N m (chA T) (chB T)=true)(h24:N≤24):∀ i j,i<N→j<m→rL (eachM N m (chA T) (chB T) i j)≤1572900:=by
 intro i j hi hj
 unfold eachM
 split
 ·rename_i hf
  have hA':∀ i j,i<(pick N (rchB N m (chA T) (chB T))).length→j<(pick N (rchB N m (chA T) (chB T))).length→rL (subM false (pick N (rchB N m (chA T) (chB T))) (chA T) i j)≤2:=fun i j hi hj=>subM_len (n:=N) (fun i k _ _=>hM_len ..) (by decide) (pick_get hi).1 (pick_get hj).1
  have hB':∀ i j,i<(pick N (rchB N m (chA T) (chB T))).length→j<m→rL (rhsM (pick N (rchB N m (chA T) (chB T))) (chB T) i j)≤2:=fun i j hi hj=>Nat.le_trans (hM_len ..) (by decide)
  obtain ⟨_,h2,_⟩:=fin_spec (n:=(pick N (rchB N m (chA T) (chB T))).length) (c:=m) (L:=2) (B:=rhsM (pick N (rchB N m (chA T) (chB T))) (chB T)) (nonsing_sub hC) hA' hB' (by decide)
  exact sol_half (Nat.le_trans (pick_le N _) h24) (nonsing_sub hC) (fun i j _ _=>hf_sub ..) (b:=fun i=>rhsM (pick N (rchB N m (chA T) (chB T))) (chB T) i j) (fun i hi=>(hf_hM ..).1) (x:=fun k=>solX _ _ _ k j) (fun i hi=>h2 i j hi hj) _ (pick_at hi hf).1
 ·exact Nat.le_trans rL0 (by decide)
theorem vis24 (hC:isC N m (chA T) (chB T)=true)(h24:N≤24):∀ i,i<N→rL (visV N m (chA T) (chB T) e1 i)≤1572900:=by
 intro i hi
 unfold visV
 split
 ·rename_i hf
  exact sol_half (Nat.le_trans (pick_le N _) h24) (nonsing_turn (L:=1) hC (fun i k _ _=>hM_len ..) (by decide)) (fun i j _ _=>hf_sub ..) (b:=fun i=>e1 ((pick N (rchB N m (chA T) (chB T))).getD i 0)) (fun i hi=>hf_e1 _) (x:=fun k=>solX _ _ _ k 0) (fun i hi=>vis_sys (L:=1) hC (fun i k _ _=>hM_len ..) (fun i hi=>Nat.le_trans (e1_len i) (by decide)) (by decide) i hi) _ (pick_at hi hf).1
 ·exact Nat.le_trans rL0 (by decide)
theorem sz24 (h24:N≤24)(hm:m≤48):(N+m+1)*(24*(2*1572900+1)+1+1)<2 ^ 33:=by
 have h1:(N+m+1)*(24*(2*1572900+1)+1+1)≤73*(24*(2*1572900+1)+1+1):=Nat.mul_le_mul_right _ (by omega)
 omega
theorem ends24 (hC:isC N m (chA T) (chB T)=true)(h24:N≤24)(hm:m≤48):PCall Tryz.prog 53 [cV N m (chA T) (chB T),.sl ((vl N e1).map rV)] (.tup [.sl ((vl m (thr N e1 (eachM N m (chA T) (chB T)))).map rV),rV (neverQ N m (chA T) (chB T) e1),.i .i64 0]) []:=
 ends_b N m 1 1572900 75500000 h24 (by omega) (chA T) (chB T) hC (fun i k _ _=>hM_len ..) (fun i k _ _=>hM_len ..) (by decide) (bE24 hC h24) (by decide) e1 (fun i _=>e1_pos i) (fun i _=>Nat.le_trans (e1_len i) (by decide)) (each24 hC h24) (by decide) (by decide) (sz24 h24 hm)
theorem steps24 (hC:isC N m (chA T) (chB T)=true)(h24:N≤24)(hm:m≤48)(h0:neverQ N m (chA T) (chB T) e1=0):PCall Tryz.prog 57 [cV N m (chA T) (chB T),.sl ((vl N e1).map rV)] (.tup [rV (sumN N (visV N m (chA T) (chB T) e1)),.i .i64 0]) []:=
 msteps_b N m 1 1572900 75500000 h24 (by omega) (chA T) (chB T) hC (fun i k _ _=>hM_len ..) (fun i k _ _=>hM_len ..) (by decide) (by decide) e1 (fun i _=>e1_pos i) (bE24 hC h24) (bV24 hC h24) (fun i _=>e1_len i) (each24 hC h24) (by decide) (by decide) (sz24 h24 hm) h0 (vis24 hC h24)
end
theorem vl_same {m:Nat} {f g:Nat→Rat} (h:∀ j,j<m→f j=g j):vl m f=vl m g:=by
 unfold vl
 exact List.map_congr_left fun j hj=>h j (List.mem_range.1 hj)
section
variable {n:Int} {l:List Int} {J:Nat}
theorem JS.chain (h:JS n l J)(h24:bgL n l (J+1)≤24):PCall Tryz.prog 19 [smp (catT (Pl n l) (J+1))] (.tup [cV (bgL n l (J+1)) l.length (chA (catT (Pl n l) (J+1))) (chB (catT (Pl n l) (J+1))),.i .i64 0]) []:=by
 have hf:=h.fewer
 have he:=h.ex
 have cc:=cchain_walk (catT (Pl n l) (J+1)) (cat_isS h.lv h.go h.hb h.st) (by rw [he.1];omega)
 rwa [he.2,cat_length] at cc
theorem JS.spread_ok (h:JS n l J)(h24:bgL n l (J+1)≤24):PCall Tryz.prog 21 [smp (catT (Pl n l) (J+1))] (.tup [.sl ((vl l.length fun j=>gR (l.getD j 0).toNat n.toNat 0).map rV),rV 0,.i .i64 0]) []:=by
 have hf:=h.fewer
 have ce:=ends24 h.isC h24 (by omega)
 rw [h.never,vl_same h.ends] at ce
 exact cspread_ok (cat_length n l (J+1)) (h.chain h24) (cstart_ok _ h.N1 (by omega)) ce
theorem JS.mean_ok (h:JS n l J)(h24:bgL n l (J+1)≤24):PCall Tryz.prog 23 [smp (catT (Pl n l) (J+1))] (.tup [rV (sumN (bgL n l (J+1)) (visV (bgL n l (J+1)) l.length (chA (catT (Pl n l) (J+1))) (chB (catT (Pl n l) (J+1))) e1)),.i .i64 0]) []:=by
 have hf:=h.fewer
 exact cmean_ok (cat_length n l (J+1)) (h.chain h24) (cstart_ok _ h.N1 (by omega)) (steps24 h.isC h24 (by omega) h.never)
theorem JS.meanL (h:JS n l J)(h24:bgL n l (J+1)≤24):rL (sumN (bgL n l (J+1)) (visV (bgL n l (J+1)) l.length (chA (catT (Pl n l) (J+1))) (chB (catT (Pl n l) (J+1))) e1))≤40000000:=by
 have h1:=sumN_len (vis24 h.isC h24) _ (Nat.le_refl _)
 have h2:bgL n l (J+1)*(1572900+1)≤24*(1572900+1):=Nat.mul_le_mul_right _ h24
 omega
end
theorem mkV_js (l:List Int):(∃ e:Int,(e=1∨e=2)∧mkV l=.tup [.agg [.sl (nx [])],.i .i64 e])∨(isO l=true∧∃ J,JS (sumI l) l J∧mkV l=.tup [.agg [.sl (nx (catT (Pl (sumI l) l) (J+1)))],.i .i64 0]):=by
 cases h:isO l
 ·exact .inl ⟨1,.inl rfl,by unfold mkV;rw [h];rfl⟩
 ·have lv:=lvl_of h
  have hpos:∀ x ∈ l,1≤x∧x<sumI l:=fun x hx=>⟨((isO_iff.1 h).2.2 x hx).1,((lv.is 0).bd x hx).2⟩
  have key:∀ k j,60≤j+k→goes (sumI l) l j→bgL (sumI l) l (j+1)≤60→∃ j,goes (sumI l) l j∧bgL (sumI l) l (j+1)≤60∧(stopL (sumI l) l j∨(¬ stopL (sumI l) l j∧60<bgL (sumI l) l (j+2))):=fun k=>by
   induction k with
   | zero=>
    intro j hj hg hb
    have:=goes_bg lv hg (j+1) (Nat.le_refl _)
    omega
   | succ k ih=>
    intro j hj hg hb
    by_cases hs:stopL (sumI l) l j
    ·exact ⟨j,hg,hb,.inl hs⟩
    ·by_cases hb2:60<bgL (sumI l) l (j+2)
     ·exact ⟨j,hg,hb,.inr ⟨hs,hb2⟩⟩
     ·refine ih (j+1) (by omega) (fun a ha=>?_) (by show bgL (sumI l) l (j+2)≤60;omega)
      by_cases e:a=j
      ·subst e;exact ⟨hs,hb⟩
      ·exact hg a (by omega)
  obtain ⟨j,hg,hb,hj⟩:=key 60 0 (by omega) (fun i hi=>absurd hi (Nat.not_lt_zero _)) (by rw [show bgL (sumI l) l (0+1)=1 from (Nat.zero_add _).trans lv.one];decide)
  rw [mkV_eq h]
  rcases hj with hs | ⟨hs,hb2⟩
  ·rw [mk_stop lv hg hb hs]
   exact .inr ⟨rfl,j,⟨lv,hg,hb,hs,rfl,hpos⟩,rfl⟩
  ·rw [mk_limit lv hg hb hs hb2]
   exact .inl ⟨2,.inr rfl,rfl⟩
theorem rq_of (a b:Nat):rq false a b=((a:Nat):Rat) / ((b:Nat):Rat):=by
 have e:rq false a b=mkRat (a:Int) b:=rfl
 rw [e,Rat.mkRat_eq_div,Rat.intCast_natCast]
set_option maxHeartbeats 16000000 in
theorem coinJust_walk {Φ:World→Prop} (hSt:Stab Φ)(l:List Int)(hl:l.length<2 ^ 62)(cM:PCallT Φ Tryz.prog 11 [.sl (wl l)] (mkV l)):PCallT Φ Tryz.prog 9 [.sl (wl l)] (.b true):=by
 have hml:=wl_length l
 have hgA:∀ i,i<l.length→(wl l).getD i .junk=.i .i64 (l.getD i 0):=fun i hi=>wl_get hi
 have cal:=calive_ok
 refine PCallT.of_ax Tryz.call9 Tryz.func9 rfl (by simp [Tryz.ntmps9]) fun O w hPh=>?_
 simp only [Tryz.ntmps9,Tryz.results9,argFr]
 by_cases h80:80<l.length
 ·generalize wl l=A at *
  refine AX.sR (rgAV [0]) ?_
  refine AX.seq ?_
  refine AX.sR (rgWV [0,19] (aI @hml oT) oT) ?_
  refine AX.condT ?_
  refine AX.sR (rgAV [2]) ?_
  refine AX.ret ⟨.inl rfl,?_⟩
  exact Done.one rfl rfl rfl rfl
 rcases mkV_js l with ⟨e,he,hmk⟩ | ⟨hO,J,h,hmk⟩
 ·have he0:¬ e=0:=by omega
  have hnil:nx []=[]:=rfl
  rw [hmk,hnil] at cM
  generalize wl l=A at *
  refine AX.sR (rgAV [0]) ?_
  refine AX.seq ?_
  refine AX.sR (rgWV [0,19] (aI @hml oT) oT) ?_
  refine AX.condF ?_
  refine AX.keepA [0] ?_
  refine AX.skip ?_
  refine nmZ ?_
  apply AX.sregS [0,3,4] (by simp only [pq];rfl)
  ·repeat (first
  |(apply RunS.op rfl;· rfl
    ·(simp only [opsOf,valsOf,valOf,lkp,ofConst,ofCell,Array.toList,Option.toList,List.map_cons,List.map_nil,List.cons_append,List.nil_append,List.append_nil,Nat.reduceEqDiff,Nat.reducePow,Nat.reduceLT,Nat.reduceLeDiff,reduceIte,if_true,if_false,IntKind.min,IntKind.max,IntKind.bits,IntKind.signed,Int.reduceLE,Int.reduceNeg,Int.reducePow,Int.reduceSub,and_self,Bool.false_eq_true,Nat.reduceSub];rfl)
    iterate 2 (· (simp (disch:=omega) only [go_sem,i64_of,u32_of,u64_of,Nat.reduceLT,Nat.reduceLeDiff,Nat.reduceEqDiff,Nat.reduceAdd,Nat.reduceSub,Nat.reduceMul,Nat.reducePow,Nat.reduceBEq,Int.reduceLE,Int.reduceLT,Int.reduceToNat,Int.reduceEq,Int.reduceNeg,↓reduceIte,reduceCtorEq];rfl))
    ·(simp only [pb,Nat.reduceLT,Nat.reduceAdd,reduceIte];rfl))
  |(apply RunS.callT rfl;· rfl
    ·(simp only [opsOf,valsOf,valOf,lkp,ofConst,ofCell,Array.toList,Option.toList,List.map_cons,List.map_nil,List.cons_append,List.nil_append,List.append_nil,Nat.reduceEqDiff,Nat.reducePow,Nat.reduceLT,Nat.reduceLeDiff,reduceIte,if_true,if_false,IntKind.min,IntKind.max,IntKind.bits,IntKind.signed,Int.reduceLE,Int.reduceNeg,Int.reducePow,Int.reduceSub,and_self,Bool.false_eq_true,Nat.reduceSub];rfl)
    ·rfl
    ·exact cM
    ·exact hPh
    ·exact hSt
    ·exact fun _ h=>h
    ·rfl
    ·(simp only [pb,Nat.reduceLT,Nat.reduceAdd,reduceIte];rfl))
  |(apply RunS.skip;· rfl
    ·(simp only [pb,Nat.reduceLT,Nat.reduceAdd,reduceIte];rfl)))
   exact RunS.nil
  ·repeat (first | exact Keep.nil | (apply Keep.take;· rfl) | (apply Keep.drop;· rfl))
  refine AX.seq ?_
  refine AX.sR (rgAV [0,3,32]) ?_
  refine AX.condT ?_
  refine AX.sR (rgCV [2] (aI cal oT)) ?_
  refine AX.ret ⟨.inl rfl,?_⟩
  exact Done.one rfl rfl rfl rfl
 rw [hmk] at cM
 have hmS:=nx_length (catT (Pl (sumI l) l) (J+1))
 by_cases h24:24<(catT (Pl (sumI l) l) (J+1)).length
 ·generalize catT (Pl (sumI l) l) (J+1)=S at *
  generalize nx S=B at *
  generalize wl l=A at *
  refine AX.sR (rgAV [0]) ?_
  refine AX.seq ?_
  refine AX.sR (rgWV [0,19] (aI @hml oT) oT) ?_
  refine AX.condF ?_
  refine AX.keepA [0] ?_
  refine AX.skip ?_
  refine nmZ ?_
  apply AX.sregS [0,3,4] (by simp only [pq];rfl)
  ·repeat (first
  |(apply RunS.op rfl;· rfl
    ·(simp only [opsOf,valsOf,valOf,lkp,ofConst,ofCell,Array.toList,Option.toList,List.map_cons,List.map_nil,List.cons_append,List.nil_append,List.append_nil,Nat.reduceEqDiff,Nat.reducePow,Nat.reduceLT,Nat.reduceLeDiff,reduceIte,if_true,if_false,IntKind.min,IntKind.max,IntKind.bits,IntKind.signed,Int.reduceLE,Int.reduceNeg,Int.reducePow,Int.reduceSub,and_self,Bool.false_eq_true,Nat.reduceSub];rfl)
    iterate 2 (· (simp (disch:=omega) only [go_sem,i64_of,u32_of,u64_of,Nat.reduceLT,Nat.reduceLeDiff,Nat.reduceEqDiff,Nat.reduceAdd,Nat.reduceSub,Nat.reduceMul,Nat.reducePow,Nat.reduceBEq,Int.reduceLE,Int.reduceLT,Int.reduceToNat,Int.reduceEq,Int.reduceNeg,↓reduceIte,reduceCtorEq];rfl))
    ·(simp only [pb,Nat.reduceLT,Nat.reduceAdd,reduceIte];rfl))
  |(apply RunS.callT rfl;· rfl
    ·(simp only [opsOf,valsOf,valOf,lkp,ofConst,ofCell,Array.toList,Option.toList,List.map_cons,List.map_nil,List.cons_append,List.nil_append,List.append_nil,Nat.reduceEqDiff,Nat.reducePow,Nat.reduceLT,Nat.reduceLeDiff,reduceIte,if_true,if_false,IntKind.min,IntKind.max,IntKind.bits,IntKind.signed,Int.reduceLE,Int.reduceNeg,Int.reducePow,Int.reduceSub,and_self,Bool.false_eq_true,Nat.reduceSub];rfl)
    ·rfl
    ·exact cM
    ·exact hPh
    ·exact hSt
    ·exact fun _ h=>h
    ·rfl
    ·(simp only [pb,Nat.reduceLT,Nat.reduceAdd,reduceIte];rfl))
  |(apply RunS.skip;· rfl
    ·(simp only [pb,Nat.reduceLT,Nat.reduceAdd,reduceIte];rfl)))
   exact RunS.nil
  ·repeat (first | exact Keep.nil | (apply Keep.take;· rfl) | (apply Keep.drop;· rfl))
  refine AX.seq ?_
  refine AX.sR (rgWV [0,3,32] (aI @hmS oT) oT) ?_
  refine AX.condT ?_
  refine AX.sR (rgCV [2] (aI cal oT)) ?_
  refine AX.ret ⟨.inl rfl,?_⟩
  exact Done.one rfl rfl rfl rfl
 have hb24:bgL (sumI l) l (J+1)≤24:=by rw [← cat_length];omega
 obtain ⟨q1,q2,q3⟩:=isO_iff.1 hO
 obtain ⟨n2,n3⟩:=(isL_first hO).2
 have hnn:=h.nn
 have cp:=h.spread_ok hb24
 have cm:=h.mean_ok hb24
 have hML:=h.meanL hb24
 have cl:=least_ok l hO
 have hLe:∀ Lq,LqP l Lq→sumN (bgL (sumI l) l (J+1)) (visV (bgL (sumI l) l (J+1)) l.length (chA (catT (Pl (sumI l) l) (J+1))) (chB (catT (Pl (sumI l) l) (J+1))) e1)=sumN l.length Lq:=fun Lq hL=>by
  obtain ⟨a,p,hp,hr,hm⟩:=h.mean
  rw [hm]
  refine sumN_congr fun j hj=>?_
  obtain ⟨b,q,hq,hs,e⟩:=hL j hj
  rw [e]
  exact dgV_same hnn hp (hr j hj) hq hs
 have cs:=psign_ok (IsQ.of (show rL 0≤1 from rL0)) (by decide)
 have hs0:sgnR 0=0:=by decide +kernel
 rw [hs0] at cs
 have hG:∀ i,i<l.length→gR (l.getD i 0).toNat (sumI l).toNat 0=rq false (l.getD i 0).toNat (sumI l).toNat:=fun i hi=>by rw [h.g0 hi,rq_of]
 have cmk:∀ i,i<l.length→PCall Tryz.prog 33 [.i .i64 (l.getD i 0),.i .i64 (sumI l)] (.tup [rV (gR (l.getD i 0).toNat (sumI l).toNat 0),.i .i64 0]) []:=fun i hi=>by
  have hx:=q3 _ (getD_mem_W hi)
  have hk:=pmake_ok (l.getD i 0) (sumI l) (by omega) (by omega)
  rw [decide_eq_false (show ¬ l.getD i 0<0 by omega),decide_eq_false (show ¬ sumI l<0 by omega),show (l.getD i 0).natAbs=(l.getD i 0).toNat by omega,show (sumI l).natAbs=(sumI l).toNat by omega] at hk
  rw [hG i hi]
  unfold ofV at hk
  rw [if_neg (by omega)] at hk
  exact hk
 have csm:∀ i,i<l.length→PCall Tryz.prog 27 [rV (gR (l.getD i 0).toNat (sumI l).toNat 0),rV (gR (l.getD i 0).toNat (sumI l).toNat 0)] (.b true) []:=fun i hi=>by
  have hx:=q3 _ (getD_mem_W hi)
  refine psame_q (L:=1) ?_ (by decide) (by decide)
  rw [hG i hi]
  exact rL_rq (digits_length_le (by omega)) (digits_length_le (by omega)) (Nat.le_refl _)
 have hbd:=sumI_bd (l:=l) (B:=1000000) (by decide) (fun x hx=>by have:=q3 x hx;omega)
 have hx3:∀ i,i<l.length→1≤l.getD i 0∧l.getD i 0≤1000000:=fun i hi=>by have:=q3 _ (getD_mem_W hi);omega
 have htk:∀ i,i<l.length→sumI (l.take (i+1))=sumI (l.take i)+l.getD i 0:=fun i hi=>sumI_take hi
 have hall:sumI (l.take l.length)=sumI l:=by rw [List.take_length]
 obtain ⟨G,hGe⟩:∃ G:Nat→Rat,(fun j=>gR (l.getD j 0).toNat (sumI l).toNat 0)=G:=⟨_,rfl⟩
 have hGi:∀ i,gR (l.getD i 0).toNat (sumI l).toNat 0=G i:=fun i=>by rw [← hGe]
 rw [hGe] at cp
 simp only [hGi] at cmk csm
 have hol:((vl l.length G).map rV).length=l.length:=by rw [List.length_map,vl_length]
 have hixO:=fun (i:Nat) (hi:i<l.length)=>fun x y=>effIxL (x:=x) (y:=y) G hi
 clear hG hGi hGe q3 h hmk hnn
 have hmS24:(catT (Pl (sumI l) l) (J+1)).length≤24:=by omega
 generalize sumN (bgL (sumI l) l (J+1)) (visV (bgL (sumI l) l (J+1)) l.length (chA (catT (Pl (sumI l) l) (J+1))) (chB (catT (Pl (sumI l) l) (J+1))) e1)=M at *
 generalize catT (Pl (sumI l) l) (J+1)=S at *
 unfold smp at *
 generalize nx S=B at *
 generalize (vl l.length G).map rV=D at *
 generalize wl l=A at *
 refine AX.sR (rgAV [0]) ?_
 refine AX.seq ?_
 refine AX.sR (rgWV [0,19] (aI @hml oT) oT) ?_
 refine AX.condF ?_
 refine AX.keepA [0] ?_
 refine AX.skip ?_
 refine nmZ ?_
 apply AX.sregS [0,3,4] (by simp only [pq];rfl)
 ·repeat (first
 |(apply RunS.op rfl;· rfl
   ·(simp only [opsOf,valsOf,valOf,lkp,ofConst,ofCell,Array.toList,Option.toList,List.map_cons,List.map_nil,List.cons_append,List.nil_append,List.append_nil,Nat.reduceEqDiff,Nat.reducePow,Nat.reduceLT,Nat.reduceLeDiff,reduceIte,if_true,if_false,IntKind.min,IntKind.max,IntKind.bits,IntKind.signed,Int.reduceLE,Int.reduceNeg,Int.reducePow,Int.reduceSub,and_self,Bool.false_eq_true,Nat.reduceSub];rfl)
   iterate 2 (· (simp (disch:=omega) only [go_sem,i64_of,u32_of,u64_of,Nat.reduceLT,Nat.reduceLeDiff,Nat.reduceEqDiff,Nat.reduceAdd,Nat.reduceSub,Nat.reduceMul,Nat.reducePow,Nat.reduceBEq,Int.reduceLE,Int.reduceLT,Int.reduceToNat,Int.reduceEq,Int.reduceNeg,↓reduceIte,reduceCtorEq];rfl))
   ·(simp only [pb,Nat.reduceLT,Nat.reduceAdd,reduceIte];rfl))
 |(apply RunS.callT rfl;· rfl
   ·(simp only [opsOf,valsOf,valOf,lkp,ofConst,ofCell,Array.toList,Option.toList,List.map_cons,List.map_nil,List.cons_append,List.nil_append,List.append_nil,Nat.reduceEqDiff,Nat.reducePow,Nat.reduceLT,Nat.reduceLeDiff,reduceIte,if_true,if_false,IntKind.min,IntKind.max,IntKind.bits,IntKind.signed,Int.reduceLE,Int.reduceNeg,Int.reducePow,Int.reduceSub,and_self,Bool.false_eq_true,Nat.reduceSub];rfl)
   ·rfl
   ·exact cM
   ·exact hPh
   ·exact hSt
   ·exact fun _ h=>h
   ·rfl
   ·(simp only [pb,Nat.reduceLT,Nat.reduceAdd,reduceIte];rfl))
 |(apply RunS.skip;· rfl
   ·(simp only [pb,Nat.reduceLT,Nat.reduceAdd,reduceIte];rfl)))
  exact RunS.nil
 ·repeat (first | exact Keep.nil | (apply Keep.take;· rfl) | (apply Keep.drop;· rfl))
 refine AX.seq ?_
 refine AX.sR (rgWV [0,3,32] (aI @hmS oT) oT) ?_
 refine AX.condF ?_
 refine AX.keepA [0,3] ?_
 refine AX.skip ?_
 refine nmZ ?_
 refine AX.sR (rgCV [0,3,5,6,7] (aI cp oT)) ?_
 refine AX.seq ?_
 refine AX.sR (rgWV [0,3,5,53] (aI @hol (aI @hml oT)) (aI cs oT)) ?_
 refine AX.condF ?_
 refine AX.keepA [0,3,5] ?_
 refine AX.skip ?_
 refine nmZ ?_
 refine AX.sR (rgAV [0,3,5,8]) ?_
 refine AX.seq ?_
 refine AX.sR (rgWV [0,3,5,8,55,56] (aI @hml oT) oT) ?_
 clear cM cp cs hSt hPh
 refine AX.weaken id (st':=⟨[(56,.i .i64 (0:Nat)),(55,.i .i64 l.length),(8,.i .i64 0),(5,.sl D),(3,.ptr 0 0),(0,.sl A)],[(0,⟨25,[.sl B]⟩)],2⟩)
  leQ7
  ?_
 refine AX.block ?_
 refine AX.loop (fun N st=>∃ (i:Nat) (s:Int),i≤l.length∧N=l.length-i∧s=sumI (l.take i)∧st=⟨[(56,.i .i64 i),(55,.i .i64 l.length),(8,.i .i64 s),(5,.sl D),(3,.ptr 0 0),(0,.sl A)],[(0,⟨25,[.sl B]⟩)],2⟩) l.length ⟨0,0,Nat.zero_le _,rfl,rfl,rfl⟩ ?_
 rintro N st ⟨i,s,hi,rfl,hs,rfl⟩
 by_cases h1:i<l.length
 ·have hg:=hgA i h1
  have hsn:=htk i h1
  have b1:=hbd i hi
  have b2:=hx3 i h1
  rw [← hs] at hsn b1
  generalize l.getD i 0=x at *
  have b3:(i:Int)*1000000≤64*1000000:=Int.mul_le_mul_of_nonneg_right (by omega) (by decide)
  clear cmk csm cl hLe cm cal hixO hgA
  refine AX.sR (rgAV [0,3,5,8,55,56,57]) ?_
  refine AX.seq ?_
  refine AX.condT ?_
  refine AX.keepA [0,3,5,8,55,56] ?_
  refine AX.skip ?_
  refine nmZ ?_
  refine AX.seq ?_
  refine AX.block ?_
  refine AX.sR (rgAV [0,3,5,8,9,55,56]) ?_
  refine AX.rR (rgWV [0,3,5,8,55,56] (aI @hml (aI @hg oT)) oT) ?_
  refine nmZ ?_
  refine AX.rR (rgWV [0,3,5,8,55,56] (aI @lit_add oT) oT) ?_
  refine nmZ ?_
  refine ⟨_,_,id,?_,
   leQ7
   , ⟨i+1,s+x,by omega,rfl,hsn.symm,rfl⟩⟩
  omega
 obtain rfl:i=l.length:=by omega
 rw [hall] at hs
 subst hs
 refine AX.sR (rgAV [0,3,5,8,55,56,57]) ?_
 refine AX.seq ?_
 refine AX.condF ?_
 refine AX.exit ?_
 refine nmZ ?_
 refine AX.seq ?_
 refine AX.sR (rgWV [0,3,5,8,67,68] (aI @hol oT) oT) ?_
 refine AX.weaken id (st':=⟨[(68,.i .i64 (0:Nat)),(67,.i .i64 l.length),(8,.i .i64 (sumI l)),(5,.sl D),(3,.ptr 0 0),(0,.sl A)],[(0,⟨25,[.sl B]⟩)],2⟩)
  leQ7
  ?_
 refine AX.block ?_
 refine AX.loop (fun N st=>∃ (i:Nat),i≤l.length∧N=l.length-i∧st=⟨[(68,.i .i64 i),(67,.i .i64 l.length),(8,.i .i64 (sumI l)),(5,.sl D),(3,.ptr 0 0),(0,.sl A)],[(0,⟨25,[.sl B]⟩)],2⟩) l.length ⟨0,Nat.zero_le _,rfl,rfl⟩ ?_
 rintro N st ⟨i,hi,rfl,rfl⟩
 by_cases h1:i<l.length
 ·have hg:=hgA i h1
  have hix:=hixO i h1
  have c1:=cmk i h1
  have c2:=csm i h1
  have b2:=hx3 i h1
  clear cmk csm cl hLe cm cal hixO hgA hbd hx3 htk hall
  generalize l.getD i 0=x at *
  generalize sumI l=n at *
  generalize G i=q at *
  refine AX.sR (rgAV [0,3,5,8,67,68,69]) ?_
  refine AX.seq ?_
  refine AX.condT ?_
  refine AX.keepA [0,3,5,8,67,68] ?_
  refine AX.skip ?_
  refine nmZ ?_
  refine AX.seq ?_
  refine AX.block ?_
  refine AX.sR (rgAV [0,3,5,8,10,67,68]) ?_
  refine AX.sR (rgWV [0,3,5,8,10,11,67,68] (aI @hml (aI @hg oT)) (aI c1 oT)) ?_
  refine AX.sD (rgDEV [0,3,5,8,67,68,86] oT (aI c2 oT) (aI hix oT)) ?_
  refine AX.condF ?_
  refine AX.keepA [0,3,5,8,67,68] ?_
  refine AX.skip ?_
  refine nmZ ?_
  refine AX.rR (rgWV [0,3,5,8,67,68] (aI @lit_add oT) oT) ?_
  refine nmZ ?_
  refine ⟨_,_,id,?_,
   leQ7
   , ⟨i+1,by omega,rfl,rfl⟩⟩
  omega
 obtain rfl:i=l.length:=by omega
 clear cmk csm hixO hgA hbd hx3 htk hall
 rcases cl with ⟨hn,cl⟩ | ⟨hn,Lq,hLq,hrl,cl⟩
 ·clear hLe
  generalize sumI l=n at *
  refine AX.sR (rgAV [0,3,5,8,67,68,69]) ?_
  refine AX.seq ?_
  refine AX.condF ?_
  refine AX.exit ?_
  refine nmZ ?_
  refine AX.sR (rgCV [0,8,13,14] (aI cm oT)) ?_
  refine AX.sR (rgCV [8,13,14,15,16] (aI cl oT)) ?_
  refine AX.sR (rgCV [2] (aI cal oT)) ?_
  refine AX.ret ⟨.inl rfl,?_⟩
  exact Done.one rfl rfl rfl rfl
 ·have hM:=hLe Lq hLq
  have cq:=psame_q hML (by decide) (by decide)
  rw [← hM] at cl
  clear hLe hLq hrl hM
  generalize sumI l=n at *
  refine AX.sR (rgAV [0,3,5,8,67,68,69]) ?_
  refine AX.seq ?_
  refine AX.condF ?_
  refine AX.exit ?_
  refine nmZ ?_
  refine AX.sR (rgCV [0,8,13,14] (aI cm oT)) ?_
  refine AX.sR (rgCV [8,13,14,15,16] (aI cl oT)) ?_
  refine AX.sR (rgCV [2] (aI cq (aI cal oT))) ?_
  refine AX.ret ⟨.inl rfl,?_⟩
  exact Done.one rfl rfl rfl rfl
end Go.Proofs.YteidabibgjokkaaGreatDoor
