import Derived.Test.YteidabibgjokkaaGreatDoorHK
set_option maxRecDepth 20000
set_option linter.all false
namespace Go.Proofs.YteidabibgjokkaaGreatDoor
open Go Go.Proofs.YteidabibgjokkaaGreatDoor.Lift
attribute [local irreducible] Lift.PCall Lift.HCall
def clrTo (A:Mx) (c:Nat):Nat→Mx
 | 0=>A
 | t+1=>clearM (clrTo A c t) c (c+1+t) (clrTo A c t (c+1+t) c / clrTo A c t c c)
def swapIf (A:Mx) (p c:Nat):Mx:=if p=c then A else swapM A p c
def elim (n:Nat) (A:Mx):Nat→Mx × Bool
 | 0=>(A,false)
 | c+1=>(clrTo (swapIf (elim n A c).1 (pivI n (elim n A c).1 c c).toNat c) c (n-(c+1)),if (pivI n (elim n A c).1 c c).toNat=c then (elim n A c).2 else !(elim n A c).2)
theorem swapM_at (A:Mx)(p r i j:Nat):swapM A p r i j=if i=p then A r j else if i=r then A p j else A i j:=by
 unfold swapM
 by_cases h1:i=p
 ·rw [if_pos h1,if_pos h1]
 ·rw [if_neg h1,if_neg h1]
  by_cases h2:i=r
  ·rw [if_pos h2,if_pos h2]
  ·rw [if_neg h2,if_neg h2]
theorem RowEq.swapIf {n:Nat} (A:Mx) {p c:Nat} (hp:p<n)(hc:c<n):RowEq n A (swapIf A p c):=by
 unfold Go.Proofs.YteidabibgjokkaaGreatDoor.swapIf
 split
 ·exact RowEq.refl _ _
 ·exact RowEq.swap A hp hc
theorem swapIf_piv (A:Mx)(p c:Nat):swapIf A p c c=A p:=by
 unfold swapIf
 split
 ·rename_i e;rw [e]
 ·rename_i e
  unfold swapM
  rw [if_neg (fun h=>e h.symm),if_pos rfl]
theorem clrTo_spec {A:Mx} {c:Nat} (h0:A c c≠0):∀ t,(∀ i,(i≤c∨c+t<i)→clrTo A c t i=A i)∧(∀ i,c<i→i≤c+t→clrTo A c t i=fun j=>A i j-A i c / A c c*A c j):=by
 intro t
 induction t with
 | zero=>exact ⟨fun _ _=>rfl,fun i h1 h2=>by omega⟩
 | succ t ih=>
  obtain ⟨h1,h2⟩:=ih
  have ec:clrTo A c t c=A c:=h1 c (.inl (Nat.le_refl _))
  have et:clrTo A c t (c+1+t)=A (c+1+t):=h1 _ (.inr (by omega))
  refine ⟨fun i hi=>?_,fun i g1 g2=>?_⟩
  ·funext j
   show clearM (clrTo A c t) c (c+1+t) _ i j=_
   unfold clearM
   rw [if_neg (by omega),h1 i (by omega)]
  ·funext j
   show clearM (clrTo A c t) c (c+1+t) _ i j=_
   unfold clearM
   by_cases e:i=c+1+t
   ·subst e
    rw [if_pos rfl,et,ec]
   ·rw [if_neg e,h2 i g1 (by omega)]
theorem clrTo_RowEq {n c:Nat} {A:Mx} (hc:c<n):∀ t,c+t<n→RowEq n A (clrTo A c t):=by
 intro t
 induction t with
 | zero=>exact fun _=>RowEq.refl _ _
 | succ t ih=>exact fun h=>(ih (by omega)).trans (RowEq.clear _ _ hc (by omega) (by omega))
theorem clrTo_len {n w c L:Nat} {A:Mx} (h0:A c c≠0)(hc:c<n)(hw:n≤w)(hL:∀ i j,i<n→j<w→rL (A i j)≤L)(hL1:1≤L):∀ t,c+t<n→∀ i j,i<n→j<w→rL (clrTo A c t i j)≤4*L+1:=by
 intro t ht i j hi hj
 obtain ⟨h1,h2⟩:=clrTo_spec h0 t
 by_cases h:c<i∧i≤c+t
 ·rw [h2 i h.1 h.2]
  have e1:=hL i c hi (by omega)
  have e2:=hL c c hc (by omega)
  have e3:=hL c j hc hj
  have e4:=hL i j hi hj
  have e5:=rL_div (A i c) (A c c) e1 e2 (by omega)
  have e6:=rL_mul (A i c / A c c) (A c j) e5 e3 (by omega)
  have e7:=rL_sub (A i j) (A i c / A c c*A c j) e4 e6
  show rL (A i j-A i c / A c c*A c j)≤_
  omega
 ·rw [h1 i (by omega)]
  have:=hL i j hi hj
  omega
theorem elim_spec {n w L:Nat} {A:Mx} (hw:n≤w)(hA:NonSing n A)(hL:∀ i j,i<n→j<w→rL (A i j)≤L)(hL1:1≤L):∀ c,c≤n→RowEq n A (elim n A c).1∧Tri n (elim n A c).1 c∧(∀ i j,i<n→j<w→rL ((elim n A c).1 i j)+1≤4 ^ c*(L+1)) ∧
  (c<n→∃ p:Nat,pivI n (elim n A c).1 c c=p∧c≤p∧p<n∧(elim n A c).1 p c≠0):=by
 have piv:∀ c,c<n→RowEq n A (elim n A c).1→Tri n (elim n A c).1 c→∃ p:Nat,pivI n (elim n A c).1 c c=p∧c≤p∧p<n∧(elim n A c).1 p c≠0:=by
  intro c hc he ht
  obtain ⟨i,h1,h2,h3⟩:=hA.pivot he hc ht
  rcases pivS_spec (fun i=>wq ((elim n A c).1 i c)) (fun i=>decide ((elim n A c).1 i c≠0)) c (n-c) with ⟨_,h⟩ | ⟨p,g1,g2,g3,g4⟩
  ·have:=h i h1 (by omega)
   exact absurd h3 (of_decide_eq_false this)
  ·exact ⟨p,g1,g2,by omega,of_decide_eq_true g4⟩
 intro c
 induction c with
 | zero=>
  intro _
  have ht:Tri n (elim n A 0).1 0:=fun j hj=>absurd hj (Nat.not_lt_zero j)
  exact ⟨RowEq.refl _ _,ht,fun i j hi hj=>by have:=hL i j hi hj;show rL (A i j)+1≤_;simp;omega,fun h=>piv 0 h (RowEq.refl _ _) ht⟩
 | succ c ih=>
  intro hc
  obtain ⟨i1,i2,i3,i4⟩:=ih (by omega)
  obtain ⟨p,p1,p2,p3,p4⟩:=i4 (by omega)
  have ee:(elim n A (c+1)).1=clrTo (swapIf (elim n A c).1 p c) c (n-(c+1)):=by
   show clrTo (swapIf (elim n A c).1 (pivI n (elim n A c).1 c c).toNat c) c (n-(c+1))=_
   rw [p1,Int.toNat_natCast]
  have hcc:swapIf (elim n A c).1 p c c c≠0:=by rw [swapIf_piv];exact p4
  have hrow:RowEq n A (elim n A (c+1)).1:=by
   rw [ee]
   exact (i1.trans (RowEq.swapIf _ p3 (by omega))).trans (clrTo_RowEq (by omega) _ (by omega))
  have hsw:∀ i j,i<n→j<c→swapIf (elim n A c).1 p c i j=(elim n A c).1 i j:=by
   intro i j hi hj
   unfold swapIf
   split
   ·rfl
   ·rename_i e
    unfold swapM
    obtain ⟨t1,t2⟩:=i2 j hj
    split
    ·rename_i e2
     subst e2
     rw [t2 c hj (by omega),t2 i (by omega) hi]
    ·split
     ·rename_i e2
      subst e2
      rw [t2 i hj hi,t2 p (by omega) p3]
     ·rfl
  have htri:Tri n (elim n A (c+1)).1 (c+1):=by
   rw [ee]
   obtain ⟨s1,s2⟩:=clrTo_spec hcc (n-(c+1))
   intro j hj
   by_cases e:j=c
   ·subst e
    refine ⟨by rw [s1 j (.inl (Nat.le_refl _))];exact hcc,fun i hi hin=>?_⟩
    rw [s2 i hi (by omega)]
    show swapIf _ p j i j-swapIf _ p j i j / swapIf _ p j j j*swapIf _ p j j j=0
    rw [Rat.div_mul_cancel hcc]
    grind
   ·have hjc:j<c:=by omega
    obtain ⟨t1,t2⟩:=i2 j hjc
    refine ⟨by rw [s1 j (.inl (by omega)),hsw j j (by omega) hjc];exact t1,fun i hi hin=>?_⟩
    by_cases h:c<i
    ·rw [s2 i h (by omega)]
     show swapIf _ p c i j-swapIf _ p c i c / swapIf _ p c c c*swapIf _ p c c j=0
     rw [hsw i j hin hjc,hsw c j (by omega) hjc,t2 i hi hin,t2 c hjc (by omega)]
     grind
    ·rw [s1 i (.inl (by omega)),hsw i j hin hjc]
     exact t2 i hi hin
  have hlen:∀ i j,i<n→j<w→rL ((elim n A (c+1)).1 i j)+1≤4 ^ (c+1)*(L+1):=by
   intro i j hi hj
   rw [ee]
   have hq:1≤4 ^ c:=Nat.pow_pos (by omega)
   have hq2:1*(L+1)≤4 ^ c*(L+1):=Nat.mul_le_mul_right _ hq
   have h1:∀ i j,i<n→j<w→rL (swapIf (elim n A c).1 p c i j)≤4 ^ c*(L+1)-1:=by
    intro i j hi hj
    unfold swapIf
    split
    ·have:=i3 i j hi hj;omega
    ·rw [swapM_at]
     split
     ·have:=i3 c j (by omega) hj;omega
     ·split
      ·have:=i3 p j p3 hj;omega
      ·have:=i3 i j hi hj;omega
   have:=clrTo_len hcc (by omega) hw h1 (by omega) (n-(c+1)) (by omega) i j hi hj
   have e4:4 ^ (c+1)*(L+1)=4*(4 ^ c*(L+1)):=by rw [Nat.pow_succ,Nat.mul_comm (4 ^ c) 4,Nat.mul_assoc]
   rw [e4]
   omega
  exact ⟨hrow,htri,hlen,fun h=>piv (c+1) h hrow htri⟩
def bakTo (A:Mx) (i:Nat):Nat→Mx
 | 0=>A
 | t+1=>clearM (bakTo A i t) i t (bakTo A i t t i / bakTo A i t i i)
def bakS (n:Nat) (A:Mx):Nat→Mx
 | 0=>A
 | s+1=>bakTo (bakS n A s) (n-1-s) (n-1-s)
theorem bakTo_spec {A:Mx} {i:Nat} (h0:A i i≠0):∀ t,t≤i→(∀ r,t≤r→bakTo A i t r=A r)∧(∀ r,r<t→bakTo A i t r=fun j=>A r j-A r i / A i i*A i j):=by
 intro t
 induction t with
 | zero=>exact fun _=>⟨fun _ _=>rfl,fun r h=>absurd h (Nat.not_lt_zero r)⟩
 | succ t ih=>
  intro ht
  obtain ⟨h1,h2⟩:=ih (by omega)
  have ei:bakTo A i t i=A i:=h1 i (by omega)
  have et:bakTo A i t t=A t:=h1 t (Nat.le_refl _)
  refine ⟨fun r hr=>?_,fun r hr=>?_⟩
  ·funext j
   show clearM (bakTo A i t) i t _ r j=_
   unfold clearM
   rw [if_neg (by omega),h1 r (by omega)]
  ·funext j
   show clearM (bakTo A i t) i t _ r j=_
   unfold clearM
   by_cases e:r=t
   ·subst e
    rw [if_pos rfl,et,ei]
   ·rw [if_neg e,h2 r (by omega)]
theorem bakTo_RowEq {n i:Nat} {A:Mx} (hi:i<n):∀ t,t≤i→RowEq n A (bakTo A i t):=by
 intro t
 induction t with
 | zero=>exact fun _=>RowEq.refl _ _
 | succ t ih=>exact fun h=>(ih (by omega)).trans (RowEq.clear _ _ hi (by omega) (by omega))
theorem bakS_spec {n w U:Nat} {T:Mx} (hw:n≤w)(hT:Tri n T n)(hU:∀ i j,i<n→j<w→rL (T i j)≤U)(hU1:1≤U):∀ s,s≤n→RowEq n T (bakS n T s)∧(∀ i j,i<n→j<n→bakS n T s i j=if i≠j∧(j<i∨n≤j+s) then 0 else T i j) ∧
  (∀ i q,i<n→n≤q→q<w→rL (bakS n T s i q)+2*U+1≤2 ^ s*(3*U+1))∧(∀ t i j,s<n→t≤n-1-s→i<n→j<w→rL (bakTo (bakS n T s) (n-1-s) t i j)+2*U+1≤2*2 ^ s*(3*U+1)):=by
 have key:∀ s,s<n→(∀ i j,i<n→j<n→bakS n T s i j=if i≠j∧(j<i∨n≤j+s) then 0 else T i j)→(∀ i q,i<n→n≤q→q<w→rL (bakS n T s i q)+2*U+1≤2 ^ s*(3*U+1)) →
   ∀ t,t≤n-1-s→(∀ i j,i<n→j<n→bakTo (bakS n T s) (n-1-s) t i j=if i<t∧j=n-1-s then 0 else bakS n T s i j)∧(∀ i q,i<n→n≤q→q<w→rL (bakTo (bakS n T s) (n-1-s) t i q)+2*U+1≤2*2 ^ s*(3*U+1)):=by
  intro s hs e1 e2 t ht
  generalize hi0:n-1-s=i0 at *
  generalize bakS n T s=B at *
  have hi0n:i0<n:=by omega
  have hd:B i0 i0=T i0 i0:=by rw [e1 i0 i0 hi0n hi0n,if_neg (fun h=>h.1 rfl)]
  have h0:B i0 i0≠0:=by rw [hd];exact (hT i0 hi0n).1
  obtain ⟨s1,s2⟩:=bakTo_spec h0 t ht
  have hone:1≤2 ^ s:=Nat.one_le_two_pow
  have hmul:1*(3*U+1)≤2 ^ s*(3*U+1):=Nat.mul_le_mul_right _ hone
  refine ⟨fun i j hi hj=>?_,fun i q hi hq hqw=>?_⟩
  ·by_cases h:i<t
   ·rw [s2 i h]
    show B i j-B i i0 / B i0 i0*B i0 j=_
    by_cases e:j=i0
    ·subst e
     rw [if_pos ⟨h,rfl⟩,Rat.div_mul_cancel h0]
     grind
    ·rw [if_neg (fun h=>e h.2)]
     have hz:B i0 j=0:=by
      rw [e1 i0 j hi0n hj,if_pos ⟨fun h=>e h.symm,by omega⟩]
     rw [hz]
     grind
   ·rw [s1 i (by omega),if_neg (fun h'=>h h'.1)]
  ·have b1:=e2 i q hi hq hqw
   by_cases h:i<t
   ·rw [s2 i h]
    show rL (B i q-B i i0 / B i0 i0*B i0 q)+2*U+1≤_
    have b2:=e2 i0 q hi0n hq hqw
    have hii:B i i0=T i i0:=by rw [e1 i i0 hi hi0n,if_neg (by omega)]
    have l1:rL (B i i0)≤U:=by rw [hii];exact hU i i0 hi (by omega)
    have l2:rL (B i0 i0)≤U:=by rw [hd];exact hU i0 i0 hi0n (by omega)
    have l3:=rL_div (B i i0) (B i0 i0) l1 l2 (by omega)
    have l4:rL (B i0 q)≤2 ^ s*(3*U+1)-2*U-1:=by omega
    have l5:=rL_mul (B i i0 / B i0 i0) (B i0 q) l3 l4 (by omega)
    have l6:rL (B i q)≤2 ^ s*(3*U+1)-2*U-1:=by omega
    have l7:=rL_sub (B i q) (B i i0 / B i0 i0*B i0 q) l6 l5
    have:2*2 ^ s*(3*U+1)=2 ^ s*(3*U+1)+2 ^ s*(3*U+1):=by rw [Nat.mul_assoc,Nat.two_mul]
    omega
   ·rw [s1 i (by omega)]
    have:2*2 ^ s*(3*U+1)=2 ^ s*(3*U+1)+2 ^ s*(3*U+1):=by rw [Nat.mul_assoc,Nat.two_mul]
    omega
 have all:∀ s,s≤n→RowEq n T (bakS n T s)∧(∀ i j,i<n→j<n→bakS n T s i j=if i≠j∧(j<i∨n≤j+s) then 0 else T i j)∧(∀ i q,i<n→n≤q→q<w→rL (bakS n T s i q)+2*U+1≤2 ^ s*(3*U+1)):=by
  intro s
  induction s with
  | zero=>
   intro _
   refine ⟨RowEq.refl _ _,fun i j hi hj=>?_,fun i q hi hq hqw=>?_⟩
   ·show T i j=_
    by_cases h:i≠j∧(j<i∨n≤j+0)
    ·rw [if_pos h]
     exact (hT j hj).2 i (by omega) hi
    ·rw [if_neg h]
   ·have:=hU i q hi hqw
    show rL (T i q)+2*U+1≤_
    simp
    omega
  | succ s ih=>
   intro hs
   obtain ⟨i1,i2,i3⟩:=ih (by omega)
   obtain ⟨k1,k2⟩:=key s (by omega) i2 i3 (n-1-s) (Nat.le_refl _)
   refine ⟨i1.trans (bakTo_RowEq (by omega) _ (Nat.le_refl _)),fun i j hi hj=>?_,fun i q hi hq hqw=>?_⟩
   ·show bakTo (bakS n T s) (n-1-s) (n-1-s) i j=_
    rw [k1 i j hi hj]
    by_cases h:i<n-1-s∧j=n-1-s
    ·rw [if_pos h,if_pos ⟨by omega,by omega⟩]
    ·rw [if_neg h,i2 i j hi hj]
     by_cases h2:i≠j∧(j<i∨n≤j+s)
     ·rw [if_pos h2,if_pos ⟨h2.1,by omega⟩]
     ·rw [if_neg h2]
      by_cases h3:i≠j∧(j<i∨n≤j+(s+1))
      ·exact absurd (show i<n-1-s∧j=n-1-s from ⟨by omega,by omega⟩) h
      ·rw [if_neg h3]
   ·have:=k2 i q hi hq hqw
    rw [Nat.pow_succ,Nat.mul_comm (2 ^ s) 2]
    exact this
 intro s hs
 obtain ⟨a1,a2,a3⟩:=all s hs
 refine ⟨a1,a2,a3,fun t i j hsn ht hi hj=>?_⟩
 obtain ⟨k1,k2⟩:=key s hsn a2 a3 t ht
 by_cases hjn:j<n
 ·rw [k1 i j hi hjn]
  have hone:1≤2 ^ s:=Nat.one_le_two_pow
  have hmul:1*(3*U+1)≤2 ^ s*(3*U+1):=Nat.mul_le_mul_right _ hone
  have:2*2 ^ s*(3*U+1)=2 ^ s*(3*U+1)+2 ^ s*(3*U+1):=by rw [Nat.mul_assoc,Nat.two_mul]
  have z:rL 0≤1:=by
   have:rL (rq false 0 1)≤1:=rL_rq (by rw [digits_zero];exact Nat.zero_le _) (by rw [show (1:Nat)=0+1 from rfl];exact digits_length_le (by decide)) (Nat.le_refl _)
   exact this
  split
  ·omega
  ·rw [a2 i j hi hjn]
   split
   ·omega
   ·have:=hU i j hi hj
    omega
 ·exact k2 i j hi (by omega) hj
theorem Lift.DoneG.rowT {st:St} {t t':Tmp} {k:IntKind} {n:Int} {b:Bool} {T:TypeId} {xs:List Rat} (h1:lkp st.fr t=some (.i k n))(h2:lkp st.fr t'=some (.b b))(h:lkp st.hp 0=some ⟨T,qrow xs⟩):DoneG Tryz.prog #[.tmp t,.tmp t'] (.tup [.i k n,.b b]) [⟨T,qrow xs⟩] st:=by
 refine ⟨[.i k n,.b b],by simp only [resVs,resV,h1,h2],rfl,rfl,by simp only [V.ren,V.renL],fun m hm=>?_⟩
 obtain rfl:m=0:=by simpa using hm
 exact ⟨h,lt_q _ _,ren_q _ _⟩
theorem qtk (w n:Nat)(B:Mx):List.take (n*w*3) (qrow (mcells w B (n*w)))=qrow (mcells w B (n*w)):=List.take_of_length_le (by rw [qlen];exact Nat.le_refl _)
theorem qch (w n:Nat)(B:Mx):chunks 3 (n*w) (qrow (mcells w B (n*w)))=(mcells w B (n*w)).map rV:=by
 have:=chunks_q (mcells w B (n*w))
 rwa [mcells_length] at this
set_option maxHeartbeats 16000000 in
theorem steps_ok (n w L:Nat) (hn:n≤200) (hnw:n≤w) (hw:w≤200) (A:Mx) (hA:NonSing n A) (hL:∀ i j,i<n→j<w→rL (A i j)≤L) (hL1:1≤L) (hL2:4*(4 ^ n*(L+1))<2 ^ 33) :
  GCall Tryz.prog 174 [.agg [.i .i64 n,.i .i64 w,.own 0 0 (n*w) 3],.i .i64 n] [⟨54,qrow (mcells w A (n*w))⟩] [⟨54,qrow (mcells w (elim n A n).1 (n*w))⟩] (.tup [.i .i64 n,.b (elim n A n).2]):=by
 have spec:=elim_spec hnw hA hL hL1
 have mono:∀ c,c≤n→4 ^ c*(L+1)≤4 ^ n*(L+1):=fun c hc=>Nat.mul_le_mul_right _ (Nat.pow_le_pow_right (by omega) hc)
 refine GCall.of_ax rfl Tryz.call174 Tryz.func174 rfl (by simp [Tryz.ntmps174]) fun O M w0 G=>?_
 simp only [Tryz.ntmps174,Tryz.results174,argFr,rowsFr,List.length_cons,List.length_nil,Nat.zero_add,Nat.reduceAdd]
 generalize hW:4 ^ n*(L+1)=W at *
 refine AX.sR (rgAV [1,2]) ?_
 refine AX.sR (rgAV [1,2,6,7]) ?_
 refine AX.seq ?_
 refine AX.sR (rgAV [1,2,6,7,8]) ?_
 refine AX.block ?_
 refine AX.loop (fun N st=>∃ (c:Nat) (B:Mx) (o:Bool),c≤n∧N=n-c∧elim n A c=(B,o)∧st=⟨[(8,.i .i64 c),(7,.b o),(6,.i .i64 c),(2,.ptr 1 0),(1,.i .i64 n)],[(1,⟨41,[.i .i64 n,.i .i64 w,.own 0 0 (n*w) 3]⟩),(0,⟨54,qrow (mcells w B (n*w))⟩)],2⟩) n ⟨0,A,false,Nat.zero_le _,rfl,rfl,rfl⟩ ?_
 rintro N st ⟨c,B,o,hc,rfl,hE,rfl⟩
 refine AX.seq ?_
 by_cases h1:c<n
 ·obtain ⟨s1,s2,s3,s4⟩:=spec c hc
  obtain ⟨p,p1,p2,p3,p4⟩:=s4 h1
  rw [hE] at s1 s2 s3 p1 p4
  simp only at s1 s2 s3 p1 p4
  have mc:=mono c hc
  have mc1:=mono (c+1) h1
  have hBW:∀ i j,i<n→j<w→rL (B i j)≤4 ^ c*(L+1)-1:=fun i j hi hj=>by have:=s3 i j hi hj;omega
  have cp:=pivot_ok n w c c W hn hw B hc (by omega) (fun i hi=>by have:=hBW i c hi (by omega);omega) (by omega)
  rw [p1] at cp
  have hl:=qlen w n B
  have tk:=qtk w n B
  have ch:=qch w n B
  have kb:n*w≤200*200:=Nat.mul_le_mul hn hw
  have hsw:=swap_ok n w p c hn hw B p3 h1
  obtain ⟨B1,hB1⟩:∃ B1,swapIf B p c=B1:=⟨_,rfl⟩
  obtain ⟨o1,ho1⟩:∃ o1,(if p=c then o else !o)=o1:=⟨_,rfl⟩
  have hE1:elim n A (c+1)=(clrTo B1 c (n-(c+1)),o1):=by
   rw [elim,hE]
   simp only
   rw [p1,Int.toNat_natCast,hB1,ho1]
  have hcc:B1 c c≠0:=by rw [← hB1,swapIf_piv];exact p4
  have hB1L:∀ i j,i<n→j<w→rL (B1 i j)≤4 ^ c*(L+1)-1:=by
   intro i j hi hj
   rw [← hB1]
   unfold swapIf
   split
   ·exact hBW i j hi hj
   ·rw [swapM_at]
    split
    ·exact hBW c j h1 hj
    ·split
     ·exact hBW p j p3 hj
     ·exact hBW i j hi hj
  have q4:4 ^ (c+1)*(L+1)=4*(4 ^ c*(L+1)):=by rw [Nat.pow_succ,Nat.mul_comm (4 ^ c) 4,Nat.mul_assoc]
  have q5:1*(L+1)≤4 ^ c*(L+1):=Nat.mul_le_mul_right _ (Nat.pow_pos (by omega))
  have hT:=clrTo_len hcc h1 hnw hB1L (by omega)
  have hTc:∀ t,clrTo B1 c t c=B1 c:=fun t=>(clrTo_spec hcc t).1 c (.inl (Nat.le_refl _))
  refine AX.sR (rgAV [1,2,6,7,8,19]) ?_
  refine AX.condT ?_
  refine AX.keepA [1,2,6,7,8] ?_
  refine AX.skip ?_
  refine nmZ ?_
  refine AX.seq ?_
  refine AX.block ?_
  refine AX.sR (rgWV [1,2,6,7,8,9] (aI @hl (aI @tk (aI @ch (aI @flat_q (aI @hf_q oT))))) (aI cp oT)) ?_
  refine AX.seq ?_
  refine AX.sR (rgAV [1,2,6,7,8,9,27]) ?_
  refine AX.condF ?_
  refine AX.keepA [1,2,6,7,8,9] ?_
  refine AX.skip ?_
  refine nmZ ?_
  refine AX.cut (fun st=>Le 1 id ⟨[(8,.i .i64 c),(7,.b o1),(6,.i .i64 c),(2,.ptr 1 0),(1,.i .i64 n)],[(1,⟨41,[.i .i64 n,.i .i64 w,.own 0 0 (n*w) 3]⟩),(0,⟨54,qrow (mcells w B1 (n*w))⟩)],2⟩ st) ?_ ?_
  ·by_cases hpc:p=c
   ·subst hpc
    rw [if_pos rfl] at ho1
    unfold swapIf at hB1
    rw [if_pos rfl] at hB1
    subst ho1 hB1
    refine AX.sR (rgAV [1,2,6,7,8,9,30]) ?_
    refine AX.condF ?_
    refine AX.keepA [1,2,6,7,8] ?_
    refine AX.skip ⟨rfl,
     leQ1
     ⟩
   ·rw [if_neg hpc] at ho1
    unfold swapIf at hB1
    rw [if_neg hpc] at hB1
    rw [hB1] at hsw
    subst ho1
    refine AX.sR (rgAV [1,2,6,7,8,9,30]) ?_
    refine AX.condT ?_
    apply AX.sreg [1,2,6,7,8] (by simp only [pq];rfl)
    ·repeat (first
    |(apply RunO.op rfl;· rfl
      ·(simp only [opsOf,valsOf,valOf,lkp,ofConst,ofCell,Array.toList,Option.toList,List.map_cons,List.map_nil,List.cons_append,List.nil_append,List.append_nil,Nat.reduceEqDiff,Nat.reducePow,Nat.reduceLT,Nat.reduceLeDiff,reduceIte,if_true,if_false,IntKind.min,IntKind.max,IntKind.bits,IntKind.signed,Int.reduceLE,Int.reduceNeg,Int.reducePow,Int.reduceSub,and_self,Bool.false_eq_true,Nat.reduceSub];rfl)
      iterate 2 (· (simp (disch:=omega) only [go_sem,i64_of,u32_of,u64_of,Nat.reduceLT,Nat.reduceLeDiff,Nat.reduceEqDiff,Nat.reduceAdd,Nat.reduceSub,Nat.reduceMul,Nat.reducePow,Nat.reduceBEq,Int.reduceLE,Int.reduceLT,Int.reduceToNat,Int.reduceEq,Int.reduceNeg,↓reduceIte,reduceCtorEq];rfl))
      ·(simp only [pb,Nat.reduceLT,Nat.reduceAdd,reduceIte];rfl))
    |(apply RunO.gcall [0] rfl;· rfl
      ·(simp only [opsOf,valsOf,valOf,lkp,ofConst,ofCell,Array.toList,Option.toList,List.map_cons,List.map_nil,List.cons_append,List.nil_append,List.append_nil,Nat.reduceEqDiff,Nat.reducePow,Nat.reduceLT,Nat.reduceLeDiff,reduceIte,if_true,if_false,IntKind.min,IntKind.max,IntKind.bits,IntKind.signed,Int.reduceLE,Int.reduceNeg,Int.reducePow,Int.reduceSub,and_self,Bool.false_eq_true,Nat.reduceSub];rfl)
      ·exact hsw
      ·first | rfl | (simp only [Row.ren,V.ren,V.renL,renS,ren_q,renL_u];rfl)
      ·first | rfl | (simp only [V.lt,V.ltL,ltS,lt_q,ltL_u];rfl)
      ·decide
      ·repeat' (first | exact trivial | rfl | (simp only [Row.ren,V.ren,V.renL,renS,ren_q,renL_u];done) | (simp only [Row.ren,V.ren,V.renL,renS,ren_q,renL_u];rfl) | (simp only [V.lt,V.ltL,ltS,lt_q,ltL_u];done) | apply And.intro)
      ·first | rfl | (simp only [Row.ren,V.ren,V.renL,renS,ren_q,renL_u];rfl)
      ·(simp only [setRows,setL,Row.ren,V.ren,V.renL,renS,ren_q,renL_u,pb,Nat.reduceLT,Nat.reduceAdd,Nat.reduceEqDiff,reduceIte];rfl))
    |(apply RunO.skip;· rfl
      ·(simp only [pb,Nat.reduceLT,Nat.reduceAdd,reduceIte];rfl)))
     exact RunO.nil
    ·repeat (first | exact Keep.nil | (apply Keep.take;· rfl) | (apply Keep.drop;· rfl))
    refine AX.rR (rgAV [1,2,6,7,8]) ?_
    exact ⟨rfl,
     leQ1
     ⟩
  rintro st hle
  refine AX.weaken id hle ?_
  clear hle cp hsw hl tk ch
  refine AX.seq ?_
  refine AX.sR (rgWV [1,2,6,7,8,10] (aI @lit_add oT) oT) ?_
  refine AX.block ?_
  refine AX.loop (fun N st=>∃ (t:Nat) (B2:Mx),c+1+t≤n∧N=n-(c+1+t)∧clrTo B1 c t=B2∧st=⟨[(10,.i .i64 (c+1+t:Nat)),(8,.i .i64 c),(7,.b o1),(6,.i .i64 c),(2,.ptr 1 0),(1,.i .i64 n)],[(1,⟨41,[.i .i64 n,.i .i64 w,.own 0 0 (n*w) 3]⟩),(0,⟨54,qrow (mcells w B2 (n*w))⟩)],2⟩) (n-(c+1)) ⟨0,B1,by omega,rfl,rfl,rfl⟩ ?_
  rintro N st ⟨t,B2,ht,rfl,hB2,rfl⟩
  refine AX.seq ?_
  by_cases h2:c+1+t<n
  ·have hB2c:B2 c=B1 c:=by rw [← hB2];exact hTc t
   have hclr:=clear_ok n w c (c+1+t) c W hn hw B2 h1 h2 (by omega) (by omega) (by rw [hB2c];exact hcc) (fun i j hi hj=>by
    have:=hT t (by omega) i j hi hj
    rw [hB2] at this
    omega) (by omega) (by omega)
   have hnext:clrTo B1 c (t+1)=clearM B2 c (c+1+t) (B2 (c+1+t) c / B2 c c):=by rw [clrTo,hB2]
   obtain ⟨B3,hB3⟩:∃ B3,clearM B2 c (c+1+t) (B2 (c+1+t) c / B2 c c)=B3:=⟨_,rfl⟩
   rw [hB3] at hclr hnext
   refine AX.sR (rgAV [1,2,6,7,8,10,42]) ?_
   refine AX.condT ?_
   refine AX.keepA [1,2,6,7,8,10] ?_
   refine AX.skip ?_
   refine nmZ ?_
   refine AX.seq ?_
   refine AX.block ?_
   apply AX.reg [1,2,6,7,8,10] (by simp only [pq];rfl)
   ·repeat (first
   |(apply RunO.op rfl;· rfl
     ·(simp only [opsOf,valsOf,valOf,lkp,ofConst,ofCell,Array.toList,Option.toList,List.map_cons,List.map_nil,List.cons_append,List.nil_append,List.append_nil,Nat.reduceEqDiff,Nat.reducePow,Nat.reduceLT,Nat.reduceLeDiff,reduceIte,if_true,if_false,IntKind.min,IntKind.max,IntKind.bits,IntKind.signed,Int.reduceLE,Int.reduceNeg,Int.reducePow,Int.reduceSub,and_self,Bool.false_eq_true,Nat.reduceSub];rfl)
     iterate 2 (· (simp (disch:=omega) only [go_sem,i64_of,u32_of,u64_of,Nat.reduceLT,Nat.reduceLeDiff,Nat.reduceEqDiff,Nat.reduceAdd,Nat.reduceSub,Nat.reduceMul,Nat.reducePow,Nat.reduceBEq,Int.reduceLE,Int.reduceLT,Int.reduceToNat,Int.reduceEq,Int.reduceNeg,↓reduceIte,reduceCtorEq];rfl))
     ·(simp only [pb,Nat.reduceLT,Nat.reduceAdd,reduceIte];rfl))
   |(apply RunO.gcall [0] rfl;· rfl
     ·(simp only [opsOf,valsOf,valOf,lkp,ofConst,ofCell,Array.toList,Option.toList,List.map_cons,List.map_nil,List.cons_append,List.nil_append,List.append_nil,Nat.reduceEqDiff,Nat.reducePow,Nat.reduceLT,Nat.reduceLeDiff,reduceIte,if_true,if_false,IntKind.min,IntKind.max,IntKind.bits,IntKind.signed,Int.reduceLE,Int.reduceNeg,Int.reducePow,Int.reduceSub,and_self,Bool.false_eq_true,Nat.reduceSub];rfl)
     ·exact hclr
     ·first | rfl | (simp only [Row.ren,V.ren,V.renL,renS,ren_q,renL_u];rfl)
     ·first | rfl | (simp only [V.lt,V.ltL,ltS,lt_q,ltL_u];rfl)
     ·decide
     ·repeat' (first | exact trivial | rfl | (simp only [Row.ren,V.ren,V.renL,renS,ren_q,renL_u];done) | (simp only [Row.ren,V.ren,V.renL,renS,ren_q,renL_u];rfl) | (simp only [V.lt,V.ltL,ltS,lt_q,ltL_u];done) | apply And.intro)
     ·first | rfl | (simp only [Row.ren,V.ren,V.renL,renS,ren_q,renL_u];rfl)
     ·(simp only [setRows,setL,Row.ren,V.ren,V.renL,renS,ren_q,renL_u,pb,Nat.reduceLT,Nat.reduceAdd,Nat.reduceEqDiff,reduceIte];rfl))
   |(apply RunO.skip;· rfl
     ·(simp only [pb,Nat.reduceLT,Nat.reduceAdd,reduceIte];rfl)))
    exact RunO.nil
   ·repeat (first | exact Keep.nil | (apply Keep.take;· rfl) | (apply Keep.drop;· rfl))
   refine nmZ ?_
   refine AX.rR (rgWV [1,2,6,7,8,10] (aI @lit_add oT) oT) ?_
   refine nmZ ?_
   refine ⟨_,_,id,?_,
    leQ1
    , ⟨t+1,B3,by omega,rfl,hnext,rfl⟩⟩
   omega
  ·refine AX.sR (rgAV [1,2,6,7,8,10,42]) ?_
   refine AX.condF ?_
   refine AX.exit ?_
   refine nmZ ?_
   refine AX.rR (rgWV [1,2,6,7,8] (aI @lit_add oT) oT) ?_
   refine nmZ ?_
   refine AX.rR (rgWV [1,2,6,7,8] (aI @lit_add oT) oT) ?_
   refine nmZ ?_
   have e:t=n-(c+1):=by omega
   subst e
   rw [hB2] at hE1
   refine ⟨_,_,id,?_,
    leQ1
    , ⟨c+1,B2,o1,by omega,rfl,hE1,rfl⟩⟩
   omega
 ·have e:c=n:=by omega
  subst e
  rw [hE]
  refine AX.sR (rgAV [1,2,6,7,8,19]) ?_
  refine AX.condF ?_
  refine AX.exit ?_
  refine nmZ ?_
  refine AX.sR (rgAV [4,5]) ?_
  refine AX.ret ⟨.inl rfl,?_⟩
  exact DoneG.rowT rfl rfl rfl
def aug (n:Nat) (A B:Mx):Mx:=fun i k=>if k<n then A i k else B i (k-n)
theorem aug_nonsing {n:Nat} {A B:Mx} (h:NonSing n A):NonSing n (aug n A B):=by
 intro y hy
 refine h y fun i hi=>?_
 rw [← hy i hi]
 exact sumN_congr fun k hk=>by unfold aug;rw [if_pos hk]
def fin (n:Nat) (A B:Mx):Mx:=bakS n (elim n (aug n A B) n).1 n
def solX (n:Nat) (A B:Mx):Mx:=fun i k=>fin n A B i (n+k) / fin n A B i i
set_option maxHeartbeats 4000000 in
theorem solved1_ok (n c L:Nat) (hn:n≤100) (hc:c≤100) (A B:Mx) (i k:Nat) (hi:i<n) (hk:k<n+c) (hA:∀ i j,i<n→j<n→rL (A i j)≤L) (hB:∀ i j,i<n→j<c→rL (B i j)≤L) (hL:L<2 ^ 38) :
  PCall Tryz.prog 172 [.i .i64 i,.i .i64 k,.rp [.i .i64 n],.rp [.i .i64 n,.i .i64 n,.sl ((mcells n A (n*n)).map rV)],.rp [.i .i64 n,.i .i64 c,.sl ((mcells c B (n*c)).map rV)]] (rV (aug n A B i k)) []:=by
 have hcop:∀ q:Rat,rL q≤L→PCall Tryz.prog 173 [.agg [.b (decide (q.num<0)),dg (digits q.num.natAbs),dg (digits q.den)]] (.agg [.b (decide (q.num<0)),dg (digits q.num.natAbs),dg (digits q.den)]) []:=fun q hq=>
  copied_ok _ _ _ (Nat.lt_of_le_of_lt (Nat.le_trans (Nat.le_max_left _ _) hq) hL) (Nat.lt_of_le_of_lt (Nat.le_trans (Nat.le_max_right _ _) hq) hL)
 refine PCall.of_ax Tryz.call172 Tryz.func172 rfl (by simp [Tryz.ntmps172]) fun O w0=>?_
 simp only [Tryz.ntmps172,Tryz.results172,argFr]
 refine AX.sR (rgAV [0,1,2,3,4,7]) ?_
 refine AX.seq ?_
 by_cases h:k<n
 ·have e:aug n A B i k=A i k:=by unfold aug;rw [if_pos h]
  rw [e]
  obtain ⟨z,hz⟩:∃ z,i*n+k=z:=⟨_,rfl⟩
  have m1:(i:Int)*(n:Int)=((i*n:Nat):Int):=(Int.natCast_mul i n).symm
  have a1:((i*n:Nat):Int)+(k:Int)=(z:Int):=by rw [← Int.natCast_add,hz]
  have hix:=fun x y=>effIxM (x:=x) (y:=y) A hi h hz
  have b1:i*n≤100*100:=Nat.mul_le_mul (by omega) hn
  have cc:=hcop (A i k) (hA i k hi h)
  generalize A i k=q at *
  generalize i*n=x1 at *
  refine AX.sR (rgAV [0,1,2,3,4,7,10]) ?_
  refine AX.condT ?_
  refine AX.sR (rgEV [7] (aI @m1 (aI @a1 oT)) (aI cc oT) (aI hix oT)) ?_
  refine AX.ret ⟨.inl rfl,?_⟩
  exact Done.cell rfl rfl
 ·have e:aug n A B i k=B i (k-n):=by unfold aug;rw [if_neg h]
  rw [e]
  have hk':k-n<c:=by omega
  obtain ⟨z,hz⟩:∃ z,i*c+(k-n)=z:=⟨_,rfl⟩
  have m1:(i:Int)*(c:Int)=((i*c:Nat):Int):=(Int.natCast_mul i c).symm
  have a1:((i*c:Nat):Int)+(k:Int)=((i*c+k:Nat):Int):=(Int.natCast_add _ _).symm
  have a2:((i*c+k:Nat):Int)-(n:Int)=(z:Int):=by omega
  have hix:=fun x y=>effIxM (x:=x) (y:=y) B hi hk' hz
  have b1:i*c≤100*100:=Nat.mul_le_mul (by omega) hc
  have cc:=hcop (B i (k-n)) (hB i (k-n) hi hk')
  generalize B i (k-n)=q at *
  generalize i*c=x1 at *
  refine AX.sR (rgAV [0,1,2,3,4,7,10]) ?_
  refine AX.condF ?_
  refine AX.keepA [0,1,2,4,7] ?_
  refine AX.skip ?_
  refine nmZ ?_
  refine AX.sR (rgEV [7] (aI @m1 (aI @a1 (aI @a2 oT))) (aI cc oT) (aI hix oT)) ?_
  refine AX.ret ⟨.inl rfl,?_⟩
  exact Done.cell rfl rfl
set_option maxHeartbeats 4000000 in
theorem solved2_ok (n w L:Nat) (hn:n≤100) (hw:w≤200) (F:Mx) (i k:Nat) (hi:i<n) (hk:n+k<w) (hL:∀ i j,i<n→j<w→rL (F i j)≤L) (hL1:1≤L) (hL2:L<2 ^ 34) (h0:F i i≠0) :
  PCall Tryz.prog 176 [.i .i64 i,.i .i64 k,.rp [.i .i64 n,.i .i64 w,.sl ((mcells w F (n*w)).map rV)],.rp [.i .i64 n]] (rV (F i (n+k) / F i i)) []:=by
 refine PCall.of_ax Tryz.call176 Tryz.func176 rfl (by simp [Tryz.ntmps176]) fun O w0=>?_
 simp only [Tryz.ntmps176,Tryz.results176,argFr]
 obtain ⟨z1,e1⟩:∃ z,i*w+(n+k)=z:=⟨_,rfl⟩
 obtain ⟨z2,e2⟩:∃ z,i*w+i=z:=⟨_,rfl⟩
 have m1:(i:Int)*(w:Int)=((i*w:Nat):Int):=(Int.natCast_mul i w).symm
 have a1:((i*w:Nat):Int)+(n:Int)=((i*w+n:Nat):Int):=(Int.natCast_add _ _).symm
 have a2:((i*w+n:Nat):Int)+(k:Int)=(z1:Int):=by omega
 have a3:((i*w:Nat):Int)+(i:Int)=(z2:Int):=by omega
 have hix1:=fun x y=>effIxM (x:=x) (y:=y) F hi hk e1
 have hix2:=fun x y=>effIxM (x:=x) (y:=y) F hi (show i<w by omega) e2
 have b1:i*w≤100*200:=Nat.mul_le_mul (by omega) hw
 have cd:=qdiv_ok (IsQ.of (hL i (n+k) hi hk)) (IsQ.of (hL i i hi (by omega))) (by omega)
 unfold qdivV at cd
 rw [if_neg h0] at cd
 have cd':PCall Tryz.prog 116 [.agg [.b (decide ((F i (n+k)).num<0)),dg (digits (F i (n+k)).num.natAbs),dg (digits (F i (n+k)).den)],.agg [.b (decide ((F i i).num<0)),dg (digits (F i i).num.natAbs),dg (digits (F i i).den)]]
   (.tup [.agg [.b (decide ((F i (n+k) / F i i).num<0)),dg (digits (F i (n+k) / F i i).num.natAbs),dg (digits (F i (n+k) / F i i).den)],.i .i64 0]) []:=cd
 clear cd
 generalize F i (n+k) / F i i=f at *
 generalize F i (n+k)=q1 at *
 generalize F i i=q2 at *
 generalize i*w=x1 at *
 refine AX.sR (rgAV [0,1,2,3,6]) ?_
 refine AX.sD (rgDEV [6,7] (aI @m1 (aI @a1 (aI @a2 (aI @a3 oT)))) (aI cd' oT) (aI hix1 (aI hix2 oT))) ?_
 refine AX.sR (rgAV [6]) ?_
 refine AX.ret ⟨.inl rfl,?_⟩
 exact Done.cell rfl rfl
end Go.Proofs.YteidabibgjokkaaGreatDoor
