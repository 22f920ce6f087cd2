import Derived.Test.YteidabibgjokkaaGreatDoorChV
import Derived.Test.YteidabibgjokkaaGreatDoorJB
import Derived.Test.YteidabibgjokkaaGreatDoorHN
import Derived.Test.YteidabibgjokkaaGreatDoorHC
set_option maxRecDepth 20000
set_option linter.all false
namespace Go.Proofs.YteidabibgjokkaaGreatDoor
open Go Go.Proofs.YteidabibgjokkaaGreatDoor.Lift
attribute [local irreducible] Lift.PCall Lift.HCall
noncomputable def metB (n:Nat) (A:Mx) (v:Nat→Rat) (k:Nat):Bool:=@decide (∃ i,i<n∧0<v i∧To n A i k) (Classical.propDecidable _)
theorem metB_iff {n:Nat} {A:Mx} {v:Nat→Rat} {k:Nat}:metB n A v k=true↔∃ i,i<n∧0<v i∧To n A i k:=by
 unfold metB
 exact @decide_eq_true_iff _ (Classical.propDecidable _)
theorem Chn.IsVis.unique {c:Chn} (hc:c.Ok) {v x y:Nat→Rat} (h:c.IsVis v x)(h':c.IsVis v y):∀ i,i<c.n→x i=y i:=fun i hi=>by
 have key:∀ x y:Nat→Rat,c.IsVis v x→c.IsVis v y→0≤x i-y i:=fun x y h h'=>by
  have hd:c.IsVis (fun _=>0) (fun i=>x i-y i):=⟨fun i hi hr=>by rw [h.z i hi hr,h'.z i hi hr];grind,fun i hi hr=>by
   have e:(sumN c.n fun k=>(x k-y k)*c.M k i)=(sumN c.n fun k=>x k*c.M k i)-sumN c.n fun k=>y k*c.M k i:=by
    rw [← sumN_sub]
    exact sumN_congr fun k _=>by grind
   rw [e,h.eq i hi hr,h'.eq i hi hr]
   grind⟩
  exact hd.nonneg hc (fun _ _=>Rat.le_refl) i hi
 have h1:=key x y h h'
 have h2:=key y x h' h
 grind
theorem met_rch {n m:Nat} {A B X:Mx} {v:Nat→Rat} (hC:isC n m A B=true)(hX:(chn n m A B).IsEach X)(hv:∀ i,i<n→0≤v i)(h0:(chn n m A B).never X v=0) {k:Nat} (hk:k<n)(h:metB n A v k=true):(chn n m A B).Rch k:=by
 have hOk:=isC_ok hC
 obtain ⟨i,hi,hvi,ht⟩:=metB_iff.1 h
 have row:∀ i,i<n→sumN m (X i)≤1:=fun i hi=>(hX.row hOk i hi).1
 have h1:v i*(1-sumN m (X i))=0:=by
  rw [(chn n m A B).never_eq] at h0
  exact sumN_zero_inv (n:=n) (f:=fun i=>v i*(1-sumN m (X i))) hi (fun j hj=>Rat.mul_nonneg (hv j hj) (by have:=row j hj;grind)) h0
 have h2:sumN m (X i)=1:=by
  rcases Rat.mul_eq_zero.1 h1 with e | e<;>grind
 have key:∀ k,To n A i k→k<n∧sumN m (X k)=1:=fun k ht=>by
  induction ht with
  | self hi=>exact ⟨hi,h2⟩
  | move _ hb hab ih=>
   rename_i a b _
   refine ⟨hb,?_⟩
   have hl:=hX.lost hOk (i:=a) ih.1
   change 1-sumN m (X a)=sumN n fun k=>A a k*(1-sumN m (X k)) at hl
   rw [ih.2] at hl
   have h3:=sumN_zero_inv (n:=n) (f:=fun k=>A a k*(1-sumN m (X k))) hb (fun j hj=>Rat.mul_nonneg (hOk.M0 a j ih.1 hj) (by have:=row j hj;grind)) (by rw [← hl];grind)
   have h3:A a b*(1-sumN m (X b))=0:=h3
   rcases Rat.mul_eq_zero.1 h3 with e | e<;>grind
 obtain ⟨hk,hs⟩:=key k ht
 apply Classical.byContradiction
 intro hr
 have:sumN m (X k)=0:=sumN_eq_zero fun j hj=>hX.z k j hk hj hr
 rw [this] at hs
 exact absurd hs (by decide)
def eqV (r:Nat→Bool) (A:Mx) (i0 k0:Nat):Mx:=eqA r (fun i k=>A k i) i0 k0
def eqW (r:Nat→Bool) (v:Nat→Rat) (i0:Nat):Mx:=fun i _=>if i<i0∧r i=true then v i else 0
theorem met_vis {n m:Nat} {A B X:Mx} {v x:Nat→Rat} (hC:isC n m A B=true) (hX:(chn n m A B).IsEach X) (hv:∀ i,i<n→0≤v i) (h0:(chn n m A B).never X v=0) (w:Nat→Rat) (hw:∀ i,i<n→metB n A v i=false→w i=0)
  (hz:∀ i,i<n→metB n A v i=false→x i=0) (he:∀ i,i<n→metB n A v i=true→x i=w i+sumN n fun k=>x k*A k i):(chn n m A B).IsVis w x:=by
 have hOk:=isC_ok hC
 refine ⟨fun i hi hr=>hz i hi ?_,fun i hi hr=>?_⟩
 ·cases hb:metB n A v i
  ·rfl
  ·exact absurd (met_rch hC hX hv h0 hi hb) hr
 ·cases hb:metB n A v i
  ·rw [hz i hi hb,hw i hi hb,sumN_eq_zero]
   ·grind
   ·intro k hk
    cases hk':metB n A v k
    ·rw [hz k hk hk',Rat.zero_mul]
    ·have:A k i=0:=by
      have h1:0≤A k i:=hOk.M0 k i hk hi
      have h2:¬ 0<A k i:=fun hp=>by
       obtain ⟨j,hj,hvj,ht⟩:=metB_iff.1 hk'
       have:metB n A v i=true:=metB_iff.2 ⟨j,hj,hvj,.move ht hi hp⟩
       rw [hb] at this
       cases this
      grind
     show x k*A k i=0
     rw [this,Rat.mul_zero]
  ·exact he i hi hb
theorem eqV_zero {n:Nat} {r:Nat→Bool} {A:Mx} {y:Nat→Rat} {w:Rat} {k:Nat} (hk:k<n)(hr:r k=false)(h:(sumN n fun j=>eqV r A n 0 k j*y j)=w):y k=w:=by
 rw [sumN_congr (g:=fun j=>dlt1 k j*y j) (fun j hj=>by unfold eqV eqA;rw [if_neg (fun h=>by rw [hr] at h;cases h.2.1)])] at h
 rw [sumN_single hk fun j hj hne=>by unfold dlt1;rw [if_neg (fun e=>hne e.symm),Rat.zero_mul]] at h
 unfold dlt1 at h
 rwa [if_pos rfl,Rat.one_mul] at h
theorem eqV_met {n:Nat} {r:Nat→Bool} {A:Mx} {y:Nat→Rat} {w:Rat} {i:Nat} (hi:i<n)(hr:r i=true)(hz:∀ k,k<n→r k=false→y k=0)(h:(sumN n fun j=>eqV r A n 0 i j*y j)=w):y i=w+sumN n fun k=>y k*A k i:=by
 unfold eqV at h
 rw [eq_rowA (m:=0) (A:=fun i k=>A k i) i hi hz,if_pos hr] at h
 have e:(sumN n fun k=>(fun i k=>A k i) i k*y k)=sumN n fun k=>y k*A k i:=sumN_congr fun k _=>Rat.mul_comm ..
 rw [e] at h
 grind
theorem eqV_nonsing {n m:Nat} {A B X:Mx} {v:Nat→Rat} (hC:isC n m A B=true)(hX:(chn n m A B).IsEach X)(hv:∀ i,i<n→0≤v i)(h0:(chn n m A B).never X v=0):NonSing n (eqV (metB n A v) A n 0):=by
 intro y hy
 have hz:∀ k,k<n→metB n A v k=false→y k=0:=fun k hk hr=>eqV_zero hk hr (hy k hk)
 have h1:=met_vis hC hX hv h0 (fun _=>0) (fun _ _ _=>rfl) hz fun i hi hr=>eqV_met hi hr hz (hy i hi)
 have h2:(chn n m A B).IsVis (fun _=>0) (fun _=>0):=⟨fun _ _ _=>rfl,fun i hi hr=>by
  rw [sumN_eq_zero fun k hk=>Rat.zero_mul _]
  grind⟩
 exact h1.unique (isC_ok hC) h2
theorem met_of {n:Nat} {A:Mx} {v:Nat→Rat} (hv:∀ i,i<n→0≤v i) {i:Nat} (hi:i<n)(h:metB n A v i=false):v i=0:=by
 have h1:¬ 0<v i:=fun hp=>by
  have:metB n A v i=true:=metB_iff.2 ⟨i,hi,hp,.self hi⟩
  rw [h] at this
  cases this
 have:=hv i hi
 grind
theorem eqV_sol {n m L:Nat} {A B X:Mx} {v x:Nat→Rat} (hC:isC n m A B=true) (hX:(chn n m A B).IsEach X) (hv:∀ i,i<n→0≤v i) (h0:(chn n m A B).never X v=0) (hA:∀ i k,i<n→k<n→rL (A i k)≤L) (hvL:∀ i,i<n→rL (v i)≤L) (hx:(chn n m A B).IsVis v x) :
  ∀ i c,i<n→c<1→(sumN n fun j=>eqV (metB n A v) A n 0 i j*(fun j _=>x j:Mx) j c)=eqW (metB n A v) v n i c:=by
 have hN:=eqV_nonsing hC hX hv h0
 have hl:∀ i j,i<n→j<n→rL (eqV (metB n A v) A n 0 i j)≤L+2:=fun i j hi hj=>eqA_len (fun i k hi hk=>hA k i hk hi) i j hi hj
 have hb:∀ i j,i<n→j<1→rL (eqW (metB n A v) v n i j)≤L+2:=fun i j hi hj=>by
  unfold eqW
  split
  ·have:=hvL i hi
   omega
  ·have:rL 0≤1:=by decide +kernel
   omega
 obtain ⟨_,hs,_⟩:=fin_spec (c:=1) hN hl hb (by omega)
 obtain ⟨z,hz⟩:∃ z:Nat→Rat,z=fun i=>solX n (eqV (metB n A v) A n 0) (eqW (metB n A v) v n) i 0:=⟨_,rfl⟩
 have hs':∀ i,i<n→(sumN n fun j=>eqV (metB n A v) A n 0 i j*z j)=eqW (metB n A v) v n i 0:=fun i hi=>by rw [hz];exact hs i 0 hi (by decide)
 have hzz:∀ k,k<n→metB n A v k=false→z k=0:=fun k hk hr=>by
  have:=eqV_zero hk hr (hs' k hk)
  rw [this]
  exact if_neg (fun h=>by rw [hr] at h;cases h.2)
 have hvis:=met_vis hC hX hv h0 v (fun i hi hr=>met_of hv hi hr) hzz fun i hi hr=>by
  have:=eqV_met hi hr hzz (hs' i hi)
  rw [this]
  unfold eqW
  rw [if_pos ⟨hi,hr⟩]
 have heq:=hvis.unique (isC_ok hC) hx
 intro i c hi hc
 obtain rfl:c=0:=by omega
 rw [← hs' i hi]
 exact sumN_congr fun j hj=>by rw [heq j hj]
theorem five8 {n:Nat} (hn:n≤8):5 ^ n*(38+2)<2 ^ 30:=by
 have h1:5 ^ n*(38+2)≤5 ^ 8*(38+2):=Nat.mul_le_mul_right _ (Nat.pow_le_pow_right (by decide) hn)
 have h2:5 ^ 8*(38+2)<2 ^ 30:=by decide
 omega
theorem Small.reach {n m:Nat} {A B:Mx} {v:Nat→Rat} (h:Small n m A B v):PCall Tryz.prog 99 [cV n m A B] (.tup [qM n m (eachM n m A B),.i .i64 0]) []:=
 r20each_ok n m 38 (by have:=h.hn;omega) (by have:=h.hm;omega) A B _ h.hC h.is h.hA h.hB (by decide) (by decide) (five8 h.hn)
set_option maxHeartbeats 8000000 in
theorem Small.rends {n m:Nat} {A B:Mx} {v:Nat→Rat} (h:Small n m A B v):PCall Tryz.prog 55 [cV n m A B,.sl ((vl n v).map rV)] (.tup [.sl ((vl m (thr n v (eachM n m A B))).map rV),rV (neverQ n m A B v),.i .i64 0]) []:=by
 have hn:=h.hn
 have hm:=h.hm
 have cr:=r20right_ok n m 38 (by omega) (by omega) A B h.hA h.hB (by decide) (by decide)
 rw [h.hC] at cr
 have cw:=rweights_q n 3 (by omega) v h.hv h.hvL (by decide)
 have ce:=h.reach
 have cb:=rby_ok n m 100000 (by omega) (by omega) v (eachM n m A B) (fun i hi=>Nat.le_trans (h.hvL i hi) (by decide)) h.hX (by decide) (by decide)
 have cs1:=pvsum h.hvL (by decide) (by omega)
 have cs2:=pvsum h.endL (by decide) (by omega)
 have h1:=sumN_len h.hvL n (Nat.le_refl _)
 have h2:=sumN_len h.endL m (Nat.le_refl _)
 have h3:n*(3+1)≤8*(3+1):=Nat.mul_le_mul_right _ h.hn
 have h4:m*(2000000+1)≤5*(2000000+1):=Nat.mul_le_mul_right _ h.hm
 have cd:PCall Tryz.prog 73 [.agg [.b (decide ((sumN n v).num<0)),dg (digits (sumN n v).num.natAbs),dg (digits (sumN n v).den)],.agg [.b (decide ((sumN m (thr n v (eachM n m A B))).num<0)),dg (digits (sumN m (thr n v (eachM n m A B))).num.natAbs),dg (digits (sumN m (thr n v (eachM n m A B))).den)]] (rV (neverQ n m A B v)) []:=psub_ok (L:=11000000) (IsQ.of (by omega)) (IsQ.of (by omega)) (by decide) (by decide)
 refine PCall.of_ax Tryz.call55 Tryz.func55 rfl (by simp [Tryz.ntmps55]) fun O w=>?_
 simp only [Tryz.ntmps55,Tryz.results55,argFr]
 clear h h1 h2 h3 h4
 unfold cV qM mV at *
 generalize (mcells n A (n*n)).map rV=Ac at *
 generalize (mcells m B (n*m)).map rV=Bc at *
 generalize neverQ n m A B v=nq at *
 generalize sumN m (thr n v (eachM n m A B))=s2 at *
 generalize sumN n v=s1 at *
 generalize (vl m (thr n v (eachM n m A B))).map rV=Le' at *
 generalize (mcells m (eachM n m A B) (n*m)).map rV=Xc at *
 generalize (vl n v).map rV=Sc at *
 refine AX.sR (rgAV [1,2,5]) ?_
 refine AX.seq ?_
 refine AX.sR (rgCV [1,2,5,20] (aI cr (aI cw oT))) ?_
 refine AX.condF ?_
 refine AX.keepA [1,2,5] ?_
 refine AX.skip ?_
 refine nmZ ?_
 refine AX.sR (rgCV [1,5,7] (aI ce oT)) ?_
 refine AX.sR (rgCV [1,5,9] (aI cb oT)) ?_
 refine AX.sR (rgCV [4,5,6] (aI cs1 (aI cs2 (aI cd oT)))) ?_
 refine AX.ret ⟨.inl rfl,?_⟩
 exact dnQ8
theorem wsame_nil (r k:Int):PCall Tryz.prog 25 [.agg [.i .i64 r,.i .i64 k,.sl []],.agg [.i .i64 r,.i .i64 k,.sl []]] (.b true) []:=by
 have:=wsame_ok r k r k [] [] 1 (fun q h=>nomatch h) (fun q h=>nomatch h) (by decide) (by decide) (by decide) (by decide)
 rwa [decide_eq_true ⟨rfl,rfl,rfl⟩] at this
theorem psame_z:PCall Tryz.prog 27 [zR,zR] (.b true) []:=by
 have z:IsQ zR (rq false (val []) (val [])) 1:=IsQ.raw (s:=false) (a:=[]) (b:=[]) (fun d h=>nomatch h) (fun d h=>nomatch h) (by decide) (by decide)
 have:=psame_ok z z (by decide) (by decide)
 rwa [decide_eq_true rfl] at this
theorem psame_q {q:Rat} {L:Nat} (h:rL q≤L)(hL:L<2 ^ 33)(hL1:1≤L):PCall Tryz.prog 27 [rV q,rV q] (.b true) []:=by
 have:=psame_ok (IsQ.of h) (IsQ.of h) hL hL1
 rwa [decide_eq_true rfl] at this
theorem wsame_m {n m:Nat} {X:Mx} (hn:n≤60)(hm:m≤60)(h:∀ i k,i<n→k<m→rL (X i k)≤100000):PCall Tryz.prog 25 [qM n m X,qM n m X] (.b true) []:=by
 have hq:∀ q ∈ mcells m X (n*m),rL q≤100000:=fun q hq=>by
  obtain ⟨j,hj,rfl⟩:=List.mem_map.1 hq
  have hj:j<n*m:=by simpa using hj
  have hm0:0<m:=Nat.pos_of_ne_zero fun e=>by rw [e,Nat.mul_zero] at hj;omega
  exact h _ _ ((Nat.div_lt_iff_lt_mul hm0).2 hj) (Nat.mod_lt _ hm0)
 have hl:(mcells m X (n*m)).length<2 ^ 40:=by
  rw [mcells_length]
  have:n*m≤60*60:=Nat.mul_le_mul hn hm
  omega
 have:=wsame_ok n m n m _ _ 100000 hq hq (by decide) (by decide) hl hl
 rwa [decide_eq_true ⟨rfl,rfl,rfl⟩] at this
noncomputable def metP (n:Nat) (A:Mx) (v:Nat→Rat) (i0 k0:Nat) (k:Nat):Bool:=@decide (∃ i,(i<i0∨(i=i0∧k<k0))∧0<v i∧To n A i k) (Classical.propDecidable _)
theorem metP_iff {n:Nat} {A:Mx} {v:Nat→Rat} {i0 k0 k:Nat}:metP n A v i0 k0 k=true↔∃ i,(i<i0∨(i=i0∧k<k0))∧0<v i∧To n A i k:=by
 unfold metP
 exact @decide_eq_true_iff _ (Classical.propDecidable _)
theorem metP_zero (n:Nat)(A:Mx)(v:Nat→Rat)(k:Nat):metP n A v 0 0 k=false:=by
 cases h:metP n A v 0 0 k
 ·rfl
 ·obtain ⟨i,hi,_⟩:=metP_iff.1 h
  omega
theorem metP_end (n:Nat)(A:Mx)(v:Nat→Rat)(k:Nat):metP n A v n 0 k=metB n A v k:=by
 rw [Bool.eq_iff_iff,metP_iff,metB_iff]
 constructor
 ·rintro ⟨i,hi,h1,h2⟩
  exact ⟨i,by omega,h1,h2⟩
 ·rintro ⟨i,hi,h1,h2⟩
  exact ⟨i,.inl hi,h1,h2⟩
theorem metP_next (n:Nat)(A:Mx)(v:Nat→Rat)(i k:Nat):metP n A v i (k+1) k=(metP n A v i k k || (decide (0<v i) && toB n A i k)):=by
 rw [Bool.eq_iff_iff,metP_iff,Bool.or_eq_true,Bool.and_eq_true,metP_iff,decide_eq_true_eq,toB_iff]
 constructor
 ·rintro ⟨j,hj,h1,h2⟩
  rcases hj with h | h
  ·exact .inl ⟨j,.inl h,h1,h2⟩
  ·rw [h.1] at h1 h2
   exact .inr ⟨h1,h2⟩
 ·rintro (⟨j,hj,h1,h2⟩ | ⟨h1,h2⟩)
  ·exact ⟨j,by omega,h1,h2⟩
  ·exact ⟨i,.inr ⟨rfl,by omega⟩,h1,h2⟩
theorem metP_other (n:Nat)(A:Mx)(v:Nat→Rat) {i k b:Nat} (h:b≠k):metP n A v i (k+1) b=metP n A v i k b:=by
 rw [Bool.eq_iff_iff,metP_iff,metP_iff]
 constructor
 ·rintro ⟨j,hj,h1,h2⟩
  exact ⟨j,by omega,h1,h2⟩
 ·rintro ⟨j,hj,h1,h2⟩
  exact ⟨j,by omega,h1,h2⟩
theorem metP_row (n:Nat)(A:Mx)(v:Nat→Rat) {i k:Nat} (h:k<n):metP n A v i n k=metP n A v (i+1) 0 k:=by
 rw [Bool.eq_iff_iff,metP_iff,metP_iff]
 constructor
 ·rintro ⟨j,hj,h1,h2⟩
  exact ⟨j,by omega,h1,h2⟩
 ·rintro ⟨j,hj,h1,h2⟩
  exact ⟨j,by omega,h1,h2⟩
set_option maxHeartbeats 64000000 in
theorem Small.rvisits {n m:Nat} {A B:Mx} {v:Nat→Rat} (h:Small n m A B v) (hnv:neverQ n m A B v=0) (x:Nat→Rat) (hx:(chn n m A B).IsVis v x) :
  PCall Tryz.prog 103 [cV n m A B,.sl ((vl n v).map rV)] (.tup [.sl ((vl n x).map rV),.i .i64 0]) []:=by
 have hn:=h.hn
 have hm:=h.hm
 have ce:=h.rends
 rw [hnv] at ce
 have c0:PCall Tryz.prog 34 [.agg [.b (decide (((0:Rat)).num<0)),dg (digits ((0:Rat)).num.natAbs),dg (digits ((0:Rat)).den)]] (.i .i64 (sgnR 0)) []:=psign_ok (L:=1) (IsQ.of (by decide +kernel)) (by decide)
 rw [sgnR_eq_zero.2 rfl] at c0
 have crc:=rreach_ok n m 38 (by omega) A B h.hA (by decide)
 have cs:∀ i,i<n→PCall Tryz.prog 34 [.agg [.b (decide (((v i)).num<0)),dg (digits ((v i)).num.natAbs),dg (digits ((v i)).den)]] (.i .i64 (sgnR (v i))) []:=fun i hi=>psign_ok (IsQ.of (h.hvL i hi)) (by decide)
 have ixv:=fun (i:Nat) (hi:i<n)=>fun x y=>effIxL (x:=x) (y:=y) v hi
 have ixA:=fun (i j:Nat) (hi:i<n) (hj:j<n)=>fun x y=>effIxM (x:=x) (y:=y) A hi hj rfl
 have hbll:=bll_length n (toB n A)
 have hblg:=fun (i:Nat) (hi:i<n)=>bll_get (toB n A) hi
 have hbl1:=fun (i:Nat)=>bl_length n (toB n A i)
 have hbg1:=fun (i k:Nat) (hk:k<n)=>bl_get (toB n A i) hk
 have hblm:=fun (i k:Nat)=>bl_length n (metP n A v i k)
 have cid:=rident_own n (by omega)
 have czr:=rzero_own n 1 (by omega) (by decide)
 have e1:mcells n (idM n) (n*n)=mcells n (eqV (metB n A v) A 0 0) (n*n):=mcells_congr fun i k hi hk=>by
  unfold idM eqV eqA dlt1
  rw [if_neg (fun h:(i<0∨_)∧_=>by omega)]
  by_cases e:i=k
  ·rw [if_pos ⟨e,hi⟩,if_pos e]
  ·rw [if_neg (fun h=>e h.1),if_neg e]
 have e2:mcells 1 (fun _ _=>(0:Rat)) (n*1)=mcells 1 (eqW (metB n A v) v 0) (n*1):=mcells_congr fun i k hi hk=>by
  unfold eqW
  rw [if_neg (fun h=>by omega)]
 rw [e1] at cid
 rw [e2] at czr
 have hnv':(chn n m A B).never (eachM n m A B) v=0:=by rw [← hnv];rfl
 have csv:=rsolve_ok n 1 (38+2) (by omega) (by decide) (eqV (metB n A v) A n 0) (eqW (metB n A v) v n) (fun j _=>x j) (eqV_nonsing h.hC h.is h.hv hnv') (fun i j hi hj=>eqA_len (fun i k hi hk=>h.hA k i hk hi) i j hi hj) (fun i j hi hj=>by
  unfold eqW
  split
  ·have:=h.hvL i hi
   omega
  ·have:rL 0≤1:=by decide +kernel
   omega) (by decide) (five8 hn) (eqV_sol h.hC h.is h.hv hnv' h.hA (fun i hi=>Nat.le_trans (h.hvL i hi) (by decide)) hx)
 have ckA:chunks 3 (n*n) (qrow (mcells n (eqV (metB n A v) A n 0) (n*n)))=(mcells n (eqV (metB n A v) A n 0) (n*n)).map rV:=by
  have:=chunks_q (mcells n (eqV (metB n A v) A n 0) (n*n))
  rwa [mcells_length] at this
 have ckB:chunks 3 (n*1) (qrow (mcells 1 (eqW (metB n A v) v n) (n*1)))=(mcells 1 (eqW (metB n A v) v n) (n*1)).map rV:=by
  have:=chunks_q (mcells 1 (eqW (metB n A v) v n) (n*1))
  rwa [mcells_length] at this
 have tkA:List.take (n*n*3) (qrow (mcells n (eqV (metB n A v) A n 0) (n*n)))=qrow (mcells n (eqV (metB n A v) A n 0) (n*n)):=by rw [← qlen n n (eqV (metB n A v) A n 0)];exact List.take_length
 have tkB:List.take (n*1*3) (qrow (mcells 1 (eqW (metB n A v) v n) (n*1)))=qrow (mcells 1 (eqW (metB n A v) v n) (n*1)):=by rw [← qlen 1 n (eqW (metB n A v) v n)];exact List.take_length
 have eX:(mcells 1 (fun j _=>x j) (n*1)).map rV=(vl n x).map rV:=by
  unfold mcells vl
  rw [Nat.mul_one]
  congr 1
  exact List.map_congr_left fun j _=>by rw [Nat.div_one]
 unfold qM mV at csv
 rw [eX] at csv
 refine PCall.of_ax Tryz.call103 Tryz.func103 rfl (by simp [Tryz.ntmps103]) fun O w0=>?_
 simp only [Tryz.ntmps103,Tryz.results103,argFr]
 unfold cV at *
 generalize (mcells n A (n*n)).map rV=Ac at *
 generalize (mcells m B (n*m)).map rV=Bc at *
 obtain ⟨Vc,hVc⟩:∃ l,(vl n v).map rV=l:=⟨_,rfl⟩
 rw [hVc] at ce ixv ⊢
 generalize (vl m (thr n v (eachM n m A B))).map rV=Ec at *
 refine AX.sR (rgAV [1,2]) ?_
 refine AX.sR (rgCV [1,2,7,8] (aI ce oT)) ?_
 refine AX.seq ?_
 refine AX.block ?_
 refine AX.sR (rgAV [1,2,7,8,29]) ?_
 refine AX.condF ?_
 refine AX.sR (rgCV [1,2,33] (aI c0 oT)) ?_
 refine AX.condF ?_
 refine AX.keepA [1,2] ?_
 refine AX.skip ?_
 refine nmZ ?_
 refine AX.sR (rgAV [1,2,9]) ?_
 refine AX.sR (rgCV [1,2,9,10] (aI crc oT)) ?_
 refine AX.sR (rgAV [1,2,9,10,11]) ?_
 refine AX.seq ?_
 refine AX.sR (rgAV [1,2,9,10,11,45,46]) ?_
 have hb0:List.replicate n (V.b false)=bl n (metP n A v 0 0):=by
  rw [bl_congr (g:=fun _=>false) fun k hk=>metP_zero n A v k]
  exact bl_zero n
 refine AX.weaken id (st':=⟨[(46,.i .i64 (0:Nat)),(45,.i .i64 n),(11,.own 2 0 n 1),(10,.sl (bll n (toB n A))),(9,.i .i64 n),(2,.ptr 0 0),(1,.sl Vc)],[(2,⟨4,bl n (metP n A v 0 0)⟩),(0,⟨48,[.i .i64 n,.i .i64 n,.sl Ac,.i .i64 n,.i .i64 m,.sl Bc]⟩)],3⟩)
  (leQ8H hb0)
  ?_
 refine AX.block ?_
 refine AX.loop (fun N st=>∃ i:Nat,i≤n∧N=n-i∧st=⟨[(46,.i .i64 i),(45,.i .i64 n),(11,.own 2 0 n 1),(10,.sl (bll n (toB n A))),(9,.i .i64 n),(2,.ptr 0 0),(1,.sl Vc)],[(2,⟨4,bl n (metP n A v i 0)⟩),(0,⟨48,[.i .i64 n,.i .i64 n,.sl Ac,.i .i64 n,.i .i64 m,.sl Bc]⟩)],3⟩) n ⟨0,Nat.zero_le _,rfl,rfl⟩ ?_
 rintro N st ⟨i,hi,rfl,rfl⟩
 by_cases h1:i<n
 ·refine AX.sR (rgAV [1,2,9,10,11,45,46,47]) ?_
  refine AX.seq ?_
  refine AX.condT ?_
  refine AX.keepA [1,2,9,10,11,45,46] ?_
  refine AX.skip ?_
  refine nmZ ?_
  refine AX.seq ?_
  refine AX.block ?_
  refine AX.sR (rgAV [1,2,9,10,11,12,45,46]) ?_
  refine AX.sR (rgAV [1,2,9,10,11,12,45,46,50,51]) ?_
  refine AX.weaken id (st':=⟨[(51,.i .i64 (0:Nat)),(50,.i .i64 n),(46,.i .i64 i),(45,.i .i64 n),(12,.i .i64 i),(11,.own 2 0 n 1),(10,.sl (bll n (toB n A))),(9,.i .i64 n),(2,.ptr 0 0),(1,.sl Vc)],[(2,⟨4,bl n (metP n A v i 0)⟩),(0,⟨48,[.i .i64 n,.i .i64 n,.sl Ac,.i .i64 n,.i .i64 m,.sl Bc]⟩)],3⟩)
   leQ8
   ?_
  refine AX.block ?_
  refine AX.loop (fun N st=>∃ k:Nat,k≤n∧N=n-k∧st=⟨[(51,.i .i64 k),(50,.i .i64 n),(46,.i .i64 i),(45,.i .i64 n),(12,.i .i64 i),(11,.own 2 0 n 1),(10,.sl (bll n (toB n A))),(9,.i .i64 n),(2,.ptr 0 0),(1,.sl Vc)],[(2,⟨4,bl n (metP n A v i k)⟩),(0,⟨48,[.i .i64 n,.i .i64 n,.sl Ac,.i .i64 n,.i .i64 m,.sl Bc]⟩)],3⟩) n ⟨0,Nat.zero_le _,rfl,rfl⟩ ?_
  rintro N st ⟨k,hk,rfl,rfl⟩
  by_cases h2:k<n
  ·have hl:=hblm i k
   have hg:=bl_get (metP n A v i k) h2
   have hset:=fun b=>bl_set (metP n A v i k) b h2
   have hnx:=metP_next n A v i k
   have hnext:∀ b,b=metP n A v i (k+1) k→bl n (updB (metP n A v i k) k b)=bl n (metP n A v i (k+1)):=fun b hb=>bl_congr fun j hj=>by
    unfold updB
    by_cases e:j=k
    ·rw [if_pos e,hb,e]
    ·rw [if_neg e,metP_other n A v e]
   have c1:=cs i h1
   have ix:=ixv i h1
   have b2:=hblg i h1
   have b3:=hbl1 i
   have b4:=hbg1 i k h2
   clear cs ixv hblg hbl1 hbg1 hblm
   cases hb:metP n A v i k k
   ·rw [hb] at hg hnx
    by_cases hp:0<v i
    ·have hps:0<sgnR (v i):=sgnR_pos.2 hp
     cases ht:toB n A i k
     ·rw [ht] at b4 hnx
      have hfin:=hnext false (by rw [hnx];simp)
      clear hnext hnx
      generalize v i=q at *
      refine AX.sR (rgAV [1,2,9,10,11,12,45,46,50,51,52]) ?_
      refine AX.seq ?_
      refine AX.condT ?_
      refine AX.keepA [1,2,9,10,11,12,45,46,50,51] ?_
      refine AX.skip ?_
      refine nmZ ?_
      refine AX.seq ?_
      refine AX.block ?_
      refine AX.sR (rgAV [1,2,9,10,11,12,13,45,46,50,51]) ?_
      refine AX.rR (rgEV [1,2,9,10,11,12,45,46,50,51] (aI @hl (aI @hg (aI @hbll (aI @b2 (aI @b3 (aI @b4 (aI @hps oT))))))) (aI c1 oT) (aI ix oT)) ?_
      refine nmZ ?_
      rw [hset,hfin]
      refine AX.rR (rgWV [1,2,9,10,11,12,45,46,50,51] (aI @lit_add oT) oT) ?_
      refine nmZ ?_
      refine ⟨_,_,id,?_,
       leQ8
       , ⟨k+1,by omega,rfl,rfl⟩⟩
      omega
     ·rw [ht] at b4 hnx
      have hfin:=hnext true (by rw [hnx];simp [hp])
      clear hnext hnx
      generalize v i=q at *
      refine AX.sR (rgAV [1,2,9,10,11,12,45,46,50,51,52]) ?_
      refine AX.seq ?_
      refine AX.condT ?_
      refine AX.keepA [1,2,9,10,11,12,45,46,50,51] ?_
      refine AX.skip ?_
      refine nmZ ?_
      refine AX.seq ?_
      refine AX.block ?_
      refine AX.sR (rgAV [1,2,9,10,11,12,13,45,46,50,51]) ?_
      refine AX.rR (rgEV [1,2,9,10,11,12,45,46,50,51] (aI @hl (aI @hg (aI @hbll (aI @b2 (aI @b3 (aI @b4 (aI @hps oT))))))) (aI c1 oT) (aI ix oT)) ?_
      refine nmZ ?_
      rw [hset,hfin]
      refine AX.rR (rgWV [1,2,9,10,11,12,45,46,50,51] (aI @lit_add oT) oT) ?_
      refine nmZ ?_
      refine ⟨_,_,id,?_,
       leQ8
       , ⟨k+1,by omega,rfl,rfl⟩⟩
      omega
    ·have hps:¬ 0<sgnR (v i):=fun h=>hp (sgnR_pos.1 h)
     have hfin:=hnext false (by rw [hnx];simp [hp])
     clear hnext hnx
     generalize v i=q at *
     refine AX.sR (rgAV [1,2,9,10,11,12,45,46,50,51,52]) ?_
     refine AX.seq ?_
     refine AX.condT ?_
     refine AX.keepA [1,2,9,10,11,12,45,46,50,51] ?_
     refine AX.skip ?_
     refine nmZ ?_
     refine AX.seq ?_
     refine AX.block ?_
     refine AX.sR (rgAV [1,2,9,10,11,12,13,45,46,50,51]) ?_
     refine AX.rR (rgEV [1,2,9,10,11,12,45,46,50,51] (aI @hl (aI @hg (aI @hps oT))) (aI c1 oT) (aI ix oT)) ?_
     refine nmZ ?_
     rw [hset,hfin]
     refine AX.rR (rgWV [1,2,9,10,11,12,45,46,50,51] (aI @lit_add oT) oT) ?_
     refine nmZ ?_
     refine ⟨_,_,id,?_,
      leQ8
      , ⟨k+1,by omega,rfl,rfl⟩⟩
     omega
   ·rw [hb] at hg hnx
    have hfin:=hnext true (by rw [hnx];simp)
    clear hnext hnx
    refine AX.sR (rgAV [1,2,9,10,11,12,45,46,50,51,52]) ?_
    refine AX.seq ?_
    refine AX.condT ?_
    refine AX.keepA [1,2,9,10,11,12,45,46,50,51] ?_
    refine AX.skip ?_
    refine nmZ ?_
    refine AX.seq ?_
    refine AX.block ?_
    refine AX.sR (rgAV [1,2,9,10,11,12,13,45,46,50,51]) ?_
    refine AX.rR (rgWV [1,2,9,10,11,12,45,46,50,51] (aI @hl (aI @hg oT)) oT) ?_
    refine nmZ ?_
    rw [hset,hfin]
    refine AX.rR (rgWV [1,2,9,10,11,12,45,46,50,51] (aI @lit_add oT) oT) ?_
    refine nmZ ?_
    refine ⟨_,_,id,?_,
     leQ8
     , ⟨k+1,by omega,rfl,rfl⟩⟩
    omega
  ·obtain rfl:n=k:=by omega
   have hrow:bl n (metP n A v i n)=bl n (metP n A v (i+1) 0):=bl_congr fun k hk=>metP_row n A v hk
   refine AX.sR (rgAV [1,2,9,10,11,12,45,46,50,51,52]) ?_
   refine AX.seq ?_
   refine AX.condF ?_
   refine AX.exit ?_
   refine nmZ ?_
   rw [hrow]
   refine AX.rR (rgWV [1,2,9,10,11,45,46] (aI @lit_add oT) oT) ?_
   refine nmZ ?_
   refine ⟨_,_,id,?_,
    leQ8
    , ⟨i+1,by omega,rfl,rfl⟩⟩
   omega
 ·obtain rfl:n=i:=by omega
  have hend:bl n (metP n A v n 0)=bl n (metB n A v):=bl_congr fun k hk=>metP_end n A v k
  refine AX.sR (rgAV [1,2,9,10,11,45,46,47]) ?_
  refine AX.seq ?_
  refine AX.condF ?_
  refine AX.exit ?_
  refine nmZ ?_
  rw [hend]
  have nn1:n*1=n:=Nat.mul_one n
  rw [nn1] at czr csv ckB tkB
  obtain ⟨Kn,hKn⟩:∃ K,n*n=K:=⟨_,rfl⟩
  rw [hKn] at cid csv ckA tkA
  have hmb:=bl_length n (metB n A v)
  have hmg:=fun (i:Nat) (hi:i<n)=>bl_get (metB n A v) hi
  have hmlt:=fun k=>(lt_bl k n (metB n A v))
  obtain ⟨bs,hbs⟩:∃ x,bl n (metB n A v)=x:=⟨_,rfl⟩
  rw [hbs] at hmb hmg ⊢
  refine AX.sR (rgCV [1,2,9,11,14] (aI cid oT)) ?_
  refine AX.sR (rgCV [1,2,9,11,14,16] (aI czr oT)) ?_
  refine AX.seq ?_
  refine AX.sR (rgAV [1,2,9,11,14,16,18]) ?_
  have hl7:V.ltL 7 bs=true:=by rw [← hbs];exact lt_bl ..
  refine AX.weaken id (st':=⟨[(18,.i .i64 (0:Nat)),(16,.ptr 6 0),(14,.ptr 4 0),(11,.own 2 0 n 1),(9,.i .i64 n),(2,.ptr 0 0),(1,.sl Vc)],[(6,⟨46,[.i .i64 n,.i .i64 1,.own 5 0 n 3]⟩),(5,⟨54,qrow (mcells 1 (eqW (metB n A v) v 0) n)⟩),(4,⟨46,[.i .i64 n,.i .i64 n,.own 3 0 Kn 3]⟩),(3,⟨54,qrow (mcells n (eqV (metB n A v) A 0 0) Kn)⟩),(2,⟨4,bs⟩),(0,⟨48,[.i .i64 n,.i .i64 n,.sl Ac,.i .i64 n,.i .i64 m,.sl Bc]⟩)],7⟩)
   (leQ8H hl7)
   ?_
  refine AX.block ?_
  have qV:=fun i k=>qlen n n (eqV (metB n A v) A i k)
  have qW:=fun i=>qlen 1 n (eqW (metB n A v) v i)
  rw [hKn] at qV
  rw [nn1] at qW
  have hnn:Kn≤60*60:=by rw [← hKn];exact Nat.mul_le_mul (by omega) (by omega)
  refine AX.loop (fun N st=>∃ i:Nat,i≤n∧N=n-i∧st=⟨[(18,.i .i64 i),(16,.ptr 6 0),(14,.ptr 4 0),(11,.own 2 0 n 1),(9,.i .i64 n),(2,.ptr 0 0),(1,.sl Vc)],[(6,⟨46,[.i .i64 n,.i .i64 1,.own 5 0 n 3]⟩),(5,⟨54,qrow (mcells 1 (eqW (metB n A v) v i) n)⟩),(4,⟨46,[.i .i64 n,.i .i64 n,.own 3 0 Kn 3]⟩),(3,⟨54,qrow (mcells n (eqV (metB n A v) A i 0) Kn)⟩),(2,⟨4,bs⟩),(0,⟨48,[.i .i64 n,.i .i64 n,.sl Ac,.i .i64 n,.i .i64 m,.sl Bc]⟩)],7⟩) n ⟨0,Nat.zero_le _,rfl,rfl⟩ ?_
  rintro N st ⟨i,hi,rfl,rfl⟩
  refine AX.seq ?_
  by_cases h1:i<n
  ·have hbi:=hmg i h1
   refine AX.sR (rgAV [1,2,9,11,14,16,18,92]) ?_
   refine AX.condT ?_
   refine AX.keepA [1,2,9,11,14,16,18] ?_
   refine AX.skip ?_
   refine nmZ ?_
   refine AX.seq ?_
   refine AX.block ?_
   refine AX.seq ?_
   cases hri:metB n A v i
   ·have n1:mcells n (eqV (metB n A v) A i 0) Kn=mcells n (eqV (metB n A v) A (i+1) 0) Kn:=by
     rw [← hKn]
     refine mcells_congr fun a k ha hk=>?_
     unfold eqV eqA
     by_cases e:a=i
     ·rw [e,hri,if_neg (fun h=>by cases h.2.1),if_neg (fun h=>by cases h.2.1)]
     ·have e3:(a<i∨a=i∧k<0)=(a<i+1∨a=i+1∧k<0):=by
       apply propext
       constructor<;>intro h<;>omega
      simp only [e3]
    have n2:mcells 1 (eqW (metB n A v) v i) n=mcells 1 (eqW (metB n A v) v (i+1)) n:=by
     have:=mcells_congr (r:=n) (c:=1) (f:=eqW (metB n A v) v i) (g:=eqW (metB n A v) v (i+1)) fun a k ha hk=>by
      unfold eqW
      by_cases e:a=i
      ·rw [e,hri,if_neg (fun h=>by cases h.2),if_neg (fun h=>by cases h.2)]
      ·have e3:(a<i)=(a<i+1):=by
        apply propext
        constructor<;>intro h<;>omega
       simp only [e3]
     rwa [nn1] at this
    rw [hri] at hbi
    rw [n1,n2]
    refine AX.sR (rgWV [1,2,9,11,14,16,18,99] (aI @hmb (aI @hbi oT)) oT) ?_
    refine AX.condT ?_
    refine AX.exit ?_
    refine nmZ ?_
    refine AX.rR (rgWV [1,2,9,11,14,16,18] (aI @lit_add oT) oT) ?_
    refine nmZ ?_
    refine ⟨_,_,id,?_,
     (leQ8H hl7)
     , ⟨i+1,by omega,rfl,rfl⟩⟩
    omega
   ·rw [hri] at hbi
    have c1:=ixv i h1
    have z1:i*1+0=i:=by omega
    have hlW:=qW i
    have hsW:=qset (n:=n) (w:=1) (eqW (metB n A v) v i) (v i) h1 (show 0<1 by decide) z1
    have n2:mcells 1 (updM (eqW (metB n A v) v i) i 0 (v i)) n=mcells 1 (eqW (metB n A v) v (i+1)) n:=by
     have:=mcells_congr (r:=n) (c:=1) (f:=updM (eqW (metB n A v) v i) i 0 (v i)) (g:=eqW (metB n A v) v (i+1)) fun a k ha hk=>by
      unfold updM eqW
      by_cases e:a=i
      ·rw [e,if_pos ⟨rfl,by omega⟩,if_pos ⟨by omega,hri⟩]
      ·rw [if_neg (fun h=>e h.1)]
       have e3:(a<i)=(a<i+1):=by
        apply propext
        constructor<;>intro h<;>omega
       simp only [e3]
     rwa [nn1] at this
    rw [nn1,n2] at hsW
    generalize v i=q at c1 hsW
    refine AX.sR (rgWV [1,2,9,11,14,16,18,99] (aI @hmb (aI @hbi oT)) oT) ?_
    refine AX.condF ?_
    refine AX.keepA [1,2,9,11,14,16,18] ?_
    refine AX.skip ?_
    refine nmZ ?_
    refine AX.sD (rgDEV [1,2,9,11,14,16,18] (aI @hlW oT) oT (aI c1 oT)) ?_
    rw [hsW]
    refine AX.sR (rgAV [1,2,9,11,14,16,18,19]) ?_
    refine AX.block ?_
    refine AX.loop (fun N st=>∃ k:Nat,k≤n∧N=n-k∧st=⟨[(19,.i .i64 k),(18,.i .i64 i),(16,.ptr 6 0),(14,.ptr 4 0),(11,.own 2 0 n 1),(9,.i .i64 n),(2,.ptr 0 0),(1,.sl Vc)],[(6,⟨46,[.i .i64 n,.i .i64 1,.own 5 0 n 3]⟩),(5,⟨54,qrow (mcells 1 (eqW (metB n A v) v (i+1)) n)⟩),(4,⟨46,[.i .i64 n,.i .i64 n,.own 3 0 Kn 3]⟩),(3,⟨54,qrow (mcells n (eqV (metB n A v) A i k) Kn)⟩),(2,⟨4,bs⟩),(0,⟨48,[.i .i64 n,.i .i64 n,.sl Ac,.i .i64 n,.i .i64 m,.sl Bc]⟩)],7⟩) n ⟨0,Nat.zero_le _,rfl,rfl⟩ ?_
    rintro N st ⟨k,hk,rfl,rfl⟩
    refine AX.seq ?_
    by_cases h2:k<n
    ·have hbk:=hmg k h2
     have ix:=ixA k i h2 h1
     obtain ⟨z,hz⟩:∃ z,i*n+k=z:=⟨_,rfl⟩
     obtain ⟨y,hy⟩:∃ y,k*n+i=y:=⟨_,rfl⟩
     rw [hy] at ix
     have m1:(i:Int)*(n:Int)=((i*n:Nat):Int):=(Int.natCast_mul i n).symm
     have a1:((i*n:Nat):Int)+(k:Int)=(z:Int):=by rw [← Int.natCast_add,hz]
     have m2:(k:Int)*(n:Int)=((k*n:Nat):Int):=(Int.natCast_mul k n).symm
     have a2:((k*n:Nat):Int)+(i:Int)=(y:Int):=by rw [← Int.natCast_add,hy]
     have hzK:z<Kn:=by
      rw [← hz,← hKn]
      have:(i+1)*n≤n*n:=Nat.mul_le_mul_right _ h1
      rw [Nat.succ_mul] at this
      omega
     have hyK:y<Kn:=by
      rw [← hy,← hKn]
      have:(k+1)*n≤n*n:=Nat.mul_le_mul_right _ h2
      rw [Nat.succ_mul] at this
      omega
     have bz:i*n≤60*60:=by
      have:i*n≤n*n:=Nat.mul_le_mul_right _ hi
      omega
     have by':k*n≤60*60:=by
      have:k*n≤n*n:=Nat.mul_le_mul_right _ hk
      omega
     have hl:=qV i k
     have hg:=qget (n:=n) (eqV (metB n A v) A i k) h1 h2 hz
     have ev:eqV (metB n A v) A i k i k=dlt1 i k:=by
      unfold eqV eqA
      rw [if_neg (fun h=>by omega)]
     rw [ev] at hg
     have hset:=qset (n:=n) (eqV (metB n A v) A i k) (dlt1 i k-A k i) h1 h2 hz
     rw [hKn] at hg hset
     refine AX.sR (rgAV [1,2,9,11,14,16,18,19,110]) ?_
     refine AX.condT ?_
     refine AX.keepA [1,2,9,11,14,16,18,19] ?_
     refine AX.skip ?_
     refine nmZ ?_
     refine AX.seq ?_
     refine AX.block ?_
     cases hrk:metB n A v k
     ·have hnext:mcells n (eqV (metB n A v) A i k) Kn=mcells n (eqV (metB n A v) A i (k+1)) Kn:=by
       rw [← hKn]
       refine mcells_congr fun a b ha hb=>?_
       unfold eqV eqA
       by_cases e:a=i∧b=k
       ·rw [if_neg (fun h=>by rw [e.2,hrk] at h;cases h.2.2),if_neg (fun h=>by rw [e.2,hrk] at h;cases h.2.2)]
       ·have e3:(a<i∨a=i∧b<k)=(a<i∨a=i∧b<k+1):=by
         apply propext
         constructor<;>intro h<;>omega
        simp only [e3]
      rw [hrk] at hbk
      rw [hnext]
      refine AX.sR (rgWV [1,2,9,11,14,16,18,19,116] (aI @hmb (aI @hbk oT)) oT) ?_
      refine AX.condF ?_
      refine AX.keepA [1,2,9,11,14,16,18,19] ?_
      refine AX.skip ?_
      refine nmZ ?_
      refine AX.rR (rgWV [1,2,9,11,14,16,18,19] (aI @lit_add oT) oT) ?_
      refine nmZ ?_
      refine ⟨_,_,id,?_,
       (leQ8H hl7)
       , ⟨k+1,by omega,rfl,rfl⟩⟩
      omega
     ·have hnext:mcells n (updM (eqV (metB n A v) A i k) i k (dlt1 i k-A k i)) Kn=mcells n (eqV (metB n A v) A i (k+1)) Kn:=by
       rw [← hKn]
       refine mcells_congr fun a b ha hb=>?_
       unfold updM eqV eqA
       by_cases e:a=i∧b=k
       ·rw [if_pos e,if_pos ⟨.inr ⟨e.1,by omega⟩,by rw [e.1];exact hri,by rw [e.2];exact hrk⟩,e.1,e.2]
       ·rw [if_neg e]
        have e3:(a<i∨a=i∧b<k)=(a<i∨a=i∧b<k+1):=by
         apply propext
         constructor<;>intro h<;>omega
        simp only [e3]
      rw [hnext] at hset
      rw [hrk] at hbk
      have cb:PCall Tryz.prog 73 [.agg [.b (decide (((dlt1 i k)).num<0)),dg (digits ((dlt1 i k)).num.natAbs),dg (digits ((dlt1 i k)).den)],.agg [.b (decide (((A k i)).num<0)),dg (digits ((A k i)).num.natAbs),dg (digits ((A k i)).den)]] (.agg [.b (decide (((dlt1 i k-A k i)).num<0)),dg (digits ((dlt1 i k-A k i)).num.natAbs),dg (digits ((dlt1 i k-A k i)).den)]) []:=psub_ok (L:=40) (IsQ.of (Nat.le_trans (dlt1_len i k) (by decide))) (IsQ.of (Nat.le_trans (h.hA k i h2 h1) (by decide))) (by decide) (by decide)
      clear hnext ev
      generalize dlt1 i k-A k i=q1 at *
      generalize dlt1 i k=q2 at *
      generalize A k i=q3 at *
      refine AX.sR (rgWV [1,2,9,11,14,16,18,19,116] (aI @hmb (aI @hbk oT)) oT) ?_
      refine AX.condT ?_
      refine AX.rD (rgDEV [1,2,9,11,14,16,18,19] (aI @m1 (aI @a1 (aI @m2 (aI @a2 (aI @hl (aI @hg oT)))))) (aI cb oT) (aI ix oT)) ?_
      refine nmZ ?_
      rw [hset]
      refine AX.rR (rgWV [1,2,9,11,14,16,18,19] (aI @lit_add oT) oT) ?_
      refine nmZ ?_
      refine ⟨_,_,id,?_,
       (leQ8H hl7)
       , ⟨k+1,by omega,rfl,rfl⟩⟩
      omega
    ·obtain rfl:n=k:=by omega
     have n3:mcells n (eqV (metB n A v) A i n) Kn=mcells n (eqV (metB n A v) A (i+1) 0) Kn:=by
      rw [← hKn]
      refine mcells_congr fun a b ha hb=>?_
      unfold eqV eqA
      have e3:(a<i∨a=i∧b<n)=(a<i+1∨a=i+1∧b<0):=by
       apply propext
       constructor<;>intro h<;>omega
      simp only [e3]
     refine AX.sR (rgAV [1,2,9,11,14,16,18,19,110]) ?_
     refine AX.condF ?_
     refine AX.exit ?_
     refine nmZ ?_
     rw [n3]
     refine AX.rR (rgWV [1,2,9,11,14,16,18] (aI @lit_add oT) oT) ?_
     refine nmZ ?_
     refine ⟨_,_,id,?_,
      (leQ8H hl7)
      , ⟨i+1,by omega,rfl,rfl⟩⟩
     omega
  ·obtain rfl:n=i:=by omega
   have lA:=qV n 0
   have lB:=qW n
   refine AX.sR (rgAV [1,2,9,11,14,16,18,92]) ?_
   refine AX.condF ?_
   refine AX.exit ?_
   refine nmZ ?_
   clear hmb hmg ixA ixv
   generalize mcells n (eqV (metB n A v) A n 0) Kn=xs at *
   generalize mcells 1 (eqW (metB n A v) v n) n=ys at *
   have f1:=flat_q xs
   have f2:=hf_q xs
   have f3:=flat_q ys
   have f4:=hf_q ys
   apply AX.sreg [20] (by simp only [pq];rfl)
   ·repeat (first
   |(apply RunO.op rfl;· rfl
     ·(simp only [opsOf,valsOf,valOf,lkp,ofConst,ofCell,Array.toList,Option.toList,List.map_cons,List.map_nil,List.cons_append,List.nil_append,List.append_nil,Nat.reduceEqDiff,Nat.reducePow,Nat.reduceLT,Nat.reduceLeDiff,reduceIte,if_true,if_false,IntKind.min,IntKind.max,IntKind.bits,IntKind.signed,Int.reduceLE,Int.reduceNeg,Int.reducePow,Int.reduceSub,and_self,Bool.false_eq_true,Nat.reduceSub];rfl)
     iterate 2 (· (simp (disch:=omega) only [go_sem,i64_of,u32_of,u64_of,Nat.reduceLT,Nat.reduceLeDiff,Nat.reduceEqDiff,Nat.reduceAdd,Nat.reduceSub,Nat.reduceMul,Nat.reducePow,Nat.reduceBEq,Int.reduceLE,Int.reduceLT,Int.reduceToNat,Int.reduceEq,Int.reduceNeg,↓reduceIte,reduceCtorEq,lA,tkA,ckA,f1,f2,lB,tkB,ckB,f3,f4,nleQ,List.not_mem_nil];rfl))
     ·(simp only [pb,Nat.reduceLT,Nat.reduceAdd,reduceIte];rfl))
   |(apply RunO.call rfl;· rfl
     ·(simp only [opsOf,valsOf,valOf,lkp,ofConst,ofCell,Array.toList,Option.toList,List.map_cons,List.map_nil,List.cons_append,List.nil_append,List.append_nil,Nat.reduceEqDiff,Nat.reducePow,Nat.reduceLT,Nat.reduceLeDiff,reduceIte,if_true,if_false,IntKind.min,IntKind.max,IntKind.bits,IntKind.signed,Int.reduceLE,Int.reduceNeg,Int.reducePow,Int.reduceSub,and_self,Bool.false_eq_true,Nat.reduceSub];rfl)
     ·(simp (disch:=omega) only [go_sem,i64_of,u32_of,u64_of,Nat.reduceLT,Nat.reduceLeDiff,Nat.reduceEqDiff,Nat.reduceAdd,Nat.reduceSub,Nat.reduceMul,Nat.reducePow,Nat.reduceBEq,Int.reduceLE,Int.reduceLT,Int.reduceToNat,Int.reduceEq,Int.reduceNeg,↓reduceIte,reduceCtorEq,lA,tkA,ckA,f1,f2,lB,tkB,ckB,f3,f4,nleQ,List.not_mem_nil];rfl)
     ·rfl
     ·(first | exact csv)
     ·(simp (disch:=omega) only [go_sem,i64_of,u32_of,u64_of,Nat.reduceLT,Nat.reduceLeDiff,Nat.reduceEqDiff,Nat.reduceAdd,Nat.reduceSub,Nat.reduceMul,Nat.reducePow,Nat.reduceBEq,Int.reduceLE,Int.reduceLT,Int.reduceToNat,Int.reduceEq,Int.reduceNeg,↓reduceIte,reduceCtorEq,lA,tkA,ckA,f1,f2,lB,tkB,ckB,f3,f4,nleQ,List.not_mem_nil];rfl)
     ·(simp only [pb,Nat.reduceLT,Nat.reduceAdd,reduceIte];rfl))
   |(apply RunO.skip;· rfl
     ·(simp only [pb,Nat.reduceLT,Nat.reduceAdd,reduceIte];rfl)))
    exact RunO.nil
   ·repeat (first | exact Keep.nil | (apply Keep.take;· rfl) | (apply Keep.drop;· rfl))
   refine AX.sR (rgAV [4,5]) ?_
   refine AX.ret ⟨.inl rfl,?_⟩
   exact dnQ8
theorem csteps_err (c:V)(e:Int)(R1 C1 R2 C2:Int)(x y sl:List V)(hc:c=.agg [.i .i64 R1,.i .i64 C1,.sl x,.i .i64 R2,.i .i64 C2,.sl y])(he:e≠0)(cv:PCall Tryz.prog 102 [c,.sl sl] (.tup [.sl [],.i .i64 e]) []):PCall Tryz.prog 57 [c,.sl sl] (.tup [zR,.i .i64 e]) []:=by
 subst hc
 refine PCall.of_ax Tryz.call57 Tryz.func57 rfl (by simp [Tryz.ntmps57]) fun O w=>?_
 simp only [Tryz.ntmps57,Tryz.results57,argFr]
 refine AX.sR (rgAV [1,2,4]) ?_
 refine AX.sR (rgCV [4,6,7] (aI cv oT)) ?_
 refine AX.seq ?_
 refine AX.sR (rgWV [4,6,7,15] (aI @he oT) oT) ?_
 refine AX.condT ?_
 refine AX.sR (rgAV [4,5]) ?_
 refine AX.ret ⟨.inl rfl,?_⟩
 exact dnQ8
theorem rsteps_err (c:V)(e:Int)(R1 C1 R2 C2:Int)(x y sl:List V)(hc:c=.agg [.i .i64 R1,.i .i64 C1,.sl x,.i .i64 R2,.i .i64 C2,.sl y])(he:e≠0)(cv:PCall Tryz.prog 103 [c,.sl sl] (.tup [.sl [],.i .i64 e]) []):PCall Tryz.prog 58 [c,.sl sl] (.tup [zR,.i .i64 e]) []:=by
 subst hc
 refine PCall.of_ax Tryz.call58 Tryz.func58 rfl (by simp [Tryz.ntmps58]) fun O w=>?_
 simp only [Tryz.ntmps58,Tryz.results58,argFr]
 refine AX.sR (rgAV [1,2,4]) ?_
 refine AX.sR (rgCV [4,6,7] (aI cv oT)) ?_
 refine AX.seq ?_
 refine AX.sR (rgWV [4,6,7,15] (aI @he oT) oT) ?_
 refine AX.condT ?_
 refine AX.sR (rgAV [4,5]) ?_
 refine AX.ret ⟨.inl rfl,?_⟩
 exact dnQ8
theorem rvisits_zero {n m:Nat} {A B:Mx} {v:Nat→Rat} (h:Small n m A B v)(h0:neverQ n m A B v≠0):PCall Tryz.prog 103 [cV n m A B,.sl ((vl n v).map rV)] (.tup [.sl [],.i .i64 31]) []:=by
 have ce:=h.rends
 have c0:PCall Tryz.prog 34 [.agg [.b (decide ((neverQ n m A B v).num<0)),dg (digits (neverQ n m A B v).num.natAbs),dg (digits (neverQ n m A B v).den)]] (.i .i64 (sgnR (neverQ n m A B v))) []:=psign_ok (IsQ.of h.neverL) (by decide)
 have hne:sgnR (neverQ n m A B v)≠0:=fun e=>h0 (sgnR_eq_zero.1 e)
 refine PCall.of_ax Tryz.call103 Tryz.func103 rfl (by simp [Tryz.ntmps103]) fun O w=>?_
 simp only [Tryz.ntmps103,Tryz.results103,argFr]
 unfold cV at *
 generalize (mcells n A (n*n)).map rV=Ac at *
 generalize (mcells m B (n*m)).map rV=Bc at *
 generalize (vl m (thr n v (eachM n m A B))).map rV=Ec at *
 generalize (vl n v).map rV=Vc at *
 generalize neverQ n m A B v=q at *
 refine AX.sR (rgAV [1,2]) ?_
 refine AX.sR (rgCV [1,2,7,8] (aI ce oT)) ?_
 refine AX.seq ?_
 refine AX.block ?_
 refine AX.sR (rgAV [1,2,7,8,29]) ?_
 refine AX.condF ?_
 refine AX.sR (rgWV [1,2,33] (aI @hne oT) (aI c0 oT)) ?_
 refine AX.condT ?_
 refine AX.sR (rgAV [4,5]) ?_
 refine AX.ret ⟨.inl rfl,?_⟩
 exact dnQ8
theorem Small.csteps {n m:Nat} {A B:Mx} {v:Nat→Rat} (h:Small n m A B v)(h0:neverQ n m A B v=0):PCall Tryz.prog 57 [cV n m A B,.sl ((vl n v).map rV)] (.tup [rV (sumN n (visV n m A B v)),.i .i64 0]) []:=
 steps_ok' n m 38 100000 (by have:=h.hn;omega) (by have:=h.hm;omega) A B h.hC h.hA h.hB (by decide) (bigL8 h.hn) (by decide) v h.hv (fun i hi=>Nat.le_trans (h.hvL i hi) (by decide)) h.hX (by decide) (by decide) (by
  have:=h.hn
  have:=h.hm
  have h1:(n+m+1)*(60*(2*100000+1)+1+1)≤14*(60*(2*100000+1)+1+1):=Nat.mul_le_mul_right _ (by omega)
  omega) h0 h.visL
theorem Small.rsteps {n m:Nat} {A B:Mx} {v:Nat→Rat} (h:Small n m A B v)(h0:neverQ n m A B v=0):PCall Tryz.prog 58 [cV n m A B,.sl ((vl n v).map rV)] (.tup [rV (sumN n (visV n m A B v)),.i .i64 0]) []:=by
 have cv:=h.rvisits h0 _ h.isVis
 have hn:=h.hn
 have cs:=pvsum h.visL (by decide) (by
  have h3:n*(100000+1)≤8*(100000+1):=Nat.mul_le_mul_right _ hn
  omega)
 refine PCall.of_ax Tryz.call58 Tryz.func58 rfl (by simp [Tryz.ntmps58]) fun O w0=>?_
 simp only [Tryz.ntmps58,Tryz.results58,argFr]
 clear h
 generalize sumN n (visV n m A B v)=q at *
 unfold cV at *
 generalize (mcells n A (n*n)).map rV=Ac at *
 generalize (mcells m B (n*m)).map rV=Bc at *
 generalize (vl n (visV n m A B v)).map rV=wc at *
 generalize (vl n v).map rV=vs at *
 refine AX.sR (rgAV [1,2,4]) ?_
 refine AX.sR (rgCV [4,6,7] (aI cv oT)) ?_
 refine AX.seq ?_
 refine AX.sR (rgAV [4,6,7,15]) ?_
 refine AX.condF ?_
 refine AX.keepA [4,6] ?_
 refine AX.skip ?_
 refine nmZ ?_
 refine AX.sR (rgCV [4,5] (aI cs oT)) ?_
 refine AX.ret ⟨.inl rfl,?_⟩
 exact Done.cellE rfl rfl rfl
end Go.Proofs.YteidabibgjokkaaGreatDoor
