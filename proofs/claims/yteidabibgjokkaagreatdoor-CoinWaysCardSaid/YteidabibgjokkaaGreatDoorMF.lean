import Derived.Test.YteidabibgjokkaaGreatDoorME
set_option maxRecDepth 20000
set_option linter.all false
namespace Go.Proofs.YteidabibgjokkaaGreatDoor
open Go Go.Proofs.YteidabibgjokkaaGreatDoor.Lift
attribute [local irreducible] Lift.PCall Lift.HCall
structure Prm (n:Nat) (s r:Nat→Nat):Prop where
 lt:∀ i,i<n→s i<n
 lt':∀ i,i<n→r i<n
 sr:∀ i,i<n→s (r i)=i
 rs:∀ i,i<n→r (s i)=i
theorem sumN_prm {n:Nat} {s r:Nat→Nat} (h:Prm n s r)(f:Nat→Rat):(sumN n fun i=>f (s i))=sumN n f:=by
 have e1:(sumN n fun i=>f (s i))=sumN n fun i=>sumN n fun k=>if k=s i then f k else 0:=sumN_congr fun i hi=>by
  rw [sumN_single (k:=s i) (h.lt i hi) fun k _ hk=>if_neg hk,if_pos rfl]
 rw [e1,sumN_swap]
 refine sumN_congr fun k hk=>?_
 rw [sumN_single (k:=r k) (h.lt' k hk) fun i hi hne=>if_neg fun e=>hne (by rw [e,h.rs i hi]),if_pos (h.sr k hk).symm]
structure Trn (n m:Nat) (A B A' B':Mx) (s r:Nat→Nat):Prop where
 p:Prm n s r
 hA:∀ i k,i<n→k<n→A' (s i) (s k)=A i k
 hB:∀ i j,i<n→j<m→B' (s i) j=B i j
theorem Trn.rch {n m:Nat} {A B A' B':Mx} {s r:Nat→Nat} (h:Trn n m A B A' B' s r) {i:Nat} (hr:(chn n m A B).Rch i):(chn n m A' B').Rch (s i):=by
 induction hr with
 | exit hi hj he=>
  refine .exit (h.p.lt _ hi) hj ?_
  show 0<B' _ _
  rw [h.hB _ _ hi hj]
  exact he
 | move hi hk he _ ih=>
  refine .move (h.p.lt _ hi) (h.p.lt _ hk) ?_ ih
  show 0<A' _ _
  rw [h.hA _ _ hi hk]
  exact he
theorem Trn.inv {n m:Nat} {A B A' B':Mx} {s r:Nat→Nat} (h:Trn n m A B A' B' s r):Trn n m A' B' A B r s:=
 ⟨⟨h.p.lt',h.p.lt,h.p.rs,h.p.sr⟩,fun i k hi hk=>by
  have:=h.hA (r i) (r k) (h.p.lt' i hi) (h.p.lt' k hk)
  rw [h.p.sr i hi,h.p.sr k hk] at this
  exact this.symm,fun i j hi hj=>by
  have:=h.hB (r i) j (h.p.lt' i hi) hj
  rw [h.p.sr i hi] at this
  exact this.symm⟩
theorem Trn.rch_iff {n m:Nat} {A B A' B':Mx} {s r:Nat→Nat} (h:Trn n m A B A' B' s r) {i:Nat} (hi:i<n):(chn n m A' B').Rch (s i)↔(chn n m A B).Rch i:=by
 constructor
 ·intro hr
  have:=h.inv.rch hr
  rwa [h.p.rs i hi] at this
 ·exact h.rch
theorem Trn.each {n m:Nat} {A B A' B':Mx} {s r:Nat→Nat} (h:Trn n m A B A' B' s r)(hc:(chn n m A B).Ok) {X X':Mx} (hX:(chn n m A B).IsEach X)(hX':(chn n m A' B').IsEach X'):∀ i j,i<n→j<m→X' (s i) j=X i j:=by
 have hY:(chn n m A B).IsEach fun i j=>X' (s i) j:=by
  refine ⟨fun i j hi hj hr=>hX'.z (s i) j (h.p.lt i hi) hj fun h2=>hr ((h.rch_iff hi).1 h2),fun i j hi hj hr=>?_⟩
  have hi:i<n:=hi
  have hj:j<m:=hj
  have e:=hX'.eq (s i) j (h.p.lt i hi) hj (h.rch hr)
  have e:X' (s i) j=(sumN n fun k=>A' (s i) k*X' k j)+B' (s i) j:=e
  rw [← sumN_prm h.p,h.hB i j hi hj] at e
  show X' (s i) j=(sumN n fun k=>A i k*X' (s k) j)+B i j
  rw [e]
  congr 1
  exact sumN_congr fun k hk=>by rw [h.hA i k hi hk]
 exact fun i j hi hj=>hY.unique hc hX i j hi hj
theorem Trn.vis {n m:Nat} {A B A' B':Mx} {s r:Nat→Nat} (h:Trn n m A B A' B' s r)(hc:(chn n m A B).Ok) {v v' x x':Nat→Rat} (hv:∀ i,i<n→v' (s i)=v i)(hX:(chn n m A B).IsVis v x)(hX':(chn n m A' B').IsVis v' x'):∀ i,i<n→x' (s i)=x i:=by
 have hY:(chn n m A B).IsVis v fun i=>x' (s i):=by
  refine ⟨fun i hi hr=>hX'.z (s i) (h.p.lt i hi) fun h2=>hr ((h.rch_iff hi).1 h2),fun i hi hr=>?_⟩
  have hi:i<n:=hi
  have e:=hX'.eq (s i) (h.p.lt i hi) (h.rch hr)
  have e:x' (s i)=v' (s i)+sumN n fun k=>x' k*A' k (s i):=e
  rw [← sumN_prm h.p,hv i hi] at e
  show x' (s i)=v i+sumN n fun k=>x' (s k)*A k i
  rw [e]
  congr 1
  exact sumN_congr fun k hk=>by rw [h.hA k i hk hi]
 exact fun i hi=>hY.unique hc hX i hi
def trn (n t:Nat) (i:Nat):Nat:=if 0<i then 1+(i-1+t) % (n-1) else 0
theorem trn_lt {n t i:Nat} (hn:2≤n):trn n t i<n:=by
 unfold trn
 split
 ·have:=Nat.mod_lt (i-1+t) (show 0<n-1 by omega)
  omega
 ·omega
theorem trn_trn {n t i:Nat} (hn:2≤n)(hi:i<n)(u:Nat)(htu:t+u=n-1):trn n u (trn n t i)=i:=by
 unfold trn
 by_cases h:0<i
 ·rw [if_pos h,if_pos (by omega)]
  have e:1+(i-1+t) % (n-1)-1+u=(i-1+t) % (n-1)+u:=by omega
  rw [e,Nat.mod_add_mod,show i-1+t+u=i-1+(n-1) by omega,Nat.add_mod_right,Nat.mod_eq_of_lt (by omega)]
  omega
 ·rw [if_neg h,if_neg (by omega)]
  omega
theorem trn_prm {n t:Nat} (hn:2≤n)(ht:t≤n-1):Prm n (trn n t) (trn n (n-1-t)):=
 ⟨fun i _=>trn_lt hn,fun i _=>trn_lt hn,fun i hi=>trn_trn hn hi t (by omega),fun i hi=>trn_trn hn hi (n-1-t) (by omega)⟩
def trv (n t:Nat) (v:Int):Int:=if 0<v then ((trn n t v.toNat:Nat):Int) else v
theorem trv_nat (n t k:Nat):trv n t (k:Int)=((trn n t k:Nat):Int):=by
 unfold trv
 split
 ·rw [Int.toNat_natCast]
 ·have:k=0:=by omega
  subst this
  rfl
theorem trv_neg {n t:Nat} {v:Int} (h:v<0):trv n t v=v:=if_neg (by omega)
structure Turned (T S:T2) (n t:Nat):Prop where
 hT:T.length=n
 hS:S.length=n
 eq:∀ i,i<n→S.getD (trn n t i) z2=(trv n t (T.getD i z2).1,trv n t (T.getD i z2).2)
theorem hit_trn {n t k:Nat} {v:Int} (hn:2≤n)(ht:t≤n-1)(hk:k<n)(hv:v<n):hit (trv n t v) (wM (trn n t k))=hit v (wM k):=by
 unfold hit wM
 by_cases h:v<0
 ·rw [trv_neg h,if_neg (by omega),if_neg (by omega)]
 ·obtain ⟨j,rfl⟩:∃ j:Nat,v=j:=⟨v.toNat,by omega⟩
  rw [trv_nat]
  by_cases e:j=k
  ·rw [e,if_pos rfl,if_pos rfl]
  ·have p:=trn_prm hn ht
   have hne:trn n t j≠trn n t k:=fun h3=>by
    have:=p.rs j (by omega)
    rw [h3,p.rs k hk] at this
    exact e this.symm
   rw [if_neg (by omega),if_neg (by omega)]
theorem hit_trE {n t k:Nat} {v:Int}:hit (trv n t v) (wE k)=hit v (wE k):=by
 unfold hit wE
 by_cases h:v<0
 ·rw [trv_neg h]
 ·obtain ⟨j,rfl⟩:∃ j:Nat,v=j:=⟨v.toNat,by omega⟩
  rw [trv_nat,if_neg (by omega),if_neg (by omega)]
theorem Turned.trn {T S:T2} {n t m:Nat} (h:Turned T S n t)(hn:2≤n)(ht:t≤n-1)(hr:∀ x ∈ T,(-64≤x.1∧x.1<T.length)∧-64≤x.2∧x.2<T.length):Trn n m (chA T) (chB T) (chA S) (chB S) (trn n t) (trn n (n-1-t)):=by
 refine ⟨trn_prm hn ht,fun i k hi hk=>?_,fun i j hi hj=>?_⟩
 ·have hx:=hr _ (getD_mem_T (show i<T.length by rw [h.hT];exact hi))
  rw [h.hT] at hx
  show ((cnt S wM S.length 0 _ _:Nat):Rat) / 2=((cnt T wM T.length 0 _ _:Nat):Rat) / 2
  rw [cnt_full (by rw [h.hS];exact trn_lt hn),cnt_full (by rw [h.hT];exact hi),h.eq i hi]
  show ((hit (trv n t _) _+hit (trv n t _) _:Nat):Rat) / 2=_
  rw [hit_trn hn ht hk hx.1.2,hit_trn hn ht hk hx.2.2]
 ·show ((cnt S wE S.length 0 _ _:Nat):Rat) / 2=((cnt T wE T.length 0 _ _:Nat):Rat) / 2
  rw [cnt_full (by rw [h.hS];exact trn_lt hn),cnt_full (by rw [h.hT];exact hi),h.eq i hi]
  show ((hit (trv n t _) _+hit (trv n t _) _:Nat):Rat) / 2=_
  rw [hit_trE,hit_trE]
theorem Turned.right {T S:T2} {n t:Nat} (h:Turned T S n t)(hn:2≤n)(ht:t≤n-1)(hS:isS T=true):isS S=true:=by
 obtain ⟨h1,h2,h3⟩:=isS_iff.1 hS
 refine isS_iff.2 ⟨by rw [h.hS];omega,by rw [h.hS,← h.hT];exact h2,fun x hx=>?_⟩
 obtain ⟨k,hk,rfl⟩:=List.mem_iff_getElem.1 hx
 have hk':k<n:=by rw [← h.hS];exact hk
 have p:=trn_prm hn ht
 have e:=h.eq _ (p.lt' k hk')
 rw [p.sr k hk'] at e
 have e2:S.getD k z2=S[k]:=by rw [List.getD_eq_getElem?_getD,List.getElem?_eq_getElem hk];rfl
 rw [← e2,e,h.hS]
 have hy:=h3 _ (getD_mem_T (show _<T.length by rw [h.hT];exact p.lt' k hk'))
 rw [h.hT] at hy
 have key:∀ v:Int,-64≤v∧v<n→-64≤trv n t v∧trv n t v<n:=fun v hv=>by
  by_cases hv0:v<0
  ·rw [trv_neg hv0];omega
  ·obtain ⟨j,rfl⟩:∃ j:Nat,v=j:=⟨v.toNat,by omega⟩
   rw [trv_nat]
   have:=trn_lt (t:=t) (i:=j) hn
   omega
 exact ⟨key _ hy.1,key _ hy.2⟩
theorem exI_top {T:T2}:∀ i,i≤T.length→exI T i=0∨∃ a,a<i∧(exI T i=-(T.getD a z2).1∨exI T i=-(T.getD a z2).2)
 | 0,_=>.inl rfl
 | i+1,h=>by
  have ih:=exI_top (T:=T) i (by omega)
  rw [exI]
  unfold mx3
  by_cases h1:-(T.getD i z2).2 > (if -(T.getD i z2).1 > exI T i then -(T.getD i z2).1 else exI T i)
  ·rw [if_pos h1]
   exact .inr ⟨i,by omega,.inr rfl⟩
  ·rw [if_neg h1]
   by_cases h2:-(T.getD i z2).1 > exI T i
   ·rw [if_pos h2]
    exact .inr ⟨i,by omega,.inl rfl⟩
   ·rw [if_neg h2]
    rcases ih with e | ⟨a,ha,e⟩
    ·exact .inl e
    ·exact .inr ⟨a,by omega,e⟩
theorem exI_nonneg (T:T2):∀ i,0≤exI T i
 | 0=>Int.le_refl _
 | i+1=>by
  have ih:=exI_nonneg T i
  rw [exI]
  exact Int.le_trans ih mx3_le.1
theorem exI_le_of {T S:T2} (h:∀ a,a<T.length→∃ b,b<S.length∧(0 < -(T.getD a z2).1→(-(T.getD a z2).1=-(S.getD b z2).1))∧(0 < -(T.getD a z2).2→(-(T.getD a z2).2=-(S.getD b z2).2))):exI T T.length≤exI S S.length:=by
 rcases exI_top (T:=T) T.length (Nat.le_refl _) with e | ⟨a,ha,e⟩
 ·rw [e];exact exI_nonneg S _
 ·obtain ⟨b,hb,h1,h2⟩:=h a ha
  have hg:=exI_ge S S.length b hb
  rcases e with e | e
  ·by_cases hp:0 < -(T.getD a z2).1
   ·rw [e,h1 hp];exact hg.1
   ·have:=exI_nonneg S S.length;omega
  ·by_cases hp:0 < -(T.getD a z2).2
   ·rw [e,h2 hp];exact hg.2
   ·have:=exI_nonneg S S.length;omega
theorem Turned.ex {T S:T2} {n t:Nat} (h:Turned T S n t)(hn:2≤n)(ht:t≤n-1):exI S S.length=exI T T.length:=by
 have p:=trn_prm hn ht
 have k1:∀ v:Int,0 < -v→trv n t v=v:=fun v hv=>trv_neg (by omega)
 have k2:∀ v:Int,0 < -(trv n t v)→trv n t v=v:=fun v hv=>by
  by_cases hv0:v<0
  ·exact trv_neg hv0
  ·obtain ⟨j,rfl⟩:∃ j:Nat,v=j:=⟨v.toNat,by omega⟩
   rw [trv_nat] at hv
   omega
 apply Int.le_antisymm
 ·refine exI_le_of fun b hb=>?_
  have hb:b<n:=by rw [← h.hS];exact hb
  refine ⟨Go.Proofs.YteidabibgjokkaaGreatDoor.trn n (n-1-t) b,by rw [h.hT];exact p.lt' b hb,?_⟩
  have e:=h.eq _ (p.lt' b hb)
  rw [p.sr b hb] at e
  rw [e]
  exact ⟨fun hp=>by rw [k2 _ hp],fun hp=>by rw [k2 _ hp]⟩
 ·refine exI_le_of fun a ha=>?_
  have ha:a<n:=by rw [← h.hT];exact ha
  refine ⟨_,by rw [h.hS];exact p.lt a ha,?_⟩
  rw [h.eq a ha]
  exact ⟨fun hp=>by rw [show trv n t (T.getD a z2).1=(T.getD a z2).1 from k1 _ hp],fun hp=>by rw [show trv n t (T.getD a z2).2=(T.getD a z2).2 from k1 _ hp]⟩
theorem and255 (a:Int):∃ r:Nat,r≤255∧andI .i64 a 255=(r:Int):=by
 refine ⟨(BitVec.ofInt 64 a &&& BitVec.ofInt 64 255).toNat,?_,rfl⟩
 rw [BitVec.toNat_and]
 exact Nat.and_le_right
theorem turned_thr {T S:T2} {n m t:Nat} (h:Turned T S n t) (hn:2≤n) (ht:t≤n-1) (hr:∀ x ∈ T,(-64≤x.1∧x.1<T.length)∧-64≤x.2∧x.2<T.length) (s1:Sm9 n m (chA T) (chB T) e1) (s2:Sm9 n m (chA S) (chB S) e1) :
  vl m (thr n e1 (eachM n m (chA S) (chB S)))=vl m (thr n e1 (eachM n m (chA T) (chB T)))∧neverQ n m (chA S) (chB S) e1=neverQ n m (chA T) (chB T) e1∧sumN n (visV n m (chA S) (chB S) e1)=sumN n (visV n m (chA T) (chB T) e1):=by
 have tr:=h.trn (m:=m) hn ht hr
 have hE:=tr.each (isC_ok s1.hC) s1.is s2.is
 have he:∀ i,i<n→e1 (trn n t i)=e1 i:=fun i _=>by
  unfold e1 trn
  by_cases h0:0<i
  ·rw [if_pos h0,if_neg (by omega),if_neg (by omega)]
  ·rw [if_neg h0,if_pos rfl,if_pos (by omega)]
 have hth:∀ j,j<m→thr n e1 (eachM n m (chA S) (chB S)) j=thr n e1 (eachM n m (chA T) (chB T)) j:=fun j hj=>by
  show (sumN n fun i=>e1 i*eachM n m (chA S) (chB S) i j)=sumN n fun i=>e1 i*eachM n m (chA T) (chB T) i j
  rw [← sumN_prm tr.p]
  exact sumN_congr fun i hi=>by rw [he i hi,hE i j hi hj]
 have hv:vl m (thr n e1 (eachM n m (chA S) (chB S)))=vl m (thr n e1 (eachM n m (chA T) (chB T))):=by
  unfold vl
  exact List.map_congr_left fun j hj=>hth j (by simpa using hj)
 refine ⟨hv,?_,?_⟩
 ·unfold neverQ
  rw [sumN_congr hth]
 ·have hV:=tr.vis (isC_ok s1.hC) he s1.isVis s2.isVis
  rw [← sumN_prm tr.p]
  exact sumN_congr fun i hi=>hV i hi
theorem ways_agree {T S:T2} {n t:Nat} (h:Turned T S n t)(hn:2≤n)(h9:n≤9)(ht:t≤n-1)(hS:isS T=true):∃ (g i:Int) (d:List Rat) (s1 s2:Bool) (x1 y1 x2 y2:List Nat),
  PCall Tryz.prog 21 [smp T] (.tup [.sl (d.map rV),rR s1 x1 y1,.i .i64 g]) []∧PCall Tryz.prog 21 [smp S] (.tup [.sl (d.map rV),rR s1 x1 y1,.i .i64 g]) [] ∧
  PCall Tryz.prog 23 [smp T] (.tup [rR s2 x2 y2,.i .i64 i]) []∧PCall Tryz.prog 23 [smp S] (.tup [rR s2 x2 y2,.i .i64 i]) [] ∧
  PCall Tryz.prog 26 [.sl (d.map rV),.sl (d.map rV)] (.b true) []∧PCall Tryz.prog 27 [rR s1 x1 y1,rR s1 x1 y1] (.b true) []∧PCall Tryz.prog 27 [rR s2 x2 y2,rR s2 x2 y2] (.b true) []:=by
 have hS':=h.right hn ht hS
 have hr:=(isS_iff.1 hS).2.2
 have hex:=h.ex hn ht
 by_cases hm60:60<exI T T.length
 ·have c1:=cchain_limit T hS hm60
  have c2:=cchain_limit S hS' (by rw [hex];exact hm60)
  exact ⟨2,2,[],false,false,[],[],[],[],cspread_bad (by decide) c1,cspread_bad (by decide) c2,cmean_bad (by decide) c1,cmean_bad (by decide) c2,same29_nil,psame_z,psame_z⟩
 ·have hm60':¬ 60<exI S S.length:=by rw [hex];exact hm60
  obtain ⟨m,hmx⟩:∃ m,exT T=m:=⟨_,rfl⟩
  have hmx':exT S=m:=by rw [← hmx];unfold exT;rw [hex]
  have q1:=sm9_of hS (by rw [h.hT];exact h9) hm60 hmx
  have q2:=sm9_of hS' (by rw [h.hS];exact h9) hm60' hmx'
  have c1:=cchain_walk T hS hm60
  have c2:=cchain_walk S hS' hm60'
  rw [hmx] at c1
  rw [hmx'] at c2
  rw [h.hT] at q1 c1
  rw [h.hS] at q2 c2
  obtain ⟨e1',e2,e3⟩:=turned_thr h hn ht hr q1 q2
  have k1:=cstart_ok n (by omega) (by omega)
  have p1:=cspread_ok h.hT c1 k1 q1.ends
  have p2:=cspread_ok h.hS c2 k1 q2.ends
  rw [e1',e2] at p2
  have hm:=q1.hm
  have hq:∀ q ∈ vl m (thr n e1 (eachM n m (chA T) (chB T))),rL q≤2000000:=vl_mem q1.endL
  have sm:=same29_ok _ _ 2000000 hq hq (by decide) (by decide) (by rw [vl_length];omega) (by rw [vl_length];omega)
  rw [decide_eq_true rfl] at sm
  have s1:=psame_q q1.neverL (by decide) (by decide)
  by_cases h0:neverQ n m (chA T) (chB T) e1=0
  ·have m1:=cmean_any h.hT c1 k1 (q1.csteps h0)
   have st:=q2.csteps (e2.trans h0)
   rw [e3] at st
   have m2:=cmean_any h.hS c2 k1 st
   have hs:=sumN_len q1.visL n (Nat.le_refl _)
   have h3:n*(100000+1)≤9*(100000+1):=Nat.mul_le_mul_right _ h9
   exact ⟨0,0,_,_,_,_,_,_,_,p1,p2,m1,m2,sm,s1,psame_q (L:=2000000) (by omega) (by decide) (by decide)⟩
  ·have v1:=q1.visits
   have v2:=q2.visits
   rw [if_neg h0] at v1
   rw [if_neg (by rw [e2];exact h0)] at v2
   have m1:=cmean_any (s:=false) (x:=[]) (y:=[]) h.hT c1 k1 (csteps_err _ 31 n n n m _ _ _ rfl (by decide) v1)
   have m2:=cmean_any (s:=false) (x:=[]) (y:=[]) h.hS c2 k1 (csteps_err _ 31 n n n m _ _ _ rfl (by decide) v2)
   exact ⟨0,31,_,_,false,_,_,[],[],p1,p2,m1,m2,sm,s1,psame_z⟩
theorem fl_set:∀ (S:T2) (k:Nat) (a b:Int),k<S.length→((wl (fl S)).set (k*2) (.i .i64 a)).set (k*2+1) (.i .i64 b)=wl (fl (S.set k (a,b)))
 | x :: S,0,a,b,_=>rfl
 | x :: S,k+1,a,b,h=>by
  have ih:=fl_set S k a b (by simpa using h)
  have e:wl (fl (x :: S))=.i .i64 x.1 :: .i .i64 x.2 :: wl (fl S):=rfl
  rw [e,show (k+1)*2=k*2+1+1 by omega]
  simp only [List.set_cons_succ]
  rw [ih]
  rfl
theorem fl_zero:∀ n:Nat,zerosV n [.i .i64 0,.i .i64 0]=wl (fl (List.replicate n ((0,0):Int × Int)))
 | 0=>rfl
 | n+1=>by
  rw [zerosV_succ,fl_zero n,List.replicate_succ]
  rfl
theorem trv_pos {n t:Nat} (hn:2≤n)(ht:t≤n-1) {p:Int} (h0:0<p)(hp:p<n):∃ r:Nat,r<n∧Int.tmod (p-1+(t:Int)) ((n-1:Nat):Int)=(r:Int)∧1+(r:Int)=trv n t p:=by
 obtain ⟨v,rfl⟩:∃ v:Nat,p=v:=⟨p.toNat,by omega⟩
 have hm:=Nat.mod_lt (v-1+t) (show 0<n-1 by omega)
 refine ⟨(v-1+t) % (n-1),by omega,?_,?_⟩
 ·rw [show (v:Int)-1+(t:Int)=((v-1+t:Nat):Int) by omega]
  rfl
 ·rw [trv_nat]
  unfold trn
  rw [if_pos (by omega)]
  omega
set_option maxHeartbeats 16000000 in
theorem coinWays_ok (T:T2)(hb:bT T)(hl:T.length<2 ^ 62)(turn:Int)(hturn:-9223372036854775808≤turn∧turn≤9223372036854775807):PCall Tryz.prog 5 [smp T,.i .i64 turn] (.b true) []:=by
 have cf:=few29_ok T hl hb
 obtain ⟨hb',hl'⟩:=fewT_bd hb hl
 have hf:=fewT_is T
 generalize fewT T=T' at *
 have c0:=of29_ok (nx T')
 have c1:=right29_ok T' hl' hb'
 have hml:=nx_length T'
 have cal:=calive_ok
 refine PCall.of_ax Tryz.call5 Tryz.func5 rfl (by simp [Tryz.ntmps5]) fun O w=>?_
 simp only [Tryz.ntmps5,Tryz.results5,argFr]
 by_cases hg:isS T'=false∨T'.length<2
 ·cases hS:isS T'
  ·rw [hS] at c1
   unfold smp at *
   generalize nx T'=A' at *
   generalize nx T=A at *
   refine AX.sR (rgAV [1,2]) ?_
   refine AX.sR (rgCV [1,2] (aI cf oT)) ?_
   refine AX.sR (rgWV [1,2,5] (aI @hml oT) oT) ?_
   refine AX.seq ?_
   refine AX.sR (rgCV [1,2,5,33] (aI c0 (aI c1 oT))) ?_
   refine AX.condT ?_
   refine AX.sR (rgCV [4] (aI cal oT)) ?_
   refine AX.ret ⟨.inl rfl,?_⟩
   exact Done.one rfl rfl rfl rfl
  ·have h2:T'.length<2:=by
    rcases hg with h | h
    ·rw [hS] at h;cases h
    ·exact h
   rw [hS] at c1
   unfold smp at *
   generalize nx T'=A' at *
   generalize nx T=A at *
   refine AX.sR (rgAV [1,2]) ?_
   refine AX.sR (rgCV [1,2] (aI cf oT)) ?_
   refine AX.sR (rgWV [1,2,5] (aI @hml oT) oT) ?_
   refine AX.seq ?_
   refine AX.sR (rgCV [1,2,5,33] (aI c0 (aI c1 oT))) ?_
   refine AX.condT ?_
   refine AX.sR (rgCV [4] (aI cal oT)) ?_
   refine AX.ret ⟨.inl rfl,?_⟩
   exact Done.one rfl rfl rfl rfl
 have hS:isS T'=true:=by
  cases h:isS T'
  ·exact absurd (.inl h) hg
  ·rfl
 have h2:2≤T'.length:=Nat.le_of_not_lt fun h=>hg (.inr h)
 have h9:T'.length≤9:=by
  rcases hf with h | h
  ·rw [hS] at h;cases h
  ·exact h.2
 rw [hS] at c1
 obtain ⟨n,hn⟩:∃ n,T'.length=n:=⟨_,rfl⟩
 rw [hn] at hml h2 h9
 obtain ⟨r,hr255,hand⟩:=and255 turn
 obtain ⟨t,ht⟩:∃ t,1+r % (n-1)=t:=⟨_,rfl⟩
 have hmod:=Nat.mod_lt r (show 0<n-1 by omega)
 have htn:t≤n-1:=by omega
 have ht1:1≤t:=by omega
 have n1:(n:Int)-1=((n-1:Nat):Int):=by omega
 have hrem:Int.tmod (r:Int) ((n-1:Nat):Int)=((r % (n-1):Nat):Int):=rfl
 have ht':1+((r % (n-1):Nat):Int)=(t:Int):=by omega
 have hne:((n-1:Nat):Int)≠0:=by omega
 unfold smp at *
 refine AX.sR (rgAV [1,2]) ?_
 refine AX.sR (rgCV [1,2] (aI cf oT)) ?_
 refine AX.sR (rgWV [1,2,5] (aI @hml oT) oT) ?_
 refine AX.seq ?_
 refine AX.sR (rgCV [1,2,5,33] (aI c0 (aI c1 oT))) ?_
 refine AX.condF ?_
 refine AX.keepA [1,2,5] ?_
 refine AX.skip ?_
 refine nmZ ?_
 refine AX.sR (rgWV [1,2,5] (aI @hand (aI @n1 (aI @hrem (aI @ht' (aI @hne oT))))) oT) ?_
 refine AX.sR (rgAV [1,2,5,6]) ?_
 refine AX.sR (rgAV [1,2,5,6]) ?_
 refine AX.seq ?_
 refine AX.sR (rgWV [1,2,5,6,46,47] (aI @hml oT) oT) ?_
 refine AX.weaken id (st':=⟨[(47,.i .i64 (0:Nat)),(46,.i .i64 n),(6,.ptr 1 0),(5,.i .i64 n),(2,.ptr 0 0),(1,.i .i64 t)],[(2,⟨64,wl (fl (List.replicate n ((0,0):Int × Int)))⟩),(1,⟨25,[.own 2 0 n 2]⟩),(0,⟨25,[.sl (nx T')]⟩)],3⟩)
  (leQ7H fl_zero)
  ?_
 refine AX.block ?_
 refine AX.loop (fun N st=>∃ (i:Nat) (S:T2),i≤n∧N=n-i∧S.length=n∧(∀ a,a<i→S.getD (trn n t a) z2=(trv n t (T'.getD a z2).1,trv n t (T'.getD a z2).2))∧st=⟨[(47,.i .i64 i),(46,.i .i64 n),(6,.ptr 1 0),(5,.i .i64 n),(2,.ptr 0 0),(1,.i .i64 t)],[(2,⟨64,wl (fl S)⟩),(1,⟨25,[.own 2 0 n 2]⟩),(0,⟨25,[.sl (nx T')]⟩)],3⟩) n ⟨0,_,Nat.zero_le _,rfl,List.length_replicate,fun a ha=>absurd ha (Nat.not_lt_zero _),rfl⟩ ?_
 rintro N st ⟨i,S,hi,rfl,hSl,hSi,rfl⟩
 by_cases h3:i<n
 ·have hix:=fun x y=>effIx2 (x:=x) (y:=y) (els:=nx T') (j:=i) (by omega) (nx_get (by omega))
  have hrx:=(isS_iff.1 hS).2.2 _ (getD_mem_T (show i<T'.length by omega))
  rw [hn] at hrx
  obtain ⟨c,hc⟩:∃ c,trn n t i=c:=⟨_,rfl⟩
  have hcn:c<n:=hc ▸ trn_lt h2
  have p:=trn_prm h2 htn
  have hnext:∀ a,a<i+1→(S.set c (trv n t (T'.getD i z2).1,trv n t (T'.getD i z2).2)).getD (trn n t a) z2=(trv n t (T'.getD a z2).1,trv n t (T'.getD a z2).2):=fun a ha=>by
   by_cases e:a=i
   ·subst e
    rw [hc,List.getD_eq_getElem?_getD,List.getElem?_set_self (by omega)]
    rfl
   ·have hne:c≠trn n t a:=fun h=>e (by have:=p.rs a (by omega);rw [← h,← hc,p.rs i h3] at this;exact this.symm)
    rw [List.getD_eq_getElem?_getD,List.getElem?_set_ne hne,← List.getD_eq_getElem?_getD]
    exact hSi a (by omega)
  clear hSi p
  generalize T'.getD i z2=x at *
  obtain ⟨a,b⟩:=x
  dsimp only at hix hrx hnext
  generalize nx T'=A at *
  refine AX.sR (rgAV [1,2,5,6,46,47,48]) ?_
  refine AX.seq ?_
  refine AX.condT ?_
  refine AX.keepA [1,2,5,6,46,47] ?_
  refine AX.skip ?_
  refine nmZ ?_
  refine AX.seq ?_
  refine AX.block ?_
  refine AX.sR (rgAV [1,2,5,6,7,46,47]) ?_
  refine AX.sR (rgEV [1,2,5,6,7,8,46,47] oT oT (aI hix oT)) ?_
  refine AX.seq ?_
  refine AX.sR (rgAV [1,2,5,6,7,8,9,46,47]) ?_
  refine AX.weaken id (st':=⟨[(47,.i .i64 i),(46,.i .i64 n),(9,.i .i64 (0:Nat)),(8,.ptr 3 0),(7,.i .i64 i),(6,.ptr 1 0),(5,.i .i64 n),(2,.ptr 0 0),(1,.i .i64 t)],[(3,⟨64,[.i .i64 a,.i .i64 b]⟩),(2,⟨64,wl (fl S)⟩),(1,⟨25,[.own 2 0 n 2]⟩),(0,⟨25,[.sl (A)]⟩)],4⟩)
   leQ7
   ?_
  refine AX.block ?_
  refine AX.loop (fun N st=>∃ (j:Nat) (p q:Int),j≤2∧N=2-j∧((j=0∧p=a∧q=b)∨(j=1∧p=trv n t a∧q=b)∨(j=2∧p=trv n t a∧q=trv n t b))∧st=⟨[(47,.i .i64 i),(46,.i .i64 n),(9,.i .i64 j),(8,.ptr 3 0),(7,.i .i64 i),(6,.ptr 1 0),(5,.i .i64 n),(2,.ptr 0 0),(1,.i .i64 t)],[(3,⟨64,[.i .i64 p,.i .i64 q]⟩),(2,⟨64,wl (fl S)⟩),(1,⟨25,[.own 2 0 n 2]⟩),(0,⟨25,[.sl (A)]⟩)],4⟩) 2 ⟨0,a,b,Nat.zero_le _,rfl,.inl ⟨rfl,rfl,rfl⟩,rfl⟩ ?_
  rintro N st ⟨j,p,q,hj,rfl,hcs,rfl⟩
  rcases hcs with ⟨rfl,rfl,rfl⟩ | ⟨rfl,hp,rfl⟩ | ⟨rfl,hp,hq⟩
  ·clear hnext
   refine AX.seq ?_
   refine AX.sR (rgAV [1,2,5,6,7,8,9,46,47,56]) ?_
   refine AX.condT ?_
   refine AX.keepA [1,2,5,6,7,8,9,46,47] ?_
   refine AX.skip ?_
   refine nmZ ?_
   refine AX.seq ?_
   refine AX.block ?_
   by_cases h5:0<p
   ·obtain ⟨rr,hrr,e1,e2⟩:=trv_pos h2 htn h5 hrx.1.2
    have hrr':rr≤10:=by omega
    refine AX.sR (rgAV [1,2,5,6,7,8,9,46,47,62]) ?_
    refine AX.condT ?_
    refine AX.rR (rgWV [1,2,5,6,7,8,9,46,47] (aI @n1 (aI @e1 (aI @e2 (aI @hne oT)))) oT) ?_
    refine nmZ ?_
    refine AX.rR (rgWV [1,2,5,6,7,8,9,46,47] (aI @lit_add oT) oT) ?_
    refine nmZ ?_
    refine ⟨_,_,id,?_,
     leQ7
     , ⟨1,trv n t p,q,by omega,rfl,.inr (.inl ⟨rfl,rfl,rfl⟩),rfl⟩⟩
    omega
   ·have e:p=trv n t p:=(if_neg h5).symm
    refine AX.sR (rgAV [1,2,5,6,7,8,9,46,47,62]) ?_
    refine AX.condF ?_
    refine AX.keepA [1,2,5,6,7,8,9,46,47] ?_
    refine AX.skip ?_
    refine nmZ ?_
    refine AX.rR (rgWV [1,2,5,6,7,8,9,46,47] (aI @lit_add oT) oT) ?_
    refine nmZ ?_
    refine ⟨_,_,id,?_,
     leQ7
     , ⟨1,p,q,by omega,rfl,.inr (.inl ⟨rfl,e,rfl⟩),rfl⟩⟩
    omega
  ·clear hnext
   refine AX.seq ?_
   refine AX.sR (rgAV [1,2,5,6,7,8,9,46,47,56]) ?_
   refine AX.condT ?_
   refine AX.keepA [1,2,5,6,7,8,9,46,47] ?_
   refine AX.skip ?_
   refine nmZ ?_
   refine AX.seq ?_
   refine AX.block ?_
   by_cases h5:0<q
   ·obtain ⟨rr,hrr,e1,e2⟩:=trv_pos h2 htn h5 hrx.2.2
    have hrr':rr≤10:=by omega
    refine AX.sR (rgAV [1,2,5,6,7,8,9,46,47,62]) ?_
    refine AX.condT ?_
    refine AX.rR (rgWV [1,2,5,6,7,8,9,46,47] (aI @n1 (aI @e1 (aI @e2 (aI @hne oT)))) oT) ?_
    refine nmZ ?_
    refine AX.rR (rgWV [1,2,5,6,7,8,9,46,47] (aI @lit_add oT) oT) ?_
    refine nmZ ?_
    refine ⟨_,_,id,?_,
     leQ7
     , ⟨2,p,trv n t q,by omega,rfl,.inr (.inr ⟨rfl,hp,rfl⟩),rfl⟩⟩
    omega
   ·have e:q=trv n t q:=(if_neg h5).symm
    refine AX.sR (rgAV [1,2,5,6,7,8,9,46,47,62]) ?_
    refine AX.condF ?_
    refine AX.keepA [1,2,5,6,7,8,9,46,47] ?_
    refine AX.skip ?_
    refine nmZ ?_
    refine AX.rR (rgWV [1,2,5,6,7,8,9,46,47] (aI @lit_add oT) oT) ?_
    refine nmZ ?_
    refine ⟨_,_,id,?_,
     leQ7
     , ⟨2,p,q,by omega,rfl,.inr (.inr ⟨rfl,hp,e⟩),rfl⟩⟩
    omega
  ·have hwf:=wlfl_length S
   have hset:=fl_set S c p q (by omega)
   rw [hSl] at hwf
   rw [← hp,← hq] at hnext
   have hSl2:(S.set c (p,q)).length=n:=by rw [List.length_set,hSl]
   generalize S.set c (p,q)=S2 at *
   refine AX.seq ?_
   refine AX.sR (rgAV [1,2,5,6,7,8,9,46,47,56]) ?_
   refine AX.condF ?_
   refine AX.exit ?_
   refine nmZ ?_
   refine AX.sR (rgAV [1,2,5,6,7,8,10,46,47]) ?_
   refine AX.seq ?_
   by_cases h7:0<i
   ·obtain ⟨rr,hrr,e1,e2⟩:=trv_pos h2 htn (p:=(i:Int)) (by omega) (by omega)
    rw [trv_nat,hc] at e2
    have hrr':rr≤10:=by omega
    refine AX.sR (rgAV [1,2,5,6,7,8,10,46,47,76]) ?_
    refine AX.condT ?_
    refine AX.rR (rgWV [1,2,5,6,8,10,46,47] (aI @n1 (aI @e1 (aI @e2 (aI @hne oT)))) oT) ?_
    refine nmZ ?_
    refine AX.rR (rgWV [1,2,5,6,46,47] (aI @hwf (aI @tkS (aI @tk0 oT))) oT) ?_
    refine nmZ ?_
    rw [hset]
    refine AX.rR (rgWV [1,2,5,6,46,47] (aI @lit_add oT) oT) ?_
    refine nmZ ?_
    refine ⟨_,_,id,?_,
     leQ7
     , ⟨i+1,S2,by omega,rfl,hSl2,hnext,rfl⟩⟩
    omega
   ·have hc0:(0:Int)=(c:Int):=by
     have:i=0:=by omega
     subst this
     rw [← hc]
     rfl
    refine AX.sR (rgAV [1,2,5,6,7,8,10,46,47,76]) ?_
    refine AX.condF ?_
    refine AX.keepA [1,2,5,6,8,10,46,47] ?_
    refine AX.skip ?_
    refine nmZ ?_
    refine AX.weaken id (st':=⟨[(47,.i .i64 i),(46,.i .i64 n),(10,.i .i64 c),(8,.ptr 3 0),(6,.ptr 1 0),(5,.i .i64 n),(2,.ptr 0 0),(1,.i .i64 t)],[(3,⟨64,[.i .i64 p,.i .i64 q]⟩),(2,⟨64,wl (fl S)⟩),(1,⟨25,[.own 2 0 n 2]⟩),(0,⟨25,[.sl A]⟩)],4⟩)
     leQ7
     ?_
    refine AX.rR (rgWV [1,2,5,6,46,47] (aI @hwf (aI @tkS (aI @tk0 oT))) oT) ?_
    refine nmZ ?_
    rw [hset]
    refine AX.rR (rgWV [1,2,5,6,46,47] (aI @lit_add oT) oT) ?_
    refine nmZ ?_
    refine ⟨_,_,id,?_,
     leQ7
     , ⟨i+1,S2,by omega,rfl,hSl2,hnext,rfl⟩⟩
    omega
 obtain rfl:i=n:=by omega
 have hT:Turned T' S i t:=⟨hn,hSl,hSi⟩
 obtain ⟨g,i',d,s1,s2,x1,y1,x2,y2,k1,k2,k3,k4,k5,k6,k7⟩:=ways_agree hT h2 h9 htn hS
 have hfz:=(wl_hf (fl S))
 have hwf:=wlfl_length S
 have hch:=chunks2 S
 rw [hSl] at hwf hch
 refine AX.sR (rgAV [1,2,5,6,46,47,48]) ?_
 refine AX.seq ?_
 refine AX.condF ?_
 refine AX.exit ?_
 refine nmZ ?_
 refine AX.fz 2 (fr':=[(6,.ptr 1 0),(2,.ptr 0 0)]) (hp':=[(1,⟨25,[.sl (nx S)]⟩),(0,⟨25,[.sl (nx T')]⟩)]) rfl hfz.1 (.cons rfl .same (.cons rfl .same .nil)) (.cons (by decide) rfl rfl rfl (fun k hk=>?_) (.keep (by decide) rfl .nil)) ?_
 ·have:k=0:=by simpa using hk
  subst this
  have e1:List.take (i*2) (List.drop 0 (wl (fl S)))=wl (fl S):=by rw [List.drop_zero];exact List.take_of_length_le (by rw [hwf];exact Nat.le_refl _)
  refine .own ?_ (by rw [e1];exact hch)
  unfold okFrz
  rw [e1,hfz.1,hfz.2,hwf]
  simp
 unfold smp rR at *
 generalize d.map rV=D at *
 generalize nx T'=A' at *
 generalize nx S=B' at *
 refine AX.sR (rgCV [2,6,11,12,13] (aI k1 oT)) ?_
 refine AX.sR (rgCV [2,6,11,12,13,14,15,16] (aI k2 oT)) ?_
 refine AX.sR (rgCV [6,11,12,13,14,15,16,17,18] (aI k3 oT)) ?_
 refine AX.sR (rgCV [11,12,13,14,15,16,17,18,19,20] (aI k4 oT)) ?_
 refine AX.sR (rgCV [4] (aI k5 (aI k6 (aI k7 (aI cal oT))))) ?_
 refine AX.ret ⟨.inl rfl,?_⟩
 exact Done.one rfl rfl rfl rfl
end Go.Proofs.YteidabibgjokkaaGreatDoor
