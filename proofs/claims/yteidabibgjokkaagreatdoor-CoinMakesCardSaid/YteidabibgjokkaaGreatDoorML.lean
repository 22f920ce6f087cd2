import Derived.Test.YteidabibgjokkaaGreatDoorMC
set_option maxRecDepth 20000
set_option linter.all false
namespace Go.Proofs.YteidabibgjokkaaGreatDoor
open Go Go.Proofs.YteidabibgjokkaaGreatDoor.Lift
attribute [local irreducible] Lift.PCall Lift.HCall
def Rl (n:Int) (l:List Int):Nat→List Int
 | 0=>l
 | j+1=>nxtI n (Rl n l j) (Rl n l j).length
def ol (n:Int) (l:List Int) (j:Nat):List Int:=outI n (Rl n l j) (Rl n l j).length
def ml (n:Int) (l:List Int) (j:Nat):Nat:=(sumI (Rl n l j) / n).toNat
def bgL (n:Int) (l:List Int):Nat→Nat
 | 0=>0
 | j+1=>bgL n l j+ml n l j
def mLv (n:Int) (l:List Int) (j:Nat):Lv:=(List.range j).map fun i=>(Rl n l i,bgL n l i)
def tt (n:Int) (l:List Int) (i:Nat):Nat:=(lookL (Rl n l (i+1)) (mLv n l (i+1))).getD (bgL n l (i+1))
def Pl (n:Int) (l:List Int) (i:Nat):T2:=pairsI (endsI (ol n l i) (tt n l i:Nat) (ml n l (i+1))) (ml n l i)
def catT (P:Nat→T2):Nat→T2
 | 0=>[]
 | i+1=>catT P i++P i
def stopL (n:Int) (l:List Int) (j:Nat):Prop:=(lookL (Rl n l (j+1)) (mLv n l (j+1))).isSome=true∨ml n l (j+1)=0
theorem mLv_succ (n:Int)(l:List Int)(j:Nat):mLv n l (j+1)=mLv n l j++[(Rl n l j,bgL n l j)]:=by
 unfold mLv
 rw [List.range_succ,List.map_append]
 rfl
theorem lookL_none {R:List Int}:∀ {M:Lv},lookL R M=none↔∀ p ∈ M,R≠p.1
 | []=>by simp [lookL]
 | (a,v) :: M=>by
  unfold lookL
  by_cases h:R=a
  ·simp [h]
  ·rw [if_neg h,lookL_none]
   simp [h]
theorem lookL_uniq {R:List Int} {v:Nat}:∀ {M:Lv},(R,v) ∈ M→(∀ p ∈ M,R=p.1→p.2=v)→lookL R M=some v
 | [],h,_=>by cases h
 | (a,w) :: M,h,hu=>by
  unfold lookL
  by_cases e:R=a
  ·rw [if_pos e]
   exact congrArg some (hu (a,w) (by simp) e)
  ·rw [if_neg e]
   refine lookL_uniq ?_ fun p hp=>hu p (by simp [hp])
   rcases List.mem_cons.1 h with h | h
   ·injection h with h1 h2
    exact absurd h1 e
   ·exact h
theorem mem_mLv {n:Int} {l:List Int} {j:Nat} {p:List Int × Nat} (h:p ∈ mLv n l j):∃ i,i<j∧p=(Rl n l i,bgL n l i):=by
 obtain ⟨i,hi,rfl⟩:=List.mem_map.1 h
 exact ⟨i,List.mem_range.1 hi,rfl⟩
theorem mLv_mem {n:Int} {l:List Int} {i j:Nat} (h:i<j):(Rl n l i,bgL n l i) ∈ mLv n l j:=List.mem_map.2 ⟨i,List.mem_range.2 h,rfl⟩
structure Lvl (n:Int) (l:List Int):Prop where
 n2:2≤n
 n3:n≤64000
 L1:2≤l.length
 L2:l.length≤64
 is:∀ j,IsL n l.length (Rl n l j) (ml n l j)
 two:∀ j,(ol n l j).length+ml n l (j+1)=2*ml n l j
 one:ml n l 0=1
theorem lvl_of {l:List Int} (h:isO l=true):Lvl (sumI l) l:=by
 obtain ⟨hF,n2,n3⟩:=isL_first h
 obtain ⟨q1,q2,q3⟩:=isO_iff.1 h
 have h1:ml (sumI l) l 0=1:=by
  show (sumI l / sumI l).toNat=1
  rw [Int.ediv_self (by omega)]
  rfl
 have step:∀ j,IsL (sumI l) l.length (Rl (sumI l) l j) (ml (sumI l) l j)→(ol (sumI l) l j).length+ml (sumI l) l (j+1)=2*ml (sumI l) l j∧IsL (sumI l) l.length (Rl (sumI l) l (j+1)) (ml (sumI l) l (j+1)):=fun j hj=>by
  obtain ⟨k1,k2⟩:=hj.next (by omega)
  have k3:=(k2.div (by omega)).1
  have e:ml (sumI l) l (j+1)=2*ml (sumI l) l j-(ol (sumI l) l j).length:=by
   show (sumI (nxtI (sumI l) (Rl (sumI l) l j) (Rl (sumI l) l j).length) / sumI l).toNat=_
   rw [k3]
   rfl
  refine ⟨?_,?_⟩
  ·rw [e]
   have:(ol (sumI l) l j).length≤2*ml (sumI l) l j:=k1
   omega
  ·rw [e]
   exact k2
 have is:∀ j,IsL (sumI l) l.length (Rl (sumI l) l j) (ml (sumI l) l j):=fun j=>by
  induction j with
  | zero=>rw [h1];exact hF
  | succ j ih=>exact (step j ih).2
 exact ⟨n2,n3,q1,q2,is,fun j=>(step j (is j)).1,h1⟩
theorem Pl_length (n:Int)(l:List Int)(i:Nat):(Pl n l i).length=ml n l i:=pairsI_length ..
theorem cat_length (n:Int)(l:List Int):∀ j,(catT (Pl n l) j).length=bgL n l j
 | 0=>rfl
 | j+1=>by rw [catT,List.length_append,cat_length n l j,Pl_length];rfl
open Classical in
theorem mk_at {n:Int} {l:List Int} (h:Lvl n l)(k j:Nat):mkS n (k+1) (Rl n l j) (mLv n l j) (catT (Pl n l) j)=if 60<bgL n l (j+1) then some none else if stopL n l j then some (some (catT (Pl n l) (j+1))) else mkS n k (Rl n l (j+1)) (mLv n l (j+1)) (catT (Pl n l) (j+1)):=by
 have hm:=((h.is j).div (by have:=h.n2;omega)).1
 have htwo:=h.two j
 have hlen:=cat_length n l j
 have hlen1:=cat_length n l (j+1)
 have hq:lookL (nxtI n (Rl n l j) (Rl n l j).length) (mLv n l j++[(Rl n l j,(catT (Pl n l) j).length)])=lookL (Rl n l (j+1)) (mLv n l (j+1)):=by
  rw [hlen,mLv_succ]
  rfl
 rw [mkS_succ hm rfl rfl hq]
 have e1:2*ml n l j-(outI n (Rl n l j) (Rl n l j).length).length=ml n l (j+1):=by
  have:(outI n (Rl n l j) (Rl n l j).length).length=(ol n l j).length:=rfl
  omega
 have e2:catT (Pl n l) j++pairsI (endsI (outI n (Rl n l j) (Rl n l j).length) (((lookL (Rl n l (j+1)) (mLv n l (j+1))).getD ((catT (Pl n l) j).length+ml n l j):Nat):Int) (2*ml n l j-(outI n (Rl n l j) (Rl n l j).length).length)) (ml n l j)=catT (Pl n l) (j+1):=by
  rw [e1,hlen]
  rfl
 rw [e2,hlen1,e1,hlen,← mLv_succ]
 by_cases h6:60<bgL n l (j+1)
 ·rw [if_pos h6,if_pos h6]
 ·rw [if_neg h6,if_neg h6]
  by_cases hs:stopL n l j
  ·rw [if_pos hs,if_pos (show (lookL (Rl n l (j+1)) (mLv n l (j+1))).isSome=true∨ml n l (j+1)=0 from hs)]
  ·rw [if_neg hs,if_neg (show ¬ ((lookL (Rl n l (j+1)) (mLv n l (j+1))).isSome=true∨ml n l (j+1)=0) from hs)]
   rfl
def goes (n:Int) (l:List Int) (j:Nat):Prop:=∀ i,i<j→¬ stopL n l i∧bgL n l (i+1)≤60
theorem goes_ml {n:Int} {l:List Int} (h:Lvl n l) {j:Nat} (hg:goes n l j):∀ i,i≤j→1≤ml n l i
 | 0,_=>by rw [h.one];exact Nat.le_refl _
 | i+1,hi=>by
  have:=(hg i (by omega)).1
  unfold stopL at this
  omega
theorem goes_bg {n:Int} {l:List Int} (h:Lvl n l) {j:Nat} (hg:goes n l j):∀ i,i≤j+1→i≤bgL n l i
 | 0,_=>Nat.zero_le _
 | i+1,hi=>by
  have ih:=goes_bg h hg i (by omega)
  have:=goes_ml h hg i (by omega)
  rw [bgL]
  omega
theorem mk_run {n:Int} {l:List Int} (h:Lvl n l):∀ j k,j+k=61→goes n l j→mkS n 61 l [] []=mkS n k (Rl n l j) (mLv n l j) (catT (Pl n l) j)
 | 0,k,e,_=>by
  obtain rfl:k=61:=by omega
  rfl
 | j+1,k,e,hg=>by
  have hg':goes n l j:=fun i hi=>hg i (by omega)
  have hj:=hg j (Nat.lt_succ_self _)
  rw [mk_run h j (k+1) (by omega) hg',mk_at h,if_neg (by omega),if_neg hj.1]
theorem mk_stop {n:Int} {l:List Int} (h:Lvl n l) {j:Nat} (hg:goes n l j)(hb:bgL n l (j+1)≤60)(hs:stopL n l j):mkS n 61 l [] []=some (some (catT (Pl n l) (j+1))):=by
 have:=goes_bg h hg (j+1) (Nat.le_refl _)
 obtain ⟨k,hk⟩:∃ k,j+(k+1)=61:=⟨60-j,by omega⟩
 rw [mk_run h j (k+1) hk hg,mk_at h,if_neg (by omega),if_pos hs]
theorem mk_limit {n:Int} {l:List Int} (h:Lvl n l) {j:Nat} (hg:goes n l j)(hb:bgL n l (j+1)≤60)(hs:¬ stopL n l j)(hb2:60<bgL n l (j+2)):mkS n 61 l [] []=some none:=by
 have:=goes_bg h hg (j+1) (Nat.le_refl _)
 have hg2:goes n l (j+1):=fun i hi=>by
  by_cases e:i=j
  ·subst e;exact ⟨hs,hb⟩
  ·exact hg i (by omega)
 obtain ⟨k,hk⟩:∃ k,j+1+(k+1)=61:=⟨59-j,by omega⟩
 rw [mk_run h (j+1) (k+1) hk hg2,mk_at h,if_pos hb2]
theorem goes_ne {n:Int} {l:List Int} {j:Nat} (hg:goes n l j) {a b:Nat} (hab:a<b)(hb:b≤j):Rl n l a≠Rl n l b:=by
 obtain ⟨c,rfl⟩:∃ c,b=c+1:=⟨b-1,by omega⟩
 have hs:=(hg c (by omega)).1
 unfold stopL at hs
 have hn:lookL (Rl n l (c+1)) (mLv n l (c+1))=none:=by
  cases hq:lookL (Rl n l (c+1)) (mLv n l (c+1)) with
  | none=>rfl
  | some v=>exact absurd (.inl (by rw [hq];rfl)) hs
 exact fun e=>lookL_none.1 hn _ (mLv_mem hab) e.symm
theorem tt_next {n:Int} {l:List Int} {i:Nat} (hs:¬ stopL n l i):tt n l i=bgL n l (i+1):=by
 unfold tt
 cases hq:lookL (Rl n l (i+1)) (mLv n l (i+1)) with
 | none=>rfl
 | some v=>exact absurd (.inl (by rw [hq];rfl)) hs
theorem tt_back {n:Int} {l:List Int} {j v:Nat} (hg:goes n l j)(hv:v≤j)(e:Rl n l v=Rl n l (j+1)):tt n l j=bgL n l v:=by
 unfold tt
 rw [lookL_uniq (v:=bgL n l v) (e ▸ mLv_mem (by omega)) fun p hp hpe=>?_]
 ·rfl
 ·obtain ⟨i,hi,rfl⟩:=mem_mLv hp
  have h1:Rl n l v=Rl n l i:=e.trans hpe
  rcases Nat.lt_trichotomy v i with h | h | h
  ·exact absurd h1 (goes_ne hg h (by omega))
  ·rw [h]
  ·exact absurd h1.symm (goes_ne hg h hv)
theorem stop_back {n:Int} {l:List Int} {j v:Nat} (hv:v≤j)(e:Rl n l v=Rl n l (j+1)):stopL n l j:=by
 left
 cases hq:lookL (Rl n l (j+1)) (mLv n l (j+1)) with
 | some v=>rfl
 | none=>exact absurd e.symm (lookL_none.1 hq _ (mLv_mem (by omega)))
theorem not_stop {n:Int} {l:List Int} {j:Nat} (h:∀ v,v≤j→Rl n l v≠Rl n l (j+1))(hm:ml n l (j+1)≠0):¬ stopL n l j:=by
 rintro (h1 | h1)
 ·cases hq:lookL (Rl n l (j+1)) (mLv n l (j+1)) with
  | none=>rw [hq] at h1;cases h1
  | some v=>
   obtain ⟨i,hi,e⟩:=mem_mLv (lookL_mem hq)
   injection e with e1 e2
   exact h i (by omega) e1.symm
 ·exact hm h1
def xE (o:List Int) (to:Int) (p:Nat):Int:=if p<o.length then -1-o.getD p 0 else to+((p:Int)-(o.length:Int))
theorem endsI_get {o:List Int} {to:Int} {more p:Nat} (h:p<o.length+more):(endsI o to more).getD p 0=xE o to p:=by
 unfold endsI xE
 by_cases hp:p<o.length
 ·rw [if_pos hp,List.getD_eq_getElem?_getD,List.getElem?_append_left (by rw [endsO_length (Nat.le_refl _)];exact hp)]
  unfold endsO
  rw [List.take_length,List.getElem?_map,List.getElem?_eq_getElem hp,List.getD_eq_getElem?_getD,List.getElem?_eq_getElem hp]
  rfl
 ·rw [if_neg hp,List.getD_eq_getElem?_getD,List.getElem?_append_right (by rw [endsO_length (Nat.le_refl _)];omega),endsO_length (Nat.le_refl _)]
  unfold endsM
  rw [List.getElem?_map,List.getElem?_range (by omega)]
  show to+((p-o.length:Nat):Int)=_
  omega
theorem pairs_x {n:Int} {l:List Int} (h:Lvl n l) {i k:Nat} (hk:k<ml n l i)(to:Int)(e:to=tt n l i∨ml n l (i+1)=0):pairsI (endsI (ol n l i) (tt n l i:Nat) (ml n l (i+1))) (k+1)=pairsI (endsI (ol n l i) (tt n l i:Nat) (ml n l (i+1))) k++[(xE (ol n l i) to (2*k),xE (ol n l i) to (2*k+1))]:=by
 have h2:=h.two i
 rw [pairsI_succ,endsI_get (by omega),endsI_get (by omega)]
 rcases e with rfl | e
 ·rfl
 ·have hx:∀ p,p<2*ml n l i→xE (ol n l i) to p=xE (ol n l i) (tt n l i:Nat) p:=fun p hp=>by
   unfold xE
   rw [if_pos (by omega),if_pos (by omega)]
  rw [hx _ (by omega),hx _ (by omega)]
theorem mem_pairs {e:List Int} {k:Nat} {x:Int × Int} (h:x ∈ pairsI e k):∃ j,j<k∧x=(e.getD (2*j) 0,e.getD (2*j+1) 0):=by
 obtain ⟨j,hj,rfl⟩:=List.mem_map.1 h
 exact ⟨j,List.mem_range.1 hj,rfl⟩
theorem mem_cat {P:Nat→T2} {x:Int × Int}:∀ {j:Nat},x ∈ catT P j→∃ i,i<j∧x ∈ P i
 | 0,h=>by cases h
 | j+1,h=>by
  rcases List.mem_append.1 h with h | h
  ·obtain ⟨i,hi,hx⟩:=mem_cat h
   exact ⟨i,by omega,hx⟩
  ·exact ⟨j,Nat.lt_succ_self _,h⟩
theorem bgL_mono (n:Int) (l:List Int) {i:Nat}:∀ {j:Nat},i≤j→bgL n l i≤bgL n l j
 | 0,h=>by
  have:i=0:=by omega
  subst this
  exact Nat.le_refl _
 | j+1,h=>by
  by_cases e:i=j+1
  ·subst e;exact Nat.le_refl _
  ·have:=bgL_mono n l (i:=i) (j:=j) (by omega)
   rw [bgL]
   omega
theorem cat_isS {n:Int} {l:List Int} (h:Lvl n l) {j:Nat} (hg:goes n l j)(hb:bgL n l (j+1)≤60)(hs:stopL n l j):isS (catT (Pl n l) (j+1))=true:=by
 have h1:=goes_bg h hg (j+1) (Nat.le_refl _)
 have hlen:=cat_length n l (j+1)
 have hto:∀ i,i<j+1→tt n l i+ml n l (i+1)≤bgL n l (j+1)∨ml n l (i+1)=0:=fun i hi=>by
  by_cases e:i=j
  ·subst e
   rcases hs with h3 | h3
   ·left
    cases hq:lookL (Rl n l (i+1)) (mLv n l (i+1)) with
    | none=>rw [hq] at h3;cases h3
    | some v=>
     obtain ⟨a,ha,e⟩:=mem_mLv (lookL_mem hq)
     injection e with e1 e2
     have ht:tt n l i=bgL n l a:=by
      unfold tt
      rw [hq,e2]
      rfl
     have hm:ml n l (i+1)=ml n l a:=by unfold ml;rw [e1]
     have hmono:=bgL_mono n l (i:=a+1) (j:=i+1) (by omega)
     rw [bgL] at hmono
     omega
   ·exact .inr h3
  ·left
   rw [tt_next (hg i (by omega)).1]
   have hmono:=bgL_mono n l (i:=i+2) (j:=j+1) (by omega)
   rw [bgL] at hmono
   exact hmono
 have key:∀ i,i<j+1→∀ p,p<2*ml n l i→-64≤xE (ol n l i) (tt n l i:Nat) p∧xE (ol n l i) (tt n l i:Nat) p<((bgL n l (j+1):Nat):Int):=fun i hi p hp=>by
  have h2:=h.two i
  unfold xE
  by_cases hpo:p<(ol n l i).length
  ·rw [if_pos hpo]
   have hm:(ol n l i).getD p 0 ∈ ol n l i:=by
    rw [List.getD_eq_getElem?_getD,List.getElem?_eq_getElem hpo]
    exact List.getElem_mem _
   obtain ⟨c,hc,e⟩:=mem_outI hm
   rw [e]
   have hL:=(h.is i).len
   have:=h.L2
   omega
  ·rw [if_neg hpo]
   rcases hto i hi with h4 | h4
   ·omega
   ·omega
 refine isS_iff.2 ⟨by omega,by omega,fun x hx=>?_⟩
 obtain ⟨i,hi,hx⟩:=mem_cat hx
 obtain ⟨k,hk,rfl⟩:=mem_pairs hx
 have h2:=h.two i
 rw [endsI_get (by omega),endsI_get (by omega),hlen]
 exact ⟨key i hi _ (by omega),key i hi _ (by omega)⟩
set_option maxHeartbeats 4000000 in
theorem whole29_ok (l:List Int)(hl:l.length≤64)(h:∀ x ∈ l,0≤x∧x≤1000000):PCall Tryz.prog 43 [.sl (wl l)] (.i .i64 (sumI l)) []:=by
 refine PCall.of_ax Tryz.call43 Tryz.func43 rfl (by simp [Tryz.ntmps43]) fun O w=>?_
 simp only [Tryz.ntmps43,Tryz.results43,argFr]
 have hml:=wl_length l
 have hbd:=sumI_bd (by decide) h
 refine AX.sR (rgAV [0]) ?_
 refine AX.sR (rgAV [0,3]) ?_
 refine AX.seq ?_
 refine AX.sR (rgWV [3,6,7,8] (aI @hml oT) oT) ?_
 refine AX.weaken id (st':=⟨[(8,.i .i64 (0:Nat)),(7,.i .i64 l.length),(6,.sl (wl l)),(3,.i .i64 0)],[],0⟩)
  leQ6
  ?_
 refine AX.block ?_
 refine AX.loop (fun N st=>∃ (i:Nat) (s:Int),i≤l.length∧N=l.length-i∧s=sumI (l.take i)∧st=⟨[(8,.i .i64 i),(7,.i .i64 l.length),(6,.sl (wl l)),(3,.i .i64 s)],[],0⟩) l.length ⟨0,0,Nat.zero_le _,rfl,rfl,rfl⟩ ?_
 rintro N st ⟨i,s,hi,rfl,hs,rfl⟩
 by_cases h1:i<l.length
 ·have hg:=wl_get h1
  have hsn:=sumI_take h1
  have b1:=hbd i hi
  have b2:=h _ (getD_mem_W h1)
  rw [← hs] at hsn b1
  generalize l.getD i 0=x at *
  generalize wl l=A at *
  have b3:(i:Int)*1000000≤64*1000000:=Int.mul_le_mul_of_nonneg_right (by omega) (by decide)
  refine AX.sR (rgAV [3,6,7,8,9]) ?_
  refine AX.seq ?_
  refine AX.condT ?_
  refine AX.keepA [3,6,7,8] ?_
  refine AX.skip ?_
  refine nmZ ?_
  refine AX.seq ?_
  refine AX.block ?_
  refine AX.sR (rgWV [3,5,6,7,8] (aI @hml (aI @hg oT)) oT) ?_
  refine AX.rR (rgAV [3,6,7,8]) ?_
  refine nmZ ?_
  refine AX.rR (rgWV [3,6,7,8] (aI @lit_add oT) oT) ?_
  refine nmZ ?_
  refine ⟨_,_,id,?_,
   leQ6
   , ⟨i+1,s+x,by omega,rfl,hsn.symm,rfl⟩⟩
  omega
 ·obtain rfl:i=l.length:=by omega
  rw [List.take_length] at hs
  rw [← hs]
  refine AX.sR (rgAV [3,6,7,8,9]) ?_
  refine AX.seq ?_
  refine AX.condF ?_
  refine AX.exit ?_
  refine nmZ ?_
  refine AX.sR (rgAV [2]) ?_
  refine AX.ret ⟨.inl rfl,?_⟩
  exact Done.one rfl rfl rfl rfl
set_option maxHeartbeats 8000000 in
theorem next29_ok (l:List Int)(n:Int)(hl:l.length≤64)(h:∀ x ∈ l,0≤x∧x≤1000000)(hn:0≤n∧n≤1000000):PCall Tryz.prog 44 [.sl (wl l),.i .i64 n] (.tup [.sl (wl (nxtI n l l.length)),.sl (wl (outI n l l.length))]) []:=by
 refine PCall.of_ax Tryz.call44 Tryz.func44 rfl (by simp [Tryz.ntmps44]) fun O w=>?_
 simp only [Tryz.ntmps44,Tryz.results44,argFr]
 have hml:=wl_length l
 refine AX.sR (rgAV [0,1]) ?_
 refine AX.sR (rgAV [0,1,6,7]) ?_
 refine AX.own0 6 3 1 rfl ?_
 refine AX.own0 7 3 1 rfl ?_
 refine AX.seq ?_
 refine AX.sR (rgWV [1,6,7,10,11,12] (aI @hml oT) oT) ?_
 refine AX.weaken id (st':=⟨[(12,.i .i64 (0:Nat)),(11,.i .i64 l.length),(10,.sl (wl l)),(7,.own 1 0 (outI n l 0).length 1),(6,.own 0 0 (nxtI n l 0).length 1),(1,.i .i64 n)],[(1,⟨3,wl (outI n l 0)⟩),(0,⟨3,wl (nxtI n l 0)⟩)],2⟩)
  leQ6
  ?_
 refine AX.block ?_
 refine AX.loop (fun N st=>∃ (i:Nat) (o q:List Int),i≤l.length∧N=l.length-i∧outI n l i=o∧nxtI n l i=q∧st=⟨[(12,.i .i64 i),(11,.i .i64 l.length),(10,.sl (wl l)),(7,.own 1 0 o.length 1),(6,.own 0 0 q.length 1),(1,.i .i64 n)],[(1,⟨3,wl o⟩),(0,⟨3,wl q⟩)],2⟩) l.length ⟨0,_,_,Nat.zero_le _,rfl,rfl,rfl,rfl⟩ ?_
 rintro N st ⟨i,o,q,hi,rfl,ho,hq,rfl⟩
 by_cases h1:i<l.length
 ·have hg:=wl_get h1
  have b1:=h _ (getD_mem_W h1)
  have s1:=outI_succ n l i
  have s2:=nxtI_succ n l i
  have lo:=outI_le n l i
  have lq:=nxtI_length n l i
  rw [ho] at s1 lo
  rw [hq] at s2 lq
  have hlo:=wl_length o
  have hlq:=wl_length q
  generalize l.getD i 0=x at *
  have hdb:2*x=x*2:=Int.mul_comm ..
  by_cases h2:n≤x*2
  ·rw [if_pos h2] at s1 s2
   have happ:=wl_app o i
   have happ2:=wl_app q (x*2-n)
   have hlen:(o++[(i:Int)]).length=o.length+1:=by simp
   have hlen2:(q++[x*2-n]).length=q.length+1:=by simp
   generalize o++[(i:Int)]=o2 at *
   generalize q++[x*2-n]=q2 at *
   refine AX.sR (rgAV [1,6,7,10,11,12,13]) ?_
   refine AX.seq ?_
   refine AX.condT ?_
   refine AX.keepA [1,6,7,10,11,12] ?_
   refine AX.skip ?_
   refine nmZ ?_
   refine AX.seq ?_
   refine AX.block ?_
   refine AX.sR (rgWV [1,6,7,8,9,10,11,12] (aI @hml (aI @hg oT)) oT) ?_
   refine AX.sR (rgWV [1,6,7,8,9,10,11,12] (aI @hdb oT) oT) ?_
   refine AX.seq ?_
   refine AX.sR (rgAV [1,6,7,8,9,10,11,12,21]) ?_
   refine AX.condT ?_
   refine AX.sR (rgAV [1,6,7,8,9,10,11,12]) ?_
   refine AX.rR (rgWV [1,6,7,9,10,11,12] (aI @hlo (aI @zerosV_1 (aI @tkS (aI @tk0 oT)))) oT) ?_
   refine nmZ ?_
   rw [happ]
   refine AX.rR (rgWV [1,6,7,10,11,12] (aI @hlq (aI @zerosV_1 (aI @tkS (aI @tk0 oT)))) oT) ?_
   refine nmZ ?_
   rw [happ2]
   refine AX.rR (rgWV [1,6,7,10,11,12] (aI @lit_add oT) oT) ?_
   refine nmZ ?_
   refine ⟨_,_,fun n=>if n=1 then 3 else if n=0 then 5 else n,?_,
    leQ6
    , ⟨i+1,o2,q2,by omega,rfl,s1,s2,rfl⟩⟩
   omega
  ·rw [if_neg h2] at s1 s2
   have happ2:=wl_app q (x*2)
   have hlen2:(q++[x*2]).length=q.length+1:=by simp
   generalize q++[x*2]=q2 at *
   refine AX.sR (rgAV [1,6,7,10,11,12,13]) ?_
   refine AX.seq ?_
   refine AX.condT ?_
   refine AX.keepA [1,6,7,10,11,12] ?_
   refine AX.skip ?_
   refine nmZ ?_
   refine AX.seq ?_
   refine AX.block ?_
   refine AX.sR (rgWV [1,6,7,8,9,10,11,12] (aI @hml (aI @hg oT)) oT) ?_
   refine AX.sR (rgWV [1,6,7,8,9,10,11,12] (aI @hdb oT) oT) ?_
   refine AX.seq ?_
   refine AX.sR (rgAV [1,6,7,8,9,10,11,12,21]) ?_
   refine AX.condF ?_
   refine AX.keepA [1,6,7,9,10,11,12] ?_
   refine AX.skip ?_
   refine nmZ ?_
   refine AX.rR (rgWV [1,6,7,10,11,12] (aI @hlq (aI @zerosV_1 (aI @tkS (aI @tk0 oT)))) oT) ?_
   refine nmZ ?_
   rw [happ2]
   refine AX.rR (rgWV [1,6,7,10,11,12] (aI @lit_add oT) oT) ?_
   refine nmZ ?_
   refine ⟨_,_,fun n=>if n=0 then 3 else n,?_,
    leQ6
    , ⟨i+1,o,q2,by omega,rfl,s1,s2,rfl⟩⟩
   omega
 ·obtain rfl:i=l.length:=by omega
  rw [ho,hq]
  refine AX.sR (rgAV [1,6,7,10,11,12,13]) ?_
  refine AX.seq ?_
  refine AX.condF ?_
  refine AX.exit ?_
  refine nmZ ?_
  refine AX.sR (rgAV [4,5]) ?_
  refine AX.ret ⟨.inl rfl,?_⟩
  exact Done.slW2 rfl rfl rfl rfl rfl rfl
set_option maxHeartbeats 8000000 in
theorem odds29_ok (l:List Int)(hl:l.length<2 ^ 62)(hb:bW l):PCall Tryz.prog 42 [.sl (wl l)] (.b (isO l)) []:=by
 refine PCall.of_ax Tryz.call42 Tryz.func42 rfl (by simp [Tryz.ntmps42]) fun O w=>?_
 simp only [Tryz.ntmps42,Tryz.results42,argFr]
 have hml:=wl_length l
 by_cases h2:l.length<2
 ·have e:isO l=false:=by unfold isO;rw [decide_eq_false (by omega)];rfl
  rw [e]
  generalize wl l=A at *
  refine AX.sR (rgAV [0]) ?_
  refine AX.seq ?_
  refine AX.sR (rgWV [0,12] (aI @hml oT) oT) ?_
  refine AX.condT ?_
  refine AX.sR (rgAV [2]) ?_
  refine AX.ret ⟨.inl rfl,?_⟩
  exact Done.one rfl rfl rfl rfl
 by_cases h64:64<l.length
 ·have e:isO l=false:=by unfold isO;rw [decide_eq_false (show ¬ l.length≤64 by omega),Bool.and_false];rfl
  rw [e]
  generalize wl l=A at *
  refine AX.sR (rgAV [0]) ?_
  refine AX.seq ?_
  refine AX.sR (rgWV [0,12] (aI @hml oT) oT) ?_
  refine AX.condT ?_
  refine AX.sR (rgAV [2]) ?_
  refine AX.ret ⟨.inl rfl,?_⟩
  exact Done.one rfl rfl rfl rfl
 have e0:isO l=!l.any badO:=by unfold isO;rw [decide_eq_true (by omega),decide_eq_true (by omega)];rfl
 rw [e0]
 refine AX.sR (rgAV [0]) ?_
 refine AX.seq ?_
 refine AX.sR (rgWV [0,12] (aI @hml oT) oT) ?_
 refine AX.condF ?_
 refine AX.keepA [0] ?_
 refine AX.skip ?_
 refine nmZ ?_
 refine AX.seq ?_
 refine AX.sR (rgWV [13,14,15] (aI @hml oT) oT) ?_
 refine AX.weaken id (st':=⟨[(15,.i .i64 (0:Nat)),(14,.i .i64 l.length),(13,.sl (wl l))],[],0⟩)
  leQ6
  ?_
 refine AX.block ?_
 refine AX.loop (fun N st=>∃ i:Nat,i≤l.length∧N=l.length-i∧l.any badO=(l.drop i).any badO∧st=⟨[(15,.i .i64 i),(14,.i .i64 l.length),(13,.sl (wl l))],[],0⟩) l.length ⟨0,Nat.zero_le _,rfl,rfl,rfl⟩ ?_
 rintro N st ⟨i,hi,rfl,hany,rfl⟩
 by_cases h1:i<l.length
 ·have hg:=wl_get h1
  have hx:=hb _ (getD_mem_W h1)
  have e:l.getD i 0=l[i]:=by rw [List.getD_eq_getElem?_getD,List.getElem?_eq_getElem h1];rfl
  rw [List.drop_eq_getElem_cons h1,List.any_cons,← e] at hany
  generalize l.getD i 0=x at *
  generalize wl l=A at *
  refine AX.sR (rgAV [13,14,15,16]) ?_
  refine AX.seq ?_
  refine AX.condT ?_
  refine AX.keepA [13,14,15] ?_
  refine AX.skip ?_
  refine nmZ ?_
  refine AX.seq ?_
  refine AX.block ?_
  refine AX.sR (rgWV [4,13,14,15] (aI @hml (aI @hg oT)) oT) ?_
  by_cases h3:x<1
  ·have hbad:badO x=true:=by unfold badO;rw [decide_eq_true h3];rfl
   rw [hbad,Bool.true_or] at hany
   rw [hany]
   refine AX.sR (rgAV [13,14,15,24]) ?_
   refine AX.condT ?_
   refine AX.sR (rgAV [2]) ?_
   refine AX.ret ⟨.inl rfl,?_⟩
   exact Done.one rfl rfl rfl rfl
  ·by_cases h4:1000<x
   ·have hbad:badO x=true:=by unfold badO;rw [decide_eq_true h4,Bool.or_true]
    rw [hbad,Bool.true_or] at hany
    rw [hany]
    refine AX.sR (rgAV [13,14,15,24]) ?_
    refine AX.condT ?_
    refine AX.sR (rgAV [2]) ?_
    refine AX.ret ⟨.inl rfl,?_⟩
    exact Done.one rfl rfl rfl rfl
   ·have hbad:badO x=false:=by unfold badO;rw [decide_eq_false h3,decide_eq_false h4];rfl
    rw [hbad,Bool.false_or] at hany
    refine AX.sR (rgAV [13,14,15,24]) ?_
    refine AX.condF ?_
    refine AX.keepA [13,14,15] ?_
    refine AX.skip ?_
    refine nmZ ?_
    refine AX.rR (rgWV [13,14,15] (aI @lit_add oT) oT) ?_
    refine nmZ ?_
    refine ⟨_,_,id,?_,
     leQ6
     , ⟨i+1,by omega,rfl,hany,rfl⟩⟩
    omega
 ·obtain rfl:i=l.length:=by omega
  rw [List.drop_of_length_le (Nat.le_refl _)] at hany
  rw [hany]
  refine AX.sR (rgAV [13,14,15,16]) ?_
  refine AX.seq ?_
  refine AX.condF ?_
  refine AX.exit ?_
  refine nmZ ?_
  refine AX.sR (rgAV [2]) ?_
  refine AX.ret ⟨.inl rfl,?_⟩
  exact Done.one rfl rfl rfl rfl
set_option maxHeartbeats 8000000 in
theorem same29l_ok (a b:List Int)(hab:a.length=b.length)(hl:a.length≤64):PCall Tryz.prog 45 [.sl (wl a),.sl (wl b)] (.b (decide (a=b))) []:=by
 refine PCall.of_ax Tryz.call45 Tryz.func45 rfl (by simp [Tryz.ntmps45]) fun O w=>?_
 simp only [Tryz.ntmps45,Tryz.results45,argFr]
 have hma:=wl_length a
 have hmb:=wl_length b
 rw [← hab] at hmb
 refine AX.sR (rgAV [0,1]) ?_
 refine AX.seq ?_
 refine AX.sR (rgWV [0,1,7,8] (aI @hma oT) oT) ?_
 refine AX.weaken id (st':=⟨[(8,.i .i64 (0:Nat)),(7,.i .i64 a.length),(1,.sl (wl b)),(0,.sl (wl a))],[],0⟩)
  leQ6
  ?_
 refine AX.block ?_
 refine AX.loop (fun N st=>∃ i:Nat,i≤a.length∧N=a.length-i∧(∀ k,k<i→a.getD k 0=b.getD k 0)∧st=⟨[(8,.i .i64 i),(7,.i .i64 a.length),(1,.sl (wl b)),(0,.sl (wl a))],[],0⟩) a.length ⟨0,Nat.zero_le _,rfl,fun k hk=>absurd hk (Nat.not_lt_zero _),rfl⟩ ?_
 rintro N st ⟨i,hi,rfl,heq,rfl⟩
 by_cases h1:i<a.length
 ·have hga:=wl_get h1
  have hgb:=wl_get (show i<b.length by omega)
  by_cases hx:a.getD i 0=b.getD i 0
  ·have hnext:∀ k,k<i+1→a.getD k 0=b.getD k 0:=fun k hk=>by
    by_cases e:k=i
    ·subst e;exact hx
    ·exact heq k (by omega)
   rw [← hx] at hgb
   clear heq
   generalize a.getD i 0=x at *
   generalize wl a=A at *
   generalize wl b=B at *
   refine AX.sR (rgAV [0,1,7,8,9]) ?_
   refine AX.seq ?_
   refine AX.condT ?_
   refine AX.keepA [0,1,7,8] ?_
   refine AX.skip ?_
   refine nmZ ?_
   refine AX.seq ?_
   refine AX.block ?_
   refine AX.sR (rgAV [0,1,5,7,8]) ?_
   refine AX.sD (rgDWV [0,1,7,8,19] (aI @hma (aI @hmb (aI @hga (aI @hgb oT)))) oT) ?_
   refine AX.condF ?_
   refine AX.keepA [0,1,7,8] ?_
   refine AX.skip ?_
   refine nmZ ?_
   refine AX.rR (rgWV [0,1,7,8] (aI @lit_add oT) oT) ?_
   refine nmZ ?_
   refine ⟨_,_,id,?_,
    leQ6
    , ⟨i+1,by omega,rfl,hnext,rfl⟩⟩
   omega
  ·have hne:decide (a=b)=false:=decide_eq_false fun e=>hx (by rw [e])
   rw [hne]
   clear heq
   generalize a.getD i 0=x at *
   generalize b.getD i 0=y at *
   generalize wl a=A at *
   generalize wl b=B at *
   refine AX.sR (rgAV [0,1,7,8,9]) ?_
   refine AX.seq ?_
   refine AX.condT ?_
   refine AX.keepA [0,1,7,8] ?_
   refine AX.skip ?_
   refine nmZ ?_
   refine AX.seq ?_
   refine AX.block ?_
   refine AX.sR (rgAV [0,1,5,7,8]) ?_
   refine AX.sD (rgDWV [0,1,7,8,19] (aI @hma (aI @hmb (aI @hga (aI @hgb oT)))) oT) ?_
   refine AX.condT ?_
   refine AX.sR (rgAV [4]) ?_
   refine AX.ret ⟨.inl rfl,?_⟩
   exact Done.one rfl rfl rfl rfl
 ·obtain rfl:i=a.length:=by omega
  have he:a=b:=List.ext_getElem hab fun k h1 h2=>by
   have:=heq k h1
   rwa [List.getD_eq_getElem?_getD,List.getElem?_eq_getElem h1,List.getD_eq_getElem?_getD,List.getElem?_eq_getElem h2] at this
  rw [decide_eq_true he]
  clear heq he
  generalize wl a=A at *
  generalize wl b=B at *
  refine AX.sR (rgAV [0,1,7,8,9]) ?_
  refine AX.seq ?_
  refine AX.condF ?_
  refine AX.exit ?_
  refine nmZ ?_
  refine AX.sR (rgWV [4] (aI @hma (aI @hmb oT)) oT) ?_
  refine AX.ret ⟨.inl rfl,?_⟩
  exact Done.one rfl rfl rfl rfl
set_option maxHeartbeats 8000000 in
theorem sameNext_ok (T:T2)(hl:T.length≤60):PCall Tryz.prog 13 [.sl (nx T),.sl (nx T)] (.b true) []:=by
 refine PCall.of_ax Tryz.call13 Tryz.func13 rfl (by simp [Tryz.ntmps13]) fun O w=>?_
 simp only [Tryz.ntmps13,Tryz.results13,argFr]
 have hml:=nx_length T
 refine AX.sR (rgAV [0,1]) ?_
 refine AX.seq ?_
 refine AX.sR (rgWV [0,1,10] (aI @hml oT) oT) ?_
 refine AX.condF ?_
 refine AX.keepA [0,1] ?_
 refine AX.skip ?_
 refine nmZ ?_
 refine AX.seq ?_
 refine AX.sR (rgWV [0,1,12,13] (aI @hml oT) oT) ?_
 refine AX.weaken id (st':=⟨[(13,.i .i64 (0:Nat)),(12,.i .i64 T.length),(1,.sl (nx T)),(0,.sl (nx T))],[],0⟩)
  leQ6
  ?_
 refine AX.block ?_
 refine AX.loop (fun N st=>∃ i:Nat,i≤T.length∧N=T.length-i∧st=⟨[(13,.i .i64 i),(12,.i .i64 T.length),(1,.sl (nx T)),(0,.sl (nx T))],[],0⟩) T.length ⟨0,Nat.zero_le _,rfl,rfl⟩ ?_
 rintro N st ⟨i,hi,rfl,rfl⟩
 by_cases h1:i<T.length
 ·have hix:=fun x y=>effIx2 (x:=x) (y:=y) (els:=nx T) (j:=i) (by omega) (nx_get h1)
  generalize T.getD i z2=x at *
  obtain ⟨a,b⟩:=x
  dsimp only at hix
  generalize nx T=A at *
  refine AX.sR (rgAV [0,1,12,13,14]) ?_
  refine AX.seq ?_
  refine AX.condT ?_
  refine AX.keepA [0,1,12,13] ?_
  refine AX.skip ?_
  refine nmZ ?_
  refine AX.seq ?_
  refine AX.block ?_
  refine AX.sR (rgAV [0,1,5,12,13]) ?_
  refine AX.sD (rgDEV [0,1,12,13,24] oT oT (aI hix oT)) ?_
  refine AX.condF ?_
  refine AX.keepA [0,1,12,13] ?_
  refine AX.skip ?_
  refine nmZ ?_
  refine AX.rR (rgWV [0,1,12,13] (aI @lit_add oT) oT) ?_
  refine nmZ ?_
  refine ⟨_,_,id,?_,
   leQ6
   , ⟨i+1,by omega,rfl,rfl⟩⟩
  omega
 ·obtain rfl:i=T.length:=by omega
  generalize nx T=A at *
  refine AX.sR (rgAV [0,1,12,13,14]) ?_
  refine AX.seq ?_
  refine AX.condF ?_
  refine AX.exit ?_
  refine nmZ ?_
  refine AX.sR (rgAV [4]) ?_
  refine AX.ret ⟨.inl rfl,?_⟩
  exact Done.one rfl rfl rfl rfl
def swl (L:List (List Int)):List V:=L.map fun R=>.sl (wl R)
theorem swl_length (L:List (List Int)):(swl L).length=L.length:=List.length_map ..
theorem swl_hf (L:List (List Int)):V.hfL (swl L)=true∧(swl L).all V.flat=true:=hfL_map _ (fun l=>⟨by simp only [V.hf],rfl⟩) L
theorem ren_swl (f:Nat→Nat)(L:List (List Int)):V.renL f (swl L)=swl L:=(hf_names f 0 _ (swl_hf L).1).1
theorem lt_swl (k:Nat)(L:List (List Int)):V.ltL k (swl L)=true:=(hf_names id k _ (swl_hf L).1).2
theorem swl_get {L:List (List Int)} {j:Nat} (h:j<L.length):(swl L).getD j .junk=.sl (wl (L.getD j [])):=by
 simp [swl,List.getD_eq_getElem?_getD,h]
theorem swl_app (L:List (List Int))(R:List Int):swl L++[.sl (wl R)]=swl (L++[R]):=by simp [swl]
def LV (n:Int) (l:List Int) (K:Nat):List (List Int):=(List.range K).map (Rl n l)
def bI (n:Int) (l:List Int) (K:Nat):List Int:=(List.range K).map fun i=>((bgL n l i:Nat):Int)
theorem LV_length (n:Int)(l:List Int)(K:Nat):(LV n l K).length=K:=by rw [LV,List.length_map,List.length_range]
theorem bI_length (n:Int)(l:List Int)(K:Nat):(bI n l K).length=K:=by rw [bI,List.length_map,List.length_range]
theorem LV_get {n:Int} {l:List Int} {K j:Nat} (h:j<K):(LV n l K).getD j []=Rl n l j:=by
 rw [LV,List.getD_eq_getElem?_getD,List.getElem?_map,List.getElem?_range h]
 rfl
theorem bI_get {n:Int} {l:List Int} {K j:Nat} (h:j<K):(bI n l K).getD j 0=((bgL n l j:Nat):Int):=by
 rw [bI,List.getD_eq_getElem?_getD,List.getElem?_map,List.getElem?_range h]
 rfl
theorem LV_succ (n:Int)(l:List Int)(K:Nat):LV n l (K+1)=LV n l K++[Rl n l K]:=by
 unfold LV
 rw [List.range_succ,List.map_append]
 rfl
theorem bI_succ (n:Int)(l:List Int)(K:Nat):bI n l (K+1)=bI n l K++[((bgL n l K:Nat):Int)]:=by
 unfold bI
 rw [List.range_succ,List.map_append]
 rfl
theorem leQ10 {g:Nat} {f:Nat→Nat} {st' st:St} (h1:LeFr f st.fr st'.nx st'.fr:=by simp only [renL_u,ren_wl,ren_nx,ren_swl,renL_id,ren_id,ren_wl,ren_wl,ren_wl,ren_wl,ren_wl,ltL_u,lt_wl,lt_nx,lt_swl,LeFr,LeHp,lkp,V.ren,V.renL,Row.ren,V.lt,V.ltL,renL_u,ltL_u,List.length_append,List.length_cons,List.length_nil,List.length_set,id_eq,Option.some.injEq,V.i.injEq,V.b.injEq,V.own.injEq,Row.mk.injEq,decide_true,decide_eq_true_eq,true_and,and_true,Bool.and_true,Bool.true_and,if_true,if_false,and_self,Nat.reduceLT,Nat.reduceLeDiff,Nat.reduceEqDiff,Nat.reduceAdd,Nat.reduceSub,Nat.reduceMul,Nat.reducePow,Nat.reduceBEq,Int.reduceLE,Int.reduceLT,Int.reduceToNat,Int.reduceEq,Int.reduceNeg,↓reduceIte,reduceCtorEq] <;> (first | done | trivial | (and_intros<;>first | trivial | omega | assumption)))
  (h2:LeHp f st.hp st'.nx st'.hp:=by simp only [renL_u,ren_wl,ren_nx,ren_swl,renL_id,ren_id,ren_wl,ren_wl,ren_wl,ren_wl,ren_wl,ltL_u,lt_wl,lt_nx,lt_swl,LeFr,LeHp,lkp,V.ren,V.renL,Row.ren,V.lt,V.ltL,renL_u,ltL_u,List.length_append,List.length_cons,List.length_nil,List.length_set,id_eq,Option.some.injEq,V.i.injEq,V.b.injEq,V.own.injEq,Row.mk.injEq,decide_true,decide_eq_true_eq,true_and,and_true,Bool.and_true,Bool.true_and,if_true,if_false,and_self,Nat.reduceLT,Nat.reduceLeDiff,Nat.reduceEqDiff,Nat.reduceAdd,Nat.reduceSub,Nat.reduceMul,Nat.reducePow,Nat.reduceBEq,Int.reduceLE,Int.reduceLT,Int.reduceToNat,Int.reduceEq,Int.reduceNeg,↓reduceIte,reduceCtorEq] <;> (first | done | trivial | (and_intros<;>first | trivial | omega | assumption)))
  (h3:Apart f st'.hp:=by simp [Apart]) (h4:g≤st'.nx:=by first | exact Nat.zero_le _ | simp) (h5:∀ n,n<g→f n=n:=by intro n hn;first | rfl | exact absurd hn (Nat.not_lt_zero _) | (have h0:n=0:=Nat.lt_one_iff.1 hn;subst h0;rfl)):Le g f st' st:=⟨h1,h2,h3,h4,h5⟩
theorem leQ10H {g:Nat} {f:Nat→Nat} {st' st:St} {H:Prop} (hh:H) (h1:H→LeFr f st.fr st'.nx st'.fr:=by intro hh;simp only [renL_u,ren_wl,ren_nx,ren_swl,renL_id,ren_id,ren_wl,ren_wl,ren_wl,ren_wl,ren_wl,ltL_u,lt_wl,lt_nx,lt_swl,LeFr,LeHp,lkp,V.ren,V.renL,Row.ren,V.lt,V.ltL,renL_u,ltL_u,List.length_append,List.length_cons,List.length_nil,List.length_set,id_eq,Option.some.injEq,V.i.injEq,V.b.injEq,V.own.injEq,Row.mk.injEq,decide_true,decide_eq_true_eq,true_and,and_true,Bool.and_true,Bool.true_and,if_true,if_false,and_self,Nat.reduceLT,Nat.reduceLeDiff,Nat.reduceEqDiff,Nat.reduceAdd,Nat.reduceSub,Nat.reduceMul,Nat.reducePow,Nat.reduceBEq,Int.reduceLE,Int.reduceLT,Int.reduceToNat,Int.reduceEq,Int.reduceNeg,↓reduceIte,reduceCtorEq] <;> (first | done | trivial | (and_intros<;>first | trivial | omega | rw [hh] | (simp only [hh];done) | assumption)))
  (h2:H→LeHp f st.hp st'.nx st'.hp:=by intro hh;simp only [renL_u,ren_wl,ren_nx,ren_swl,renL_id,ren_id,ren_wl,ren_wl,ren_wl,ren_wl,ren_wl,ltL_u,lt_wl,lt_nx,lt_swl,LeFr,LeHp,lkp,V.ren,V.renL,Row.ren,V.lt,V.ltL,renL_u,ltL_u,List.length_append,List.length_cons,List.length_nil,List.length_set,id_eq,Option.some.injEq,V.i.injEq,V.b.injEq,V.own.injEq,Row.mk.injEq,decide_true,decide_eq_true_eq,true_and,and_true,Bool.and_true,Bool.true_and,if_true,if_false,and_self,Nat.reduceLT,Nat.reduceLeDiff,Nat.reduceEqDiff,Nat.reduceAdd,Nat.reduceSub,Nat.reduceMul,Nat.reducePow,Nat.reduceBEq,Int.reduceLE,Int.reduceLT,Int.reduceToNat,Int.reduceEq,Int.reduceNeg,↓reduceIte,reduceCtorEq] <;> (first | done | trivial | (and_intros<;>first | trivial | omega | rw [hh] | (simp only [hh];done) | assumption)))
  (h3:Apart f st'.hp:=by simp [Apart]) (h4:g≤st'.nx:=by first | exact Nat.zero_le _ | simp) (h5:∀ n,n<g→f n=n:=by intro n hn;first | rfl | exact absurd hn (Nat.not_lt_zero _) | (have h0:n=0:=Nat.lt_one_iff.1 hn;subst h0;rfl)):Le g f st' st:=⟨h1 hh,h2 hh,h3,h4,h5⟩
theorem co_lay_li:lay Tryz.prog 22=some ⟨1,false,24,[.nl]⟩:=by kernel_rfl
attribute [go_sem] Tryz.underlying90 co_lay_li
theorem Lift.Done.smpO29 {st:St} {a t':Tmp} {h g k:Nat} {T T':TypeId} {S:T2} {e:Int} (h1:lkp st.fr a=some (.ptr h 0))(h2:lkp st.hp h=some ⟨T,[.own g 0 k 2]⟩)(h3:lkp st.hp g=some ⟨T',wl (fl S)⟩)(h4:lkp st.fr t'=some (.i .i64 e))(hk:k=S.length):Done Tryz.prog #[.cell a 29,.tmp t'] (.tup [.agg [.sl (nx S)],.i .i64 e]) [] st:=by
 subst hk
 have e1:List.take (S.length*2) (List.drop 0 (wl (fl S)))=wl (fl S):=by rw [List.drop_zero];exact List.take_of_length_le (by rw [wlfl_length];exact Nat.le_refl _)
 refine Done.of (vs:=[.agg [.own g 0 S.length 2],.i .i64 e]) (hp:=dlt st.hp g) ?_ ?_ rfl ?_ ?_
 ·simp only [resVs,resV,h1,h2,h4,co_lay_smp29];rfl
 ·simp only [packV,frz,frzL,h3,List.not_mem_nil,if_false,Nat.zero_add,wlfl_length,Nat.le_refl,e1,(wl_hf (fl S)).1,(wl_hf (fl S)).2,and_self,if_true,Nat.zero_lt_succ,Nat.lt_succ_self,true_and,chunks2]
 ·rfl
 ·rfl
theorem Lift.Done.smpN29 {st:St} {a t':Tmp} {h:Nat} {T:TypeId} {e:Int} (h1:lkp st.fr a=some (.ptr h 0))(h2:lkp st.hp h=some ⟨T,[.nl]⟩)(h4:lkp st.fr t'=some (.i .i64 e)):Done Tryz.prog #[.cell a 29,.tmp t'] (.tup [.agg [.sl []],.i .i64 e]) [] st:=by
 refine Done.of (vs:=[.agg [.nl],.i .i64 e]) (hp:=st.hp) ?_ rfl rfl rfl rfl
 simp only [resVs,resV,h1,h2,h4,co_lay_smp29];rfl
def Ends29 (n:Int) (l:List Int) (j:Nat) (bk:Int):Prop:=goes n l j∧bgL n l (j+1)≤60∧((∃ v:Nat,v≤j∧bk=v∧Rl n l v=Rl n l (j+1))∨(bk=-1∧ml n l (j+1)=0))
set_option maxHeartbeats 16000000 in
theorem make29_good (l:List Int)(h0:isO l=true):PCall Tryz.prog 12 [.sl (wl l)] (mkV l) []:=by
 have lv:=lvl_of h0
 obtain ⟨q1,q2,q3⟩:=isO_iff.1 h0
 have c1:=odds29_ok l (by omega) (fun x hx=>by have:=q3 x hx;omega)
 have cS:=whole29_ok l (by omega) (fun x hx=>by have:=q3 x hx;omega)
 rw [h0] at c1
 rw [mkV_eq h0]
 obtain ⟨X,hX⟩:∃ X,mkS (sumI l) 61 l [] []=X:=⟨_,rfl⟩
 rw [hX]
 generalize hn:sumI l=n at *
 have hn2:=lv.n2
 have hn3:=lv.n3
 have hbd:∀ j,∀ x ∈ Rl n l j,0≤x∧x≤1000000:=fun j x hx=>by have:=(lv.is j).bd x hx;omega
 have hRl:∀ j,(Rl n l j).length≤64:=fun j=>by rw [(lv.is j).len];exact q2
 have cx:∀ j,PCall Tryz.prog 44 [.sl (wl (Rl n l j)),.i .i64 n] (.tup [.sl (wl (Rl n l (j+1))),.sl (wl (ol n l j))]) []:=fun j=>next29_ok (Rl n l j) n (hRl j) (hbd j) (by omega)
 have cw:∀ j,PCall Tryz.prog 43 [.sl (wl (Rl n l j))] (.i .i64 (sumI (Rl n l j))) []:=fun j=>whole29_ok (Rl n l j) (hRl j) (hbd j)
 have csm:∀ i j,PCall Tryz.prog 45 [.sl (wl (Rl n l i)),.sl (wl (Rl n l j))] (.b (decide (Rl n l i=Rl n l j))) []:=fun i j=>same29l_ok _ _ (by rw [(lv.is i).len,(lv.is j).len]) (hRl i)
 have hdv:∀ j,(sumI (Rl n l j)).tdiv n=((ml n l j:Nat):Int):=fun j=>((lv.is j).div (by omega)).2
 have hsum:∀ j,sumI (Rl n l j)=n*((ml n l j:Nat):Int):=fun j=>(lv.is j).sum
 have hmL:∀ j,ml n l j≤64:=fun j=>Nat.le_trans ((lv.is j).m_lt (by omega)) q2
 have hss:∀ j,0≤sumI (Rl n l j)∧sumI (Rl n l j)≤64000000:=fun j=>by
  have hb:=sumI_bd (l:=Rl n l j) (B:=1000000) (by decide) (hbd j) _ (Nat.le_refl _)
  rw [List.take_length] at hb
  have h4:((Rl n l j).length:Int)*1000000≤64*1000000:=Int.mul_le_mul_of_nonneg_right (by have:=hRl j;omega) (by decide)
  omega
 refine PCall.of_ax Tryz.call12 Tryz.func12 rfl (by simp [Tryz.ntmps12]) fun O w=>?_
 simp only [Tryz.ntmps12,Tryz.results12,argFr]
 have hml0:=wl_length l
 have hb1:((bgL n l 1:Nat):Int)=1:=by
  rw [show bgL n l 1=1 from (Nat.zero_add _).trans lv.one]
  rfl
 refine AX.sR (rgAV [0,2]) ?_
 refine AX.seq ?_
 refine AX.sR (rgCV [0,2,25] (aI c1 oT)) ?_
 refine AX.condF ?_
 refine AX.keepA [0,2] ?_
 refine AX.skip ?_
 refine nmZ ?_
 refine AX.sR (rgCV [0,2,4] (aI cS oT)) ?_
 refine AX.sR (rgAV [2,4,5]) ?_
 refine AX.sR (rgAV [2,4,5,6]) ?_
 refine AX.sR (rgAV [2,4,5,6,7]) ?_
 refine AX.sR (rgAV [2,4,5,6,7,8]) ?_
 refine AX.cutR (fun st=>∃ (j K:Nat) (bk:Int),K=j+1∧Ends29 n l j bk∧Le 0 id ⟨[(8,.i .i64 bk),(6,.own 2 0 K 1),(5,.own 1 0 K 1),(4,.i .i64 n),(2,.ptr 0 0)],[(2,⟨3,wl (bI n l K)⟩),(1,⟨22,swl (LV n l K)⟩),(0,⟨29,[.nl]⟩)],3⟩ st) ?_ ?_
 ·refine AX.weaken id (st':=⟨[(8,.i .i64 (-1)),(7,.i .i64 (bgL n l 1:Nat)),(6,.own 2 0 (1:Nat) 1),(5,.own 1 0 (1:Nat) 1),(4,.i .i64 n),(2,.ptr 0 0)],[(2,⟨3,wl (bI n l 1)⟩),(1,⟨22,swl (LV n l 1)⟩),(0,⟨29,[.nl]⟩)],3⟩)
   (leQ10H hb1)
   ?_
  refine AX.block ?_
  refine AX.loop (fun M st=>∃ (j K s:Nat) (ls:List (List Int)) (bs:List Int),K=j+1∧j≤59∧M=60-j∧goes n l j∧bgL n l (j+1)≤60∧bgL n l (j+1)=s∧LV n l K=ls∧bI n l K=bs∧st=⟨[(8,.i .i64 (-1)),(7,.i .i64 s),(6,.own 2 0 K 1),(5,.own 1 0 K 1),(4,.i .i64 n),(2,.ptr 0 0)],[(2,⟨3,wl bs⟩),(1,⟨22,swl ls⟩),(0,⟨29,[.nl]⟩)],3⟩) 60 ⟨0,1,_,_,_,rfl,by omega,rfl,fun i hi=>absurd hi (Nat.not_lt_zero _),by rw [show bgL n l 1=1 from (Nat.zero_add _).trans lv.one];decide,rfl,rfl,rfl,rfl⟩ ?_
  rintro M st ⟨j,K,s,ls,bs,hK,hj,rfl,hg,hb,hs,hls,hbs,rfl⟩
  have hlsl:(swl ls).length=K:=by rw [← hls,swl_length,LV_length]
  have hbsl:(wl bs).length=K:=by rw [← hbs,wl_length,bI_length]
  have hlsg:∀ i,i<K→(swl ls).getD i .junk=.sl (wl (Rl n l i)):=fun i hi=>by rw [← hls,swl_get (by rw [LV_length];exact hi),LV_get hi]
  have hKj:(K:Int)-1=(j:Int):=by omega
  have hgj:=hlsg j (by omega)
  have cxj:=cx j
  have cwj:=cw (j+1)
  have hdj:=hdv (j+1)
  have hsj:=hss (j+1)
  have hsumj:=hsum (j+1)
  have csj:=fun i=>csm i (j+1)
  obtain ⟨R2,hR2⟩:∃ R2,Rl n l (j+1)=R2:=⟨_,rfl⟩
  rw [hR2] at cxj cwj hdj hsj hsumj
  have csj:∀ i,PCall Tryz.prog 45 [.sl (wl (Rl n l i)),.sl (wl R2)] (.b (decide (Rl n l i=R2))) []:=fun i=>hR2 ▸ csj i
  refine AX.seq ?_
  refine AX.sR (rgAV [2,4,5,6,7,8,33]) ?_
  refine AX.condT ?_
  refine AX.keepA [2,4,5,6,7,8] ?_
  refine AX.skip ?_
  refine nmZ ?_
  refine AX.block ?_
  refine AX.sR (rgWV [2,4,5,6,7,8,9] (aI @hlsl (aI @hKj (aI @hgj oT))) (aI cxj oT)) ?_
  refine AX.seq ?_
  refine AX.sR (rgAV [2,4,5,6,7,8,9,45,46,47]) ?_
  refine AX.weaken id (st':=⟨[(47,.i .i64 (0:Nat)),(46,.i .i64 K),(45,.own 1 0 K 1),(9,.sl (wl R2)),(8,.i .i64 (-1)),(7,.i .i64 s),(6,.own 2 0 K 1),(5,.own 1 0 K 1),(4,.i .i64 n),(2,.ptr 0 0)],[(2,⟨3,wl bs⟩),(1,⟨22,swl ls⟩),(0,⟨29,[.nl]⟩)],3⟩)
   leQ10
   ?_
  refine AX.block ?_
  refine AX.loop (fun M st=>∃ (i:Nat) (bk:Int),i≤K∧M=K-i∧((bk=-1∧∀ v,v<i→Rl n l v≠R2)∨∃ v:Nat,v<i∧bk=v∧Rl n l v=R2)∧st=⟨[(47,.i .i64 i),(46,.i .i64 K),(45,.own 1 0 K 1),(9,.sl (wl R2)),(8,.i .i64 bk),(7,.i .i64 s),(6,.own 2 0 K 1),(5,.own 1 0 K 1),(4,.i .i64 n),(2,.ptr 0 0)],[(2,⟨3,wl bs⟩),(1,⟨22,swl ls⟩),(0,⟨29,[.nl]⟩)],3⟩) K ⟨0,-1,Nat.zero_le _,rfl,.inl ⟨rfl,fun v hv=>absurd hv (Nat.not_lt_zero _)⟩,rfl⟩ ?_
  rintro M st ⟨i,bk,hi,rfl,hbk,rfl⟩
  by_cases h1:i<K
  ·have hgi:=hlsg i h1
   have ci:=csj i
   obtain ⟨R1,hR1⟩:∃ R1,Rl n l i=R1:=⟨_,rfl⟩
   rw [hR1] at hgi ci
   clear cxj cwj csj hgj c1 cS cx cw csm
   by_cases he:R1=R2
   ·rw [decide_eq_true he] at ci
    refine AX.sR (rgAV [2,4,5,6,7,8,9,45,46,47,48]) ?_
    refine AX.seq ?_
    refine AX.condT ?_
    refine AX.keepA [2,4,5,6,7,8,9,45,46,47] ?_
    refine AX.skip ?_
    refine nmZ ?_
    refine AX.seq ?_
    refine AX.block ?_
    refine AX.sR (rgWV [2,4,5,6,7,8,9,11,12,45,46,47] (aI @hlsl (aI @hgi oT)) oT) ?_
    refine AX.sR (rgCV [2,4,5,6,7,8,9,11,45,46,47,54] (aI ci oT)) ?_
    refine AX.condT ?_
    refine AX.rR (rgAV [2,4,5,6,7,8,9,45,46,47]) ?_
    refine nmZ ?_
    refine AX.rR (rgWV [2,4,5,6,7,8,9,45,46,47] (aI @lit_add oT) oT) ?_
    refine nmZ ?_
    refine ⟨_,_,id,?_,
     leQ10
     , ⟨i+1,(i:Int),by omega,rfl,.inr ⟨i,Nat.lt_succ_self _,rfl,hR1.trans he⟩,rfl⟩⟩
    omega
   ·rw [decide_eq_false he] at ci
    have hnext:(bk=-1∧∀ v,v<i+1→Rl n l v≠R2)∨∃ v:Nat,v<i+1∧bk=v∧Rl n l v=R2:=by
     rcases hbk with ⟨h2,h3⟩ | ⟨v,h2,h3,h4⟩
     ·refine .inl ⟨h2,fun v hv=>?_⟩
      by_cases e:v=i
      ·subst e;rw [hR1];exact he
      ·exact h3 v (by omega)
     ·exact .inr ⟨v,by omega,h3,h4⟩
    refine AX.sR (rgAV [2,4,5,6,7,8,9,45,46,47,48]) ?_
    refine AX.seq ?_
    refine AX.condT ?_
    refine AX.keepA [2,4,5,6,7,8,9,45,46,47] ?_
    refine AX.skip ?_
    refine nmZ ?_
    refine AX.seq ?_
    refine AX.block ?_
    refine AX.sR (rgWV [2,4,5,6,7,8,9,11,12,45,46,47] (aI @hlsl (aI @hgi oT)) oT) ?_
    refine AX.sR (rgCV [2,4,5,6,7,8,9,11,45,46,47,54] (aI ci oT)) ?_
    refine AX.condF ?_
    refine AX.keepA [2,4,5,6,7,8,9,45,46,47] ?_
    refine AX.skip ?_
    refine nmZ ?_
    refine AX.rR (rgWV [2,4,5,6,7,8,9,45,46,47] (aI @lit_add oT) oT) ?_
    refine nmZ ?_
    refine ⟨_,_,id,?_,
     leQ10
     , ⟨i+1,bk,by omega,rfl,hnext,rfl⟩⟩
    omega
  obtain rfl:i=K:=by omega
  clear cxj csj hgj c1 cS cx cw csm
  refine AX.sR (rgAV [2,4,5,6,7,8,9,45,46,47,48]) ?_
  refine AX.seq ?_
  refine AX.condF ?_
  refine AX.exit ?_
  refine nmZ ?_
  refine AX.seq ?_
  rcases hbk with ⟨hbk,hno⟩ | ⟨v,hv,hbk,hRv⟩
  ·subst hbk
   refine AX.sR (rgAV [2,4,5,6,7,8,9,58]) ?_
   refine AX.condF ?_
   refine AX.keepA [2,4,5,6,7,8,9] ?_
   refine AX.skip ?_
   refine nmZ ?_
   refine AX.seq ?_
   by_cases hm0:ml n l (j+1)=0
   ·have hs0:sumI R2=0:=by rw [hsumj,hm0];exact Int.mul_zero _
    rw [hs0] at cwj
    refine AX.sR (rgCV [2,4,5,6,7,8,9,61] (aI cwj oT)) ?_
    refine AX.condT ?_
    refine AX.exit ?_
    refine nmZ ?_
    refine ⟨j,i,-1,hK,⟨hg,hb,.inr ⟨rfl,hm0⟩⟩,?_⟩
    rw [hls,hbs]
    exact
    leQ10
   ·have hm1:(1:Int)≤((ml n l (j+1):Nat):Int):=by omega
    have hs0:¬ sumI R2=0:=by
     rw [hsumj]
     intro h
     rcases Int.mul_eq_zero.1 h with h | h<;>omega
    have hst:¬ stopL n l j:=not_stop (fun v hv=>by rw [hR2];exact hno v (by omega)) hm0
    have hmm:=hmL (j+1)
    have hb2:bgL n l (j+2)=s+ml n l (j+1):=by rw [← hs];rfl
    have hapl:swl ls++[.sl (wl R2)]=swl (LV n l (i+1)):=by rw [swl_app,LV_succ,hls,hK,hR2]
    have hapb:=wl_app bs s
    have hapb2:bs++[(s:Int)]=bI n l (i+1):=by rw [bI_succ,hbs,hK,hs]
    rw [hapb2] at hapb
    obtain ⟨ls2,hls2⟩:∃ x,LV n l (i+1)=x:=⟨_,rfl⟩
    obtain ⟨bs2,hbs2⟩:∃ x,bI n l (i+1)=x:=⟨_,rfl⟩
    rw [hls2] at hapl
    rw [hbs2] at hapb
    have hsI:(s:Int)+((ml n l (j+1):Nat):Int)=((bgL n l (j+2):Nat):Int):=by omega
    have hne:n≠0:=by omega
    obtain ⟨s2,hs2⟩:∃ x,bgL n l (j+2)=x:=⟨_,rfl⟩
    rw [hs2] at hsI hb2
    refine AX.sR (rgCV [2,4,5,6,7,8,9,61] (aI cwj oT)) ?_
    refine AX.condF ?_
    refine AX.keepA [2,4,5,6,7,8,9] ?_
    refine AX.skip ?_
    refine nmZ ?_
    refine AX.sR (rgWV [2,4,5,6,7,8,9] (aI @hlsl (aI @hbsl (aI @zerosV_1 (aI @tkS (aI @tk0 oT))))) oT) ?_
    rw [hapl,hapb]
    generalize ml n l (j+1)=m2 at *
    refine AX.sR (rgWV [2,4,5,6,7,8] (aI @hdj (aI @hne (aI @hsI oT))) (aI cwj oT)) ?_
    by_cases h60:60<s2
    ·refine AX.sR (rgAV [2,4,5,6,7,8,77]) ?_
     refine AX.condT ?_
     refine AX.sR (rgAV [2,3]) ?_
     refine AX.ret ⟨.inl rfl,?_⟩
     rw [← hX,mk_limit lv hg hb hst (by omega)]
     exact Done.smpN29 rfl rfl rfl
    ·have hg2:goes n l (j+1):=fun a ha=>by
      by_cases e:a=j
      ·subst e;exact ⟨hst,hb⟩
      ·exact hg a (by omega)
     have hj2:=goes_bg lv hg2 (j+2) (Nat.le_refl _)
     rw [hs2] at hj2
     refine AX.sR (rgAV [2,4,5,6,7,8,77]) ?_
     refine AX.condF ?_
     refine AX.keepA [2,4,5,6,7,8] ?_
     refine AX.skip ?_
     refine nmZ ?_
     refine ⟨_,_,fun n=>if n=1 then 4 else if n=2 then 6 else n,?_,
      leQ10
      , ⟨j+1,i+1,s2,ls2,bs2,by omega,by omega,rfl,hg2,by rw [hs2];omega,hs2,hls2,hbs2,rfl⟩⟩
     omega
  ·subst hbk
   refine AX.sR (rgAV [2,4,5,6,7,8,9,58]) ?_
   refine AX.condT ?_
   refine AX.exit ?_
   refine nmZ ?_
   refine ⟨j,i,_,hK,⟨hg,hb,.inl ⟨v,by omega,rfl,by rw [hR2];exact hRv⟩⟩,?_⟩
   rw [hls,hbs]
   exact
   leQ10
 rintro st ⟨j,K,bk,hK,⟨hg,hb,hbk⟩,hle⟩
 refine AX.weaken id hle ?_
 clear hle c1 cS csm hb1 hml0 hss
 have hXs:mkS n 61 l [] []=some (some (catT (Pl n l) (j+1))):=by
  refine mk_stop lv hg hb ?_
  rcases hbk with ⟨v,hv,_,e⟩ | ⟨_,e⟩
  ·exact stop_back hv e
  ·exact .inr e
 rw [hX] at hXs
 rw [hXs]
 clear hX hXs
 have hj59:j+1≤60:=Nat.le_trans (goes_bg lv hg (j+1) (Nat.le_refl _)) hb
 obtain ⟨ls,hls⟩:∃ x,LV n l K=x:=⟨_,rfl⟩
 obtain ⟨bs,hbs⟩:∃ x,bI n l K=x:=⟨_,rfl⟩
 have hlsl:(swl ls).length=K:=by rw [← hls,swl_length,LV_length]
 have hbsl:(wl bs).length=K:=by rw [← hbs,wl_length,bI_length]
 have hlsg:∀ i,i<K→(swl ls).getD i .junk=.sl (wl (Rl n l i)):=fun i hi=>by rw [← hls,swl_get (by rw [LV_length];exact hi),LV_get hi]
 have hbsg:∀ i,i<K→(wl bs).getD i .junk=.i .i64 ((bgL n l i:Nat):Int):=fun i hi=>by rw [← hbs,wl_get (by rw [bI_length];exact hi),bI_get hi]
 have hbl60:∀ i,i≤j+1→bgL n l i≤60:=fun i hi=>Nat.le_trans (bgL_mono n l hi) hb
 rw [hls,hbs]
 clear hls hbs
 refine AX.sR (rgAV [2,4,5,6,8,13]) ?_
 refine AX.own0c 3 0 64 2 rfl rfl (by show 0<1;decide) ?_
 refine AX.seq ?_
 refine AX.sR (rgWV [2,4,5,6,8,13,79,80,81] (aI @hlsl oT) oT) ?_
 refine AX.weaken id (st':=⟨[(81,.i .i64 (0:Nat)),(80,.i .i64 K),(79,.own 1 0 K 1),(13,.ptr 3 0),(8,.i .i64 bk),(6,.own 2 0 K 1),(5,.own 1 0 K 1),(4,.i .i64 n),(2,.ptr 0 0)],[(4,⟨64,wl (fl ([]:T2))⟩),(3,⟨29,[.own 4 0 ([]:T2).length 2]⟩),(2,⟨3,wl bs⟩),(1,⟨22,swl ls⟩),(0,⟨29,[.nl]⟩)],5⟩)
  leQ10
  ?_
 refine AX.block ?_
 refine AX.loop (fun M st=>∃ (i:Nat) (S:T2),i≤K∧M=K-i∧catT (Pl n l) i=S∧st=⟨[(81,.i .i64 i),(80,.i .i64 K),(79,.own 1 0 K 1),(13,.ptr 3 0),(8,.i .i64 bk),(6,.own 2 0 K 1),(5,.own 1 0 K 1),(4,.i .i64 n),(2,.ptr 0 0)],[(4,⟨64,wl (fl S)⟩),(3,⟨29,[.own 4 0 S.length 2]⟩),(2,⟨3,wl bs⟩),(1,⟨22,swl ls⟩),(0,⟨29,[.nl]⟩)],5⟩) K ⟨0,[],Nat.zero_le _,rfl,rfl,rfl⟩ ?_
 rintro M st ⟨i,S,hi,rfl,hS,rfl⟩
 by_cases h1:i<K
 ·have hgi:=hlsg i h1
  have cxi:=cx i
  have cwi:=cw i
  have hdi:=hdv i
  have hmi:=hmL i
  have htwo:=lv.two i
  have hSl:S.length=bgL n l i:=by rw [← hS,cat_length]
  have hSb:=hbl60 i (by omega)
  have hob:∀ x ∈ ol n l i,0≤x∧x≤64:=fun x hx=>by
   obtain ⟨a,ha,rfl⟩:=mem_outI hx
   have:=hRl i
   omega
  have hol64:(ol n l i).length≤128:=by omega
  have hlo:=wl_length (ol n l i)
  have hRss:0≤sumI (Rl n l i)∧sumI (Rl n l i)≤64000*64:=by
   rw [hsum i]
   refine ⟨Int.mul_nonneg (by omega) (by omega),Int.mul_le_mul hn3 (by omega) (by omega) (by decide)⟩
  have hne:n≠0:=by omega
  obtain ⟨R,hR⟩:∃ x,Rl n l i=x:=⟨_,rfl⟩
  obtain ⟨Rn,hRn⟩:∃ x,Rl n l (i+1)=x:=⟨_,rfl⟩
  rw [hR] at hgi cwi hdi hRss
  rw [hR,hRn] at cxi
  clear cx cw hdv hsum hlsg
  refine AX.sR (rgAV [2,4,5,6,8,13,79,80,81,82]) ?_
  refine AX.seq ?_
  refine AX.condT ?_
  refine AX.keepA [2,4,5,6,8,13,79,80,81] ?_
  refine AX.skip ?_
  refine nmZ ?_
  refine AX.seq ?_
  refine AX.block ?_
  refine AX.sR (rgWV [2,4,5,6,8,13,14,15,79,80,81] (aI @hlsl (aI @hgi oT)) oT) ?_
  refine AX.sR (rgCV [2,4,5,6,8,13,14,15,17,79,80,81] (aI cxi oT)) ?_
  refine AX.sR (rgAV [2,4,5,6,8,13,14,15,17,18,79,80,81]) ?_
  refine AX.cut (fun st=>∃ to:Nat,to≤60∧((to:Int)=tt n l i∨ml n l (i+1)=0)∧Le 0 id ⟨[(81,.i .i64 i),(80,.i .i64 K),(79,.own 1 0 K 1),(18,.i .i64 (to:Nat)),(17,.sl (wl (ol n l i))),(15,.sl (wl R)),(13,.ptr 3 0),(8,.i .i64 bk),(6,.own 2 0 K 1),(5,.own 1 0 K 1),(4,.i .i64 n),(2,.ptr 0 0)],[(4,⟨64,wl (fl S)⟩),(3,⟨29,[.own 4 0 S.length 2]⟩),(2,⟨3,wl bs⟩),(1,⟨22,swl ls⟩),(0,⟨29,[.nl]⟩)],5⟩ st) ?_ ?_
  ·refine AX.block ?_
   by_cases h2:i+1<K
   ·have hgb:=hbsg (i+1) h2
    have ht:=tt_next (hg i (by omega)).1
    have hb60:=hbl60 (i+1) (by omega)
    have hii:(i:Int)+1=((i+1:Nat):Int):=rfl
    refine AX.sR (rgWV [2,4,5,6,8,13,14,15,17,18,79,80,81,92] (aI @hlsl oT) oT) ?_
    refine AX.condT ?_
    refine AX.rR (rgWV [2,4,5,6,8,13,15,17,18,79,80,81] (aI @hbsl (aI @hii (aI @hgb oT))) oT) ?_
    refine ⟨rfl,bgL n l (i+1),hb60,.inl (by rw [ht]),?_⟩
    exact
    leQ10
   ·have hij:i=j:=by omega
    refine AX.sR (rgWV [2,4,5,6,8,13,14,15,17,18,79,80,81,92] (aI @hlsl oT) oT) ?_
    refine AX.condF ?_
    rcases hbk with ⟨v,hv,hbe,e⟩ | ⟨hbe,e⟩
    ·have hgb:=hbsg v (by omega)
     have hb60:=hbl60 v (by omega)
     have ht:=tt_back hg hv e
     subst hbe
     refine AX.sR (rgAV [2,4,5,6,8,13,15,17,18,79,80,81,103]) ?_
     refine AX.condT ?_
     refine AX.rR (rgWV [2,4,5,6,8,13,15,17,18,79,80,81] (aI @hbsl (aI @hgb oT)) oT) ?_
     refine ⟨rfl,bgL n l v,hb60,.inl (by rw [hij,ht]),?_⟩
     exact
     leQ10
    ·subst hbe
     refine AX.sR (rgAV [2,4,5,6,8,13,15,17,18,79,80,81,103]) ?_
     refine AX.condF ?_
     refine AX.keepA [2,4,5,6,8,13,15,17,18,79,80,81] ?_
     refine AX.skip ?_
     refine ⟨rfl,0,by decide,.inr (by rw [hij];exact e),?_⟩
     exact
     leQ10
  rintro st ⟨to,hto60,hto,hle⟩
  refine AX.weaken id hle ?_
  clear hle hbk
  refine AX.sR (rgAV [2,4,5,6,8,13,15,17,18,19,79,80,81]) ?_
  have hpx:=fun (k:Nat) (hk:k<ml n l i)=>pairs_x lv hk to hto
  generalize ho:ol n l i=o at *
  generalize hm:ml n l i=m at *
  refine AX.weaken id (st':=⟨[(81,.i .i64 i),(80,.i .i64 K),(79,.own 1 0 K 1),(19,.i .i64 (0:Nat)),(18,.i .i64 to),(17,.sl (wl o)),(15,.sl (wl R)),(13,.ptr 3 0),(8,.i .i64 bk),(6,.own 2 0 K 1),(5,.own 1 0 K 1),(4,.i .i64 n),(2,.ptr 0 0)],[(4,⟨64,wl (fl S)⟩),(3,⟨29,[.own 4 0 S.length 2]⟩),(2,⟨3,wl bs⟩),(1,⟨22,swl ls⟩),(0,⟨29,[.nl]⟩)],5⟩)
   leQ10
   ?_
  refine AX.block ?_
  refine AX.loop (fun M st=>∃ (k:Nat) (S:T2),k≤m∧M=m-k∧catT (Pl n l) i++pairsI (endsI o (tt n l i:Nat) (ml n l (i+1))) k=S∧st=⟨[(81,.i .i64 i),(80,.i .i64 K),(79,.own 1 0 K 1),(19,.i .i64 k),(18,.i .i64 to),(17,.sl (wl o)),(15,.sl (wl R)),(13,.ptr 3 0),(8,.i .i64 bk),(6,.own 2 0 K 1),(5,.own 1 0 K 1),(4,.i .i64 n),(2,.ptr 0 0)],[(4,⟨64,wl (fl S)⟩),(3,⟨29,[.own 4 0 S.length 2]⟩),(2,⟨3,wl bs⟩),(1,⟨22,swl ls⟩),(0,⟨29,[.nl]⟩)],5⟩) m ⟨0,S,Nat.zero_le _,rfl,by rw [← hS];exact List.append_nil _,rfl⟩ ?_
  clear hS hSl
  rintro M st ⟨k,S,hk,rfl,hS,rfl⟩
  have hSl:S.length=bgL n l i+k:=by rw [← hS,List.length_append,cat_length,pairsI_length]
  by_cases h2:k<m
  ·have hpk:=hpx k h2
   obtain ⟨X0,hX0⟩:∃ x,xE o to (2*k)=x:=⟨_,rfl⟩
   obtain ⟨X1,hX1⟩:∃ x,xE o to (2*k+1)=x:=⟨_,rfl⟩
   have hxb:∀ p,p≤200→-100≤xE o to p∧xE o to p≤300:=fun p hp=>by
    unfold xE
    by_cases h:p<o.length
    ·rw [if_pos h]
     have:=hob _ (getD_mem_W h)
     omega
    ·rw [if_neg h]
     omega
   have hX0b:=hxb (2*k) (by omega)
   have hX1b:=hxb (2*k+1) (by omega)
   rw [hX0] at hX0b
   rw [hX1] at hX1b
   have hSn:catT (Pl n l) i++pairsI (endsI o (tt n l i:Nat) (ml n l (i+1))) (k+1)=S++[(X0,X1)]:=by rw [hpk,← List.append_assoc,hS,hX0,hX1]
   have hpl0:2*(k:Int)+((0:Nat):Int)=((2*k:Nat):Int):=by omega
   have hpl1:2*(k:Int)+((1:Nat):Int)=((2*k+1:Nat):Int):=by omega
   clear hpk hpx hS hxb
   refine AX.seq ?_
   refine AX.sR (rgWV [2,4,5,6,8,13,15,17,18,19,79,80,81,115] (aI @hdi (aI @hne oT)) (aI cwi oT)) ?_
   refine AX.condT ?_
   refine AX.keepA [2,4,5,6,8,13,15,17,18,19,79,80,81] ?_
   refine AX.skip ?_
   refine nmZ ?_
   refine AX.seq ?_
   refine AX.block ?_
   refine AX.sR (rgAV [2,4,5,6,8,13,15,17,18,19,20,79,80,81]) ?_
   refine AX.seq ?_
   refine AX.sR (rgAV [2,4,5,6,8,13,15,17,18,19,20,21,79,80,81]) ?_
   refine AX.weaken id (st':=⟨[(81,.i .i64 i),(80,.i .i64 K),(79,.own 1 0 K 1),(21,.i .i64 (0:Nat)),(20,.ptr 5 0),(19,.i .i64 k),(18,.i .i64 to),(17,.sl (wl o)),(15,.sl (wl R)),(13,.ptr 3 0),(8,.i .i64 bk),(6,.own 2 0 K 1),(5,.own 1 0 K 1),(4,.i .i64 n),(2,.ptr 0 0)],[(5,⟨64,[.i .i64 0,.i .i64 0]⟩),(4,⟨64,wl (fl S)⟩),(3,⟨29,[.own 4 0 S.length 2]⟩),(2,⟨3,wl bs⟩),(1,⟨22,swl ls⟩),(0,⟨29,[.nl]⟩)],6⟩)
    leQ10
    ?_
   refine AX.block ?_
   refine AX.loop (fun M st=>∃ (c:Nat) (p q:Int),c≤2∧M=2-c∧((c=0∧p=0∧q=0)∨(c=1∧X0=p∧q=0)∨(c=2∧X0=p∧X1=q))∧st=⟨[(81,.i .i64 i),(80,.i .i64 K),(79,.own 1 0 K 1),(21,.i .i64 c),(20,.ptr 5 0),(19,.i .i64 k),(18,.i .i64 to),(17,.sl (wl o)),(15,.sl (wl R)),(13,.ptr 3 0),(8,.i .i64 bk),(6,.own 2 0 K 1),(5,.own 1 0 K 1),(4,.i .i64 n),(2,.ptr 0 0)],[(5,⟨64,[.i .i64 p,.i .i64 q]⟩),(4,⟨64,wl (fl S)⟩),(3,⟨29,[.own 4 0 S.length 2]⟩),(2,⟨3,wl bs⟩),(1,⟨22,swl ls⟩),(0,⟨29,[.nl]⟩)],6⟩) 2 ⟨0,0,0,Nat.zero_le _,rfl,.inl ⟨rfl,rfl,rfl⟩,rfl⟩ ?_
   rintro M st ⟨c,p,q,hc,rfl,hcs,rfl⟩
   rcases hcs with ⟨rfl,rfl,rfl⟩ | ⟨rfl,hp,rfl⟩ | ⟨rfl,hp,hq⟩
   ·clear hSn
    refine AX.seq ?_
    refine AX.sR (rgAV [2,4,5,6,8,13,15,17,18,19,20,21,79,80,81,119]) ?_
    refine AX.condT ?_
    refine AX.keepA [2,4,5,6,8,13,15,17,18,19,20,21,79,80,81] ?_
    refine AX.skip ?_
    refine nmZ ?_
    refine AX.seq ?_
    refine AX.block ?_
    refine AX.sR (rgWV [2,4,5,6,8,13,15,17,18,19,20,21,22,79,80,81] (aI @hpl0 oT) oT) ?_
    by_cases h7:2*k<o.length
    ·have hgo:=wl_get h7
     have hv:-1-o.getD (2*k) 0=X0:=by rw [← hX0];exact (if_pos h7).symm
     have hob2:=hob _ (getD_mem_W h7)
     generalize o.getD (2*k) 0=y at *
     refine AX.sR (rgWV [2,4,5,6,8,13,15,17,18,19,20,21,22,79,80,81,129] (aI @hlo oT) oT) ?_
     refine AX.condT ?_
     refine AX.rR (rgWV [2,4,5,6,8,13,15,17,18,19,20,21,79,80,81] (aI @hlo (aI @hgo (aI @hv oT))) oT) ?_
     refine nmZ ?_
     refine AX.rR (rgWV [2,4,5,6,8,13,15,17,18,19,20,21,79,80,81] (aI @lit_add oT) oT) ?_
     refine nmZ ?_
     refine ⟨_,_,id,?_,
      leQ10
      , ⟨1,X0,0,by omega,rfl,.inr (.inl ⟨rfl,rfl,rfl⟩),rfl⟩⟩
     omega
    ·have hv:(to:Int)+((2*k:Nat):Int)-(o.length:Int)=X0:=by
      rw [← hX0]
      unfold xE
      rw [if_neg h7]
      omega
     refine AX.sR (rgWV [2,4,5,6,8,13,15,17,18,19,20,21,22,79,80,81,129] (aI @hlo oT) oT) ?_
     refine AX.condF ?_
     refine AX.rR (rgWV [2,4,5,6,8,13,15,17,18,19,20,21,79,80,81] (aI @hlo (aI @hv oT)) oT) ?_
     refine nmZ ?_
     refine AX.rR (rgWV [2,4,5,6,8,13,15,17,18,19,20,21,79,80,81] (aI @lit_add oT) oT) ?_
     refine nmZ ?_
     refine ⟨_,_,id,?_,
      leQ10
      , ⟨1,X0,0,by omega,rfl,.inr (.inl ⟨rfl,rfl,rfl⟩),rfl⟩⟩
     omega
   ·subst hp
    clear hSn
    refine AX.seq ?_
    refine AX.sR (rgAV [2,4,5,6,8,13,15,17,18,19,20,21,79,80,81,119]) ?_
    refine AX.condT ?_
    refine AX.keepA [2,4,5,6,8,13,15,17,18,19,20,21,79,80,81] ?_
    refine AX.skip ?_
    refine nmZ ?_
    refine AX.seq ?_
    refine AX.block ?_
    refine AX.sR (rgWV [2,4,5,6,8,13,15,17,18,19,20,21,22,79,80,81] (aI @hpl1 oT) oT) ?_
    by_cases h7:2*k+1<o.length
    ·have hgo:=wl_get h7
     have hv:-1-o.getD (2*k+1) 0=X1:=by rw [← hX1];exact (if_pos h7).symm
     have hob2:=hob _ (getD_mem_W h7)
     generalize o.getD (2*k+1) 0=y at *
     refine AX.sR (rgWV [2,4,5,6,8,13,15,17,18,19,20,21,22,79,80,81,129] (aI @hlo oT) oT) ?_
     refine AX.condT ?_
     refine AX.rR (rgWV [2,4,5,6,8,13,15,17,18,19,20,21,79,80,81] (aI @hlo (aI @hgo (aI @hv oT))) oT) ?_
     refine nmZ ?_
     refine AX.rR (rgWV [2,4,5,6,8,13,15,17,18,19,20,21,79,80,81] (aI @lit_add oT) oT) ?_
     refine nmZ ?_
     refine ⟨_,_,id,?_,
      leQ10
      , ⟨2,X0,X1,by omega,rfl,.inr (.inr ⟨rfl,rfl,rfl⟩),rfl⟩⟩
     omega
    ·have hv:(to:Int)+((2*k+1:Nat):Int)-(o.length:Int)=X1:=by
      rw [← hX1]
      unfold xE
      rw [if_neg h7]
      omega
     refine AX.sR (rgWV [2,4,5,6,8,13,15,17,18,19,20,21,22,79,80,81,129] (aI @hlo oT) oT) ?_
     refine AX.condF ?_
     refine AX.rR (rgWV [2,4,5,6,8,13,15,17,18,19,20,21,79,80,81] (aI @hlo (aI @hv oT)) oT) ?_
     refine nmZ ?_
     refine AX.rR (rgWV [2,4,5,6,8,13,15,17,18,19,20,21,79,80,81] (aI @lit_add oT) oT) ?_
     refine nmZ ?_
     refine ⟨_,_,id,?_,
      leQ10
      , ⟨2,X0,X1,by omega,rfl,.inr (.inr ⟨rfl,rfl,rfl⟩),rfl⟩⟩
     omega
   ·subst hp hq
    have hwf:=wlfl_length S
    have happ:=wl_fl S X0 X1
    have hlen:(S++[(X0,X1)]).length=S.length+1:=by simp
    generalize S++[(X0,X1)]=S2 at *
    refine AX.seq ?_
    refine AX.sR (rgAV [2,4,5,6,8,13,15,17,18,19,20,21,79,80,81,119]) ?_
    refine AX.condF ?_
    refine AX.exit ?_
    refine nmZ ?_
    refine AX.rR (rgEV [2,4,5,6,8,13,15,17,18,19,79,80,81] (aI @hwf (aI @zerosV_1 (aI @tkS (aI @tk0 oT)))) oT (aI (effBs2 _) oT)) ?_
    refine nmZ ?_
    rw [happ]
    refine AX.rR (rgWV [2,4,5,6,8,13,15,17,18,19,79,80,81] (aI @lit_add oT) oT) ?_
    refine nmZ ?_
    refine ⟨_,_,fun n=>if n=4 then 7 else n,?_,
     (leQ10H hlen)
     , ⟨k+1,S2,by omega,rfl,hSn,rfl⟩⟩
    omega
  ·obtain rfl:k=m:=by omega
   have hcat:catT (Pl n l) (i+1)=S:=by
    rw [← hS,← hm,← ho]
    rfl
   clear hpx
   refine AX.seq ?_
   refine AX.sR (rgWV [2,4,5,6,8,13,15,17,18,19,79,80,81,115] (aI @hdi (aI @hne oT)) (aI cwi oT)) ?_
   refine AX.condF ?_
   refine AX.exit ?_
   refine nmZ ?_
   refine AX.rR (rgWV [2,4,5,6,8,13,79,80,81] (aI @lit_add oT) oT) ?_
   refine nmZ ?_
   refine ⟨_,_,id,?_,
    leQ10
    , ⟨i+1,S,by omega,rfl,hcat,rfl⟩⟩
   omega
 ·obtain rfl:i=K:=by omega
  have e:catT (Pl n l) (j+1)=S:=by rw [← hK];exact hS
  rw [e]
  refine AX.sR (rgAV [2,4,5,6,8,13,79,80,81,82]) ?_
  refine AX.seq ?_
  refine AX.condF ?_
  refine AX.exit ?_
  refine nmZ ?_
  refine AX.sR (rgAV [2,3]) ?_
  refine AX.ret ⟨.inl rfl,?_⟩
  exact Done.smpO29 rfl rfl rfl rfl rfl
theorem make29_ok (l:List Int)(hl:l.length<2 ^ 62)(hb:bW l):PCall Tryz.prog 12 [.sl (wl l)] (mkV l) []:=by
 cases h:isO l
 ·have c1:=odds29_ok l hl hb
  have e:mkV l=.tup [.agg [.sl []],.i .i64 1]:=by unfold mkV;rw [h];rfl
  rw [h] at c1
  rw [e]
  refine PCall.of_ax Tryz.call12 Tryz.func12 rfl (by simp [Tryz.ntmps12]) fun O w=>?_
  simp only [Tryz.ntmps12,Tryz.results12,argFr]
  generalize wl l=A at *
  refine AX.sR (rgAV [0,2]) ?_
  refine AX.seq ?_
  refine AX.sR (rgCV [0,2,25] (aI c1 oT)) ?_
  refine AX.condT ?_
  refine AX.sR (rgAV [2,3]) ?_
  refine AX.ret ⟨.inl rfl,?_⟩
  exact Done.smpN29 rfl rfl rfl
 ·exact make29_good l h
theorem make_bad (l:List Int)(h:isO l=false)(hl:l.length<2 ^ 62)(hb:bW l):PCall Tryz.prog 11 [.sl (wl l)] (mkV l) []:=by
 have c1:=crightO_ok l hl hb
 have e:mkV l=.tup [.agg [.sl []],.i .i64 1]:=by unfold mkV;rw [h];rfl
 rw [h] at c1
 rw [e]
 refine PCall.of_ax Tryz.call11 Tryz.func11 rfl (by simp [Tryz.ntmps11]) fun O w=>?_
 simp only [Tryz.ntmps11,Tryz.results11,argFr]
 generalize wl l=A at *
 refine AX.sR (rgAV [0,2]) ?_
 refine AX.seq ?_
 refine AX.sR (rgCV [0,2,21] (aI c1 oT)) ?_
 refine AX.condT ?_
 refine AX.sR (rgAV [2,3]) ?_
 refine AX.ret ⟨.inl rfl,?_⟩
 exact Done.smpN rfl rfl rfl
end Go.Proofs.YteidabibgjokkaaGreatDoor
