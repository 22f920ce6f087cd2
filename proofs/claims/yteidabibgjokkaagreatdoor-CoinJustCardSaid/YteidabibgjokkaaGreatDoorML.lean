import Derived.Test.YteidabibgjokkaaGreatDoorMC
set_option maxRecDepth 20000
set_option linter.all false
namespace Go.Proofs.YteidabibgjokkaaGreatDoor
open Go Go.Proofs.YteidabibgjokkaaGreatDoor.Lift
attribute [local irreducible] Lift.PCall Lift.HCall
def Rl (n:Int) (l:List Int):Nat→List Int
 | 0=>l
 | j+1=>nxtI n (Rl n l j) (Rl n l j).length
def ol (n:Int) (l:List Int) (j:Nat):List Int:=outI n (Rl n l j) (Rl n l j).length
def ml (n:Int) (l:List Int) (j:Nat):Nat:=(sumI (Rl n l j) / n).toNat
def bgL (n:Int) (l:List Int):Nat→Nat
 | 0=>0
 | j+1=>bgL n l j+ml n l j
def mLv (n:Int) (l:List Int) (j:Nat):Lv:=(List.range j).map fun i=>(Rl n l i,bgL n l i)
def tt (n:Int) (l:List Int) (i:Nat):Nat:=(lookL (Rl n l (i+1)) (mLv n l (i+1))).getD (bgL n l (i+1))
def Pl (n:Int) (l:List Int) (i:Nat):T2:=pairsI (endsI (ol n l i) (tt n l i:Nat) (ml n l (i+1))) (ml n l i)
def catT (P:Nat→T2):Nat→T2
 | 0=>[]
 | i+1=>catT P i++P i
def stopL (n:Int) (l:List Int) (j:Nat):Prop:=(lookL (Rl n l (j+1)) (mLv n l (j+1))).isSome=true∨ml n l (j+1)=0
theorem mLv_succ (n:Int)(l:List Int)(j:Nat):mLv n l (j+1)=mLv n l j++[(Rl n l j,bgL n l j)]:=by
 unfold mLv
 rw [List.range_succ,List.map_append]
 rfl
theorem lookL_none {R:List Int}:∀ {M:Lv},lookL R M=none↔∀ p ∈ M,R≠p.1
 | []=>by simp [lookL]
 | (a,v) :: M=>by
  unfold lookL
  by_cases h:R=a
  ·simp [h]
  ·rw [if_neg h,lookL_none]
   simp [h]
theorem lookL_uniq {R:List Int} {v:Nat}:∀ {M:Lv},(R,v) ∈ M→(∀ p ∈ M,R=p.1→p.2=v)→lookL R M=some v
 | [],h,_=>by cases h
 | (a,w) :: M,h,hu=>by
  unfold lookL
  by_cases e:R=a
  ·rw [if_pos e]
   exact congrArg some (hu (a,w) (by simp) e)
  ·rw [if_neg e]
   refine lookL_uniq ?_ fun p hp=>hu p (by simp [hp])
   rcases List.mem_cons.1 h with h | h
   ·injection h with h1 h2
    exact absurd h1 e
   ·exact h
theorem mem_mLv {n:Int} {l:List Int} {j:Nat} {p:List Int × Nat} (h:p ∈ mLv n l j):∃ i,i<j∧p=(Rl n l i,bgL n l i):=by
 obtain ⟨i,hi,rfl⟩:=List.mem_map.1 h
 exact ⟨i,List.mem_range.1 hi,rfl⟩
theorem mLv_mem {n:Int} {l:List Int} {i j:Nat} (h:i<j):(Rl n l i,bgL n l i) ∈ mLv n l j:=List.mem_map.2 ⟨i,List.mem_range.2 h,rfl⟩
structure Lvl (n:Int) (l:List Int):Prop where
 n2:2≤n
 n3:n≤64000
 L1:2≤l.length
 L2:l.length≤64
 is:∀ j,IsL n l.length (Rl n l j) (ml n l j)
 two:∀ j,(ol n l j).length+ml n l (j+1)=2*ml n l j
 one:ml n l 0=1
theorem lvl_of {l:List Int} (h:isO l=true):Lvl (sumI l) l:=by
 obtain ⟨hF,n2,n3⟩:=isL_first h
 obtain ⟨q1,q2,q3⟩:=isO_iff.1 h
 have h1:ml (sumI l) l 0=1:=by
  show (sumI l / sumI l).toNat=1
  rw [Int.ediv_self (by omega)]
  rfl
 have step:∀ j,IsL (sumI l) l.length (Rl (sumI l) l j) (ml (sumI l) l j)→(ol (sumI l) l j).length+ml (sumI l) l (j+1)=2*ml (sumI l) l j∧IsL (sumI l) l.length (Rl (sumI l) l (j+1)) (ml (sumI l) l (j+1)):=fun j hj=>by
  obtain ⟨k1,k2⟩:=hj.next (by omega)
  have k3:=(k2.div (by omega)).1
  have e:ml (sumI l) l (j+1)=2*ml (sumI l) l j-(ol (sumI l) l j).length:=by
   show (sumI (nxtI (sumI l) (Rl (sumI l) l j) (Rl (sumI l) l j).length) / sumI l).toNat=_
   rw [k3]
   rfl
  refine ⟨?_,?_⟩
  ·rw [e]
   have:(ol (sumI l) l j).length≤2*ml (sumI l) l j:=k1
   omega
  ·rw [e]
   exact k2
 have is:∀ j,IsL (sumI l) l.length (Rl (sumI l) l j) (ml (sumI l) l j):=fun j=>by
  induction j with
  | zero=>rw [h1];exact hF
  | succ j ih=>exact (step j ih).2
 exact ⟨n2,n3,q1,q2,is,fun j=>(step j (is j)).1,h1⟩
theorem Pl_length (n:Int)(l:List Int)(i:Nat):(Pl n l i).length=ml n l i:=pairsI_length ..
theorem cat_length (n:Int)(l:List Int):∀ j,(catT (Pl n l) j).length=bgL n l j
 | 0=>rfl
 | j+1=>by rw [catT,List.length_append,cat_length n l j,Pl_length];rfl
open Classical in
theorem mk_at {n:Int} {l:List Int} (h:Lvl n l)(k j:Nat):mkS n (k+1) (Rl n l j) (mLv n l j) (catT (Pl n l) j)=if 60<bgL n l (j+1) then some none else if stopL n l j then some (some (catT (Pl n l) (j+1))) else mkS n k (Rl n l (j+1)) (mLv n l (j+1)) (catT (Pl n l) (j+1)):=by
 have hm:=((h.is j).div (by have:=h.n2;omega)).1
 have htwo:=h.two j
 have hlen:=cat_length n l j
 have hlen1:=cat_length n l (j+1)
 have hq:lookL (nxtI n (Rl n l j) (Rl n l j).length) (mLv n l j++[(Rl n l j,(catT (Pl n l) j).length)])=lookL (Rl n l (j+1)) (mLv n l (j+1)):=by
  rw [hlen,mLv_succ]
  rfl
 rw [mkS_succ hm rfl rfl hq]
 have e1:2*ml n l j-(outI n (Rl n l j) (Rl n l j).length).length=ml n l (j+1):=by
  have:(outI n (Rl n l j) (Rl n l j).length).length=(ol n l j).length:=rfl
  omega
 have e2:catT (Pl n l) j++pairsI (endsI (outI n (Rl n l j) (Rl n l j).length) (((lookL (Rl n l (j+1)) (mLv n l (j+1))).getD ((catT (Pl n l) j).length+ml n l j):Nat):Int) (2*ml n l j-(outI n (Rl n l j) (Rl n l j).length).length)) (ml n l j)=catT (Pl n l) (j+1):=by
  rw [e1,hlen]
  rfl
 rw [e2,hlen1,e1,hlen,← mLv_succ]
 by_cases h6:60<bgL n l (j+1)
 ·rw [if_pos h6,if_pos h6]
 ·rw [if_neg h6,if_neg h6]
  by_cases hs:stopL n l j
  ·rw [if_pos hs,if_pos (show (lookL (Rl n l (j+1)) (mLv n l (j+1))).isSome=true∨ml n l (j+1)=0 from hs)]
  ·rw [if_neg hs,if_neg (show ¬ ((lookL (Rl n l (j+1)) (mLv n l (j+1))).isSome=true∨ml n l (j+1)=0) from hs)]
   rfl
def goes (n:Int) (l:List Int) (j:Nat):Prop:=∀ i,i<j→¬ stopL n l i∧bgL n l (i+1)≤60
theorem goes_ml {n:Int} {l:List Int} (h:Lvl n l) {j:Nat} (hg:goes n l j):∀ i,i≤j→1≤ml n l i
 | 0,_=>by rw [h.one];exact Nat.le_refl _
 | i+1,hi=>by
  have:=(hg i (by omega)).1
  unfold stopL at this
  omega
theorem goes_bg {n:Int} {l:List Int} (h:Lvl n l) {j:Nat} (hg:goes n l j):∀ i,i≤j+1→i≤bgL n l i
 | 0,_=>Nat.zero_le _
 | i+1,hi=>by
  have ih:=goes_bg h hg i (by omega)
  have:=goes_ml h hg i (by omega)
  rw [bgL]
  omega
theorem mk_run {n:Int} {l:List Int} (h:Lvl n l):∀ j k,j+k=61→goes n l j→mkS n 61 l [] []=mkS n k (Rl n l j) (mLv n l j) (catT (Pl n l) j)
 | 0,k,e,_=>by
  obtain rfl:k=61:=by omega
  rfl
 | j+1,k,e,hg=>by
  have hg':goes n l j:=fun i hi=>hg i (by omega)
  have hj:=hg j (Nat.lt_succ_self _)
  rw [mk_run h j (k+1) (by omega) hg',mk_at h,if_neg (by omega),if_neg hj.1]
theorem mk_stop {n:Int} {l:List Int} (h:Lvl n l) {j:Nat} (hg:goes n l j)(hb:bgL n l (j+1)≤60)(hs:stopL n l j):mkS n 61 l [] []=some (some (catT (Pl n l) (j+1))):=by
 have:=goes_bg h hg (j+1) (Nat.le_refl _)
 obtain ⟨k,hk⟩:∃ k,j+(k+1)=61:=⟨60-j,by omega⟩
 rw [mk_run h j (k+1) hk hg,mk_at h,if_neg (by omega),if_pos hs]
theorem mk_limit {n:Int} {l:List Int} (h:Lvl n l) {j:Nat} (hg:goes n l j)(hb:bgL n l (j+1)≤60)(hs:¬ stopL n l j)(hb2:60<bgL n l (j+2)):mkS n 61 l [] []=some none:=by
 have:=goes_bg h hg (j+1) (Nat.le_refl _)
 have hg2:goes n l (j+1):=fun i hi=>by
  by_cases e:i=j
  ·subst e;exact ⟨hs,hb⟩
  ·exact hg i (by omega)
 obtain ⟨k,hk⟩:∃ k,j+1+(k+1)=61:=⟨59-j,by omega⟩
 rw [mk_run h (j+1) (k+1) hk hg2,mk_at h,if_pos hb2]
theorem goes_ne {n:Int} {l:List Int} {j:Nat} (hg:goes n l j) {a b:Nat} (hab:a<b)(hb:b≤j):Rl n l a≠Rl n l b:=by
 obtain ⟨c,rfl⟩:∃ c,b=c+1:=⟨b-1,by omega⟩
 have hs:=(hg c (by omega)).1
 unfold stopL at hs
 have hn:lookL (Rl n l (c+1)) (mLv n l (c+1))=none:=by
  cases hq:lookL (Rl n l (c+1)) (mLv n l (c+1)) with
  | none=>rfl
  | some v=>exact absurd (.inl (by rw [hq];rfl)) hs
 exact fun e=>lookL_none.1 hn _ (mLv_mem hab) e.symm
theorem tt_next {n:Int} {l:List Int} {i:Nat} (hs:¬ stopL n l i):tt n l i=bgL n l (i+1):=by
 unfold tt
 cases hq:lookL (Rl n l (i+1)) (mLv n l (i+1)) with
 | none=>rfl
 | some v=>exact absurd (.inl (by rw [hq];rfl)) hs
theorem tt_back {n:Int} {l:List Int} {j v:Nat} (hg:goes n l j)(hv:v≤j)(e:Rl n l v=Rl n l (j+1)):tt n l j=bgL n l v:=by
 unfold tt
 rw [lookL_uniq (v:=bgL n l v) (e ▸ mLv_mem (by omega)) fun p hp hpe=>?_]
 ·rfl
 ·obtain ⟨i,hi,rfl⟩:=mem_mLv hp
  have h1:Rl n l v=Rl n l i:=e.trans hpe
  rcases Nat.lt_trichotomy v i with h | h | h
  ·exact absurd h1 (goes_ne hg h (by omega))
  ·rw [h]
  ·exact absurd h1.symm (goes_ne hg h hv)
def xE (o:List Int) (to:Int) (p:Nat):Int:=if p<o.length then -1-o.getD p 0 else to+((p:Int)-(o.length:Int))
theorem endsI_get {o:List Int} {to:Int} {more p:Nat} (h:p<o.length+more):(endsI o to more).getD p 0=xE o to p:=by
 unfold endsI xE
 by_cases hp:p<o.length
 ·rw [if_pos hp,List.getD_eq_getElem?_getD,List.getElem?_append_left (by rw [endsO_length (Nat.le_refl _)];exact hp)]
  unfold endsO
  rw [List.take_length,List.getElem?_map,List.getElem?_eq_getElem hp,List.getD_eq_getElem?_getD,List.getElem?_eq_getElem hp]
  rfl
 ·rw [if_neg hp,List.getD_eq_getElem?_getD,List.getElem?_append_right (by rw [endsO_length (Nat.le_refl _)];omega),endsO_length (Nat.le_refl _)]
  unfold endsM
  rw [List.getElem?_map,List.getElem?_range (by omega)]
  show to+((p-o.length:Nat):Int)=_
  omega
theorem mem_pairs {e:List Int} {k:Nat} {x:Int × Int} (h:x ∈ pairsI e k):∃ j,j<k∧x=(e.getD (2*j) 0,e.getD (2*j+1) 0):=by
 obtain ⟨j,hj,rfl⟩:=List.mem_map.1 h
 exact ⟨j,List.mem_range.1 hj,rfl⟩
theorem mem_cat {P:Nat→T2} {x:Int × Int}:∀ {j:Nat},x ∈ catT P j→∃ i,i<j∧x ∈ P i
 | 0,h=>by cases h
 | j+1,h=>by
  rcases List.mem_append.1 h with h | h
  ·obtain ⟨i,hi,hx⟩:=mem_cat h
   exact ⟨i,by omega,hx⟩
  ·exact ⟨j,Nat.lt_succ_self _,h⟩
theorem bgL_mono (n:Int) (l:List Int) {i:Nat}:∀ {j:Nat},i≤j→bgL n l i≤bgL n l j
 | 0,h=>by
  have:i=0:=by omega
  subst this
  exact Nat.le_refl _
 | j+1,h=>by
  by_cases e:i=j+1
  ·subst e;exact Nat.le_refl _
  ·have:=bgL_mono n l (i:=i) (j:=j) (by omega)
   rw [bgL]
   omega
theorem cat_isS {n:Int} {l:List Int} (h:Lvl n l) {j:Nat} (hg:goes n l j)(hb:bgL n l (j+1)≤60)(hs:stopL n l j):isS (catT (Pl n l) (j+1))=true:=by
 have h1:=goes_bg h hg (j+1) (Nat.le_refl _)
 have hlen:=cat_length n l (j+1)
 have hto:∀ i,i<j+1→tt n l i+ml n l (i+1)≤bgL n l (j+1)∨ml n l (i+1)=0:=fun i hi=>by
  by_cases e:i=j
  ·subst e
   rcases hs with h3 | h3
   ·left
    cases hq:lookL (Rl n l (i+1)) (mLv n l (i+1)) with
    | none=>rw [hq] at h3;cases h3
    | some v=>
     obtain ⟨a,ha,e⟩:=mem_mLv (lookL_mem hq)
     injection e with e1 e2
     have ht:tt n l i=bgL n l a:=by
      unfold tt
      rw [hq,e2]
      rfl
     have hm:ml n l (i+1)=ml n l a:=by unfold ml;rw [e1]
     have hmono:=bgL_mono n l (i:=a+1) (j:=i+1) (by omega)
     rw [bgL] at hmono
     omega
   ·exact .inr h3
  ·left
   rw [tt_next (hg i (by omega)).1]
   have hmono:=bgL_mono n l (i:=i+2) (j:=j+1) (by omega)
   rw [bgL] at hmono
   exact hmono
 have key:∀ i,i<j+1→∀ p,p<2*ml n l i→-64≤xE (ol n l i) (tt n l i:Nat) p∧xE (ol n l i) (tt n l i:Nat) p<((bgL n l (j+1):Nat):Int):=fun i hi p hp=>by
  have h2:=h.two i
  unfold xE
  by_cases hpo:p<(ol n l i).length
  ·rw [if_pos hpo]
   have hm:(ol n l i).getD p 0 ∈ ol n l i:=by
    rw [List.getD_eq_getElem?_getD,List.getElem?_eq_getElem hpo]
    exact List.getElem_mem _
   obtain ⟨c,hc,e⟩:=mem_outI hm
   rw [e]
   have hL:=(h.is i).len
   have:=h.L2
   omega
  ·rw [if_neg hpo]
   rcases hto i hi with h4 | h4
   ·omega
   ·omega
 refine isS_iff.2 ⟨by omega,by omega,fun x hx=>?_⟩
 obtain ⟨i,hi,hx⟩:=mem_cat hx
 obtain ⟨k,hk,rfl⟩:=mem_pairs hx
 have h2:=h.two i
 rw [endsI_get (by omega),endsI_get (by omega),hlen]
 exact ⟨key i hi _ (by omega),key i hi _ (by omega)⟩
theorem co_lay_li:lay Tryz.prog 22=some ⟨1,false,24,[.nl]⟩:=by kernel_rfl
attribute [go_sem] Tryz.underlying90 co_lay_li
theorem make_bad (l:List Int)(h:isO l=false)(hl:l.length<2 ^ 62)(hb:bW l):PCall Tryz.prog 11 [.sl (wl l)] (mkV l) []:=by
 have c1:=crightO_ok l hl hb
 have e:mkV l=.tup [.agg [.sl []],.i .i64 1]:=by unfold mkV;rw [h];rfl
 rw [h] at c1
 rw [e]
 refine PCall.of_ax Tryz.call11 Tryz.func11 rfl (by simp [Tryz.ntmps11]) fun O w=>?_
 simp only [Tryz.ntmps11,Tryz.results11,argFr]
 generalize wl l=A at *
 refine AX.sR (rgAV [0,2]) ?_
 refine AX.seq ?_
 refine AX.sR (rgCV [0,2,21] (aI c1 oT)) ?_
 refine AX.condT ?_
 refine AX.sR (rgAV [2,3]) ?_
 refine AX.ret ⟨.inl rfl,?_⟩
 exact Done.smpN rfl rfl rfl
end Go.Proofs.YteidabibgjokkaaGreatDoor
