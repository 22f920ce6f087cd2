import Derived.Test.YteidabibgjokkaaGreatDoorHB
set_option maxRecDepth 20000
set_option linter.all false
namespace Go.Proofs.YteidabibgjokkaaGreatDoor
open Go Go.Proofs.YteidabibgjokkaaGreatDoor.Lift
attribute [local irreducible] Lift.PCall Lift.HCall
theorem right_digits_val:∀ {l:List Nat},Dg l→right l=true→digits (val l)=l:=by
 intro l
 induction l with
 | nil=>intro _ _;exact digits_zero
 | cons d l ih=>
  intro hd hr
  obtain ⟨h1,h2⟩:=Dg_cons.1 hd
  have hr:=of_decide_eq_true hr
  have e:val (d :: l)=d+4294967296*val l:=rfl
  cases l with
  | nil=>
   have hd0:d≠0:=by
    rcases hr with h | h
    ·simp at h
    ·simpa using h
   rw [e,digits_pos (by omega)]
   have e0:val ([]:List Nat)=0:=rfl
   rw [e0,Nat.mul_zero,Nat.add_zero,Nat.mod_eq_of_lt h1,Nat.div_eq_of_lt h1,digits_zero]
  | cons d' l=>
   have hr':right (d' :: l)=true:=by
    refine decide_eq_true (.inr ?_)
    rcases hr with h | h
    ·simp at h
    ·simpa using h
   have hi:=ih h2 hr'
   have hp:val (d' :: l)≠0:=by
    intro h
    rw [h,digits_zero] at hi
    cases hi
   rw [e,digits_pos (by omega),show (d+4294967296*val (d' :: l)) % 4294967296=d by omega,show (d+4294967296*val (d' :: l)) / 4294967296=val (d' :: l) by omega,hi]
theorem isR_rat {s:Bool} {a b:List Nat} (ha:Dg a)(hb:Dg b)(h:isR s a b=true):∃ q:Rat,(s,a,b)=toRT q:=by
 unfold isR at h
 simp only [Bool.and_eq_true,decide_eq_true_eq] at h
 obtain ⟨⟨⟨⟨h1,h2⟩,h3⟩,h4⟩,h5⟩:=h
 have ea:=right_digits_val ha h1
 have eb:=right_digits_val hb h2
 have hb0:val b≠0:=by
  intro h
  rw [h,digits_zero] at eb
  rw [← eb] at h3
  simp at h3
 have hg:Nat.gcd (val a) (val b)=1:=of_decide_eq_true h4
 refine ⟨rq s (val a) (val b),?_⟩
 have hn:(rq s (val a) (val b)).num=sg s (val a):=by rw [rq_num hb0,hg,Nat.div_one]
 have hd:(rq s (val a) (val b)).den=val b:=by rw [rq_den hb0,hg,Nat.div_one]
 unfold toRT
 rw [hn,hd,sg_natAbs,sg_neg,ea,eb]
 have hs:(s && decide (val a≠0))=s:=by
  cases s
  ·rfl
  ·have:0<a.length:=by simpa using h5
   rw [Bool.true_and]
   exact decide_eq_true fun h=>by
    rw [h,digits_zero] at ea
    rw [← ea] at this
    simp at this
 rw [hs]
theorem isR3_rat {x:RT} (ha:Dg x.2.1)(hb:Dg x.2.2)(h:isR3 x=true):∃ q:Rat,x=toRT q:=by
 obtain ⟨s,a,b⟩:=x
 exact isR_rat ha hb h
theorem toRT_len {q:Rat} {L:Nat} (h1:(toRT q).2.1.length≤L)(h2:(toRT q).2.2.length≤L):rL q≤L:=Nat.max_le.2 ⟨h1,h2⟩
theorem all_rat {xs:List RT} (hd:∀ x ∈ xs,Dg x.2.1∧Dg x.2.2)(h:xs.all isR3=true):∃ qs:List Rat,xs=qs.map toRT:=by
 induction xs with
 | nil=>exact ⟨[],rfl⟩
 | cons x xs ih=>
  rw [List.all_cons,Bool.and_eq_true] at h
  obtain ⟨qs,hq⟩:=ih (fun y hy=>hd y (List.mem_cons_of_mem _ hy)) h.2
  obtain ⟨q,hx⟩:=isR3_rat (hd x List.mem_cons_self).1 (hd x List.mem_cons_self).2 h.1
  exact ⟨q :: qs,by rw [hx,hq];rfl⟩
theorem list_vl {n:Nat} {qs:List Rat} (h:qs.length=n):∃ v:Nat→Rat,qs=vl n v:=by
 refine ⟨fun i=>qs.getD i 0,?_⟩
 apply List.ext_getElem?
 intro j
 unfold vl
 by_cases hj:j<n
 ·simp only [List.getElem?_map,List.getElem?_range hj,Option.map_some]
  rw [List.getD_eq_getElem?_getD,List.getElem?_eq_getElem (by omega)]
  rfl
 ·rw [List.getElem?_eq_none (by omega),List.getElem?_eq_none (by simp;omega)]
theorem isW_vec {n:Nat} {ss:List RT} (hd:∀ x ∈ ss,Dg x.2.1∧Dg x.2.2)(h:isW n ss=true):∃ v:Nat→Rat,ss=(vl n v).map toRT∧∀ i,i<n→0≤v i:=by
 unfold isW at h
 rw [Bool.and_eq_true,decide_eq_true_eq,Bool.not_eq_true',List.any_eq_false] at h
 obtain ⟨h1,h2⟩:=h
 obtain ⟨qs,rfl⟩:=all_rat hd (List.all_eq_true.2 fun x hx=>by
  have:=h2 x hx
  cases h:isR3 x
  ·simp [h] at this
  ·rfl)
 rw [List.length_map] at h1
 obtain ⟨v,rfl⟩:=list_vl h1
 refine ⟨v,rfl,fun i hi=>?_⟩
 have hm:toRT (v i) ∈ (vl n v).map toRT:=List.mem_map.2 ⟨v i,List.mem_map.2 ⟨i,by simpa using hi,rfl⟩,rfl⟩
 have:=h2 _ hm
 have h3:(toRT (v i)).1=false:=by
  cases h:(toRT (v i)).1
  ·rfl
  ·simp [h] at this
 exact num_nonneg.1 h3
set_option maxHeartbeats 4000000 in
theorem rweights_ok (n:Nat)(hn:n≤60)(ss:List RT)(hl:ss.length<2 ^ 40)(hx:okX ss):PCall Tryz.prog 98 [.sl (ss.map fR),.i .i64 n] (.b (isW n ss)) []:=by
 refine PCall.of_ax Tryz.call98 Tryz.func98 rfl (by simp [Tryz.ntmps98]) fun O w=>?_
 simp only [Tryz.ntmps98,Tryz.results98,argFr]
 have hml:(ss.map fR).length=ss.length:=List.length_map ..
 by_cases hn':ss.length=n
 ·have hbad:∀ x ∈ ss,(!isR3 x || x.1)=true→isW n ss=false:=fun x hx h=>by
   unfold isW
   rw [List.any_eq_true.2 ⟨x,hx,h⟩,Bool.not_true,Bool.and_false]
  have hgood:(∀ x ∈ ss,(!isR3 x || x.1)=false)→isW n ss=true:=fun h=>by
   unfold isW
   rw [decide_eq_true hn',List.any_eq_false.2 fun x hx=>by rw [h x hx];exact Bool.false_ne_true]
   rfl
  generalize isW n ss=res at *
  refine AX.sR (rgAV [0,1]) ?_
  refine AX.seq ?_
  refine AX.sR (rgWV [0,10] (aI @hml oT) oT) ?_
  refine AX.condF ?_
  refine AX.keepA [0] ?_
  refine AX.skip ?_
  refine nmZ ?_
  refine AX.seq ?_
  refine AX.sR (rgWV [11,12,13] (aI @hml oT) oT) ?_
  refine AX.weaken id (st':=⟨[(13,.i .i64 (0:Nat)),(12,.i .i64 ss.length),(11,.sl (ss.map fR))],[],0⟩)
   leQ4
   ?_
  refine AX.block ?_
  refine AX.loop (fun N st=>∃ j:Nat,j≤ss.length∧N=ss.length-j∧(∀ k,k<j→(!isR3 (ss.getD k d0) || (ss.getD k d0).1)=false)∧st=⟨[(13,.i .i64 j),(12,.i .i64 ss.length),(11,.sl (ss.map fR))],[],0⟩) ss.length ⟨0,Nat.zero_le _,rfl,fun k hk=>absurd hk (Nat.not_lt_zero _),rfl⟩ ?_
  rintro N st ⟨j,hj,rfl,hno,rfl⟩
  by_cases h1:j<ss.length
  ·have hmem:=getD_mem_RT h1
   have hix:=fun x y=>effIxR (x:=x) (y:=y) (els:=ss.map fR) (j:=j) (s:=(ss.getD j d0).1) (a:=(ss.getD j d0).2.1) (b:=(ss.getD j d0).2.2) (by omega) (by rw [List.getD_eq_getElem?_getD,List.getElem?_map,List.getElem?_eq_getElem h1,List.getD_eq_getElem?_getD,List.getElem?_eq_getElem h1];rfl)
   have hb:=hbad _ hmem
   obtain ⟨g1,g2,g3,g4⟩:=hx _ hmem
   have hnext:(!isR3 (ss.getD j d0) || (ss.getD j d0).1)=false→∀ k,k<j+1→(!isR3 (ss.getD k d0) || (ss.getD k d0).1)=false:=by
    intro h k hk
    by_cases e:k=j
    ·subst e;exact h
    ·exact hno k (by omega)
   clear hmem hbad hgood
   generalize ss.getD j d0=x at *
   obtain ⟨s,a,b⟩:=x
   dsimp only at g1 g2 g3 g4 hix
   have cr:PCall Tryz.prog 136 [.agg [.b s,dg a,dg b]] (.b (isR s a b)) []:=pright_ok s a b g1 g2 g3 g4
   generalize hsl:ss.map fR=sl at *
   by_cases hr:isR s a b=true
   ·obtain ⟨q,hq⟩:=isR_rat g1 g2 hr
    simp only [toRT,Prod.mk.injEq] at hq
    obtain ⟨q1,q2,q3⟩:=hq
    have csg:PCall Tryz.prog 34 [.agg [.b s,dg a,dg b]] (.i .i64 (sgnR q)) []:=by
     rw [q1,q2,q3]
     exact psign_ok (L:=2 ^ 36-1) (IsQ.of (Nat.max_le.2 ⟨by rw [← q2];omega,by rw [← q3];omega⟩)) (by omega)
    have hsg:sgnR q<0↔q.num<0:=by
     unfold sgnR
     have h0:q.num=0↔q=0:=Rat.num_eq_zero
     have h1:q.num<0↔q<0:=by
      rw [← Rat.not_le,← Rat.num_nonneg]
      omega
     by_cases hlt:q<0
     ·simp [hlt,h1]
     ·simp only [hlt,if_false,h1,iff_false]
      split<;>omega
    rw [hr] at cr
    cases s
    ·have hneg:¬ q.num<0:=of_decide_eq_false q1.symm
     have hns:¬ sgnR q<0:=fun h=>hneg (hsg.1 h)
     have hne:=hnext (by show (!isR false a b || false)=false;rw [hr];rfl)
     clear hsg hb hnext
     generalize sgnR q=sgq at *
     refine AX.sR (rgAV [11,12,13,14]) ?_
     refine AX.seq ?_
     refine AX.condT ?_
     refine AX.keepA [11,12,13] ?_
     refine AX.skip ?_
     refine nmZ ?_
     refine AX.seq ?_
     refine AX.block ?_
     refine AX.sR (rgEV [6,11,12,13] oT oT (aI hix oT)) ?_
     refine AX.sR (rgCV [11,12,13,24] (aI cr (aI csg oT))) ?_
     refine AX.condF ?_
     refine AX.keepA [11,12,13] ?_
     refine AX.skip ?_
     refine nmZ ?_
     refine AX.rR (rgWV [11,12,13] (aI @lit_add oT) oT) ?_
     refine nmZ ?_
     refine ⟨_,_,id,?_,
      leQ4
      , ⟨j+1,by omega,rfl,hne,rfl⟩⟩
     omega
    ·have hneg:q.num<0:=of_decide_eq_true q1.symm
     have hns:sgnR q<0:=hsg.2 hneg
     have er:res=false:=hb (by show (!isR true a b || true)=true;rw [Bool.or_true])
     subst er
     clear hsg hb hnext
     generalize sgnR q=sgq at *
     refine AX.sR (rgAV [11,12,13,14]) ?_
     refine AX.seq ?_
     refine AX.condT ?_
     refine AX.keepA [11,12,13] ?_
     refine AX.skip ?_
     refine nmZ ?_
     refine AX.seq ?_
     refine AX.block ?_
     refine AX.sR (rgEV [6,11,12,13] oT oT (aI hix oT)) ?_
     refine AX.sR (rgCV [11,12,13,24] (aI cr (aI csg oT))) ?_
     refine AX.condT ?_
     refine AX.sR (rgAV [4]) ?_
     refine AX.ret ⟨.inl rfl,?_⟩
     exact Done.one rfl rfl rfl rfl
   ·have hr':isR s a b=false:=by simpa using hr
    have er:res=false:=hb (by show (!isR s a b || s)=true;rw [hr'];rfl)
    subst er
    rw [hr'] at cr
    clear hb hnext
    refine AX.sR (rgAV [11,12,13,14]) ?_
    refine AX.seq ?_
    refine AX.condT ?_
    refine AX.keepA [11,12,13] ?_
    refine AX.skip ?_
    refine nmZ ?_
    refine AX.seq ?_
    refine AX.block ?_
    refine AX.sR (rgEV [6,11,12,13] oT oT (aI hix oT)) ?_
    refine AX.sR (rgCV [11,12,13,24] (aI cr oT)) ?_
    refine AX.condT ?_
    refine AX.sR (rgAV [4]) ?_
    refine AX.ret ⟨.inl rfl,?_⟩
    exact Done.one rfl rfl rfl rfl
  ·have er:res=true:=hgood fun x hx=>by
    obtain ⟨k,hk,rfl⟩:=List.getElem_of_mem hx
    have:=hno k (by omega)
    rwa [List.getD_eq_getElem?_getD,List.getElem?_eq_getElem hk] at this
   subst er
   refine AX.sR (rgAV [11,12,13,14]) ?_
   refine AX.seq ?_
   refine AX.condF ?_
   refine AX.exit ?_
   refine nmZ ?_
   refine AX.sR (rgAV [4]) ?_
   refine AX.ret ⟨.inl rfl,?_⟩
   exact Done.one rfl rfl rfl rfl
 ·have e:isW n ss=false:=by
   unfold isW
   rw [decide_eq_false hn']
   rfl
  rw [e]
  generalize ss.map fR=sl at *
  refine AX.sR (rgAV [0,1]) ?_
  refine AX.seq ?_
  refine AX.sR (rgWV [0,10] (aI @hml oT) oT) ?_
  refine AX.condT ?_
  refine AX.sR (rgAV [4]) ?_
  refine AX.ret ⟨.inl rfl,?_⟩
  exact Done.one rfl rfl rfl rfl
theorem lay_chain20:lay Tryz.prog 48=some ⟨6,true,80,[.i .i64 0,.i .i64 0,.nl,.i .i64 0,.i .i64 0,.nl]⟩:=by kernel_rfl
attribute [go_sem] Tryz.underlying48 lay_chain20 Tryz.underlying166
theorem effSliceRow {p m i:Nat} (X:Mx)(hi:i<p)(hpm:p*m≤60*60)(x lo hi':Operand) {a b:Int} (ha:a=((i*m:Nat):Int)) (hb:b=((i*m+m:Nat):Int)) :
  eff Tryz.prog (.slice 39 x (some lo) (some hi') none) [.sl ((mcells m X (p*m)).map rV),.i .i64 a,.i .i64 b]=some (.val (.sl ((vl m (X i)).map rV))):=by
 subst ha hb
 have hl:((mcells m X (p*m)).map rV).length=p*m:=by rw [List.length_map,mcells_length]
 have hle:i*m+m≤p*m:=by
  have:(i+1)*m≤p*m:=Nat.mul_le_mul_right _ hi
  rwa [Nat.succ_mul] at this
 have hrow:=mcells_row' (m:=m) X hi
 by_cases hm:m=0
 ·subst hm
  have e:(mcells 0 X (p*0)).map rV=[]:=rfl
  have e2:(vl 0 (X i)).map rV=[]:=rfl
  rw [e,e2]
  simp only [Nat.mul_zero,Nat.add_zero]
  simp only [eff,effSlice,lowHigh,sliceV,bound,Tryz.underlying39,lay_ratio,Option.isSome_some,Option.isSome_none]
  rfl
 ·have h3:(((mcells m X (p*m)).map rV).getD 0 .junk).cells.length=3:=by
   rw [getD_rV (by rw [mcells_length];omega)]
   rfl
  generalize (mcells m X (p*m)).map rV=Xl at *
  simp only [eff,effSlice,lowHigh,sliceV,bound,Tryz.underlying39,lay_ratio,Option.isSome_some,Option.isSome_none]
  rw [if_pos ⟨by omega,by omega,by rw [hl];omega,h3⟩,Int.toNat_natCast,Int.toNat_natCast,hrow]
theorem sgn_neg (q:Rat):sgnR q<0↔q.num<0:=by
 unfold sgnR
 have h1:q.num<0↔q<0:=by
  rw [← Rat.not_le,← Rat.num_nonneg]
  omega
 by_cases hlt:q<0
 ·simp [hlt,h1]
 ·simp only [hlt,if_false,h1,iff_false]
  split<;>omega
set_option maxHeartbeats 16000000 in
theorem r20right_ok (n m L:Nat) (hn:n≤60) (hm:m≤60) (A B:Mx) (hA:∀ i k,i<n→k<n→rL (A i k)≤L) (hB:∀ i k,i<n→k<m→rL (B i k)≤L) (hL1:1≤L) (hLs:120*(L+1)+1<2 ^ 33) :
  PCall Tryz.prog 97 [cV n m A B] (.b (isC n m A B)) []:=by
 have c1:=wright_q n n hn hn A (fun i k hi hk=>by have:=hA i k hi hk;omega)
 have c2:=wright_q n m hn hm B (fun i k hi hk=>by have:=hB i k hi hk;omega)
 have c0:PCall Tryz.prog 30 [] (rR (decide ((0:Rat).num<0)) (digits (0:Rat).num.natAbs) (digits (0:Rat).den)) []:=pzero_ok
 have co:PCall Tryz.prog 31 [] (rR (decide ((1:Rat).num<0)) (digits (1:Rat).num.natAbs) (digits (1:Rat).den)) []:=pone_ok
 have r1:=rL1
 have hL:120*(L+1)+1<2 ^ 34:=by omega
 refine PCall.of_ax Tryz.call97 Tryz.func97 rfl (by simp [Tryz.ntmps97]) fun O w=>?_
 simp only [Tryz.ntmps97,Tryz.results97,argFr]
 have hbad:∀ i,i<n→¬ chR n m A B i→isC n m A B=false:=fun i hi h=>decide_eq_false fun h'=>h (h' i hi)
 have hgood:(∀ i,i<n→chR n m A B i)→isC n m A B=true:=fun h=>decide_eq_true h
 have hslA:=fun (i:Nat) (hi:i<n)=>effSliceRow (p:=n) (m:=n) A hi (Nat.mul_le_mul hn hn)
 have hslB:=fun (i:Nat) (hi:i<n)=>effSliceRow (p:=n) (m:=m) B hi (Nat.mul_le_mul hn hm)
 generalize isC n m A B=res at *
 unfold qM at c1 c2
 unfold cV
 generalize (mcells n A (n*n)).map rV=Ac at *
 generalize (mcells m B (n*m)).map rV=Bc at *
 refine AX.sR (rgAV [1]) ?_
 refine AX.seq ?_
 refine AX.sR (rgCV [1,36] (aI c1 (aI c2 oT))) ?_
 refine AX.condF ?_
 refine AX.keepA [1] ?_
 refine AX.skip ?_
 refine nmZ ?_
 refine AX.seq ?_
 refine AX.sR (rgAV [1,3]) ?_
 refine AX.weaken id (st':=⟨[(3,.i .i64 (0:Nat)),(1,.ptr 0 0)],[(0,⟨48,[.i .i64 n,.i .i64 n,.sl Ac,.i .i64 n,.i .i64 m,.sl Bc]⟩)],1⟩)
  leQ4
  ?_
 refine AX.block ?_
 refine AX.loop (fun N st=>∃ i:Nat,i≤n∧N=n-i∧(∀ k,k<i→chR n m A B k)∧st=⟨[(3,.i .i64 i),(1,.ptr 0 0)],[(0,⟨48,[.i .i64 n,.i .i64 n,.sl Ac,.i .i64 n,.i .i64 m,.sl Bc]⟩)],1⟩) n ⟨0,Nat.zero_le _,rfl,fun k hk=>absurd hk (Nat.not_lt_zero _),rfl⟩ ?_
 rintro N st ⟨i,hi,rfl,hpre,rfl⟩
 by_cases h1:i<n
 ·have hAi:=fun k=>hA i k h1
  have hBi:=fun k=>hB i k h1
  have hslAi:=hslA i h1
  have hslBi:=hslB i h1
  have hlen:∀ k,k<n+m→rL (both n (A i) (B i) k)≤L:=by
   intro k hk
   unfold both
   split
   ·exact hAi k (by assumption)
   ·exact hBi _ (by omega)
  have hsl:=sumN_len hlen
  refine AX.seq ?_
  refine AX.sR (rgAV [1,3,41]) ?_
  refine AX.condT ?_
  refine AX.keepA [1,3] ?_
  refine AX.skip ?_
  refine nmZ ?_
  refine AX.seq ?_
  refine AX.block ?_
  refine AX.sR (rgCV [1,3,4] (aI c0 oT)) ?_
  refine AX.seq ?_
  refine AX.sR (rgAV [1,3,4,49,50,51]) ?_
  refine AX.weaken id (st':=⟨[(51,.i .i64 (0:Nat)),(50,.i .i64 (2:Nat)),(49,.own 2 0 2 3),(4,.ptr 1 0),(3,.i .i64 i),(1,.ptr 0 0)],[(2,⟨46,[.i .i64 n,.i .i64 n,.sl Ac,.i .i64 n,.i .i64 m,.sl Bc]⟩),(1,⟨54,[.b (decide ((0:Rat).num<0)),dg (digits (0:Rat).num.natAbs),dg (digits (0:Rat).den)]⟩),(0,⟨48,[.i .i64 n,.i .i64 n,.sl Ac,.i .i64 n,.i .i64 m,.sl Bc]⟩)],3⟩)
   leQ4
   ?_
  refine AX.block ?_
  refine AX.loop (fun N st=>∃ (j:Nat) (q:Rat) (o:Nat),j≤2∧N=2-j∧o=(if j=0 then 0 else if j=1 then n else n+m)∧q=sumN o (both n (A i) (B i))∧(∀ k,k<o→0≤both n (A i) (B i) k)∧st=⟨[(51,.i .i64 j),(50,.i .i64 (2:Nat)),(49,.own 2 0 2 3),(4,.ptr 1 0),(3,.i .i64 i),(1,.ptr 0 0)],[(2,⟨46,[.i .i64 n,.i .i64 n,.sl Ac,.i .i64 n,.i .i64 m,.sl Bc]⟩),(1,⟨54,[.b (decide (q.num<0)),dg (digits q.num.natAbs),dg (digits q.den)]⟩),(0,⟨48,[.i .i64 n,.i .i64 n,.sl Ac,.i .i64 n,.i .i64 m,.sl Bc]⟩)],3⟩) 2 ⟨0,0,0,by omega,rfl,rfl,rfl,fun k hk=>absurd hk (Nat.not_lt_zero _),rfl⟩ ?_
  rintro N st ⟨j,q0,o,hj,rfl,ho,hq0,hpo,rfl⟩
  by_cases h2:j<2
  ·obtain ⟨dc,D,Dc,hget,hslD,hof,hodc,hnx,hdc⟩:∃ (dc:Nat) (D:Nat→Rat) (Dc:List V),(List.drop (j*3) [V.i .i64 n,.i .i64 n,.sl Ac,.i .i64 n,.i .i64 m,.sl Bc]).take 3=[.i .i64 n,.i .i64 dc,.sl Dc] ∧
     (∀ (x lo hi':Operand),eff Tryz.prog (.slice 39 x (some lo) (some hi') none) [.sl Dc,.i .i64 ((i*dc:Nat):Int),.i .i64 ((i*dc+dc:Nat):Int)]=some (.val (.sl ((vl dc D).map rV))))∧(∀ k,k<dc→both n (A i) (B i) (o+k)=D k)∧o+dc≤n+m∧(o+dc=if j+1=0 then 0 else if j+1=1 then n else n+m)∧dc≤60:=by
    have:j=0∨j=1:=by omega
    rcases this with rfl | rfl
    ·have ho0:o=0:=ho
     rw [ho0]
     refine ⟨n,A i,Ac,rfl,fun x lo hi'=>hslAi x lo hi' rfl rfl,fun k hk=>?_,by simp,by simp,hn⟩
     unfold both
     rw [if_pos (by omega)]
     simp
    ·have ho1:o=n:=ho
     rw [ho1]
     refine ⟨m,B i,Bc,rfl,fun x lo hi'=>hslBi x lo hi' rfl rfl,fun k hk=>?_,by simp,by simp,hm⟩
     unfold both
     rw [if_neg (by omega),Nat.add_sub_cancel_left]
   have m1:(i:Int)*(dc:Int)=((i*dc:Nat):Int):=(Int.natCast_mul i dc).symm
   have m2:((i+1:Nat):Int)*(dc:Int)=((i*dc+dc:Nat):Int):=by rw [← Int.natCast_mul,Nat.succ_mul]
   have b1:i*dc≤60*60:=Nat.mul_le_mul (by omega) hdc
   have hixD:=fun (k:Nat) (hk:k<dc)=>fun x y=>effIxL (x:=x) (y:=y) D hk
   have hDl:((vl dc D).map rV).length=dc:=by rw [List.length_map,vl_length]
   clear hslAi hslBi hslA hslB
   generalize (vl dc D).map rV=Dl at *
   generalize i*dc=x1 at *
   refine AX.sR (rgAV [1,3,4,49,50,51,52]) ?_
   refine AX.seq ?_
   refine AX.condT ?_
   refine AX.keepA [1,3,4,49,50,51] ?_
   refine AX.skip ?_
   refine nmZ ?_
   refine AX.seq ?_
   refine AX.block ?_
   refine AX.sR (rgWV [1,3,4,6,49,50,51] (aI @hget oT) oT) ?_
   refine AX.sR (rgEV [1,3,4,49,50,51,66,67,68] (aI @lit_add (aI @m1 (aI @m2 (aI @hDl oT)))) oT (aI (hslD _) oT)) ?_
   refine AX.weaken id (st':=⟨[(68,.i .i64 (0:Nat)),(67,.i .i64 dc),(66,.sl Dl),(51,.i .i64 j),(50,.i .i64 (2:Nat)),(49,.own 2 0 2 3),(4,.ptr 1 0),(3,.i .i64 i),(1,.ptr 0 0)],[(2,⟨46,[.i .i64 n,.i .i64 n,.sl Ac,.i .i64 n,.i .i64 m,.sl Bc]⟩),(1,⟨54,[.b (decide (q0.num<0)),dg (digits q0.num.natAbs),dg (digits q0.den)]⟩),(0,⟨48,[.i .i64 n,.i .i64 n,.sl Ac,.i .i64 n,.i .i64 m,.sl Bc]⟩)],3⟩)
    leQ4
    ?_
   refine AX.block ?_
   refine AX.loop (fun N st=>∃ (k:Nat) (q:Rat),k≤dc∧N=dc-k∧q=sumN (o+k) (both n (A i) (B i))∧(∀ k',k' < o+k→0≤both n (A i) (B i) k')∧st=⟨[(68,.i .i64 k),(67,.i .i64 dc),(66,.sl Dl),(51,.i .i64 j),(50,.i .i64 (2:Nat)),(49,.own 2 0 2 3),(4,.ptr 1 0),(3,.i .i64 i),(1,.ptr 0 0)],[(2,⟨46,[.i .i64 n,.i .i64 n,.sl Ac,.i .i64 n,.i .i64 m,.sl Bc]⟩),(1,⟨54,[.b (decide (q.num<0)),dg (digits q.num.natAbs),dg (digits q.den)]⟩),(0,⟨48,[.i .i64 n,.i .i64 n,.sl Ac,.i .i64 n,.i .i64 m,.sl Bc]⟩)],3⟩) dc ⟨0,q0,Nat.zero_le _,rfl,hq0,hpo,rfl⟩ ?_
   clear hq0 hpo q0
   rintro N st ⟨k,q,hk,rfl,hq,hpo,rfl⟩
   by_cases h3:k<dc
   ·have hix:=hixD k h3
    have hok:=hof k h3
    have hne:(D k).num<0→res=false:=fun hneg=>hbad i h1 fun hch=>by
     have h0:0≤both n (A i) (B i) (o+k):=by
      unfold both
      split
      ·exact hch.1 _ (by assumption)
      ·exact hch.2.1 _ (by omega)
     rw [hok] at h0
     have:=Rat.num_nonneg.2 h0
     omega
    have hql:rL q≤120*(L+1)+1:=by
     rw [hq]
     have:=hsl (o+k) (by omega)
     have h2:(o+k)*(L+1)≤120*(L+1):=Nat.mul_le_mul_right _ (by omega)
     omega
    have hdl:rL (D k)≤120*(L+1)+1:=by
     rw [← hok]
     have:=hlen (o+k) (by omega)
     omega
    have hnext:q+D k=sumN (o+(k+1)) (both n (A i) (B i)):=by
     rw [hq,← hok]
     rfl
    have ca:PCall Tryz.prog 52 [.agg [.b (decide (q.num<0)),dg (digits q.num.natAbs),dg (digits q.den)],.agg [.b (decide ((D k).num<0)),dg (digits (D k).num.natAbs),dg (digits (D k).den)]] (.agg [.b (decide ((q+D k).num<0)),dg (digits (q+D k).num.natAbs),dg (digits (q+D k).den)]) []:=padd_ok (L:=120*(L+1)+1) (IsQ.of hql) (IsQ.of hdl) (by omega) hL
    have csg:PCall Tryz.prog 34 [.agg [.b (decide ((D k).num<0)),dg (digits (D k).num.natAbs),dg (digits (D k).den)]] (.i .i64 (sgnR (D k))) []:=psign_ok (L:=120*(L+1)+1) (IsQ.of hdl) (by omega)
    have hsg:sgnR (D k)<0↔(D k).num<0:=sgn_neg _
    by_cases hneg:(D k).num<0
    ·have er:=hne hneg
     subst er
     have hns:=hsg.2 hneg
     clear ca hnext hdl hok hne hneg hsg
     generalize sgnR (D k)=sgq at *
     generalize D k=p at *
     refine AX.sR (rgAV [1,3,4,49,50,51,66,67,68,69]) ?_
     refine AX.seq ?_
     refine AX.condT ?_
     refine AX.keepA [1,3,4,49,50,51,66,67,68] ?_
     refine AX.skip ?_
     refine nmZ ?_
     refine AX.seq ?_
     refine AX.block ?_
     refine AX.sR (rgEV [1,3,4,8,49,50,51,66,67,68] oT oT (aI hix oT)) ?_
     refine AX.seq ?_
     refine AX.sR (rgCV [1,3,4,8,49,50,51,66,67,68,74] (aI csg oT)) ?_
     refine AX.condT ?_
     refine AX.sR (rgAV [2]) ?_
     refine AX.ret ⟨.inl rfl,?_⟩
     exact Done.one rfl rfl rfl rfl
    ·have hns:¬ sgnR (D k)<0:=fun h=>hneg (hsg.1 h)
     have hpo':∀ k',k' < o+(k+1)→0≤both n (A i) (B i) k':=by
      intro k' hk'
      by_cases e:k'=o+k
      ·rw [e,hok]
       exact Rat.num_nonneg.1 (by omega)
      ·exact hpo k' (by omega)
     clear hdl hok hne hneg hsg
     generalize sgnR (D k)=sgq at *
     generalize q+D k=s' at *
     generalize D k=p at *
     refine AX.sR (rgAV [1,3,4,49,50,51,66,67,68,69]) ?_
     refine AX.seq ?_
     refine AX.condT ?_
     refine AX.keepA [1,3,4,49,50,51,66,67,68] ?_
     refine AX.skip ?_
     refine nmZ ?_
     refine AX.seq ?_
     refine AX.block ?_
     refine AX.sR (rgEV [1,3,4,8,49,50,51,66,67,68] oT oT (aI hix oT)) ?_
     refine AX.seq ?_
     refine AX.sR (rgCV [1,3,4,8,49,50,51,66,67,68,74] (aI csg oT)) ?_
     refine AX.condF ?_
     refine AX.keepA [1,3,4,8,49,50,51,66,67,68] ?_
     refine AX.skip ?_
     refine nmZ ?_
     refine AX.rR (rgCV [1,3,4,49,50,51,66,67,68] (aI ca oT)) ?_
     refine nmZ ?_
     refine AX.rR (rgWV [1,3,4,49,50,51,66,67,68] (aI @lit_add oT) oT) ?_
     refine nmZ ?_
     refine ⟨_,_,id,?_,
      leQ4
      , ⟨k+1,s',by omega,rfl,hnext,hpo',rfl⟩⟩
     omega
   ·have e:k=dc:=by omega
    subst e
    refine AX.sR (rgAV [1,3,4,49,50,51,66,67,68,69]) ?_
    refine AX.seq ?_
    refine AX.condF ?_
    refine AX.exit ?_
    refine nmZ ?_
    refine AX.rR (rgWV [1,3,4,49,50,51] (aI @lit_add oT) oT) ?_
    refine nmZ ?_
    refine ⟨_,_,id,?_,
     leQ4
     , ⟨j+1,q,o+k,by omega,rfl,hnx,hq,hpo,rfl⟩⟩
    omega
  ·have e:j=2:=by omega
   subst e
   have ho':o=n+m:=ho
   subst ho'
   have hql:rL q0≤120*(L+1)+1:=by
    rw [hq0]
    have:=hsl (n+m) (by omega)
    have h2:(n+m)*(L+1)≤120*(L+1):=Nat.mul_le_mul_right _ (by omega)
    omega
   have cs:PCall Tryz.prog 27 [.agg [.b (decide (q0.num<0)),dg (digits q0.num.natAbs),dg (digits q0.den)],rR (decide ((1:Rat).num<0)) (digits (1:Rat).num.natAbs) (digits (1:Rat).den)] (.b (decide (q0=1))) []:=psame_ok (L:=120*(L+1)+1) (IsQ.of hql) (IsQ.of (by omega)) hLs (by omega)
   rw [both_sum] at hq0
   by_cases hs:q0=1
   ·have hpre':∀ k,k<i+1→chR n m A B k:=by
     intro k hk
     by_cases e:k=i
     ·subst e
      refine ⟨fun k' hk'=>?_,fun k' hk'=>?_,by rw [← hq0];exact hs⟩
      ·have:=hpo k' (by omega)
       unfold both at this
       rwa [if_pos hk'] at this
      ·have:=hpo (n+k') (by omega)
       unfold both at this
       rwa [if_neg (by omega),Nat.add_sub_cancel_left] at this
     ·exact hpre k (by omega)
    rw [decide_eq_true hs] at cs
    refine AX.sR (rgAV [1,3,4,49,50,51,52]) ?_
    refine AX.seq ?_
    refine AX.condF ?_
    refine AX.exit ?_
    refine nmZ ?_
    refine AX.sD (rgDCV [1,3,83] (aI co (aI cs oT))) ?_
    refine AX.condF ?_
    refine AX.keepA [1,3] ?_
    refine AX.skip ?_
    refine nmZ ?_
    refine AX.rR (rgWV [1,3] (aI @lit_add oT) oT) ?_
    refine nmZ ?_
    refine ⟨_,_,id,?_,
     leQ4
     , ⟨i+1,by omega,rfl,hpre',rfl⟩⟩
    omega
   ·have er:res=false:=hbad i h1 fun hch=>hs (by rw [hq0];exact hch.2.2)
    subst er
    rw [decide_eq_false hs] at cs
    refine AX.sR (rgAV [1,3,4,49,50,51,52]) ?_
    refine AX.seq ?_
    refine AX.condF ?_
    refine AX.exit ?_
    refine nmZ ?_
    refine AX.sD (rgDCV [1,3,83] (aI co (aI cs oT))) ?_
    refine AX.condT ?_
    refine AX.sR (rgAV [2]) ?_
    refine AX.ret ⟨.inl rfl,?_⟩
    exact Done.one rfl rfl rfl rfl
 ·have er:res=true:=hgood fun k hk=>hpre k (by omega)
  subst er
  refine AX.seq ?_
  refine AX.sR (rgAV [1,3,41]) ?_
  refine AX.condF ?_
  refine AX.exit ?_
  refine nmZ ?_
  refine AX.sR (rgAV [2]) ?_
  refine AX.ret ⟨.inl rfl,?_⟩
  exact Done.one rfl rfl rfl rfl
theorem rweights_q (n L:Nat)(hn:n≤60)(v:Nat→Rat)(hv:∀ i,i<n→0≤v i)(hl:∀ i,i<n→rL (v i)≤L)(hL:L<2 ^ 36):PCall Tryz.prog 98 [.sl ((vl n v).map rV),.i .i64 n] (.b true) []:=by
 have:=rweights_ok n hn ((vl n v).map toRT) (by rw [List.length_map,vl_length];omega) (okX_toRT (vl_mem fun i hi=>Nat.lt_of_le_of_lt (hl i hi) hL))
 rw [isW_vl hv,map_toRT] at this
 exact this
end Go.Proofs.YteidabibgjokkaaGreatDoor
