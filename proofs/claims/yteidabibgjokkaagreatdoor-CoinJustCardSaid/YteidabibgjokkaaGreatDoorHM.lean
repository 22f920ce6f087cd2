import Derived.Test.YteidabibgjokkaaGreatDoorHH
import Derived.Test.YteidabibgjokkaaGreatDoorHA
set_option maxRecDepth 20000
set_option linter.all false
namespace Go.Proofs.YteidabibgjokkaaGreatDoor
open Go Go.Proofs.YteidabibgjokkaaGreatDoor.Lift
attribute [local irreducible] Lift.PCall Lift.HCall
def chR (n m:Nat) (A B:Mx) (i:Nat):Prop:=(∀ k,k<n→0≤A i k)∧(∀ k,k<m→0≤B i k)∧sumN n (A i)+sumN m (B i)=1
instance (n m:Nat) (A B:Mx) (i:Nat):Decidable (chR n m A B i):=by unfold chR;infer_instance
def isC (n m:Nat) (A B:Mx):Bool:=decide (∀ i,i<n→chR n m A B i)
def both (n:Nat) (a b:Nat→Rat) (k:Nat):Rat:=if k<n then a k else b (k-n)
theorem both_sum (n:Nat)(a b:Nat→Rat):∀ m,sumN (n+m) (both n a b)=sumN n a+sumN m b:=by
 intro m
 induction m with
 | zero=>
  show sumN n _=sumN n a+0
  rw [Rat.add_zero]
  exact sumN_congr fun i hi=>if_pos hi
 | succ m ih=>
  show sumN (n+m) _+both n a b (n+m)=sumN n a+(sumN m b+b m)
  rw [ih,← Rat.add_assoc]
  congr 1
  unfold both
  rw [if_neg (by omega),Nat.add_sub_cancel_left]
attribute [go_sem] Tryz.underlying144
theorem num_nonneg {q:Rat}:decide (q.num<0)=false↔0≤q:=by
 rw [decide_eq_false_iff_not,Int.not_lt,Rat.num_nonneg]
set_option maxHeartbeats 2000000 in
theorem cright_not (R1 C1 R2 C2:Int) (xs ys:List RT) (hR1:-9223372036854775808≤R1∧R1≤9223372036854775807) (hC1:-9223372036854775808≤C1∧C1≤9223372036854775807) (hR2:-9223372036854775808≤R2∧R2≤9223372036854775807) (hC2:-9223372036854775808≤C2∧C2≤9223372036854775807)
  (hx:okX xs) (hy:okX ys) (hl:xs.length<2 ^ 40) (hl2:ys.length<2 ^ 40) (hno:(isM R1 C1 xs && isM R2 C2 ys && decide (R1=C1) && decide (R2=R1))=false) :
  PCall Tryz.prog 60 [.agg [.i .i64 R1,.i .i64 C1,.sl (xs.map fR),.i .i64 R2,.i .i64 C2,.sl (ys.map fR)]] (.b false) []:=by
 have c1:=mright_raw R1 C1 xs hR1 hC1 hx hl
 have c2:=mright_raw R2 C2 ys hR2 hC2 hy hl2
 refine PCall.of_ax Tryz.call60 Tryz.func60 rfl (by simp [Tryz.ntmps60]) fun O w=>?_
 simp only [Tryz.ntmps60,Tryz.results60,argFr]
 generalize isM R1 C1 xs=b1 at *
 generalize isM R2 C2 ys=b2 at *
 generalize xs.map fR=xl at *
 generalize ys.map fR=yl at *
 cases b1
 ·refine AX.sR (rgAV [1]) ?_
  refine AX.seq ?_
  refine AX.sR (rgCV [1,35] (aI c1 oT)) ?_
  refine AX.condT ?_
  refine AX.sR (rgAV [2]) ?_
  refine AX.ret ⟨.inl rfl,?_⟩
  exact Done.one rfl rfl rfl rfl
 cases b2
 ·refine AX.sR (rgAV [1]) ?_
  refine AX.seq ?_
  refine AX.sR (rgCV [1,35] (aI c1 (aI c2 oT))) ?_
  refine AX.condT ?_
  refine AX.sR (rgAV [2]) ?_
  refine AX.ret ⟨.inl rfl,?_⟩
  exact Done.one rfl rfl rfl rfl
 by_cases e1:R1=C1
 ·subst e1
  have e2:R2≠R1:=fun e=>by subst e;simp at hno
  refine AX.sR (rgAV [1]) ?_
  refine AX.seq ?_
  refine AX.sR (rgCV [1,35] (aI c1 (aI c2 oT))) ?_
  refine AX.condT ?_
  refine AX.sR (rgAV [2]) ?_
  refine AX.ret ⟨.inl rfl,?_⟩
  exact Done.one rfl rfl rfl rfl
 ·refine AX.sR (rgAV [1]) ?_
  refine AX.seq ?_
  refine AX.sR (rgCV [1,35] (aI c1 (aI c2 oT))) ?_
  refine AX.condT ?_
  refine AX.sR (rgAV [2]) ?_
  refine AX.ret ⟨.inl rfl,?_⟩
  exact Done.one rfl rfl rfl rfl
set_option maxHeartbeats 16000000 in
theorem cright_ok (n m L:Nat) (hn:n≤60) (hm:m≤60) (A B:Mx) (hA:∀ i k,i<n→k<n→rL (A i k)≤L) (hB:∀ i k,i<n→k<m→rL (B i k)≤L) (hL1:1≤L) (hL:120*(L+1)+1<2 ^ 34) :
  PCall Tryz.prog 60 [cV n m A B] (.b (isC n m A B)) []:=by
 have c1:=mright_q n n hn hn A (fun i k hi hk=>by have:=hA i k hi hk;omega)
 have c2:=mright_q n m hn hm B (fun i k hi hk=>by have:=hB i k hi hk;omega)
 have c0:PCall Tryz.prog 67 [] (rR (decide ((0:Rat).num<0)) (digits (0:Rat).num.natAbs) (digits (0:Rat).den)) []:=zero_ok
 have co:PCall Tryz.prog 96 [] (rR (decide ((1:Rat).num<0)) (digits (1:Rat).num.natAbs) (digits (1:Rat).den)) []:=one_ok
 have r1:rL (1:Rat)≤1:=by
  have:rL (rq false 1 1)≤1:=rL_rq (by rw [show (1:Nat)=0+1 from rfl];exact digits_length_le (by decide)) (by rw [show (1:Nat)=0+1 from rfl];exact digits_length_le (by decide)) (Nat.le_refl _)
  exact this
 refine PCall.of_ax Tryz.call60 Tryz.func60 rfl (by simp [Tryz.ntmps60]) fun O w=>?_
 simp only [Tryz.ntmps60,Tryz.results60,argFr]
 have hcA:=fun (i k:Nat) (hi:i<n) (hk:k<n)=>ccell_q hn hn A hi hk
 have hcB:=fun (i k:Nat) (hi:i<n) (hk:k<m)=>ccell_q hn hm B hi hk
 have hbad:∀ i,i<n→¬ chR n m A B i→isC n m A B=false:=fun i hi h=>decide_eq_false fun h'=>h (h' i hi)
 have hgood:(∀ i,i<n→chR n m A B i)→isC n m A B=true:=fun h=>decide_eq_true h
 generalize isC n m A B=res at *
 unfold qM at c1 c2
 unfold cV
 generalize (mcells n A (n*n)).map rV=Ac at *
 generalize (mcells m B (n*m)).map rV=Bc at *
 refine AX.sR (rgAV [1]) ?_
 refine AX.seq ?_
 refine AX.sR (rgCV [1,35] (aI c1 (aI c2 oT))) ?_
 refine AX.condF ?_
 refine AX.keepA [1] ?_
 refine AX.skip ?_
 refine nmZ ?_
 refine AX.seq ?_
 refine AX.sR (rgAV [1,38,39]) ?_
 refine AX.weaken id (st':=⟨[(39,.i .i64 (0:Nat)),(38,.i .i64 n),(1,.ptr 0 0)],[(0,⟨43,[.i .i64 n,.i .i64 n,.sl Ac,.i .i64 n,.i .i64 m,.sl Bc]⟩)],1⟩)
  leQ2
  ?_
 refine AX.block ?_
 refine AX.loop (fun N st=>∃ i:Nat,i≤n∧N=n-i∧(∀ k,k<i→chR n m A B k)∧st=⟨[(39,.i .i64 i),(38,.i .i64 n),(1,.ptr 0 0)],[(0,⟨43,[.i .i64 n,.i .i64 n,.sl Ac,.i .i64 n,.i .i64 m,.sl Bc]⟩)],1⟩) n ⟨0,Nat.zero_le _,rfl,fun k hk=>absurd hk (Nat.not_lt_zero _),rfl⟩ ?_
 rintro N st ⟨i,hi,rfl,hpre,rfl⟩
 by_cases h1:i<n
 ·have hAi:=fun k=>hA i k h1
  have hBi:=fun k=>hB i k h1
  have hlen:∀ k,k<n+m→rL (both n (A i) (B i) k)≤L:=by
   intro k hk
   unfold both
   split
   ·exact hAi k (by assumption)
   ·exact hBi _ (by omega)
  have hsl:=sumN_len hlen
  refine AX.sR (rgAV [1,38,39,40]) ?_
  refine AX.seq ?_
  refine AX.condT ?_
  refine AX.keepA [1,38,39] ?_
  refine AX.skip ?_
  refine nmZ ?_
  refine AX.seq ?_
  refine AX.block ?_
  refine AX.sR (rgAV [1,3,38,39]) ?_
  refine AX.sR (rgCV [1,3,4,38,39] (aI c0 oT)) ?_
  refine AX.seq ?_
  refine AX.sR (rgAV [1,3,4,38,39,47,48,49]) ?_
  refine AX.weaken id (st':=⟨[(49,.i .i64 (0:Nat)),(48,.i .i64 (2:Nat)),(47,.own 2 0 2 3),(39,.i .i64 i),(38,.i .i64 n),(4,.ptr 1 0),(3,.i .i64 i),(1,.ptr 0 0)],[(2,⟨41,[.i .i64 n,.i .i64 n,.sl Ac,.i .i64 n,.i .i64 m,.sl Bc]⟩),(1,⟨54,[.b (decide ((0:Rat).num<0)),dg (digits (0:Rat).num.natAbs),dg (digits (0:Rat).den)]⟩),(0,⟨43,[.i .i64 n,.i .i64 n,.sl Ac,.i .i64 n,.i .i64 m,.sl Bc]⟩)],3⟩)
   leQ2
   ?_
  refine AX.block ?_
  refine AX.loop (fun N st=>∃ (j:Nat) (q:Rat) (o:Nat),j≤2∧N=2-j∧o=(if j=0 then 0 else if j=1 then n else n+m)∧q=sumN o (both n (A i) (B i))∧(∀ k,k<o→0≤both n (A i) (B i) k)∧st=⟨[(49,.i .i64 j),(48,.i .i64 (2:Nat)),(47,.own 2 0 2 3),(39,.i .i64 i),(38,.i .i64 n),(4,.ptr 1 0),(3,.i .i64 i),(1,.ptr 0 0)],[(2,⟨41,[.i .i64 n,.i .i64 n,.sl Ac,.i .i64 n,.i .i64 m,.sl Bc]⟩),(1,⟨54,[.b (decide (q.num<0)),dg (digits q.num.natAbs),dg (digits q.den)]⟩),(0,⟨43,[.i .i64 n,.i .i64 n,.sl Ac,.i .i64 n,.i .i64 m,.sl Bc]⟩)],3⟩) 2 ⟨0,0,0,by omega,rfl,rfl,rfl,fun k hk=>absurd hk (Nat.not_lt_zero _),rfl⟩ ?_
  rintro N st ⟨j,q0,o,hj,rfl,ho,hq0,hpo,rfl⟩
  by_cases h2:j<2
  ·obtain ⟨dc,D,Dc,hget,hcD,hof,hodc,hnx,hdc⟩:∃ (dc:Nat) (D:Nat→Rat) (Dc:List V),(List.drop (j*3) [V.i .i64 n,.i .i64 n,.sl Ac,.i .i64 n,.i .i64 m,.sl Bc]).take 3=[.i .i64 n,.i .i64 dc,.sl Dc] ∧
     (∀ k,k<dc→PCall Tryz.prog 106 [.agg [.i .i64 n,.i .i64 dc,.sl Dc],.i .i64 i,.i .i64 k] (.agg [.b (decide ((D k).num<0)),dg (digits (D k).num.natAbs),dg (digits (D k).den)]) [])∧(∀ k,k<dc→both n (A i) (B i) (o+k)=D k)∧o+dc≤n+m∧(o+dc=if j+1=0 then 0 else if j+1=1 then n else n+m)∧dc≤60:=by
    have:j=0∨j=1:=by omega
    rcases this with rfl | rfl
    ·have ho0:o=0:=ho
     rw [ho0]
     refine ⟨n,A i,Ac,rfl,fun k hk=>hcA i k h1 hk,fun k hk=>?_,by simp,by simp,hn⟩
     unfold both
     rw [if_pos (by omega)]
     simp
    ·have ho1:o=n:=ho
     rw [ho1]
     refine ⟨m,B i,Bc,rfl,fun k hk=>hcB i k h1 hk,fun k hk=>?_,by simp,by simp,hm⟩
     unfold both
     rw [if_neg (by omega),Nat.add_sub_cancel_left]
   refine AX.sR (rgAV [1,3,4,38,39,47,48,49,50]) ?_
   refine AX.seq ?_
   refine AX.condT ?_
   refine AX.keepA [1,3,4,38,39,47,48,49] ?_
   refine AX.skip ?_
   refine nmZ ?_
   refine AX.seq ?_
   refine AX.block ?_
   refine AX.sR (rgWV [1,3,4,6,38,39,47,48,49] (aI @hget oT) oT) ?_
   refine AX.sR (rgAV [1,3,4,6,38,39,47,48,49,54,55]) ?_
   refine AX.weaken id (st':=⟨[(55,.i .i64 (0:Nat)),(54,.i .i64 dc),(49,.i .i64 j),(48,.i .i64 (2:Nat)),(47,.own 2 0 2 3),(39,.i .i64 i),(38,.i .i64 n),(6,.ptr 3 0),(4,.ptr 1 0),(3,.i .i64 i),(1,.ptr 0 0)],[(3,⟨41,[.i .i64 n,.i .i64 dc,.sl Dc]⟩),(2,⟨41,[.i .i64 n,.i .i64 n,.sl Ac,.i .i64 n,.i .i64 m,.sl Bc]⟩),(1,⟨54,[.b (decide (q0.num<0)),dg (digits q0.num.natAbs),dg (digits q0.den)]⟩),(0,⟨43,[.i .i64 n,.i .i64 n,.sl Ac,.i .i64 n,.i .i64 m,.sl Bc]⟩)],4⟩)
    leQ2
    ?_
   refine AX.block ?_
   refine AX.loop (fun N st=>∃ (k:Nat) (q:Rat),k≤dc∧N=dc-k∧q=sumN (o+k) (both n (A i) (B i))∧(∀ k',k' < o+k→0≤both n (A i) (B i) k')∧st=⟨[(55,.i .i64 k),(54,.i .i64 dc),(49,.i .i64 j),(48,.i .i64 (2:Nat)),(47,.own 2 0 2 3),(39,.i .i64 i),(38,.i .i64 n),(6,.ptr 3 0),(4,.ptr 1 0),(3,.i .i64 i),(1,.ptr 0 0)],[(3,⟨41,[.i .i64 n,.i .i64 dc,.sl Dc]⟩),(2,⟨41,[.i .i64 n,.i .i64 n,.sl Ac,.i .i64 n,.i .i64 m,.sl Bc]⟩),(1,⟨54,[.b (decide (q.num<0)),dg (digits q.num.natAbs),dg (digits q.den)]⟩),(0,⟨43,[.i .i64 n,.i .i64 n,.sl Ac,.i .i64 n,.i .i64 m,.sl Bc]⟩)],4⟩) dc ⟨0,q0,Nat.zero_le _,rfl,hq0,hpo,rfl⟩ ?_
   clear hq0 hpo q0
   rintro N st ⟨k,q,hk,rfl,hq,hpo,rfl⟩
   by_cases h3:k<dc
   ·have hc:=hcD k h3
    have hok:=hof k h3
    have hne:(D k).num<0→res=false:=fun hneg=>hbad i h1 fun hch=>by
     have h0:0≤both n (A i) (B i) (o+k):=by
      unfold both
      split
      ·exact hch.1 _ (by assumption)
      ·exact hch.2.1 _ (by omega)
     rw [hok] at h0
     have:=Rat.num_nonneg.2 h0
     omega
    have hql:rL q≤120*(L+1)+1:=by
     rw [hq]
     have:=hsl (o+k) (by omega)
     have h2:(o+k)*(L+1)≤120*(L+1):=Nat.mul_le_mul_right _ (by omega)
     omega
    have hdl:rL (D k)≤120*(L+1)+1:=by
     rw [← hok]
     have:=hlen (o+k) (by omega)
     omega
    have hnext:q+D k=sumN (o+(k+1)) (both n (A i) (B i)):=by
     rw [hq,← hok]
     rfl
    have ca:PCall Tryz.prog 50 [.agg [.b (decide (q.num<0)),dg (digits q.num.natAbs),dg (digits q.den)],.agg [.b (decide ((D k).num<0)),dg (digits (D k).num.natAbs),dg (digits (D k).den)]] (.agg [.b (decide ((q+D k).num<0)),dg (digits (q+D k).num.natAbs),dg (digits (q+D k).den)]) []:=qadd_ok (L:=120*(L+1)+1) (IsQ.of hql) (IsQ.of hdl) hL
    by_cases hneg:(D k).num<0
    ·have er:=hne hneg
     subst er
     have ed:=decide_eq_true hneg
     clear ca hnext hdl hok hne hneg
     generalize D k=p at *
     rw [ed] at hc
     refine AX.sR (rgAV [1,3,4,6,38,39,47,48,49,54,55,56]) ?_
     refine AX.seq ?_
     refine AX.condT ?_
     refine AX.keepA [1,3,4,6,38,39,47,48,49,54,55] ?_
     refine AX.skip ?_
     refine nmZ ?_
     refine AX.seq ?_
     refine AX.block ?_
     refine AX.sR (rgAV [1,3,4,6,7,38,39,47,48,49,54,55]) ?_
     refine AX.seq ?_
     refine AX.sR (rgCV [1,3,4,6,7,38,39,47,48,49,54,55,62] (aI hc oT)) ?_
     refine AX.condT ?_
     refine AX.sR (rgAV [2]) ?_
     refine AX.ret ⟨.inl rfl,?_⟩
     exact Done.one rfl rfl rfl rfl
    ·have ed:=decide_eq_false hneg
     have hpo':∀ k',k' < o+(k+1)→0≤both n (A i) (B i) k':=by
      intro k' hk'
      by_cases e:k'=o+k
      ·rw [e,hok]
       exact Rat.num_nonneg.1 (by omega)
      ·exact hpo k' (by omega)
     clear hdl hok hne hneg
     rw [ed] at hc ca
     generalize q+D k=s' at *
     generalize D k=p at *
     refine AX.sR (rgAV [1,3,4,6,38,39,47,48,49,54,55,56]) ?_
     refine AX.seq ?_
     refine AX.condT ?_
     refine AX.keepA [1,3,4,6,38,39,47,48,49,54,55] ?_
     refine AX.skip ?_
     refine nmZ ?_
     refine AX.seq ?_
     refine AX.block ?_
     refine AX.sR (rgAV [1,3,4,6,7,38,39,47,48,49,54,55]) ?_
     refine AX.seq ?_
     refine AX.sR (rgCV [1,3,4,6,7,38,39,47,48,49,54,55,62] (aI hc oT)) ?_
     refine AX.condF ?_
     refine AX.keepA [1,3,4,6,7,38,39,47,48,49,54,55] ?_
     refine AX.skip ?_
     refine nmZ ?_
     refine AX.rD (rgDCV [1,3,4,6,38,39,47,48,49,54,55] (aI hc (aI ca oT))) ?_
     refine nmZ ?_
     refine AX.rR (rgWV [1,3,4,6,38,39,47,48,49,54,55] (aI @lit_add oT) oT) ?_
     refine nmZ ?_
     refine ⟨_,_,id,?_,
      leQ2
      , ⟨k+1,s',by omega,rfl,hnext,hpo',rfl⟩⟩
     omega
   ·have e:k=dc:=by omega
    subst e
    refine AX.sR (rgAV [1,3,4,6,38,39,47,48,49,54,55,56]) ?_
    refine AX.seq ?_
    refine AX.condF ?_
    refine AX.exit ?_
    refine nmZ ?_
    refine AX.rR (rgWV [1,3,4,38,39,47,48,49] (aI @lit_add oT) oT) ?_
    refine nmZ ?_
    refine ⟨_,_,id,?_,
     leQ2
     , ⟨j+1,q,o+k,by omega,rfl,hnx,hq,hpo,rfl⟩⟩
    omega
  ·have e:j=2:=by omega
   subst e
   have ho':o=n+m:=ho
   subst ho'
   have hql:rL q0≤120*(L+1)+1:=by
    rw [hq0]
    have:=hsl (n+m) (by omega)
    have h2:(n+m)*(L+1)≤120*(L+1):=Nat.mul_le_mul_right _ (by omega)
    omega
   have cs:PCall Tryz.prog 107 [.agg [.b (decide (q0.num<0)),dg (digits q0.num.natAbs),dg (digits q0.den)],rR (decide ((1:Rat).num<0)) (digits (1:Rat).num.natAbs) (digits (1:Rat).den)] (.b (decide (q0=1))) []:=qsame_ok (L:=120*(L+1)+1) (IsQ.of hql) (IsQ.of (by omega)) (by omega)
   rw [both_sum] at hq0
   by_cases hs:q0=1
   ·have hpre':∀ k,k<i+1→chR n m A B k:=by
     intro k hk
     by_cases e:k=i
     ·subst e
      refine ⟨fun k' hk'=>?_,fun k' hk'=>?_,by rw [← hq0];exact hs⟩
      ·have:=hpo k' (by omega)
       unfold both at this
       rwa [if_pos hk'] at this
      ·have:=hpo (n+k') (by omega)
       unfold both at this
       rwa [if_neg (by omega),Nat.add_sub_cancel_left] at this
     ·exact hpre k (by omega)
    rw [decide_eq_true hs] at cs
    refine AX.sR (rgAV [1,3,4,38,39,47,48,49,50]) ?_
    refine AX.seq ?_
    refine AX.condF ?_
    refine AX.exit ?_
    refine nmZ ?_
    refine AX.sD (rgDCV [1,38,39,74] (aI co (aI cs oT))) ?_
    refine AX.condF ?_
    refine AX.keepA [1,38,39] ?_
    refine AX.skip ?_
    refine nmZ ?_
    refine AX.rR (rgWV [1,38,39] (aI @lit_add oT) oT) ?_
    refine nmZ ?_
    refine ⟨_,_,id,?_,
     leQ2
     , ⟨i+1,by omega,rfl,hpre',rfl⟩⟩
    omega
   ·have er:res=false:=hbad i h1 fun hch=>hs (by rw [hq0];exact hch.2.2)
    subst er
    rw [decide_eq_false hs] at cs
    refine AX.sR (rgAV [1,3,4,38,39,47,48,49,50]) ?_
    refine AX.seq ?_
    refine AX.condF ?_
    refine AX.exit ?_
    refine nmZ ?_
    refine AX.sD (rgDCV [1,38,39,74] (aI co (aI cs oT))) ?_
    refine AX.condT ?_
    refine AX.sR (rgAV [2]) ?_
    refine AX.ret ⟨.inl rfl,?_⟩
    exact Done.one rfl rfl rfl rfl
 ·have er:res=true:=hgood fun k hk=>hpre k (by omega)
  subst er
  refine AX.sR (rgAV [1,38,39,40]) ?_
  refine AX.seq ?_
  refine AX.condF ?_
  refine AX.exit ?_
  refine nmZ ?_
  refine AX.sR (rgAV [2]) ?_
  refine AX.ret ⟨.inl rfl,?_⟩
  exact Done.one rfl rfl rfl rfl
def bl (n:Nat) (f:Nat→Bool):List V:=(List.range n).map fun i=>.b (f i)
theorem bl_length (n:Nat)(f:Nat→Bool):(bl n f).length=n:=by simp [bl]
theorem bl_get {n i:Nat} (f:Nat→Bool)(h:i<n):(bl n f).getD i .junk=.b (f i):=by
 simp [bl,List.getD_eq_getElem?_getD,h]
theorem bl_congr {n:Nat} {f g:Nat→Bool} (h:∀ i,i<n→f i=g i):bl n f=bl n g:=List.map_congr_left fun i hi=>by rw [h i (by simpa using hi)]
def updB (f:Nat→Bool) (i:Nat) (b:Bool):Nat→Bool:=fun j=>if j=i then b else f j
theorem bl_set {n i:Nat} (f:Nat→Bool)(b:Bool)(h:i<n):(bl n f).set i (.b b)=bl n (updB f i b):=by
 apply List.ext_getElem?
 intro j
 rw [List.getElem?_set]
 unfold bl
 simp only [List.length_map,List.length_range]
 by_cases hj:j<n
 ·simp only [List.getElem?_map,List.getElem?_range hj,Option.map_some]
  unfold updB
  by_cases e:i=j
  ·subst e
   rw [if_pos rfl,if_pos h,if_pos rfl]
  ·rw [if_neg e,if_neg fun e'=>e e'.symm]
 ·have h1:∀ f:Nat→Bool,(List.map (fun i=>V.b (f i)) (List.range n))[j]? = none:=fun f=>List.getElem?_eq_none (by simp;omega)
  rw [h1,h1,if_neg (by omega)]
theorem bl_zero (n:Nat):List.replicate n (V.b false)=bl n fun _=>false:=by
 apply List.ext_getElem?
 intro j
 unfold bl
 by_cases hj:j<n
 ·simp [hj]
 ·simp [hj]
theorem bl_hf (n:Nat)(f:Nat→Bool):V.hfL (bl n f)=true∧(bl n f).all V.flat=true:=by
 unfold bl
 generalize List.range n=l
 induction l with
 | nil=>exact ⟨rfl,rfl⟩
 | cons a l ih=>
  refine ⟨?_,?_⟩
  ·simp only [List.map_cons,V.hfL,ih.1,V.hf,Bool.and_self]
  ·rw [List.map_cons,List.all_cons,ih.2]
   rfl
theorem ren_bl (f:Nat→Nat)(n:Nat)(g:Nat→Bool):V.renL f (bl n g)=bl n g:=(hf_names f 0 _ (bl_hf n g).1).1
theorem lt_bl (k n:Nat)(g:Nat→Bool):V.ltL k (bl n g)=true:=(hf_names id k _ (bl_hf n g).1).2
theorem leQ3 {g:Nat} {f:Nat→Nat} {st' st:St} (h1:LeFr f st.fr st'.nx st'.fr:=by simp only [ren_q,renL_u,ren_z,ren_bl,lt_q,ltL_u,lt_z,lt_bl,LeFr,LeHp,lkp,V.ren,V.renL,Row.ren,V.lt,V.ltL,renL_u,ltL_u,List.length_append,List.length_cons,List.length_nil,List.length_set,id_eq,Option.some.injEq,V.i.injEq,V.b.injEq,V.own.injEq,Row.mk.injEq,decide_true,decide_eq_true_eq,true_and,and_true,Bool.and_true,Bool.true_and,if_true,if_false,and_self,Nat.reduceLT,Nat.reduceLeDiff,Nat.reduceEqDiff,Nat.reduceAdd,Nat.reduceSub,Nat.reduceMul,Nat.reducePow,Nat.reduceBEq,Int.reduceLE,Int.reduceLT,Int.reduceToNat,Int.reduceEq,Int.reduceNeg,↓reduceIte,reduceCtorEq] <;> (first | done | trivial | (and_intros<;>first | trivial | omega | assumption)))
  (h2:LeHp f st.hp st'.nx st'.hp:=by simp only [ren_q,renL_u,ren_z,ren_bl,lt_q,ltL_u,lt_z,lt_bl,LeFr,LeHp,lkp,V.ren,V.renL,Row.ren,V.lt,V.ltL,renL_u,ltL_u,List.length_append,List.length_cons,List.length_nil,List.length_set,id_eq,Option.some.injEq,V.i.injEq,V.b.injEq,V.own.injEq,Row.mk.injEq,decide_true,decide_eq_true_eq,true_and,and_true,Bool.and_true,Bool.true_and,if_true,if_false,and_self,Nat.reduceLT,Nat.reduceLeDiff,Nat.reduceEqDiff,Nat.reduceAdd,Nat.reduceSub,Nat.reduceMul,Nat.reducePow,Nat.reduceBEq,Int.reduceLE,Int.reduceLT,Int.reduceToNat,Int.reduceEq,Int.reduceNeg,↓reduceIte,reduceCtorEq] <;> (first | done | trivial | (and_intros<;>first | trivial | omega | assumption)))
  (h3:Apart f st'.hp:=by simp [Apart]) (h4:g≤st'.nx:=by first | exact Nat.zero_le _ | simp) (h5:∀ n,n<g→f n=n:=by intro n hn;first | rfl | exact absurd hn (Nat.not_lt_zero _) | (have h0:n=0:=Nat.lt_one_iff.1 hn;subst h0;rfl)):Le g f st' st:=⟨h1,h2,h3,h4,h5⟩
theorem Lift.Done.slB {P:Program} {st:St} {t:Tmp} {h n:Nat} {f:Nat→Bool} {T:TypeId} (h1:lkp st.fr t=some (.own h 0 n 1))(h2:lkp st.hp h=some ⟨T,bl n f⟩):Done P #[.tmp t] (.sl (bl n f)) [] st:=by
 have e:List.take n (List.drop 0 (bl n f))=bl n f:=by rw [List.drop_zero];exact List.take_of_length_le (by rw [bl_length];exact Nat.le_refl _)
 refine Done.of (vs:=[.own h 0 n 1]) (hp:=dlt st.hp h) ?_ ?_ rfl ?_ ?_
 ·simp only [resVs,resV,h1]
 ·simp only [packV,frz,h2,List.not_mem_nil,if_false,Nat.mul_one,Nat.zero_add,bl_length,Nat.le_refl,e,(bl_hf n f).1,(bl_hf n f).2,and_self,if_true,Nat.lt_succ_self,Nat.zero_lt_one,true_and,chunks_one]
 ·simp only [V.lt]
 ·simp only [V.ren]
attribute [go_sem] Tryz.underlying66
def exN (B:Mx) (i:Nat):Nat→Bool
 | 0=>false
 | j+1=>exN B i j || decide (B i j≠0)
theorem exN_iff (B:Mx)(i m:Nat):exN B i m=true↔∃ j,j<m∧B i j≠0:=by
 induction m with
 | zero=>simp [exN]
 | succ m ih=>
  rw [exN,Bool.or_eq_true,ih,decide_eq_true_eq]
  constructor
  ·rintro (⟨j,h1,h2⟩ | h)
   ·exact ⟨j,by omega,h2⟩
   ·exact ⟨m,by omega,h⟩
  ·rintro ⟨j,h1,h2⟩
   by_cases e:j=m
   ·subst e;exact .inr h2
   ·exact .inl ⟨j,by omega,h2⟩
def cntF:Nat→(Nat→Bool)→Nat
 | 0,_=>0
 | n+1,f=>cntF n f+if f n=true then 0 else 1
theorem cntF_upd {n i:Nat} {f:Nat→Bool} (hi:i<n)(h:f i=false):cntF n (updB f i true)+1=cntF n f:=by
 induction n with
 | zero=>omega
 | succ n ih=>
  unfold cntF
  by_cases e:i=n
  ·subst e
   have e1:∀ m,m≤i→cntF m (updB f i true)=cntF m f:=by
    intro m
    induction m with
    | zero=>intro _;rfl
    | succ m ihm=>
     intro hm
     have e2:updB f i true m=f m:=if_neg (by omega)
     unfold cntF
     rw [ihm (by omega),e2]
   rw [e1 i (Nat.le_refl _),h]
   unfold updB
   rw [if_pos rfl]
   rfl
  ·have:=ih (by omega)
   have e2:updB f i true n=f n:=if_neg fun e'=>e e'.symm
   rw [e2]
   omega
def chn (n m:Nat) (A B:Mx):Chn:=⟨n,m,A,B⟩
theorem isC_ok {n m:Nat} {A B:Mx} (h:isC n m A B=true):(chn n m A B).Ok:=by
 have h:=of_decide_eq_true h
 exact ⟨fun i k hi hk=>(h i hi).1 k hk,fun i k hi hk=>(h i hi).2.1 k hk,fun i hi=>(h i hi).2.2⟩
noncomputable def rchB (n m:Nat) (A B:Mx) (i:Nat):Bool:=@decide ((chn n m A B).Rch i) (Classical.propDecidable _)
theorem rchB_iff {n m:Nat} {A B:Mx} {i:Nat}:rchB n m A B i=true↔(chn n m A B).Rch i:=by
 unfold rchB
 exact @decide_eq_true_iff _ (Classical.propDecidable _)
structure Fnd (n m:Nat) (A B:Mx) (f:Nat→Bool):Prop where
 sound:∀ i,i<n→f i=true→(chn n m A B).Rch i
 exit:∀ i,i<n→exN B i m=true→f i=true
theorem Fnd.rch {n m:Nat} {A B:Mx} {f:Nat→Bool} (h:Fnd n m A B f)(hcl:∀ a b,a<n→b<n→f b=true→A a b≠0→f a=true):∀ i,i<n→f i=rchB n m A B i:=by
 intro i hi
 have hall:∀ i,(chn n m A B).Rch i→f i=true:=by
  intro i hr
  induction hr with
  | exit h1 h2 h3=>
   exact h.exit _ h1 ((exN_iff _ _ _).2 ⟨_,h2,fun e=>by
    have h3:0<B _ _:=h3
    rw [e] at h3
    exact absurd h3 (by decide)⟩)
  | move h1 h2 h3 h4 ih=>
   exact hcl _ _ h1 h2 ih fun e=>by
    have h3:0<A _ _:=h3
    rw [e] at h3
    exact absurd h3 (by decide)
 cases hf:f i
 ·cases hr:rchB n m A B i
  ·rfl
  ·rw [hall i (rchB_iff.1 hr)] at hf
   cases hf
 ·exact (rchB_iff.2 (h.sound i hi hf)).symm
theorem pos_of {q:Rat} (h0:0≤q)(h:q≠0):0<q:=by
 rcases Rat.le_iff_lt_or_eq.1 h0 with h1 | h1
 ·exact h1
 ·exact absurd h1.symm h
set_option maxHeartbeats 16000000 in
theorem reaches_ok (n m L:Nat) (hn:n≤60) (hm:m≤60) (A B:Mx) (hC:isC n m A B=true) :
  PCall Tryz.prog 131 [cV n m A B] (.sl (bl n (rchB n m A B))) []:=by
 have hOk:=isC_ok hC
 refine PCall.of_ax Tryz.call131 Tryz.func131 rfl (by simp [Tryz.ntmps131]) fun O w=>?_
 simp only [Tryz.ntmps131,Tryz.results131,argFr]
 have hcA:=fun (i k:Nat) (hi:i<n) (hk:k<n)=>ccell_q hn hn A hi hk
 have hcB:=fun (i k:Nat) (hi:i<n) (hk:k<m)=>ccell_q hn hm B hi hk
 unfold cV
 generalize (mcells n A (n*n)).map rV=Ac at *
 generalize (mcells m B (n*m)).map rV=Bc at *
 refine AX.sR (rgAV [1]) ?_
 refine AX.sR (rgWV [1,3] (aI @bl_zero oT) oT) ?_
 refine AX.cut (fun st=>Le 0 id ⟨[(3,.own 1 0 n 1),(1,.ptr 0 0)],[(1,⟨4,bl n fun i=>exN B i m⟩),(0,⟨43,[.i .i64 n,.i .i64 n,.sl Ac,.i .i64 n,.i .i64 m,.sl Bc]⟩)],2⟩ st) ?_ ?_
 ·refine AX.sR (rgAV [1,3,14,15]) ?_
  refine AX.weaken id (st':=⟨[(15,.i .i64 (0:Nat)),(14,.i .i64 n),(3,.own 1 0 n 1),(1,.ptr 0 0)],[(1,⟨4,bl n fun _=>false⟩),(0,⟨43,[.i .i64 n,.i .i64 n,.sl Ac,.i .i64 n,.i .i64 m,.sl Bc]⟩)],2⟩)
   leQ3
   ?_
  refine AX.block ?_
  refine AX.loop (fun N st=>∃ (i:Nat) (f:Nat→Bool),i≤n∧N=n-i∧(∀ i',f i'=if i' < i then exN B i' m else false)∧st=⟨[(15,.i .i64 i),(14,.i .i64 n),(3,.own 1 0 n 1),(1,.ptr 0 0)],[(1,⟨4,bl n f⟩),(0,⟨43,[.i .i64 n,.i .i64 n,.sl Ac,.i .i64 n,.i .i64 m,.sl Bc]⟩)],2⟩) n ⟨0,_,Nat.zero_le _,rfl,fun i'=>by rw [if_neg (Nat.not_lt_zero _)],rfl⟩ ?_
  rintro N st ⟨i,f,hi,rfl,hf,rfl⟩
  by_cases h1:i<n
  ·refine AX.sR (rgAV [1,3,14,15,16]) ?_
   refine AX.seq ?_
   refine AX.condT ?_
   refine AX.keepA [1,3,14,15] ?_
   refine AX.skip ?_
   refine nmZ ?_
   refine AX.seq ?_
   refine AX.block ?_
   refine AX.sR (rgAV [1,3,4,14,15]) ?_
   refine AX.sR (rgAV [1,3,4,14,15,20,21]) ?_
   refine AX.weaken id (st':=⟨[(21,.i .i64 (0:Nat)),(20,.i .i64 m),(15,.i .i64 i),(14,.i .i64 n),(4,.i .i64 i),(3,.own 1 0 n 1),(1,.ptr 0 0)],[(1,⟨4,bl n f⟩),(0,⟨43,[.i .i64 n,.i .i64 n,.sl Ac,.i .i64 n,.i .i64 m,.sl Bc]⟩)],2⟩)
    leQ3
    ?_
   refine AX.block ?_
   refine AX.loop (fun N st=>∃ (j:Nat) (f:Nat→Bool),j≤m∧N=m-j∧(∀ i',f i'=if i' < i then exN B i' m else if i'=i then exN B i j else false)∧st=⟨[(21,.i .i64 j),(20,.i .i64 m),(15,.i .i64 i),(14,.i .i64 n),(4,.i .i64 i),(3,.own 1 0 n 1),(1,.ptr 0 0)],[(1,⟨4,bl n f⟩),(0,⟨43,[.i .i64 n,.i .i64 n,.sl Ac,.i .i64 n,.i .i64 m,.sl Bc]⟩)],2⟩) m ⟨0,f,Nat.zero_le _,rfl,fun i'=>by
    rw [hf i']
    by_cases h:i' < i
    ·rw [if_pos h,if_pos h]
    ·rw [if_neg h,if_neg h]
     split<;>rfl,rfl⟩ ?_
   clear hf f
   rintro N st ⟨j,f,hj,rfl,hf,rfl⟩
   by_cases h2:j<m
   ·have hl:=bl_length n f
    have hg:=bl_get f h1
    have hfi:f i=exN B i j:=by rw [hf i,if_neg (Nat.lt_irrefl _),if_pos rfl]
    rw [hfi] at hg
    have hc:=hcB i j h1 h2
    have nz:=num0 (q:=B i j)
    have hset:=bl_set f (exN B i (j+1)) h1
    have hf':∀ i',updB f i (exN B i (j+1)) i'=if i' < i then exN B i' m else if i'=i then exN B i (j+1) else false:=by
     intro i'
     unfold updB
     by_cases e:i'=i
     ·subst e
      rw [if_pos rfl,if_neg (Nat.lt_irrefl _),if_pos rfl]
     ·rw [if_neg e,hf i',if_neg e,if_neg e]
    obtain ⟨e2,he2⟩:∃ e,exN B i (j+1)=e:=⟨_,rfl⟩
    have hx:e2=(exN B i j || decide (B i j≠0)):=he2.symm
    rw [he2] at hf' hset
    generalize updB f i e2=f2 at *
    generalize exN B i j=e1 at *
    cases e1
    ·by_cases hz:B i j=0
     ·have ez:=nz.2 hz
      have hx':e2=false:=by rw [hx,hz];rfl
      subst hx'
      generalize B i j=p at *
      refine AX.sR (rgAV [1,3,4,14,15,20,21,22]) ?_
      refine AX.seq ?_
      refine AX.condT ?_
      refine AX.keepA [1,3,4,14,15,20,21] ?_
      refine AX.skip ?_
      refine nmZ ?_
      refine AX.seq ?_
      refine AX.block ?_
      refine AX.sR (rgAV [1,3,4,5,14,15,20,21]) ?_
      refine AX.rR (rgWV [1,3,4,14,15,20,21] (aI @hl (aI @hg (aI @ez oT))) (aI hc oT)) ?_
      refine nmZ ?_
      rw [hset]
      refine AX.rR (rgWV [1,3,4,14,15,20,21] (aI @lit_add oT) oT) ?_
      refine nmZ ?_
      refine ⟨_,_,id,?_,
       leQ3
       , ⟨j+1,f2,by omega,rfl,(fun i'=>by rw [hf' i',he2]),rfl⟩⟩
      omega
     ·have ez:0<(digits (B i j).num.natAbs).length:=Nat.pos_of_ne_zero fun e=>hz (nz.1 e)
      have hx':e2=true:=by rw [hx,decide_eq_true hz];rfl
      subst hx'
      generalize B i j=p at *
      refine AX.sR (rgAV [1,3,4,14,15,20,21,22]) ?_
      refine AX.seq ?_
      refine AX.condT ?_
      refine AX.keepA [1,3,4,14,15,20,21] ?_
      refine AX.skip ?_
      refine nmZ ?_
      refine AX.seq ?_
      refine AX.block ?_
      refine AX.sR (rgAV [1,3,4,5,14,15,20,21]) ?_
      refine AX.rR (rgWV [1,3,4,14,15,20,21] (aI @hl (aI @hg oT)) (aI hc oT)) ?_
      refine nmZ ?_
      rw [hset]
      refine AX.rR (rgWV [1,3,4,14,15,20,21] (aI @lit_add oT) oT) ?_
      refine nmZ ?_
      refine ⟨_,_,id,?_,
       leQ3
       , ⟨j+1,f2,by omega,rfl,(fun i'=>by rw [hf' i',he2]),rfl⟩⟩
      omega
    ·have hx':e2=true:=by rw [hx];rfl
     subst hx'
     refine AX.sR (rgAV [1,3,4,14,15,20,21,22]) ?_
     refine AX.seq ?_
     refine AX.condT ?_
     refine AX.keepA [1,3,4,14,15,20,21] ?_
     refine AX.skip ?_
     refine nmZ ?_
     refine AX.seq ?_
     refine AX.block ?_
     refine AX.sR (rgAV [1,3,4,5,14,15,20,21]) ?_
     refine AX.rR (rgWV [1,3,4,14,15,20,21] (aI @hl (aI @hg oT)) oT) ?_
     refine nmZ ?_
     rw [hset]
     refine AX.rR (rgWV [1,3,4,14,15,20,21] (aI @lit_add oT) oT) ?_
     refine nmZ ?_
     refine ⟨_,_,id,?_,
      leQ3
      , ⟨j+1,f2,by omega,rfl,(fun i'=>by rw [hf' i',he2]),rfl⟩⟩
     omega
   ·have e:j=m:=by omega
    subst e
    refine AX.sR (rgAV [1,3,4,14,15,20,21,22]) ?_
    refine AX.seq ?_
    refine AX.condF ?_
    refine AX.exit ?_
    refine nmZ ?_
    refine AX.rR (rgWV [1,3,14,15] (aI @lit_add oT) oT) ?_
    refine nmZ ?_
    refine ⟨_,_,id,?_,
     leQ3
     , ⟨i+1,f,by omega,rfl,(fun i'=>by
       rw [hf i']
       by_cases h:i' < i
       ·rw [if_pos h,if_pos (by omega)]
       ·rw [if_neg h]
        by_cases e:i'=i
        ·subst e
         rw [if_pos rfl,if_pos (by omega)]
        ·rw [if_neg e,if_neg (by omega)]),rfl⟩⟩
    omega
  ·have hbl:bl n f=bl n fun i=>exN B i m:=bl_congr fun i' hi'=>by rw [hf i',if_pos (by omega)]
   rw [hbl]
   refine AX.sR (rgAV [1,3,14,15,16]) ?_
   refine AX.seq ?_
   refine AX.condF ?_
   refine AX.exit ?_
   refine nmZ ?_
   exact ⟨by first | exact trivial | rfl,
    leQ3
    ⟩
 ·intro st0 hle
  refine AX.weaken id hle ?_
  refine AX.seq ?_
  refine AX.sR (rgAV [1,3,6]) ?_
  refine AX.weaken id (st':=⟨[(6,.b true),(3,.own 1 0 n 1),(1,.ptr 0 0)],[(1,⟨4,bl n fun i=>exN B i m⟩),(0,⟨43,[.i .i64 n,.i .i64 n,.sl Ac,.i .i64 n,.i .i64 m,.sl Bc]⟩)],2⟩)
   leQ3
   ?_
  refine AX.block ?_
  refine AX.loop (fun N st=>∃ (f:Nat→Bool) (more:Bool),N=2*cntF n f+(if more=true then 1 else 0)∧Fnd n m A B f∧(more=false→∀ a b,a<n→b<n→f b=true→A a b≠0→f a=true)∧st=⟨[(6,.b more),(3,.own 1 0 n 1),(1,.ptr 0 0)],[(1,⟨4,bl n f⟩),(0,⟨43,[.i .i64 n,.i .i64 n,.sl Ac,.i .i64 n,.i .i64 m,.sl Bc]⟩)],2⟩) (2*cntF n (fun i=>exN B i m)+1) ⟨_,true,rfl,⟨fun i hi h=>by
    obtain ⟨j,h1,h2⟩:=(exN_iff _ _ _).1 h
    exact .exit hi h1 (pos_of (hOk.E0 i j hi h1) h2),fun i hi h=>h⟩,(fun h=>by cases h),rfl⟩ ?_
  rintro N st ⟨f0,more,rfl,hfd0,hcl0,rfl⟩
  cases more
  ·have hfin:bl n f0=bl n (rchB n m A B):=bl_congr (hfd0.rch (hcl0 rfl))
   rw [hfin]
   refine AX.seq ?_
   refine AX.sR (rgAV [1,3,43]) ?_
   refine AX.condF ?_
   refine AX.exit ?_
   refine nmZ ?_
   refine AX.sR (rgAV [2]) ?_
   refine AX.ret ⟨.inl rfl,?_⟩
   exact Done.slB rfl rfl
  ·refine AX.seq ?_
   refine AX.sR (rgAV [1,3,43]) ?_
   refine AX.condT ?_
   refine AX.keepA [1,3] ?_
   refine AX.skip ?_
   refine nmZ ?_
   refine AX.block ?_
   refine AX.sR (rgAV [1,3,6]) ?_
   refine AX.sR (rgAV [1,3,6,45,46]) ?_
   refine AX.weaken id (st':=⟨[(46,.i .i64 (0:Nat)),(45,.i .i64 n),(6,.b false),(3,.own 1 0 n 1),(1,.ptr 0 0)],[(1,⟨4,bl n f0⟩),(0,⟨43,[.i .i64 n,.i .i64 n,.sl Ac,.i .i64 n,.i .i64 m,.sl Bc]⟩)],2⟩)
    leQ3
    ?_
   refine AX.block ?_
   refine AX.loop (fun N st=>∃ (i:Nat) (f:Nat→Bool) (more:Bool),i≤n∧N=n-i∧Fnd n m A B f∧((more=true∧cntF n f<cntF n f0)∨(more=false∧f=f0∧∀ a b,a<n→b<n→a<i→f b=true→A a b≠0→f a=true))∧st=⟨[(46,.i .i64 i),(45,.i .i64 n),(6,.b more),(3,.own 1 0 n 1),(1,.ptr 0 0)],[(1,⟨4,bl n f⟩),(0,⟨43,[.i .i64 n,.i .i64 n,.sl Ac,.i .i64 n,.i .i64 m,.sl Bc]⟩)],2⟩) n ⟨0,f0,false,Nat.zero_le _,rfl,hfd0,.inr ⟨rfl,rfl,fun a b _ _ h=>absurd h (Nat.not_lt_zero _)⟩,rfl⟩ ?_
   clear hcl0
   rintro N st ⟨i,f,more,hi,rfl,hfd,hP,rfl⟩
   by_cases h1:i<n
   ·refine AX.sR (rgAV [1,3,6,45,46,47]) ?_
    refine AX.seq ?_
    refine AX.condT ?_
    refine AX.keepA [1,3,6,45,46] ?_
    refine AX.skip ?_
    refine nmZ ?_
    refine AX.seq ?_
    refine AX.block ?_
    refine AX.sR (rgAV [1,3,6,7,45,46]) ?_
    refine AX.sR (rgAV [1,3,6,7,45,46,50,51]) ?_
    refine AX.weaken id (st':=⟨[(51,.i .i64 (0:Nat)),(50,.i .i64 n),(46,.i .i64 i),(45,.i .i64 n),(7,.i .i64 i),(6,.b more),(3,.own 1 0 n 1),(1,.ptr 0 0)],[(1,⟨4,bl n f⟩),(0,⟨43,[.i .i64 n,.i .i64 n,.sl Ac,.i .i64 n,.i .i64 m,.sl Bc]⟩)],2⟩)
     leQ3
     ?_
    refine AX.block ?_
    refine AX.loop (fun N st=>∃ (k:Nat) (f:Nat→Bool) (more:Bool),k≤n∧N=n-k∧Fnd n m A B f∧((more=true∧cntF n f<cntF n f0)∨(more=false∧f=f0∧∀ a b,a<n→b<n→(a<i∨a=i∧b<k)→f b=true→A a b≠0→f a=true))∧st=⟨[(51,.i .i64 k),(50,.i .i64 n),(46,.i .i64 i),(45,.i .i64 n),(7,.i .i64 i),(6,.b more),(3,.own 1 0 n 1),(1,.ptr 0 0)],[(1,⟨4,bl n f⟩),(0,⟨43,[.i .i64 n,.i .i64 n,.sl Ac,.i .i64 n,.i .i64 m,.sl Bc]⟩)],2⟩) n ⟨0,f,more,Nat.zero_le _,rfl,hfd,hP.imp id (fun h=>⟨h.1,h.2.1,fun a b h1 h2 h3=>h.2.2 a b h1 h2 (by omega)⟩),rfl⟩ ?_
    clear hfd hP more f
    rintro N st ⟨k,f,more,hk,rfl,hfd,hP,rfl⟩
    by_cases h2:k<n
    ·have hl:=bl_length n f
     have hgi:=bl_get f h1
     have hgk:=bl_get f h2
     have hc:=hcA i k h1 h2
     have nz:=num0 (q:=A i k)
     have same:(f i=false→f k=true→A i k=0)→((more=true∧cntF n f<cntF n f0)∨(more=false∧f=f0∧∀ a b,a<n→b<n→(a<i∨a=i∧b<k+1)→f b=true→A a b≠0→f a=true)):=fun hno=>hP.imp id fun h=>⟨h.1,h.2.1,fun a b ha hb hab hfb hAab=>by
      by_cases e:a=i∧b=k
      ·obtain ⟨rfl,rfl⟩:=e
       cases hfa:f a
       ·exact absurd (hno hfa hfb) hAab
       ·rfl
      ·exact h.2.2 a b ha hb (by omega) hfb hAab⟩
     cases hfi:f i
     ·cases hfk:f k
      ·rw [hfi] at hgi
       rw [hfk] at hgk
       have hs:=same (fun _ h=>by rw [hfk] at h;cases h)
       refine AX.sR (rgAV [1,3,6,7,45,46,50,51,52]) ?_
       refine AX.seq ?_
       refine AX.condT ?_
       refine AX.keepA [1,3,6,7,45,46,50,51] ?_
       refine AX.skip ?_
       refine nmZ ?_
       refine AX.seq ?_
       refine AX.block ?_
       refine AX.sR (rgAV [1,3,6,7,8,45,46,50,51]) ?_
       refine AX.sR (rgWV [1,3,6,7,45,46,50,51,74] (aI @hl (aI @hgi (aI @hgk oT))) oT) ?_
       refine AX.condF ?_
       refine AX.keepA [1,3,6,7,45,46,50,51] ?_
       refine AX.skip ?_
       refine nmZ ?_
       refine AX.rR (rgWV [1,3,6,7,45,46,50,51] (aI @lit_add oT) oT) ?_
       refine nmZ ?_
       refine ⟨_,_,id,?_,
        leQ3
        , ⟨k+1,f,more,by omega,rfl,hfd,hs,rfl⟩⟩
       omega
      ·rw [hfi] at hgi
       rw [hfk] at hgk
       by_cases hz:A i k=0
       ·have hs:=same (fun _ _=>hz)
        have ez:=nz.2 hz
        clear same
        generalize A i k=p at *
        refine AX.sR (rgAV [1,3,6,7,45,46,50,51,52]) ?_
        refine AX.seq ?_
        refine AX.condT ?_
        refine AX.keepA [1,3,6,7,45,46,50,51] ?_
        refine AX.skip ?_
        refine nmZ ?_
        refine AX.seq ?_
        refine AX.block ?_
        refine AX.sR (rgAV [1,3,6,7,8,45,46,50,51]) ?_
        refine AX.sR (rgWV [1,3,6,7,45,46,50,51,74] (aI @hl (aI @hgi (aI @hgk (aI @ez oT)))) (aI hc oT)) ?_
        refine AX.condF ?_
        refine AX.keepA [1,3,6,7,45,46,50,51] ?_
        refine AX.skip ?_
        refine nmZ ?_
        refine AX.rR (rgWV [1,3,6,7,45,46,50,51] (aI @lit_add oT) oT) ?_
        refine nmZ ?_
        refine ⟨_,_,id,?_,
         leQ3
         , ⟨k+1,f,more,by omega,rfl,hfd,hs,rfl⟩⟩
        omega
       ·have ez:0<(digits (A i k).num.natAbs).length:=Nat.pos_of_ne_zero fun e=>hz (nz.1 e)
        have hset:=bl_set f true h1
        have hcnt:=cntF_upd (n:=n) h1 hfi
        have hfd':Fnd n m A B (updB f i true):=by
         refine ⟨fun a ha h=>?_,fun a ha h=>?_⟩
         ·by_cases e:a=i
          ·subst e
           exact .move h1 h2 (pos_of (hOk.M0 a k h1 h2) hz) (hfd.sound k h2 hfk)
          ·unfold updB at h
           rw [if_neg e] at h
           exact hfd.sound a ha h
         ·unfold updB
          split
          ·rfl
          ·exact hfd.exit a ha h
        have hcnt':cntF n (updB f i true)<cntF n f0:=by
         rcases hP with h | h
         ·omega
         ·rw [← h.2.1];omega
        clear same hP
        generalize updB f i true=f2 at *
        generalize A i k=p at *
        refine AX.sR (rgAV [1,3,6,7,45,46,50,51,52]) ?_
        refine AX.seq ?_
        refine AX.condT ?_
        refine AX.keepA [1,3,6,7,45,46,50,51] ?_
        refine AX.skip ?_
        refine nmZ ?_
        refine AX.seq ?_
        refine AX.block ?_
        refine AX.sR (rgAV [1,3,6,7,8,45,46,50,51]) ?_
        refine AX.sR (rgWV [1,3,6,7,45,46,50,51,74] (aI @hl (aI @hgi (aI @hgk oT))) (aI hc oT)) ?_
        refine AX.condT ?_
        refine AX.rR (rgWV [1,3,6,7,45,46,50,51] (aI @hl oT) oT) ?_
        refine nmZ ?_
        rw [hset]
        refine AX.rR (rgWV [1,3,6,7,45,46,50,51] (aI @lit_add oT) oT) ?_
        refine nmZ ?_
        refine ⟨_,_,id,?_,
         leQ3
         , ⟨k+1,f2,true,by omega,rfl,hfd',.inl ⟨rfl,hcnt'⟩,rfl⟩⟩
        omega
     ·rw [hfi] at hgi
      have hs:=same (fun h=>by rw [hfi] at h;cases h)
      refine AX.sR (rgAV [1,3,6,7,45,46,50,51,52]) ?_
      refine AX.seq ?_
      refine AX.condT ?_
      refine AX.keepA [1,3,6,7,45,46,50,51] ?_
      refine AX.skip ?_
      refine nmZ ?_
      refine AX.seq ?_
      refine AX.block ?_
      refine AX.sR (rgAV [1,3,6,7,8,45,46,50,51]) ?_
      refine AX.sR (rgWV [1,3,6,7,45,46,50,51,74] (aI @hl (aI @hgi oT)) oT) ?_
      refine AX.condF ?_
      refine AX.keepA [1,3,6,7,45,46,50,51] ?_
      refine AX.skip ?_
      refine nmZ ?_
      refine AX.rR (rgWV [1,3,6,7,45,46,50,51] (aI @lit_add oT) oT) ?_
      refine nmZ ?_
      refine ⟨_,_,id,?_,
       leQ3
       , ⟨k+1,f,more,by omega,rfl,hfd,hs,rfl⟩⟩
      omega
    ·refine AX.sR (rgAV [1,3,6,7,45,46,50,51,52]) ?_
     refine AX.seq ?_
     refine AX.condF ?_
     refine AX.exit ?_
     refine nmZ ?_
     refine AX.rR (rgWV [1,3,6,45,46] (aI @lit_add oT) oT) ?_
     refine nmZ ?_
     refine ⟨_,_,id,?_,
      leQ3
      , ⟨i+1,f,more,by omega,rfl,hfd,hP.imp id (fun h=>⟨h.1,h.2.1,fun a b ha hb hab=>h.2.2 a b ha hb (by omega)⟩),rfl⟩⟩
     omega
   ·refine AX.sR (rgAV [1,3,6,45,46,47]) ?_
    refine AX.seq ?_
    refine AX.condF ?_
    refine AX.exit ?_
    refine nmZ ?_
    refine ⟨2*cntF n f+(if more=true then 1 else 0),_,id,?_,
     leQ3
     , ⟨f,more,rfl,hfd,(fun hm'=>by
       rcases hP with h | h
       ·rw [h.1] at hm';cases hm'
       ·exact fun a b ha hb=>h.2.2 a b ha hb (by omega)),rfl⟩⟩
    rcases hP with h | h
    ·rw [h.1,if_pos rfl]
     omega
    ·rw [h.1,h.2.1]
     simp
end Go.Proofs.YteidabibgjokkaaGreatDoor
