import Derived.Test.YteidabibgjokkaaGreatDoorHM
set_option maxRecDepth 20000
set_option linter.all false
namespace Go.Proofs.YteidabibgjokkaaGreatDoor
open Go Go.Proofs.YteidabibgjokkaaGreatDoor.Lift
attribute [local irreducible] Lift.PCall Lift.HCall
def il (l:List Nat):List V:=l.map fun (j:Nat)=>V.i .i64 (j:Int)
theorem il_length (l:List Nat):(il l).length=l.length:=List.length_map ..
theorem il_get {l:List Nat} {j:Nat} (h:j<l.length):(il l).getD j .junk=.i .i64 ((l.getD j 0:Nat):Int):=by
 simp [il,List.getD_eq_getElem?_getD,h]
theorem il_app (l:List Nat)(x:Nat):il l++[.i .i64 (x:Int)]=il (l++[x]):=by simp [il]
theorem il_hf (l:List Nat):V.hfL (il l)=true∧(il l).all V.flat=true:=by
 induction l with
 | nil=>exact ⟨rfl,rfl⟩
 | cons a l ih=>
  refine ⟨?_,?_⟩
  ·show V.hfL (V.i .i64 (a:Int) :: il l)=true
   simp only [V.hfL,ih.1,V.hf,Bool.and_self]
  ·show (V.i .i64 (a:Int) :: il l).all V.flat=true
   rw [List.all_cons,ih.2]
   rfl
theorem ren_il (f:Nat→Nat)(l:List Nat):V.renL f (il l)=il l:=(hf_names f 0 _ (il_hf l).1).1
theorem lt_il (k:Nat)(l:List Nat):V.ltL k (il l)=true:=(hf_names id k _ (il_hf l).1).2
theorem leQ4 {g:Nat} {f:Nat→Nat} {st' st:St} (h1:LeFr f st.fr st'.nx st'.fr:=by simp only [ren_q,renL_u,ren_z,ren_bl,ren_il,lt_q,ltL_u,lt_z,lt_bl,lt_il,LeFr,LeHp,lkp,V.ren,V.renL,Row.ren,V.lt,V.ltL,renL_u,ltL_u,List.length_append,List.length_cons,List.length_nil,List.length_set,id_eq,Option.some.injEq,V.i.injEq,V.b.injEq,V.own.injEq,Row.mk.injEq,decide_true,decide_eq_true_eq,true_and,and_true,Bool.and_true,Bool.true_and,if_true,if_false,and_self,Nat.reduceLT,Nat.reduceLeDiff,Nat.reduceEqDiff,Nat.reduceAdd,Nat.reduceSub,Nat.reduceMul,Nat.reducePow,Nat.reduceBEq,Int.reduceLE,Int.reduceLT,Int.reduceToNat,Int.reduceEq,Int.reduceNeg,↓reduceIte,reduceCtorEq] <;> (first | done | trivial | (and_intros<;>first | trivial | omega | assumption)))
  (h2:LeHp f st.hp st'.nx st'.hp:=by simp only [ren_q,renL_u,ren_z,ren_bl,ren_il,lt_q,ltL_u,lt_z,lt_bl,lt_il,LeFr,LeHp,lkp,V.ren,V.renL,Row.ren,V.lt,V.ltL,renL_u,ltL_u,List.length_append,List.length_cons,List.length_nil,List.length_set,id_eq,Option.some.injEq,V.i.injEq,V.b.injEq,V.own.injEq,Row.mk.injEq,decide_true,decide_eq_true_eq,true_and,and_true,Bool.and_true,Bool.true_and,if_true,if_false,and_self,Nat.reduceLT,Nat.reduceLeDiff,Nat.reduceEqDiff,Nat.reduceAdd,Nat.reduceSub,Nat.reduceMul,Nat.reducePow,Nat.reduceBEq,Int.reduceLE,Int.reduceLT,Int.reduceToNat,Int.reduceEq,Int.reduceNeg,↓reduceIte,reduceCtorEq] <;> (first | done | trivial | (and_intros<;>first | trivial | omega | assumption)))
  (h3:Apart f st'.hp:=by simp [Apart]) (h4:g≤st'.nx:=by first | exact Nat.zero_le _ | simp) (h5:∀ n,n<g→f n=n:=by intro n hn;first | rfl | exact absurd hn (Nat.not_lt_zero _) | (have h0:n=0:=Nat.lt_one_iff.1 hn;subst h0;rfl)):Le g f st' st:=⟨h1,h2,h3,h4,h5⟩
theorem leQ4H {g:Nat} {f:Nat→Nat} {st' st:St} {H:Prop} (hh:H) (h1:H→LeFr f st.fr st'.nx st'.fr:=by intro hh;simp only [ren_q,renL_u,ren_z,ren_bl,ren_il,lt_q,ltL_u,lt_z,lt_bl,lt_il,LeFr,LeHp,lkp,V.ren,V.renL,Row.ren,V.lt,V.ltL,renL_u,ltL_u,List.length_append,List.length_cons,List.length_nil,List.length_set,id_eq,Option.some.injEq,V.i.injEq,V.b.injEq,V.own.injEq,Row.mk.injEq,decide_true,decide_eq_true_eq,true_and,and_true,Bool.and_true,Bool.true_and,if_true,if_false,and_self,Nat.reduceLT,Nat.reduceLeDiff,Nat.reduceEqDiff,Nat.reduceAdd,Nat.reduceSub,Nat.reduceMul,Nat.reducePow,Nat.reduceBEq,Int.reduceLE,Int.reduceLT,Int.reduceToNat,Int.reduceEq,Int.reduceNeg,↓reduceIte,reduceCtorEq] <;> (first | done | trivial | (and_intros<;>first | trivial | omega | rw [hh] | (simp only [hh];done) | assumption)))
  (h2:H→LeHp f st.hp st'.nx st'.hp:=by intro hh;simp only [ren_q,renL_u,ren_z,ren_bl,ren_il,lt_q,ltL_u,lt_z,lt_bl,lt_il,LeFr,LeHp,lkp,V.ren,V.renL,Row.ren,V.lt,V.ltL,renL_u,ltL_u,List.length_append,List.length_cons,List.length_nil,List.length_set,id_eq,Option.some.injEq,V.i.injEq,V.b.injEq,V.own.injEq,Row.mk.injEq,decide_true,decide_eq_true_eq,true_and,and_true,Bool.and_true,Bool.true_and,if_true,if_false,and_self,Nat.reduceLT,Nat.reduceLeDiff,Nat.reduceEqDiff,Nat.reduceAdd,Nat.reduceSub,Nat.reduceMul,Nat.reducePow,Nat.reduceBEq,Int.reduceLE,Int.reduceLT,Int.reduceToNat,Int.reduceEq,Int.reduceNeg,↓reduceIte,reduceCtorEq] <;> (first | done | trivial | (and_intros<;>first | trivial | omega | rw [hh] | (simp only [hh];done) | assumption)))
  (h3:Apart f st'.hp:=by simp [Apart]) (h4:g≤st'.nx:=by first | exact Nat.zero_le _ | simp) (h5:∀ n,n<g→f n=n:=by intro n hn;first | rfl | exact absurd hn (Nat.not_lt_zero _) | (have h0:n=0:=Nat.lt_one_iff.1 hn;subst h0;rfl)):Le g f st' st:=⟨h1 hh,h2 hh,h3,h4,h5⟩
theorem dnQ4 {P:Program} {rs:Array ResultVar} {vs:List V} {r v:V} {st:St} {hp:List (Nat × Row)} (h1:resVs P st rs.toList=some vs:=by simp (disch:=omega) only [resVs,resV,go_sem,i64_of,u32_of,u64_of,Nat.reduceLT,Nat.reduceLeDiff,Nat.reduceEqDiff,Nat.reduceAdd,Nat.reduceSub,Nat.reduceMul,Nat.reducePow,Nat.reduceBEq,Int.reduceLE,Int.reduceLT,Int.reduceToNat,Int.reduceEq,Int.reduceNeg,↓reduceIte,reduceCtorEq];rfl)(h2:frz [] (packV vs) st.hp=some (v,hp):=by simp only [packV,frz,frzL];rfl) (h:v=r:=by rfl)
  (h3:r.lt 0=true:=by simp only [V.lt,V.ltL,ltL_u,lt_q,ltL_u,lt_z,lt_bl,lt_il];first | done | rfl) (h4:r.ren id=r:=by simp only [V.ren,V.renL,renL_u,ren_q,renL_u,ren_z,ren_bl,ren_il];first | done | rfl):Done P rs r [] st:=Lift.Done.of h1 h2 h h3 h4
theorem Lift.Done.slI {P:Program} {st:St} {t:Tmp} {h n:Nat} {l:List Nat} {T:TypeId} (h1:lkp st.fr t=some (.own h 0 n 1))(h2:lkp st.hp h=some ⟨T,il l⟩)(hn:n=l.length):Done P #[.tmp t] (.sl (il l)) [] st:=by
 subst hn
 have e:List.take l.length (List.drop 0 (il l))=il l:=by rw [List.drop_zero];exact List.take_of_length_le (by rw [il_length];exact Nat.le_refl _)
 refine Done.of (vs:=[.own h 0 l.length 1]) (hp:=dlt st.hp h) ?_ ?_ rfl ?_ ?_
 ·simp only [resVs,resV,h1]
 ·simp only [packV,frz,h2,List.not_mem_nil,if_false,Nat.mul_one,Nat.zero_add,il_length,Nat.le_refl,e,(il_hf l).1,(il_hf l).2,and_self,if_true,Nat.lt_succ_self,Nat.zero_lt_one,true_and,chunks_one]
 ·simp only [V.lt]
 ·simp only [V.ren]
attribute [go_sem] Tryz.underlying22
def pick (n:Nat) (f:Nat→Bool):List Nat:=(List.range n).filter f
theorem pick_succ (n:Nat)(f:Nat→Bool):pick (n+1) f=if f n=true then pick n f++[n] else pick n f:=by
 unfold pick
 rw [List.range_succ,List.filter_append]
 cases h:f n
 ·simp [h]
 ·simp [h]
theorem pick_le (n:Nat)(f:Nat→Bool):(pick n f).length≤n:=by
 have:=List.length_filter_le f (List.range n)
 rwa [List.length_range] at this
set_option maxHeartbeats 4000000 in
theorem picked_ok (n:Nat)(hn:n≤60)(f:Nat→Bool):PCall Tryz.prog 130 [.sl (bl n f)] (.sl (il (pick n f))) []:=by
 refine PCall.of_ax Tryz.call130 Tryz.func130 rfl (by simp [Tryz.ntmps130]) fun O w=>?_
 simp only [Tryz.ntmps130,Tryz.results130,argFr]
 have hl:=bl_length n f
 refine AX.sR (rgAV [0]) ?_
 refine AX.sR (rgAV [0,3]) ?_
 refine AX.own0 3 3 1 rfl ?_
 refine AX.seq ?_
 refine AX.sR (rgWV [3,6,7,8] (aI @hl oT) oT) ?_
 refine AX.weaken id (st':=⟨[(8,.i .i64 (0:Nat)),(7,.i .i64 n),(6,.sl (bl n f)),(3,.own 0 0 (pick 0 f).length 1)],[(0,⟨3,il (pick 0 f)⟩)],1⟩)
  leQ4
  ?_
 refine AX.block ?_
 refine AX.loop (fun N st=>∃ (i:Nat) (l:List Nat),i≤n∧N=n-i∧pick i f=l∧st=⟨[(8,.i .i64 i),(7,.i .i64 n),(6,.sl (bl n f)),(3,.own 0 0 l.length 1)],[(0,⟨3,il l⟩)],1⟩) n ⟨0,_,Nat.zero_le _,rfl,rfl,rfl⟩ ?_
 rintro N st ⟨i,l,hi,rfl,hpk,rfl⟩
 by_cases h1:i<n
 ·have hg:=bl_get f h1
  have hs:=pick_succ i f
  rw [hpk] at hs
  have hll:=il_length l
  have hlb:l.length≤60:=by
   have:=pick_le i f
   rw [hpk] at this
   omega
  cases hf:f i
  ·rw [hf] at hg
   rw [if_neg (by rw [hf];exact Bool.false_ne_true)] at hs
   refine AX.sR (rgAV [3,6,7,8,9]) ?_
   refine AX.seq ?_
   refine AX.condT ?_
   refine AX.keepA [3,6,7,8] ?_
   refine AX.skip ?_
   refine nmZ ?_
   refine AX.seq ?_
   refine AX.block ?_
   refine AX.sR (rgWV [3,4,5,6,7,8] (aI @hl (aI @hg oT)) oT) ?_
   refine AX.sR (rgAV [3,4,6,7,8,13]) ?_
   refine AX.condF ?_
   refine AX.keepA [3,6,7,8] ?_
   refine AX.skip ?_
   refine nmZ ?_
   refine AX.rR (rgWV [3,6,7,8] (aI @lit_add oT) oT) ?_
   refine nmZ ?_
   refine ⟨_,_,id,?_,
    leQ4
    , ⟨i+1,l,by omega,rfl,hs,rfl⟩⟩
   omega
  ·rw [hf] at hg
   rw [if_pos hf] at hs
   have happ:=il_app l i
   have hlen:(l++[i]).length=l.length+1:=by simp
   generalize l++[i]=l2 at *
   refine AX.sR (rgAV [3,6,7,8,9]) ?_
   refine AX.seq ?_
   refine AX.condT ?_
   refine AX.keepA [3,6,7,8] ?_
   refine AX.skip ?_
   refine nmZ ?_
   refine AX.seq ?_
   refine AX.block ?_
   refine AX.sR (rgWV [3,4,5,6,7,8] (aI @hl (aI @hg oT)) oT) ?_
   refine AX.sR (rgAV [3,4,6,7,8,13]) ?_
   refine AX.condT ?_
   refine AX.rR (rgWV [3,6,7,8] (aI @hll (aI @zerosV_1 (aI @tkS (aI @tk0 oT)))) oT) ?_
   refine nmZ ?_
   rw [happ]
   refine AX.rR (rgWV [3,6,7,8] (aI @lit_add oT) oT) ?_
   refine nmZ ?_
   refine ⟨_,_,fun n=>if n=0 then 2 else n,?_,
    leQ4
    , ⟨i+1,l2,by omega,rfl,hs,rfl⟩⟩
   omega
 ·have e:i=n:=by omega
  subst e
  rw [hpk]
  refine AX.sR (rgAV [3,6,7,8,9]) ?_
  refine AX.seq ?_
  refine AX.condF ?_
  refine AX.exit ?_
  refine nmZ ?_
  refine AX.sR (rgAV [2]) ?_
  refine AX.ret ⟨.inl rfl,?_⟩
  exact Done.slI rfl rfl rfl
def pkM (t:Bool) (of:List Nat) (A:Mx):Mx:=fun i k=>if t=true then A (of.getD k 0) (of.getD i 0) else A (of.getD i 0) (of.getD k 0)
def subM (t:Bool) (of:List Nat) (A:Mx):Mx:=fun i k=>if i=k then 1+-pkM t of A i k else -pkM t of A i k
theorem rL1:rL (1:Rat)≤1:=by
 have:rL (rq false 1 1)≤1:=rL_rq (by rw [show (1:Nat)=0+1 from rfl];exact digits_length_le (by decide)) (by rw [show (1:Nat)=0+1 from rfl];exact digits_length_le (by decide)) (Nat.le_refl _)
 exact this
theorem rL_one (q:Rat) {B:Nat} (hq:rL q≤B)(hB:1≤B):rL (1+q)≤B+1:=by
 have eq:=rq_self q
 have e1:rq (decide ((1:Rat).num<0)) (1:Rat).num.natAbs (1:Rat).den=1:=rq_self 1
 have q1:(digits q.num.natAbs).length≤B:=Nat.le_trans (Nat.le_max_left _ _) hq
 have q2:(digits q.den).length≤B:=Nat.le_trans (Nat.le_max_right _ _) hq
 rw [← e1,← eq,add_rq (by decide) q.den_nz]
 have n1:(1:Rat).num.natAbs=1:=rfl
 have n2:(1:Rat).den=1:=rfl
 rw [n1,n2,Nat.one_mul,Nat.mul_one]
 have l4:=len_sum (m:=q.den) (n:=q.num.natAbs) (K:=B) q2 q1
 refine rL_mk _ _ _ ?_ (by omega) (by omega)
 refine Nat.le_trans (digits_len_mono (n:=q.den+q.num.natAbs) ?_) l4
 have h1:=sg_natAbs (decide ((1:Rat).num<0)) q.den
 have h2:=sg_natAbs (decide (q.num<0)) q.num.natAbs
 omega
theorem subM_len {t:Bool} {of:List Nat} {A:Mx} {L n i k:Nat} (hA:∀ i k,i<n→k<n→rL (A i k)≤L)(hL1:1≤L)(hi:of.getD i 0<n)(hk:of.getD k 0<n):rL (subM t of A i k)≤L+1:=by
 have h:rL (-pkM t of A i k)≤L:=by
  rw [rL_neg]
  unfold pkM
  split
  ·exact hA _ _ hk hi
  ·exact hA _ _ hi hk
 unfold subM
 split
 ·exact rL_one _ h hL1
 ·omega
set_option maxHeartbeats 16000000 in
theorem within_ok (n m L:Nat) (hn:n≤60) (hm:m≤60) (A B:Mx) (hA:∀ i k,i<n→k<n→rL (A i k)≤L) (of:List Nat) (p:Nat) (hp:of.length=p) (hp60:p≤60) (hof:∀ i,i<p→of.getD i 0<n) (cols:Nat) (hcols:cols≤60)
  (g:FuncId) (caps:List V) (hh:V.hfL caps=true) (R:Mx) (turned:Bool) (hside:∀ i k,i<p→k<cols→PCall Tryz.prog g (.i .i64 (of.getD i 0:Nat) :: .i .i64 k :: cnlL caps) (.agg [.b (decide ((R i k).num<0)),dg (digits (R i k).num.natAbs),dg (digits (R i k).den)]) [])
  (hN:NonSing p (subM turned of A)) (hR:∀ i k,i<p→k<cols→rL (R i k)≤L+1) (hL1:1≤L) (hL2:4*bigL p (L+1)<2 ^ 33) :
  PCall Tryz.prog 132 [cV n m A B,.sl (il of),.i .i64 cols,.fn g caps,.b turned] (qM p cols (solX p (subM turned of A) R)) []:=by
 have hU:=U_le p (L+1)
 have hU1:1*(L+1+1)≤4 ^ p*(L+1+1):=Nat.mul_le_mul_right _ (Nat.pow_pos (by omega))
 have cs:=solve_ok p cols (L+1) hp60 hcols (subM turned of A) R hN (fun i j hi hj=>subM_len hA hL1 (hof i hi) (hof j hj)) hR (by omega) hL2
 have co:PCall Tryz.prog 96 [] (rR (decide ((1:Rat).num<0)) (digits (1:Rat).num.natAbs) (digits (1:Rat).den)) []:=one_ok
 have cneg:∀ q:Rat,rL q≤L→PCall Tryz.prog 134 [.agg [.b (decide (q.num<0)),dg (digits q.num.natAbs),dg (digits q.den)]] (.agg [.b (decide ((-q).num<0)),dg (digits (-q).num.natAbs),dg (digits (-q).den)]) []:=fun q hq=>qneg_ok (IsQ.of hq) (by omega)
 have cadd:∀ q:Rat,rL q≤L→PCall Tryz.prog 50 [rR (decide ((1:Rat).num<0)) (digits (1:Rat).num.natAbs) (digits (1:Rat).den),.agg [.b (decide ((-q).num<0)),dg (digits (-q).num.natAbs),dg (digits (-q).den)]] (.agg [.b (decide ((1+-q).num<0)),dg (digits (1+-q).num.natAbs),dg (digits (1+-q).den)]) []:=fun q hq=>qadd_ok (L:=L) (IsQ.of (Nat.le_trans rL1 hL1)) (IsQ.of (by rw [rL_neg];exact hq)) (by omega)
 refine PCall.of_ax Tryz.call132 Tryz.func132 rfl (by simp [Tryz.ntmps132]) fun O w=>?_
 simp only [Tryz.ntmps132,Tryz.results132,argFr]
 have hren:∀ f,V.renL f caps=caps:=fun f=>(hf_names f 0 caps hh).1
 have hlt:∀ n,V.ltL n caps=true:=fun n=>(hf_names id n caps hh).2
 have hcA:=fun (i k:Nat) (hi:i<n) (hk:k<n)=>ccell_q hn hn A hi hk
 have hll:=il_length of
 rw [hp] at hll
 have hget:=fun (i:Nat) (hi:i<p)=>il_get (l:=of) (j:=i) (by omega)
 have hpk:∀ i k,pkM turned of A i k=if turned=true then A (of.getD k 0) (of.getD i 0) else A (of.getD i 0) (of.getD k 0):=fun _ _=>rfl
 have hsub:∀ i k,subM turned of A i k=if i=k then 1+-pkM turned of A i k else -pkM turned of A i k:=fun _ _=>rfl
 have hpl:∀ i k,i<p→k<p→rL (pkM turned of A i k)≤L:=fun i k hi hk=>by
  rw [hpk]
  split
  ·exact hA _ _ (hof k hk) (hof i hi)
  ·exact hA _ _ (hof i hi) (hof k hk)
 clear hA
 unfold cV
 generalize (mcells n A (n*n)).map rV=Ac at *
 generalize (mcells m B (n*m)).map rV=Bc at *
 generalize hSM:subM turned of A=S at *
 generalize hPM:pkM turned of A=Pk at *
 clear hSM hPM
 refine AX.sR (rgAV [1,2,3,4,5,10]) ?_
 refine AX.sR (rgWV [1,2,3,4,5,10,11] (aI @hll oT) oT) ?_
 refine AX.sR (rgWV [1,2,3,4,5,10,11,12] (aI @hll oT) oT) ?_
 refine AX.own0c 2 2 54 3 rfl rfl (by show 2<3;decide) ?_
 refine AX.own0c 3 2 54 3 rfl rfl (by show 2<3;decide) ?_
 refine AX.seq ?_
 refine AX.sR (rgWV [1,2,3,4,5,10,11,12,31,32,33] (aI @hll oT) oT) ?_
 refine AX.weaken id (st':=⟨[(33,.i .i64 (0:Nat)),(32,.i .i64 p),(31,.sl (il of)),(12,.ptr 3 0),(11,.ptr 2 0),(10,.ptr 1 0),(5,.ptr 0 0),(4,.b turned),(3,.fn g caps),(2,.i .i64 cols),(1,.sl (il of))],[(0,⟨43,[.i .i64 n,.i .i64 n,.sl Ac,.i .i64 n,.i .i64 m,.sl Bc]⟩),(1,⟨41,[.i .i64 0,.i .i64 0,.nl]⟩),(2,⟨41,[.i .i64 p,.i .i64 p,.own 4 0 0 3]⟩),(3,⟨41,[.i .i64 p,.i .i64 cols,.own 5 0 0 3]⟩),(4,⟨54,qrow []⟩),(5,⟨54,qrow []⟩)],6⟩)
  (leQ4H (And.intro hren hlt))
  ?_
 refine AX.block ?_
 refine AX.loop (fun N st=>∃ (i m1 m2:Nat) (xs ys:List Rat),i≤p∧N=p-i∧m1=i*p+0∧m2=i*cols+0∧xs=mcells p S m1∧ys=mcells cols R m2∧st=⟨[(33,.i .i64 i),(32,.i .i64 p),(31,.sl (il of)),(12,.ptr 3 0),(11,.ptr 2 0),(10,.ptr 1 0),(5,.ptr 0 0),(4,.b turned),(3,.fn g caps),(2,.i .i64 cols),(1,.sl (il of))],[(0,⟨43,[.i .i64 n,.i .i64 n,.sl Ac,.i .i64 n,.i .i64 m,.sl Bc]⟩),(1,⟨41,[.i .i64 0,.i .i64 0,.nl]⟩),(2,⟨41,[.i .i64 p,.i .i64 p,.own 4 0 m1 3]⟩),(3,⟨41,[.i .i64 p,.i .i64 cols,.own 5 0 m2 3]⟩),(4,⟨54,qrow xs⟩),(5,⟨54,qrow ys⟩)],6⟩) p ⟨0,0,0,[],[],Nat.zero_le _,rfl,by omega,by omega,rfl,rfl,rfl⟩ ?_
 rintro N st ⟨i,m1,m2,xs,ys,hi,rfl,hm1,hm2,hxs,hys,rfl⟩
 by_cases h1:i<p
 ·have hgi:=hget i h1
  have hxn:=hof i h1
  have hsd:=fun k=>hside i k h1
  have hcAx:=fun k=>hcA (of.getD i 0) k hxn
  have hcAy:=fun k (hk:k<n)=>hcA k (of.getD i 0) hk hxn
  have hpki:=fun k=>hpk i k
  have hpli:=fun k=>hpl i k h1
  generalize of.getD i 0=x at *
  refine AX.sR (rgAV [1,2,3,4,5,10,11,12,31,32,33,34]) ?_
  refine AX.seq ?_
  refine AX.condT ?_
  refine AX.keepA [1,2,3,4,5,10,11,12,31,32,33] ?_
  refine AX.skip ?_
  refine nmZ ?_
  refine AX.seq ?_
  refine AX.block ?_
  refine AX.sR (rgWV [1,2,3,4,5,10,11,12,13,14,31,32,33] (aI @hll (aI @hgi oT)) oT) ?_
  refine AX.cut (fun st=>∃ (m1':Nat) (xs':List Rat),m1'=i*p+p∧xs'=mcells p S m1'∧Le 0 id ⟨[(33,.i .i64 i),(32,.i .i64 p),(31,.sl (il of)),(14,.i .i64 x),(13,.i .i64 i),(12,.ptr 3 0),(11,.ptr 2 0),(10,.ptr 1 0),(5,.ptr 0 0),(4,.b turned),(3,.fn g caps),(2,.i .i64 cols),(1,.sl (il of))],[(0,⟨43,[.i .i64 n,.i .i64 n,.sl Ac,.i .i64 n,.i .i64 m,.sl Bc]⟩),(1,⟨41,[.i .i64 0,.i .i64 0,.nl]⟩),(2,⟨41,[.i .i64 p,.i .i64 p,.own 4 0 m1' 3]⟩),(3,⟨41,[.i .i64 p,.i .i64 cols,.own 5 0 m2 3]⟩),(4,⟨54,qrow xs'⟩),(5,⟨54,qrow ys⟩)],6⟩ st) ?_ ?_
  ·refine AX.sR (rgWV [1,2,3,4,5,10,11,12,13,14,31,32,33,38,39,40] (aI @hll oT) oT) ?_
   refine AX.weaken id (st':=⟨[(40,.i .i64 (0:Nat)),(39,.i .i64 p),(38,.sl (il of)),(33,.i .i64 i),(32,.i .i64 p),(31,.sl (il of)),(14,.i .i64 x),(13,.i .i64 i),(12,.ptr 3 0),(11,.ptr 2 0),(10,.ptr 1 0),(5,.ptr 0 0),(4,.b turned),(3,.fn g caps),(2,.i .i64 cols),(1,.sl (il of))],[(0,⟨43,[.i .i64 n,.i .i64 n,.sl Ac,.i .i64 n,.i .i64 m,.sl Bc]⟩),(1,⟨41,[.i .i64 0,.i .i64 0,.nl]⟩),(2,⟨41,[.i .i64 p,.i .i64 p,.own 4 0 m1 3]⟩),(3,⟨41,[.i .i64 p,.i .i64 cols,.own 5 0 m2 3]⟩),(4,⟨54,qrow xs⟩),(5,⟨54,qrow ys⟩)],6⟩)
    (leQ4H (And.intro hren hlt))
    ?_
   refine AX.block ?_
   refine AX.loop (fun N st=>∃ (k m1:Nat) (xs:List Rat),k≤p∧N=p-k∧m1=i*p+k∧xs=mcells p S m1∧st=⟨[(40,.i .i64 k),(39,.i .i64 p),(38,.sl (il of)),(33,.i .i64 i),(32,.i .i64 p),(31,.sl (il of)),(14,.i .i64 x),(13,.i .i64 i),(12,.ptr 3 0),(11,.ptr 2 0),(10,.ptr 1 0),(5,.ptr 0 0),(4,.b turned),(3,.fn g caps),(2,.i .i64 cols),(1,.sl (il of))],[(0,⟨43,[.i .i64 n,.i .i64 n,.sl Ac,.i .i64 n,.i .i64 m,.sl Bc]⟩),(1,⟨41,[.i .i64 0,.i .i64 0,.nl]⟩),(2,⟨41,[.i .i64 p,.i .i64 p,.own 4 0 m1 3]⟩),(3,⟨41,[.i .i64 p,.i .i64 cols,.own 5 0 m2 3]⟩),(4,⟨54,qrow xs⟩),(5,⟨54,qrow ys⟩)],6⟩) p ⟨0,m1,xs,Nat.zero_le _,rfl,hm1,hxs,rfl⟩ ?_
   clear hm1 hxs xs m1
   rintro N st ⟨k,m1,xs,hk,rfl,hm1,hxs,rfl⟩
   by_cases h2:k<p
   ·have hgk:=hget k h2
    have hyn:=hof k h2
    have hcx:=hcAx _ hyn
    have hcy:=hcAy _ hyn
    have hpe:=hpki k
    have hple:=hpli k h2
    have hse:=hsub i k
    have cn:=cneg _ hple
    have ca:=cadd _ hple
    have hmb:m1≤60*60+60:=by
     have:i*p≤60*60:=Nat.mul_le_mul (by omega) hp60
     omega
    have hlen:(qrow xs).length=m1*3:=by rw [qrow_length,hxs,mcells_length]
    have hrow:qrow xs++[.b (decide ((S i k).num<0)),dg (digits (S i k).num.natAbs),dg (digits (S i k).den)]=qrow (mcells p S (i*p+(k+1))):=by
     rw [mcells_succ S h2,qrow_app,hxs,hm1]
     rfl
    have hm1':m1+1=i*p+(k+1):=by omega
    obtain ⟨zs,hzs⟩:∃ zs,mcells p S (i*p+(k+1))=zs:=⟨_,rfl⟩
    rw [hzs] at hrow
    clear hcAx hcAy hpki hpli hsub hcA cneg cadd hxs hpk hpl
    generalize of.getD k 0=y at *
    generalize S i k=s at *
    generalize Pk i k=q at *
    refine AX.sR (rgAV [1,2,3,4,5,10,11,12,13,14,31,32,33,38,39,40,41]) ?_
    refine AX.seq ?_
    refine AX.condT ?_
    refine AX.keepA [1,2,3,4,5,10,11,12,13,14,31,32,33,38,39,40] ?_
    refine AX.skip ?_
    refine nmZ ?_
    refine AX.seq ?_
    refine AX.block ?_
    refine AX.sR (rgWV [1,2,3,4,5,10,11,12,13,14,15,16,31,32,33,38,39,40] (aI @hll (aI @hgk oT)) oT) ?_
    refine AX.sR (rgCV [1,2,3,4,5,10,11,12,13,14,15,16,17,31,32,33,38,39,40] (aI hcx oT)) ?_
    refine AX.cut (fun st=>Le 0 id ⟨[(40,.i .i64 k),(39,.i .i64 p),(38,.sl (il of)),(33,.i .i64 i),(32,.i .i64 p),(31,.sl (il of)),(17,.ptr 6 0),(15,.i .i64 k),(14,.i .i64 x),(13,.i .i64 i),(12,.ptr 3 0),(11,.ptr 2 0),(10,.ptr 1 0),(5,.ptr 0 0),(4,.b turned),(3,.fn g caps),(2,.i .i64 cols),(1,.sl (il of))],[(0,⟨43,[.i .i64 n,.i .i64 n,.sl Ac,.i .i64 n,.i .i64 m,.sl Bc]⟩),(1,⟨41,[.i .i64 0,.i .i64 0,.nl]⟩),(2,⟨41,[.i .i64 p,.i .i64 p,.own 4 0 m1 3]⟩),(3,⟨41,[.i .i64 p,.i .i64 cols,.own 5 0 m2 3]⟩),(4,⟨54,qrow xs⟩),(5,⟨54,qrow ys⟩),(6,⟨54,[.b (decide (q.num<0)),dg (digits q.num.natAbs),dg (digits q.den)]⟩)],7⟩ st) ?_ ?_
    ·cases turned
     ·rw [if_neg Bool.false_ne_true] at hpe
      subst hpe
      refine AX.sR (rgAV [1,2,3,4,5,10,11,12,13,14,15,16,17,31,32,33,38,39,40,50]) ?_
      refine AX.condF ?_
      refine AX.keepA [1,2,3,4,5,10,11,12,13,14,15,17,31,32,33,38,39,40] ?_
      refine AX.skip ?_
      refine nmZ ?_
      exact ⟨by first | exact trivial | rfl,
       (leQ4H (And.intro hren hlt))
       ⟩
     ·rw [if_pos rfl] at hpe
      subst hpe
      refine AX.sR (rgAV [1,2,3,4,5,10,11,12,13,14,15,16,17,31,32,33,38,39,40,50]) ?_
      refine AX.condT ?_
      refine AX.rR (rgCV [1,2,3,4,5,10,11,12,13,14,15,17,31,32,33,38,39,40] (aI hcy oT)) ?_
      refine nmZ ?_
      exact ⟨by first | exact trivial | rfl,
       (leQ4H (And.intro hren hlt))
       ⟩
    rintro st hle
    refine AX.weaken id hle ?_
    clear hle hcx hcy
    refine AX.sR (rgCV [1,2,3,4,5,10,11,12,13,14,15,18,31,32,33,38,39,40] (aI cn oT)) ?_
    refine AX.cut (fun st=>Le 0 id ⟨[(40,.i .i64 k),(39,.i .i64 p),(38,.sl (il of)),(33,.i .i64 i),(32,.i .i64 p),(31,.sl (il of)),(18,.ptr 7 0),(14,.i .i64 x),(13,.i .i64 i),(12,.ptr 3 0),(11,.ptr 2 0),(10,.ptr 1 0),(5,.ptr 0 0),(4,.b turned),(3,.fn g caps),(2,.i .i64 cols),(1,.sl (il of))],[(0,⟨43,[.i .i64 n,.i .i64 n,.sl Ac,.i .i64 n,.i .i64 m,.sl Bc]⟩),(1,⟨41,[.i .i64 0,.i .i64 0,.nl]⟩),(2,⟨41,[.i .i64 p,.i .i64 p,.own 4 0 m1 3]⟩),(3,⟨41,[.i .i64 p,.i .i64 cols,.own 5 0 m2 3]⟩),(4,⟨54,qrow xs⟩),(5,⟨54,qrow ys⟩),(7,⟨54,[.b (decide (s.num<0)),dg (digits s.num.natAbs),dg (digits s.den)]⟩)],8⟩ st) ?_ ?_
    ·by_cases hik:i=k
     ·subst hik
      rw [if_pos rfl] at hse
      subst hse
      refine AX.sR (rgAV [1,2,3,4,5,10,11,12,13,14,18,31,32,33,38,39,40,60]) ?_
      refine AX.condT ?_
      refine AX.rD (rgDCV [1,2,3,4,5,10,11,12,13,14,18,31,32,33,38,39,40] (aI co (aI ca oT))) ?_
      refine nmZ ?_
      exact ⟨by first | exact trivial | rfl,
       (leQ4H (And.intro hren hlt))
       ⟩
     ·rw [if_neg hik] at hse
      subst hse
      refine AX.sR (rgAV [1,2,3,4,5,10,11,12,13,14,18,31,32,33,38,39,40,60]) ?_
      refine AX.condF ?_
      refine AX.keepA [1,2,3,4,5,10,11,12,13,14,18,31,32,33,38,39,40] ?_
      refine AX.skip ?_
      refine nmZ ?_
      exact ⟨by first | exact trivial | rfl,
       (leQ4H (And.intro hren hlt))
       ⟩
    rintro st hle
    refine AX.weaken id hle ?_
    clear hle cn ca hse
    refine AX.rR (rgWV [1,2,3,4,5,10,11,12,13,14,31,32,33,38,39,40] (aI @hlen (aI @zerosV_1 (aI @tkS (aI @tk0 oT)))) oT) ?_
    refine nmZ ?_
    rw [hrow]
    refine AX.rR (rgWV [1,2,3,4,5,10,11,12,13,14,31,32,33,38,39,40] (aI @lit_add oT) oT) ?_
    refine nmZ ?_
    refine ⟨_,_,fun n=>if n=4 then 9 else n,?_,
     (leQ4H (And.intro hren hlt))
     , ⟨k+1,m1+1,zs,by omega,rfl,hm1',by rw [hm1',hzs],rfl⟩⟩
    omega
   ·have e:k=p:=by omega
    subst e
    refine AX.sR (rgAV [1,2,3,4,5,10,11,12,13,14,31,32,33,38,39,40,41]) ?_
    refine AX.seq ?_
    refine AX.condF ?_
    refine AX.exit ?_
    refine nmZ ?_
    refine ⟨by first | exact trivial | rfl,m1,xs,hm1,hxs,
     (leQ4H (And.intro hren hlt))
     ⟩
  clear hm1 hxs xs m1
  rintro st ⟨m1,xs,hm1,hxs,hle⟩
  refine AX.weaken id hle ?_
  clear hle
  refine AX.sR (rgAV [1,2,3,4,5,10,11,12,14,31,32,33,71,72]) ?_
  refine AX.weaken id (st':=⟨[(72,.i .i64 (0:Nat)),(71,.i .i64 cols),(33,.i .i64 i),(32,.i .i64 p),(31,.sl (il of)),(14,.i .i64 x),(12,.ptr 3 0),(11,.ptr 2 0),(10,.ptr 1 0),(5,.ptr 0 0),(4,.b turned),(3,.fn g caps),(2,.i .i64 cols),(1,.sl (il of))],[(0,⟨43,[.i .i64 n,.i .i64 n,.sl Ac,.i .i64 n,.i .i64 m,.sl Bc]⟩),(1,⟨41,[.i .i64 0,.i .i64 0,.nl]⟩),(2,⟨41,[.i .i64 p,.i .i64 p,.own 4 0 m1 3]⟩),(3,⟨41,[.i .i64 p,.i .i64 cols,.own 5 0 m2 3]⟩),(4,⟨54,qrow xs⟩),(5,⟨54,qrow ys⟩)],6⟩)
   (leQ4H (And.intro hren hlt))
   ?_
  refine AX.block ?_
  refine AX.loop (fun N st=>∃ (k m2:Nat) (ys:List Rat),k≤cols∧N=cols-k∧m2=i*cols+k∧ys=mcells cols R m2∧st=⟨[(72,.i .i64 k),(71,.i .i64 cols),(33,.i .i64 i),(32,.i .i64 p),(31,.sl (il of)),(14,.i .i64 x),(12,.ptr 3 0),(11,.ptr 2 0),(10,.ptr 1 0),(5,.ptr 0 0),(4,.b turned),(3,.fn g caps),(2,.i .i64 cols),(1,.sl (il of))],[(0,⟨43,[.i .i64 n,.i .i64 n,.sl Ac,.i .i64 n,.i .i64 m,.sl Bc]⟩),(1,⟨41,[.i .i64 0,.i .i64 0,.nl]⟩),(2,⟨41,[.i .i64 p,.i .i64 p,.own 4 0 m1 3]⟩),(3,⟨41,[.i .i64 p,.i .i64 cols,.own 5 0 m2 3]⟩),(4,⟨54,qrow xs⟩),(5,⟨54,qrow ys⟩)],6⟩) cols ⟨0,m2,ys,Nat.zero_le _,rfl,hm2,hys,rfl⟩ ?_
  clear hm2 hys ys m2
  rintro N st ⟨k,m2,ys,hk,rfl,hm2,hys,rfl⟩
  by_cases h2:k<cols
  ·have hc:=hsd k h2
   have hmb:m2≤60*60+60:=by
    have:i*cols≤60*60:=Nat.mul_le_mul (by omega) hcols
    omega
   have hlen:(qrow ys).length=m2*3:=by rw [qrow_length,hys,mcells_length]
   have hrow:qrow ys++[.b (decide ((R i k).num<0)),dg (digits (R i k).num.natAbs),dg (digits (R i k).den)]=qrow (mcells cols R (i*cols+(k+1))):=by
    rw [mcells_succ R h2,qrow_app,hys,hm2]
    rfl
   have hm2':m2+1=i*cols+(k+1):=by omega
   obtain ⟨zs,hzs⟩:∃ zs,mcells cols R (i*cols+(k+1))=zs:=⟨_,rfl⟩
   rw [hzs] at hrow
   clear hsd hys
   generalize R i k=s at *
   refine AX.sR (rgAV [1,2,3,4,5,10,11,12,14,31,32,33,71,72,73]) ?_
   refine AX.seq ?_
   refine AX.condT ?_
   refine AX.keepA [1,2,3,4,5,10,11,12,14,31,32,33,71,72] ?_
   refine AX.skip ?_
   refine nmZ ?_
   refine AX.seq ?_
   refine AX.block ?_
   refine AX.sR (rgAV [1,2,3,4,5,10,11,12,14,19,31,32,33,71,72]) ?_
   refine AX.rD (rgDWV [1,2,3,4,5,10,11,12,14,31,32,33,71,72] (aI @hlen (aI @zerosV_1 (aI @tkS (aI @tk0 oT)))) (aI hc oT)) ?_
   refine nmZ ?_
   rw [hrow]
   refine AX.rR (rgWV [1,2,3,4,5,10,11,12,14,31,32,33,71,72] (aI @lit_add oT) oT) ?_
   refine nmZ ?_
   refine ⟨_,_,fun n=>if n=5 then 7 else n,?_,
    (leQ4H (And.intro hren hlt))
    , ⟨k+1,m2+1,zs,by omega,rfl,hm2',by rw [hm2',hzs],rfl⟩⟩
   omega
  ·have e:k=cols:=by omega
   refine AX.sR (rgAV [1,2,3,4,5,10,11,12,14,31,32,33,71,72,73]) ?_
   refine AX.seq ?_
   refine AX.condF ?_
   refine AX.exit ?_
   refine nmZ ?_
   refine AX.rR (rgWV [1,2,3,4,5,10,11,12,31,32,33] (aI @lit_add oT) oT) ?_
   refine nmZ ?_
   refine ⟨_,_,id,?_,
    (leQ4H (And.intro hren hlt))
    , ⟨i+1,m1,m2,xs,ys,by omega,rfl,by rw [hm1,Nat.succ_mul];omega,by rw [hm2,e,Nat.succ_mul];omega,hxs,hys,rfl⟩⟩
   omega
 ·have e:i=p:=by omega
  have hm1':m1=p*p:=by rw [hm1,e];rfl
  have hm2':m2=p*cols:=by rw [hm2,e];rfl
  rw [hm1'] at hxs
  rw [hm2'] at hys
  have l1:xs.length=m1:=by rw [hxs,hm1',mcells_length]
  have l2:ys.length=m2:=by rw [hys,hm2',mcells_length]
  unfold qM mV at cs
  rw [← hxs,← hys] at cs
  clear hm1 hm2 hm1' hm2' hxs hys
  subst l1 l2
  unfold qM mV
  generalize (mcells cols (solX p S R) (p*cols)).map rV=Xc at *
  refine AX.sR (rgAV [10,11,12,34]) ?_
  refine AX.seq ?_
  refine AX.condF ?_
  refine AX.exit ?_
  refine nmZ ?_
  refine AX.fz 4 (fr':=[(12,.ptr 3 0),(11,.ptr 2 0),(10,.ptr 1 0)]) (hp':=[(1,⟨41,[.i .i64 0,.i .i64 0,.nl]⟩),(2,⟨41,[.i .i64 p,.i .i64 p,.sl (xs.map rV)]⟩),(3,⟨41,[.i .i64 p,.i .i64 cols,.own 5 0 ys.length 3]⟩),(5,⟨54,qrow ys⟩)]) rfl (hf_q xs) (.cons rfl .same (.cons rfl .same (.cons rfl .same .nil))) (.keep (by decide) rfl (.cons (by decide) rfl rfl rfl (fun k hk=>?_) (.keep (by decide) rfl (.keep (by decide) rfl .nil)))) ?_
  ·have:k=0∨k=1∨k=2:=by simp at hk;omega
   rcases this with rfl | rfl | rfl
   ·exact .same
   ·exact .same
   ·exact .own (okFrz_q xs) (by rw [take_q,chunks_q])
  refine AX.fz 5 (fr':=[(12,.ptr 3 0),(11,.ptr 2 0),(10,.ptr 1 0)]) (hp':=[(1,⟨41,[.i .i64 0,.i .i64 0,.nl]⟩),(2,⟨41,[.i .i64 p,.i .i64 p,.sl (xs.map rV)]⟩),(3,⟨41,[.i .i64 p,.i .i64 cols,.sl (ys.map rV)]⟩)]) rfl (hf_q ys) (.cons rfl .same (.cons rfl .same (.cons rfl .same .nil))) (.keep (by decide) rfl (.keep (by decide) rfl (.cons (by decide) rfl rfl rfl (fun k hk=>?_) .nil))) ?_
  ·have:k=0∨k=1∨k=2:=by simp at hk;omega
   rcases this with rfl | rfl | rfl
   ·exact .same
   ·exact .same
   ·exact .own (okFrz_q ys) (by rw [take_q,chunks_q])
  refine AX.sR (rgCV [10,20] (aI cs oT)) ?_
  refine AX.sR (rgAV [10]) ?_
  refine AX.ret ⟨.inl rfl,?_⟩
  exact dnQ4
theorem pick_at {n s:Nat} {f:Nat→Bool} (hs:s<n)(hf:f s=true):(pick s f).length<(pick n f).length∧(pick n f).getD (pick s f).length 0=s:=by
 induction n with
 | zero=>omega
 | succ n ih=>
  rw [pick_succ]
  by_cases e:s=n
  ·subst e
   rw [if_pos hf]
   simp [List.getD_eq_getElem?_getD]
  ·obtain ⟨h1,h2⟩:=ih (by omega)
   split
   ·refine ⟨by simp;omega,?_⟩
    rw [List.getD_eq_getElem?_getD,List.getElem?_append_left h1,← List.getD_eq_getElem?_getD]
    exact h2
   ·exact ⟨h1,h2⟩
theorem pick_get {n i:Nat} {f:Nat→Bool} (hi:i<(pick n f).length):(pick n f).getD i 0<n∧f ((pick n f).getD i 0)=true∧(pick ((pick n f).getD i 0) f).length=i:=by
 induction n with
 | zero=>simp [pick] at hi
 | succ n ih=>
  cases h:f n
  ·have e:pick (n+1) f=pick n f:=by rw [pick_succ,if_neg (by rw [h];exact Bool.false_ne_true)]
   rw [e] at hi ⊢
   obtain ⟨h1,h2,h3⟩:=ih hi
   exact ⟨by omega,h2,h3⟩
  ·have e:pick (n+1) f=pick n f++[n]:=by rw [pick_succ,if_pos h]
   rw [e] at hi ⊢
   rw [List.length_append,List.length_singleton] at hi
   by_cases hlt:i<(pick n f).length
   ·have e2:(pick n f++[n]).getD i 0=(pick n f).getD i 0:=by rw [List.getD_eq_getElem?_getD,List.getElem?_append_left hlt,← List.getD_eq_getElem?_getD]
    rw [e2]
    obtain ⟨h1,h2,h3⟩:=ih hlt
    exact ⟨by omega,h2,h3⟩
   ·have ei:i=(pick n f).length:=by omega
    subst ei
    have e2:(pick n f++[n]).getD (pick n f).length 0=n:=by simp [List.getD_eq_getElem?_getD]
    rw [e2]
    exact ⟨by omega,h,rfl⟩
theorem sumN_pick (f:Nat→Bool)(G:Nat→Nat→Rat):∀ n,(sumN n fun k=>if f k=true then G (pick k f).length k else 0)=sumN (pick n f).length fun i=>G i ((pick n f).getD i 0):=by
 intro n
 induction n with
 | zero=>rfl
 | succ n ih=>
  rw [sumN_succ,ih]
  cases h:f n
  ·have e:pick (n+1) f=pick n f:=by rw [pick_succ,if_neg (by rw [h];exact Bool.false_ne_true)]
   rw [e,if_neg Bool.false_ne_true,Rat.add_zero]
  ·have e:pick (n+1) f=pick n f++[n]:=by rw [pick_succ,if_pos h]
   have el:(pick (n+1) f).length=(pick n f).length+1:=by rw [e];simp
   rw [el,if_pos rfl,sumN_succ]
   congr 1
   ·refine sumN_congr fun i hi=>?_
    rw [e,List.getD_eq_getElem?_getD,List.getD_eq_getElem?_getD,List.getElem?_append_left hi]
   ·rw [e]
    simp [List.getD_eq_getElem?_getD]
def lift (n:Nat) (f:Nat→Bool) (y:Nat→Rat):Nat→Rat:=fun k=>if f k=true then y (pick k f).length else 0
theorem subM_sum {n:Nat} {f:Nat→Bool} {A:Mx} {i:Nat} (hi:i<(pick n f).length)(y:Nat→Rat)(t:Bool):(sumN (pick n f).length fun k=>subM t (pick n f) A i k*y k)=y i-sumN (pick n f).length fun k=>pkM t (pick n f) A i k*y k:=by
 have h1:(sumN (pick n f).length fun k=>subM t (pick n f) A i k*y k)=(sumN (pick n f).length fun k=>if k=i then y i else 0)-sumN (pick n f).length fun k=>pkM t (pick n f) A i k*y k:=by
  rw [← sumN_sub]
  refine sumN_congr fun k _=>?_
  unfold subM
  by_cases e:i=k
  ·subst e
   rw [if_pos rfl,if_pos rfl]
   grind
  ·rw [if_neg e,if_neg fun e'=>e e'.symm]
   grind
 rw [h1,sumN_single hi (fun k _ hk=>if_neg hk),if_pos rfl]
theorem pk_sum {n:Nat} {f:Nat→Bool} {A:Mx} {i:Nat} (hi:i<(pick n f).length)(y:Nat→Rat):(sumN (pick n f).length fun k=>pkM false (pick n f) A i k*y k)=sumN n fun k=>A ((pick n f).getD i 0) k*lift n f y k:=by
 have:=sumN_pick f (fun j k=>A ((pick n f).getD i 0) k*y j) n
 have e:(sumN n fun k=>A ((pick n f).getD i 0) k*lift n f y k)=sumN n fun k=>if f k=true then A ((pick n f).getD i 0) k*y (pick k f).length else 0:=by
  refine sumN_congr fun k _=>?_
  unfold lift
  split
  ·rfl
  ·exact Rat.mul_zero _
 rw [e,this]
 rfl
theorem nonsing_sub {n m:Nat} {A B:Mx} (hC:isC n m A B=true):NonSing (pick n (rchB n m A B)).length (subM false (pick n (rchB n m A B)) A):=by
 intro y hy
 have hOk:=isC_ok hC
 have h0:∀ i,i<n→lift n (rchB n m A B) y i=0:=by
  refine Chn.only (c:=chn n m A B) hOk (fun i hi hr=>?_) (fun i hi hr=>?_)
  ·have hi:i<n:=hi
   have hf:=rchB_iff.2 hr
   obtain ⟨h1,h2⟩:=pick_at hi hf
   have h3:=hy _ h1
   rw [subM_sum h1,pk_sum h1,h2] at h3
   have h4:lift n (rchB n m A B) y i=y (pick i (rchB n m A B)).length:=if_pos hf
   rw [h4]
   show _=sumN n fun k=>A i k * _
   grind
  ·have:¬ rchB n m A B i=true:=fun h=>hr (rchB_iff.1 h)
   exact if_neg this
 intro k hk
 obtain ⟨h1,h2,h3⟩:=pick_get hk
 have:=h0 _ h1
 unfold lift at this
 rwa [if_pos h2,h3] at this
theorem NonSing.transp {n L:Nat} {A:Mx} (hA:NonSing n A)(hL:∀ i j,i<n→j<n→rL (A i j)≤L)(hL1:1≤L):NonSing n fun i j=>A j i:=by
 intro y hy q hq
 obtain ⟨_,h2,_⟩:=fin_spec (n:=n) (c:=n) (L:=L) (A:=A) (B:=fun i j=>if i=j then 1 else 0) hA hL (fun i j _ _=>by
  show rL (if i=j then 1 else 0)≤L
  split
  ·exact Nat.le_trans rL1 hL1
  ·exact Nat.le_trans rL0 hL1) hL1
 have e1:y q=sumN n fun i=>y i*(if i=q then 1 else 0):=by
  rw [sumN_single hq (fun i _ hi=>by rw [if_neg hi,Rat.mul_zero]),if_pos rfl,Rat.mul_one]
 have e2:(sumN n fun i=>y i*(if i=q then 1 else 0))=sumN n fun i=>sumN n fun k=>y i*(A i k*solX n A (fun i j=>if i=j then 1 else 0) k q):=by
  refine sumN_congr fun i hi=>?_
  rw [← h2 i q hi hq,sumN_mul]
 rw [e1,e2,sumN_swap]
 refine sumN_eq_zero fun k hk=>?_
 have:=hy k hk
 have e3:(sumN n fun i=>y i*(A i k*solX n A (fun i j=>if i=j then 1 else 0) k q))=(sumN n fun i=>A i k*y i)*solX n A (fun i j=>if i=j then 1 else 0) k q:=by
  rw [← sumN_mulr]
  exact sumN_congr fun i _=>by grind
 rw [e3,this,Rat.zero_mul]
def rhsM (of:List Nat) (B:Mx):Mx:=fun i k=>B (of.getD i 0) k
noncomputable def eachM (n m:Nat) (A B:Mx):Mx:=fun i j=>if rchB n m A B i=true then solX (pick n (rchB n m A B)).length (subM false (pick n (rchB n m A B)) A) (rhsM (pick n (rchB n m A B)) B) (pick i (rchB n m A B)).length j else 0
theorem each_is {n m L:Nat} {A B:Mx} (hC:isC n m A B=true)(hA:∀ i k,i<n→k<n→rL (A i k)≤L)(hB:∀ i k,i<n→k<m→rL (B i k)≤L)(hL1:1≤L):(chn n m A B).IsEach (eachM n m A B):=by
 obtain ⟨_,h2,_⟩:=fin_spec (n:=(pick n (rchB n m A B)).length) (c:=m) (L:=L+1) (B:=rhsM (pick n (rchB n m A B)) B) (nonsing_sub hC) (fun i j hi hj=>subM_len hA hL1 (pick_get hi).1 (pick_get hj).1) (fun i j hi hj=>by
  have:=hB _ j (pick_get hi).1 hj
  show rL (B _ j)≤_
  omega) (by omega)
 refine ⟨fun i j hi hj hr=>if_neg fun h=>hr (rchB_iff.1 h),fun i j hi hj hr=>?_⟩
 have hi:i<n:=hi
 have hj:j<m:=hj
 have hf:=rchB_iff.2 hr
 obtain ⟨h3,h4⟩:=pick_at hi hf
 have h5:=h2 _ j h3 hj
 rw [subM_sum h3,pk_sum h3,h4] at h5
 have e1:eachM n m A B i j=solX (pick n (rchB n m A B)).length (subM false (pick n (rchB n m A B)) A) (rhsM (pick n (rchB n m A B)) B) (pick i (rchB n m A B)).length j:=if_pos hf
 have e2:(sumN n fun k=>A i k*eachM n m A B k j)=sumN n fun k=>A i k*lift n (rchB n m A B) (fun k=>solX (pick n (rchB n m A B)).length (subM false (pick n (rchB n m A B)) A) (rhsM (pick n (rchB n m A B)) B) k j) k:=rfl
 have e3:rhsM (pick n (rchB n m A B)) B (pick i (rchB n m A B)).length j=B i j:=by
  show B ((pick n (rchB n m A B)).getD _ 0) j=_
  rw [h4]
 show _=(sumN n fun k=>A i k*eachM n m A B k j)+B i j
 rw [e1,e2]
 rw [e3] at h5
 grind
theorem bigL_mono {n n' L:Nat} (h:n≤n'):bigL n L≤bigL n' L:=by
 unfold bigL
 have h2:(2:Nat) ^ n≤2 ^ n':=Nat.pow_le_pow_right (by omega) h
 have h4:(4:Nat) ^ n≤4 ^ n':=Nat.pow_le_pow_right (by omega) h
 have h5:4 ^ n*(L+1)≤4 ^ n' * (L+1):=Nat.mul_le_mul_right _ h4
 exact Nat.mul_le_mul h2 (by omega)
def HD (q:Rat) (D:Nat):Prop:=∃ z:Int,q*((D:Int):Rat)=(z:Rat)
theorem HD.self (q:Rat):HD q q.den:=⟨q.num,by
 have e:q=(q.num:Rat) / (q.den:Rat):=by rw [← Rat.mkRat_eq_div,Rat.mkRat_self]
 have hd:(q.den:Rat)≠0:=by exact_mod_cast q.den_nz
 have e2:((q.den:Int):Rat)=(q.den:Rat):=rfl
 rw [e2]
 grind⟩
theorem HD.add {p q:Rat} {D E:Nat} (hp:HD p D)(hq:HD q E):HD (p+q) (D*E):=by
 obtain ⟨z,hz⟩:=hp
 obtain ⟨y,hy⟩:=hq
 refine ⟨z*E+y*D,?_⟩
 have h1:(((D*E:Nat):Int):Rat)=((D:Int):Rat)*((E:Int):Rat):=by rw [Int.natCast_mul,Rat.intCast_mul]
 have h2:((z*E+y*D:Int):Rat)=(z:Rat)*((E:Int):Rat)+(y:Rat)*((D:Int):Rat):=by rw [Rat.intCast_add,Rat.intCast_mul,Rat.intCast_mul]
 rw [h1,h2,← hz,← hy]
 grind
theorem HD.len {q:Rat} {D:Nat} (h:HD q D)(hD:D≠0)(h0:0≤q)(h1:q≤1):rL q≤(digits D).length:=by
 obtain ⟨z,hz⟩:=h
 have hD1:(0:Int)<(D:Int):=by omega
 have hD0:(0:Rat)<((D:Int):Rat):=by exact_mod_cast hD1
 have e:q=mkRat z D:=by
  rw [Rat.mkRat_eq_div]
  have e2:((D:Int):Rat)=(D:Rat):=rfl
  rw [e2] at hz hD0
  rw [← hz]
  grind
 have hz0:0≤z:=by
  have:(0:Rat)≤(z:Rat):=by rw [← hz];exact Rat.mul_nonneg h0 (Rat.le_of_lt hD0)
  exact_mod_cast this
 have hz1:z≤D:=by
  have:(z:Rat)≤((D:Int):Rat):=by
   rw [← hz]
   have:=Rat.mul_le_mul_of_nonneg_right h1 (Rat.le_of_lt hD0)
   rwa [Rat.one_mul] at this
  exact_mod_cast this
 have hl:1≤(digits D).length:=Nat.pos_of_ne_zero fun e=>hD (digits_len_zero.1 e)
 rw [e]
 exact rL_mk _ _ _ (digits_len_mono (by omega)) (Nat.le_refl _) hl
theorem HD.sum {K:Nat} {f:Nat→Rat}:∀ n,(∀ i,i<n→rL (f i)≤K)→∃ D,D≠0∧HD (sumN n f) D∧(digits D).length≤n*K+1:=by
 intro n
 induction n with
 | zero=>
  intro _
  refine ⟨1,by decide,⟨0,?_⟩,?_⟩
  ·show (0:Rat) * _=_
   rw [Rat.zero_mul]
   rfl
  ·rw [show (1:Nat)=0+1 from rfl]
   exact Nat.le_trans (digits_length_le (k:=1) (by decide)) (by omega)
 | succ n ih=>
  intro h
  obtain ⟨D,h1,h2,h3⟩:=ih fun i hi=>h i (by omega)
  have h4:(digits (f n).den).length≤K:=Nat.le_trans (Nat.le_max_right _ _) (h n (by omega))
  refine ⟨D*(f n).den,Nat.mul_ne_zero h1 (f n).den_nz,h2.add (HD.self _),?_⟩
  have:=digits_len_mul D (f n).den
  rw [Nat.succ_mul]
  omega
theorem sumN_split (a b:Nat)(f:Nat→Rat):sumN (a+b) f=sumN a f+sumN b fun i=>f (a+i):=by
 induction b with
 | zero=>
  show _=_+0
  rw [Rat.add_zero]
  rfl
 | succ b ih=>
  show sumN (a+b) f+f (a+b)=sumN a f+(sumN b _+f (a+b))
  rw [ih]
  grind
end Go.Proofs.YteidabibgjokkaaGreatDoor
