import Derived.Test.YteidabibgjokkaaGreatDoorHG
set_option maxRecDepth 20000
set_option linter.all false
namespace Go.Proofs.YteidabibgjokkaaGreatDoor
open Go Go.Proofs.YteidabibgjokkaaGreatDoor.Lift
attribute [local irreducible] Lift.PCall Lift.HCall
abbrev cV (n m:Nat) (A B:Mx):V:=.agg [.i .i64 n,.i .i64 n,.sl ((mcells n A (n*n)).map rV),.i .i64 n,.i .i64 m,.sl ((mcells m B (n*m)).map rV)]
theorem lay_chain:lay Tryz.prog 43=some ⟨6,true,80,[.i .i64 0,.i .i64 0,.nl,.i .i64 0,.i .i64 0,.nl]⟩:=by kernel_rfl
theorem drop3_6 (a b c d e f:V):List.drop 3 [a,b,c,d,e,f]=[d,e,f]:=rfl
attribute [go_sem] Tryz.underlying43 lay_chain drop3_6
theorem Lift.Done.ownQ {P:Program} {st:St} {t:Tmp} {h K:Nat} {xs:List Rat} {T:TypeId} (h1:lkp st.fr t=some (.own h 0 K 3))(h2:lkp st.hp h=some ⟨T,qrow xs⟩):Done P #[.tmp t] (.own 0 0 K 3) [⟨T,qrow xs⟩] st:=by
 refine ⟨[.own h 0 K 3],?_,[h],fun _=>h,.own h 0 K 3,st.hp,?_,?_,?_,?_,?_⟩
 ·simp only [resVs,resV,h1]
 ·simp only [packV,frz,List.mem_singleton,if_true]
 ·simp only [V.ren]
 ·simp only [V.lt];rfl
 ·intro h q hq
  match h,hq with
  | 0,hq=>
   cases hq
   refine ⟨?_,lt_q _ _⟩
   rw [h2]
   simp only [Row.ren,ren_q]
 ·intro a b ha hb _
  simp at ha hb
  omega
theorem Lift.Done.slQ {P:Program} {st:St} {t:Tmp} {h K:Nat} {xs:List Rat} {T:TypeId} (h1:lkp st.fr t=some (.own h 0 K 3))(h2:lkp st.hp h=some ⟨T,qrow xs⟩)(hK:K=xs.length):Done P #[.tmp t] (.sl (xs.map rV)) [] st:=by
 subst hK
 refine Done.of (vs:=[.own h 0 xs.length 3]) (hp:=dlt st.hp h) ?_ ?_ rfl ?_ ?_
 ·simp only [resVs,resV,h1]
 ·have e:=okFrz_q xs
  simp only [packV,frz,h2,List.not_mem_nil,if_false,take_q,flat_q,hf_q,qrow_length,Nat.zero_add,Nat.le_refl,and_self,if_true,chunks_q,Nat.zero_lt_succ,true_and]
 ·simp only [V.lt]
 ·simp only [V.ren]
def zQ:List V:=[.b false,.nl,.nl]
def zrow (n j:Nat):List V:=qrow (List.replicate j 0)++zerosV (n-j) zQ
theorem zerosV_succ (n:Nat)(z:List V):zerosV (n+1) z=z++zerosV n z:=by simp [zerosV,List.replicate_succ]
theorem zrow_length {n j:Nat} (h:j≤n):(zrow n j).length=n*3:=by
 unfold zrow
 rw [List.length_append,qrow_length,List.length_replicate,zerosV_length]
 show j*3+(n-j)*3=n*3
 omega
theorem zrow_full (n:Nat):zrow n n=qrow (List.replicate n 0):=by
 unfold zrow
 rw [Nat.sub_self]
 simp [zerosV]
theorem zrow_set {n j:Nat} (h:j<n):(((zrow n j).set (j*3) (.b (decide ((0:Rat).num<0)))).set (j*3+1) (dg (digits (0:Rat).num.natAbs))).set (j*3+1+1) (dg (digits (0:Rat).den))=zrow n (j+1):=by
 unfold zrow
 have e:n-j=(n-(j+1))+1:=by omega
 have hl:(qrow (List.replicate j 0)).length=j*3:=by rw [qrow_length,List.length_replicate]
 rw [e,zerosV_succ,show List.replicate (j+1) (0:Rat)=List.replicate j 0++[0] from List.replicate_succ',qrow_app,List.append_assoc]
 rw [List.set_append_right _ _ (by omega),List.set_append_right _ _ (by omega),List.set_append_right _ _ (by omega),hl,Nat.sub_self,show j*3+1-j*3=1 by omega,show j*3+1+1-j*3=2 by omega]
 rfl
theorem hf_zs (m:Nat):V.hfL (zerosV m zQ)=true:=by
 induction m with
 | zero=>rfl
 | succ m ih=>rw [zerosV_succ,hfL_app,ih];rfl
theorem hf_zrow (n j:Nat):V.hfL (zrow n j)=true:=by
 unfold zrow
 rw [hfL_app,hf_q,hf_zs]
 rfl
theorem ren_z (f:Nat→Nat)(n j:Nat):V.renL f (zrow n j)=zrow n j:=(hf_names f 0 _ (hf_zrow n j)).1
theorem lt_z (k n j:Nat):V.ltL k (zrow n j)=true:=(hf_names id k _ (hf_zrow n j)).2
theorem leQ2 {g:Nat} {f:Nat→Nat} {st' st:St} (h1:LeFr f st.fr st'.nx st'.fr:=by simp only [ren_q,renL_u,ren_z,lt_q,ltL_u,lt_z,LeFr,LeHp,lkp,V.ren,V.renL,Row.ren,V.lt,V.ltL,renL_u,ltL_u,List.length_append,List.length_cons,List.length_nil,List.length_set,id_eq,Option.some.injEq,V.i.injEq,V.b.injEq,V.own.injEq,Row.mk.injEq,decide_true,decide_eq_true_eq,true_and,and_true,Bool.and_true,Bool.true_and,if_true,if_false,and_self,Nat.reduceLT,Nat.reduceLeDiff,Nat.reduceEqDiff,Nat.reduceAdd,Nat.reduceSub,Nat.reduceMul,Nat.reducePow,Nat.reduceBEq,Int.reduceLE,Int.reduceLT,Int.reduceToNat,Int.reduceEq,Int.reduceNeg,↓reduceIte,reduceCtorEq] <;> (first | done | trivial | (and_intros<;>first | trivial | omega | assumption)))
  (h2:LeHp f st.hp st'.nx st'.hp:=by simp only [ren_q,renL_u,ren_z,lt_q,ltL_u,lt_z,LeFr,LeHp,lkp,V.ren,V.renL,Row.ren,V.lt,V.ltL,renL_u,ltL_u,List.length_append,List.length_cons,List.length_nil,List.length_set,id_eq,Option.some.injEq,V.i.injEq,V.b.injEq,V.own.injEq,Row.mk.injEq,decide_true,decide_eq_true_eq,true_and,and_true,Bool.and_true,Bool.true_and,if_true,if_false,and_self,Nat.reduceLT,Nat.reduceLeDiff,Nat.reduceEqDiff,Nat.reduceAdd,Nat.reduceSub,Nat.reduceMul,Nat.reducePow,Nat.reduceBEq,Int.reduceLE,Int.reduceLT,Int.reduceToNat,Int.reduceEq,Int.reduceNeg,↓reduceIte,reduceCtorEq] <;> (first | done | trivial | (and_intros<;>first | trivial | omega | assumption)))
  (h3:Apart f st'.hp:=by simp [Apart]) (h4:g≤st'.nx:=by first | exact Nat.zero_le _ | simp) (h5:∀ n,n<g→f n=n:=by intro n hn;first | rfl | exact absurd hn (Nat.not_lt_zero _) | (have h0:n=0:=Nat.lt_one_iff.1 hn;subst h0;rfl)):Le g f st' st:=⟨h1,h2,h3,h4,h5⟩
theorem leQ2H {g:Nat} {f:Nat→Nat} {st' st:St} {H:Prop} (hh:H) (h1:H→LeFr f st.fr st'.nx st'.fr:=by intro hh;simp only [ren_q,renL_u,ren_z,lt_q,ltL_u,lt_z,LeFr,LeHp,lkp,V.ren,V.renL,Row.ren,V.lt,V.ltL,renL_u,ltL_u,List.length_append,List.length_cons,List.length_nil,List.length_set,id_eq,Option.some.injEq,V.i.injEq,V.b.injEq,V.own.injEq,Row.mk.injEq,decide_true,decide_eq_true_eq,true_and,and_true,Bool.and_true,Bool.true_and,if_true,if_false,and_self,Nat.reduceLT,Nat.reduceLeDiff,Nat.reduceEqDiff,Nat.reduceAdd,Nat.reduceSub,Nat.reduceMul,Nat.reducePow,Nat.reduceBEq,Int.reduceLE,Int.reduceLT,Int.reduceToNat,Int.reduceEq,Int.reduceNeg,↓reduceIte,reduceCtorEq] <;> (first | done | trivial | (and_intros<;>first | trivial | omega | rw [hh] | (simp only [hh];done) | assumption)))
  (h2:H→LeHp f st.hp st'.nx st'.hp:=by intro hh;simp only [ren_q,renL_u,ren_z,lt_q,ltL_u,lt_z,LeFr,LeHp,lkp,V.ren,V.renL,Row.ren,V.lt,V.ltL,renL_u,ltL_u,List.length_append,List.length_cons,List.length_nil,List.length_set,id_eq,Option.some.injEq,V.i.injEq,V.b.injEq,V.own.injEq,Row.mk.injEq,decide_true,decide_eq_true_eq,true_and,and_true,Bool.and_true,Bool.true_and,if_true,if_false,and_self,Nat.reduceLT,Nat.reduceLeDiff,Nat.reduceEqDiff,Nat.reduceAdd,Nat.reduceSub,Nat.reduceMul,Nat.reducePow,Nat.reduceBEq,Int.reduceLE,Int.reduceLT,Int.reduceToNat,Int.reduceEq,Int.reduceNeg,↓reduceIte,reduceCtorEq] <;> (first | done | trivial | (and_intros<;>first | trivial | omega | rw [hh] | (simp only [hh];done) | assumption)))
  (h3:Apart f st'.hp:=by simp [Apart]) (h4:g≤st'.nx:=by first | exact Nat.zero_le _ | simp) (h5:∀ n,n<g→f n=n:=by intro n hn;first | rfl | exact absurd hn (Nat.not_lt_zero _) | (have h0:n=0:=Nat.lt_one_iff.1 hn;subst h0;rfl)):Le g f st' st:=⟨h1 hh,h2 hh,h3,h4,h5⟩
def lsF (b:Bool) (xs:List Rat):V:=if b=true then .own 0 0 xs.length 3 else .sl (xs.map rV)
def lsR (b:Bool) (xs:List Rat):List Row:=if b=true then [⟨54,qrow xs⟩] else []
def zeroL (n:Nat):List Rat:=List.replicate n 0
set_option maxHeartbeats 4000000 in
theorem czeros_ok (b:Bool)(n:Nat)(hn:n≤60):PCall Tryz.prog 62 [.i .i64 n] (lsF b (zeroL n)) (lsR b (zeroL n)):=by
 refine PCall.of_ax Tryz.call62 Tryz.func62 rfl (by simp [Tryz.ntmps62]) fun O w=>?_
 simp only [Tryz.ntmps62,Tryz.results62,argFr]
 have c0:PCall Tryz.prog 67 [] (rR (decide ((0:Rat).num<0)) (digits (0:Rat).num.natAbs) (digits (0:Rat).den)) []:=zero_ok
 refine AX.sR (rgAV [0]) ?_
 refine AX.sR (rgAV [3]) ?_
 refine AX.seq ?_
 refine AX.sR (rgAV [3,8,9]) ?_
 refine AX.weaken id (st':=⟨[(9,.i .i64 (0:Nat)),(8,.i .i64 n),(3,.own 0 0 n 3)],[(0,⟨54,zrow n 0⟩)],1⟩)
  leQ2
  ?_
 refine AX.block ?_
 refine AX.loop (fun N st=>∃ j:Nat,j≤n∧N=n-j∧st=⟨[(9,.i .i64 j),(8,.i .i64 n),(3,.own 0 0 n 3)],[(0,⟨54,zrow n j⟩)],1⟩) n ⟨0,Nat.zero_le _,rfl,rfl⟩ ?_
 rintro N st ⟨j,hj,rfl,rfl⟩
 by_cases h1:j<n
 ·have hl:=zrow_length hj
  have hset:=zrow_set h1
  obtain ⟨zr1,hz1⟩:∃ z,zrow n (j+1)=z:=⟨_,rfl⟩
  rw [hz1] at hset
  refine AX.sR (rgAV [3,8,9,10]) ?_
  refine AX.seq ?_
  refine AX.condT ?_
  refine AX.keepA [3,8,9] ?_
  refine AX.skip ?_
  refine nmZ ?_
  refine AX.seq ?_
  refine AX.block ?_
  refine AX.sR (rgAV [3,4,8,9]) ?_
  refine AX.rR (rgWV [3,8,9] (aI @hl oT) (aI c0 oT)) ?_
  refine nmZ ?_
  rw [hset]
  refine AX.rR (rgWV [3,8,9] (aI @lit_add oT) oT) ?_
  refine nmZ ?_
  refine ⟨_,_,id,?_,
   (leQ2H hz1)
   , ⟨j+1,by omega,rfl,rfl⟩⟩
  omega
 ·have e:j=n:=by omega
  subst e
  rw [zrow_full]
  refine AX.sR (rgAV [3,8,9,10]) ?_
  refine AX.seq ?_
  refine AX.condF ?_
  refine AX.exit ?_
  refine nmZ ?_
  refine AX.sR (rgAV [2]) ?_
  refine AX.ret ⟨.inl rfl,?_⟩
  cases b
  ·exact Done.slQ rfl rfl (List.length_replicate ..).symm
  ·show Done _ _ (.own 0 0 (List.replicate j (0:Rat)).length 3) _ _
   rw [List.length_replicate]
   exact Done.ownQ rfl rfl
theorem ccell_q {r c:Nat} (hr:r≤60)(hc:c≤60)(A:Mx) {i k:Nat} (hi:i<r)(hk:k<c):PCall Tryz.prog 106 [.agg [.i .i64 r,.i .i64 c,.sl ((mcells c A (r*c)).map rV)],.i .i64 i,.i .i64 k] (.agg [.b (decide ((A i k).num<0)),dg (digits (A i k).num.natAbs),dg (digits (A i k).den)]) []:=by
 obtain ⟨h1,h2⟩:=mcells_get (r:=r) (c:=c) A hi hk
 have:=ccell_ok r c i k (mcells c A (r*c)) hc (by omega) (by omega) (by rw [mcells_length];exact h1)
 rw [h2] at this
 exact this
def isW (n:Nat) (ss:List RT):Bool:=decide (ss.length=n) && !ss.any fun x=>!isR3 x || x.1
def idxI (p:RT→Bool) (ss:List RT):Int:=if ss.any p then (ss.findIdx p:Nat) else -1
theorem idxI_nonneg (p:RT→Bool)(ss:List RT):decide (0≤idxI p ss)=ss.any p:=by
 unfold idxI
 cases ss.any p
 ·rfl
 ·exact decide_eq_true (by rw [if_pos rfl];omega)
set_option maxHeartbeats 4000000 in
theorem indexF_ok (g:FuncId)(p:RT→Bool)(ss:List RT)(hl:ss.length<2 ^ 40)(hg:∀ x ∈ ss,PCall Tryz.prog g [.agg [.b x.1,dg x.2.1,dg x.2.2]] (.b (p x)) []):PCall Tryz.prog 145 [.sl (ss.map fR),.fn g []] (.i .i64 (idxI p ss)) []:=by
 refine PCall.of_ax Tryz.call145 Tryz.func145 rfl (by simp [Tryz.ntmps145]) fun O w=>?_
 simp only [Tryz.ntmps145,Tryz.results145,argFr]
 have hml:(ss.map fR).length=ss.length:=List.length_map ..
 refine AX.sR (rgAV [0,1]) ?_
 refine AX.seq ?_
 refine AX.sR (rgWV [0,1,7,8] (aI @hml oT) oT) ?_
 refine AX.block ?_
 refine AX.loop (fun N st=>∃ j:Nat,j≤ss.length∧N=ss.length-j∧(∀ k,k<j→p (ss.getD k d0)=false)∧st=⟨[(8,.i .i64 j),(7,.i .i64 ss.length),(0,.sl (ss.map fR)),(1,.fn g [])],[],0⟩) ss.length ⟨0,Nat.zero_le _,rfl,fun k hk=>absurd hk (Nat.not_lt_zero _),rfl⟩ ?_
 rintro N st ⟨j,hj,rfl,hno,rfl⟩
 by_cases h1:j<ss.length
 ·have hmem:=getD_mem_RT h1
  have hc:=hg _ hmem
  have hix:=fun x y=>effIxR (x:=x) (y:=y) (els:=ss.map fR) (j:=j) (s:=(ss.getD j d0).1) (a:=(ss.getD j d0).2.1) (b:=(ss.getD j d0).2.2) (by omega) (by rw [List.getD_eq_getElem?_getD,List.getElem?_map,List.getElem?_eq_getElem h1,List.getD_eq_getElem?_getD,List.getElem?_eq_getElem h1];rfl)
  have hfin:p (ss.getD j d0)=true→idxI p ss=j:=by
   intro hp
   have hgd:∀ k (hk:k<ss.length),ss.getD k d0=ss[k]:=fun k hk=>by rw [List.getD_eq_getElem?_getD,List.getElem?_eq_getElem hk];rfl
   have hany:ss.any p=true:=List.any_eq_true.2 ⟨_,hmem,hp⟩
   unfold idxI
   rw [if_pos hany]
   have:=(List.findIdx_eq h1 (p:=p)).2 ⟨by rw [← hgd j h1];exact hp,fun k hk=>by rw [← hgd k (by omega)];exact hno k hk⟩
   omega
  have hno':p (ss.getD j d0)=false→∀ k,k<j+1→p (ss.getD k d0)=false:=by
   intro h k hk
   by_cases e:k=j
   ·subst e;exact h
   ·exact hno k (by omega)
  clear hmem hg
  generalize ss.getD j d0=x at *
  obtain ⟨s,a,b⟩:=x
  dsimp only at hc hix
  generalize ss.map fR=sl at *
  cases hp:p (s,a,b)
  ·have hno2:=hno' hp
   rw [hp] at hc
   refine AX.sR (rgAV [0,1,7,8,9]) ?_
   refine AX.seq ?_
   refine AX.condT ?_
   refine AX.keepA [0,1,7,8] ?_
   refine AX.skip ?_
   refine nmZ ?_
   refine AX.seq ?_
   refine AX.block ?_
   refine AX.sR (rgAV [0,1,5,7,8]) ?_
   refine AX.sR (rgEV [0,1,5,7,8,16] oT (aI hc oT) (aI hix oT)) ?_
   refine AX.condF ?_
   refine AX.keepA [0,1,7,8] ?_
   refine AX.skip ?_
   refine nmZ ?_
   refine AX.rR (rgWV [0,1,7,8] (aI @lit_add oT) oT) ?_
   refine nmZ ?_
   refine ⟨_,_,id,?_,
    leQ2
    , ⟨j+1,by omega,rfl,hno2,rfl⟩⟩
   omega
  ·have hf:=hfin hp
   rw [hp] at hc
   rw [hf]
   refine AX.sR (rgAV [0,1,7,8,9]) ?_
   refine AX.seq ?_
   refine AX.condT ?_
   refine AX.keepA [0,1,7,8] ?_
   refine AX.skip ?_
   refine nmZ ?_
   refine AX.seq ?_
   refine AX.block ?_
   refine AX.sR (rgAV [0,1,5,7,8]) ?_
   refine AX.sR (rgEV [0,1,5,7,8,16] oT (aI hc oT) (aI hix oT)) ?_
   refine AX.condT ?_
   refine AX.sR (rgAV [4]) ?_
   refine AX.ret ⟨.inl rfl,?_⟩
   exact Done.one rfl rfl rfl rfl
 ·have e:j=ss.length:=by omega
  have hany:ss.any p=false:=by
   rw [List.any_eq_false]
   intro x hx
   obtain ⟨k,hk,rfl⟩:=List.getElem_of_mem hx
   have:=hno k (by omega)
   rw [List.getD_eq_getElem?_getD,List.getElem?_eq_getElem hk] at this
   simpa using this
  have hi:idxI p ss=-1:=by
   unfold idxI
   rw [hany]
   rfl
  rw [hi]
  refine AX.sR (rgAV [0,1,7,8,9]) ?_
  refine AX.seq ?_
  refine AX.condF ?_
  refine AX.exit ?_
  refine nmZ ?_
  refine AX.sR (rgAV [4]) ?_
  refine AX.ret ⟨.inl rfl,?_⟩
  exact Done.one rfl rfl rfl rfl
theorem containsF_ok (g:FuncId)(p:RT→Bool)(ss:List RT)(hl:ss.length<2 ^ 40)(hg:∀ x ∈ ss,PCall Tryz.prog g [.agg [.b x.1,dg x.2.1,dg x.2.2]] (.b (p x)) []):PCall Tryz.prog 108 [.sl (ss.map fR),.fn g []] (.b (ss.any p)) []:=by
 have c1:=indexF_ok g p ss hl hg
 have hi:=idxI_nonneg p ss
 refine PCall.of_ax Tryz.call108 Tryz.func108 rfl (by simp [Tryz.ntmps108]) fun O w=>?_
 simp only [Tryz.ntmps108,Tryz.results108,argFr]
 rw [← hi]
 generalize idxI p ss=z at *
 generalize ss.map fR=sl at *
 refine AX.sR (rgAV [0,1]) ?_
 refine AX.sR (rgCV [4] (aI c1 oT)) ?_
 refine AX.ret ⟨.inl rfl,?_⟩
 exact Done.one rfl rfl rfl rfl
theorem weights1_ok (s:Bool)(a b:List Nat)(ha:Dg a)(hb:Dg b)(hla:a.length<2 ^ 36)(hlb:b.length<2 ^ 36):PCall Tryz.prog 109 [.agg [.b s,dg a,dg b]] (.b (!isR s a b || s)) []:=by
 have c1:PCall Tryz.prog 110 [.agg [.b s,dg a,dg b]] (.b (isR s a b)) []:=qright_raw s a b ha hb hla hlb
 refine PCall.of_ax Tryz.call109 Tryz.func109 rfl (by simp [Tryz.ntmps109]) fun O w=>?_
 simp only [Tryz.ntmps109,Tryz.results109,argFr]
 generalize isR s a b=ri at *
 cases ri
 ·refine AX.sR (rgAV [1]) ?_
  refine AX.sR (rgCV [2] (aI c1 oT)) ?_
  refine AX.ret ⟨.inl rfl,?_⟩
  exact Done.one rfl rfl rfl rfl
 ·refine AX.sR (rgAV [1]) ?_
  refine AX.sR (rgCV [2] (aI c1 oT)) ?_
  refine AX.ret ⟨.inl rfl,?_⟩
  exact Done.one rfl rfl rfl rfl
set_option maxHeartbeats 2000000 in
theorem weights_ok (n m:Nat)(A B:Mx)(hn:n≤60)(ss:List RT)(hl:ss.length<2 ^ 40)(hx:okX ss):PCall Tryz.prog 61 [cV n m A B,.sl (ss.map fR)] (.b (isW n ss)) []:=by
 have c1:=containsF_ok 109 (fun x=>!isR3 x || x.1) ss hl fun x hm=>by
  obtain ⟨s,a,b⟩:=x
  obtain ⟨h1,h2,h3,h4⟩:=hx _ hm
  exact weights1_ok s a b h1 h2 h3 h4
 have hml:(ss.map fR).length=ss.length:=List.length_map ..
 refine PCall.of_ax Tryz.call61 Tryz.func61 rfl (by simp [Tryz.ntmps61]) fun O w=>?_
 simp only [Tryz.ntmps61,Tryz.results61,argFr]
 unfold isW
 generalize (ss.any fun x=>!isR3 x || x.1)=bb at *
 generalize (mcells n A (n*n)).map rV=Ac at *
 generalize (mcells m B (n*m)).map rV=Bc at *
 by_cases h:ss.length=n
 ·rw [decide_eq_true h]
  generalize ss.map fR=sl at *
  refine AX.sR (rgAV [1,2]) ?_
  refine AX.sR (rgWV [4] (aI @hml oT) (aI c1 oT)) ?_
  refine AX.ret ⟨.inl rfl,?_⟩
  exact Done.one rfl rfl rfl rfl
 ·rw [decide_eq_false h]
  generalize ss.map fR=sl at *
  refine AX.sR (rgAV [1,2]) ?_
  refine AX.sR (rgWV [4] (aI @hml oT) oT) ?_
  refine AX.ret ⟨.inl rfl,?_⟩
  exact Done.one rfl rfl rfl rfl
def vl (n:Nat) (v:Nat→Rat):List Rat:=(List.range n).map v
theorem vl_length (n:Nat)(v:Nat→Rat):(vl n v).length=n:=by simp [vl]
theorem vl_get {n k:Nat} (v:Nat→Rat)(h:k<n):(vl n v).getD k 0=v k:=by
 simp [vl,List.getD_eq_getElem?_getD,h]
theorem vl_congr {n:Nat} {v w:Nat→Rat} (h:∀ k,k<n→v k=w k):vl n v=vl n w:=List.map_congr_left fun k hk=>h k (by simpa using hk)
theorem vl_set {n k:Nat} (v:Nat→Rat)(q:Rat)(h:k<n):(vl n v).set k q=vl n fun k'=>if k'=k then q else v k':=by
 apply List.ext_getElem?
 intro j
 rw [List.getElem?_set]
 unfold vl
 simp only [List.length_map,List.length_range]
 by_cases hj:j<n
 ·simp only [List.getElem?_map,List.getElem?_range hj,Option.map_some]
  by_cases e:k=j
  ·subst e
   rw [if_pos rfl,if_pos h,if_pos rfl]
  ·rw [if_neg e,if_neg fun e'=>e e'.symm]
 ·have h1:∀ f:Nat→Rat,(List.map f (List.range n))[j]? = none:=fun f=>List.getElem?_eq_none (by simp;omega)
  rw [h1,h1,if_neg (by omega)]
theorem vl_zero (n:Nat):zeroL n=vl n fun _=>0:=by
 unfold zeroL vl
 apply List.ext_getElem?
 intro j
 by_cases hj:j<n
 ·simp [hj]
 ·simp [hj]
theorem vl_get3 {n k:Nat} (v:Nat→Rat)(h:k<n):(List.drop (k*3) (qrow (vl n v))).take 3=[.b (decide ((v k).num<0)),dg (digits (v k).num.natAbs),dg (digits (v k).den)]:=by
 rw [qrow_get (by rw [vl_length];exact h),vl_get v h]
 rfl
theorem vl_set3 {n k:Nat} (v:Nat→Rat)(q:Rat)(h:k<n):(((qrow (vl n v)).set (k*3) (.b (decide (q.num<0)))).set (k*3+1) (dg (digits q.num.natAbs))).set (k*3+1+1) (dg (digits q.den))=qrow (vl n fun k'=>if k'=k then q else v k'):=by
 have:=set_q (xs:=vl n v) q (j:=k) (by rw [vl_length];exact h)
 rw [vl_set v q h] at this
 exact this
theorem vl_len3 (n:Nat)(v:Nat→Rat):(qrow (vl n v)).length=n*3:=by rw [qrow_length,vl_length]
theorem effIxL {n k:Nat} {x y:Operand} (v:Nat→Rat)(h:k<n):eff Tryz.prog (.indexAddr 39 x y) [.sl ((vl n v).map rV),.i .i64 (k:Int)]=some (.val (.rp [.b (decide ((v k).num<0)),dg (digits (v k).num.natAbs),dg (digits (v k).den)])):=by
 rw [effIxQ (by rw [vl_length];exact h),vl_get v h]
theorem czeros_own (n:Nat)(hn:n≤60):PCall Tryz.prog 62 [.i .i64 n] (.own 0 0 n 3) [⟨54,qrow (vl n fun _=>0)⟩]:=by
 have:=czeros_ok true n hn
 have e:lsF true (zeroL n)=.own 0 0 n 3:=by
  show V.own 0 0 (zeroL n).length 3=_
  rw [vl_zero,vl_length]
 rw [e] at this
 rw [← vl_zero]
 exact this
def thr (n:Nat) (v:Nat→Rat) (B:Mx) (k:Nat):Rat:=sumN n fun i=>v i*B i k
theorem thr_len {n L:Nat} {v:Nat→Rat} {B:Mx} {k:Nat} (hL1:1≤L)(hv:∀ i,i<n→rL (v i)≤L)(hB:∀ i,i<n→rL (B i k)≤L):∀ i,i≤n→rL (thr i v B k)≤i*(2*L+1)+1:=fun i hi=>by
 have:=sumN_len (L:=2*L) (f:=fun j=>v j*B j k) (n:=n) (fun j hj=>by have:=rL_mul (v j) (B j k) (hv j hj) (hB j hj) (by omega);omega) i hi
 exact this
set_option maxHeartbeats 8000000 in
theorem through_ok (n m L:Nat) (hn:n≤60) (hm:m≤60) (v:Nat→Rat) (B:Mx) (hv:∀ i,i<n→rL (v i)≤L) (hB:∀ i k,i<n→k<m→rL (B i k)≤L) (hL1:1≤L) (hL:60*(2*L+1)+1<2 ^ 34) :
  PCall Tryz.prog 63 [.sl ((vl n v).map rV),.agg [.i .i64 n,.i .i64 m,.sl ((mcells m B (n*m)).map rV)]] (.sl ((vl m (thr n v B)).map rV)) []:=by
 refine PCall.of_ax Tryz.call63 Tryz.func63 rfl (by simp [Tryz.ntmps63]) fun O w0=>?_
 simp only [Tryz.ntmps63,Tryz.results63,argFr]
 have cz:=czeros_own m hm
 have hvl:((vl n v).map rV).length=n:=by rw [List.length_map,vl_length]
 have hixv:=fun (j:Nat) (hj:j<n)=>fun x y=>effIxL (x:=x) (y:=y) v hj
 have hcell:=fun (i k:Nat) (hi:i<n) (hk:k<m)=>ccell_q hn hm B hi hk
 generalize (vl n v).map rV=vs at *
 generalize (mcells m B (n*m)).map rV=Bc at *
 refine AX.sR (rgAV [0,3]) ?_
 refine AX.sR (rgCV [0,3,5] (aI cz oT)) ?_
 refine AX.seq ?_
 refine AX.sR (rgWV [3,5,13,14,15] (aI @hvl oT) oT) ?_
 refine AX.weaken id (st':=⟨[(15,.i .i64 (0:Nat)),(14,.i .i64 n),(13,.sl vs),(5,.own 1 0 m 3),(3,.ptr 0 0)],[(1,⟨54,qrow (vl m fun _=>0)⟩),(0,⟨41,[.i .i64 n,.i .i64 m,.sl Bc]⟩)],2⟩)
  leQ2
  ?_
 refine AX.block ?_
 refine AX.loop (fun N st=>∃ (i:Nat) (xs:List Rat),i≤n∧N=n-i∧xs=vl m (thr i v B)∧st=⟨[(15,.i .i64 i),(14,.i .i64 n),(13,.sl vs),(5,.own 1 0 m 3),(3,.ptr 0 0)],[(1,⟨54,qrow xs⟩),(0,⟨41,[.i .i64 n,.i .i64 m,.sl Bc]⟩)],2⟩) n ⟨0,_,Nat.zero_le _,rfl,rfl,rfl⟩ ?_
 rintro N st ⟨i,xs,hi,rfl,hxs,rfl⟩
 by_cases h1:i<n
 ·have hix:=hixv i h1
  have hvi:=hv i h1
  have nz1:=num0 (q:=v i)
  by_cases hz:v i=0
  ·have e0:=nz1.2 hz
   have hxs':xs=vl m (thr (i+1) v B):=by
    rw [hxs]
    refine vl_congr fun k _=>?_
    show _=thr i v B k+v i*B i k
    rw [hz,Rat.zero_mul,Rat.add_zero]
   generalize v i=q at *
   refine AX.sR (rgAV [3,5,13,14,15,16]) ?_
   refine AX.seq ?_
   refine AX.condT ?_
   refine AX.keepA [3,5,13,14,15] ?_
   refine AX.skip ?_
   refine nmZ ?_
   refine AX.seq ?_
   refine AX.block ?_
   refine AX.sR (rgEV [3,5,6,7,13,14,15] oT oT (aI hix oT)) ?_
   refine AX.seq ?_
   refine AX.sR (rgWV [3,5,6,7,13,14,15,23] (aI @e0 oT) oT) ?_
   refine AX.condT ?_
   refine AX.exit ?_
   refine nmZ ?_
   refine AX.rR (rgWV [3,5,13,14,15] (aI @lit_add oT) oT) ?_
   refine nmZ ?_
   refine ⟨_,_,id,?_,
    leQ2
    , ⟨i+1,xs,by omega,rfl,hxs',rfl⟩⟩
   omega
  ·have e0:0<(digits (v i).num.natAbs).length:=Nat.pos_of_ne_zero fun e=>hz (nz1.1 e)
   have hci:=hcell i
   have hBi:=fun k=>hB i k h1
   have hlen:=fun k (hk:k<m)=>thr_len (B:=B) (k:=k) hL1 hv (fun i hi=>hB i k hi hk)
   have hnext:∀ k,thr (i+1) v B k=thr i v B k+v i*B i k:=fun k=>rfl
   generalize v i=q at *
   refine AX.sR (rgAV [3,5,13,14,15,16]) ?_
   refine AX.seq ?_
   refine AX.condT ?_
   refine AX.keepA [3,5,13,14,15] ?_
   refine AX.skip ?_
   refine nmZ ?_
   refine AX.seq ?_
   refine AX.block ?_
   refine AX.sR (rgEV [3,5,6,7,13,14,15] oT oT (aI hix oT)) ?_
   refine AX.seq ?_
   refine AX.sR (rgAV [3,5,6,7,13,14,15,23]) ?_
   refine AX.condF ?_
   refine AX.keepA [3,5,6,7,13,14,15] ?_
   refine AX.skip ?_
   refine nmZ ?_
   refine AX.sR (rgAV [3,5,6,7,13,14,15,25,26]) ?_
   refine AX.weaken id (st':=⟨[(26,.i .i64 (0:Nat)),(25,.i .i64 m),(15,.i .i64 i),(14,.i .i64 n),(13,.sl vs),(7,.ptr 2 0),(6,.i .i64 i),(5,.own 1 0 m 3),(3,.ptr 0 0)],[(2,⟨54,[.b (decide (q.num<0)),dg (digits q.num.natAbs),dg (digits q.den)]⟩),(1,⟨54,qrow xs⟩),(0,⟨41,[.i .i64 n,.i .i64 m,.sl Bc]⟩)],3⟩)
    leQ2
    ?_
   refine AX.block ?_
   refine AX.loop (fun N st=>∃ (k:Nat) (xs:List Rat),k≤m∧N=m-k∧(xs=vl m fun k'=>if k' < k then thr (i+1) v B k' else thr i v B k')∧st=⟨[(26,.i .i64 k),(25,.i .i64 m),(15,.i .i64 i),(14,.i .i64 n),(13,.sl vs),(7,.ptr 2 0),(6,.i .i64 i),(5,.own 1 0 m 3),(3,.ptr 0 0)],[(2,⟨54,[.b (decide (q.num<0)),dg (digits q.num.natAbs),dg (digits q.den)]⟩),(1,⟨54,qrow xs⟩),(0,⟨41,[.i .i64 n,.i .i64 m,.sl Bc]⟩)],3⟩) m ⟨0,xs,Nat.zero_le _,rfl,by rw [hxs];exact vl_congr fun k' _=>by rw [if_neg (Nat.not_lt_zero _)],rfl⟩ ?_
   clear hxs xs
   rintro N st ⟨k,xs,hk,rfl,hxs,rfl⟩
   by_cases h2:k<m
   ·have hc:=hci k h1 h2
    have hBk:=hBi k h2
    have nz2:=num0 (q:=B i k)
    have hl:=vl_len3 m (fun k'=>if k' < k then thr (i+1) v B k' else thr i v B k')
    have hg:=vl_get3 (fun k'=>if k' < k then thr (i+1) v B k' else thr i v B k') h2
    rw [if_neg (Nat.lt_irrefl _)] at hg
    rw [← hxs] at hl hg
    have hsl:=hlen k h2 i hi
    have hle:i*(2*L+1)≤60*(2*L+1):=Nat.mul_le_mul_right _ (by omega)
    have lm:=rL_mul q (B i k) hvi hBk (by omega)
    have cm:PCall Tryz.prog 111 [.agg [.b (decide (q.num<0)),dg (digits q.num.natAbs),dg (digits q.den)],.agg [.b (decide ((B i k).num<0)),dg (digits (B i k).num.natAbs),dg (digits (B i k).den)]] (.agg [.b (decide ((q*B i k).num<0)),dg (digits (q*B i k).num.natAbs),dg (digits (q*B i k).den)]) []:=qmul_ok (IsQ.of hvi) (IsQ.of hBk) (by omega)
    have ca:PCall Tryz.prog 50 [.agg [.b (decide ((thr i v B k).num<0)),dg (digits (thr i v B k).num.natAbs),dg (digits (thr i v B k).den)],.agg [.b (decide ((q*B i k).num<0)),dg (digits (q*B i k).num.natAbs),dg (digits (q*B i k).den)]] (.agg [.b (decide ((thr i v B k+q*B i k).num<0)),dg (digits (thr i v B k+q*B i k).num.natAbs),dg (digits (thr i v B k+q*B i k).den)]) []:=
     qadd_ok (L:=60*(2*L+1)+1) (IsQ.of (by omega)) (IsQ.of (by omega)) hL
    by_cases hz2:B i k=0
    ·have e2:=nz2.2 hz2
     have hxs':xs=vl m fun k'=>if k' < k+1 then thr (i+1) v B k' else thr i v B k':=by
      rw [hxs]
      refine vl_congr fun k' _=>?_
      by_cases e:k'=k
      ·subst e
       rw [if_neg (Nat.lt_irrefl _),if_pos (Nat.lt_succ_self _),hnext,hz2,Rat.mul_zero,Rat.add_zero]
      ·by_cases h:k' < k
       ·rw [if_pos h,if_pos (by omega)]
       ·rw [if_neg h,if_neg (by omega)]
     clear cm ca lm
     generalize B i k=p at *
     refine AX.sR (rgAV [3,5,6,7,13,14,15,25,26,27]) ?_
     refine AX.seq ?_
     refine AX.condT ?_
     refine AX.keepA [3,5,6,7,13,14,15,25,26] ?_
     refine AX.skip ?_
     refine nmZ ?_
     refine AX.seq ?_
     refine AX.block ?_
     refine AX.sR (rgAV [3,5,6,7,8,13,14,15,25,26]) ?_
     refine AX.sR (rgCV [3,5,6,7,8,9,13,14,15,25,26] (aI hc oT)) ?_
     refine AX.sR (rgWV [3,5,6,7,8,9,13,14,15,25,26,36] (aI @e2 oT) oT) ?_
     refine AX.condF ?_
     refine AX.keepA [3,5,6,7,13,14,15,25,26] ?_
     refine AX.skip ?_
     refine nmZ ?_
     refine AX.rR (rgWV [3,5,6,7,13,14,15,25,26] (aI @lit_add oT) oT) ?_
     refine nmZ ?_
     refine ⟨_,_,id,?_,
      leQ2
      , ⟨k+1,xs,by omega,rfl,hxs',rfl⟩⟩
     omega
    ·have e2:0<(digits (B i k).num.natAbs).length:=Nat.pos_of_ne_zero fun e=>hz2 (nz2.1 e)
     have hset:=vl_set3 (fun k'=>if k' < k then thr (i+1) v B k' else thr i v B k') (thr i v B k+q*B i k) h2
     rw [← hxs] at hset
     obtain ⟨ys,hys⟩:∃ ys,(vl m fun k'=>if k'=k then thr i v B k+q*B i k else if k' < k then thr (i+1) v B k' else thr i v B k')=ys:=⟨_,rfl⟩
     rw [hys] at hset
     have hys':ys=vl m fun k'=>if k' < k+1 then thr (i+1) v B k' else thr i v B k':=by
      rw [← hys]
      refine vl_congr fun k' _=>?_
      by_cases e:k'=k
      ·subst e
       rw [if_pos rfl,if_pos (Nat.lt_succ_self _),hnext]
      ·rw [if_neg e]
       by_cases h:k' < k
       ·rw [if_pos h,if_pos (by omega)]
       ·rw [if_neg h,if_neg (by omega)]
     clear hys lm hxs hsl hle hnext hlen
     generalize thr i v B k+q*B i k=s' at *
     generalize thr i v B k=s at *
     generalize q*B i k=prd at *
     generalize B i k=p at *
     refine AX.sR (rgAV [3,5,6,7,13,14,15,25,26,27]) ?_
     refine AX.seq ?_
     refine AX.condT ?_
     refine AX.keepA [3,5,6,7,13,14,15,25,26] ?_
     refine AX.skip ?_
     refine nmZ ?_
     refine AX.seq ?_
     refine AX.block ?_
     refine AX.sR (rgAV [3,5,6,7,8,13,14,15,25,26]) ?_
     refine AX.sR (rgCV [3,5,6,7,8,9,13,14,15,25,26] (aI hc oT)) ?_
     refine AX.sR (rgAV [3,5,6,7,8,9,13,14,15,25,26,36]) ?_
     refine AX.condT ?_
     refine AX.rD (rgDWV [3,5,6,7,13,14,15,25,26] (aI @hl (aI @hg oT)) (aI cm (aI ca oT))) ?_
     refine nmZ ?_
     rw [hset]
     refine AX.rR (rgWV [3,5,6,7,13,14,15,25,26] (aI @lit_add oT) oT) ?_
     refine nmZ ?_
     refine ⟨_,_,id,?_,
      leQ2
      , ⟨k+1,ys,by omega,rfl,hys',rfl⟩⟩
     omega
   ·have hxs':xs=vl m (thr (i+1) v B):=by
     rw [hxs]
     exact vl_congr fun k' hk'=>by rw [if_pos (by omega)]
    refine AX.sR (rgAV [3,5,6,7,13,14,15,25,26,27]) ?_
    refine AX.seq ?_
    refine AX.condF ?_
    refine AX.exit ?_
    refine nmZ ?_
    refine AX.rR (rgWV [3,5,13,14,15] (aI @lit_add oT) oT) ?_
    refine nmZ ?_
    refine ⟨_,_,id,?_,
     leQ2
     , ⟨i+1,xs,by omega,rfl,hxs',rfl⟩⟩
    omega
 ·have e:i=n:=by omega
  subst e
  refine AX.sR (rgAV [3,5,13,14,15,16]) ?_
  refine AX.seq ?_
  refine AX.condF ?_
  refine AX.exit ?_
  refine nmZ ?_
  refine AX.sR (rgAV [4]) ?_
  refine AX.ret ⟨.inl rfl,?_⟩
  rw [← hxs]
  exact Done.slQ rfl rfl (by rw [hxs,vl_length])
end Go.Proofs.YteidabibgjokkaaGreatDoor
