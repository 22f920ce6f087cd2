import Derived.Test.YteidabibgjokkaaGreatDoorMA
import Derived.Test.YteidabibgjokkaaGreatDoorHK
import Derived.Test.YteidabibgjokkaaGreatDoorHI
set_option maxRecDepth 20000
set_option linter.all false
namespace Go.Proofs.YteidabibgjokkaaGreatDoor
open Go Go.Proofs.YteidabibgjokkaaGreatDoor.Lift
attribute [local irreducible] Lift.PCall Lift.HCall
def wl (l:List Int):List V:=l.map fun n=>V.i .i64 n
theorem wl_length (l:List Int):(wl l).length=l.length:=List.length_map ..
theorem wl_get {l:List Int} {j:Nat} (h:j<l.length):(wl l).getD j .junk=.i .i64 (l.getD j 0):=by
 simp [wl,List.getD_eq_getElem?_getD,h]
theorem wl_app (l:List Int)(x:Int):wl l++[.i .i64 x]=wl (l++[x]):=by simp [wl]
theorem wl_hf (l:List Int):V.hfL (wl l)=true∧(wl l).all V.flat=true:=by
 induction l with
 | nil=>exact ⟨rfl,rfl⟩
 | cons a l ih=>
  refine ⟨?_,?_⟩
  ·show V.hfL (V.i .i64 a :: wl l)=true
   simp only [V.hfL,ih.1,V.hf,Bool.and_self]
  ·show (V.i .i64 a :: wl l).all V.flat=true
   rw [List.all_cons,ih.2]
   rfl
theorem ren_wl (f:Nat→Nat)(l:List Int):V.renL f (wl l)=wl l:=(hf_names f 0 _ (wl_hf l).1).1
theorem lt_wl (k:Nat)(l:List Int):V.ltL k (wl l)=true:=(hf_names id k _ (wl_hf l).1).2
theorem nx_hf (T:T2):V.hfL (nx T)=true:=by
 induction T with
 | nil=>rfl
 | cons a l ih=>
  show V.hfL (p2 a :: nx l)=true
  simp only [V.hfL,ih,V.hf,Bool.and_self]
theorem ren_nx (f:Nat→Nat)(T:T2):V.renL f (nx T)=nx T:=(hf_names f 0 _ (nx_hf T)).1
theorem lt_nx (k:Nat)(T:T2):V.ltL k (nx T)=true:=(hf_names id k _ (nx_hf T)).2
theorem getD_mem_W {l:List Int} {j:Nat} (h:j<l.length):l.getD j 0 ∈ l:=by
 rw [List.getD_eq_getElem?_getD,List.getElem?_eq_getElem h]
 exact List.getElem_mem _
theorem okFrz_w (l:List Int):okFrz 0 l.length 1 (wl l)=true:=by
 unfold okFrz
 have h:((wl l).drop 0).take (l.length*1)=wl l:=by rw [List.drop_zero,Nat.mul_one];exact List.take_of_length_le (by rw [wl_length];exact Nat.le_refl _)
 rw [h]
 simp [(wl_hf l).1,(wl_hf l).2,wl_length]
theorem Lift.Done.slW2 {P:Program} {st:St} {t t':Tmp} {h h' n n':Nat} {l l':List Int} {T T':TypeId} (h1:lkp st.fr t=some (.own h 0 n 1))(h2:lkp st.fr t'=some (.own h' 0 n' 1))(h3:lkp st.hp h=some ⟨T,wl l⟩)(h4:lkp (dlt st.hp h) h'=some ⟨T',wl l'⟩)(hn:n=l.length)(hn':n'=l'.length):Done P #[.tmp t,.tmp t'] (.tup [.sl (wl l),.sl (wl l')]) [] st:=by
 subst hn hn'
 have e:∀ l:List Int,List.take l.length (List.drop 0 (wl l))=wl l:=fun l=>by rw [List.drop_zero];exact List.take_of_length_le (by rw [wl_length];exact Nat.le_refl _)
 refine Done.of (vs:=[.own h 0 l.length 1,.own h' 0 l'.length 1]) (hp:=dlt (dlt st.hp h) h') ?_ ?_ rfl ?_ ?_
 ·simp only [resVs,resV,h1,h2]
 ·simp only [packV,frz,frzL,h3,h4,List.not_mem_nil,if_false,Nat.mul_one,Nat.zero_add,wl_length,Nat.le_refl,e,(wl_hf l).1,(wl_hf l).2,(wl_hf l').1,(wl_hf l').2,and_self,if_true,Nat.lt_succ_self,Nat.zero_lt_one,true_and,chunks_one]
 ·simp only [V.lt,V.ltL,Bool.and_self]
 ·simp only [V.ren,V.renL]
theorem leQ6 {g:Nat} {f:Nat→Nat} {st' st:St} (h1:LeFr f st.fr st'.nx st'.fr:=by simp only [renL_u,ren_wl,ren_nx,renL_id,ren_id,ren_wl,ren_wl,ltL_u,lt_wl,lt_nx,LeFr,LeHp,lkp,V.ren,V.renL,Row.ren,V.lt,V.ltL,renL_u,ltL_u,List.length_append,List.length_cons,List.length_nil,List.length_set,id_eq,Option.some.injEq,V.i.injEq,V.b.injEq,V.own.injEq,Row.mk.injEq,decide_true,decide_eq_true_eq,true_and,and_true,Bool.and_true,Bool.true_and,if_true,if_false,and_self,Nat.reduceLT,Nat.reduceLeDiff,Nat.reduceEqDiff,Nat.reduceAdd,Nat.reduceSub,Nat.reduceMul,Nat.reducePow,Nat.reduceBEq,Int.reduceLE,Int.reduceLT,Int.reduceToNat,Int.reduceEq,Int.reduceNeg,↓reduceIte,reduceCtorEq] <;> (first | done | trivial | (and_intros<;>first | trivial | omega | assumption)))
  (h2:LeHp f st.hp st'.nx st'.hp:=by simp only [renL_u,ren_wl,ren_nx,renL_id,ren_id,ren_wl,ren_wl,ltL_u,lt_wl,lt_nx,LeFr,LeHp,lkp,V.ren,V.renL,Row.ren,V.lt,V.ltL,renL_u,ltL_u,List.length_append,List.length_cons,List.length_nil,List.length_set,id_eq,Option.some.injEq,V.i.injEq,V.b.injEq,V.own.injEq,Row.mk.injEq,decide_true,decide_eq_true_eq,true_and,and_true,Bool.and_true,Bool.true_and,if_true,if_false,and_self,Nat.reduceLT,Nat.reduceLeDiff,Nat.reduceEqDiff,Nat.reduceAdd,Nat.reduceSub,Nat.reduceMul,Nat.reducePow,Nat.reduceBEq,Int.reduceLE,Int.reduceLT,Int.reduceToNat,Int.reduceEq,Int.reduceNeg,↓reduceIte,reduceCtorEq] <;> (first | done | trivial | (and_intros<;>first | trivial | omega | assumption)))
  (h3:Apart f st'.hp:=by simp [Apart]) (h4:g≤st'.nx:=by first | exact Nat.zero_le _ | simp) (h5:∀ n,n<g→f n=n:=by intro n hn;first | rfl | exact absurd hn (Nat.not_lt_zero _) | (have h0:n=0:=Nat.lt_one_iff.1 hn;subst h0;rfl)):Le g f st' st:=⟨h1,h2,h3,h4,h5⟩
theorem leQ6H {g:Nat} {f:Nat→Nat} {st' st:St} {H:Prop} (hh:H) (h1:H→LeFr f st.fr st'.nx st'.fr:=by intro hh;simp only [renL_u,ren_wl,ren_nx,renL_id,ren_id,ren_wl,ren_wl,ltL_u,lt_wl,lt_nx,LeFr,LeHp,lkp,V.ren,V.renL,Row.ren,V.lt,V.ltL,renL_u,ltL_u,List.length_append,List.length_cons,List.length_nil,List.length_set,id_eq,Option.some.injEq,V.i.injEq,V.b.injEq,V.own.injEq,Row.mk.injEq,decide_true,decide_eq_true_eq,true_and,and_true,Bool.and_true,Bool.true_and,if_true,if_false,and_self,Nat.reduceLT,Nat.reduceLeDiff,Nat.reduceEqDiff,Nat.reduceAdd,Nat.reduceSub,Nat.reduceMul,Nat.reducePow,Nat.reduceBEq,Int.reduceLE,Int.reduceLT,Int.reduceToNat,Int.reduceEq,Int.reduceNeg,↓reduceIte,reduceCtorEq] <;> (first | done | trivial | (and_intros<;>first | trivial | omega | rw [hh] | (simp only [hh];done) | assumption)))
  (h2:H→LeHp f st.hp st'.nx st'.hp:=by intro hh;simp only [renL_u,ren_wl,ren_nx,renL_id,ren_id,ren_wl,ren_wl,ltL_u,lt_wl,lt_nx,LeFr,LeHp,lkp,V.ren,V.renL,Row.ren,V.lt,V.ltL,renL_u,ltL_u,List.length_append,List.length_cons,List.length_nil,List.length_set,id_eq,Option.some.injEq,V.i.injEq,V.b.injEq,V.own.injEq,Row.mk.injEq,decide_true,decide_eq_true_eq,true_and,and_true,Bool.and_true,Bool.true_and,if_true,if_false,and_self,Nat.reduceLT,Nat.reduceLeDiff,Nat.reduceEqDiff,Nat.reduceAdd,Nat.reduceSub,Nat.reduceMul,Nat.reducePow,Nat.reduceBEq,Int.reduceLE,Int.reduceLT,Int.reduceToNat,Int.reduceEq,Int.reduceNeg,↓reduceIte,reduceCtorEq] <;> (first | done | trivial | (and_intros<;>first | trivial | omega | rw [hh] | (simp only [hh];done) | assumption)))
  (h3:Apart f st'.hp:=by simp [Apart]) (h4:g≤st'.nx:=by first | exact Nat.zero_le _ | simp) (h5:∀ n,n<g→f n=n:=by intro n hn;first | rfl | exact absurd hn (Nat.not_lt_zero _) | (have h0:n=0:=Nat.lt_one_iff.1 hn;subst h0;rfl)):Le g f st' st:=⟨h1 hh,h2 hh,h3,h4,h5⟩
def idxW (p:Int→Bool) (T:List Int):Int:=if T.any p then (T.findIdx p:Nat) else -1
theorem idxW_nonneg (p:Int→Bool)(T:List Int):decide (0≤idxW p T)=T.any p:=by
 unfold idxW
 cases T.any p
 ·rfl
 ·exact decide_eq_true (by rw [if_pos rfl];omega)
set_option maxHeartbeats 4000000 in
theorem indexW_ok (g:FuncId)(p:Int→Bool)(T:List Int)(hl:T.length<2 ^ 40)(hg:∀ x ∈ T,PCall Tryz.prog g [.i .i64 x] (.b (p x)) []):PCall Tryz.prog 124 [.sl (wl T),.fn g []] (.i .i64 (idxW p T)) []:=by
 refine PCall.of_ax Tryz.call124 Tryz.func124 rfl (by simp [Tryz.ntmps124]) fun O w=>?_
 simp only [Tryz.ntmps124,Tryz.results124,argFr]
 have hml:=wl_length T
 refine AX.sR (rgAV [0,1]) ?_
 refine AX.seq ?_
 refine AX.sR (rgWV [0,1,7,8] (aI @hml oT) oT) ?_
 refine AX.block ?_
 refine AX.loop (fun N st=>∃ j:Nat,j≤T.length∧N=T.length-j∧(∀ k,k<j→p (T.getD k 0)=false)∧st=⟨[(8,.i .i64 j),(7,.i .i64 T.length),(0,.sl (wl T)),(1,.fn g [])],[],0⟩) T.length ⟨0,Nat.zero_le _,rfl,fun k hk=>absurd hk (Nat.not_lt_zero _),rfl⟩ ?_
 rintro N st ⟨j,hj,rfl,hno,rfl⟩
 by_cases h1:j<T.length
 ·have hmem:=getD_mem_W h1
  have hcc:=hg _ hmem
  have hwg:=wl_get h1
  have hfin:p (T.getD j 0)=true→idxW p T=j:=by
   intro hp
   have hgd:∀ k (hk:k<T.length),T.getD k 0=T[k]:=fun k hk=>by rw [List.getD_eq_getElem?_getD,List.getElem?_eq_getElem hk];rfl
   have hany:T.any p=true:=List.any_eq_true.2 ⟨_,hmem,hp⟩
   unfold idxW
   rw [if_pos hany]
   have:=(List.findIdx_eq h1 (p:=p)).2 ⟨by rw [← hgd j h1];exact hp,fun k hk=>by rw [← hgd k (by omega)];exact hno k hk⟩
   omega
  have hno':p (T.getD j 0)=false→∀ k,k<j+1→p (T.getD k 0)=false:=by
   intro h k hk
   by_cases e:k=j
   ·subst e;exact h
   ·exact hno k (by omega)
  clear hmem hg
  generalize T.getD j 0=x at *
  generalize wl T=sl at *
  cases hp:p x
  ·have hno2:=hno' hp
   rw [hp] at hcc
   refine AX.sR (rgAV [0,1,7,8,9]) ?_
   refine AX.seq ?_
   refine AX.condT ?_
   refine AX.keepA [0,1,7,8] ?_
   refine AX.skip ?_
   refine nmZ ?_
   refine AX.seq ?_
   refine AX.block ?_
   refine AX.sR (rgAV [0,1,5,7,8]) ?_
   refine AX.sR (rgWV [0,1,5,7,8,16] (aI @hml (aI @hwg oT)) (aI hcc oT)) ?_
   refine AX.condF ?_
   refine AX.keepA [0,1,7,8] ?_
   refine AX.skip ?_
   refine nmZ ?_
   refine AX.rR (rgWV [0,1,7,8] (aI @lit_add oT) oT) ?_
   refine nmZ ?_
   refine ⟨_,_,id,?_,
    leQ6
    , ⟨j+1,by omega,rfl,hno2,rfl⟩⟩
   omega
  ·rw [hfin hp]
   rw [hp] at hcc
   refine AX.sR (rgAV [0,1,7,8,9]) ?_
   refine AX.seq ?_
   refine AX.condT ?_
   refine AX.keepA [0,1,7,8] ?_
   refine AX.skip ?_
   refine nmZ ?_
   refine AX.seq ?_
   refine AX.block ?_
   refine AX.sR (rgAV [0,1,5,7,8]) ?_
   refine AX.sR (rgWV [5,16] (aI @hml (aI @hwg oT)) (aI hcc oT)) ?_
   refine AX.condT ?_
   refine AX.sR (rgAV [4]) ?_
   refine AX.ret ⟨.inl rfl,?_⟩
   exact Done.one rfl rfl rfl rfl
 ·have e:idxW p T=-1:=by
   unfold idxW
   rw [if_neg]
   rw [Bool.not_eq_true,List.any_eq_false]
   intro x hx
   obtain ⟨k,hk,rfl⟩:=List.getElem_of_mem hx
   have:=hno k (by omega)
   rw [List.getD_eq_getElem?_getD,List.getElem?_eq_getElem hk] at this
   rw [Bool.not_eq_true]
   exact this
  rw [e]
  refine AX.sR (rgAV [7,8,9]) ?_
  refine AX.seq ?_
  refine AX.condF ?_
  refine AX.exit ?_
  refine nmZ ?_
  refine AX.sR (rgAV [4]) ?_
  refine AX.ret ⟨.inl rfl,?_⟩
  exact Done.one rfl rfl rfl rfl
theorem containsW_ok (g:FuncId)(p:Int→Bool)(T:List Int)(hl:T.length<2 ^ 40)(hg:∀ x ∈ T,PCall Tryz.prog g [.i .i64 x] (.b (p x)) []):PCall Tryz.prog 74 [.sl (wl T),.fn g []] (.b (T.any p)) []:=by
 have c1:=indexW_ok g p T hl hg
 have e:=idxW_nonneg p T
 refine PCall.of_ax Tryz.call74 Tryz.func74 rfl (by simp [Tryz.ntmps74]) fun O w=>?_
 simp only [Tryz.ntmps74,Tryz.results74,argFr]
 generalize idxW p T=z at *
 generalize T.any p=z' at *
 generalize wl T=A at *
 refine AX.sR (rgAV [0,1]) ?_
 refine AX.sR (rgWV [4] (aI @e oT) (aI c1 oT)) ?_
 refine AX.ret ⟨.inl rfl,?_⟩
 exact Done.one rfl rfl rfl rfl
def badO (x:Int):Bool:=decide (x<1) || decide (1000<x)
def isO (l:List Int):Bool:=decide (2≤l.length) && decide (l.length≤64) && !l.any badO
theorem isO_iff {l:List Int}:isO l=true↔2≤l.length∧l.length≤64∧∀ x ∈ l,1≤x∧x≤1000:=by
 unfold isO
 simp only [Bool.and_eq_true,decide_eq_true_eq,Bool.not_eq_true',List.any_eq_false,and_assoc]
 refine and_congr_right fun _=>and_congr_right fun _=>forall_congr' fun x=>forall_congr' fun _=>?_
 unfold badO
 simp only [Bool.or_eq_true,decide_eq_true_eq]
 omega
theorem badO_ok (a:Int)(ha:-9223372036854775808≤a∧a≤9223372036854775807):PCall Tryz.prog 75 [.i .i64 a] (.b (badO a)) []:=by
 refine PCall.of_ax Tryz.call75 Tryz.func75 rfl (by simp [Tryz.ntmps75]) fun O w=>?_
 simp only [Tryz.ntmps75,Tryz.results75,argFr]
 refine AX.sR (rgAV [0]) ?_
 have e:badO a=(decide (a<1) || decide (1000<a)):=rfl
 rw [e]
 clear e
 by_cases h1:a<1
 ·rw [decide_eq_true h1,Bool.true_or]
  refine AX.sR (rgAV [2]) ?_
  refine AX.ret ⟨.inl rfl,?_⟩
  exact Done.one rfl rfl rfl rfl
 ·rw [decide_eq_false h1,Bool.false_or]
  refine AX.sR (rgAV [2]) ?_
  refine AX.ret ⟨.inl rfl,?_⟩
  exact Done.one rfl rfl rfl rfl
def bW (l:List Int):Prop:=∀ x ∈ l,-9223372036854775808≤x∧x≤9223372036854775807
theorem crightO_ok (l:List Int)(hl:l.length<2 ^ 62)(hb:bW l):PCall Tryz.prog 38 [.sl (wl l)] (.b (isO l)) []:=by
 refine PCall.of_ax Tryz.call38 Tryz.func38 rfl (by simp [Tryz.ntmps38]) fun O w=>?_
 simp only [Tryz.ntmps38,Tryz.results38,argFr]
 have hml:=wl_length l
 by_cases h1:2≤l.length
 ·by_cases h2:l.length≤64
  ·have c1:=containsW_ok 75 badO l (by omega) (fun x hx=>badO_ok x (hb x hx))
   have e:isO l=!l.any badO:=by unfold isO;rw [decide_eq_true h1,decide_eq_true h2];rfl
   rw [e]
   generalize l.any badO=z at *
   generalize wl l=A at *
   refine AX.sR (rgAV [0]) ?_
   refine AX.sR (rgWV [2] (aI @hml oT) (aI c1 oT)) ?_
   refine AX.ret ⟨.inl rfl,?_⟩
   exact Done.one rfl rfl rfl rfl
  ·have e:isO l=false:=by unfold isO;rw [decide_eq_false h2,Bool.and_false,Bool.false_and]
   rw [e]
   generalize wl l=A at *
   refine AX.sR (rgAV [0]) ?_
   refine AX.sR (rgWV [2] (aI @hml oT) oT) ?_
   refine AX.ret ⟨.inl rfl,?_⟩
   exact Done.one rfl rfl rfl rfl
 ·have e:isO l=false:=by unfold isO;rw [decide_eq_false h1];rfl
  rw [e]
  generalize wl l=A at *
  refine AX.sR (rgAV [0]) ?_
  refine AX.sR (rgWV [2] (aI @hml oT) oT) ?_
  refine AX.ret ⟨.inl rfl,?_⟩
  exact Done.one rfl rfl rfl rfl
def sumI (l:List Int):Int:=l.foldl (· + ·) 0
theorem sumI_take {l:List Int} {i:Nat} (h:i<l.length):sumI (l.take (i+1))=sumI (l.take i)+l.getD i 0:=by
 unfold sumI
 rw [List.take_succ_eq_append_getElem h,List.foldl_append,List.getD_eq_getElem?_getD,List.getElem?_eq_getElem h]
 rfl
theorem sumI_bd {l:List Int} {B:Int} (hB:0≤B)(h:∀ x ∈ l,0≤x∧x≤B):∀ i,i≤l.length→0≤sumI (l.take i)∧sumI (l.take i)≤i*B
 | 0,_=>by simp [sumI]
 | i+1,hi=>by
  have ih:=sumI_bd hB h i (by omega)
  have h1:=h _ (getD_mem_W (l:=l) (j:=i) (by omega))
  rw [sumI_take (by omega)]
  have e:((i+1:Nat):Int)*B=i*B+B:=by rw [Int.natCast_add,Int.add_mul];simp
  omega
set_option maxHeartbeats 4000000 in
theorem csum_ok (l:List Int)(hl:l.length≤64)(h:∀ x ∈ l,0≤x∧x≤1000000):PCall Tryz.prog 39 [.sl (wl l)] (.i .i64 (sumI l)) []:=by
 refine PCall.of_ax Tryz.call39 Tryz.func39 rfl (by simp [Tryz.ntmps39]) fun O w=>?_
 simp only [Tryz.ntmps39,Tryz.results39,argFr]
 have hml:=wl_length l
 have hbd:=sumI_bd (by decide) h
 refine AX.sR (rgAV [0]) ?_
 refine AX.sR (rgAV [0,3]) ?_
 refine AX.seq ?_
 refine AX.sR (rgWV [3,6,7,8] (aI @hml oT) oT) ?_
 refine AX.weaken id (st':=⟨[(8,.i .i64 (0:Nat)),(7,.i .i64 l.length),(6,.sl (wl l)),(3,.i .i64 0)],[],0⟩)
  leQ6
  ?_
 refine AX.block ?_
 refine AX.loop (fun N st=>∃ (i:Nat) (s:Int),i≤l.length∧N=l.length-i∧s=sumI (l.take i)∧st=⟨[(8,.i .i64 i),(7,.i .i64 l.length),(6,.sl (wl l)),(3,.i .i64 s)],[],0⟩) l.length ⟨0,0,Nat.zero_le _,rfl,rfl,rfl⟩ ?_
 rintro N st ⟨i,s,hi,rfl,hs,rfl⟩
 by_cases h1:i<l.length
 ·have hg:=wl_get h1
  have hsn:=sumI_take h1
  have b1:=hbd i hi
  have b2:=h _ (getD_mem_W h1)
  rw [← hs] at hsn b1
  generalize l.getD i 0=x at *
  generalize wl l=A at *
  have b3:(i:Int)*1000000≤64*1000000:=Int.mul_le_mul_of_nonneg_right (by omega) (by decide)
  refine AX.sR (rgAV [3,6,7,8,9]) ?_
  refine AX.seq ?_
  refine AX.condT ?_
  refine AX.keepA [3,6,7,8] ?_
  refine AX.skip ?_
  refine nmZ ?_
  refine AX.seq ?_
  refine AX.block ?_
  refine AX.sR (rgWV [3,5,6,7,8] (aI @hml (aI @hg oT)) oT) ?_
  refine AX.rR (rgAV [3,6,7,8]) ?_
  refine nmZ ?_
  refine AX.rR (rgWV [3,6,7,8] (aI @lit_add oT) oT) ?_
  refine nmZ ?_
  refine ⟨_,_,id,?_,
   leQ6
   , ⟨i+1,s+x,by omega,rfl,hsn.symm,rfl⟩⟩
  omega
 ·obtain rfl:i=l.length:=by omega
  rw [List.take_length] at hs
  rw [← hs]
  refine AX.sR (rgAV [3,6,7,8,9]) ?_
  refine AX.seq ?_
  refine AX.condF ?_
  refine AX.exit ?_
  refine nmZ ?_
  refine AX.sR (rgAV [2]) ?_
  refine AX.ret ⟨.inl rfl,?_⟩
  exact Done.one rfl rfl rfl rfl
def nameB (f:Int→ByteArray) (l:List Int):ByteArray:=l.foldl (fun s x=>s++(f x++⟨#[32]⟩)) ByteArray.empty
theorem nameB_take {f:Int→ByteArray} {l:List Int} {i:Nat} (h:i<l.length):nameB f (l.take (i+1))=nameB f (l.take i)++(f (l.getD i 0)++⟨#[32]⟩):=by
 unfold nameB
 rw [List.take_succ_eq_append_getElem h,List.foldl_append,List.getD_eq_getElem?_getD,List.getElem?_eq_getElem h]
 rfl
theorem nameB_size {f:Int→ByteArray} {l:List Int} (h:∀ x ∈ l,(f x).size≤20):∀ i,i≤l.length→(nameB f (l.take i)).size≤21*i
 | 0,_=>by simp [nameB]
 | i+1,hi=>by
  have ih:=nameB_size h i (by omega)
  have h1:=h _ (getD_mem_W (l:=l) (j:=i) (by omega))
  rw [nameB_take (by omega),ByteArray.size_append,ByteArray.size_append]
  have:(⟨#[32]⟩:ByteArray).size=1:=rfl
  omega
theorem effCatS {P:Program} {t y':TypeId} {x y:Operand} {a b:ByteArray} (h:a.size+b.size<2 ^ 62):eff P (.binOp .add t x y y') [.s a,.s b]=some (.val (.s (a++b))):=by
 simp only [eff,effBin,binV,binStr,if_pos h]
set_option maxHeartbeats 4000000 in
theorem cname_ok (f:Int→ByteArray)(l:List Int)(hl:l.length≤64)(hf:∀ x ∈ l,(f x).size≤20)(hI:∀ x ∈ l,PCall Tryz.prog 76 [.i .i64 x] (.s (f x)) []):PCall Tryz.prog 40 [.sl (wl l)] (.s (nameB f l)) []:=by
 refine PCall.of_ax Tryz.call40 Tryz.func40 rfl (by simp [Tryz.ntmps40]) fun O w=>?_
 simp only [Tryz.ntmps40,Tryz.results40,argFr]
 have hml:=wl_length l
 have hsz:=nameB_size hf
 refine AX.sR (rgAV [0]) ?_
 refine AX.sR (rgAV [0,3]) ?_
 refine AX.seq ?_
 refine AX.sR (rgWV [3,6,7,8] (aI @hml oT) oT) ?_
 refine AX.weaken id (st':=⟨[(8,.i .i64 (0:Nat)),(7,.i .i64 l.length),(6,.sl (wl l)),(3,.s ByteArray.empty)],[],0⟩)
  leQ6
  ?_
 refine AX.block ?_
 refine AX.loop (fun N st=>∃ (i:Nat) (s:ByteArray),i≤l.length∧N=l.length-i∧s=nameB f (l.take i)∧st=⟨[(8,.i .i64 i),(7,.i .i64 l.length),(6,.sl (wl l)),(3,.s s)],[],0⟩) l.length ⟨0,_,Nat.zero_le _,rfl,rfl,rfl⟩ ?_
 rintro N st ⟨i,s,hi,rfl,hs,rfl⟩
 by_cases h1:i<l.length
 ·have hg:=wl_get h1
  have hsn:=nameB_take (f:=f) h1
  have b1:=hsz i hi
  have c1:=hI _ (getD_mem_W h1)
  have b2:=hf _ (getD_mem_W h1)
  rw [← hs] at hsn b1
  have b3:(f (l.getD i 0)++⟨#[32]⟩).size=(f (l.getD i 0)).size+1:=by rw [ByteArray.size_append];rfl
  generalize l.getD i 0=x at *
  generalize wl l=A at *
  generalize f x=fx at *
  have k1:=fun x y t y'=>effCatS (P:=Tryz.prog) (t:=t) (y':=y') (x:=x) (y:=y) (a:=fx) (b:=⟨#[32]⟩) (by rw [show (⟨#[32]⟩:ByteArray).size=1 from rfl];omega)
  have k2:=fun x y t y'=>effCatS (P:=Tryz.prog) (t:=t) (y':=y') (x:=x) (y:=y) (a:=s) (b:=fx++⟨#[32]⟩) (by omega)
  refine AX.sR (rgAV [3,6,7,8,9]) ?_
  refine AX.seq ?_
  refine AX.condT ?_
  refine AX.keepA [3,6,7,8] ?_
  refine AX.skip ?_
  refine nmZ ?_
  refine AX.seq ?_
  refine AX.block ?_
  refine AX.sR (rgWV [3,5,6,7,8] (aI @hml (aI @hg oT)) oT) ?_
  refine AX.rR (rgEV [3,6,7,8] oT (aI c1 oT) (aI (k1 _ _) (aI (k2 _ _) oT))) ?_
  refine nmZ ?_
  refine AX.rR (rgWV [3,6,7,8] (aI @lit_add oT) oT) ?_
  refine nmZ ?_
  refine ⟨_,_,id,?_,
   leQ6
   , ⟨i+1,_,by omega,rfl,hsn.symm,rfl⟩⟩
  omega
 ·obtain rfl:i=l.length:=by omega
  rw [List.take_length] at hs
  rw [← hs]
  refine AX.sR (rgAV [3,6,7,8,9]) ?_
  refine AX.seq ?_
  refine AX.condF ?_
  refine AX.exit ?_
  refine nmZ ?_
  refine AX.sR (rgAV [2]) ?_
  refine AX.ret ⟨.inl rfl,?_⟩
  exact Done.one rfl rfl rfl rfl
def outI (n:Int) (l:List Int) (i:Nat):List Int:=((List.range i).filter fun j=>decide (n≤l.getD j 0*2)).map fun j:Nat=>(j:Int)
def nxtI (n:Int) (l:List Int) (i:Nat):List Int:=(List.range i).map fun j=>if n≤l.getD j 0*2 then l.getD j 0*2-n else l.getD j 0*2
theorem outI_succ (n:Int)(l:List Int)(i:Nat):outI n l (i+1)=if n≤l.getD i 0*2 then outI n l i++[(i:Int)] else outI n l i:=by
 unfold outI
 rw [List.range_succ,List.filter_append,List.map_append]
 by_cases h:n≤l.getD i 0*2
 ·rw [if_pos h,List.filter_cons,if_pos (decide_eq_true h)]
  rfl
 ·rw [if_neg h,List.filter_cons,if_neg (by rw [decide_eq_false h];exact Bool.false_ne_true)]
  simp
theorem nxtI_succ (n:Int)(l:List Int)(i:Nat):nxtI n l (i+1)=nxtI n l i++[if n≤l.getD i 0*2 then l.getD i 0*2-n else l.getD i 0*2]:=by
 unfold nxtI
 rw [List.range_succ,List.map_append]
 rfl
theorem outI_le (n:Int)(l:List Int)(i:Nat):(outI n l i).length≤i:=by
 unfold outI
 rw [List.length_map]
 have:=List.length_filter_le (fun j=>decide (n≤l.getD j 0*2)) (List.range i)
 rwa [List.length_range] at this
theorem nxtI_length (n:Int)(l:List Int)(i:Nat):(nxtI n l i).length=i:=by
 unfold nxtI
 rw [List.length_map,List.length_range]
set_option maxHeartbeats 8000000 in
theorem cnext_ok (l:List Int)(n:Int)(hl:l.length≤64)(h:∀ x ∈ l,0≤x∧x≤1000000)(hn:0≤n∧n≤1000000):PCall Tryz.prog 41 [.sl (wl l),.i .i64 n] (.tup [.sl (wl (outI n l l.length)),.sl (wl (nxtI n l l.length))]) []:=by
 refine PCall.of_ax Tryz.call41 Tryz.func41 rfl (by simp [Tryz.ntmps41]) fun O w=>?_
 simp only [Tryz.ntmps41,Tryz.results41,argFr]
 have hml:=wl_length l
 refine AX.sR (rgAV [0,1]) ?_
 refine AX.sR (rgAV [0,1,6,7]) ?_
 refine AX.own0 6 3 1 rfl ?_
 refine AX.own0 7 3 1 rfl ?_
 refine AX.seq ?_
 refine AX.sR (rgWV [1,6,7,10,11,12] (aI @hml oT) oT) ?_
 refine AX.weaken id (st':=⟨[(12,.i .i64 (0:Nat)),(11,.i .i64 l.length),(10,.sl (wl l)),(7,.own 1 0 (nxtI n l 0).length 1),(6,.own 0 0 (outI n l 0).length 1),(1,.i .i64 n)],[(1,⟨3,wl (nxtI n l 0)⟩),(0,⟨3,wl (outI n l 0)⟩)],2⟩)
  leQ6
  ?_
 refine AX.block ?_
 refine AX.loop (fun N st=>∃ (i:Nat) (o q:List Int),i≤l.length∧N=l.length-i∧outI n l i=o∧nxtI n l i=q∧st=⟨[(12,.i .i64 i),(11,.i .i64 l.length),(10,.sl (wl l)),(7,.own 1 0 q.length 1),(6,.own 0 0 o.length 1),(1,.i .i64 n)],[(1,⟨3,wl q⟩),(0,⟨3,wl o⟩)],2⟩) l.length ⟨0,_,_,Nat.zero_le _,rfl,rfl,rfl,rfl⟩ ?_
 rintro N st ⟨i,o,q,hi,rfl,ho,hq,rfl⟩
 by_cases h1:i<l.length
 ·have hg:=wl_get h1
  have b1:=h _ (getD_mem_W h1)
  have s1:=outI_succ n l i
  have s2:=nxtI_succ n l i
  have lo:=outI_le n l i
  have lq:=nxtI_length n l i
  rw [ho] at s1 lo
  rw [hq] at s2 lq
  have hlo:=wl_length o
  have hlq:=wl_length q
  generalize l.getD i 0=x at *
  by_cases h2:n≤x*2
  ·rw [if_pos h2] at s1 s2
   have happ:=wl_app o i
   have happ2:=wl_app q (x*2-n)
   have hlen:(o++[(i:Int)]).length=o.length+1:=by simp
   have hlen2:(q++[x*2-n]).length=q.length+1:=by simp
   generalize o++[(i:Int)]=o2 at *
   generalize q++[x*2-n]=q2 at *
   refine AX.sR (rgAV [1,6,7,10,11,12,13]) ?_
   refine AX.seq ?_
   refine AX.condT ?_
   refine AX.keepA [1,6,7,10,11,12] ?_
   refine AX.skip ?_
   refine nmZ ?_
   refine AX.seq ?_
   refine AX.block ?_
   refine AX.sR (rgWV [1,6,7,8,9,10,11,12] (aI @hml (aI @hg oT)) oT) ?_
   refine AX.sR (rgAV [1,6,7,8,9,10,11,12]) ?_
   refine AX.seq ?_
   refine AX.sR (rgAV [1,6,7,8,9,10,11,12,21]) ?_
   refine AX.condT ?_
   refine AX.sR (rgAV [1,6,7,8,9,10,11,12]) ?_
   refine AX.rR (rgWV [1,6,7,9,10,11,12] (aI @hlo (aI @zerosV_1 (aI @tkS (aI @tk0 oT)))) oT) ?_
   refine nmZ ?_
   rw [happ]
   refine AX.rR (rgWV [1,6,7,10,11,12] (aI @hlq (aI @zerosV_1 (aI @tkS (aI @tk0 oT)))) oT) ?_
   refine nmZ ?_
   rw [happ2]
   refine AX.rR (rgWV [1,6,7,10,11,12] (aI @lit_add oT) oT) ?_
   refine nmZ ?_
   refine ⟨_,_,fun n=>if n=0 then 3 else if n=1 then 5 else n,?_,
    leQ6
    , ⟨i+1,o2,q2,by omega,rfl,s1,s2,rfl⟩⟩
   omega
  ·rw [if_neg h2] at s1 s2
   have happ2:=wl_app q (x*2)
   have hlen2:(q++[x*2]).length=q.length+1:=by simp
   generalize q++[x*2]=q2 at *
   refine AX.sR (rgAV [1,6,7,10,11,12,13]) ?_
   refine AX.seq ?_
   refine AX.condT ?_
   refine AX.keepA [1,6,7,10,11,12] ?_
   refine AX.skip ?_
   refine nmZ ?_
   refine AX.seq ?_
   refine AX.block ?_
   refine AX.sR (rgWV [1,6,7,8,9,10,11,12] (aI @hml (aI @hg oT)) oT) ?_
   refine AX.sR (rgAV [1,6,7,8,9,10,11,12]) ?_
   refine AX.seq ?_
   refine AX.sR (rgAV [1,6,7,8,9,10,11,12,21]) ?_
   refine AX.condF ?_
   refine AX.keepA [1,6,7,9,10,11,12] ?_
   refine AX.skip ?_
   refine nmZ ?_
   refine AX.rR (rgWV [1,6,7,10,11,12] (aI @hlq (aI @zerosV_1 (aI @tkS (aI @tk0 oT)))) oT) ?_
   refine nmZ ?_
   rw [happ2]
   refine AX.rR (rgWV [1,6,7,10,11,12] (aI @lit_add oT) oT) ?_
   refine nmZ ?_
   refine ⟨_,_,fun n=>if n=1 then 3 else n,?_,
    leQ6
    , ⟨i+1,o,q2,by omega,rfl,s1,s2,rfl⟩⟩
   omega
 ·obtain rfl:i=l.length:=by omega
  rw [ho,hq]
  refine AX.sR (rgAV [1,6,7,10,11,12,13]) ?_
  refine AX.seq ?_
  refine AX.condF ?_
  refine AX.exit ?_
  refine nmZ ?_
  refine AX.sR (rgAV [4,5]) ?_
  refine AX.ret ⟨.inl rfl,?_⟩
  exact Done.slW2 rfl rfl rfl rfl rfl rfl
def dgS:ByteArray:=⟨#[48,49,50,51,52,53,54,55,56,57,97,98,99,100,101,102,103,104,105,106,107,108,109,110,111,112,113,114,115,116,117,118,119,120,121,122]⟩
def it10 (x:Int):ByteArray:=dgS.extract x.toNat (x.toNat+1)
theorem effDg {x y z:Operand} (i:Nat)(hi:i<10):eff Tryz.prog (.slice 9 x (some y) (some z) none) [.s dgS,.i .i64 (i:Int),.i .i64 ((i+1:Nat):Int)]=some (.val (.s (it10 i))):=by
 simp only [eff,effSlice,lowHigh,sliceV,bound,Tryz.underlying9,Option.isSome_some,Option.isSome_none,Int.toNat_natCast]
 have:dgS.size=36:=rfl
 rw [if_pos ⟨by omega,by omega,by omega⟩]
 rfl
theorem itsmall_ok (i:Nat)(hi:i<10):PCall Tryz.prog 159 [.i .i64 (i:Int)] (.s (it10 i)) []:=by
 refine PCall.of_ax Tryz.call159 Tryz.func159 rfl (by simp [Tryz.ntmps159]) fun O w=>?_
 simp only [Tryz.ntmps159,Tryz.results159,argFr]
 have k1:=fun x y=>effDg (x:=x) (y:=y) (z:=.tmp 7) i hi
 refine AX.sR (rgAV [0]) ?_
 refine AX.seq ?_
 refine AX.sR (rgAV [0,4]) ?_
 refine AX.condT ?_
 refine AX.sR (rgEV [2] (aI @lit_add oT) oT (aI k1 oT)) ?_
 refine AX.ret ⟨.inl rfl,?_⟩
 exact Done.one rfl rfl rfl rfl
theorem format_ok (i:Nat)(hi:i<10):PCall Tryz.prog 149 [.i .i64 (i:Int),.i .i64 10] (.s (it10 i)) []:=by
 have c1:=itsmall_ok i hi
 refine PCall.of_ax Tryz.call149 Tryz.func149 rfl (by simp [Tryz.ntmps149]) fun O w=>?_
 simp only [Tryz.ntmps149,Tryz.results149,argFr]
 refine AX.sR (rgAV [0,1]) ?_
 refine AX.seq ?_
 refine AX.sR (rgAV [0,1,11]) ?_
 refine AX.condT ?_
 refine AX.seq ?_
 refine AX.sR (rgAV [0,17]) ?_
 refine AX.condT ?_
 refine AX.sR (rgCV [4] (aI c1 oT)) ?_
 refine AX.ret ⟨.inl rfl,?_⟩
 exact Done.one rfl rfl rfl rfl
theorem itoaI_ok (i:Nat)(hi:i<10):PCall Tryz.prog 125 [.i .i64 (i:Int)] (.s (it10 i)) []:=by
 have c1:=format_ok i hi
 refine PCall.of_ax Tryz.call125 Tryz.func125 rfl (by simp [Tryz.ntmps125]) fun O w=>?_
 simp only [Tryz.ntmps125,Tryz.results125,argFr]
 refine AX.sR (rgAV [0]) ?_
 refine AX.sR (rgCV [2] (aI c1 oT)) ?_
 refine AX.ret ⟨.inl rfl,?_⟩
 exact Done.one rfl rfl rfl rfl
theorem itoa10_ok (i:Nat)(hi:i<10):PCall Tryz.prog 76 [.i .i64 (i:Int)] (.s (it10 i)) []:=by
 have c1:=itoaI_ok i hi
 refine PCall.of_ax Tryz.call76 Tryz.func76 rfl (by simp [Tryz.ntmps76]) fun O w=>?_
 simp only [Tryz.ntmps76,Tryz.results76,argFr]
 refine AX.sR (rgAV [0]) ?_
 refine AX.sR (rgCV [2] (aI c1 oT)) ?_
 refine AX.ret ⟨.inl rfl,?_⟩
 exact Done.one rfl rfl rfl rfl
def fl (S:T2):List Int:=S.flatMap fun x=>[x.1,x.2]
theorem fl_length (S:T2):(fl S).length=S.length*2:=by
 induction S with
 | nil=>rfl
 | cons a S ih=>
  show ([a.1,a.2]++fl S).length=_
  rw [List.length_append,ih,List.length_cons]
  simp
  omega
theorem fl_app (S:T2)(a b:Int):fl (S++[(a,b)])=fl S++[a,b]:=by simp [fl]
theorem wl_app2 (l:List Int)(a b:Int):wl l++[.i .i64 a,.i .i64 b]=wl (l++[a,b]):=by simp [wl]
theorem wl_fl (S:T2)(a b:Int):wl (fl S)++[.i .i64 a,.i .i64 b]=wl (fl (S++[(a,b)])):=by rw [wl_app2,fl_app]
theorem wlfl_length (S:T2):(wl (fl S)).length=S.length*2:=by rw [wl_length,fl_length]
def pairsI (e:List Int) (k:Nat):T2:=(List.range k).map fun j=>(e.getD (2*j) 0,e.getD (2*j+1) 0)
theorem pairsI_succ (e:List Int)(k:Nat):pairsI e (k+1)=pairsI e k++[(e.getD (2*k) 0,e.getD (2*k+1) 0)]:=by
 unfold pairsI
 rw [List.range_succ,List.map_append]
 rfl
theorem pairsI_length (e:List Int)(k:Nat):(pairsI e k).length=k:=by unfold pairsI;rw [List.length_map,List.length_range]
def endsO (o:List Int) (i:Nat):List Int:=(o.take i).map fun x=>-1-x
theorem endsO_succ {o:List Int} {i:Nat} (h:i<o.length):endsO o (i+1)=endsO o i++[-1-o.getD i 0]:=by
 unfold endsO
 rw [List.take_succ_eq_append_getElem h,List.map_append,List.getD_eq_getElem?_getD,List.getElem?_eq_getElem h]
 rfl
theorem endsO_length {o:List Int} {i:Nat} (h:i≤o.length):(endsO o i).length=i:=by unfold endsO;rw [List.length_map,List.length_take];omega
def endsM (to:Int) (k:Nat):List Int:=(List.range k).map fun j:Nat=>to+(j:Int)
theorem endsM_succ (to:Int)(k:Nat):endsM to (k+1)=endsM to k++[to+(k:Int)]:=by
 unfold endsM
 rw [List.range_succ,List.map_append]
 rfl
theorem endsM_length (to:Int)(k:Nat):(endsM to k).length=k:=by unfold endsM;rw [List.length_map,List.length_range]
def endsI (o:List Int) (to:Int) (more:Nat):List Int:=endsO o o.length++endsM to more
theorem endsI_length (o:List Int)(to:Int)(more:Nat):(endsI o to more).length=o.length+more:=by
 unfold endsI
 rw [List.length_append,endsO_length (Nat.le_refl _),endsM_length]
abbrev Lv:=List (List Int × Nat)
def lookL (l:List Int):Lv→Option Nat
 | []=>none
 | (a,v) :: r=>if l=a then some v else lookL l r
def ksM (f:Int→ByteArray) (M:Lv):List (K0 × K0):=M.map fun p=>(.s (nameB f p.1),.i .i64 p.2)
theorem ksM_app (f:Int→ByteArray)(M:Lv)(R:List Int)(v:Nat):ksM f M++[(.s (nameB f R),.i .i64 v)]=ksM f (M++[(R,v)]):=by simp [ksM]
theorem ba_beq (a b:ByteArray):(a == b)=decide (a=b):=by
 obtain ⟨a⟩:=a
 obtain ⟨b⟩:=b
 have e:((⟨a⟩:ByteArray) == ⟨b⟩)=(a == b):=rfl
 rw [e]
 by_cases h:a=b
 ·subst h;simp
 ·rw [decide_eq_false (fun h2=>h (by injection h2))]
  exact beq_eq_false_iff_ne.2 h
theorem find_ks {f:Int→ByteArray} {l:List Int}:∀ {M:Lv},(∀ p ∈ M,nameB f l=nameB f p.1→l=p.1)→K0.find (.s (nameB f l)) (ksM f M)=some ((lookL l M).map fun v=>K0.i .i64 v)
 | [],_=>rfl
 | (a,v) :: M,h=>by
  show (match K0.eq (.s (nameB f l)) (.s (nameB f a)) with
   | some true=>some (some (K0.i .i64 v))
   | some false=>K0.find (.s (nameB f l)) (ksM f M)
   | none=>none)=_
  unfold lookL
  by_cases e:l=a
  ·subst e
   rw [if_pos rfl]
   have:K0.eq (.s (nameB f l)) (.s (nameB f l))=some true:=by
    show some (nameB f l == nameB f l)=_
    rw [ba_beq,decide_eq_true rfl]
   rw [this]
   rfl
  ·rw [if_neg e]
   have h2:nameB f l≠nameB f a:=fun h3=>e (h (a,v) (by simp) h3)
   have:K0.eq (.s (nameB f l)) (.s (nameB f a))=some false:=by
    show some (nameB f l == nameB f a)=_
    rw [ba_beq,decide_eq_false h2]
   rw [this]
   exact find_ks fun p hp=>h p (by simp [hp])
theorem lookL_mem {l:List Int}:∀ {M:Lv} {v:Nat},lookL l M=some v→(l,v) ∈ M
 | [],v,h=>by cases h
 | (a,u) :: M,v,h=>by
  unfold lookL at h
  by_cases e:l=a
  ·rw [if_pos e] at h
   cases h
   subst e
   simp
  ·rw [if_neg e] at h
   have:=lookL_mem h
   simp [this]
def mkS (n:Int):Nat→List Int→Lv→T2→Option (Option T2)
 | 0,_,_,_=>none
 | k+1,R,M,S=>
  let m:=(sumI R / n).toNat
  let o:=outI n R R.length
  let l:=nxtI n R R.length
  let M':=M++[(R,S.length)]
  let to:Nat:=(lookL l M').getD (S.length+m)
  let S':=S++pairsI (endsI o to (2*m-o.length)) m
  if 60<S'.length then some none else if (lookL l M').isSome=true∨2*m-o.length=0 then some (some S') else mkS n k l M' S'
def mkV (l:List Int):V:=if isO l=true then (match mkS (sumI l) 61 l [] [] with
 | some (some S)=>.tup [smp S,.i .i64 0]
 | _=>.tup [smp [],.i .i64 2]) else .tup [smp [],.i .i64 1]
theorem sumI_append (a b:List Int):sumI (a++b)=sumI a+sumI b:=by
 have key:∀ (l:List Int) (z:Int),l.foldl (· + ·) z=z+l.foldl (· + ·) 0:=by
  intro l
  induction l with
  | nil=>intro z;simp
  | cons x l ih=>intro z;rw [List.foldl_cons,List.foldl_cons,ih,ih (0+x)];omega
 unfold sumI
 rw [List.foldl_append,key]
theorem sum_nxt (n:Int)(l:List Int):∀ i,i≤l.length→sumI (nxtI n l i)=2*sumI (l.take i)-n*((outI n l i).length:Int)
 | 0,_=>by
  show (0:Int)=2*0-n*((0:Nat):Int)
  simp
 | i+1,hi=>by
  have ih:=sum_nxt n l i (by omega)
  rw [nxtI_succ,sumI_append,ih,sumI_take (by omega),outI_succ]
  by_cases h:n≤l.getD i 0*2
  ·rw [if_pos h,if_pos h,List.length_append]
   show _+(0+(l.getD i 0*2-n))=_
   rw [show (((outI n l i).length+[(i:Int)].length:Nat):Int)=((outI n l i).length:Int)+1 by simp,Int.mul_add n,Int.mul_one]
   omega
  ·rw [if_neg h,if_neg h]
   show _+(0+l.getD i 0*2)=_
   omega
theorem mem_nxtI {n:Int} {l:List Int} {i:Nat} {x:Int} (h:x ∈ nxtI n l i):∃ j,j<i∧x=if n≤l.getD j 0*2 then l.getD j 0*2-n else l.getD j 0*2:=by
 unfold nxtI at h
 obtain ⟨j,hj,rfl⟩:=List.mem_map.1 h
 exact ⟨j,List.mem_range.1 hj,rfl⟩
theorem mem_outI {n:Int} {l:List Int} {i:Nat} {x:Int} (h:x ∈ outI n l i):∃ j:Nat,j<i∧x=j:=by
 unfold outI at h
 obtain ⟨j,hj,rfl⟩:=List.mem_map.1 h
 exact ⟨j,List.mem_range.1 (List.mem_filter.1 hj).1,rfl⟩
structure IsL (n:Int) (L:Nat) (R:List Int) (m:Nat):Prop where
 len:R.length=L
 bd:∀ x ∈ R,0≤x∧x<n
 sum:sumI R=n*(m:Int)
theorem IsL.next {n:Int} {L:Nat} {R:List Int} {m:Nat} (h:IsL n L R m)(hn:0<n):(outI n R R.length).length≤2*m∧IsL n L (nxtI n R R.length) (2*m-(outI n R R.length).length):=by
 have hs:=sum_nxt n R R.length (Nat.le_refl _)
 rw [List.take_length,h.sum] at hs
 have hb:∀ x ∈ nxtI n R R.length,0≤x∧x<n:=by
  intro x hx
  obtain ⟨j,hj,rfl⟩:=mem_nxtI hx
  have:=h.bd _ (getD_mem_W hj)
  split<;>omega
 have h0:0≤sumI (nxtI n R R.length):=by
  have:=(sumI_bd (B:=n) (by omega) (fun x hx=>⟨(hb x hx).1,by have:=(hb x hx).2;omega⟩) _ (Nat.le_refl _)).1
  rwa [List.take_length] at this
 generalize (outI n R R.length).length=k at *
 have hk:k≤2*m:=by
  refine Classical.byContradiction fun hc=>?_
  have h1:n*((2*m+1:Nat):Int)≤n*(k:Int):=Int.mul_le_mul_of_nonneg_left (by omega) (by omega)
  rw [show ((2*m+1:Nat):Int)=2*(m:Int)+1 by omega,Int.mul_add] at h1
  have h2:n*(2*(m:Int))=2*(n*(m:Int)):=by rw [← Int.mul_assoc,Int.mul_comm n 2,Int.mul_assoc]
  omega
 refine ⟨hk,⟨by rw [nxtI_length];exact h.len,hb,?_⟩⟩
 rw [hs,show ((2*m-k:Nat):Int)=2*(m:Int)-(k:Int) by omega,Int.mul_sub,← Int.mul_assoc,← Int.mul_assoc,Int.mul_comm n 2]
theorem IsL.m_lt {n:Int} {L:Nat} {R:List Int} {m:Nat} (h:IsL n L R m)(hn:0<n):m≤L:=by
 have h1:=(sumI_bd (B:=n) (by omega) (fun x hx=>⟨(h.bd x hx).1,by have:=(h.bd x hx).2;omega⟩) _ (Nat.le_refl _)).2
 rw [List.take_length,h.sum,h.len] at h1
 refine Classical.byContradiction fun hc=>?_
 have h2:n*((L+1:Nat):Int)≤n*(m:Int):=Int.mul_le_mul_of_nonneg_left (by omega) (by omega)
 rw [show ((L+1:Nat):Int)=(L:Int)+1 by omega,Int.mul_add,Int.mul_comm] at h2
 omega
theorem IsL.div {n:Int} {L:Nat} {R:List Int} {m:Nat} (h:IsL n L R m)(hn:0<n):sumI R / n=(m:Int)∧(sumI R).tdiv n=(m:Int):=by
 rw [h.sum]
 exact ⟨Int.mul_ediv_cancel_left _ (by omega),Int.mul_tdiv_cancel_left _ (by omega)⟩
theorem isL_first {l:List Int} (h:isO l=true):IsL (sumI l) l.length l 1∧2≤sumI l∧sumI l≤64000:=by
 obtain ⟨h1,h2,h3⟩:=isO_iff.1 h
 have hb:=(sumI_bd (l:=l) (B:=1000) (by decide) (fun x hx=>⟨by have:=(h3 x hx).1;omega,(h3 x hx).2⟩) _ (Nat.le_refl _)).2
 rw [List.take_length] at hb
 have key:∀ (l:List Int),(∀ x ∈ l,1≤x)→(l.length:Int)≤sumI l∧∀ x ∈ l,x+(l.length:Int)-1≤sumI l:=by
  intro l
  induction l with
  | nil=>intro _;exact ⟨by simp [sumI],fun x hx=>by cases hx⟩
  | cons a l ih=>
   intro h
   obtain ⟨i1,i2⟩:=ih fun x hx=>h x (by simp [hx])
   have e:sumI (a :: l)=a+sumI l:=by
    have:=sumI_append [a] l
    rw [show sumI [a]=a from by simp [sumI]] at this
    exact this
   have ha:=h a (by simp)
   rw [e,List.length_cons]
   refine ⟨by omega,fun x hx=>?_⟩
   rcases List.mem_cons.1 hx with rfl | hx
   ·omega
   ·have:=i2 x hx;omega
 obtain ⟨k1,k2⟩:=key l fun x hx=>(h3 x hx).1
 have h4:(l.length:Int)*1000≤64*1000:=Int.mul_le_mul_of_nonneg_right (by omega) (by decide)
 exact ⟨⟨rfl,fun x hx=>⟨by have:=(h3 x hx).1;omega,by have:=k2 x hx;omega⟩,by simp⟩,by omega,by omega⟩
theorem co_zero:zeroOf Tryz.prog 3=some (.i .i64 0):=by kernel_rfl
attribute [go_sem] Tryz.underlying85 Tryz.underlying9 co_zero
theorem effBd2 (x y:Operand)(a b:Int):eff Tryz.prog (.build 64 #[(0,x),(1,y)]) [.i .i64 a,.i .i64 b]=some (.val (.agg [.i .i64 a,.i .i64 b])):=by kernel_rfl
theorem effBs2 (x:Operand)(a b:Int):eff Tryz.prog (.buildSlice 23 1 #[(0,x)]) [.agg [.i .i64 a,.i .i64 b]]=some (.new ⟨64,[.i .i64 a,.i .i64 b]⟩ fun n=>.own n 0 1 2):=by kernel_rfl
theorem chunks2:∀ S:T2,chunks 2 S.length (wl (fl S))=nx S:=by
 intro S
 show (List.range S.length).map (fun j=>V.agg (((wl (fl S)).drop (j*2)).take 2))=nx S
 apply List.ext_getElem?
 intro j
 rw [List.getElem?_map,nx,List.getElem?_map]
 by_cases h:j<S.length
 ·rw [List.getElem?_range h,List.getElem?_eq_getElem h]
  show some _=some _
  congr 1
  have key:∀ (S:T2) (j:Nat) (h:j<S.length),((wl (fl S)).drop (j*2)).take 2=[.i .i64 S[j].1,.i .i64 S[j].2]:=by
   intro S
   induction S with
   | nil=>intro j h;exact absurd h (Nat.not_lt_zero _)
   | cons a S ih=>
    intro j h
    have e:wl (fl (a :: S))=.i .i64 a.1 :: .i .i64 a.2 :: wl (fl S):=rfl
    rw [e]
    cases j with
    | zero=>rfl
    | succ j=>
     rw [show (j+1)*2=j*2+1+1 by omega,List.drop_succ_cons,List.drop_succ_cons,ih j (by simpa using h)]
     rfl
  show V.agg _=V.agg _
  rw [key S j h]
 ·rw [List.getElem?_eq_none (by simp;omega),List.getElem?_eq_none (by omega)]
  rfl
theorem Lift.Done.smpO {st:St} {a t':Tmp} {h g k:Nat} {T T':TypeId} {S:T2} {e:Int} (h1:lkp st.fr a=some (.ptr h 0))(h2:lkp st.hp h=some ⟨T,[.own g 0 k 2]⟩)(h3:lkp st.hp g=some ⟨T',wl (fl S)⟩)(h4:lkp st.fr t'=some (.i .i64 e))(hk:k=S.length):Done Tryz.prog #[.cell a 25,.tmp t'] (.tup [.agg [.sl (nx S)],.i .i64 e]) [] st:=by
 subst hk
 have e1:List.take (S.length*2) (List.drop 0 (wl (fl S)))=wl (fl S):=by rw [List.drop_zero];exact List.take_of_length_le (by rw [wlfl_length];exact Nat.le_refl _)
 refine Done.of (vs:=[.agg [.own g 0 S.length 2],.i .i64 e]) (hp:=dlt st.hp g) ?_ ?_ rfl ?_ ?_
 ·simp only [resVs,resV,h1,h2,h4,co_lay_smp];rfl
 ·simp only [packV,frz,frzL,h3,List.not_mem_nil,if_false,Nat.zero_add,wlfl_length,Nat.le_refl,e1,(wl_hf (fl S)).1,(wl_hf (fl S)).2,and_self,if_true,Nat.zero_lt_succ,Nat.lt_succ_self,true_and,chunks2]
 ·rfl
 ·rfl
theorem Lift.Done.smpN {st:St} {a t':Tmp} {h:Nat} {T:TypeId} {e:Int} (h1:lkp st.fr a=some (.ptr h 0))(h2:lkp st.hp h=some ⟨T,[.nl]⟩)(h4:lkp st.fr t'=some (.i .i64 e)):Done Tryz.prog #[.cell a 25,.tmp t'] (.tup [.agg [.sl []],.i .i64 e]) [] st:=by
 refine Done.of (vs:=[.agg [.nl],.i .i64 e]) (hp:=st.hp) ?_ rfl rfl rfl rfl
 simp only [resVs,resV,h1,h2,h4,co_lay_smp];rfl
def mkR:Option (Option T2)→V
 | some (some S)=>.tup [smp S,.i .i64 0]
 | _=>.tup [smp [],.i .i64 2]
theorem mkV_eq {l:List Int} (h:isO l=true):mkV l=mkR (mkS (sumI l) 61 l [] []):=by
 unfold mkV
 rw [if_pos h]
 generalize mkS (sumI l) 61 l [] []=X
 rcases X with _ | _ | S<;>rfl
theorem mkS_succ {n:Int} {k:Nat} {R:List Int} {M:Lv} {S:T2} {m:Nat} {o l:List Int} {q:Option Nat} (hm:sumI R / n=(m:Int)) (ho:outI n R R.length=o) (hl:nxtI n R R.length=l) (hq:lookL l (M++[(R,S.length)])=q) :
  mkS n (k+1) R M S=if 60<(S++pairsI (endsI o ((q.getD (S.length+m):Nat):Int) (2*m-o.length)) m).length then some none else if q.isSome=true∨2*m-o.length=0 then some (some (S++pairsI (endsI o ((q.getD (S.length+m):Nat):Int) (2*m-o.length)) m)) else mkS n k l (M++[(R,S.length)]) (S++pairsI (endsI o ((q.getD (S.length+m):Nat):Int) (2*m-o.length)) m):=by
 rw [mkS]
 simp only [ho,hl,hq,hm,Int.toNat_natCast]
set_option maxHeartbeats 16000000 in
theorem make_walk (f:Int→ByteArray) (B:Int) (l0:List Int) (h0:isO l0=true) (hB:sumI l0≤B+1)
  (hfs:∀ x,0≤x→x≤B→(f x).size≤20) (hI:∀ x,0≤x→x≤B→PCall Tryz.prog 76 [.i .i64 x] (.s (f x)) [])
  (hinj:∀ a b:List Int,a.length=b.length→(∀ x ∈ a,0≤x∧x≤B)→(∀ x ∈ b,0≤x∧x≤B)→nameB f a=nameB f b→a=b):PCall Tryz.prog 11 [.sl (wl l0)] (mkV l0) []:=by
 obtain ⟨hF,n2,n3⟩:=isL_first h0
 obtain ⟨q1,q2,q3⟩:=isO_iff.1 h0
 have c1:=crightO_ok l0 (by omega) (fun x hx=>by have:=q3 x hx;omega)
 have cS:=csum_ok l0 (by omega) (fun x hx=>by have:=q3 x hx;omega)
 rw [h0] at c1
 rw [mkV_eq h0]
 obtain ⟨X,hX⟩:∃ X,mkS (sumI l0) 61 l0 [] []=X:=⟨_,rfl⟩
 rw [hX]
 generalize hn:sumI l0=n at *
 clear hn
 obtain ⟨L,hL⟩:∃ L,l0.length=L:=⟨_,rfl⟩
 rw [hL] at hF q2
 refine PCall.of_ax Tryz.call11 Tryz.func11 rfl (by simp [Tryz.ntmps11]) fun O w=>?_
 simp only [Tryz.ntmps11,Tryz.results11,argFr]
 refine AX.sR (rgAV [0,2]) ?_
 refine AX.seq ?_
 refine AX.sR (rgCV [0,2,21] (aI c1 oT)) ?_
 refine AX.condF ?_
 refine AX.keepA [0,2] ?_
 refine AX.skip ?_
 refine nmZ ?_
 refine AX.sR (rgCV [0,2,4] (aI cS oT)) ?_
 refine AX.sR (rgAV [0,2,4,5]) ?_
 refine AX.sR (rgAV [0,2,4,5,6]) ?_
 refine AX.own0c 2 0 64 2 rfl rfl (by show 0<1;decide) ?_
 refine AX.sR (rgAV [2,4,5,6,7]) ?_
 refine AX.weaken id (st':=⟨[(7,.sl (wl l0)),(6,.ptr 2 0),(5,.mp 1),(4,.i .i64 n),(2,.ptr 0 0)],[(3,⟨64,wl (fl ([]:T2))⟩),(2,⟨25,[.own 3 0 ([]:T2).length 2]⟩),(1,⟨85,[.tab []]⟩),(0,⟨25,[.nl]⟩)],4⟩)
  leQ6
  ?_
 refine AX.block ?_
 refine AX.loop (fun N st=>∃ (R:List Int) (M:Lv) (S:T2) (m:Nat),IsL n L R m∧1≤m∧lookL R M=none∧(∀ p ∈ M,p.1.length=L∧(∀ x ∈ p.1,0≤x∧x<n)∧p.2≤60)∧61≤S.length+N∧S.length≤60∧mkS n N R M S=X∧st=⟨[(7,.sl (wl R)),(6,.ptr 2 0),(5,.mp 1),(4,.i .i64 n),(2,.ptr 0 0)],[(3,⟨64,wl (fl S)⟩),(2,⟨25,[.own 3 0 (S).length 2]⟩),(1,⟨85,[.tab (ksM f M)]⟩),(0,⟨25,[.nl]⟩)],4⟩) 61 ⟨l0,[],[],1,hF,Nat.le_refl _,rfl,(fun p hp=>by cases hp),by simp,by simp,hX,rfl⟩ ?_
 clear c1 cS hX hF h0 q1 q3 hL
 clear l0
 rintro N st ⟨R,M,S,m,hR,hm,hlk,hM,hN,hS,hmk,rfl⟩
 obtain ⟨k,rfl⟩:∃ k,N=k+1:=⟨N-1,by omega⟩
 obtain ⟨hmo,hL2⟩:=hR.next (by omega)
 have hmL:=hR.m_lt (by omega)
 obtain ⟨hdv,htd⟩:=hR.div (by omega)
 have lR:=hR.len
 have cN1:=cname_ok f R (by omega) (fun x hx=>hfs x (hR.bd x hx).1 (by have:=(hR.bd x hx).2;omega)) (fun x hx=>hI x (hR.bd x hx).1 (by have:=(hR.bd x hx).2;omega))
 have cS1:=csum_ok R (by omega) (fun x hx=>by have:=hR.bd x hx;omega)
 have cX:=cnext_ok R n (by omega) (fun x hx=>by have:=hR.bd x hx;omega) (by omega)
 have hob:∀ x ∈ outI n R R.length,0≤x∧x≤64:=fun x hx=>by
  obtain ⟨j,hj,rfl⟩:=mem_outI hx
  omega
 have hol:=outI_le n R R.length
 obtain ⟨o,ho⟩:∃ o,outI n R R.length=o:=⟨_,rfl⟩
 obtain ⟨l,hl⟩:∃ l,nxtI n R R.length=l:=⟨_,rfl⟩
 rw [ho] at hmo hL2 cX hob hol
 rw [hl] at hL2 cX
 have ll:=hL2.len
 have cN2:=cname_ok f l (by omega) (fun x hx=>hfs x (hL2.bd x hx).1 (by have:=(hL2.bd x hx).2;omega)) (fun x hx=>hI x (hL2.bd x hx).1 (by have:=(hL2.bd x hx).2;omega))
 have hf1:K0.find (.s (nameB f R)) (ksM f M)=some none:=by
  rw [find_ks (fun p hp e=>hinj R p.1 (lR.trans (hM p hp).1.symm) (fun x hx=>by have:=hR.bd x hx;omega) (fun x hx=>by have:=(hM p hp).2.1 x hx;omega) e),hlk]
  rfl
 have hM2:∀ p ∈ M++[(R,S.length)],p.1.length=L∧(∀ x ∈ p.1,0≤x∧x<n)∧p.2≤60:=fun p hp=>by
  rcases List.mem_append.1 hp with hp | hp
  ·exact hM p hp
  ·simp only [List.mem_singleton] at hp
   subst hp
   exact ⟨lR,hR.bd,hS⟩
 have hf2:K0.find (.s (nameB f l)) (ksM f (M++[(R,S.length)]))=some ((lookL l (M++[(R,S.length)])).map fun v=>K0.i .i64 v):=find_ks (fun p hp e=>hinj l p.1 (ll.trans (hM2 p hp).1.symm) (fun x hx=>by have:=hL2.bd x hx;omega) (fun x hx=>by have:=(hM2 p hp).2.1 x hx;omega) e)
 have hks:=ksM_app f M R S.length
 obtain ⟨q,hq⟩:∃ q,lookL l (M++[(R,S.length)])=q:=⟨_,rfl⟩
 have hqb:∀ v,q=some v→v≤60:=fun v hv=>(hM2 _ (lookL_mem (hq.trans hv))).2.2
 rw [mkS_succ hdv ho hl hq] at hmk
 rw [hq] at hf2
 have hlo:=wl_length o
 have hol64:o.length≤64:=by omega
 have hm64:m≤64:=by omega
 obtain ⟨more,hmore⟩:∃ more,2*m-o.length=more:=⟨_,rfl⟩
 have hm2:2*(m:Int)-(o.length:Int)=(more:Int):=by omega
 have hmo128:more≤128:=by omega
 rw [hmore] at hmk hL2
 have hn0:(n=0)=False:=by simp only [eq_iff_iff,iff_false];omega
 generalize sumI R=sR at *
 generalize nameB f R=NR at *
 generalize nameB f l=NL at *
 generalize hKM:ksM f M=K at *
 generalize hKM2:ksM f (M++[(R,S.length)])=K2 at *
 refine AX.block ?_
 refine AX.sD (rgDWV [2,4,5,6,7] (aI @hf1 oT) (aI cN1 oT)) ?_
 rw [hks]
 refine AX.sR (rgWV [2,4,5,6,7,8] (aI @hn0 (aI @htd oT)) (aI cS1 oT)) ?_
 refine AX.sR (rgCV [2,4,5,6,8,9,10] (aI cX oT)) ?_
 refine AX.sR (rgWV [2,4,5,6,8,9,10,11] (aI @hlo (aI @hm2 oT)) oT) ?_
 refine AX.cut (fun st=>Le 0 id ⟨[(13,.b q.isSome),(12,.i .i64 ((q.getD 0:Nat):Int)),(11,.i .i64 more),(10,.sl (wl l)),(9,.sl (wl o)),(8,.i .i64 m),(6,.ptr 2 0),(5,.mp 1),(4,.i .i64 n),(2,.ptr 0 0)],[(3,⟨64,wl (fl S)⟩),(2,⟨25,[.own 3 0 (S).length 2]⟩),(1,⟨85,[.tab K2]⟩),(0,⟨25,[.nl]⟩)],4⟩ st) ?_ ?_
 ·cases q with
  | none=>
   replace hf2:K0.find (.s NL) K2=some none:=hf2
   refine AX.rR (rgWV [2,4,5,6,8,9,10,11,12,13] (aI @hf2 oT) (aI cN2 oT)) ?_
   exact ⟨rfl,
    leQ6
    ⟩
  | some v=>
   replace hf2:K0.find (.s NL) K2=some (some (.i .i64 v)):=hf2
   refine AX.rR (rgWV [2,4,5,6,8,9,10,11,12,13] (aI @hf2 oT) (aI cN2 oT)) ?_
   exact ⟨rfl,
    leQ6
    ⟩
 intro st hle
 refine AX.weaken id hle ?_
 clear hle
 refine AX.cut (fun st=>Le 0 id ⟨[(13,.b q.isSome),(12,.i .i64 ((q.getD (S.length+m):Nat):Int)),(11,.i .i64 more),(10,.sl (wl l)),(9,.sl (wl o)),(8,.i .i64 m),(6,.ptr 2 0),(5,.mp 1),(4,.i .i64 n),(2,.ptr 0 0)],[(3,⟨64,wl (fl S)⟩),(2,⟨25,[.own 3 0 (S).length 2]⟩),(1,⟨85,[.tab K2]⟩),(0,⟨25,[.nl]⟩)],4⟩ st) ?_ ?_
 ·cases q with
  | none=>
   refine AX.sR (rgAV [2,4,5,6,8,9,10,11,12,13,56]) ?_
   refine AX.condT ?_
   refine AX.rR (rgWV [2,4,5,6,8,9,10,11,12,13] (aI @lit_add oT) oT) ?_
   exact ⟨rfl,
    leQ6
    ⟩
  | some v=>
   refine AX.sR (rgAV [2,4,5,6,8,9,10,11,12,13,56]) ?_
   refine AX.condF ?_
   refine AX.keepA [2,4,5,6,8,9,10,11,12,13] ?_
   refine AX.skip ?_
   exact ⟨rfl,
    leQ6
    ⟩
 intro st hle
 refine AX.weaken id hle ?_
 clear hle
 have hto:q.getD (S.length+m)≤124:=by
  cases q with
  | none=>show S.length+m≤124;omega
  | some v=>have:=hqb v rfl;show v≤124;omega
 clear hqb hf1 hf2 cN1 cN2 cS1 cX hks hdv htd
 obtain ⟨to,hto2⟩:∃ to,q.getD (S.length+m)=to:=⟨_,rfl⟩
 rw [hto2] at hmk hto ⊢
 refine AX.sR (rgAV [2,4,5,6,8,9,10,11,12,13,14]) ?_
 refine AX.own0 14 3 1 rfl ?_
 refine AX.seq ?_
 refine AX.sR (rgWV [2,4,5,6,8,10,11,12,13,14,62,63,64] (aI @hlo oT) oT) ?_
 refine AX.weaken id (st':=⟨[(64,.i .i64 (0:Nat)),(63,.i .i64 o.length),(62,.sl (wl o)),(14,.own 4 0 (endsO o 0).length 1),(13,.b q.isSome),(12,.i .i64 (to:Nat)),(11,.i .i64 more),(10,.sl (wl l)),(8,.i .i64 m),(6,.ptr 2 0),(5,.mp 1),(4,.i .i64 n),(2,.ptr 0 0)],[(4,⟨3,wl (endsO o 0)⟩),(3,⟨64,wl (fl S)⟩),(2,⟨25,[.own 3 0 (S).length 2]⟩),(1,⟨85,[.tab K2]⟩),(0,⟨25,[.nl]⟩)],5⟩)
  leQ6
  ?_
 refine AX.block ?_
 refine AX.loop (fun N st=>∃ (i:Nat) (e:List Int),i≤o.length∧N=o.length-i∧endsO o i=e∧st=⟨[(64,.i .i64 i),(63,.i .i64 o.length),(62,.sl (wl o)),(14,.own 4 0 e.length 1),(13,.b q.isSome),(12,.i .i64 (to:Nat)),(11,.i .i64 more),(10,.sl (wl l)),(8,.i .i64 m),(6,.ptr 2 0),(5,.mp 1),(4,.i .i64 n),(2,.ptr 0 0)],[(4,⟨3,wl e⟩),(3,⟨64,wl (fl S)⟩),(2,⟨25,[.own 3 0 (S).length 2]⟩),(1,⟨85,[.tab K2]⟩),(0,⟨25,[.nl]⟩)],5⟩) o.length ⟨0,_,Nat.zero_le _,rfl,rfl,rfl⟩ ?_
 rintro N st ⟨i,e,hi,rfl,he,rfl⟩
 by_cases h3:i<o.length
 ·have hg:=wl_get h3
  have hb:=hob _ (getD_mem_W h3)
  have s1:=endsO_succ h3
  have le:=endsO_length hi
  rw [he] at s1 le
  have hle:=wl_length e
  generalize o.getD i 0=x at *
  have happ:=wl_app e (-1-x)
  have hlen:(e++[-1-x]).length=e.length+1:=by simp
  generalize e++[-1-x]=e2 at *
  refine AX.sR (rgAV [2,4,5,6,8,10,11,12,13,14,62,63,64,65]) ?_
  refine AX.seq ?_
  refine AX.condT ?_
  refine AX.keepA [2,4,5,6,8,10,11,12,13,14,62,63,64] ?_
  refine AX.skip ?_
  refine nmZ ?_
  refine AX.seq ?_
  refine AX.block ?_
  refine AX.sR (rgWV [2,4,5,6,8,10,11,12,13,14,16,62,63,64] (aI @hlo (aI @hg oT)) oT) ?_
  refine AX.rR (rgWV [2,4,5,6,8,10,11,12,13,14,62,63,64] (aI @hle (aI @zerosV_1 (aI @tkS (aI @tk0 oT)))) oT) ?_
  refine nmZ ?_
  rw [happ]
  refine AX.rR (rgWV [2,4,5,6,8,10,11,12,13,14,62,63,64] (aI @lit_add oT) oT) ?_
  refine nmZ ?_
  refine ⟨_,_,fun n=>if n=4 then 6 else n,?_,
   leQ6
   , ⟨i+1,e2,by omega,rfl,s1,rfl⟩⟩
  omega
 obtain rfl:i=o.length:=by omega
 refine AX.sR (rgAV [2,4,5,6,8,10,11,12,13,14,62,63,64,65]) ?_
 refine AX.seq ?_
 refine AX.condF ?_
 refine AX.exit ?_
 refine nmZ ?_
 refine AX.seq ?_
 refine AX.sR (rgAV [2,4,5,6,8,10,11,12,13,14,74,75]) ?_
 have hE0:endsO o o.length++endsM to 0=e:=by rw [he];exact List.append_nil e
 refine AX.weaken id (st':=⟨[(75,.i .i64 (0:Nat)),(74,.i .i64 more),(14,.own 4 0 e.length 1),(13,.b q.isSome),(12,.i .i64 (to:Nat)),(11,.i .i64 more),(10,.sl (wl l)),(8,.i .i64 m),(6,.ptr 2 0),(5,.mp 1),(4,.i .i64 n),(2,.ptr 0 0)],[(4,⟨3,wl e⟩),(3,⟨64,wl (fl S)⟩),(2,⟨25,[.own 3 0 (S).length 2]⟩),(1,⟨85,[.tab K2]⟩),(0,⟨25,[.nl]⟩)],5⟩)
  leQ6
  ?_
 refine AX.block ?_
 refine AX.loop (fun N st=>∃ (i:Nat) (e:List Int),i≤more∧N=more-i∧endsO o o.length++endsM to i=e∧st=⟨[(75,.i .i64 i),(74,.i .i64 more),(14,.own 4 0 e.length 1),(13,.b q.isSome),(12,.i .i64 (to:Nat)),(11,.i .i64 more),(10,.sl (wl l)),(8,.i .i64 m),(6,.ptr 2 0),(5,.mp 1),(4,.i .i64 n),(2,.ptr 0 0)],[(4,⟨3,wl e⟩),(3,⟨64,wl (fl S)⟩),(2,⟨25,[.own 3 0 (S).length 2]⟩),(1,⟨85,[.tab K2]⟩),(0,⟨25,[.nl]⟩)],5⟩) more ⟨0,_,Nat.zero_le _,rfl,hE0,rfl⟩ ?_
 clear hE0 he hi
 clear e
 rintro N st ⟨i,e,hi,rfl,he,rfl⟩
 by_cases h4:i<more
 ·have s1:endsO o o.length++endsM to (i+1)=e++[((to+i:Nat):Int)]:=by
   rw [endsM_succ,← List.append_assoc,he]
   simp
  have le:e.length=o.length+i:=by rw [← he,List.length_append,endsO_length (Nat.le_refl _),endsM_length]
  have hle:=wl_length e
  have happ:=wl_app e ((to+i:Nat):Int)
  have hlen:(e++[((to+i:Nat):Int)]).length=e.length+1:=by simp
  have hti:(to:Int)+(i:Int)=((to+i:Nat):Int):=by omega
  generalize ((to+i:Nat):Int)=ti at *
  have hti1:-9223372036854775808≤ti∧ti≤9223372036854775807:=by omega
  generalize e++[ti]=e2 at *
  refine AX.sR (rgAV [2,4,5,6,8,10,11,12,13,14,74,75,76]) ?_
  refine AX.seq ?_
  refine AX.condT ?_
  refine AX.keepA [2,4,5,6,8,10,11,12,13,14,74,75] ?_
  refine AX.skip ?_
  refine nmZ ?_
  refine AX.seq ?_
  refine AX.block ?_
  refine AX.sR (rgAV [2,4,5,6,8,10,11,12,13,14,17,74,75]) ?_
  refine AX.rR (rgWV [2,4,5,6,8,10,11,12,13,14,74,75] (aI @hti (aI @hle (aI @zerosV_1 (aI @tkS (aI @tk0 oT))))) oT) ?_
  refine nmZ ?_
  rw [happ]
  refine AX.rR (rgWV [2,4,5,6,8,10,11,12,13,14,74,75] (aI @lit_add oT) oT) ?_
  refine nmZ ?_
  refine ⟨_,_,fun n=>if n=4 then 6 else n,?_,
   leQ6
   , ⟨i+1,e2,by omega,rfl,s1,rfl⟩⟩
  omega
 obtain rfl:i=more:=by omega
 refine AX.sR (rgAV [2,4,5,6,8,10,11,12,13,14,74,75,76]) ?_
 refine AX.seq ?_
 refine AX.condF ?_
 refine AX.exit ?_
 refine nmZ ?_
 refine AX.seq ?_
 refine AX.sR (rgAV [2,4,5,6,10,11,13,14,85,86]) ?_
 have hE:endsI o to i=e:=he
 have le:e.length=2*m:=by rw [← hE,endsI_length];omega
 rw [hE] at hmk
 clear hE he hob hlo hol hto2 hto
 have hP0:S++pairsI e 0=S:=List.append_nil S
 refine AX.weaken id (st':=⟨[(86,.i .i64 (0:Nat)),(85,.i .i64 m),(14,.own 4 0 e.length 1),(13,.b q.isSome),(11,.i .i64 i),(10,.sl (wl l)),(6,.ptr 2 0),(5,.mp 1),(4,.i .i64 n),(2,.ptr 0 0)],[(4,⟨3,wl e⟩),(3,⟨64,wl (fl S)⟩),(2,⟨25,[.own 3 0 (S).length 2]⟩),(1,⟨85,[.tab K2]⟩),(0,⟨25,[.nl]⟩)],5⟩)
  leQ6
  ?_
 refine AX.block ?_
 refine AX.loop (fun N st=>∃ (j:Nat) (Sj:T2),j≤m∧N=m-j∧S++pairsI e j=Sj∧st=⟨[(86,.i .i64 j),(85,.i .i64 m),(14,.own 4 0 e.length 1),(13,.b q.isSome),(11,.i .i64 i),(10,.sl (wl l)),(6,.ptr 2 0),(5,.mp 1),(4,.i .i64 n),(2,.ptr 0 0)],[(4,⟨3,wl e⟩),(3,⟨64,wl (fl Sj)⟩),(2,⟨25,[.own 3 0 Sj.length 2]⟩),(1,⟨85,[.tab K2]⟩),(0,⟨25,[.nl]⟩)],5⟩) m ⟨0,S,Nat.zero_le _,rfl,hP0,rfl⟩ ?_
 rintro N st ⟨j,Sj,hj,rfl,hSj,rfl⟩
 by_cases h5:j<m
 ·have hg1:=wl_get (l:=e) (j:=2*j) (by omega)
  have hg2:=wl_get (l:=e) (j:=2*j+1) (by omega)
  have s1:S++pairsI e (j+1)=Sj++[(e.getD (2*j) 0,e.getD (2*j+1) 0)]:=by rw [pairsI_succ,← List.append_assoc,hSj]
  have hle:=wl_length e
  have h2j:(2:Int)*(j:Int)=((2*j:Nat):Int):=by omega
  have lSj:Sj.length≤128:=by rw [← hSj,List.length_append,pairsI_length];omega
  have hwf:=wlfl_length Sj
  generalize e.getD (2*j) 0=a at *
  generalize e.getD (2*j+1) 0=b at *
  have happ:=wl_fl Sj a b
  have hlen:(Sj++[(a,b)]).length=Sj.length+1:=by simp
  generalize Sj++[(a,b)]=S2 at *
  refine AX.sR (rgAV [2,4,5,6,10,11,13,14,85,86,87]) ?_
  refine AX.seq ?_
  refine AX.condT ?_
  refine AX.keepA [2,4,5,6,10,11,13,14,85,86] ?_
  refine AX.skip ?_
  refine nmZ ?_
  refine AX.seq ?_
  refine AX.block ?_
  refine AX.sR (rgAV [2,4,5,6,10,11,13,14,18,85,86]) ?_
  refine AX.rD (rgDEV [2,4,5,6,10,11,13,14,85,86] (aI @h2j (aI @hle (aI @hg1 (aI @hg2 (aI @hwf (aI @lit_add (aI @zerosV_1 (aI @tkS (aI @tk0 oT))))))))) oT (aI (effBd2 _ _) (aI (effBs2 _) oT))) ?_
  refine nmZ ?_
  rw [happ]
  refine AX.rR (rgWV [2,4,5,6,10,11,13,14,85,86] (aI @lit_add oT) oT) ?_
  refine nmZ ?_
  refine ⟨_,_,fun n=>if n=3 then 6 else n,?_,
   (leQ6H hlen)
   , ⟨j+1,S2,by omega,rfl,s1,rfl⟩⟩
  omega
 obtain rfl:j=m:=by omega
 refine AX.sR (rgAV [2,4,5,6,10,11,13,14,85,86,87]) ?_
 refine AX.seq ?_
 refine AX.condF ?_
 refine AX.exit ?_
 refine nmZ ?_
 rw [hSj] at hmk
 have lS2:Sj.length=S.length+j:=by rw [← hSj,List.length_append,pairsI_length]
 refine AX.seq ?_
 by_cases h6:60<Sj.length
 ·rw [if_pos h6] at hmk
  subst hmk
  refine AX.sR (rgAV [2,4,5,6,10,11,13,110]) ?_
  refine AX.condT ?_
  refine AX.sR (rgAV [2,3]) ?_
  refine AX.ret ⟨.inl rfl,?_⟩
  exact Done.smpN rfl rfl rfl
 rw [if_neg h6] at hmk
 refine AX.sR (rgAV [2,4,5,6,10,11,13,110]) ?_
 refine AX.condF ?_
 refine AX.keepA [2,4,5,6,10,11,13] ?_
 refine AX.skip ?_
 refine nmZ ?_
 refine AX.seq ?_
 have hfin:q.isSome=true∨i=0→X=some (some Sj):=fun h=>by rw [if_pos h] at hmk;exact hmk.symm
 have hgo:q.isSome=false→i≠0→mkS n k l (M++[(R,S.length)]) Sj=X:=fun h1 h2=>by
  rw [if_neg] at hmk
  ·exact hmk
  ·rw [h1]
   exact fun h=>h.elim Bool.false_ne_true h2
 cases hqs:q.isSome
 ·by_cases h7:i=0
  ·rw [hfin (.inr h7)]
   refine AX.sR (rgAV [2,4,5,6,10,116]) ?_
   refine AX.condT ?_
   refine AX.sR (rgAV [2,3]) ?_
   refine AX.ret ⟨.inl rfl,?_⟩
   exact Done.smpO rfl rfl rfl rfl rfl
  ·have hmk2:=hgo hqs h7
   refine AX.sR (rgAV [2,4,5,6,10,116]) ?_
   refine AX.condF ?_
   refine AX.keepA [2,4,5,6,10] ?_
   refine AX.skip ?_
   refine nmZ ?_
   refine AX.rR (rgAV [2,4,5,6,7]) ?_
   refine nmZ ?_
   subst hKM2
   rw [Option.isSome_eq_false_iff,Option.isNone_iff_eq_none] at hqs
   refine ⟨_,_,id,?_,
    leQ6
    , ⟨l,M++[(R,S.length)],Sj,i,hL2,by omega,hq.trans hqs,hM2,by omega,by omega,hmk2,rfl⟩⟩
   omega
 ·rw [hfin (.inl hqs)]
  refine AX.sR (rgAV [2,4,5,6,10,116]) ?_
  refine AX.condT ?_
  refine AX.sR (rgAV [2,3]) ?_
  refine AX.ret ⟨.inl rfl,?_⟩
  exact Done.smpO rfl rfl rfl rfl rfl
end Go.Proofs.YteidabibgjokkaaGreatDoor
