import Derived.Test.YteidabibgjokkaaGreatDoorMJ
import Derived.Test.YteidabibgjokkaaGreatDoorMG
set_option maxRecDepth 20000
set_option linter.all false
namespace Go.Proofs.YteidabibgjokkaaGreatDoor
open Go Go.Proofs.YteidabibgjokkaaGreatDoor.Lift
attribute [local irreducible] Lift.PCall Lift.HCall
theorem ren_cbl (f:Nat→Nat):∀ l:List Bool,V.renL f (cbl l)=cbl l
 | []=>rfl
 | a :: l=>by
  show V.renL f (V.b a :: cbl l)=V.b a :: cbl l
  simp only [V.renL,V.ren,ren_cbl f l]
theorem cbl_app (a b:List Bool):cbl a++cbl b=cbl (a++b):=by simp [cbl]
def cL (f:Nat→Int) (m n:Nat):List Int:=(List.range m).map fun j=>((cN f (wE j) n:Nat):Int)
theorem cL_length (f:Nat→Int)(m n:Nat):(wl (cL f m n)).length=m:=by rw [wl_length,cL,List.length_map,List.length_range]
theorem cL_get {f:Nat→Int} {m n j:Nat} (h:j<m):(wl (cL f m n)).getD j .junk=.i .i64 ((cN f (wE j) n:Nat):Int):=by
 unfold wl cL
 rw [List.getD_eq_getElem?_getD,List.getElem?_map,List.getElem?_map,List.getElem?_range h]
 rfl
theorem cL_zero (f:Nat→Int)(m:Nat):zerosV m [.i .i64 0]=wl (cL f m 0):=by
 have key:∀ m,zerosV m [V.i .i64 0]=List.replicate m (V.i .i64 0):=fun m=>by
  induction m with
  | zero=>rfl
  | succ m ih=>rw [zerosV_succ,ih,List.replicate_succ];rfl
 rw [key]
 apply List.ext_getElem?
 intro j
 unfold wl cL
 by_cases h:j<m
 ·rw [List.getElem?_replicate,if_pos h,List.getElem?_map,List.getElem?_map,List.getElem?_range h]
  rfl
 ·rw [List.getElem?_replicate,if_neg h,List.getElem?_eq_none (by simp;omega)]
theorem cL_set {f:Nat→Int} {m n x:Nat} (h:x<m)(hx:f n=wE x):(wl (cL f m n)).set x (.i .i64 (((cN f (wE x) n:Nat):Int)+1))=wl (cL f m (n+1)):=by
 apply List.ext_getElem?
 intro j
 unfold wl cL
 by_cases hj:j<m
 ·by_cases e:x=j
  ·subst e
   rw [List.getElem?_set_self (by simp;exact h),List.getElem?_map,List.getElem?_map,List.getElem?_range h]
   show some (V.i .i64 _)=some (V.i .i64 ((cN f (wE x) n+hit (f n) (wE x):Nat):Int))
   rw [hx,show hit (wE x) (wE x)=1 from if_pos rfl]
   rfl
  ·rw [List.getElem?_set_ne e,List.getElem?_map,List.getElem?_map,List.getElem?_map,List.getElem?_map,List.getElem?_range hj]
   show some (V.i .i64 _)=some (V.i .i64 ((cN f (wE j) n+hit (f n) (wE j):Nat):Int))
   rw [hx,show hit (wE x) (wE j)=0 from if_neg (by unfold wE;omega)]
   rfl
 ·rw [List.getElem?_eq_none (by simp;omega),List.getElem?_eq_none (by simp;omega)]
theorem cL_same {f:Nat→Int} {m n:Nat} (h:0≤f n):cL f m (n+1)=cL f m n:=by
 unfold cL
 refine List.map_congr_left fun j _=>?_
 show ((cN f (wE j) n+hit (f n) (wE j):Nat):Int)=_
 rw [show hit (f n) (wE j)=0 from if_neg (by unfold wE;omega)]
 rfl
theorem stS_ge {T:T2} {m:Nat} (hm:∀ i,i<T.length→-(T.getD i z2).1≤m∧-(T.getD i z2).2≤m)(h0:1≤T.length)(hr:∀ x ∈ T,(-64≤x.1∧x.1<T.length)∧-64≤x.2∧x.2<T.length)(n:Nat):∀ k,-stS T n k≤m
 | 0=>by
  show -(0:Int)≤m
  omega
 | k+1=>by
  have ih:=stS_ge hm h0 hr n k
  have hl:=stS_lt h0 hr n k
  rw [stS,nxS]
  split
  ·exact ih
  ·have:=hm (stS T n k).toNat (by omega)
   unfold stepC
   split
   ·exact this.2
   ·exact this.1
theorem run_n {T:T2} {m:Nat} (hS:isS T=true)(hm:∀ i,i<T.length→-(T.getD i z2).1≤m∧-(T.getD i z2).2≤m)(n k:Nat):(runV T (bitsL n k)=.tup [.i .i64 0,.i .i64 0,.i .i64 3]∧0≤stS T n k)∨∃ x u:Nat,x<m∧u≤k∧stS T n k=wE x∧runV T (bitsL n k)=.tup [.i .i64 (x:Int),.i .i64 (u:Int),.i .i64 0]:=by
 obtain ⟨h0,_,hr⟩:=isS_iff.1 hS
 have h:=run_st h0 hr n k k 0 0 (Nat.zero_add k) rfl
 unfold runV
 rw [if_pos hS]
 rw [List.drop_zero] at h
 rcases h with ⟨h1,h2⟩ | ⟨u,h1,h2,h3⟩
 ·left
  rw [h1]
  exact ⟨rfl,h2⟩
 ·right
  have hge:=stS_ge hm h0 hr n k
  obtain ⟨x,hx⟩:∃ x:Nat,-1-stS T n k=x:=⟨(-1-stS T n k).toNat,by omega⟩
  refine ⟨x,u,by omega,h1,by unfold wE;omega,?_⟩
  rw [h2,hx]
  rfl
theorem and7 (a:Int):∃ r:Nat,r≤7∧andI .i64 a 7=(r:Int):=by
 refine ⟨(BitVec.ofInt 64 a &&& BitVec.ofInt 64 7).toNat,?_,rfl⟩
 rw [BitVec.toNat_and]
 exact Nat.and_le_right
theorem cbl_hf (l:List Bool):V.hfL (cbl l)=true:=by
 induction l with
 | nil=>rfl
 | cons a l ih=>
  show V.hfL (V.b a :: cbl l)=true
  simp only [V.hfL,ih,V.hf,Bool.and_self]
theorem cbl_all (l:List Bool):((cbl l).drop 0).take (l.length*1)=cbl l:=by
 rw [List.drop_zero,Nat.mul_one]
 exact List.take_of_length_le (by rw [cbl_length];exact Nat.le_refl _)
theorem okFrz_cbl (l:List Bool):okFrz 0 l.length 1 (cbl l)=true:=by
 unfold okFrz
 rw [cbl_all,cbl_hf,cbl_length,cbl_flat]
 simp
theorem cbl_frz (l:List Bool):chunks 1 l.length (((cbl l).drop 0).take (l.length*1))=cbl l:=by
 rw [cbl_all]
 have h:=chunks_one l.length (cbl l)
 exact h
theorem shr_int {i j:Nat} (hj:j≤64):Int.fdiv (i:Int) (2 ^ min j 64)=((i / 2 ^ j:Nat):Int):=by
 have h2:(2:Int) ^ j=((2 ^ j:Nat):Int):=by rw [Int.natCast_pow];rfl
 rw [Nat.min_eq_left hj,h2,Int.fdiv_eq_ediv_of_nonneg _ (Int.natCast_nonneg _)]
 rfl
theorem and1 (s:Nat):andI .i64 (s:Int) 1=((s % 2:Nat):Int):=by
 show (((BitVec.ofInt 64 (s:Int) &&& BitVec.ofInt 64 1).toNat:Nat):Int)=_
 have e1:(BitVec.ofInt 64 (s:Int)).toNat=s % 2 ^ 64:=by rw [BitVec.toNat_ofInt];omega
 have e2:(BitVec.ofInt 64 1).toNat=1:=rfl
 rw [BitVec.toNat_and,e1,e2,Nat.and_one_is_mod,Nat.mod_mod_of_dvd _ (by decide)]
theorem leQ9 {g:Nat} {f:Nat→Nat} {st' st:St} (h1:LeFr f st.fr st'.nx st'.fr:=by simp only [ren_q,renL_u,ren_z,ren_bl,ren_il,ren_nx,ren_wl,ren_cbl,renL_id,renL_id,lt_q,ltL_u,lt_z,lt_bl,lt_il,lt_nx,lt_wl,lt_cbl,LeFr,LeHp,lkp,V.ren,V.renL,Row.ren,V.lt,V.ltL,renL_u,ltL_u,List.length_append,List.length_cons,List.length_nil,List.length_set,id_eq,Option.some.injEq,V.i.injEq,V.b.injEq,V.own.injEq,Row.mk.injEq,decide_true,decide_eq_true_eq,true_and,and_true,Bool.and_true,Bool.true_and,if_true,if_false,and_self,Nat.reduceLT,Nat.reduceLeDiff,Nat.reduceEqDiff,Nat.reduceAdd,Nat.reduceSub,Nat.reduceMul,Nat.reducePow,Nat.reduceBEq,Int.reduceLE,Int.reduceLT,Int.reduceToNat,Int.reduceEq,Int.reduceNeg,↓reduceIte,reduceCtorEq] <;> (first | done | trivial | (and_intros<;>first | trivial | omega | assumption)))
  (h2:LeHp f st.hp st'.nx st'.hp:=by simp only [ren_q,renL_u,ren_z,ren_bl,ren_il,ren_nx,ren_wl,ren_cbl,renL_id,renL_id,lt_q,ltL_u,lt_z,lt_bl,lt_il,lt_nx,lt_wl,lt_cbl,LeFr,LeHp,lkp,V.ren,V.renL,Row.ren,V.lt,V.ltL,renL_u,ltL_u,List.length_append,List.length_cons,List.length_nil,List.length_set,id_eq,Option.some.injEq,V.i.injEq,V.b.injEq,V.own.injEq,Row.mk.injEq,decide_true,decide_eq_true_eq,true_and,and_true,Bool.and_true,Bool.true_and,if_true,if_false,and_self,Nat.reduceLT,Nat.reduceLeDiff,Nat.reduceEqDiff,Nat.reduceAdd,Nat.reduceSub,Nat.reduceMul,Nat.reducePow,Nat.reduceBEq,Int.reduceLE,Int.reduceLT,Int.reduceToNat,Int.reduceEq,Int.reduceNeg,↓reduceIte,reduceCtorEq] <;> (first | done | trivial | (and_intros<;>first | trivial | omega | assumption)))
  (h3:Apart f st'.hp:=by simp [Apart]) (h4:g≤st'.nx:=by first | exact Nat.zero_le _ | simp) (h5:∀ n,n<g→f n=n:=by intro n hn;first | rfl | exact absurd hn (Nat.not_lt_zero _) | (have h0:n=0:=Nat.lt_one_iff.1 hn;subst h0;rfl)):Le g f st' st:=⟨h1,h2,h3,h4,h5⟩
theorem leQ9H {g:Nat} {f:Nat→Nat} {st' st:St} {H:Prop} (hh:H) (h1:H→LeFr f st.fr st'.nx st'.fr:=by intro hh;simp only [ren_q,renL_u,ren_z,ren_bl,ren_il,ren_nx,ren_wl,ren_cbl,renL_id,renL_id,lt_q,ltL_u,lt_z,lt_bl,lt_il,lt_nx,lt_wl,lt_cbl,LeFr,LeHp,lkp,V.ren,V.renL,Row.ren,V.lt,V.ltL,renL_u,ltL_u,List.length_append,List.length_cons,List.length_nil,List.length_set,id_eq,Option.some.injEq,V.i.injEq,V.b.injEq,V.own.injEq,Row.mk.injEq,decide_true,decide_eq_true_eq,true_and,and_true,Bool.and_true,Bool.true_and,if_true,if_false,and_self,Nat.reduceLT,Nat.reduceLeDiff,Nat.reduceEqDiff,Nat.reduceAdd,Nat.reduceSub,Nat.reduceMul,Nat.reducePow,Nat.reduceBEq,Int.reduceLE,Int.reduceLT,Int.reduceToNat,Int.reduceEq,Int.reduceNeg,↓reduceIte,reduceCtorEq] <;> (first | done | trivial | (and_intros<;>first | trivial | omega | rw [hh] | (simp only [hh];done) | assumption)))
  (h2:H→LeHp f st.hp st'.nx st'.hp:=by intro hh;simp only [ren_q,renL_u,ren_z,ren_bl,ren_il,ren_nx,ren_wl,ren_cbl,renL_id,renL_id,lt_q,ltL_u,lt_z,lt_bl,lt_il,lt_nx,lt_wl,lt_cbl,LeFr,LeHp,lkp,V.ren,V.renL,Row.ren,V.lt,V.ltL,renL_u,ltL_u,List.length_append,List.length_cons,List.length_nil,List.length_set,id_eq,Option.some.injEq,V.i.injEq,V.b.injEq,V.own.injEq,Row.mk.injEq,decide_true,decide_eq_true_eq,true_and,and_true,Bool.and_true,Bool.true_and,if_true,if_false,and_self,Nat.reduceLT,Nat.reduceLeDiff,Nat.reduceEqDiff,Nat.reduceAdd,Nat.reduceSub,Nat.reduceMul,Nat.reducePow,Nat.reduceBEq,Int.reduceLE,Int.reduceLT,Int.reduceToNat,Int.reduceEq,Int.reduceNeg,↓reduceIte,reduceCtorEq] <;> (first | done | trivial | (and_intros<;>first | trivial | omega | rw [hh] | (simp only [hh];done) | assumption)))
  (h3:Apart f st'.hp:=by simp [Apart]) (h4:g≤st'.nx:=by first | exact Nat.zero_le _ | simp) (h5:∀ n,n<g→f n=n:=by intro n hn;first | rfl | exact absurd hn (Nat.not_lt_zero _) | (have h0:n=0:=Nat.lt_one_iff.1 hn;subst h0;rfl)):Le g f st' st:=⟨h1 hh,h2 hh,h3,h4,h5⟩
theorem co_lay_i64:lay Tryz.prog 2=some ⟨1,false,8,[.i .i64 0]⟩:=by kernel_rfl
attribute [go_sem] Tryz.underlying75 co_lay_i64
set_option maxHeartbeats 16000000 in
theorem coinAll_ok (T:T2)(hb:bT T)(hl:T.length<2 ^ 62)(k:Int)(hk:-9223372036854775808≤k∧k≤9223372036854775807):PCall Tryz.prog 8 [smp T,.i .i64 k] (.b true) []:=by
 have cf:=few29_ok T hl hb
 obtain ⟨hb',hl'⟩:=fewT_bd hb hl
 have hf:=fewT_is T
 generalize fewT T=T' at *
 have hml:=nx_length T'
 have cal:=calive_ok
 obtain ⟨r,hr7,hand⟩:=and7 k
 refine PCall.of_ax Tryz.call8 Tryz.func8 rfl (by simp [Tryz.ntmps8]) fun O w=>?_
 simp only [Tryz.ntmps8,Tryz.results8,argFr]
 by_cases hg:isS T'=false∨60<exI T' T'.length
 ·obtain ⟨e,he,ck⟩:∃ e:Int,(e=1∨e=2)∧PCall Tryz.prog 19 [smp T'] (.tup [zC,.i .i64 e]) []:=by
   cases hS:isS T'
   ·exact ⟨1,.inl rfl,cchain_bad T' hS hl' hb'⟩
   ·rcases hg with h | h
    ·rw [hS] at h;cases h
    ·exact ⟨2,.inr rfl,cchain_limit T' hS h⟩
  have he':¬ e=0:=by omega
  unfold smp at *
  generalize nx T'=A' at *
  generalize nx T=A at *
  refine AX.sR (rgAV [1,2]) ?_
  refine AX.sR (rgWV [1,2] (aI @hand oT) (aI cf oT)) ?_
  refine AX.sR (rgCV [1,2,5,6] (aI ck oT)) ?_
  refine AX.seq ?_
  refine AX.sR (rgAV [1,2,5,31]) ?_
  refine AX.condT ?_
  refine AX.sR (rgCV [4] (aI cal oT)) ?_
  refine AX.ret ⟨.inl rfl,?_⟩
  exact Done.one rfl rfl rfl rfl
 have hS:isS T'=true:=by
  cases h:isS T'
  ·exact absurd (.inl h) hg
  ·rfl
 have hm60:¬ 60<exI T' T'.length:=fun h=>hg (.inr h)
 have h9:T'.length≤9:=by
  rcases hf with h | h
  ·rw [hS] at h;cases h
  ·exact h.2
 obtain ⟨h1,_,hr⟩:=isS_iff.1 hS
 obtain ⟨m,hmx⟩:∃ m,exT T'=m:=⟨_,rfl⟩
 have q:=sm9_of hS h9 hm60 hmx
 have hmI:exI T' T'.length=(m:Int):=by have:=exI_bd hr T'.length (Nat.le_refl _);rw [← hmx];unfold exT;omega
 have hge:=exI_ge T' T'.length
 rw [hmI] at hge
 have hm:=q.hm
 have ck:=cchain_walk T' hS hm60
 rw [hmx] at ck
 obtain ⟨f,hff⟩:∃ f,(fun n=>stS T' n r)=f:=⟨_,rfl⟩
 have hrn:=fun n=>run_n (m:=m) hS hge n r
 have hfn:∀ n,stS T' n r=f n:=fun n=>by rw [← hff]
 simp only [hfn] at hrn
 have hpow:2 ^ r≤2 ^ 7:=Nat.pow_le_pow_right (by decide) hr7
 have hout:∀ j,j≤r→∀ i,i<m→rL (outC T'.length (chA T') (chB T') e1 j i)≤1:=fun j hj i hi=>by
  rw [outC_cS h1 hr]
  exact hlf_len (cN_le ..) (by omega)
 have hat:∀ j,j≤r→∀ i,i<T'.length→rL (atC T'.length (chA T') e1 j i)≤1:=fun j hj i hi=>by
  rw [atC_cS h1 hr _ _ hi]
  exact hlf_len (cN_le ..) (by omega)
 have ca:=after_ok T'.length m 1 1 r (by omega) hm (chA T') (chB T') q.hC q.hA q.hB (Nat.le_refl _) (by decide) e1 (fun i _=>by unfold e1;split<;>decide +kernel) (by omega) hat hout (Nat.le_refl _) (by decide)
 have cmk:∀ i,i<m→PCall Tryz.prog 33 [.i .i64 ((cN f (wE i) (2 ^ r):Nat):Int),.i .i64 ((2 ^ r:Nat):Int)] (.tup [rV (outC T'.length (chA T') (chB T') e1 r i),.i .i64 0]) []:=fun i hi=>by
  have hle:=cN_le f (wE i) (2 ^ r)
  have h2:=Nat.two_pow_pos r
  have h:=pmake_ok ((cN f (wE i) (2 ^ r):Nat):Int) ((2 ^ r:Nat):Int) (by omega) (by omega)
  have e:outC T'.length (chA T') (chB T') e1 r i=rq false (cN f (wE i) (2 ^ r)) (2 ^ r):=by
   rw [outC_cS h1 hr,← hlf_rq,← hff]
   rfl
  rw [decide_eq_false (show ¬ ((cN f (wE i) (2 ^ r):Nat):Int)<0 by omega),decide_eq_false (show ¬ ((2 ^ r:Nat):Int)<0 by omega),Int.natAbs_natCast,Int.natAbs_natCast] at h
  rw [e]
  unfold ofV at h
  rw [if_neg (by omega)] at h
  exact h
 have csm:∀ i,i<m→PCall Tryz.prog 27 [rV (outC T'.length (chA T') (chB T') e1 r i),rV (outC T'.length (chA T') (chB T') e1 r i)] (.b true) []:=fun i hi=>psame_q (hout r (Nat.le_refl _) i hi) (by decide) (by decide)
 have crun:=fun n=>crun_ok T' (bitsL n r) hl' hb' (by rw [bitsL_length];omega)
 have cz:PCall Tryz.prog 30 [] (rR (decide ((0:Rat).num<0)) (digits (0:Rat).num.natAbs) (digits (0:Rat).den)) []:=pzero_ok
 have co:PCall Tryz.prog 31 [] (rR (decide ((1:Rat).num<0)) (digits (1:Rat).num.natAbs) (digits (1:Rat).den)) []:=pone_ok
 clear hat hout q hge hg hf hff hfn
 generalize hn:T'.length=n at *
 generalize hO:outC n (chA T') (chB T') e1 r=O' at *
 generalize atC n (chA T') e1 r=At at *
 unfold cV smp at *
 generalize (mcells n (chA T') (n*n)).map rV=Ac at *
 generalize (mcells m (chB T') (n*m)).map rV=Bc at *
 generalize nx T=A0 at *
 generalize nx T'=A at *
 refine AX.sR (rgAV [1,2]) ?_
 refine AX.sR (rgWV [1,2] (aI @hand oT) (aI cf oT)) ?_
 refine AX.sR (rgCV [1,2,5,6] (aI ck oT)) ?_
 refine AX.seq ?_
 refine AX.sR (rgAV [1,2,5,31]) ?_
 refine AX.condF ?_
 refine AX.keepA [1,2,5] ?_
 refine AX.skip ?_
 refine nmZ ?_
 refine AX.sR (rgWV [1,2,5,7] (aI @hml oT) oT) ?_
 refine AX.seq ?_
 refine AX.sR (rgAV [1,2,5,7,38,39]) ?_
 refine AX.weaken id (st':=⟨[(39,.i .i64 (0:Nat)),(38,.i .i64 n),(7,.own 2 0 n 3),(5,.ptr 1 0),(2,.ptr 0 0),(1,.i .i64 r)],[(2,⟨54,zrow n 0⟩),(1,⟨43,[.i .i64 n,.i .i64 n,.sl Ac,.i .i64 n,.i .i64 m,.sl Bc]⟩),(0,⟨25,[.sl A]⟩)],3⟩)
  leQ9
  ?_
 refine AX.block ?_
 refine AX.loop (fun N st=>∃ j:Nat,j≤n∧N=n-j∧st=⟨[(39,.i .i64 j),(38,.i .i64 n),(7,.own 2 0 n 3),(5,.ptr 1 0),(2,.ptr 0 0),(1,.i .i64 r)],[(2,⟨54,zrow n j⟩),(1,⟨43,[.i .i64 n,.i .i64 n,.sl Ac,.i .i64 n,.i .i64 m,.sl Bc]⟩),(0,⟨25,[.sl A]⟩)],3⟩) n ⟨0,Nat.zero_le _,rfl,rfl⟩ ?_
 rintro N st ⟨j,hj,rfl,rfl⟩
 by_cases h3:j<n
 ·have hl:=zrow_length hj
  have hset:=zrow_set h3
  obtain ⟨zr1,hz1⟩:∃ z,zrow n (j+1)=z:=⟨_,rfl⟩
  rw [hz1] at hset
  clear ca cmk csm crun hrn cal ck cf
  refine AX.sR (rgAV [1,2,5,7,38,39,40]) ?_
  refine AX.seq ?_
  refine AX.condT ?_
  refine AX.keepA [1,2,5,7,38,39] ?_
  refine AX.skip ?_
  refine nmZ ?_
  refine AX.seq ?_
  refine AX.block ?_
  refine AX.sR (rgAV [1,2,5,7,8,38,39]) ?_
  refine AX.rR (rgWV [1,2,5,7,38,39] (aI @hl oT) (aI cz oT)) ?_
  refine nmZ ?_
  rw [hset]
  refine AX.rR (rgWV [1,2,5,7,38,39] (aI @lit_add oT) oT) ?_
  refine nmZ ?_
  refine ⟨_,_,id,?_,
   (leQ9H hz1)
   , ⟨j+1,by omega,rfl,rfl⟩⟩
  omega
 obtain rfl:j=n:=by omega
 have hv:zrow j j=qrow (vl j fun _=>0):=by rw [zrow_full];congr 1;exact vl_zero j
 rw [hv]
 have hset:=vl_set3 (n:=j) (k:=0) (fun _=>0) 1 (by omega)
 have he:(vl j fun k'=>if k'=0 then (1:Rat) else (fun _=>0) k')=vl j e1:=rfl
 rw [he] at hset
 have hl:=vl_len3 j fun _=>0
 have hl1:(vl j e1).length=j:=vl_length ..
 have hol:((vl m O').map rV).length=m:=by rw [List.length_map,vl_length]
 have hixO:=fun (i:Nat) (hi:i<m)=>fun x y=>effIxL (x:=x) (y:=y) O' hi
 generalize vl j e1=xs at *
 generalize vl j (fun _=>0)=zs at *
 generalize (vl j At).map rV=Atc at *
 generalize (vl m O').map rV=Oc at *
 refine AX.sR (rgAV [1,2,5,7,38,39,40]) ?_
 refine AX.seq ?_
 refine AX.condF ?_
 refine AX.exit ?_
 refine nmZ ?_
 refine AX.sR (rgWV [1,2,5,7] (aI @hl oT) (aI co oT)) ?_
 simp only [Nat.zero_mul,Nat.zero_add,Nat.reduceAdd] at hset
 rw [hset]
 refine AX.fz 2 (fr':=[(7,.sl (xs.map rV)),(5,.ptr 1 0),(2,.ptr 0 0),(1,.i .i64 r)]) (hp':=[(1,⟨43,[.i .i64 j,.i .i64 j,.sl Ac,.i .i64 j,.i .i64 m,.sl Bc]⟩),(0,⟨25,[.sl A]⟩)]) rfl (hf_q _) (.cons rfl (.own (by have:=okFrz_q xs;rw [hl1] at this;exact this) (by have h1:=take_q xs;have h2:=chunks_q xs;rw [hl1] at h1 h2;rw [h1,h2])) (.cons rfl .same (.cons rfl .same (.cons rfl .same .nil)))) (.keep (by decide) rfl (.keep (by decide) rfl .nil)) ?_
 refine AX.sR (rgCV [1,2,6,10] (aI ca oT)) ?_
 refine AX.seq ?_
 refine AX.sR (rgAV [1,2,10,59]) ?_
 refine AX.condF ?_
 refine AX.keepA [1,2,10] ?_
 refine AX.skip ?_
 refine nmZ ?_
 refine AX.sR (rgWV [1,2,10,11] (aI @hol oT) oT) ?_
 refine AX.seq ?_
 refine AX.sR (rgAV [1,2,10,11,12]) ?_
 have hz0:=cL_zero f m
 rw [zerosV_one] at hz0
 generalize hP:2 ^ r=P at *
 have hsh:(1:Int)*2 ^ min r 64=(P:Int):=by
  rw [Nat.min_eq_left (by omega),Int.one_mul,← hP,Int.natCast_pow]
  rfl
 refine AX.weaken id (st':=⟨[(12,.i .i64 (0:Nat)),(11,.own 3 0 m 1),(10,.sl Oc),(2,.ptr 0 0),(1,.i .i64 r)],[(3,⟨2,wl (cL f m 0)⟩),(0,⟨25,[.sl A]⟩)],4⟩)
  (leQ9H hz0)
  ?_
 clear ca ck cf hS hb hb' cz co hz0
 refine AX.block ?_
 refine AX.loop (fun N st=>∃ (i:Nat) (us:List Int),i≤P∧N=P-i∧cL f m i=us∧st=⟨[(12,.i .i64 i),(11,.own 3 0 m 1),(10,.sl Oc),(2,.ptr 0 0),(1,.i .i64 r)],[(3,⟨2,wl us⟩),(0,⟨25,[.sl A]⟩)],4⟩) P ⟨0,_,Nat.zero_le _,rfl,rfl,rfl⟩ ?_
 rintro N st ⟨i,us,hi,rfl,hus,rfl⟩
 have hul:(wl us).length=m:=by rw [← hus,cL_length]
 by_cases h4:i<P
 ·refine AX.seq ?_
  refine AX.sR (rgWV [1,2,10,11,12,67] (aI @hsh oT) oT) ?_
  refine AX.condT ?_
  refine AX.keepA [1,2,10,11,12] ?_
  refine AX.skip ?_
  refine nmZ ?_
  refine AX.seq ?_
  refine AX.block ?_
  refine AX.sR (rgAV [1,2,10,11,12,13]) ?_
  refine AX.own0 13 4 1 rfl ?_
  refine AX.seq ?_
  refine AX.sR (rgAV [1,2,10,11,12,13,14]) ?_
  refine AX.weaken id (st':=⟨[(14,.i .i64 (0:Nat)),(13,.own 4 0 (bitsL i 0).length 1),(12,.i .i64 i),(11,.own 3 0 m 1),(10,.sl Oc),(2,.ptr 0 0),(1,.i .i64 r)],[(4,⟨4,cbl (bitsL i 0)⟩),(3,⟨2,wl us⟩),(0,⟨25,[.sl A]⟩)],5⟩)
   leQ9
   ?_
  refine AX.block ?_
  refine AX.loop (fun N st=>∃ (j:Nat) (bs:List Bool),j≤r∧N=r-j∧bitsL i j=bs∧st=⟨[(14,.i .i64 j),(13,.own 4 0 bs.length 1),(12,.i .i64 i),(11,.own 3 0 m 1),(10,.sl Oc),(2,.ptr 0 0),(1,.i .i64 r)],[(4,⟨4,cbl bs⟩),(3,⟨2,wl us⟩),(0,⟨25,[.sl A]⟩)],5⟩) r ⟨0,_,Nat.zero_le _,rfl,rfl,rfl⟩ ?_
  rintro N st ⟨j,bs,hj,rfl,hbs,rfl⟩
  by_cases h5:j<r
  ·have hs1:=shr_int (i:=i) (j:=j) (by omega)
   have hbl:bs.length=j:=by rw [← hbs,bitsL_length]
   have hs2:=and1 (i / 2 ^ j)
   have hlt:i / 2 ^ j≤128:=Nat.le_trans (Nat.div_le_self ..) (by omega)
   have hm2:i / 2 ^ j % 2≤1:=by omega
   have hs3:decide (((i / 2 ^ j % 2:Nat):Int)=1)=i.testBit j:=by
    rw [Nat.testBit_eq_decide_div_mod_eq]
    exact decide_eq_decide.2 (by omega)
   have happ:cbl bs++[.b (i.testBit j)]=cbl (bitsL i (j+1)):=by
    rw [bitsL_succ,hbs,← cbl_app]
    rfl
   obtain ⟨bs2,hb2⟩:∃ x,bitsL i (j+1)=x:=⟨_,rfl⟩
   have hl2:bs2.length=bs.length+1:=by rw [← hb2,bitsL_length,hbl]
   rw [hb2] at happ
   have hlc:=cbl_length bs
   generalize i / 2 ^ j % 2=s2 at *
   generalize i / 2 ^ j=s1 at *
   generalize i.testBit j=bt at *
   refine AX.seq ?_
   refine AX.sR (rgAV [1,2,10,11,12,13,14,72]) ?_
   refine AX.condT ?_
   refine AX.keepA [1,2,10,11,12,13,14] ?_
   refine AX.skip ?_
   refine nmZ ?_
   refine AX.seq ?_
   refine AX.block ?_
   refine AX.rR (rgWV [1,2,10,11,12,13,14] (aI @hs1 (aI @hs2 (aI @hs3 (aI @hlc (aI @zerosV_1 (aI @tkS (aI @tk0 oT))))))) oT) ?_
   refine nmZ ?_
   rw [happ]
   refine AX.rR (rgWV [1,2,10,11,12,13,14] (aI @lit_add oT) oT) ?_
   refine nmZ ?_
   refine ⟨_,_,fun n=>if n=4 then 6 else n,?_,
    (leQ9H hl2)
    , ⟨j+1,bs2,by omega,rfl,hb2,rfl⟩⟩
   omega
  ·obtain rfl:j=r:=by omega
   have cr:=crun i
   rw [hbs] at cr
   have hri:=hrn i
   rw [hbs] at hri
   clear crun hrn
   have hbl:bs.length=j:=by rw [← hbs,bitsL_length]
   refine AX.seq ?_
   refine AX.sR (rgAV [1,2,10,11,12,13,14,72]) ?_
   refine AX.condF ?_
   refine AX.exit ?_
   refine nmZ ?_
   refine AX.fz 4 (fr':=[(13,.sl (cbl bs)),(12,.i .i64 i),(11,.own 3 0 m 1),(10,.sl Oc),(2,.ptr 0 0),(1,.i .i64 j)]) (hp':=[(3,⟨2,wl us⟩),(0,⟨25,[.sl A]⟩)]) rfl (cbl_hf bs) (.cons rfl (.own (okFrz_cbl bs) (by rw [cbl_frz])) (.cons rfl .same (.cons rfl .same (.cons rfl .same (.cons rfl .same (.cons rfl .same .nil)))))) (.keep (by decide) rfl (.keep (by decide) rfl .nil)) ?_
   rcases hri with ⟨e1,e2⟩ | ⟨x,u,hx,hu,e2,e1⟩
   ·rw [e1] at cr
    have hus2:cL f m (i+1)=us:=by rw [cL_same e2];exact hus
    refine AX.sR (rgCV [1,2,10,11,12,15,16,17] (aI cr oT)) ?_
    refine AX.seq ?_
    refine AX.sR (rgAV [1,2,10,11,12,15,17,107]) ?_
    refine AX.condF ?_
    refine AX.keepA [1,2,10,11,12,15,17] ?_
    refine AX.skip ?_
    refine nmZ ?_
    refine AX.sR (rgAV [1,2,10,11,12,15,109]) ?_
    refine AX.condF ?_
    refine AX.keepA [1,2,10,11,12] ?_
    refine AX.skip ?_
    refine nmZ ?_
    refine AX.rR (rgWV [1,2,10,11,12] (aI @lit_add oT) oT) ?_
    refine nmZ ?_
    refine ⟨_,_,id,?_,
     leQ9
     , ⟨i+1,us,by omega,rfl,hus2,rfl⟩⟩
    omega
   ·rw [e1] at cr
    have hg:=cL_get (f:=f) (n:=i) hx
    have hst:=cL_set hx e2
    have hcn:=cN_le f (wE x) i
    rw [hus] at hg hst
    generalize cN f (wE x) i=cc at *
    obtain ⟨us2,hu2⟩:∃ y,cL f m (i+1)=y:=⟨_,rfl⟩
    rw [hu2] at hst
    have hxm:¬ (m:Int)≤(x:Int):=by omega
    have huj:¬ (u:Int) > (j:Int):=by omega
    refine AX.sR (rgCV [1,2,10,11,12,15,16,17] (aI cr oT)) ?_
    refine AX.seq ?_
    refine AX.sR (rgAV [1,2,10,11,12,15,17,107]) ?_
    refine AX.condF ?_
    refine AX.keepA [1,2,10,11,12,15,17] ?_
    refine AX.skip ?_
    refine nmZ ?_
    refine AX.sR (rgAV [1,2,10,11,12,15,109]) ?_
    refine AX.condT ?_
    refine AX.rR (rgWV [1,2,10,11,12] (aI @hul (aI @hg oT)) oT) ?_
    refine nmZ ?_
    rw [hst]
    refine AX.rR (rgWV [1,2,10,11,12] (aI @lit_add oT) oT) ?_
    refine nmZ ?_
    refine ⟨_,_,id,?_,
     leQ9
     , ⟨i+1,us2,by omega,rfl,hu2,rfl⟩⟩
    omega
 obtain rfl:i=P:=by omega
 clear crun hrn
 refine AX.seq ?_
 refine AX.sR (rgWV [1,2,10,11,12,67] (aI @hsh oT) oT) ?_
 refine AX.condF ?_
 refine AX.exit ?_
 refine nmZ ?_
 refine AX.seq ?_
 refine AX.sR (rgWV [1,10,11,117,118] (aI @hol oT) oT) ?_
 refine AX.weaken id (st':=⟨[(118,.i .i64 (0:Nat)),(117,.i .i64 m),(11,.own 3 0 m 1),(10,.sl Oc),(1,.i .i64 r)],[(3,⟨2,wl us⟩)],4⟩)
  leQ9
  ?_
 refine AX.block ?_
 refine AX.loop (fun N st=>∃ (j:Nat),j≤m∧N=m-j∧st=⟨[(118,.i .i64 j),(117,.i .i64 m),(11,.own 3 0 m 1),(10,.sl Oc),(1,.i .i64 r)],[(3,⟨2,wl us⟩)],4⟩) m ⟨0,Nat.zero_le _,rfl,rfl⟩ ?_
 rintro N st ⟨j,hj,rfl,rfl⟩
 by_cases h5:j<m
 ·have hix:=hixO j h5
  have hg:=cL_get (f:=f) (n:=i) h5
  have c1:=cmk j h5
  have c2:=csm j h5
  have hcn:=cN_le f (wE j) i
  rw [hus] at hg
  generalize cN f (wE j) i=cc at *
  generalize O' j=Q at *
  clear cmk csm hixO
  unfold rV rR at *
  refine AX.sR (rgAV [1,10,11,117,118,119]) ?_
  refine AX.seq ?_
  refine AX.condT ?_
  refine AX.keepA [1,10,11,117,118] ?_
  refine AX.skip ?_
  refine nmZ ?_
  refine AX.seq ?_
  refine AX.block ?_
  refine AX.sR (rgAV [1,10,11,18,117,118]) ?_
  refine AX.sR (rgWV [1,10,11,18,19,117,118] (aI @hsh (aI @hul (aI @hg oT))) (aI c1 oT)) ?_
  refine AX.sD (rgDEV [1,10,11,117,118,138] (aI @hol oT) (aI c2 oT) (aI hix oT)) ?_
  refine AX.condF ?_
  refine AX.keepA [1,10,11,117,118] ?_
  refine AX.skip ?_
  refine nmZ ?_
  refine AX.rR (rgWV [1,10,11,117,118] (aI @lit_add oT) oT) ?_
  refine nmZ ?_
  refine ⟨_,_,id,?_,
   leQ9
   , ⟨j+1,by omega,rfl,rfl⟩⟩
  omega
 ·obtain rfl:j=m:=by omega
  refine AX.sR (rgAV [1,10,11,117,118,119]) ?_
  refine AX.seq ?_
  refine AX.condF ?_
  refine AX.exit ?_
  refine nmZ ?_
  refine AX.sR (rgCV [4] (aI cal oT)) ?_
  refine AX.ret ⟨.inl rfl,?_⟩
  exact Done.one rfl rfl rfl rfl
end Go.Proofs.YteidabibgjokkaaGreatDoor
