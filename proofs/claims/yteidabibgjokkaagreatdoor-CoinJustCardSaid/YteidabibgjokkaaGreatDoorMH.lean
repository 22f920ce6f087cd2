import Derived.Test.YteidabibgjokkaaGreatDoorMG
set_option maxRecDepth 20000
set_option linter.all false
namespace Go.Proofs.YteidabibgjokkaaGreatDoor
open Go Go.Proofs.YteidabibgjokkaaGreatDoor.Lift
attribute [local irreducible] Lift.PCall Lift.HCall
def ul (N:Nat) (e:Nat→Nat):List Int:=(List.range N).map fun i=>((e i:Nat):Int)
theorem ul_len (N:Nat)(e:Nat→Nat):(ul N e).length=N:=by rw [ul,List.length_map,List.length_range]
theorem ul_length (N:Nat)(e:Nat→Nat):(wl (ul N e)).length=N:=by rw [wl_length,ul_len]
theorem ul_get {N j:Nat} {e:Nat→Nat} (h:j<N):(wl (ul N e)).getD j .junk=.i .i64 ((e j:Nat):Int):=by
 unfold wl ul
 rw [List.getD_eq_getElem?_getD,List.getElem?_map,List.getElem?_map,List.getElem?_range h]
 rfl
theorem ul_succ (N:Nat)(e:Nat→Nat):wl (ul N e)++[.i .i64 ((e N:Nat):Int)]=wl (ul (N+1) e):=by
 unfold wl ul
 rw [List.range_succ,List.map_append,List.map_append]
 rfl
theorem ul_congr {N:Nat} {e e':Nat→Nat} (h:∀ i,i<N→e i=e' i):ul N e=ul N e':=by
 unfold ul
 exact List.map_congr_left fun i hi=>by rw [h i (by simpa using hi)]
theorem ul_zero (m:Nat):zerosV m [.i .i64 0]=wl (ul m fun _=>0):=by
 induction m with
 | zero=>rfl
 | succ m ih=>
  have e:wl (ul (m+1) fun _=>0)=.i .i64 0 :: wl (ul m fun _=>0):=by
   unfold wl ul
   rw [List.range_succ_eq_map]
   simp
  rw [zerosV_succ,ih,e]
  rfl
def pre (i:Nat) (e:Nat→Nat) (j:Nat):Nat:=if j<i then e j else 0
theorem pre_zero (N:Nat)(e:Nat→Nat):ul N (fun _=>0)=ul N (pre 0 e):=ul_congr fun j _=>(if_neg (Nat.not_lt_zero _)).symm
theorem pre_full (N:Nat)(e:Nat→Nat):ul N (pre N e)=ul N e:=ul_congr fun j hj=>if_pos hj
theorem pre_same {N i:Nat} {e:Nat→Nat} (h:e i=0):ul N (pre (i+1) e)=ul N (pre i e):=ul_congr fun j _=>by
 unfold pre
 by_cases hj:j=i
 ·subst hj
  rw [if_pos (Nat.lt_succ_self _),if_neg (Nat.lt_irrefl _),h]
 ·by_cases h2:j<i
  ·rw [if_pos h2,if_pos (by omega)]
  ·rw [if_neg h2,if_neg (by omega)]
theorem pre_set {N i:Nat} {e:Nat→Nat} (hi:i<N):(wl (ul N (pre i e))).set i (.i .i64 ((e i:Nat):Int))=wl (ul N (pre (i+1) e)):=by
 apply List.ext_getElem?
 intro j
 unfold wl ul
 by_cases hj:j<N
 ·by_cases e1:i=j
  ·subst e1
   rw [List.getElem?_set_self (by simp;exact hi),List.getElem?_map,List.getElem?_map,List.getElem?_range hi]
   show some (V.i .i64 _)=some (V.i .i64 ((pre (i+1) e i:Nat):Int))
   unfold pre
   rw [if_pos (Nat.lt_succ_self _)]
  ·rw [List.getElem?_set_ne e1,List.getElem?_map,List.getElem?_map,List.getElem?_map,List.getElem?_map,List.getElem?_range hj]
   show some (V.i .i64 ((pre i e j:Nat):Int))=some (V.i .i64 ((pre (i+1) e j:Nat):Int))
   unfold pre
   by_cases h2:j<i
   ·rw [if_pos h2,if_pos (by omega)]
   ·rw [if_neg h2,if_neg (by omega)]
 ·rw [List.getElem?_eq_none (by simp;omega),List.getElem?_eq_none (by simp;omega)]
def bN (e:Nat→Nat):Nat→Nat
 | 0=>0
 | i+1=>bN e i*2+e i
theorem bN_le {e:Nat→Nat} {N:Nat} (he:∀ i,i<N→e i≤1001):∀ i,i≤N→bN e i+1001≤1001*2 ^ i
 | 0,_=>by
  show 0+1001≤1001*1
  decide
 | i+1,h=>by
  have ih:=bN_le he i (by omega)
  have:=he i (by omega)
  rw [bN,Nat.pow_succ]
  omega
theorem bN_sum (e:Nat→Nat):∀ i,((bN e i:Nat):Rat)*hlf i=sumN i fun j=>((e j:Nat):Rat)*hlf (j+1)
 | 0=>Rat.zero_mul _
 | i+1=>by
  have ih:=bN_sum e i
  rw [sumN_succ,← ih,bN,hlf]
  push_cast
  grind
theorem pow32 (a K:Nat)(h:K<32*a):2 ^ K<4294967296 ^ a:=by
 rw [show 4294967296=2 ^ 32 from rfl,← Nat.pow_mul]
 exact Nat.pow_lt_pow_right (by decide) h
theorem pow_len {x i:Nat} (h:x≤2 ^ i*1024)(hi:i≤1001):(digits x).length≤32:=by
 refine digits_length_le (Nat.lt_of_le_of_lt h ?_)
 rw [show (1024:Nat)=2 ^ 10 from rfl,← Nat.pow_add]
 exact pow32 32 _ (by omega)
def belQ (N:Nat) (e:Nat→Nat):Rat:=sumN N fun j=>((e j:Nat):Rat)*hlf (j+1)
theorem belQ_rq (N:Nat)(e:Nat→Nat):belQ N e=rq false (bN e N) (2 ^ N):=by
 rw [← hlf_rq]
 exact (bN_sum e N).symm
theorem belQ_len {N:Nat} {e:Nat→Nat} (hN:N≤1001)(he:∀ i,i<N→e i≤1001):rL (belQ N e)≤32:=by
 have h:=bN_le he N (Nat.le_refl _)
 rw [belQ_rq]
 exact rL_rq (pow_len (i:=N) (by omega) hN) (pow_len (i:=N) (by omega) hN) (by decide)
set_option maxHeartbeats 16000000 in
theorem below_ok (N:Nat)(e:Nat→Nat)(hN:N≤1001)(he:∀ i,i<N→e i≤1001):PCall Tryz.prog 115 [.sl (wl (ul N e))] (rV (belQ N e)) []:=by
 have z0:PCall Tryz.prog 113 [.i .u64 0] (dg (digits 0)) []:=of_ok 0 (by decide)
 have z1:PCall Tryz.prog 113 [.i .u64 1] (dg (digits 1)) []:=of_ok 1 (by decide)
 have z2:PCall Tryz.prog 113 [.i .u64 2] (dg (digits 2)) []:=of_ok 2 (by decide)
 have hw:=ul_length N e
 have hb:=bN_le he
 have l2:(digits 2).length≤32:=digits_length_le (by decide)
 have cof:=qof_ok false (digits (bN e N)) (digits (2 ^ N)) (Dg_digits _) (Dg_digits _) (Nat.lt_of_le_of_lt (pow_len (i:=N) (by have:=hb N (Nat.le_refl _);omega) hN) (by decide)) (Nat.lt_of_le_of_lt (pow_len (i:=N) (by omega) hN) (by decide))
 rw [val_digits,val_digits] at cof
 unfold ofV at cof
 rw [if_neg (Nat.ne_of_gt (Nat.two_pow_pos N)),← belQ_rq] at cof
 generalize belQ N e=Q at *
 refine PCall.of_ax Tryz.call115 Tryz.func115 rfl (by simp [Tryz.ntmps115]) fun O w=>?_
 simp only [Tryz.ntmps115,Tryz.results115,argFr]
 obtain ⟨d2,hd2⟩:∃ d,digits 2=d:=⟨_,rfl⟩
 refine AX.sR (rgAV [0,2]) ?_
 refine AX.sR (rgCV [0,2,3,4,5] (aI z0 (aI z1 (aI z2 oT)))) ?_
 refine AX.seq ?_
 refine AX.sR (rgWV [2,3,4,5,13,14,15] (aI @hw oT) oT) ?_
 refine AX.weaken id (st':=⟨[(15,.i .i64 (0:Nat)),(14,.i .i64 N),(13,.sl (wl (ul N e))),(5,dg d2),(4,dg (digits (2 ^ 0))),(3,dg (digits (bN e 0))),(2,.ptr 0 0)],[(0,⟨54,[.b false,.nl,.nl]⟩)],1⟩)
  (leQ7H hd2)
  ?_
 refine AX.block ?_
 refine AX.loop (fun M st=>∃ (i:Nat) (a b:List Nat),i≤N∧M=N-i∧digits (bN e i)=a∧digits (2 ^ i)=b∧st=⟨[(15,.i .i64 i),(14,.i .i64 N),(13,.sl (wl (ul N e))),(5,dg d2),(4,dg b),(3,dg a),(2,.ptr 0 0)],[(0,⟨54,[.b false,.nl,.nl]⟩)],1⟩) N ⟨0,_,_,Nat.zero_le _,rfl,rfl,rfl,rfl⟩ ?_
 rintro M st ⟨i,a,b,hi,rfl,ha,hb2,rfl⟩
 by_cases h1:i<N
 ·have hg:=ul_get (e:=e) h1
  have he1:=he i h1
  have hbi:=hb i hi
  have hb1:=hb (i+1) h1
  have lb:(digits (bN e i)).length≤32:=pow_len (i:=i) (by omega) (by omega)
  have lp:(digits (2 ^ i)).length≤32:=pow_len (i:=i) (by omega) (by omega)
  have lm:(digits (bN e i*2)).length≤32:=pow_len (i:=i+1) (by rw [bN] at hb1;omega) (by omega)
  have le1:(digits (e i)).length≤32:=pow_len (i:=0) (by omega) (by omega)
  have c1:PCall Tryz.prog 85 [dg (digits (bN e i)),dg (digits 2)] (dg (digits (bN e i*2))) []:=mul_n (bN e i) 2 (by omega) (by omega)
  have c2:PCall Tryz.prog 113 [.i .u64 (e i)] (dg (digits (e i))) []:=of_ok (e i) (by omega)
  have c3:PCall Tryz.prog 86 [dg (digits (bN e i*2)),dg (digits (e i))] (dg (digits (bN e i*2+e i))) []:=add_n (bN e i*2) (e i) (by omega) (by omega)
  have c4:PCall Tryz.prog 85 [dg (digits (2 ^ i)),dg (digits 2)] (dg (digits (2 ^ i*2))) []:=mul_n (2 ^ i) 2 (by omega) (by omega)
  have e3:bN e i*2+e i=bN e (i+1):=rfl
  have e4:2 ^ i*2=2 ^ (i+1):=rfl
  rw [e3] at c3
  rw [e4] at c4
  obtain ⟨a',ha'⟩:∃ d,digits (bN e (i+1))=d:=⟨_,rfl⟩
  obtain ⟨b',hb'⟩:∃ d,digits (2 ^ (i+1))=d:=⟨_,rfl⟩
  rw [ha,hd2] at c1
  rw [ha'] at c3
  rw [hb2,hd2,hb'] at c4
  generalize digits (bN e i*2)=u1 at *
  generalize digits (e i)=u2 at *
  clear hb hb1 hbi e3 e4 lm lb lp le1 cof z0 z1 z2 ha hb2 hd2
  generalize e i=ei at *
  generalize wl (ul N e)=A at *
  refine AX.sR (rgAV [2,3,4,5,13,14,15,16]) ?_
  refine AX.seq ?_
  refine AX.condT ?_
  refine AX.keepA [2,3,4,5,13,14,15] ?_
  refine AX.skip ?_
  refine nmZ ?_
  refine AX.seq ?_
  refine AX.block ?_
  refine AX.sR (rgWV [2,3,4,5,7,13,14,15] (aI @hw (aI @hg oT)) oT) ?_
  refine AX.sR (rgCV [2,3,4,5,13,14,15] (aI c1 (aI c2 (aI c3 oT)))) ?_
  refine AX.rR (rgCV [2,3,4,5,13,14,15] (aI c4 oT)) ?_
  refine nmZ ?_
  refine AX.rR (rgWV [2,3,4,5,13,14,15] (aI @lit_add oT) oT) ?_
  refine nmZ ?_
  refine ⟨_,_,id,?_,
   leQ7
   , ⟨i+1,a',b',by omega,rfl,ha',hb',rfl⟩⟩
  omega
 ·obtain rfl:i=N:=by omega
  rw [ha,hb2] at cof
  generalize wl (ul i e)=A at *
  refine AX.sR (rgAV [2,3,4,5,13,14,15,16]) ?_
  refine AX.seq ?_
  refine AX.condF ?_
  refine AX.exit ?_
  refine nmZ ?_
  refine AX.sR (rgCV [2,8] (aI cof oT)) ?_
  refine AX.sR (rgAV [2]) ?_
  refine AX.ret ⟨.inl rfl,?_⟩
  exact Done.cell rfl rfl
theorem Lift.DoneG.cellW {st:St} {a:Tmp} {h:Nat} {T T0:TypeId} {s:Bool} {x y:List Nat} {l:List Int} (h1:lkp st.fr a=some (.ptr h 0))(h2:lkp st.hp h=some ⟨T,[.b s,dg x,dg y]⟩)(h3:lkp st.hp 0=some ⟨T0,wl l⟩):DoneG Tryz.prog #[.cell a 54] (.agg [.b s,dg x,dg y]) [⟨T0,wl l⟩] st:=by
 refine ⟨[.agg [.b s,dg x,dg y]],?_,rfl,rfl,rfl,fun n hn=>?_⟩
 ·simp only [resVs,resV,h1,h2,lay_ratio];rfl
 ·obtain rfl:n=0:=by simpa using hn
  exact ⟨h3,lt_wl _ _,ren_wl _ _⟩
set_option maxHeartbeats 16000000 in
theorem below_g (N:Nat)(e:Nat→Nat)(hN:N≤1001)(he:∀ i,i<N→e i≤1001):GCall Tryz.prog 115 [.own 0 0 N 1] [⟨3,wl (ul N e)⟩] [⟨3,wl (ul N e)⟩] (rV (belQ N e)):=by
 have z0:PCall Tryz.prog 113 [.i .u64 0] (dg (digits 0)) []:=of_ok 0 (by decide)
 have z1:PCall Tryz.prog 113 [.i .u64 1] (dg (digits 1)) []:=of_ok 1 (by decide)
 have z2:PCall Tryz.prog 113 [.i .u64 2] (dg (digits 2)) []:=of_ok 2 (by decide)
 have hw:=ul_length N e
 have hb:=bN_le he
 have l2:(digits 2).length≤32:=digits_length_le (by decide)
 have cof:=qof_ok false (digits (bN e N)) (digits (2 ^ N)) (Dg_digits _) (Dg_digits _) (Nat.lt_of_le_of_lt (pow_len (i:=N) (by have:=hb N (Nat.le_refl _);omega) hN) (by decide)) (Nat.lt_of_le_of_lt (pow_len (i:=N) (by omega) hN) (by decide))
 rw [val_digits,val_digits] at cof
 unfold ofV at cof
 rw [if_neg (Nat.ne_of_gt (Nat.two_pow_pos N)),← belQ_rq] at cof
 generalize belQ N e=Q at *
 refine GCall.of_ax rfl Tryz.call115 Tryz.func115 rfl (by simp [Tryz.ntmps115]) fun O M w G=>?_
 simp only [Tryz.ntmps115,Tryz.results115,argFr]
 obtain ⟨d2,hd2⟩:∃ d,digits 2=d:=⟨_,rfl⟩
 refine AX.sR (rgAV [0,2]) ?_
 refine AX.sR (rgCV [0,2,3,4,5] (aI z0 (aI z1 (aI z2 oT)))) ?_
 refine AX.seq ?_
 refine AX.sR (rgWV [2,3,4,5,13,14,15] (aI @hw oT) oT) ?_
 refine AX.weaken id (st':=⟨[(15,.i .i64 (0:Nat)),(14,.i .i64 N),(13,.own 0 0 N 1),(5,dg d2),(4,dg (digits (2 ^ 0))),(3,dg (digits (bN e 0))),(2,.ptr 1 0)],[(1,⟨54,[.b false,.nl,.nl]⟩),(0,⟨3,wl (ul N e)⟩)],2⟩)
  (leQ7H hd2)
  ?_
 refine AX.block ?_
 refine AX.loop (fun M st=>∃ (i:Nat) (a b:List Nat),i≤N∧M=N-i∧digits (bN e i)=a∧digits (2 ^ i)=b∧st=⟨[(15,.i .i64 i),(14,.i .i64 N),(13,.own 0 0 N 1),(5,dg d2),(4,dg b),(3,dg a),(2,.ptr 1 0)],[(1,⟨54,[.b false,.nl,.nl]⟩),(0,⟨3,wl (ul N e)⟩)],2⟩) N ⟨0,_,_,Nat.zero_le _,rfl,rfl,rfl,rfl⟩ ?_
 rintro M st ⟨i,a,b,hi,rfl,ha,hb2,rfl⟩
 by_cases h1:i<N
 ·have hg:=ul_get (e:=e) h1
  have he1:=he i h1
  have hbi:=hb i hi
  have hb1:=hb (i+1) h1
  have lb:(digits (bN e i)).length≤32:=pow_len (i:=i) (by omega) (by omega)
  have lp:(digits (2 ^ i)).length≤32:=pow_len (i:=i) (by omega) (by omega)
  have lm:(digits (bN e i*2)).length≤32:=pow_len (i:=i+1) (by rw [bN] at hb1;omega) (by omega)
  have le1:(digits (e i)).length≤32:=pow_len (i:=0) (by omega) (by omega)
  have c1:PCall Tryz.prog 85 [dg (digits (bN e i)),dg (digits 2)] (dg (digits (bN e i*2))) []:=mul_n (bN e i) 2 (by omega) (by omega)
  have c2:PCall Tryz.prog 113 [.i .u64 (e i)] (dg (digits (e i))) []:=of_ok (e i) (by omega)
  have c3:PCall Tryz.prog 86 [dg (digits (bN e i*2)),dg (digits (e i))] (dg (digits (bN e i*2+e i))) []:=add_n (bN e i*2) (e i) (by omega) (by omega)
  have c4:PCall Tryz.prog 85 [dg (digits (2 ^ i)),dg (digits 2)] (dg (digits (2 ^ i*2))) []:=mul_n (2 ^ i) 2 (by omega) (by omega)
  have e3:bN e i*2+e i=bN e (i+1):=rfl
  have e4:2 ^ i*2=2 ^ (i+1):=rfl
  rw [e3] at c3
  rw [e4] at c4
  obtain ⟨a',ha'⟩:∃ d,digits (bN e (i+1))=d:=⟨_,rfl⟩
  obtain ⟨b',hb'⟩:∃ d,digits (2 ^ (i+1))=d:=⟨_,rfl⟩
  rw [ha,hd2] at c1
  rw [ha'] at c3
  rw [hb2,hd2,hb'] at c4
  generalize digits (bN e i*2)=u1 at *
  generalize digits (e i)=u2 at *
  clear hb hb1 hbi e3 e4 lm lb lp le1 cof z0 z1 z2 ha hb2 hd2
  generalize e i=ei at *
  generalize ul N e=A at *
  refine AX.sR (rgAV [2,3,4,5,13,14,15,16]) ?_
  refine AX.seq ?_
  refine AX.condT ?_
  refine AX.keepA [2,3,4,5,13,14,15] ?_
  refine AX.skip ?_
  refine nmZ ?_
  refine AX.seq ?_
  refine AX.block ?_
  refine AX.sR (rgWV [2,3,4,5,7,13,14,15] (aI @hw (aI @hg oT)) oT) ?_
  refine AX.sR (rgCV [2,3,4,5,13,14,15] (aI c1 (aI c2 (aI c3 oT)))) ?_
  refine AX.rR (rgCV [2,3,4,5,13,14,15] (aI c4 oT)) ?_
  refine nmZ ?_
  refine AX.rR (rgWV [2,3,4,5,13,14,15] (aI @lit_add oT) oT) ?_
  refine nmZ ?_
  refine ⟨_,_,id,?_,
   leQ7
   , ⟨i+1,a',b',by omega,rfl,ha',hb',rfl⟩⟩
  omega
 ·obtain rfl:i=N:=by omega
  rw [ha,hb2] at cof
  generalize ul i e=A at *
  refine AX.sR (rgAV [2,3,4,5,13,14,15,16]) ?_
  refine AX.seq ?_
  refine AX.condF ?_
  refine AX.exit ?_
  refine nmZ ?_
  refine AX.sR (rgCV [2,8] (aI cof oT)) ?_
  refine AX.sR (rgAV [2]) ?_
  refine AX.ret ⟨.inl rfl,?_⟩
  exact DoneG.cellW rfl rfl rfl
theorem number_ok (n:Nat)(hn:n≤1001):PCall Tryz.prog 117 [.i .i64 n] (rV ((n:Nat):Rat)) []:=by
 have c0:=make_ok (n:Int) 1 (by omega) (by decide)
 have e:ofV (decide ((n:Int)<0) != decide ((1:Int)<0)) (n:Int).natAbs (1:Int).natAbs=.tup [rV ((n:Nat):Rat),.i .i64 0]:=by
  rw [decide_eq_false (show ¬ (n:Int)<0 by omega),Int.natAbs_natCast]
  have h:=hlf_rq n 0
  have h2:((n:Nat):Rat)*hlf 0=((n:Nat):Rat):=Rat.mul_one _
  rw [h2] at h
  show (if (1:Nat)=0 then _ else V.tup [rV (rq false n 1),.i .i64 0])=_
  rw [if_neg (by decide),h]
 rw [e] at c0
 generalize ((n:Nat):Rat)=Q at *
 refine PCall.of_ax Tryz.call117 Tryz.func117 rfl (by simp [Tryz.ntmps117]) fun O w=>?_
 simp only [Tryz.ntmps117,Tryz.results117,argFr]
 refine AX.sR (rgAV [0,2]) ?_
 refine AX.sR (rgCV [2,3] (aI c0 oT)) ?_
 refine AX.sR (rgAV [2]) ?_
 refine AX.ret ⟨.inl rfl,?_⟩
 exact Done.cell rfl rfl
def ksR (o n i:Nat):List (K0 × K0):=(List.range i).map fun j=>(.i .i64 ((rmd o n j:Nat):Int),.i .i64 ((j:Nat):Int))
theorem ksR_succ (o n i:Nat):ksR o n i++[(.i .i64 ((rmd o n i:Nat):Int),.i .i64 ((i:Nat):Int))]=ksR o n (i+1):=by
 unfold ksR
 rw [List.range_succ,List.map_append]
 rfl
theorem ks_find (x:Nat)(f:Nat→Nat):∀ (l:List Nat),K0.find (.i .i64 (x:Int)) (l.map fun j=>(.i .i64 ((f j:Nat):Int),.i .i64 ((j:Nat):Int)))=some none∧(∀ j ∈ l,f j≠x)∨∃ j ∈ l,f j=x∧K0.find (.i .i64 (x:Int)) (l.map fun j=>(.i .i64 ((f j:Nat):Int),.i .i64 ((j:Nat):Int)))=some (some (.i .i64 ((j:Nat):Int)))
 | []=>.inl ⟨rfl,fun _ h=>nomatch h⟩
 | a :: l=>by
  have e:K0.eq (.i .i64 (x:Int)) (.i .i64 ((f a:Nat):Int))=some (decide (x=f a)):=by
   show (if IntKind.i64=IntKind.i64 then some ((x:Int) == ((f a:Nat):Int)) else none)=_
   rw [if_pos rfl]
   congr 1
   by_cases h:x=f a
   ·rw [h,decide_eq_true rfl]
    exact beq_self_eq_true _
   ·rw [decide_eq_false h]
    exact beq_eq_false_iff_ne.2 fun h2=>h (by omega)
  by_cases h:x=f a
  ·right
   refine ⟨a,List.mem_cons_self,h.symm,?_⟩
   rw [List.map_cons,K0.find,e,decide_eq_true h]
  ·have e2:K0.find (.i .i64 (x:Int)) ((a :: l).map fun j=>(.i .i64 ((f j:Nat):Int),.i .i64 ((j:Nat):Int)))=K0.find (.i .i64 (x:Int)) (l.map fun j=>(.i .i64 ((f j:Nat):Int),.i .i64 ((j:Nat):Int))):=by
    rw [List.map_cons,K0.find,e,decide_eq_false h]
   rw [e2]
   rcases ks_find x f l with ⟨h1,h2⟩ | ⟨j,h1,h2,h3⟩
   ·left
    refine ⟨h1,fun j hj=>?_⟩
    rcases List.mem_cons.1 hj with rfl | hj
    ·exact fun h3=>h h3.symm
    ·exact h2 j hj
   ·exact .inr ⟨j,List.mem_cons_of_mem _ h1,h2,h3⟩
theorem Lift.Done.slWi {P:Program} {st:St} {t t':Tmp} {h n:Nat} {l:List Int} {T:TypeId} {z:Int} (h1:lkp st.fr t=some (.own h 0 n 1))(h2:lkp st.fr t'=some (.i .i64 z))(h3:lkp st.hp h=some ⟨T,wl l⟩)(hn:n=l.length):Done P #[.tmp t,.tmp t'] (.tup [.sl (wl l),.i .i64 z]) [] st:=by
 subst hn
 have e:∀ l:List Int,List.take l.length (List.drop 0 (wl l))=wl l:=fun l=>by rw [List.drop_zero];exact List.take_of_length_le (by rw [wl_length];exact Nat.le_refl _)
 refine Done.of (vs:=[.own h 0 l.length 1,.i .i64 z]) (hp:=dlt st.hp h) ?_ ?_ rfl ?_ ?_
 ·simp only [resVs,resV,h1,h2]
 ·simp only [packV,frz,frzL,h3,List.not_mem_nil,if_false,Nat.mul_one,Nat.zero_add,wl_length,Nat.le_refl,e,(wl_hf l).1,(wl_hf l).2,and_self,if_true,Nat.lt_succ_self,Nat.zero_lt_one,true_and,chunks_one]
 ·simp only [V.lt,V.ltL,Bool.and_self]
 ·simp only [V.ren,V.renL]
theorem first_of (P:Nat→Prop):∀ m,(∃ k,k<m∧P k)→∃ k,k<m∧P k∧∀ k',k' < k→¬ P k'
 | 0,h=>by
  obtain ⟨k,hk,_⟩:=h
  omega
 | m+1,h=>by
  by_cases h2:∃ k,k<m∧P k
  ·obtain ⟨k,h3,h4⟩:=first_of P m h2
   exact ⟨k,by omega,h4⟩
  ·obtain ⟨k,hk,hp⟩:=h
   refine ⟨k,hk,hp,fun k' hk' hp'=>h2 ⟨k',by omega,hp'⟩⟩
theorem cntF_false:∀ n,cntF n (fun _=>false)=n
 | 0=>rfl
 | n+1=>by rw [cntF,cntF_false n];rfl
theorem rmd_pig (o n:Nat)(hn:0<n):∃ i,i≤n∧(∃ j,j<i∧rmd o n j=rmd o n i)∧∀ k,k<i→∀ j,j<k→rmd o n j≠rmd o n k:=by
 have key:∀ i,(∀ k,k<i→∀ j,j<k→rmd o n j≠rmd o n k)→∃ f:Nat→Bool,cntF n f+i=n∧∀ v,f v=true→∃ j,j<i∧rmd o n j=v:=fun i=>by
  induction i with
  | zero=>exact fun _=>⟨fun _=>false,cntF_false n,fun v h=>by cases h⟩
  | succ i ih=>
   intro h
   obtain ⟨f,h1,h2⟩:=ih fun k hk=>h k (by omega)
   have hf:f (rmd o n i)=false:=by
    cases hfi:f (rmd o n i)
    ·rfl
    ·obtain ⟨j,hj,e⟩:=h2 _ hfi
     exact absurd e (h i (Nat.lt_succ_self _) j hj)
   have hc:=cntF_upd (n:=n) (rmd_lt hn) hf
   refine ⟨_,(by omega:cntF n (updB f (rmd o n i) true)+(i+1)=n),fun v hv=>?_⟩
   by_cases e:v=rmd o n i
   ·exact ⟨i,Nat.lt_succ_self _,e.symm⟩
   ·unfold updB at hv
    rw [if_neg e] at hv
    obtain ⟨j,hj,e2⟩:=h2 v hv
    exact ⟨j,by omega,e2⟩
 have hex:∃ k,k<n+1∧∃ j,j<k∧rmd o n j=rmd o n k:=by
  refine Classical.byContradiction fun hno=>?_
  obtain ⟨f,h1,_⟩:=key (n+1) fun k hk j hj e=>hno ⟨k,hk,j,hj,e⟩
  omega
 obtain ⟨i,h1,h2,h3⟩:=first_of _ _ hex
 exact ⟨i,by omega,h2,fun k hk j hj e=>h3 k hk ⟨j,hj,e⟩⟩
def Wr (o n:Nat):Prop:=∃ a p:Nat,1≤p∧a+p≤n∧rmd o n (a+p)=rmd o n a∧PCall Tryz.prog 114 [.i .i64 (o:Int),.i .i64 (n:Int)] (.tup [.sl (wl (ul (a+p) (dig o n))),.i .i64 (a:Int)]) []
attribute [go_sem] Tryz.underlying174 co_zero
set_option maxHeartbeats 16000000 in
theorem written_ok (o n:Nat)(ho:o<n)(hn:n≤1000):Wr o n:=by
 have h0:0<n:=by omega
 obtain ⟨i0,hi0,⟨j1,hj1,hje⟩,hun⟩:=rmd_pig o n h0
 obtain ⟨a,ha,hae,hfa⟩:∃ a,a<i0∧rmd o n a=rmd o n i0∧K0.find (.i .i64 ((rmd o n i0:Nat):Int)) (ksR o n i0)=some (some (.i .i64 ((a:Nat):Int))):=by
  rcases ks_find (rmd o n i0) (rmd o n) (List.range i0) with ⟨_,h⟩ | ⟨j,h1,h2,h3⟩
  ·exact absurd hje (h j1 (by simpa using hj1))
  ·exact ⟨j,by simpa using h1,h2,h3⟩
 refine ⟨a,i0-a,by omega,by omega,by rw [show a+(i0-a)=i0 by omega];exact hae.symm,?_⟩
 rw [show a+(i0-a)=i0 by omega]
 have hfn:∀ i,i<i0→K0.find (.i .i64 ((rmd o n i:Nat):Int)) (ksR o n i)=some none:=fun i hi=>by
  rcases ks_find (rmd o n i) (rmd o n) (List.range i) with ⟨h,_⟩ | ⟨j,h1,h2,_⟩
  ·exact h
  ·exact absurd h2 (hun i hi j (by simpa using h1))
 have hr0:rmd o n 0=o:=by unfold rmd;rw [Nat.pow_zero,Nat.mul_one];exact Nat.mod_eq_of_lt ho
 refine PCall.of_ax Tryz.call114 Tryz.func114 rfl (by simp [Tryz.ntmps114]) fun O w=>?_
 simp only [Tryz.ntmps114,Tryz.results114,argFr]
 refine AX.sR (rgAV [0,1]) ?_
 refine AX.sR (rgAV [0,1,6]) ?_
 refine AX.sR (rgAV [0,1,6,7]) ?_
 refine AX.sR (rgAV [1,6,7,8]) ?_
 refine AX.own0 7 3 1 rfl ?_
 refine AX.weaken id (st':=⟨[(8,.i .i64 (rmd o n 0:Nat)),(7,.own 1 0 0 1),(6,.mp 0),(1,.i .i64 n)],[(1,⟨3,wl (ul 0 (dig o n))⟩),(0,⟨174,[.tab (ksR o n 0)]⟩)],2⟩)
  (leQ7H hr0)
  ?_
 refine AX.block ?_
 refine AX.loop (fun M st=>∃ (i r:Nat) (us:List Int) (ks:List (K0 × K0)),i≤i0∧M=i0-i∧rmd o n i=r∧ul i (dig o n)=us∧ksR o n i=ks∧st=⟨[(8,.i .i64 r),(7,.own 1 0 i 1),(6,.mp 0),(1,.i .i64 n)],[(1,⟨3,wl us⟩),(0,⟨174,[.tab ks]⟩)],2⟩) i0 ⟨0,_,_,_,Nat.zero_le _,rfl,rfl,rfl,rfl,rfl⟩ ?_
 rintro M st ⟨i,r,us,ks,hi,rfl,hr,hus,hks,rfl⟩
 have hlu:(wl us).length=i:=by rw [← hus,ul_length]
 by_cases h1:i<i0
 ·have hf:=hfn i h1
  rw [hr,hks] at hf
  have hks2:=ksR_succ o n i
  have hus2:=ul_succ i (dig o n)
  rw [hr,hks] at hks2
  rw [hus] at hus2
  have hrn:r<n:=hr ▸ rmd_lt h0
  have hdv:Int.tdiv ((r:Int)*2) (n:Int)=((dig o n i:Nat):Int):=by
   unfold dig
   rw [hr,Nat.mul_comm 2 r]
   rfl
  have hrm:Int.tmod ((r:Int)*2) (n:Int)=((rmd o n (i+1):Nat):Int):=by
   rw [rmd_succ,hr,Nat.mul_comm 2 r]
   rfl
  have hd1:dig o n i≤1:=dig_le h0
  have hr1:rmd o n (i+1)<n:=rmd_lt h0
  have hne:((n:Nat):Int)≠0:=by omega
  obtain ⟨us2,hu2⟩:∃ x,ul (i+1) (dig o n)=x:=⟨_,rfl⟩
  obtain ⟨ks2,hk2⟩:∃ x,ksR o n (i+1)=x:=⟨_,rfl⟩
  obtain ⟨r2,hr2⟩:∃ x,rmd o n (i+1)=x:=⟨_,rfl⟩
  rw [hu2] at hus2
  rw [hk2] at hks2
  rw [hr2] at hrm hr1
  clear hus hks hfn hfa hae hje hun hr hr0
  generalize dig o n i=d at *
  refine AX.block ?_
  refine AX.seq ?_
  refine AX.sR (rgWV [1,6,7,8,9,10] (aI @hf oT) oT) ?_
  refine AX.sR (rgAV [1,6,7,8,9,19]) ?_
  refine AX.condF ?_
  refine AX.keepA [1,6,7,8] ?_
  refine AX.skip ?_
  refine nmZ ?_
  refine AX.sR (rgWV [1,6,7,8] (aI @hf oT) oT) ?_
  rw [hks2]
  refine AX.sR (rgAV [1,6,7,8]) ?_
  refine AX.sR (rgWV [1,6,7,8] (aI @hdv (aI @hlu (aI @hne (aI @zerosV_1 (aI @tkS (aI @tk0 oT)))))) oT) ?_
  rw [hus2]
  refine AX.rR (rgWV [1,6,7,8] (aI @hrm (aI @hne oT)) oT) ?_
  refine nmZ ?_
  refine ⟨_,_,fun n=>if n=1 then 3 else n,?_,
   leQ7
   , ⟨i+1,r2,us2,ks2,by omega,rfl,hr2,hu2,hk2,rfl⟩⟩
  omega
 ·obtain rfl:i=i0:=by omega
  rw [hr,hks] at hfa
  refine AX.block ?_
  refine AX.seq ?_
  refine AX.sR (rgWV [1,6,7,8,9,10] (aI @hfa oT) oT) ?_
  refine AX.sR (rgAV [1,6,7,8,9,19]) ?_
  refine AX.condT ?_
  refine AX.sR (rgAV [4,5]) ?_
  refine AX.ret ⟨.inl rfl,?_⟩
  rw [← hus]
  exact Done.slWi rfl rfl rfl (ul_len ..).symm
theorem okFrz_wn {l:List Int} {n:Nat} (h:l.length=n):okFrz 0 n 1 (wl l)=true:=by
 subst h
 exact okFrz_w l
theorem wl_frz {l:List Int} {n:Nat} (h:l.length=n):chunks 1 n (((wl l).drop 0).take (n*1))=wl l:=by
 subst h
 rw [List.drop_zero,Nat.mul_one,List.take_of_length_le (by rw [wl_length];exact Nat.le_refl _)]
 exact chunks_one _ _
def eF (o n a i:Nat):Nat:=if i<a then (i+1)*dig o n i else 0
def eA (o n a i:Nat):Nat:=if i<a then 0 else (i+1)*dig o n i
def eO (o n a i:Nat):Nat:=if i<a then 0 else dig o n i
def eL (p i:Nat):Nat:=if i+1=p then 1 else 0
theorem belQ_last {p:Nat} (hp:1≤p):belQ p (eL p)=hlf p:=by
 unfold belQ
 rw [sumN_single (k:=p-1) (by omega) fun i hi hne=>by rw [show eL p i=0 from if_neg (by omega)];exact Rat.zero_mul _]
 rw [show eL p (p-1)=1 from if_pos (by omega),show p-1+1=p by omega]
 exact Rat.one_mul _
theorem ul_last {p:Nat} (hp:1≤p):wl (ul (p-1) fun _=>0)++[.i .i64 1]=wl (ul p (eL p)):=by
 have h:=ul_succ (p-1) (eL p)
 rw [show p-1+1=p by omega,show eL p (p-1)=1 from if_pos (by omega)] at h
 rw [← h,ul_congr (N:=p-1) (e:=eL p) (e':=fun _=>0) fun i hi=>if_neg (by omega)]
 rfl
set_option maxHeartbeats 16000000 in
theorem digits_ok (o n:Nat)(ho:o<n)(hn:n≤1000):∃ a p:Nat,1≤p∧rmd o n (a+p)=rmd o n a∧rL (dgV o n a p)≤300∧PCall Tryz.prog 68 [.i .i64 (o:Int),.i .i64 (n:Int)] (rV (dgV o n a p)) []:=by
 have h0:0<n:=by omega
 obtain ⟨a,p,hp,hap,hr,cw⟩:=written_ok o n ho hn
 have hd1:∀ i,dig o n i≤1:=fun i=>dig_le h0
 have hF:∀ i,i<a+p→eF o n a i≤1001:=fun i hi=>by
  unfold eF
  split
  ·have:=Nat.mul_le_mul_left (i+1) (hd1 i)
   omega
  ·omega
 have hA:∀ i,i<a+p→eA o n a i≤1001:=fun i hi=>by
  unfold eA
  split
  ·omega
  ·have:=Nat.mul_le_mul_left (i+1) (hd1 i)
   omega
 have hO:∀ i,i<a+p→eO o n a i≤1001:=fun i hi=>by
  unfold eO
  have:=hd1 i
  split<;>omega
 have hL:∀ i,i<p→eL p i≤1001:=fun i hi=>by unfold eL;split<;>omega
 have cF:=below_ok (a+p) (eF o n a) (by omega) hF
 have cA:=below_ok (a+p) (eA o n a) (by omega) hA
 have cO:=below_ok (a+p) (eO o n a) (by omega) hO
 have cL:=below_g p (eL p) (by omega) hL
 have lF:=belQ_len (show a+p≤1001 by omega) hF
 have lA:=belQ_len (show a+p≤1001 by omega) hA
 have lO:=belQ_len (show a+p≤1001 by omega) hO
 have lL:=belQ_len (show p≤1001 by omega) hL
 have cN:=number_ok p (by omega)
 have heq:=dgV_eq h0 hp hr
 have heq:belQ (a+p) (eF o n a)+(belQ (a+p) (eA o n a) / (1-hlf p)+(belQ (a+p) (eO o n a)*((p:Nat):Rat)*hlf p) / ((1-hlf p)*(1-hlf p)))=dgV o n a p:=heq
 have hlt:=hlf_lt p hp
 rw [belQ_last hp] at cL lL
 have hlast:=ul_last hp
 refine ⟨a,p,hp,hr,?_⟩
 rw [← heq]
 have lN:rL ((p:Nat):Rat)≤1:=by
  have h:=hlf_rq p 0
  have h2:((p:Nat):Rat)*hlf 0=((p:Nat):Rat):=Rat.mul_one _
  rw [h2] at h
  rw [h]
  exact rL_rq (digits_length_le (by omega)) (digits_length_le (by decide)) (Nat.le_refl _)
 generalize belQ (a+p) (eF o n a)=F at *
 generalize belQ (a+p) (eA o n a)=A at *
 generalize belQ (a+p) (eO o n a)=B at *
 generalize hlf p=q at *
 generalize ((p:Nat):Rat)=P at *
 have hl1:1-q≠0:=by grind
 have l1:rL (1-q)≤34:=Nat.le_trans (rL_sub 1 q rL1 lL) (by decide)
 have hll:(1-q)*(1-q)≠0:=fun h=>by rcases Rat.mul_eq_zero.1 h with h | h<;>exact hl1 h
 have lx:rL (A / (1-q))≤66:=rL_div A (1-q) lA l1 (by decide)
 have lm1:rL (B*P)≤33:=rL_mul B P lO lN (by decide)
 have lm2:rL (B*P*q)≤65:=rL_mul _ q lm1 lL (by decide)
 have lm3:rL ((1-q)*(1-q))≤68:=rL_mul _ _ l1 l1 (by decide)
 have ly:rL (B*P*q / ((1-q)*(1-q)))≤133:=rL_div _ _ lm2 lm3 (by decide)
 have ls:rL (A / (1-q)+B*P*q / ((1-q)*(1-q)))≤200:=Nat.le_trans (rL_add _ _ lx ly) (by decide)
 have lt:rL (F+(A / (1-q)+B*P*q / ((1-q)*(1-q))))≤300:=Nat.le_trans (rL_add _ _ lF ls) (by decide)
 refine ⟨lt,?_⟩
 have h300:∀ {x:Rat} {k:Nat},rL x≤k→k≤300→IsQ (rV x) x 300:=fun h1 h2=>IsQ.of (Nat.le_trans h1 h2)
 have c1:PCall Tryz.prog 96 [] (rV 1) []:=one_ok
 have c2:PCall Tryz.prog 94 [rV 1,rV q] (rV (1-q)) []:=qsub_ok (h300 rL1 (by decide)) (h300 lL (by decide)) (by decide) (by decide)
 have c3:PCall Tryz.prog 116 [rV A,rV (1-q)] (qdivV A (1-q)) []:=qdiv_ok (h300 lA (by decide)) (h300 l1 (by decide)) (by decide)
 have c4:PCall Tryz.prog 111 [rV B,rV P] (rV (B*P)) []:=qmul_ok (h300 lO (by decide)) (h300 lN (by decide)) (by decide)
 have c5:PCall Tryz.prog 111 [rV (B*P),rV q] (rV (B*P*q)) []:=qmul_ok (h300 lm1 (by decide)) (h300 lL (by decide)) (by decide)
 have c6:PCall Tryz.prog 111 [rV (1-q),rV (1-q)] (rV ((1-q)*(1-q))) []:=qmul_ok (h300 l1 (by decide)) (h300 l1 (by decide)) (by decide)
 have c7:PCall Tryz.prog 116 [rV (B*P*q),rV ((1-q)*(1-q))] (qdivV (B*P*q) ((1-q)*(1-q))) []:=qdiv_ok (h300 lm2 (by decide)) (h300 lm3 (by decide)) (by decide)
 have c8:PCall Tryz.prog 50 [rV (A / (1-q)),rV (B*P*q / ((1-q)*(1-q)))] (rV (A / (1-q)+B*P*q / ((1-q)*(1-q)))) []:=qadd_ok (h300 lx (by decide)) (h300 ly (by decide)) (by decide)
 have c9:PCall Tryz.prog 50 [rV F,rV (A / (1-q)+B*P*q / ((1-q)*(1-q)))] (rV (F+(A / (1-q)+B*P*q / ((1-q)*(1-q))))) []:=qadd_ok (h300 lF (by decide)) (h300 ls (by decide)) (by decide)
 unfold qdivV at c3 c7
 rw [if_neg hl1] at c3
 rw [if_neg hll] at c7
 generalize F+(A / (1-q)+B*P*q / ((1-q)*(1-q)))=R9 at *
 generalize A / (1-q)+B*P*q / ((1-q)*(1-q))=R8 at *
 generalize B*P*q / ((1-q)*(1-q))=R7 at *
 generalize (1-q)*(1-q)=R6 at *
 generalize B*P*q=R5 at *
 generalize B*P=R4 at *
 generalize A / (1-q)=R3 at *
 generalize 1-q=R2 at *
 generalize (1:Rat)=R1 at *
 clear h300 lt ls ly lm3 lm2 lm1 lx hll l1 hl1 lN lL lF lA lO hlt heq hr
 unfold rV rR at *
 have lw:=ul_length (a+p) (dig o n)
 have hpI:((a+p:Nat):Int)-(a:Int)=(p:Int):=by omega
 refine PCall.of_ax Tryz.call68 Tryz.func68 rfl (by simp [Tryz.ntmps68]) fun O w=>?_
 simp only [Tryz.ntmps68,Tryz.results68,argFr]
 refine AX.sR (rgAV [0,1,4]) ?_
 refine AX.sR (rgCV [4,5,6] (aI cw oT)) ?_
 refine AX.sR (rgWV [4,5,6,7] (aI @lw (aI @hpI oT)) oT) ?_
 refine AX.sD (rgDWV [4,5,6,7,8,9,10] (aI @lw oT) oT) ?_
 have hz0:=ul_zero (a+p)
 rw [zerosV_one] at hz0
 refine AX.seq ?_
 refine AX.sR (rgWV [4,6,7,8,9,10,38,39,40] (aI @lw oT) oT) ?_
 refine AX.weaken id (st':=⟨[(40,.i .i64 (0:Nat)),(39,.i .i64 (a+p:Nat)),(38,.sl (wl (ul (a+p) (dig o n)))),(10,.own 3 0 (a+p) 1),(9,.own 2 0 (a+p) 1),(8,.own 1 0 (a+p) 1),(7,.i .i64 p),(6,.i .i64 a),(4,.ptr 0 0)],[(3,⟨3,wl (ul (a+p) fun _=>0)⟩),(2,⟨3,wl (ul (a+p) fun _=>0)⟩),(1,⟨3,wl (ul (a+p) fun _=>0)⟩),(0,⟨54,[.b false,.nl,.nl]⟩)],4⟩)
  (leQ7H hz0)
  ?_
 clear hz0
 refine AX.block ?_
 refine AX.loop (fun M st=>∃ (i:Nat) (u1 u2 u3:List Int),i≤a+p∧M=a+p-i∧ul (a+p) (pre i (eF o n a))=u1∧ul (a+p) (pre i (eA o n a))=u2∧ul (a+p) (pre i (eO o n a))=u3∧st=⟨[(40,.i .i64 i),(39,.i .i64 (a+p:Nat)),(38,.sl (wl (ul (a+p) (dig o n)))),(10,.own 3 0 (a+p) 1),(9,.own 2 0 (a+p) 1),(8,.own 1 0 (a+p) 1),(7,.i .i64 p),(6,.i .i64 a),(4,.ptr 0 0)],[(3,⟨3,wl u3⟩),(2,⟨3,wl u2⟩),(1,⟨3,wl u1⟩),(0,⟨54,[.b false,.nl,.nl]⟩)],4⟩) (a+p) ⟨0,_,_,_,Nat.zero_le _,rfl,(pre_zero ..).symm,(pre_zero ..).symm,(pre_zero ..).symm,rfl⟩ ?_
 rintro M st ⟨i,u1,u2,u3,hi,rfl,hu1,hu2,hu3,rfl⟩
 have hl1:(wl u1).length=a+p:=by rw [← hu1,ul_length]
 have hl2:(wl u2).length=a+p:=by rw [← hu2,ul_length]
 have hl3:(wl u3).length=a+p:=by rw [← hu3,ul_length]
 by_cases h1:i<a+p
 ·have hg:=ul_get (e:=dig o n) h1
  have hdi:=hd1 i
  clear cF cA cO cL cN cw c1 c2 c3 c4 c5 c6 c7 c8 c9
  by_cases h2:i<a
  ·have hv:((i:Int)+1)*((dig o n i:Nat):Int)=((eF o n a i:Nat):Int):=by
    unfold eF
    rw [if_pos h2]
    push_cast
    rfl
   have hx:=hF i h1
   have hs:=pre_set (e:=eF o n a) h1
   have k2:ul (a+p) (pre (i+1) (eA o n a))=u2:=by rw [pre_same (show eA o n a i=0 from if_pos h2)];exact hu2
   have k3:ul (a+p) (pre (i+1) (eO o n a))=u3:=by rw [pre_same (show eO o n a i=0 from if_pos h2)];exact hu3
   rw [hu1] at hs
   obtain ⟨u4,k1⟩:∃ y,ul (a+p) (pre (i+1) (eF o n a))=y:=⟨_,rfl⟩
   rw [k1] at hs
   clear hF hA hO hL hu1 hu2 hu3
   generalize eF o n a i=x at *
   generalize dig o n i=d at *
   generalize wl (ul (a+p) (dig o n))=D at *
   refine AX.sR (rgAV [4,6,7,8,9,10,38,39,40,41]) ?_
   refine AX.seq ?_
   refine AX.condT ?_
   refine AX.keepA [4,6,7,8,9,10,38,39,40] ?_
   refine AX.skip ?_
   refine nmZ ?_
   refine AX.seq ?_
   refine AX.block ?_
   refine AX.sR (rgWV [4,6,7,8,9,10,11,12,38,39,40] (aI @lw (aI @hg oT)) oT) ?_
   refine AX.seq ?_
   refine AX.sR (rgAV [4,6,7,8,9,10,11,12,38,39,40,47]) ?_
   refine AX.condT ?_
   refine AX.sR (rgWV [4,6,7,8,9,10,38,39,40] (aI @hl1 (aI @hv oT)) oT) ?_
   rw [hs]
   refine AX.exit ?_
   refine nmZ ?_
   refine AX.rR (rgWV [4,6,7,8,9,10,38,39,40] (aI @lit_add oT) oT) ?_
   refine nmZ ?_
   refine ⟨_,_,id,?_,
    leQ7
    , ⟨i+1,u4,u2,u3,by omega,rfl,k1,k2,k3,rfl⟩⟩
   omega
  ·have hv:((i:Int)+1)*((dig o n i:Nat):Int)=((eA o n a i:Nat):Int):=by
    unfold eA
    rw [if_neg h2]
    push_cast
    rfl
   have hx:=hA i h1
   have hs:=pre_set (e:=eA o n a) h1
   have hs2:=pre_set (e:=eO o n a) h1
   have hd2:eO o n a i=dig o n i:=if_neg h2
   rw [hd2] at hs2
   have k1:ul (a+p) (pre (i+1) (eF o n a))=u1:=by rw [pre_same (show eF o n a i=0 from if_neg h2)];exact hu1
   rw [hu2] at hs
   rw [hu3] at hs2
   obtain ⟨u4,k2⟩:∃ y,ul (a+p) (pre (i+1) (eA o n a))=y:=⟨_,rfl⟩
   obtain ⟨u5,k3⟩:∃ y,ul (a+p) (pre (i+1) (eO o n a))=y:=⟨_,rfl⟩
   rw [k2] at hs
   rw [k3] at hs2
   clear hF hA hO hL hu1 hu2 hu3 hd2
   generalize eA o n a i=x at *
   generalize dig o n i=d at *
   generalize wl (ul (a+p) (dig o n))=D at *
   refine AX.sR (rgAV [4,6,7,8,9,10,38,39,40,41]) ?_
   refine AX.seq ?_
   refine AX.condT ?_
   refine AX.keepA [4,6,7,8,9,10,38,39,40] ?_
   refine AX.skip ?_
   refine nmZ ?_
   refine AX.seq ?_
   refine AX.block ?_
   refine AX.sR (rgWV [4,6,7,8,9,10,11,12,38,39,40] (aI @lw (aI @hg oT)) oT) ?_
   refine AX.seq ?_
   refine AX.sR (rgAV [4,6,7,8,9,10,11,12,38,39,40,47]) ?_
   refine AX.condF ?_
   refine AX.keepA [4,6,7,8,9,10,11,12,38,39,40] ?_
   refine AX.skip ?_
   refine nmZ ?_
   refine AX.rR (rgWV [4,6,7,8,9,10,38,39,40] (aI @hl2 (aI @hl3 (aI @hv oT))) oT) ?_
   refine nmZ ?_
   rw [hs,hs2]
   refine AX.rR (rgWV [4,6,7,8,9,10,38,39,40] (aI @lit_add oT) oT) ?_
   refine nmZ ?_
   refine ⟨_,_,id,?_,
    leQ7
    , ⟨i+1,u1,u4,u5,by omega,rfl,k1,k2,k3,rfl⟩⟩
   omega
 have hia:i=a+p:=by omega
 subst hia
 rw [pre_full] at hu1 hu2 hu3
 rw [hu1] at cF
 rw [hu2] at cA
 rw [hu3] at cO
 have hul1:u1.length=a+p:=by rw [← hu1,ul_len]
 have hul2:u2.length=a+p:=by rw [← hu2,ul_len]
 have hul3:u3.length=a+p:=by rw [← hu3,ul_len]
 have hpm:(p:Int)-1=((p-1:Nat):Int):=by omega
 have hpp:p-1+1=p:=by omega
 have hz1:=ul_zero (p-1)
 rw [zerosV_one] at hz1
 have hzl:=ul_length (p-1) fun _=>0
 clear hF hA hO hL hu1 hu2 hu3 cw hd1
 generalize wl (ul (a+p) (dig o n))=D at *
 generalize ul p (eL p)=EL at *
 generalize ul (p-1) (fun _=>0)=E0 at *
 refine AX.sR (rgAV [4,6,7,8,9,10,38,39,40,41]) ?_
 refine AX.seq ?_
 refine AX.condF ?_
 refine AX.exit ?_
 refine nmZ ?_
 apply AX.sreg [4,7,8,9,10,13] (by simp only [pq];rfl)
 ·repeat (first
 |(apply RunO.op rfl;· rfl
   ·(simp only [opsOf,valsOf,valOf,lkp,ofConst,ofCell,Array.toList,Option.toList,List.map_cons,List.map_nil,List.cons_append,List.nil_append,List.append_nil,Nat.reduceEqDiff,Nat.reducePow,Nat.reduceLT,Nat.reduceLeDiff,reduceIte,if_true,if_false,IntKind.min,IntKind.max,IntKind.bits,IntKind.signed,Int.reduceLE,Int.reduceNeg,Int.reducePow,Int.reduceSub,and_self,Bool.false_eq_true,Nat.reduceSub];rfl)
   iterate 2 (· (simp (disch:=omega) only [go_sem,i64_of,u32_of,u64_of,Nat.reduceLT,Nat.reduceLeDiff,Nat.reduceEqDiff,Nat.reduceAdd,Nat.reduceSub,Nat.reduceMul,Nat.reducePow,Nat.reduceBEq,Int.reduceLE,Int.reduceLT,Int.reduceToNat,Int.reduceEq,Int.reduceNeg,↓reduceIte,reduceCtorEq,hpm,hz1,hzl,hlast,hpp,zerosV_1,tkS,tk0];rfl))
   ·(simp only [pb,Nat.reduceLT,Nat.reduceAdd,reduceIte];rfl))
 |(apply RunO.gcall [6] rfl;· rfl
   ·(simp only [opsOf,valsOf,valOf,lkp,ofConst,ofCell,Array.toList,Option.toList,List.map_cons,List.map_nil,List.cons_append,List.nil_append,List.append_nil,Nat.reduceEqDiff,Nat.reducePow,Nat.reduceLT,Nat.reduceLeDiff,reduceIte,if_true,if_false,IntKind.min,IntKind.max,IntKind.bits,IntKind.signed,Int.reduceLE,Int.reduceNeg,Int.reducePow,Int.reduceSub,and_self,Bool.false_eq_true,Nat.reduceSub];rfl)
   ·exact cL
   ·first | rfl | (simp only [Row.ren,V.ren,V.renL,renS,ren_q,renL_u,ren_z,ren_bl,ren_il,ren_nx,ren_wl,renL_id];rfl)
   ·first | rfl | (simp only [V.lt,V.ltL,ltS,lt_q,ltL_u,lt_z,lt_bl,lt_il,lt_nx,lt_wl];rfl)
   ·decide
   ·repeat' (first | exact trivial | rfl | (simp only [Row.ren,V.ren,V.renL,renS,ren_q,renL_u,ren_z,ren_bl,ren_il,ren_nx,ren_wl,renL_id];done) | (simp only [Row.ren,V.ren,V.renL,renS,ren_q,renL_u,ren_z,ren_bl,ren_il,ren_nx,ren_wl,renL_id];rfl) | (simp only [V.lt,V.ltL,ltS,lt_q,ltL_u,lt_z,lt_bl,lt_il,lt_nx,lt_wl];done) | apply And.intro)
   ·first | rfl | (simp only [Row.ren,V.ren,V.renL,renS,ren_q,renL_u,ren_z,ren_bl,ren_il,ren_nx,ren_wl,renL_id];rfl)
   ·(simp only [setRows,setL,Row.ren,V.ren,V.renL,renS,ren_q,renL_u,ren_z,ren_bl,ren_il,ren_nx,ren_wl,renL_id,pb,Nat.reduceLT,Nat.reduceAdd,Nat.reduceEqDiff,reduceIte];rfl))
 |(apply RunO.skip;· rfl
   ·(simp only [pb,Nat.reduceLT,Nat.reduceAdd,reduceIte];rfl)))
  exact RunO.nil
 ·repeat (first | exact Keep.nil | (apply Keep.take;· rfl) | (apply Keep.drop;· rfl))
 refine AX.weaken id (st':=⟨[(13,.ptr 7 0),(10,.own 3 0 (a+p) 1),(9,.own 2 0 (a+p) 1),(8,.own 1 0 (a+p) 1),(7,.i .i64 p),(4,.ptr 0 0)],[(7,⟨54,[.b (decide (q.num<0)),dg (digits q.num.natAbs),dg (digits q.den)]⟩),(3,⟨3,wl u3⟩),(2,⟨3,wl u2⟩),(1,⟨3,wl u1⟩),(0,⟨54,[.b false,.nl,.nl]⟩)],8⟩)
  leQ7
  ?_
 refine AX.fz 1 (fr':=[(13,.ptr 7 0),(10,.own 3 0 (a+p) 1),(9,.own 2 0 (a+p) 1),(8,.sl (wl u1)),(7,.i .i64 p),(4,.ptr 0 0)]) (hp':=[(7,⟨54,[.b (decide (q.num<0)),dg (digits q.num.natAbs),dg (digits q.den)]⟩),(3,⟨3,wl u3⟩),(2,⟨3,wl u2⟩),(0,⟨54,[.b false,.nl,.nl]⟩)]) rfl (wl_hf _).1 (.cons rfl .same (.cons rfl .same (.cons rfl .same (.cons rfl (.own (okFrz_wn hul1) (wl_frz hul1)) (.cons rfl .same (.cons rfl .same .nil)))))) (.keep (by decide) rfl (.keep (by decide) rfl (.keep (by decide) rfl (.keep (by decide) rfl .nil)))) ?_
 refine AX.fz 2 (fr':=[(13,.ptr 7 0),(10,.own 3 0 (a+p) 1),(9,.sl (wl u2)),(8,.sl (wl u1)),(7,.i .i64 p),(4,.ptr 0 0)]) (hp':=[(7,⟨54,[.b (decide (q.num<0)),dg (digits q.num.natAbs),dg (digits q.den)]⟩),(3,⟨3,wl u3⟩),(0,⟨54,[.b false,.nl,.nl]⟩)]) rfl (wl_hf _).1 (.cons rfl .same (.cons rfl .same (.cons rfl (.own (okFrz_wn hul2) (wl_frz hul2)) (.cons rfl .same (.cons rfl .same (.cons rfl .same .nil)))))) (.keep (by decide) rfl (.keep (by decide) rfl (.keep (by decide) rfl .nil))) ?_
 refine AX.fz 3 (fr':=[(13,.ptr 7 0),(10,.sl (wl u3)),(9,.sl (wl u2)),(8,.sl (wl u1)),(7,.i .i64 p),(4,.ptr 0 0)]) (hp':=[(7,⟨54,[.b (decide (q.num<0)),dg (digits q.num.natAbs),dg (digits q.den)]⟩),(0,⟨54,[.b false,.nl,.nl]⟩)]) rfl (wl_hf _).1 (.cons rfl .same (.cons rfl (.own (okFrz_wn hul3) (wl_frz hul3)) (.cons rfl .same (.cons rfl .same (.cons rfl .same (.cons rfl .same .nil)))))) (.keep (by decide) rfl (.keep (by decide) rfl .nil)) ?_
 refine AX.sD (rgDCV [4,7,8,9,10,13,14] (aI c1 (aI c2 oT))) ?_
 refine AX.sD (rgDCV [4,7,8,10,13,14,15] (aI cA (aI c3 oT))) ?_
 refine AX.sD (rgDCV [4,8,15,17] (aI cO (aI cN (aI c4 (aI c5 (aI c6 (aI c7 oT))))))) ?_
 refine AX.sD (rgDCV [4] (aI cF (aI c8 (aI c9 oT)))) ?_
 refine AX.ret ⟨.inl rfl,?_⟩
 exact Done.cell rfl rfl
def LqP (l:List Int) (Lq:Nat→Rat):Prop:=∀ j,j<l.length→∃ a p:Nat,1≤p∧rmd (l.getD j 0).toNat (sumI l).toNat (a+p)=rmd (l.getD j 0).toNat (sumI l).toNat a∧Lq j=dgV (l.getD j 0).toNat (sumI l).toNat a p
set_option maxHeartbeats 16000000 in
theorem least_ok (l:List Int)(h:isO l=true):(1000<sumI l∧PCall Tryz.prog 35 [.sl (wl l)] (.tup [zR,.i .i64 2]) [])∨(sumI l≤1000∧∃ Lq:Nat→Rat,LqP l Lq∧(∀ j,j≤l.length→rL (sumN j Lq)≤20000)∧PCall Tryz.prog 35 [.sl (wl l)] (.tup [rV (sumN l.length Lq),.i .i64 0]) []):=by
 obtain ⟨hF,n2,n3⟩:=isL_first h
 obtain ⟨q1,q2,q3⟩:=isO_iff.1 h
 have cr:=crightO_ok l (by omega) (fun x hx=>by have:=q3 x hx;omega)
 have cs:=csum_ok l (by omega) (fun x hx=>by have:=q3 x hx;omega)
 have cz:PCall Tryz.prog 67 [] (.agg [.b (decide ((0:Rat).num<0)),dg (digits (0:Rat).num.natAbs),dg (digits (0:Rat).den)]) []:=zero_ok
 have hml:=wl_length l
 rw [h] at cr
 by_cases hn:1000<sumI l
 ·refine .inl ⟨hn,?_⟩
  generalize sumI l=n at *
  refine PCall.of_ax Tryz.call35 Tryz.func35 rfl (by simp [Tryz.ntmps35]) fun O w=>?_
  simp only [Tryz.ntmps35,Tryz.results35,argFr]
  refine AX.sR (rgAV [0,2]) ?_
  refine AX.seq ?_
  refine AX.sR (rgCV [0,2,10] (aI cr oT)) ?_
  refine AX.condF ?_
  refine AX.keepA [0,2] ?_
  refine AX.skip ?_
  refine nmZ ?_
  refine AX.sR (rgCV [0,2,4,5] (aI cs (aI cz oT))) ?_
  refine AX.seq ?_
  refine AX.sR (rgAV [0,2,4,5,16]) ?_
  refine AX.condT ?_
  refine AX.sR (rgAV [2,3]) ?_
  refine AX.ret ⟨.inl rfl,?_⟩
  exact Done.cellZ rfl rfl rfl
 ·have hn:sumI l≤1000:=by omega
  obtain ⟨n,hnn⟩:∃ n:Nat,sumI l=n:=⟨(sumI l).toNat,by omega⟩
  have hall:∀ j,∃ q:Rat,j<l.length→(∃ a p:Nat,1≤p∧rmd (l.getD j 0).toNat n (a+p)=rmd (l.getD j 0).toNat n a∧q=dgV (l.getD j 0).toNat n a p)∧rL q≤300∧PCall Tryz.prog 68 [.i .i64 (l.getD j 0),.i .i64 (n:Int)] (rV q) []:=fun j=>by
   by_cases hj:j<l.length
   ·have hb:=hF.bd _ (getD_mem_W hj)
    rw [hnn] at hb
    obtain ⟨o,ho⟩:∃ o:Nat,l.getD j 0=o:=⟨(l.getD j 0).toNat,by omega⟩
    obtain ⟨a,p,h1,h2,h3,h4⟩:=digits_ok o n (by omega) (by omega)
    refine ⟨dgV o n a p,fun _=>⟨⟨a,p,h1,?_,?_⟩,h3,?_⟩⟩
    ·rw [ho];exact h2
    ·rw [ho];rfl
    ·rw [ho];exact h4
   ·exact ⟨0,fun h=>absurd h hj⟩
  obtain ⟨Lq,hLq⟩:=Classical.axiomOfChoice hall
  have hrl:∀ j,j≤l.length→rL (sumN j Lq)≤20000:=fun j hj=>by
   have h1:=sumN_len (n:=l.length) (f:=Lq) (L:=300) (fun i hi=>(hLq i hi).2.1) j hj
   have h2:j*(300+1)≤64*(300+1):=Nat.mul_le_mul_right _ (by omega)
   omega
  refine .inr ⟨hn,Lq,fun j hj=>?_,hrl,?_⟩
  ·rw [hnn,Int.toNat_natCast]
   exact (hLq j hj).1
  have cd:=fun j hj=>(hLq j hj).2.2
  have ca:∀ j,j<l.length→PCall Tryz.prog 50 [rV (sumN j Lq),rV (Lq j)] (rV (sumN (j+1) Lq)) []:=fun j hj=>qadd_ok (IsQ.of (hrl j (by omega))) (IsQ.of (Nat.le_trans (hLq j hj).2.1 (by decide))) (by decide)
  rw [hnn] at cs hn
  clear hLq hall hrl hF n2 n3 hnn
  have hz:sumN 0 Lq=0:=rfl
  rw [← hz] at cz
  unfold rV rR at *
  refine PCall.of_ax Tryz.call35 Tryz.func35 rfl (by simp [Tryz.ntmps35]) fun O w=>?_
  simp only [Tryz.ntmps35,Tryz.results35,argFr]
  refine AX.sR (rgAV [0,2]) ?_
  refine AX.seq ?_
  refine AX.sR (rgCV [0,2,10] (aI cr oT)) ?_
  refine AX.condF ?_
  refine AX.keepA [0,2] ?_
  refine AX.skip ?_
  refine nmZ ?_
  refine AX.sR (rgCV [0,2,4,5] (aI cs (aI cz oT))) ?_
  refine AX.seq ?_
  refine AX.sR (rgAV [0,2,4,5,16]) ?_
  refine AX.condF ?_
  refine AX.keepA [0,2,4,5] ?_
  refine AX.skip ?_
  refine nmZ ?_
  refine AX.seq ?_
  refine AX.sR (rgWV [2,4,5,18,19,20] (aI @hml oT) oT) ?_
  refine AX.weaken id (st':=⟨[(20,.i .i64 (0:Nat)),(19,.i .i64 l.length),(18,.sl (wl l)),(5,.ptr 1 0),(4,.i .i64 n),(2,.ptr 0 0)],[(1,⟨54,[.b (decide ((sumN 0 Lq).num<0)),dg (digits (sumN 0 Lq).num.natAbs),dg (digits (sumN 0 Lq).den)]⟩),(0,⟨54,[.b false,.nl,.nl]⟩)],2⟩)
   leQ7
   ?_
  clear cr cs cz hz
  refine AX.block ?_
  refine AX.loop (fun M st=>∃ (j:Nat) (q:Rat),j≤l.length∧M=l.length-j∧sumN j Lq=q∧st=⟨[(20,.i .i64 j),(19,.i .i64 l.length),(18,.sl (wl l)),(5,.ptr 1 0),(4,.i .i64 n),(2,.ptr 0 0)],[(1,⟨54,[.b (decide (q.num<0)),dg (digits q.num.natAbs),dg (digits q.den)]⟩),(0,⟨54,[.b false,.nl,.nl]⟩)],2⟩) l.length ⟨0,_,Nat.zero_le _,rfl,rfl,rfl⟩ ?_
  rintro M st ⟨j,q,hj,rfl,hq,rfl⟩
  by_cases h1:j<l.length
  ·have hg:=wl_get h1
   have c1:=cd j h1
   have c2:=ca j h1
   rw [hq] at c2
   have hb:=q3 _ (getD_mem_W h1)
   obtain ⟨q2',hq2⟩:∃ x,sumN (j+1) Lq=x:=⟨_,rfl⟩
   rw [hq2] at c2
   generalize l.getD j 0=o at *
   generalize Lq j=z at *
   refine AX.sR (rgAV [2,4,5,18,19,20,21]) ?_
   refine AX.seq ?_
   refine AX.condT ?_
   refine AX.keepA [2,4,5,18,19,20] ?_
   refine AX.skip ?_
   refine nmZ ?_
   refine AX.seq ?_
   refine AX.block ?_
   refine AX.sR (rgWV [2,4,5,7,18,19,20] (aI @hml (aI @hg oT)) oT) ?_
   refine AX.rD (rgDCV [2,4,5,18,19,20] (aI c1 (aI c2 oT))) ?_
   refine nmZ ?_
   refine AX.rR (rgWV [2,4,5,18,19,20] (aI @lit_add oT) oT) ?_
   refine nmZ ?_
   refine ⟨_,_,id,?_,
    leQ7
    , ⟨j+1,q2',by omega,rfl,hq2,rfl⟩⟩
   omega
  ·obtain rfl:j=l.length:=by omega
   rw [hq]
   refine AX.sR (rgAV [2,4,5,18,19,20,21]) ?_
   refine AX.seq ?_
   refine AX.condF ?_
   refine AX.exit ?_
   refine nmZ ?_
   refine AX.sR (rgAV [2,3]) ?_
   refine AX.ret ⟨.inl rfl,?_⟩
   exact Done.cellE rfl rfl rfl
end Go.Proofs.YteidabibgjokkaaGreatDoor
