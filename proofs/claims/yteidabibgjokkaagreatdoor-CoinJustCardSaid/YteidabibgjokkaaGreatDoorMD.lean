import Derived.Test.YteidabibgjokkaaGreatDoorMC
import Derived.Test.YteidabibgjokkaaGreatDoorHL
set_option maxRecDepth 20000
set_option linter.all false
namespace Go.Proofs.YteidabibgjokkaaGreatDoor
open Go Go.Proofs.YteidabibgjokkaaGreatDoor.Lift
attribute [local irreducible] Lift.PCall Lift.HCall
theorem leQ7 {g:Nat} {f:Nat→Nat} {st' st:St} (h1:LeFr f st.fr st'.nx st'.fr:=by simp only [ren_q,renL_u,ren_z,ren_bl,ren_il,ren_nx,ren_wl,renL_id,lt_q,ltL_u,lt_z,lt_bl,lt_il,lt_nx,lt_wl,LeFr,LeHp,lkp,V.ren,V.renL,Row.ren,V.lt,V.ltL,renL_u,ltL_u,List.length_append,List.length_cons,List.length_nil,List.length_set,id_eq,Option.some.injEq,V.i.injEq,V.b.injEq,V.own.injEq,Row.mk.injEq,decide_true,decide_eq_true_eq,true_and,and_true,Bool.and_true,Bool.true_and,if_true,if_false,and_self,Nat.reduceLT,Nat.reduceLeDiff,Nat.reduceEqDiff,Nat.reduceAdd,Nat.reduceSub,Nat.reduceMul,Nat.reducePow,Nat.reduceBEq,Int.reduceLE,Int.reduceLT,Int.reduceToNat,Int.reduceEq,Int.reduceNeg,↓reduceIte,reduceCtorEq] <;> (first | done | trivial | (and_intros<;>first | trivial | omega | assumption)))
  (h2:LeHp f st.hp st'.nx st'.hp:=by simp only [ren_q,renL_u,ren_z,ren_bl,ren_il,ren_nx,ren_wl,renL_id,lt_q,ltL_u,lt_z,lt_bl,lt_il,lt_nx,lt_wl,LeFr,LeHp,lkp,V.ren,V.renL,Row.ren,V.lt,V.ltL,renL_u,ltL_u,List.length_append,List.length_cons,List.length_nil,List.length_set,id_eq,Option.some.injEq,V.i.injEq,V.b.injEq,V.own.injEq,Row.mk.injEq,decide_true,decide_eq_true_eq,true_and,and_true,Bool.and_true,Bool.true_and,if_true,if_false,and_self,Nat.reduceLT,Nat.reduceLeDiff,Nat.reduceEqDiff,Nat.reduceAdd,Nat.reduceSub,Nat.reduceMul,Nat.reducePow,Nat.reduceBEq,Int.reduceLE,Int.reduceLT,Int.reduceToNat,Int.reduceEq,Int.reduceNeg,↓reduceIte,reduceCtorEq] <;> (first | done | trivial | (and_intros<;>first | trivial | omega | assumption)))
  (h3:Apart f st'.hp:=by simp [Apart]) (h4:g≤st'.nx:=by first | exact Nat.zero_le _ | simp) (h5:∀ n,n<g→f n=n:=by intro n hn;first | rfl | exact absurd hn (Nat.not_lt_zero _) | (have h0:n=0:=Nat.lt_one_iff.1 hn;subst h0;rfl)):Le g f st' st:=⟨h1,h2,h3,h4,h5⟩
theorem leQ7H {g:Nat} {f:Nat→Nat} {st' st:St} {H:Prop} (hh:H) (h1:H→LeFr f st.fr st'.nx st'.fr:=by intro hh;simp only [ren_q,renL_u,ren_z,ren_bl,ren_il,ren_nx,ren_wl,renL_id,lt_q,ltL_u,lt_z,lt_bl,lt_il,lt_nx,lt_wl,LeFr,LeHp,lkp,V.ren,V.renL,Row.ren,V.lt,V.ltL,renL_u,ltL_u,List.length_append,List.length_cons,List.length_nil,List.length_set,id_eq,Option.some.injEq,V.i.injEq,V.b.injEq,V.own.injEq,Row.mk.injEq,decide_true,decide_eq_true_eq,true_and,and_true,Bool.and_true,Bool.true_and,if_true,if_false,and_self,Nat.reduceLT,Nat.reduceLeDiff,Nat.reduceEqDiff,Nat.reduceAdd,Nat.reduceSub,Nat.reduceMul,Nat.reducePow,Nat.reduceBEq,Int.reduceLE,Int.reduceLT,Int.reduceToNat,Int.reduceEq,Int.reduceNeg,↓reduceIte,reduceCtorEq] <;> (first | done | trivial | (and_intros<;>first | trivial | omega | rw [hh] | (simp only [hh];done) | assumption)))
  (h2:H→LeHp f st.hp st'.nx st'.hp:=by intro hh;simp only [ren_q,renL_u,ren_z,ren_bl,ren_il,ren_nx,ren_wl,renL_id,lt_q,ltL_u,lt_z,lt_bl,lt_il,lt_nx,lt_wl,LeFr,LeHp,lkp,V.ren,V.renL,Row.ren,V.lt,V.ltL,renL_u,ltL_u,List.length_append,List.length_cons,List.length_nil,List.length_set,id_eq,Option.some.injEq,V.i.injEq,V.b.injEq,V.own.injEq,Row.mk.injEq,decide_true,decide_eq_true_eq,true_and,and_true,Bool.and_true,Bool.true_and,if_true,if_false,and_self,Nat.reduceLT,Nat.reduceLeDiff,Nat.reduceEqDiff,Nat.reduceAdd,Nat.reduceSub,Nat.reduceMul,Nat.reducePow,Nat.reduceBEq,Int.reduceLE,Int.reduceLT,Int.reduceToNat,Int.reduceEq,Int.reduceNeg,↓reduceIte,reduceCtorEq] <;> (first | done | trivial | (and_intros<;>first | trivial | omega | rw [hh] | (simp only [hh];done) | assumption)))
  (h3:Apart f st'.hp:=by simp [Apart]) (h4:g≤st'.nx:=by first | exact Nat.zero_le _ | simp) (h5:∀ n,n<g→f n=n:=by intro n hn;first | rfl | exact absurd hn (Nat.not_lt_zero _) | (have h0:n=0:=Nat.lt_one_iff.1 hn;subst h0;rfl)):Le g f st' st:=⟨h1 hh,h2 hh,h3,h4,h5⟩
def mx3 (s a b:Int):Int:=if -b > (if -a > s then -a else s) then -b else (if -a > s then -a else s)
def exI (T:T2):Nat→Int
 | 0=>0
 | i+1=>mx3 (exI T i) (T.getD i z2).1 (T.getD i z2).2
theorem mx3_le {s a b:Int}:s≤mx3 s a b∧-a≤mx3 s a b∧-b≤mx3 s a b:=by
 unfold mx3
 split<;>split<;>omega
theorem mx3_bd {s a b B:Int} (h1:s≤B)(h2:-B≤a)(h3:-B≤b):mx3 s a b≤B:=by
 unfold mx3
 split<;>split<;>omega
theorem exI_bd {T:T2} (hr:∀ x ∈ T,(-64≤x.1∧x.1<T.length)∧(-64≤x.2∧x.2<T.length)):∀ i,i≤T.length→0≤exI T i∧exI T i≤64
 | 0,_=>by simp [exI]
 | i+1,hi=>by
  obtain ⟨h1,h2⟩:=exI_bd hr i (by omega)
  have hx:=hr _ (getD_mem_T (T:=T) (j:=i) (by omega))
  exact ⟨Int.le_trans h1 mx3_le.1,mx3_bd h2 hx.1.1 hx.2.1⟩
theorem exI_ge (T:T2):∀ n i,i<n→-(T.getD i z2).1≤exI T n∧-(T.getD i z2).2≤exI T n
 | 0,i,h=>absurd h (Nat.not_lt_zero _)
 | n+1,i,h=>by
  by_cases e:i=n
  ·subst e
   exact ⟨mx3_le.2.1,mx3_le.2.2⟩
  ·have:=exI_ge T n i (by omega)
   exact ⟨Int.le_trans this.1 mx3_le.1,Int.le_trans this.2 mx3_le.1⟩
def exT (T:T2):Nat:=(exI T T.length).toNat
def hit (v w:Int):Nat:=if v=w then 1 else 0
def wM (k:Nat):Int:=k
def wE (k:Nat):Int:=-1-k
def cnt (T:T2) (w:Nat→Int) (i j a k:Nat):Nat:=(if a<i∨(a=i∧1≤j) then hit (T.getD a z2).1 (w k) else 0)+(if a<i∨(a=i∧2≤j) then hit (T.getD a z2).2 (w k) else 0)
def hM (T:T2) (w:Nat→Int) (i j:Nat):Mx:=fun a k=>(cnt T w i j a k:Rat) / 2
def chA (T:T2):Mx:=hM T wM T.length 0
def chB (T:T2):Mx:=hM T wE T.length 0
def ev (x:Int × Int) (j:Nat):Int:=if j=0 then x.1 else x.2
theorem hit_le (v w:Int):hit v w≤1:=by unfold hit;split<;>omega
theorem cnt_le (T:T2)(w:Nat→Int)(i j a k:Nat):cnt T w i j a k≤2:=by
 unfold cnt
 have h1:=hit_le (T.getD a z2).1 (w k)
 have h2:=hit_le (T.getD a z2).2 (w k)
 split<;>split<;>omega
theorem half_len {c:Nat} (h:c≤2):rL ((c:Rat) / 2)≤1:=by
 match c,h with
 | 0,_=>decide +kernel
 | 1,_=>decide +kernel
 | 2,_=>decide +kernel
theorem hM_len (T:T2)(w:Nat→Int)(i j a k:Nat):rL (hM T w i j a k)≤1:=half_len (cnt_le ..)
theorem cnt_step (T:T2)(w:Nat→Int)(i j k:Nat)(hj:j<2):cnt T w i (j+1) i k=cnt T w i j i k+hit (ev (T.getD i z2) j) (w k):=by
 unfold cnt ev
 match j,hj with
 | 0,_=>simp
 | 1,_=>simp
theorem cnt_other (T:T2)(w:Nat→Int)(i j a k:Nat)(h:a≠i):cnt T w i (j+1) a k=cnt T w i j a k:=by
 unfold cnt
 simp only [h,false_and]
theorem hM_two (T:T2)(w:Nat→Int)(i:Nat):hM T w i 2=hM T w (i+1) 0:=by
 funext a k
 unfold hM cnt
 have e1:(a<i∨a=i∧1≤2)↔(a<i+1∨a=i+1∧1≤0):=by omega
 have e2:(a<i∨a=i∧2≤2)↔(a<i+1∨a=i+1∧2≤0):=by omega
 simp only [e1,e2]
theorem hM_zero (T:T2)(w:Nat→Int):hM T w 0 0=fun _ _=>0:=by
 funext a k
 unfold hM cnt
 have e1:¬ (a<0∨a=0∧1≤0):=by omega
 have e2:¬ (a<0∨a=0∧2≤0):=by omega
 rw [if_neg e1,if_neg e2]
 decide +kernel
theorem half_add (c:Nat):((c+1:Nat):Rat) / 2=(c:Rat) / 2+1 / 2:=by
 have e:((c+1:Nat):Rat)=(c:Rat)+1:=by push_cast;rfl
 rw [e]
 grind
theorem hM_hit {T:T2} {w:Nat→Int} {i j k0:Nat} (hj:j<2)(hw:∀ k,w k=w k0→k=k0)(h:ev (T.getD i z2) j=w k0):hM T w i (j+1)=updM (hM T w i j) i k0 (hM T w i j i k0+1 / 2):=by
 funext a k
 unfold updM
 by_cases ha:a=i
 ·subst ha
  by_cases hk:k=k0
  ·subst hk
   rw [if_pos ⟨rfl,rfl⟩]
   unfold hM
   rw [cnt_step T w a j k hj,h,show hit (w k) (w k)=1 from if_pos rfl,half_add]
  ·rw [if_neg fun h=>hk h.2]
   unfold hM
   rw [cnt_step T w a j k hj,h,show hit (w k0) (w k)=0 from if_neg fun e=>hk (hw k e.symm),Nat.add_zero]
 ·rw [if_neg fun h=>ha h.1]
  unfold hM
  rw [cnt_other T w i j a k ha]
theorem hM_miss {T:T2} {w:Nat→Int} {i j:Nat} (hj:j<2)(h:∀ k,ev (T.getD i z2) j≠w k):hM T w i (j+1)=hM T w i j:=by
 funext a k
 unfold hM
 by_cases ha:a=i
 ·subst ha
  rw [cnt_step T w a j k hj,show hit (ev (T.getD a z2) j) (w k)=0 from if_neg (h k),Nat.add_zero]
 ·rw [cnt_other T w i j a k ha]
theorem wM_inj (k0:Nat):∀ k,wM k=wM k0→k=k0:=fun k h=>by unfold wM at h;omega
theorem wE_inj (k0:Nat):∀ k,wE k=wE k0→k=k0:=fun k h=>by unfold wE at h;omega
theorem Lift.Done.chnO {st:St} {a t':Tmp} {h g g' k k':Nat} {T T1 T2:TypeId} {n1 n2 n3 n4:Nat} {xs ys:List Rat} {e:Int} (h1:lkp st.fr a=some (.ptr h 0)) (h2:lkp st.hp h=some ⟨T,[.i .i64 n1,.i .i64 n2,.own g 0 k 3,.i .i64 n3,.i .i64 n4,.own g' 0 k' 3]⟩) (h3:lkp st.hp g=some ⟨T1,qrow xs⟩) (h3':lkp (dlt st.hp g) g'=some ⟨T2,qrow ys⟩) (h4:lkp st.fr t'=some (.i .i64 e)) (hk:k=xs.length) (hk':k'=ys.length) :
  Done Tryz.prog #[.cell a 43,.tmp t'] (.tup [.agg [.i .i64 n1,.i .i64 n2,.sl (xs.map rV),.i .i64 n3,.i .i64 n4,.sl (ys.map rV)],.i .i64 e]) [] st:=by
 subst hk hk'
 refine Done.of (vs:=[.agg [.i .i64 n1,.i .i64 n2,.own g 0 xs.length 3,.i .i64 n3,.i .i64 n4,.own g' 0 ys.length 3],.i .i64 e]) (hp:=dlt (dlt st.hp g) g') ?_ ?_ rfl ?_ ?_
 ·simp only [resVs,resV,h1,h2,h4,lay_chain];rfl
 ·simp only [packV,frz,frzL,h3,h3',List.not_mem_nil,if_false,Nat.zero_add,qrow_length,Nat.le_refl,take_q,flat_q,hf_q,chunks_q,and_self,if_true,Nat.zero_lt_succ,Nat.lt_succ_self,true_and]
 ·rfl
 ·rfl
theorem effMx {x y z:Operand} {ats:Array TypeId} {s a b:Int}:eff Tryz.prog (.call ⟨.builtin .max,#[x,y,z],ats⟩) [.i .i64 s,.i .i64 (-a),.i .i64 (-b)]=some (.val (.i .i64 (mx3 s a b))):=rfl
theorem effAr20 (x y:Operand)(a b:Int):eff Tryz.prog (.index 64 x y) [.agg [.i .i64 a,.i .i64 b],.i .i64 ((0:Nat):Int)]=some (.val (.i .i64 a)):=by kernel_rfl
theorem effAr21 (x y:Operand)(a b:Int):eff Tryz.prog (.index 64 x y) [.agg [.i .i64 a,.i .i64 b],.i .i64 ((1:Nat):Int)]=some (.val (.i .i64 b)):=by kernel_rfl
theorem effAr2 {x y:Operand} {a b:Int} {j:Nat} (hj:j<2):eff Tryz.prog (.index 64 x y) [.agg [.i .i64 a,.i .i64 b],.i .i64 (j:Int)]=some (.val (.i .i64 (ev (a,b) j))):=by
 match j,hj with
 | 0,_=>exact effAr20 x y a b
 | 1,_=>exact effAr21 x y a b
theorem half_eq:rq false 1 2=1 / 2:=by decide +kernel
theorem mkhalf_ok:PCall Tryz.prog 48 [.i .i64 1,.i .i64 2] (.tup [.agg [.b (decide ((1 / 2:Rat).num<0)),dg (digits (1 / 2:Rat).num.natAbs),dg (digits (1 / 2:Rat).den)],.i .i64 0]) []:=by
 have c:=make_ok 1 2 (by omega) (by omega)
 have e:ofV (decide ((1:Int)<0) != decide ((2:Int)<0)) (1:Int).natAbs (2:Int).natAbs=.tup [rV (rq false 1 2),.i .i64 0]:=rfl
 rw [e,half_eq] at c
 exact c
set_option maxHeartbeats 16000000 in
theorem cchain_walk (T:T2)(hS:isS T=true)(hm60:¬ 60<exI T T.length):PCall Tryz.prog 19 [smp T] (.tup [cV T.length (exT T) (chA T) (chB T),.i .i64 0]) []:=by
 obtain ⟨n1,n2,hr⟩:=isS_iff.1 hS
 have hb:bT T:=fun x hx=>by have:=hr x hx;omega
 have c1:=cright_smp T (by omega) hb
 rw [hS] at c1
 have hml:=nx_length T
 have hex:=exI_bd hr
 obtain ⟨m,hmx⟩:∃ m,exT T=m:=⟨_,rfl⟩
 have hmI:exI T T.length=(m:Int):=by have:=hex T.length (Nat.le_refl _);rw [← hmx];unfold exT;omega
 have hge:=exI_ge T T.length
 rw [hmI] at hge hm60
 rw [hmx]
 have cz1:=mzero_own T.length T.length n2 n2
 have cz2:=mzero_own T.length m n2 (by omega)
 rw [← hM_zero T wM] at cz1
 rw [← hM_zero T wE] at cz2
 have cmk:=mkhalf_ok
 obtain ⟨hf,hhf⟩:∃ q:Rat,(1 / 2:Rat)=q:=⟨_,rfl⟩
 have hfl:rL hf≤1:=by rw [← hhf];decide +kernel
 rw [hhf] at cmk
 refine PCall.of_ax Tryz.call19 Tryz.func19 rfl (by simp [Tryz.ntmps19]) fun O w=>?_
 simp only [Tryz.ntmps19,Tryz.results19,argFr]
 unfold smp at *
 unfold cV chA chB
 refine AX.sR (rgAV [1,2]) ?_
 refine AX.seq ?_
 refine AX.sR (rgCV [1,2,19] (aI c1 oT)) ?_
 refine AX.condF ?_
 refine AX.keepA [1,2] ?_
 refine AX.skip ?_
 refine nmZ ?_
 clear c1
 refine AX.sR (rgWV [1,2,4,5] (aI @hml oT) oT) ?_
 refine AX.seq ?_
 refine AX.sR (rgWV [1,2,4,5,25,26,27] (aI @hml oT) oT) ?_
 refine AX.weaken id (st':=⟨[(27,.i .i64 (0:Nat)),(26,.i .i64 T.length),(25,.sl (nx T)),(5,.i .i64 0),(4,.i .i64 T.length),(2,.ptr 1 0),(1,.ptr 0 0)],[(1,⟨43,[.i .i64 0,.i .i64 0,.nl,.i .i64 0,.i .i64 0,.nl]⟩),(0,⟨25,[.sl (nx T)]⟩)],2⟩)
  leQ7
  ?_
 refine AX.block ?_
 refine AX.loop (fun N st=>∃ (i:Nat) (s:Int),i≤T.length∧N=T.length-i∧exI T i=s∧st=⟨[(27,.i .i64 i),(26,.i .i64 T.length),(25,.sl (nx T)),(5,.i .i64 s),(4,.i .i64 T.length),(2,.ptr 1 0),(1,.ptr 0 0)],[(1,⟨43,[.i .i64 0,.i .i64 0,.nl,.i .i64 0,.i .i64 0,.nl]⟩),(0,⟨25,[.sl (nx T)]⟩)],2⟩) T.length ⟨0,0,Nat.zero_le _,rfl,rfl,rfl⟩ ?_
 rintro N st ⟨i,s,hi,rfl,hs,rfl⟩
 by_cases h3:i<T.length
 ·have hix:=fun x y=>effIx2 (x:=x) (y:=y) (els:=nx T) (j:=i) (by omega) (nx_get h3)
  have hrx:=hr _ (getD_mem_T h3)
  have s1:exI T (i+1)=mx3 s (T.getD i z2).1 (T.getD i z2).2:=by rw [exI,hs]
  have hsb:=hex i hi
  rw [hs] at hsb
  generalize T.getD i z2=x at *
  obtain ⟨a,b⟩:=x
  dsimp only at hix hrx s1
  have k1:(if 0-b > (if 0-a > s then 0-a else s) then 0-b else (if 0-a > s then 0-a else s))=mx3 s a b:=by unfold mx3;simp only [Int.zero_sub]
  generalize nx T=A at *
  refine AX.sR (rgAV [1,2,4,5,25,26,27,28]) ?_
  refine AX.seq ?_
  refine AX.condT ?_
  refine AX.keepA [1,2,4,5,25,26,27] ?_
  refine AX.skip ?_
  refine nmZ ?_
  refine AX.seq ?_
  refine AX.block ?_
  refine AX.sR (rgEV [1,2,4,5,7,25,26,27] oT oT (aI hix oT)) ?_
  apply AX.reg [1,2,4,5,25,26,27] (by simp only [pq];rfl)
  ·repeat (first
  |(apply RunO.op rfl;· rfl
    ·(simp only [opsOf,valsOf,valOf,lkp,ofConst,ofCell,Array.toList,Option.toList,List.map_cons,List.map_nil,List.cons_append,List.nil_append,List.append_nil,Nat.reduceEqDiff,Nat.reducePow,Nat.reduceLT,Nat.reduceLeDiff,reduceIte,if_true,if_false,IntKind.min,IntKind.max,IntKind.bits,IntKind.signed,Int.reduceLE,Int.reduceNeg,Int.reducePow,Int.reduceSub,and_self,Bool.false_eq_true,Nat.reduceSub];rfl)
    ·first | exact effMx | (simp (disch:=omega) only [go_sem,i64_of,u32_of,u64_of,Nat.reduceLT,Nat.reduceLeDiff,Nat.reduceEqDiff,Nat.reduceAdd,Nat.reduceSub,Nat.reduceMul,Nat.reducePow,Nat.reduceBEq,Int.reduceLE,Int.reduceLT,Int.reduceToNat,Int.reduceEq,Int.reduceNeg,↓reduceIte,reduceCtorEq];rfl)
    ·(simp (disch:=omega) only [go_sem,i64_of,u32_of,u64_of,Nat.reduceLT,Nat.reduceLeDiff,Nat.reduceEqDiff,Nat.reduceAdd,Nat.reduceSub,Nat.reduceMul,Nat.reducePow,Nat.reduceBEq,Int.reduceLE,Int.reduceLT,Int.reduceToNat,Int.reduceEq,Int.reduceNeg,↓reduceIte,reduceCtorEq];rfl)
    ·(simp only [pb,Nat.reduceLT,Nat.reduceAdd,reduceIte];rfl))
  |(apply RunO.skip;· rfl
    ·(simp only [pb,Nat.reduceLT,Nat.reduceAdd,reduceIte];rfl)))
   exact RunO.nil
  ·repeat (first | exact Keep.nil | (apply Keep.take;· rfl) | (apply Keep.drop;· rfl))
  refine nmZ ?_
  refine AX.rR (rgWV [1,2,4,5,25,26,27] (aI @lit_add oT) oT) ?_
  refine nmZ ?_
  refine ⟨_,_,id,?_,
   leQ7
   , ⟨i+1,_,by omega,rfl,s1,rfl⟩⟩
  omega
 obtain rfl:i=T.length:=by omega
 obtain rfl:s=(m:Int):=hs.symm.trans hmI
 refine AX.sR (rgAV [1,2,4,5,25,26,27,28]) ?_
 refine AX.seq ?_
 refine AX.condF ?_
 refine AX.exit ?_
 refine nmZ ?_
 refine AX.seq ?_
 refine AX.sR (rgAV [1,2,4,5,41]) ?_
 refine AX.condF ?_
 refine AX.keepA [1,2,4,5] ?_
 refine AX.skip ?_
 refine nmZ ?_
 refine AX.sR (rgCV [1,2,4,5,8] (aI cmk oT)) ?_
 refine AX.sR (rgAV [1,2,4,5,8,10]) ?_
 refine AX.sR (rgWV [1,2,4,5,8,10] (aI @ren_q oT) (aI cz1 oT)) ?_
 refine AX.sR (rgWV [1,2,4,5,8,10] (aI @ren_q oT) (aI cz2 oT)) ?_
 refine AX.seq ?_
 refine AX.sR (rgWV [2,4,5,8,10,62,63,64] (aI @hml oT) oT) ?_
 clear cmk cz1 cz2 hex hmI
 refine AX.weaken id (st':=⟨[(64,.i .i64 (0:Nat)),(63,.i .i64 T.length),(62,.sl (nx T)),(10,.ptr 3 0),(8,.ptr 2 0),(5,.i .i64 m),(4,.i .i64 T.length),(2,.ptr 1 0)],[(5,⟨54,qrow (mcells m (hM T wE 0 0) (T.length*m))⟩),(4,⟨54,qrow (mcells T.length (hM T wM 0 0) (T.length*T.length))⟩),(3,⟨43,[.i .i64 T.length,.i .i64 T.length,.own 4 0 (T.length*T.length) 3,.i .i64 T.length,.i .i64 m,.own 5 0 (T.length*m) 3]⟩),(2,⟨54,[.b (decide (hf.num<0)),dg (digits hf.num.natAbs),dg (digits hf.den)]⟩),(1,⟨43,[.i .i64 0,.i .i64 0,.nl,.i .i64 0,.i .i64 0,.nl]⟩)],6⟩)
  leQ7
  ?_
 refine AX.block ?_
 refine AX.loop (fun N st=>∃ i:Nat,i≤T.length∧N=T.length-i∧st=⟨[(64,.i .i64 i),(63,.i .i64 T.length),(62,.sl (nx T)),(10,.ptr 3 0),(8,.ptr 2 0),(5,.i .i64 m),(4,.i .i64 T.length),(2,.ptr 1 0)],[(5,⟨54,qrow (mcells m (hM T wE i 0) (T.length*m))⟩),(4,⟨54,qrow (mcells T.length (hM T wM i 0) (T.length*T.length))⟩),(3,⟨43,[.i .i64 T.length,.i .i64 T.length,.own 4 0 (T.length*T.length) 3,.i .i64 T.length,.i .i64 m,.own 5 0 (T.length*m) 3]⟩),(2,⟨54,[.b (decide (hf.num<0)),dg (digits hf.num.natAbs),dg (digits hf.den)]⟩),(1,⟨43,[.i .i64 0,.i .i64 0,.nl,.i .i64 0,.i .i64 0,.nl]⟩)],6⟩) T.length ⟨0,Nat.zero_le _,rfl,rfl⟩ ?_
 rintro N st ⟨i,hi,rfl,rfl⟩
 by_cases h3:i<T.length
 ·have hix:=fun x y=>effIx2 (x:=x) (y:=y) (els:=nx T) (j:=i) (by omega) (nx_get h3)
  have hrx:=hr _ (getD_mem_T h3)
  have hgx:=hge i h3
  obtain ⟨x,hx⟩:∃ x,T.getD i z2=x:=⟨_,rfl⟩
  rw [hx] at hix hrx hgx
  obtain ⟨a,b⟩:=x
  dsimp only at hix hrx hgx
  generalize nx T=AA at *
  clear hge hr hb
  refine AX.sR (rgAV [2,4,5,8,10,62,63,64,65]) ?_
  refine AX.seq ?_
  refine AX.condT ?_
  refine AX.keepA [2,4,5,8,10,62,63,64] ?_
  refine AX.skip ?_
  refine nmZ ?_
  refine AX.seq ?_
  refine AX.block ?_
  refine AX.sR (rgEV [2,4,5,8,10,11,12,62,63,64] oT oT (aI hix oT)) ?_
  refine AX.sR (rgAV [2,4,5,8,10,11,62,63,64,69,70]) ?_
  refine AX.weaken id (st':=⟨[(70,.i .i64 (0:Nat)),(69,.agg [.i .i64 a,.i .i64 b]),(64,.i .i64 i),(63,.i .i64 T.length),(62,.sl AA),(11,.i .i64 i),(10,.ptr 3 0),(8,.ptr 2 0),(5,.i .i64 m),(4,.i .i64 T.length),(2,.ptr 1 0)],[(5,⟨54,qrow (mcells m (hM T wE i 0) (T.length*m))⟩),(4,⟨54,qrow (mcells T.length (hM T wM i 0) (T.length*T.length))⟩),(3,⟨43,[.i .i64 T.length,.i .i64 T.length,.own 4 0 (T.length*T.length) 3,.i .i64 T.length,.i .i64 m,.own 5 0 (T.length*m) 3]⟩),(2,⟨54,[.b (decide (hf.num<0)),dg (digits hf.num.natAbs),dg (digits hf.den)]⟩),(1,⟨43,[.i .i64 0,.i .i64 0,.nl,.i .i64 0,.i .i64 0,.nl]⟩)],6⟩)
   leQ7
   ?_
  refine AX.block ?_
  refine AX.loop (fun N st=>∃ j:Nat,j≤2∧N=2-j∧st=⟨[(70,.i .i64 j),(69,.agg [.i .i64 a,.i .i64 b]),(64,.i .i64 i),(63,.i .i64 T.length),(62,.sl AA),(11,.i .i64 i),(10,.ptr 3 0),(8,.ptr 2 0),(5,.i .i64 m),(4,.i .i64 T.length),(2,.ptr 1 0)],[(5,⟨54,qrow (mcells m (hM T wE i j) (T.length*m))⟩),(4,⟨54,qrow (mcells T.length (hM T wM i j) (T.length*T.length))⟩),(3,⟨43,[.i .i64 T.length,.i .i64 T.length,.own 4 0 (T.length*T.length) 3,.i .i64 T.length,.i .i64 m,.own 5 0 (T.length*m) 3]⟩),(2,⟨54,[.b (decide (hf.num<0)),dg (digits hf.num.natAbs),dg (digits hf.den)]⟩),(1,⟨43,[.i .i64 0,.i .i64 0,.nl,.i .i64 0,.i .i64 0,.nl]⟩)],6⟩) 2 ⟨0,Nat.zero_le _,rfl,rfl⟩ ?_
  rintro N st ⟨j,hj,rfl,rfl⟩
  by_cases h4:j<2
  ·have k2:=fun x y=>effAr2 (x:=x) (y:=y) (a:=a) (b:=b) h4
   have hv:-64≤ev (a,b) j∧ev (a,b) j<T.length∧-(ev (a,b) j)≤m:=by
    unfold ev
    split
    ·exact ⟨hrx.1.1,hrx.1.2,hgx.1⟩
    ·exact ⟨hrx.2.1,hrx.2.2,hgx.2⟩
   obtain ⟨v,hvv⟩:∃ v,ev (a,b) j=v:=⟨_,rfl⟩
   rw [hvv] at k2 hv
   have hvx:ev (T.getD i z2) j=v:=by rw [hx,hvv]
   have x1:i*T.length≤60*60:=Nat.mul_le_mul (by omega) (by omega)
   have x2:i*m≤60*60:=Nat.mul_le_mul (by omega) (by omega)
   have m1:(i:Int)*(T.length:Int)=((i*T.length:Nat):Int):=(Int.natCast_mul _ _).symm
   have m2:(i:Int)*(m:Int)=((i*m:Nat):Int):=(Int.natCast_mul _ _).symm
   by_cases h6:v<0
   ·obtain ⟨k0,hk0⟩:∃ k0:Nat,v=wE k0:=⟨(-1-v).toNat,by unfold wE;omega⟩
    have hkm:k0<m:=by unfold wE at hk0;omega
    have st1:=hM_hit (T:=T) (w:=wE) (i:=i) (j:=j) h4 (wE_inj k0) (hvx.trans hk0)
    have st2:=hM_miss (T:=T) (w:=wM) (i:=i) (j:=j) h4 (fun k e=>by rw [hvx] at e;unfold wM at e;omega)
    rw [hhf] at st1
    obtain ⟨z,e1⟩:∃ z,i*m+k0=z:=⟨_,rfl⟩
    have a1:((i*m:Nat):Int)-1-v=(z:Int):=by unfold wE at hk0;omega
    have l1:=(mcells_get (r:=T.length) (c:=m) (hM T wE i j) h3 hkm).1
    have g1:=qget (hM T wE i j) h3 hkm e1
    have s1:=qset (hM T wE i j) (hM T wE i j i k0+hf) h3 hkm e1
    have hl:=qlen m T.length (hM T wE i j)
    have ca:PCall Tryz.prog 50 [.agg [.b (decide ((hM T wE i j i k0).num<0)),dg (digits (hM T wE i j i k0).num.natAbs),dg (digits (hM T wE i j i k0).den)],.agg [.b (decide (hf.num<0)),dg (digits hf.num.natAbs),dg (digits hf.den)]] (.agg [.b (decide ((hM T wE i j i k0+hf).num<0)),dg (digits (hM T wE i j i k0+hf).num.natAbs),dg (digits (hM T wE i j i k0+hf).den)]) []:=qadd_ok (L:=1) (IsQ.of (hM_len ..)) (IsQ.of hfl) (by omega)
    rw [e1] at l1
    rw [← st1] at s1
    rw [← st2]
    clear st1 st2 hk0 hvx hvv
    generalize hM T wE i j i k0+hf=q3 at *
    generalize hM T wE i j i k0=q1 at *
    obtain ⟨E2,hE2⟩:∃ q,hM T wE i (j+1)=q:=⟨_,rfl⟩
    obtain ⟨A2,hA2⟩:∃ q,hM T wM i (j+1)=q:=⟨_,rfl⟩
    rw [hE2] at s1
    rw [hA2]
    generalize hM T wE i j=E1 at *
    generalize i*m=p2 at *
    generalize i*T.length=p1 at *
    refine AX.sR (rgAV [2,4,5,8,10,11,62,63,64,69,70,71]) ?_
    refine AX.seq ?_
    refine AX.condT ?_
    refine AX.keepA [2,4,5,8,10,11,62,63,64,69,70] ?_
    refine AX.skip ?_
    refine nmZ ?_
    refine AX.seq ?_
    refine AX.block ?_
    refine AX.sR (rgEV [2,4,5,8,10,11,14,62,63,64,69,70] oT oT (aI k2 oT)) ?_
    refine AX.sR (rgAV [2,4,5,8,10,11,14,15,62,63,64,69,70]) ?_
    refine AX.sR (rgWV [2,4,5,8,10,11,14,15,16,62,63,64,69,70] (aI @m1 oT) oT) ?_
    refine AX.seq ?_
    refine AX.sR (rgAV [2,4,5,8,10,11,14,15,16,62,63,64,69,70,81]) ?_
    refine AX.condT ?_
    refine AX.rR (rgWV [2,4,5,8,10,11,15,16,62,63,64,69,70] (aI @m2 (aI @a1 oT)) oT) ?_
    refine nmZ ?_
    refine AX.rD (rgDWV [2,4,5,8,10,11,62,63,64,69,70] (aI @hl (aI @g1 (aI @s1 oT))) (aI ca oT)) ?_
    refine nmZ ?_
    refine AX.rR (rgWV [2,4,5,8,10,11,62,63,64,69,70] (aI @lit_add oT) oT) ?_
    refine nmZ ?_
    subst hE2 hA2
    refine ⟨_,_,id,?_,
     leQ7
     , ⟨j+1,by omega,rfl,rfl⟩⟩
    omega
   ·obtain ⟨k0,hk0⟩:∃ k0:Nat,v=wM k0:=⟨v.toNat,by unfold wM;omega⟩
    have hkm:k0<T.length:=by unfold wM at hk0;omega
    have st1:=hM_hit (T:=T) (w:=wM) (i:=i) (j:=j) h4 (wM_inj k0) (hvx.trans hk0)
    have st2:=hM_miss (T:=T) (w:=wE) (i:=i) (j:=j) h4 (fun k e=>by rw [hvx] at e;unfold wE at e;omega)
    rw [hhf] at st1
    obtain ⟨z,e1⟩:∃ z,i*T.length+k0=z:=⟨_,rfl⟩
    have a1:((i*T.length:Nat):Int)+v=(z:Int):=by unfold wM at hk0;omega
    have l1:=(mcells_get (r:=T.length) (c:=T.length) (hM T wM i j) h3 hkm).1
    have g1:=qget (hM T wM i j) h3 hkm e1
    have s1:=qset (hM T wM i j) (hM T wM i j i k0+hf) h3 hkm e1
    have hl:=qlen T.length T.length (hM T wM i j)
    have ca:PCall Tryz.prog 50 [.agg [.b (decide ((hM T wM i j i k0).num<0)),dg (digits (hM T wM i j i k0).num.natAbs),dg (digits (hM T wM i j i k0).den)],.agg [.b (decide (hf.num<0)),dg (digits hf.num.natAbs),dg (digits hf.den)]] (.agg [.b (decide ((hM T wM i j i k0+hf).num<0)),dg (digits (hM T wM i j i k0+hf).num.natAbs),dg (digits (hM T wM i j i k0+hf).den)]) []:=qadd_ok (L:=1) (IsQ.of (hM_len ..)) (IsQ.of hfl) (by omega)
    rw [e1] at l1
    rw [← st1] at s1
    rw [← st2]
    clear st1 st2 hk0 hvx hvv
    generalize hM T wM i j i k0+hf=q3 at *
    generalize hM T wM i j i k0=q1 at *
    obtain ⟨E2,hE2⟩:∃ q,hM T wM i (j+1)=q:=⟨_,rfl⟩
    obtain ⟨A2,hA2⟩:∃ q,hM T wE i (j+1)=q:=⟨_,rfl⟩
    rw [hE2] at s1
    rw [hA2]
    generalize hM T wM i j=E1 at *
    generalize i*m=p2 at *
    generalize i*T.length=p1 at *
    refine AX.sR (rgAV [2,4,5,8,10,11,62,63,64,69,70,71]) ?_
    refine AX.seq ?_
    refine AX.condT ?_
    refine AX.keepA [2,4,5,8,10,11,62,63,64,69,70] ?_
    refine AX.skip ?_
    refine nmZ ?_
    refine AX.seq ?_
    refine AX.block ?_
    refine AX.sR (rgEV [2,4,5,8,10,11,14,62,63,64,69,70] oT oT (aI k2 oT)) ?_
    refine AX.sR (rgAV [2,4,5,8,10,11,14,15,62,63,64,69,70]) ?_
    refine AX.sR (rgWV [2,4,5,8,10,11,14,15,16,62,63,64,69,70] (aI @m1 (aI @a1 oT)) oT) ?_
    refine AX.seq ?_
    refine AX.sR (rgAV [2,4,5,8,10,11,14,15,16,62,63,64,69,70,81]) ?_
    refine AX.condF ?_
    refine AX.keepA [2,4,5,8,10,11,15,16,62,63,64,69,70] ?_
    refine AX.skip ?_
    refine nmZ ?_
    refine AX.rD (rgDWV [2,4,5,8,10,11,62,63,64,69,70] (aI @hl (aI @g1 (aI @s1 oT))) (aI ca oT)) ?_
    refine nmZ ?_
    refine AX.rR (rgWV [2,4,5,8,10,11,62,63,64,69,70] (aI @lit_add oT) oT) ?_
    refine nmZ ?_
    subst hE2 hA2
    refine ⟨_,_,id,?_,
     leQ7
     , ⟨j+1,by omega,rfl,rfl⟩⟩
    omega
  obtain rfl:j=2:=by omega
  rw [hM_two,hM_two]
  refine AX.sR (rgAV [2,4,5,8,10,11,62,63,64,69,70,71]) ?_
  refine AX.seq ?_
  refine AX.condF ?_
  refine AX.exit ?_
  refine nmZ ?_
  refine AX.rR (rgWV [2,4,5,8,10,62,63,64] (aI @lit_add oT) oT) ?_
  refine nmZ ?_
  refine ⟨_,_,id,?_,
   leQ7
   , ⟨i+1,by omega,rfl,rfl⟩⟩
  omega
 obtain rfl:T.length=i:=by omega
 refine AX.sR (rgAV [2,4,5,8,10,62,63,64,65]) ?_
 refine AX.seq ?_
 refine AX.condF ?_
 refine AX.exit ?_
 refine nmZ ?_
 refine AX.sR (rgAV [2,3]) ?_
 refine AX.ret ⟨.inl rfl,?_⟩
 exact Done.chnO rfl rfl rfl rfl rfl (mcells_length ..).symm (mcells_length ..).symm
theorem Lift.Done.spO {st:St} {a t t':Tmp} {h:Nat} {T:TypeId} {e:Int} {d:List Rat} {s:Bool} {x y:List Nat} (h0:lkp st.fr t=some (.sl (d.map rV)))(h1:lkp st.fr a=some (.ptr h 0))(h2:lkp st.hp h=some ⟨T,[.b s,dg x,dg y]⟩)(h3:lkp st.fr t'=some (.i .i64 e)):Done Tryz.prog #[.tmp t,.cell a 54,.tmp t'] (.tup [.sl (d.map rV),rR s x y,.i .i64 e]) [] st:=by
 refine Done.of (vs:=[.sl (d.map rV),rR s x y,.i .i64 e]) (hp:=st.hp) ?_ ?_ rfl ?_ ?_
 ·simp only [resVs,resV,h0,h1,h2,h3,lay_ratio];rfl
 ·rfl
 ·simp only [rR,V.lt,V.ltL,ltL_u];rfl
 ·simp only [rR,V.ren,V.renL,renL_u]
def e1 (i:Nat):Rat:=if i=0 then 1 else 0
set_option maxHeartbeats 4000000 in
theorem cstart_ok (n:Nat)(hn1:1≤n)(hn:n≤60):PCall Tryz.prog 54 [.i .i64 n] (.sl ((vl n e1).map rV)) []:=by
 refine PCall.of_ax Tryz.call54 Tryz.func54 rfl (by simp [Tryz.ntmps54]) fun O w=>?_
 simp only [Tryz.ntmps54,Tryz.results54,argFr]
 have c0:PCall Tryz.prog 67 [] (rR (decide ((0:Rat).num<0)) (digits (0:Rat).num.natAbs) (digits (0:Rat).den)) []:=zero_ok
 have c1:PCall Tryz.prog 96 [] (rR (decide ((1:Rat).num<0)) (digits (1:Rat).num.natAbs) (digits (1:Rat).den)) []:=one_ok
 refine AX.sR (rgAV [0]) ?_
 refine AX.sR (rgAV [3]) ?_
 refine AX.seq ?_
 refine AX.sR (rgAV [3,8,9]) ?_
 refine AX.weaken id (st':=⟨[(9,.i .i64 (0:Nat)),(8,.i .i64 n),(3,.own 0 0 n 3)],[(0,⟨54,zrow n 0⟩)],1⟩)
  leQ7
  ?_
 refine AX.block ?_
 refine AX.loop (fun N st=>∃ j:Nat,j≤n∧N=n-j∧st=⟨[(9,.i .i64 j),(8,.i .i64 n),(3,.own 0 0 n 3)],[(0,⟨54,zrow n j⟩)],1⟩) n ⟨0,Nat.zero_le _,rfl,rfl⟩ ?_
 rintro N st ⟨j,hj,rfl,rfl⟩
 by_cases h1:j<n
 ·have hl:=zrow_length hj
  have hset:=zrow_set h1
  obtain ⟨zr1,hz1⟩:∃ z,zrow n (j+1)=z:=⟨_,rfl⟩
  rw [hz1] at hset
  refine AX.sR (rgAV [3,8,9,10]) ?_
  refine AX.seq ?_
  refine AX.condT ?_
  refine AX.keepA [3,8,9] ?_
  refine AX.skip ?_
  refine nmZ ?_
  refine AX.seq ?_
  refine AX.block ?_
  refine AX.sR (rgAV [3,4,8,9]) ?_
  refine AX.rR (rgWV [3,8,9] (aI @hl oT) (aI c0 oT)) ?_
  refine nmZ ?_
  rw [hset]
  refine AX.rR (rgWV [3,8,9] (aI @lit_add oT) oT) ?_
  refine nmZ ?_
  refine ⟨_,_,id,?_,
   (leQ7H hz1)
   , ⟨j+1,by omega,rfl,rfl⟩⟩
  omega
 ·have e:j=n:=by omega
  subst e
  have hv:zrow j j=qrow (vl j fun _=>0):=by rw [zrow_full];congr 1;exact vl_zero j
  rw [hv]
  have hset:=vl_set3 (n:=j) (k:=0) (fun _=>0) 1 (by omega)
  have he:(vl j fun k'=>if k'=0 then (1:Rat) else (fun _=>0) k')=vl j e1:=rfl
  rw [he] at hset
  have hl:=vl_len3 j fun _=>0
  have hl1:(vl j e1).length=j:=vl_length ..
  generalize vl j e1=xs at *
  generalize vl j (fun _=>0)=zs at *
  refine AX.sR (rgAV [3,8,9,10]) ?_
  refine AX.seq ?_
  refine AX.condF ?_
  refine AX.exit ?_
  refine nmZ ?_
  refine AX.sR (rgWV [3] (aI @hl oT) (aI c1 oT)) ?_
  simp only [Nat.zero_mul,Nat.zero_add,Nat.reduceAdd] at hset
  rw [hset]
  refine AX.sR (rgAV [2]) ?_
  refine AX.ret ⟨.inl rfl,?_⟩
  exact Done.slQ rfl rfl hl1.symm
set_option maxHeartbeats 16000000 in
theorem cmean_ok {T:T2} {n m:Nat} {a b:List V} {xs:List Rat} {q:Rat} (hl:T.length=n) (cc:PCall Tryz.prog 19 [smp T] (.tup [.agg [.i .i64 n,.i .i64 n,.sl a,.i .i64 n,.i .i64 m,.sl b],.i .i64 0]) [])
  (cs:PCall Tryz.prog 54 [.i .i64 n] (.sl (xs.map rV)) [])
  (ct:PCall Tryz.prog 57 [.agg [.i .i64 n,.i .i64 n,.sl a,.i .i64 n,.i .i64 m,.sl b],.sl (xs.map rV)] (.tup [rV q,.i .i64 0]) []) :
  PCall Tryz.prog 23 [smp T] (.tup [rV q,.i .i64 0]) []:=by
 have hml:=(nx_length T).trans hl
 refine PCall.of_ax Tryz.call23 Tryz.func23 rfl (by simp [Tryz.ntmps23]) fun O w=>?_
 simp only [Tryz.ntmps23,Tryz.results23,argFr]
 unfold smp at *
 unfold rV rR at ct
 generalize nx T=A at *
 refine AX.sR (rgAV [1,2]) ?_
 refine AX.sR (rgCV [1,2,4,5] (aI cc oT)) ?_
 refine AX.seq ?_
 refine AX.sR (rgAV [1,2,4,5,12]) ?_
 refine AX.condF ?_
 refine AX.keepA [1,2,4] ?_
 refine AX.skip ?_
 refine nmZ ?_
 refine AX.sD (rgDWV [2,3] (aI @hml oT) (aI cs (aI ct oT))) ?_
 refine AX.ret ⟨.inl rfl,?_⟩
 exact Done.cellE rfl rfl rfl
set_option maxHeartbeats 16000000 in
theorem cspread_ok {T:T2} {n m:Nat} {a b:List V} {xs d:List Rat} {q:Rat} (hl:T.length=n) (cc:PCall Tryz.prog 19 [smp T] (.tup [.agg [.i .i64 n,.i .i64 n,.sl a,.i .i64 n,.i .i64 m,.sl b],.i .i64 0]) [])
  (cs:PCall Tryz.prog 54 [.i .i64 n] (.sl (xs.map rV)) [])
  (ct:PCall Tryz.prog 53 [.agg [.i .i64 n,.i .i64 n,.sl a,.i .i64 n,.i .i64 m,.sl b],.sl (xs.map rV)] (.tup [.sl (d.map rV),rV q,.i .i64 0]) []) :
  PCall Tryz.prog 21 [smp T] (.tup [.sl (d.map rV),rV q,.i .i64 0]) []:=by
 have hml:=(nx_length T).trans hl
 refine PCall.of_ax Tryz.call21 Tryz.func21 rfl (by simp [Tryz.ntmps21]) fun O w=>?_
 simp only [Tryz.ntmps21,Tryz.results21,argFr]
 unfold smp at *
 unfold rV rR at ct
 generalize nx T=A at *
 refine AX.sR (rgAV [1,3]) ?_
 refine AX.sR (rgCV [1,3,5,6] (aI cc oT)) ?_
 refine AX.seq ?_
 refine AX.sR (rgAV [1,3,5,6,13]) ?_
 refine AX.condF ?_
 refine AX.keepA [1,3,5] ?_
 refine AX.skip ?_
 refine nmZ ?_
 refine AX.sD (rgDWV [2,3,4] (aI @hml oT) (aI cs (aI ct oT))) ?_
 refine AX.ret ⟨.inl rfl,?_⟩
 exact Done.spO rfl rfl rfl rfl
end Go.Proofs.YteidabibgjokkaaGreatDoor
