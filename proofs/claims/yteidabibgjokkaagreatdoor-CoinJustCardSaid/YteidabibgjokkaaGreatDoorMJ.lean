import Derived.Test.YteidabibgjokkaaGreatDoorMD
import Derived.Test.YteidabibgjokkaaGreatDoorMC
import Derived.Test.YteidabibgjokkaaGreatDoorHN
set_option maxRecDepth 20000
set_option linter.all false
namespace Go.Proofs.YteidabibgjokkaaGreatDoor
open Go Go.Proofs.YteidabibgjokkaaGreatDoor.Lift
attribute [local irreducible] Lift.PCall Lift.HCall
theorem name_list (f:Int→ByteArray)(l:List Int):(nameB f l).data.toList=l.flatMap fun x=>(f x).data.toList++[32]:=by
 have key:∀ (l:List Int) (s:ByteArray),(l.foldl (fun s x=>s++(f x++⟨#[32]⟩)) s).data.toList=s.data.toList++l.flatMap fun x=>(f x).data.toList++[32]:=by
  intro l
  induction l with
  | nil=>intro s;simp
  | cons a l ih=>
   intro s
   rw [List.foldl_cons,ih]
   simp [ByteArray.data_append]
 unfold nameB
 rw [key]
 simp
theorem name_inj1 {f:Int→ByteArray} {B:Int} (h1:∀ x,0≤x→x≤B→∃ c,(f x).data.toList=[c]) (h2:∀ x y,0≤x→x≤B→0≤y→y≤B→(f x).data.toList=(f y).data.toList→x=y) :
  ∀ a b:List Int,a.length=b.length→(∀ x ∈ a,0≤x∧x≤B)→(∀ x ∈ b,0≤x∧x≤B)→nameB f a=nameB f b→a=b:=by
 have key:∀ a b:List Int,a.length=b.length→(∀ x ∈ a,0≤x∧x≤B)→(∀ x ∈ b,0≤x∧x≤B)→(a.flatMap fun x=>(f x).data.toList++[32])=(b.flatMap fun x=>(f x).data.toList++[32])→a=b:=by
  intro a
  induction a with
  | nil=>
   intro b hl _ _ _
   exact (List.length_eq_zero_iff.1 hl.symm).symm
  | cons x a ih=>
   intro b hl ha hb h
   match b,hl with
   | y :: b,hl=>
    obtain ⟨x0,x1⟩:=ha x (List.mem_cons_self ..)
    obtain ⟨y0,y1⟩:=hb y (List.mem_cons_self ..)
    obtain ⟨c,hc⟩:=h1 x x0 x1
    obtain ⟨d,hd⟩:=h1 y y0 y1
    rw [List.flatMap_cons,List.flatMap_cons,hc,hd] at h
    simp only [List.cons_append,List.nil_append,List.cons.injEq,true_and] at h
    obtain ⟨h3,h4⟩:=h
    have e:x=y:=h2 x y x0 x1 y0 y1 (by rw [hc,hd,h3])
    rw [e,ih b (by simpa using hl) (fun z hz=>ha z (List.mem_cons_of_mem _ hz)) (fun z hz=>hb z (List.mem_cons_of_mem _ hz)) h4]
 intro a b hl ha hb h
 refine key a b hl ha hb ?_
 rw [← name_list,← name_list,h]
theorem it10_list {x:Int} (h0:0≤x)(h1:x≤2):(it10 x).data.toList=[UInt8.ofNat (48+x.toNat)]:=by
 obtain rfl | rfl | rfl:x=0∨x=1∨x=2:=by omega
 ·rfl
 ·rfl
 ·rfl
theorem make12_ok:PCall Tryz.prog 11 [.sl (wl [1,2])] (.tup [smp [(-2,1),(-1,0)],.i .i64 0]) []:=by
 have c:=make_walk it10 2 [1,2] (by decide +kernel) (by decide +kernel) (fun x h0 h1=>by
  have:=congrArg List.length (it10_list h0 h1)
  rw [Array.length_toList] at this
  have e:(it10 x).size=(it10 x).data.size:=rfl
  rw [e,this]
  exact (by decide:(1:Nat)≤20)) (fun x h0 h1=>by
  have:=itoa10_ok x.toNat (by omega)
  rw [Int.toNat_of_nonneg h0] at this
  exact this) (name_inj1 (fun x h0 h1=>⟨_,it10_list h0 h1⟩) (fun x y h0 h1 h2 h3 h=>by
  rw [it10_list h0 h1,it10_list h2 h3] at h
  obtain rfl | rfl | rfl:x=0∨x=1∨x=2:=by omega
  all_goals obtain rfl | rfl | rfl:y=0∨y=1∨y=2:=by omega
  all_goals first | rfl | exact absurd h (by decide)))
 have e:mkV [1,2]=.tup [smp [(-2,1),(-1,0)],.i .i64 0]:=by rfl
 rwa [e] at c
def T12:T2:=[(-2,1),(-1,0)]
theorem small12:Small 2 2 (chA T12) (chB T12) e1 where
 hn:=by decide
 hm:=by decide
 hA:=fun i k _ _=>Nat.le_trans (hM_len ..) (by decide)
 hB:=fun i k _ _=>Nat.le_trans (hM_len ..) (by decide)
 hC:=by decide +kernel
 hv:=fun i hi=>by unfold e1;split<;>decide
 hvL:=fun i hi=>by unfold e1;split<;>decide +kernel
theorem a12:chA T12 0 0=0∧chA T12 0 1=1 / 2∧chA T12 1 0=1 / 2∧chA T12 1 1=0:=by
 refine ⟨?_,?_,?_,?_⟩ <;> decide +kernel
theorem b12:chB T12 0 0=0∧chB T12 0 1=1 / 2∧chB T12 1 0=1 / 2∧chB T12 1 1=0:=by
 refine ⟨?_,?_,?_,?_⟩ <;> decide +kernel
theorem rch12 {i:Nat} (h:i<2):(chn 2 2 (chA T12) (chB T12)).Rch i:=by
 match i,h with
 | 0,_=>exact .exit (j:=1) (by decide) (by decide) (by show (0:Rat)<chB T12 0 1;rw [b12.2.1];decide +kernel)
 | 1,_=>exact .exit (j:=0) (by decide) (by decide) (by show (0:Rat)<chB T12 1 0;rw [b12.2.2.1];decide +kernel)
theorem sum2 (f:Nat→Rat):sumN 2 f=f 0+f 1:=by
 show (0+f 0)+f 1=_
 grind
theorem never12:neverQ 2 2 (chA T12) (chB T12) e1=0:=by
 have h:=small12.is
 have h0:=h.eq 0 0 (by decide) (by decide) (rch12 (by decide))
 have h1:=h.eq 0 1 (by decide) (by decide) (rch12 (by decide))
 have h2:=h.eq 1 0 (by decide) (by decide) (rch12 (by decide))
 have h3:=h.eq 1 1 (by decide) (by decide) (rch12 (by decide))
 have e:∀ i j,eachM 2 2 (chA T12) (chB T12) i j=eachM 2 2 (chA T12) (chB T12) i j:=fun _ _=>rfl
 obtain ⟨X,hX⟩:∃ X,eachM 2 2 (chA T12) (chB T12)=X:=⟨_,rfl⟩
 rw [hX] at h0 h1 h2 h3
 have h0:X 0 0=sumN 2 (fun k=>chA T12 0 k*X k 0)+chB T12 0 0:=h0
 have h1:X 0 1=sumN 2 (fun k=>chA T12 0 k*X k 1)+chB T12 0 1:=h1
 have h2:X 1 0=sumN 2 (fun k=>chA T12 1 k*X k 0)+chB T12 1 0:=h2
 have h3:X 1 1=sumN 2 (fun k=>chA T12 1 k*X k 1)+chB T12 1 1:=h3
 obtain ⟨p1,p2,p3,p4⟩:=a12
 obtain ⟨q1,q2,q3,q4⟩:=b12
 rw [sum2,p1,p2,q1] at h0
 rw [sum2,p1,p2,q2] at h1
 rw [sum2,p3,p4,q3] at h2
 rw [sum2,p3,p4,q4] at h3
 have e0:e1 0=1:=rfl
 have e1':e1 1=0:=rfl
 unfold neverQ
 rw [hX,sum2,sum2]
 have t0:thr 2 e1 X 0=e1 0*X 0 0+e1 1*X 1 0:=sum2 _
 have t1:thr 2 e1 X 1=e1 0*X 0 1+e1 1*X 1 1:=sum2 _
 rw [t0,t1,e0,e1']
 grind
theorem vis12:sumN 2 (visV 2 2 (chA T12) (chB T12) e1)=2:=by
 have h:=small12.isVis
 have h0:=h.eq 0 (by decide) (rch12 (by decide))
 have h1:=h.eq 1 (by decide) (rch12 (by decide))
 obtain ⟨x,hx⟩:∃ x,visV 2 2 (chA T12) (chB T12) e1=x:=⟨_,rfl⟩
 rw [hx] at h0 h1 ⊢
 have h0:x 0=e1 0+sumN 2 (fun k=>x k*chA T12 k 0):=h0
 have h1:x 1=e1 1+sumN 2 (fun k=>x k*chA T12 k 1):=h1
 obtain ⟨p1,p2,p3,p4⟩:=a12
 have e0:e1 0=1:=rfl
 have e1':e1 1=0:=rfl
 rw [sum2,p1,p3,e0] at h0
 rw [sum2,p2,p4,e1'] at h1
 rw [sum2]
 grind
theorem mean12_ok:PCall Tryz.prog 23 [smp T12] (.tup [rV 2,.i .i64 0]) []:=by
 have s:=small12
 have ct:=steps_ok' 2 2 38 100000 (by decide) (by decide) (chA T12) (chB T12) s.hC s.hA s.hB (by decide) (bigL8 (by decide)) (by decide) e1 s.hv (fun i hi=>Nat.le_trans (s.hvL i hi) (by decide)) s.hX (by decide) (by decide) (by decide) never12 s.visL
 rw [vis12] at ct
 have cc:=cchain_walk T12 (by decide +kernel) (by decide +kernel)
 have ex:exT T12=2:=by decide +kernel
 rw [ex] at cc
 exact cmean_ok (T:=T12) (n:=2) (m:=2) rfl cc (cstart_ok 2 (by decide) (by decide)) ct
theorem effBdm (x y:Operand):eff Tryz.prog (.build 64 #[(0,x),(1,y)]) [.i .i64 (-2),.i .i64 1]=some (.val (.agg [.i .i64 (-2),.i .i64 1])):=by kernel_rfl
theorem effIx12 (x y:Operand):eff Tryz.prog (.indexAddr 23 x y) [.sl [.agg [.i .i64 (-2),.i .i64 1],.agg [.i .i64 (-1),.i .i64 0]],.i .i64 0]=some (.val (.rp [.i .i64 (-2),.i .i64 1])):=effIx2 (els:=nx [(-2,1),(-1,0)]) (j:=0) (by decide) rfl
set_option maxHeartbeats 4000000 in
theorem calive_walk (s:Bool) (a b:List Nat) (c1:PCall Tryz.prog 11 [.sl [.i .i64 1,.i .i64 2]] (.tup [.agg [.sl [.agg [.i .i64 (-2),.i .i64 1],.agg [.i .i64 (-1),.i .i64 0]]],.i .i64 0]) [])
  (c2:PCall Tryz.prog 23 [.agg [.sl [.agg [.i .i64 (-2),.i .i64 1],.agg [.i .i64 (-1),.i .i64 0]]]] (.tup [.agg [.b s,dg a,dg b],.i .i64 0]) [])
  (c3:PCall Tryz.prog 33 [.i .i64 2,.i .i64 1] (.tup [.agg [.b s,dg a,dg b],.i .i64 0]) []) (c4:PCall Tryz.prog 27 [.agg [.b s,dg a,dg b],.agg [.b s,dg a,dg b]] (.b true) []):PCall Tryz.prog 17 [] (.b true) []:=by
 refine PCall.of_ax Tryz.call17 Tryz.func17 rfl (by simp [Tryz.ntmps17]) fun O w0=>?_
 simp only [Tryz.ntmps17,Tryz.results17,argFr]
 refine AX.sR (rgAV []) ?_
 apply AX.sreg [1,2] (by simp only [pq];rfl)
 ·repeat (first
 |(apply RunO.op rfl;· rfl
   ·(simp only [opsOf,valsOf,valOf,lkp,ofConst,ofCell,Array.toList,Option.toList,List.map_cons,List.map_nil,List.cons_append,List.nil_append,List.append_nil,Nat.reduceEqDiff,Nat.reducePow,Nat.reduceLT,Nat.reduceLeDiff,reduceIte,if_true,if_false,IntKind.min,IntKind.max,IntKind.bits,IntKind.signed,Int.reduceLE,Int.reduceNeg,Int.reducePow,Int.reduceSub,and_self,Bool.false_eq_true,Nat.reduceSub];rfl)
   iterate 2 (· (simp (disch:=omega) only [go_sem,i64_of,u32_of,u64_of,Nat.reduceLT,Nat.reduceLeDiff,Nat.reduceEqDiff,Nat.reduceAdd,Nat.reduceSub,Nat.reduceMul,Nat.reducePow,Nat.reduceBEq,Int.reduceLE,Int.reduceLT,Int.reduceToNat,Int.reduceEq,Int.reduceNeg,↓reduceIte,reduceCtorEq,List.replicate_succ,List.replicate_zero,tkS,tk0];rfl))
   ·(simp only [pb,Nat.reduceLT,Nat.reduceAdd,reduceIte];rfl))
 |(apply RunO.call rfl;· rfl
   ·(simp only [opsOf,valsOf,valOf,lkp,ofConst,ofCell,Array.toList,Option.toList,List.map_cons,List.map_nil,List.cons_append,List.nil_append,List.append_nil,Nat.reduceEqDiff,Nat.reducePow,Nat.reduceLT,Nat.reduceLeDiff,reduceIte,if_true,if_false,IntKind.min,IntKind.max,IntKind.bits,IntKind.signed,Int.reduceLE,Int.reduceNeg,Int.reducePow,Int.reduceSub,and_self,Bool.false_eq_true,Nat.reduceSub];rfl)
   ·(simp (disch:=omega) only [go_sem,i64_of,u32_of,u64_of,Nat.reduceLT,Nat.reduceLeDiff,Nat.reduceEqDiff,Nat.reduceAdd,Nat.reduceSub,Nat.reduceMul,Nat.reducePow,Nat.reduceBEq,Int.reduceLE,Int.reduceLT,Int.reduceToNat,Int.reduceEq,Int.reduceNeg,↓reduceIte,reduceCtorEq,List.replicate_succ,List.replicate_zero,tkS,tk0];rfl)
   ·rfl
   ·(first | exact c1)
   ·(simp (disch:=omega) only [go_sem,i64_of,u32_of,u64_of,Nat.reduceLT,Nat.reduceLeDiff,Nat.reduceEqDiff,Nat.reduceAdd,Nat.reduceSub,Nat.reduceMul,Nat.reducePow,Nat.reduceBEq,Int.reduceLE,Int.reduceLT,Int.reduceToNat,Int.reduceEq,Int.reduceNeg,↓reduceIte,reduceCtorEq,List.replicate_succ,List.replicate_zero,tkS,tk0];rfl)
   ·(simp only [pb,Nat.reduceLT,Nat.reduceAdd,reduceIte];rfl))
 |(apply RunO.skip;· rfl
   ·(simp only [pb,Nat.reduceLT,Nat.reduceAdd,reduceIte];rfl)))
  exact RunO.nil
 ·repeat (first | exact Keep.nil | (apply Keep.take;· rfl) | (apply Keep.drop;· rfl))
 refine AX.sR (rgCV [1,2,3,4] (aI c2 oT)) ?_
 refine AX.sR (rgCV [1,2,3,4,5] (aI c3 oT)) ?_
 refine AX.sR (rgEV [0] oT (aI c4 oT) (aI effBdm (aI effIx12 oT))) ?_
 refine AX.ret ⟨.inl rfl,?_⟩
 exact Done.one rfl rfl rfl rfl
theorem calive_ok:PCall Tryz.prog 17 [] (.b true) []:=by
 have h2:rL (2:Rat)≤1:=by decide +kernel
 have c3:PCall Tryz.prog 33 [.i .i64 2,.i .i64 1] (.tup [rV (rq false 2 1),.i .i64 0]) []:=pmake_ok 2 1 (by decide) (by decide)
 rw [show rq false 2 1=2 by decide +kernel] at c3
 have c4:PCall Tryz.prog 27 [rV 2,rV 2] (.b (decide ((2:Rat)=2))) []:=psame_ok (IsQ.of h2) (IsQ.of h2) (by decide) (by decide)
 rw [decide_eq_true rfl] at c4
 exact calive_walk (decide ((2:Rat).num<0)) (digits (2:Rat).num.natAbs) (digits (2:Rat).den) make12_ok mean12_ok c3 c4
end Go.Proofs.YteidabibgjokkaaGreatDoor
