import Derived.Test.YteidabibgjokkaaGreatDoorGF
set_option maxRecDepth 20000
set_option linter.all false
namespace Go.Proofs.YteidabibgjokkaaGreatDoor
open Go Go.Proofs.YteidabibgjokkaaGreatDoor.Lift
attribute [local irreducible] Lift.PCall Lift.HCall
def right (l:List Nat):Bool:=decide (l.length=0∨l.getD (l.length-1) 0≠0)
theorem right_0 {l:List Nat} (h:l.length=0):right l=true:=decide_eq_true (.inl h)
theorem right_t {l:List Nat} (h:¬ l.getD (l.length-1) 0=0):right l=true:=decide_eq_true (.inr h)
theorem right_f {l:List Nat} (h:¬ l.length=0)(h1:l.getD (l.length-1) 0=0):right l=false:=decide_eq_false (by rintro (h2 | h2);exact h h2;exact h2 h1)
theorem right_ok (l:List Nat)(hl:l.length<2 ^ 40):PCall Tryz.prog 146 [dg l] (.b (right l)) []:=by
 refine PCall.of_ax Tryz.call146 Tryz.func146 rfl (by simp [Tryz.ntmps146]) fun O w=>?_
 simp only [Tryz.ntmps146,Tryz.results146,argFr]
 refine AX.sR (rgA [0]) ?_
 by_cases h:l.length=0
 ·refine AX.sR (rgA [2]) ?_
  refine AX.ret ⟨.inl rfl,?_⟩
  rw [right_0 h]
  exact Done.one rfl (by simp only [frz];rfl) rfl rfl
 ·have h1:((l.length:Nat):Int)-1=((l.length-1:Nat):Int):=by omega
  by_cases hz:l.getD (l.length-1) 0=0
  ·refine AX.sR (rgW [2] (aI @h1 (aI @hz oT)) oT) ?_
   refine AX.ret ⟨.inl rfl,?_⟩
   rw [right_f h hz]
   exact Done.one rfl (by simp only [frz];rfl) rfl rfl
  ·refine AX.sR (rgW [2] (aI @h1 oT) oT) ?_
   refine AX.ret ⟨.inl rfl,?_⟩
   rw [right_t hz]
   exact Done.one rfl (by simp only [frz];rfl) rfl rfl
theorem ntrim_ok (l:List Nat)(hd:Dg l)(hl:l.length<2 ^ 40):PCall Tryz.prog 128 [dg l] (nv (val l)) []:=by
 have:=trim_ok l hl
 rwa [trim_eq hd] at this
theorem of_ok (n:Nat)(hn:n<18446744073709551616):PCall Tryz.prog 113 [.i .u64 n] (nv n) []:=by
 have hv:val [n % 4294967296,n / 4294967296]=n:=by simp only [val];omega
 have hd:Dg [n % 4294967296,n / 4294967296]:=by
  intro x hx
  simp at hx
  omega
 refine PCall.of_ax Tryz.call113 Tryz.func113 rfl (by simp [Tryz.ntmps113]) fun O w=>?_
 simp only [Tryz.ntmps113,Tryz.results113,argFr]
 have h1:=ntrim_ok _ hd (by simp)
 rw [hv] at h1
 have h2:=clone_ok (digits n) (by have:=digits_length_le (n:=n) (k:=2) (by omega);omega)
 refine AX.sR (rgA [0]) ?_
 have hm:n / 4294967296 % 4294967296=n / 4294967296:=Nat.mod_eq_of_lt (by omega)
 refine AX.sR (rgW [2] (aI @shr32 (aI @u32n (aI @hm oT))) (aI h1 (aI h2 oT))) ?_
 refine AX.ret ⟨.inl rfl,?_⟩
 exact Done.sl rfl
theorem cmp_ok (a b:List Nat)(ha:Dg a)(hb:Dg b)(hla:a.length<2 ^ 40)(hlb:b.length<2 ^ 40):PCall Tryz.prog 87 [dg a,dg b] (.i .i64 (cmp (val a) (val b))) []:=by
 refine PCall.of_ax Tryz.call87 Tryz.func87 rfl (by simp [Tryz.ntmps87]) fun O w=>?_
 simp only [Tryz.ntmps87,Tryz.results87,argFr]
 have c1:=ntrim_ok a ha hla
 have c2:=ntrim_ok b hb hlb
 have hma:=digits_length_val ha
 have hmb:=digits_length_val hb
 generalize val a=m at *
 generalize val b=n at *
 refine AX.sR (rgA [0,1]) ?_
 refine AX.sR (rgC [0,1] (aI c1 (aI c2 oT))) ?_
 refine AX.seq ?_
 refine AX.block ?_
 by_cases h1:(digits m).length<(digits n).length
 ·refine AX.sR (rgA [0,1,10]) ?_
  refine AX.condT ?_
  refine AX.sR (rgA [4]) ?_
  refine AX.ret ⟨.inl rfl,?_⟩
  rw [cmp_lt (digits_len_lt h1)]
  exact Done.one rfl (by simp only [frz];rfl) rfl rfl
 refine AX.sR (rgA [0,1,10]) ?_
 refine AX.condF ?_
 by_cases h2:(digits n).length<(digits m).length
 ·refine AX.sR (rgA [0,1,16]) ?_
  refine AX.condT ?_
  refine AX.sR (rgA [4]) ?_
  refine AX.ret ⟨.inl rfl,?_⟩
  rw [cmp_gt (digits_len_lt h2)]
  exact Done.one rfl (by simp only [frz];rfl) rfl rfl
 refine AX.sR (rgA [0,1,16]) ?_
 refine AX.condF ?_
 refine AX.skip ?_
 refine nmZ ?_
 refine AX.seq ?_
 refine AX.sR (rgA [0,1,5]) ?_
 refine AX.block ?_
 have hl:(digits m).length=(digits n).length:=by omega
 refine AX.loop (fun N st=>∃ k:Nat,k≤(digits m).length∧N=k∧(∀ j,k≤j→j<(digits m).length→(digits m).getD j 0=(digits n).getD j 0)∧st=⟨[(5,.i .i64 ((k:Int)-1)),(1,nv n),(0,nv m)],[],0⟩) (digits m).length ⟨(digits m).length,Nat.le_refl _,rfl,fun j h1 h2=>absurd h2 (Nat.not_lt.2 h1),rfl⟩ ?_
 rintro N st ⟨k,hk,rfl,hj,rfl⟩
 refine AX.seq ?_
 cases N with
 | zero=>
  refine AX.sR (rgA [0,1,5,26]) ?_
  refine AX.condF ?_
  refine AX.exit ?_
  refine nmZ ?_
  refine AX.sR (rgA [4]) ?_
  refine AX.ret ⟨.inl rfl,?_⟩
  have:=digits_inj (eq_of_getD hl fun j h=>hj j (Nat.zero_le _) h)
  subst this
  rw [cmp_eq]
  exact Done.one rfl (by simp only [frz];rfl) rfl rfl
 | succ k=>
  have e1:((k+1:Nat):Int)-1=(k:Int):=by omega
  rw [e1]
  refine AX.sR (rgA [0,1,5,26]) ?_
  refine AX.condT ?_
  refine AX.skip ?_
  refine nmZ ?_
  refine AX.seq ?_
  refine AX.block ?_
  refine AX.block ?_
  by_cases h3:(digits m).getD k 0<(digits n).getD k 0
  ·refine AX.sD (rgDA [0,1,5,29]) ?_
   refine AX.condT ?_
   refine AX.sR (rgA [4]) ?_
   refine AX.ret ⟨.inl rfl,?_⟩
   have:=val_lt_at (Dg_digits m) (Dg_digits n) hl (i:=k) (by omega) (fun j h1 h2=>hj j (by omega) h2) h3
   rw [val_digits,val_digits] at this
   rw [cmp_lt this]
   exact Done.one rfl (by simp only [frz];rfl) rfl rfl
  ·refine AX.sD (rgDA [0,1,5,29]) ?_
   refine AX.condF ?_
   by_cases h4:(digits n).getD k 0<(digits m).getD k 0
   ·refine AX.sD (rgDA [0,1,5,39]) ?_
    refine AX.condT ?_
    refine AX.sR (rgA [4]) ?_
    refine AX.ret ⟨.inl rfl,?_⟩
    have:=val_lt_at (Dg_digits n) (Dg_digits m) hl.symm (i:=k) (by omega) (fun j h1 h2=>(hj j (by omega) (by omega)).symm) h4
    rw [val_digits,val_digits] at this
    rw [cmp_gt this]
    exact Done.one rfl (by simp only [frz];rfl) rfl rfl
   ·refine AX.sD (rgDA [0,1,5,39]) ?_
    refine AX.condF ?_
    refine AX.skip ?_
    refine nmZ ?_
    refine AX.rR (rgA [0,1,5]) ?_
    refine nmZ ?_
    refine ⟨_,_,id,?_,
     leA
     , ⟨k,by omega,rfl,?_,rfl⟩⟩
    ·omega
    ·intro j h1 h2
     by_cases e:j=k
     ·subst e;omega
     ·exact hj j (by omega) h2
theorem len32_ok (x:Nat)(hx:x<4294967296):PCall Tryz.prog 163 [.i .u32 x] (.i .i64 (blen x)) []:=by
 refine PCall.of_ax Tryz.call163 Tryz.func163 rfl (by simp [Tryz.ntmps163]) fun O w=>?_
 simp only [Tryz.ntmps163,Tryz.results163,argFr]
 refine AX.sR (rgA [0,2]) ?_
 refine AX.cut (fun st=>∃ (c y:Nat),y<65536∧c≤16∧blen x=c+blen y∧st=⟨[(2,.i .i64 c),(0,.i .u32 y)],[],0⟩) ?_ ?_
 ·by_cases h:65536≤x
  ·refine AX.sR (rgA [0,2,4]) ?_
   refine AX.condT ?_
   refine AX.sR (rgW [0,2] (aI @shr_nat oT) oT) ?_
   refine AX.rR (rgA [0,2]) ?_
   have:=blen_shift (n:=x) 16 (by simp;omega)
   exact ⟨rfl,16,x / 2 ^ 16,by omega,by omega,by omega,rfl⟩
  ·refine AX.sR (rgA [0,2,4]) ?_
   refine AX.condF ?_
   refine AX.keepA [0,2] ?_
   refine AX.skip ?_
   exact ⟨rfl,0,x,by omega,by omega,by omega,rfl⟩
 ·rintro st ⟨c,y,hy,hc,hb,rfl⟩
  refine AX.cut (fun st=>∃ (c y:Nat),y<256∧c≤24∧blen x=c+blen y∧st=⟨[(2,.i .i64 c),(0,.i .u32 y)],[],0⟩) ?_ ?_
  ·by_cases h:256≤y
   ·refine AX.sR (rgA [0,2,8]) ?_
    refine AX.condT ?_
    refine AX.sR (rgW [0,2] (aI @shr_nat oT) oT) ?_
    refine AX.rR (rgA [0,2]) ?_
    have:=blen_shift (n:=y) 8 (by simp;omega)
    exact ⟨rfl,c+8,y / 2 ^ 8,by omega,by omega,by omega,rfl⟩
   ·refine AX.sR (rgA [0,2,8]) ?_
    refine AX.condF ?_
    refine AX.keepA [0,2] ?_
    refine AX.skip ?_
    exact ⟨rfl,c,y,by omega,by omega,by omega,rfl⟩
  ·rintro st ⟨c,y,hy,hc,hb,rfl⟩
   have hb1:blen y≤8:=blen_le (by omega)
   apply AX.sreg [2] (by simp only [pq];rfl)
   ·repeat (first
   |(apply RunO.op rfl;· rfl
     ·first | exact valsStr (by kernel_rfl) rfl | rfl
     ·first | exact effIdx Tryz.underlying9 (by kernel_rfl) hy | (simp (disch:=omega) only [go_sem,i64_of,u32_of,u64_of,Nat.reduceLT,Nat.reduceLeDiff,Nat.reduceEqDiff,Nat.reduceAdd,Nat.reduceSub,Nat.reduceMul,Nat.reducePow,Nat.reduceBEq,Int.reduceLE,Int.reduceLT,Int.reduceToNat,Int.reduceEq,Int.reduceNeg,↓reduceIte,reduceCtorEq,u8n];rfl)
     ·(simp (disch:=omega) only [go_sem,i64_of,u32_of,u64_of,Nat.reduceLT,Nat.reduceLeDiff,Nat.reduceEqDiff,Nat.reduceAdd,Nat.reduceSub,Nat.reduceMul,Nat.reducePow,Nat.reduceBEq,Int.reduceLE,Int.reduceLT,Int.reduceToNat,Int.reduceEq,Int.reduceNeg,↓reduceIte,reduceCtorEq,u8n];rfl)
     ·(simp only [pb,Nat.reduceLT,Nat.reduceAdd,reduceIte];rfl))
   |(apply RunO.skip;· rfl
     ·(simp only [pb,Nat.reduceLT,Nat.reduceAdd,reduceIte];rfl)))
    exact RunO.nil
   ·repeat (first | exact Keep.nil | (apply Keep.take;· rfl) | (apply Keep.drop;· rfl))
   refine AX.ret ⟨.inl rfl,?_⟩
   rw [tab_fact (by kernel_rfl) hy,i64n _ (by omega),← Int.natCast_add,i64n _ (by omega),← hb]
   exact Done.one rfl (by simp only [frz];rfl) rfl rfl
theorem add_ok (a b:List Nat)(ha:Dg a)(hb:Dg b)(hla:a.length<2 ^ 39)(hlb:b.length<2 ^ 39):PCall Tryz.prog 86 [dg a,dg b] (nv (val a+val b)) []:=by
 refine PCall.of_ax Tryz.call86 Tryz.func86 rfl (by simp [Tryz.ntmps86]) fun O w=>?_
 simp only [Tryz.ntmps86,Tryz.results86,argFr]
 have c1:=ntrim_ok a ha (by omega)
 have c2:=ntrim_ok b hb (by omega)
 have hma:=digits_length_val ha
 have hmb:=digits_length_val hb
 generalize val a=m at *
 generalize val b=n at *
 refine AX.sR (rgAV [0,1]) ?_
 refine AX.sR (rgCV [0,1] (aI c1 (aI c2 oT))) ?_
 refine AX.cut (fun st=>∃ x y:Nat,x+y=m+n∧(digits y).length≤(digits x).length∧(digits x).length<2 ^ 39∧st=⟨[(1,nv y),(0,nv x)],[],0⟩) ?_ ?_
 ·by_cases h:(digits m).length<(digits n).length
  ·refine AX.sR (rgAV [0,1,17]) ?_
   refine AX.condT ?_
   refine AX.rR (rgAV [0,1]) ?_
   exact ⟨rfl,n,m,Nat.add_comm ..,by omega,by omega,rfl⟩
  ·refine AX.sR (rgAV [0,1,17]) ?_
   refine AX.condF ?_
   refine AX.keepA [0,1] ?_
   refine AX.skip ?_
   exact ⟨rfl,m,n,rfl,by omega,by omega,rfl⟩
 rintro st ⟨x,y,hxy,hl,hlx,rfl⟩
 rw [← hxy]
 clear c1 c2 hma hmb hxy
 have hdx:=Dg_digits x
 have hdy:=Dg_digits y
 refine AX.sR (rgWV [0,1,5] (aI @lit_add oT) oT) ?_
 refine AX.sR (rgAV [0,1,5,6]) ?_
 refine AX.seq ?_
 refine AX.sR (rgAV [0,1,5,6,24,25,26]) ?_
 refine AX.block ?_
 refine AX.loop (fun N st=>∃ (i c:Nat) (o:List Nat),N=(digits x).length-i∧i≤(digits x).length∧o.length=i∧Dg o∧c≤1∧val o+4294967296 ^ i*c=val ((digits x).take i)+val ((digits y).take i) ∧
  st=⟨[(26,.i .i64 i),(25,.i .i64 (digits x).length),(24,nv x),(6,.i .u64 c),(5,.own 0 0 i 1),(1,nv y),(0,nv x)],[(0,⟨142,o.map u⟩)],1⟩) (digits x).length ⟨0,0,[],rfl,Nat.zero_le _,rfl,Dg_nil,by omega,by simp [val],rfl⟩ ?_
 rintro N st ⟨i,c,o,rfl,hi,ho,hdo,hc,hval,rfl⟩
 by_cases h:i<(digits x).length
 ·refine AX.sR (rgAV [0,1,5,6,24,25,26,27]) ?_
  refine AX.seq ?_
  refine AX.condT ?_
  refine AX.skip ?_
  refine nmZ ?_
  refine AX.seq ?_
  refine AX.block ?_
  have hx:=Dg_getD hdx i
  have hy:=Dg_getD hdy i
  refine AX.sR (rgAV [0,1,5,6,7,8,24,25,26]) ?_
  refine AX.sR (rgWV [0,1,5,6,7,24,25,26] (aI @cAdd oT) oT) ?_
  refine AX.cut (fun st=>st=⟨[(6,.i .u64 (c+(digits x).getD i 0+(digits y).getD i 0:Nat)),(7,.i .i64 i),(26,.i .i64 i),(25,.i .i64 (digits x).length),(24,nv x),(5,.own 0 0 i 1),(1,nv y),(0,nv x)],[(0,⟨142,o.map u⟩)],1⟩) ?_ ?_
  ·by_cases h2:i<(digits y).length
   ·refine AX.sR (rgAV [0,1,5,6,7,24,25,26,38]) ?_
    refine AX.condT ?_
    refine AX.rR (rgWV [0,1,5,6,7,24,25,26] (aI @cAdd oT) oT) ?_
    exact ⟨rfl,rfl⟩
   ·refine AX.sR (rgAV [0,1,5,6,7,24,25,26,38]) ?_
    refine AX.condF ?_
    refine AX.keepA [0,1,5,6,7,24,25,26] ?_
    refine AX.skip ?_
    rw [getD_out (l:=digits y) (by omega)]
    exact ⟨rfl,rfl⟩
  rintro st rfl
  generalize hs:c+(digits x).getD i 0+(digits y).getD i 0=s
  refine AX.sR (rgWV [0,1,5,6,24,25,26] (aI @u32n oT) oT) ?_
  refine AX.rR (rgWV [0,1,5,6,24,25,26] (aI @shr32 oT) oT) ?_
  refine nmZ ?_
  refine AX.rR (rgWV [0,1,5,6,24,25,26] (aI @lit_add oT) oT) ?_
  refine nmZ ?_
  refine ⟨(digits x).length-(i+1),_,fun _=>2,by omega,
   leA
   , ⟨i+1,s / 4294967296,o++[s % 4294967296],rfl,by omega,by simp [ho],?_,by omega,?_,rfl⟩⟩
  ·rw [Dg_append,Dg_cons];exact ⟨hdo,Nat.mod_lt _ (by omega),Dg_nil⟩
  ·rw [sum_step ho (by omega),val_take_step,val_take_step,← hs,Nat.mul_add,Nat.mul_add]
   omega
 ·refine AX.sR (rgAV [0,1,5,6,24,25,26,27]) ?_
  refine AX.seq ?_
  refine AX.condF ?_
  refine AX.exit ?_
  refine nmZ ?_
  have hi':i=(digits x).length:=by omega
  have hd2:Dg (o++[c]):=by rw [Dg_append,Dg_cons];exact ⟨hdo,by omega,Dg_nil⟩
  have c3:=ntrim_ok (o++[c]) hd2 (by simp;omega)
  have hv:val (o++[c])=x+y:=by
   rw [val_append,ho]
   simp only [val,Nat.mul_zero,Nat.add_zero]
   rw [hval,hi',List.take_length,val_digits,List.take_of_length_le hl,val_digits]
  rw [hv] at c3
  have hcm:c % 4294967296=c:=Nat.mod_eq_of_lt (by omega)
  refine AX.sR (rgWV [4] (aI @u32n (aI @hcm oT)) (aI c3 oT)) ?_
  refine AX.ret ⟨.inl rfl,?_⟩
  exact Done.sl rfl
end Go.Proofs.YteidabibgjokkaaGreatDoor
