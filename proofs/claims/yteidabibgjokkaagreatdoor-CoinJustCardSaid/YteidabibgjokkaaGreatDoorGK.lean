import Derived.Test.YteidabibgjokkaaGreatDoorGJ
set_option maxRecDepth 20000
set_option linter.all false
namespace Go.Proofs.YteidabibgjokkaaGreatDoor
open Go Go.Proofs.YteidabibgjokkaaGreatDoor.Lift
attribute [local irreducible] Lift.PCall Lift.HCall
theorem Lift.Done.ownRow {P:Program} {st:St} {t:Tmp} {h len:Nat} {l:List Nat} {T:TypeId} (h1:lkp st.fr t=some (.own h 0 len 1))(h2:lkp st.hp h=some ⟨T,l.map u⟩):Done P #[.tmp t] (.own 0 0 len 1) [⟨T,l.map u⟩] st:=by
 refine ⟨[.own h 0 len 1],by simp [resVs,resV,h1],[h],fun _=>h,.own h 0 len 1,st.hp,?_,rfl,rfl,?_,?_⟩
 ·simp [packV,frz]
 ·intro k q hq
  cases k with
  | zero=>
   simp at hq
   subst hq
   refine ⟨?_,ltL_u _ _⟩
   rw [h2]
   simp only [Row.ren,renL_u]
  | succ k=>simp at hq
 ·intro k k' hk hk' _
  simp at hk hk'
  omega
theorem or32 {a b s:Nat} (ha:a<2 ^ s)(hs:s≤31)(hb:b*2 ^ s<4294967296):orI .u32 (a:Int) ((b*2 ^ s:Nat):Int)=((a+b*2 ^ s:Nat):Int):=by
 show (((BitVec.ofInt 32 (a:Int) ||| BitVec.ofInt 32 ((b*2 ^ s:Nat):Int)).toNat:Nat):Int)=_
 have hp:2 ^ s≤2 ^ 31:=Nat.pow_le_pow_right (by omega) hs
 rw [BitVec.toNat_or,BitVec.toNat_ofInt,BitVec.toNat_ofInt]
 have e1:((a:Int) % ((2 ^ 32:Nat):Int)).toNat=a:=by
  rw [← Int.natCast_emod,Int.toNat_natCast,Nat.mod_eq_of_lt (by omega)]
 have e2:(((b*2 ^ s:Nat):Int) % ((2 ^ 32:Nat):Int)).toNat=b*2 ^ s:=by
  rw [← Int.natCast_emod,Int.toNat_natCast,Nat.mod_eq_of_lt (by omega)]
 rw [e1,e2,Nat.or_comm,← Nat.shiftLeft_eq,← Nat.shiftLeft_add_eq_or_of_lt ha,Nat.shiftLeft_eq,Nat.add_comm]
theorem shl_nat (x s:Nat):(x:Int)*2 ^ s=((x*2 ^ s:Nat):Int):=by simp
theorem shl_mod {x s:Nat} (hs:s≤31):x*2 ^ s % 4294967296=x % 2 ^ (32-s)*2 ^ s:=by
 have:(4294967296:Nat)=2 ^ (32-s)*2 ^ s:=by
  rw [← Nat.pow_add,show 32-s+s=32 by omega]
 rw [this,Nat.mul_mod_mul_right]
theorem shl_high {x s:Nat} (hs:s≤31)(hx:x<4294967296):x*2 ^ s / 4294967296<2 ^ s:=by
 rw [Nat.div_lt_iff_lt_mul (by omega),Nat.mul_comm (2 ^ s)]
 exact Nat.mul_lt_mul_of_pos_right hx (Nat.pow_pos (by omega))
def pad (K n:Nat):List Nat:=digits n++List.replicate (K-(digits n).length) 0
theorem eq_of_val:∀ (a b:List Nat),Dg a→Dg b→a.length=b.length→val a=val b→a=b:=by
 intro a
 induction a with
 | nil=>intro b _ _ hl _;exact (List.eq_nil_of_length_eq_zero hl.symm).symm
 | cons x a ih=>
  intro b ha hb hl hv
  cases b with
  | nil=>simp at hl
  | cons y b=>
   rw [Dg_cons] at ha hb
   simp only [val] at hv
   have h1:=ha.1
   have h2:=hb.1
   have e1:x=y:=by omega
   subst e1
   rw [ih b ha.2 hb.2 (by simpa using hl) (by omega)]
theorem pad_val {K n:Nat}:val (pad K n)=n:=by
 unfold pad
 rw [val_append,val_digits,val_replicate]
 simp
theorem pad_Dg {K n:Nat}:Dg (pad K n):=by
 unfold pad
 rw [Dg_append]
 exact ⟨Dg_digits n,Dg_replicate _⟩
theorem pad_length {K n:Nat} (h:n<4294967296 ^ K):(pad K n).length=K:=by
 unfold pad
 have:=digits_length_le h
 simp
 omega
theorem pad_eq {r:List Nat} (h:Dg r):r=pad r.length (val r):=
 eq_of_val _ _ h pad_Dg (pad_length (val_lt h)).symm pad_val.symm
theorem set_zero_val {r:List Nat} {j v:Nat} (h:j<r.length)(h0:r.getD j 0=0):val (r.set j v)=val r+4294967296 ^ j*v:=by
 have:=val_set r j v h
 rw [h0] at this
 omega
theorem shifted_ok (l:List Nat)(s:Nat)(hd:Dg l)(hl:l.length<2 ^ 38)(hs:s≤31):PCall Tryz.prog 152 [dg l,.i .u64 s] (.own 0 0 (l.length+1) 1) [⟨142,(pad (l.length+1) (val l*2 ^ s)).map u⟩]:=by
 refine PCall.of_ax Tryz.call152 Tryz.func152 rfl (by simp [Tryz.ntmps152]) fun O w=>?_
 simp only [Tryz.ntmps152,Tryz.results152,argFr]
 have hp1:2 ^ s≤2 ^ 31:=Nat.pow_le_pow_right (by omega) hs
 have hp0:0<2 ^ s:=Nat.pow_pos (by omega)
 have m1:min s 32=s:=Nat.min_eq_left (by omega)
 have m2:min s 64=s:=Nat.min_eq_left (by omega)
 refine AX.sR (rgA [0,1]) ?_
 apply AX.sreg [0,1,5] (by simp only [pq];rfl)
 ·repeat (first
 |(apply RunO.op rfl;· rfl
   ·rfl
   iterate 2 (· (simp (disch:=omega) only [go_sem,i64_of,u32_of,u64_of,Nat.reduceLT,Nat.reduceLeDiff,Nat.reduceEqDiff,Nat.reduceAdd,Nat.reduceSub,Nat.reduceMul,Nat.reducePow,Nat.reduceBEq,Int.reduceLE,Int.reduceLT,Int.reduceToNat,Int.reduceEq,Int.reduceNeg,↓reduceIte,reduceCtorEq,lit_add];rfl))
   ·(simp only [pb,Nat.reduceLT,Nat.reduceAdd,reduceIte];rfl))
 |(apply RunO.skip;· rfl
   ·(simp only [pb,Nat.reduceLT,Nat.reduceAdd,reduceIte];rfl)))
  exact RunO.nil
 ·repeat (first | exact Keep.nil | (apply Keep.take;· rfl) | (apply Keep.drop;· rfl))
 refine AX.seq ?_
 refine AX.sR (rgA [0,1,5,12,13,14]) ?_
 refine AX.block ?_
 refine AX.loop (fun N st=>∃ (i:Nat) (r:List Nat),N=l.length-i∧i≤l.length∧r.length=l.length+1∧Dg r∧r.getD i 0<2 ^ s∧(∀ j,i<j→r.getD j 0=0)∧val r=val (l.take i)*2 ^ s ∧
  st=⟨[(14,.i .i64 i),(13,.i .i64 l.length),(12,dg l),(5,.own 0 0 (l.length+1) 1),(0,dg l),(1,.i .u64 s)],[(0,⟨142,r.map u⟩)],1⟩) l.length ⟨0,List.replicate (l.length+1) 0,rfl,Nat.zero_le _,by simp,Dg_replicate _,by simpa using hp0,fun j _=>by simp [List.getD_eq_getElem?_getD,List.getElem?_replicate];split<;>rfl,by simp [val,val_replicate],rfl⟩ ?_
 rintro N st ⟨i,r,rfl,hi,hr,hdr,hri,hz,hval,rfl⟩
 by_cases h:i<l.length
 ·refine AX.sR (rgA [0,1,5,12,13,14,15]) ?_
  refine AX.seq ?_
  refine AX.condT ?_
  refine AX.keepA [0,1,5,12,13,14] ?_
  refine AX.skip ?_
  refine nmZ ?_
  refine AX.seq ?_
  refine AX.block ?_
  have hx:=Dg_getD hd i
  have htk:=val_take_step l i
  generalize hxx:l.getD i 0=x at *
  generalize hrr:r.getD i 0=ri at *
  have e1:=shl_mod (x:=x) hs
  have hb2:x % 2 ^ (32-s)<2 ^ (32-s):=Nat.mod_lt _ (Nat.pow_pos (by omega))
  have hb3:(x % 2 ^ (32-s)+1)*2 ^ s≤2 ^ (32-s)*2 ^ s:=Nat.mul_le_mul_right _ hb2
  rw [← Nat.pow_add,show 32-s+s=32 by omega,Nat.add_mul,Nat.one_mul] at hb3
  have hor:=or32 (a:=ri) (b:=x % 2 ^ (32-s)) hri hs (by omega)
  have hhi:=shl_high hs hx
  have hx64:x*2 ^ s≤4294967295*2 ^ 31:=Nat.mul_le_mul (by omega) hp1
  have hvs:=val_set r i (ri+x % 2 ^ (32-s)*2 ^ s) (by omega)
  have hz1:(r.set i (ri+x % 2 ^ (32-s)*2 ^ s)).getD (i+1) 0=0:=by
   rw [List.getD_eq_getElem?_getD,List.getElem?_set_ne (by omega),← List.getD_eq_getElem?_getD]
   exact hz _ (by omega)
  have hv2:=set_zero_val (r:=r.set i (ri+x % 2 ^ (32-s)*2 ^ s)) (j:=i+1) (v:=x*2 ^ s / 4294967296) (by simp;omega) hz1
  rw [hrr] at hvs
  apply AX.sreg [0,1,5,6,7,12,13,14] (by simp only [pq];rfl)
  ·repeat (first
  |(apply RunO.op rfl;· rfl
    ·rfl
    iterate 2 (· (simp (disch:=omega) only [go_sem,i64_of,u32_of,u64_of,Nat.reduceLT,Nat.reduceLeDiff,Nat.reduceEqDiff,Nat.reduceAdd,Nat.reduceSub,Nat.reduceMul,Nat.reducePow,Nat.reduceBEq,Int.reduceLE,Int.reduceLT,Int.reduceToNat,Int.reduceEq,Int.reduceNeg,↓reduceIte,reduceCtorEq,hxx];rfl))
    ·(simp only [pb,Nat.reduceLT,Nat.reduceAdd,reduceIte];rfl))
  |(apply RunO.skip;· rfl
    ·(simp only [pb,Nat.reduceLT,Nat.reduceAdd,reduceIte];rfl)))
   exact RunO.nil
  ·repeat (first | exact Keep.nil | (apply Keep.take;· rfl) | (apply Keep.drop;· rfl))
  apply AX.sreg [0,1,5,6,7,12,13,14] (by simp only [pq];rfl)
  ·repeat (first
  |(apply RunO.op rfl;· rfl
    ·rfl
    iterate 2 (· (simp (disch:=omega) only [go_sem,i64_of,u32_of,u64_of,Nat.reduceLT,Nat.reduceLeDiff,Nat.reduceEqDiff,Nat.reduceAdd,Nat.reduceSub,Nat.reduceMul,Nat.reducePow,Nat.reduceBEq,Int.reduceLE,Int.reduceLT,Int.reduceToNat,Int.reduceEq,Int.reduceNeg,↓reduceIte,reduceCtorEq,m1,shl_nat,u32n,e1,hxx,hrr,hor];rfl))
    ·(simp only [pb,Nat.reduceLT,Nat.reduceAdd,reduceIte];rfl))
  |(apply RunO.skip;· rfl
    ·(simp only [pb,Nat.reduceLT,Nat.reduceAdd,reduceIte];rfl)))
   exact RunO.nil
  ·repeat (first | exact Keep.nil | (apply Keep.take;· rfl) | (apply Keep.drop;· rfl))
  have hhm:x*2 ^ s / 4294967296 % 4294967296=x*2 ^ s / 4294967296:=Nat.mod_eq_of_lt (by omega)
  have hdm:=Nat.div_add_mod (x*2 ^ s) 4294967296
  generalize hbb:x % 2 ^ (32-s)*2 ^ s=b at *
  generalize htt:x*2 ^ s=t at *
  apply AX.reg [0,1,5,12,13,14] (by simp only [pq];rfl)
  ·repeat (first
  |(apply RunO.op rfl;· rfl
    ·rfl
    iterate 2 (· (simp (disch:=omega) only [go_sem,i64_of,u32_of,u64_of,Nat.reduceLT,Nat.reduceLeDiff,Nat.reduceEqDiff,Nat.reduceAdd,Nat.reduceSub,Nat.reduceMul,Nat.reducePow,Nat.reduceBEq,Int.reduceLE,Int.reduceLT,Int.reduceToNat,Int.reduceEq,Int.reduceNeg,↓reduceIte,reduceCtorEq,m2,shl_nat,htt,shr32,u32n,hhm,lit_add];rfl))
    ·(simp only [pb,Nat.reduceLT,Nat.reduceAdd,reduceIte];rfl))
  |(apply RunO.skip;· rfl
    ·(simp only [pb,Nat.reduceLT,Nat.reduceAdd,reduceIte];rfl)))
   exact RunO.nil
  ·repeat (first | exact Keep.nil | (apply Keep.take;· rfl) | (apply Keep.drop;· rfl))
  refine nmZ ?_
  apply AX.reg [0,1,5,12,13,14] (by simp only [pq];rfl)
  ·repeat (first
  |(apply RunO.op rfl;· rfl
    ·rfl
    iterate 2 (· (simp (disch:=omega) only [go_sem,i64_of,u32_of,u64_of,Nat.reduceLT,Nat.reduceLeDiff,Nat.reduceEqDiff,Nat.reduceAdd,Nat.reduceSub,Nat.reduceMul,Nat.reducePow,Nat.reduceBEq,Int.reduceLE,Int.reduceLT,Int.reduceToNat,Int.reduceEq,Int.reduceNeg,↓reduceIte,reduceCtorEq,lit_add];rfl))
    ·(simp only [pb,Nat.reduceLT,Nat.reduceAdd,reduceIte];rfl))
  |(apply RunO.skip;· rfl
    ·(simp only [pb,Nat.reduceLT,Nat.reduceAdd,reduceIte];rfl)))
   exact RunO.nil
  ·repeat (first | exact Keep.nil | (apply Keep.take;· rfl) | (apply Keep.drop;· rfl))
  refine nmZ ?_
  refine ⟨l.length-(i+1),_,id,by omega,
   leA
   , ⟨i+1,(r.set i (ri+b)).set (i+1) (t / 4294967296),rfl,by omega,by simp [hr],Dg_set (Dg_set hdr (by omega)) (by omega),?_,?_,?_,rfl⟩⟩
  ·rw [List.getD_eq_getElem?_getD,List.getElem?_set_self (by simp;omega)]
   exact hhi
  ·intro j hj
   rw [List.getD_eq_getElem?_getD,List.getElem?_set_ne (by omega),List.getElem?_set_ne (by omega),← List.getD_eq_getElem?_getD]
   exact hz _ (by omega)
  ·rw [hv2,htk,Nat.add_mul,← hval,Nat.mul_assoc,htt,Nat.pow_succ]
   have h6:4294967296 ^ i*t=4294967296 ^ i*4294967296*(t / 4294967296)+4294967296 ^ i*b:=by
    rw [Nat.mul_assoc,← Nat.mul_add]
    congr 1
    omega
   rw [Nat.mul_add] at hvs
   omega
 ·refine AX.sR (rgA [0,1,5,12,13,14,15]) ?_
  refine AX.seq ?_
  refine AX.condF ?_
  refine AX.exit ?_
  refine nmZ ?_
  have hi':i=l.length:=by omega
  rw [hi',List.take_length] at hval
  refine AX.sR (rgA [4]) ?_
  refine AX.ret ⟨.inl rfl,?_⟩
  rw [← hval,← hr,← pad_eq hdr,hr]
  exact Done.ownRow rfl rfl
theorem kn_low {U v P g:Nat} (hP:0<P)(h:U / P<g*(v / P)):U / v<g∨v=0:=by
 by_cases hv:v=0
 ·exact .inr hv
 left
 rw [Nat.div_lt_iff_lt_mul (Nat.pos_of_ne_zero hv)]
 have h1:v / P*P≤v:=Nat.div_mul_le_self v P
 have h2:g*(v / P*P)≤g*v:=Nat.mul_le_mul_left _ h1
 have h3:(U / P+1)*P≤g*(v / P)*P:=Nat.mul_le_mul_right _ h
 have h4:=Nat.lt_div_mul_add (a:=U) hP
 rw [Nat.add_mul,Nat.one_mul] at h3
 rw [← Nat.mul_assoc] at h2
 omega
theorem kn_high {U v P g B:Nat} (hP:0<P)(hv:0<v)(h:g*(v / P)≤U / P)(hg:g≤B)(hB:B*P≤v):g≤U / v+1:=by
 have h1:v≤v / P*P+P:=Nat.le_of_lt (Nat.lt_div_mul_add hP)
 have h2:g*v≤g*(v / P*P+P):=Nat.mul_le_mul_left _ h1
 have h3:g*(v / P)*P≤U / P*P:=Nat.mul_le_mul_right _ h
 have h4:U / P*P≤U:=Nat.div_mul_le_self U P
 have h5:g*P≤B*P:=Nat.mul_le_mul_right _ hg
 rw [Nat.mul_add,← Nat.mul_assoc] at h2
 have h6:g*v≤U+v:=by omega
 cases g with
 | zero=>exact Nat.zero_le _
 | succ g=>
  rw [Nat.add_mul,Nat.one_mul] at h6
  have:g≤U / v:=by
   rw [Nat.le_div_iff_mul_le hv]
   omega
  exact Nat.add_le_add_right this 1
theorem kn_first {U v W:Nat} (hW:0<W)(hv1:0<v / W)(hv:0<v):U / v≤U / W / (v / W):=by
 rw [Nat.le_div_iff_mul_le hv1,Nat.le_div_iff_mul_le hW]
 have h1:U / v*v≤U:=Nat.div_mul_le_self U v
 have h2:U / v*(v / W*W)≤U / v*v:=Nat.mul_le_mul_left _ (Nat.div_mul_le_self v W)
 rw [← Nat.mul_assoc] at h2
 omega
theorem kn_top {U v W B:Nat} (hW:0<W)(h:U<v*B):U / W<(v / W+1)*B:=by
 rw [Nat.div_lt_iff_lt_mul hW]
 have h1:v≤v / W*W+W:=Nat.le_of_lt (Nat.lt_div_mul_add hW)
 have h2:v*B≤(v / W*W+W)*B:=Nat.mul_le_mul_right _ h1
 have e:(v / W+1)*B*W=(v / W*W+W)*B:=by
  rw [Nat.mul_right_comm,Nat.add_mul (v / W) 1 W,Nat.one_mul]
 omega
noncomputable def findB (id:Nat):Code→Option Code
 | .block i c=>if i=id then some c else findB id c
 | .seq x y=>match findB id x with
  | some c=>some c
  | none=>findB id y
 | .loop c=>findB id c
 | .cond _ x y=>match findB id x with
  | some c=>some c
  | none=>findB id y
 | _=>none
noncomputable def partB (f:FuncId) (id:Nat):Option Code:=(Tryz.prog.funcs[f]?).bind fun fn=>fn.body.bind (findB id)
abbrev divSt (K L s v:Nat) (j:Int) (r q:List Nat):St:=⟨[(14,.i .i64 j),(13,.own 2 0 (K+1-L) 1),(12,.i .i64 L),(11,nv v),(10,.own 0 0 (K+1) 1),(9,.i .u64 s)],[(2,⟨142,q.map u⟩),(0,⟨142,r.map u⟩)],3⟩
theorem getD_val {l:List Nat} (h:Dg l)(j:Nat):l.getD j 0=val l / 4294967296 ^ j % 4294967296:=by
 induction j generalizing l with
 | zero=>
  cases l with
  | nil=>simp [val]
  | cons x l=>
   rw [Dg_cons] at h
   have:=h.1
   simp [val]
   omega
 | succ j ih=>
  cases l with
  | nil=>simp [val]
  | cons x l=>
   rw [Dg_cons] at h
   have h1:=h.1
   rw [List.getD_cons_succ,ih h.2,Nat.pow_succ,Nat.mul_comm (4294967296 ^ j),← Nat.div_div_eq_div_mul]
   congr 2
   simp only [val]
   omega
theorem div_pow_step (n j:Nat):n / 4294967296 ^ j=n / 4294967296 ^ (j+1)*4294967296+n / 4294967296 ^ j % 4294967296:=by
 rw [Nat.pow_succ,← Nat.div_div_eq_div_mul]
 omega
theorem getD_drop (l:List Nat)(k i:Nat):(l.drop k).getD i 0=l.getD (k+i) 0:=by
 rw [List.getD_eq_getElem?_getD,List.getD_eq_getElem?_getD,List.getElem?_drop]
theorem window {r:List Nat} {k L v:Nat} (hdr:Dg r) (hL2:2≤L) (hkr:k≤r.length) (hv1:v<4294967296 ^ L) (hrv:val r<v*4294967296 ^ (k+1)) :
  val (r.drop k)<v*4294967296∧val r / (v*4294967296 ^ k)=val (r.drop k) / v∧r.getD (k+L) 0*4294967296+r.getD (k+L-1) 0=val (r.drop k) / 4294967296 ^ (L-1) ∧
  val (r.drop k) / 4294967296 ^ (L-2)=val (r.drop k) / 4294967296 ^ (L-1)*4294967296+r.getD (k+L-2) 0:=by
 have h1:=val_take_drop r k hkr
 have h2:=val_lt (Dg_take hdr k)
 rw [List.length_take,Nat.min_eq_left hkr] at h2
 have hp:0<4294967296 ^ k:=Nat.pow_pos (by omega)
 have e0:val r / 4294967296 ^ k=val (r.drop k):=by
  rw [h1,Nat.add_mul_div_left _ _ hp,Nat.div_eq_of_lt h2,Nat.zero_add]
 have hU:val (r.drop k)<v*4294967296:=by
  rw [← e0,Nat.div_lt_iff_lt_mul hp,Nat.mul_assoc,Nat.mul_comm 4294967296,← Nat.pow_succ]
  exact hrv
 have hU2:val (r.drop k)<4294967296 ^ (L+1):=by
  have:v*4294967296≤4294967296 ^ L*4294967296:=Nat.mul_le_mul_right _ (Nat.le_of_lt hv1)
  rw [← Nat.pow_succ] at this
  omega
 have hdd:=Dg_drop hdr k
 have g1:=getD_val hdd L
 have g2:=getD_val hdd (L-1)
 have g3:=getD_val hdd (L-2)
 rw [getD_drop] at g1 g2 g3
 rw [show k+(L-1)=k+L-1 by omega] at g2
 rw [show k+(L-2)=k+L-2 by omega] at g3
 have s1:=div_pow_step (val (r.drop k)) (L-1)
 have s2:=div_pow_step (val (r.drop k)) (L-2)
 rw [show L-1+1=L by omega,← g2] at s1
 rw [show L-2+1=L-1 by omega,← g3] at s2
 have hlt:val (r.drop k) / 4294967296 ^ L<4294967296:=by
  rw [Nat.div_lt_iff_lt_mul (Nat.pow_pos (by omega)),Nat.mul_comm,← Nat.pow_succ]
  exact hU2
 rw [Nat.mod_eq_of_lt hlt] at g1
 refine ⟨hU,?_,?_,s2⟩
 ·rw [Nat.mul_comm v,← Nat.div_div_eq_div_mul,e0]
 ·rw [g1]
  exact s1.symm
set_option maxHeartbeats 4000000 in
theorem guess_step {c:Code} (hc:partB 127 3=some c) {O M:Nat→Prop} {w0:World} {K L k s v top x3 y1 y2 Q0 g0 rest0:Nat} {r q:List Nat} (hL2:2≤L) (hK:K<2 ^ 37) (hk:k+L≤K) (hvL:(digits v).length=L)
  (hr:r.length=K+1) (hr3:x3<4294967296) (hw1:y1<4294967296) (hw2:y2<4294967296) (hx3:r.getD (k+L-2) 0=x3) (hy1:(digits v).getD (L-1) 0=y1) (hy2:(digits v).getD (L-2) 0=y2)
  (hlead:2147483648≤y1) (htop64:top<18446744073709551616) (htopb:top<(y1+1)*4294967296) (hlo:∀ g,top*4294967296+x3<g*(y1*4294967296+y2)→Q0<g) (hhi:∀ g,g*(y1*4294967296+y2)≤top*4294967296+x3→g≤4294967296→g≤Q0+1)
  (hQB:Q0<4294967296) (hinit:g0*y1+rest0=top) (hrest0:rest0<4294967296) (hfirst:Q0≤g0) {Q:Exit→St→Prop}
  (hQ:∀ g,Q0≤g→g≤Q0+1→g<4294967296→Q (.exit 3) ⟨[(16,.i .u64 g),(14,.i .i64 k),(13,.own 2 0 (K+1-L) 1),(12,.i .i64 L),(11,nv v),(10,.own 0 0 (K+1) 1),(9,.i .u64 s)],[(2,⟨142,q.map u⟩),(0,⟨142,r.map u⟩)],3⟩) :
  AX Tryz.prog ⟨315,O,M,w0,0,fun _=>none⟩ c ⟨[(17,.i .u64 rest0),(16,.i .u64 g0),(14,.i .i64 k),(13,.own 2 0 (K+1-L) 1),(12,.i .i64 L),(11,nv v),(10,.own 0 0 (K+1) 1),(9,.i .u64 s)],[(2,⟨142,q.map u⟩),(0,⟨142,r.map u⟩)],3⟩ Q:=by
 simp only [partB,Tryz.func127,Option.bind_some,findB,if_true,if_false,Nat.reduceEqDiff,reduceIte] at hc
 cases hc
 have k1:((k+L:Nat):Int)-1=((k+L-1:Nat):Int):=by omega
 have k2:((k+L:Nat):Int)-2=((k+L-2:Nat):Int):=by omega
 have k3:((L:Nat):Int)-1=((L-1:Nat):Int):=by omega
 have k4:((L:Nat):Int)-2=((L-2:Nat):Int):=by omega
 refine AX.loop (fun N st=>∃ rest:Nat,N*y1+rest=top∧Q0≤N∧rest<4294967296∧st=⟨[(17,.i .u64 rest),(16,.i .u64 N),(14,.i .i64 k),(13,.own 2 0 (K+1-L) 1),(12,.i .i64 L),(11,nv v),(10,.own 0 0 (K+1) 1),(9,.i .u64 s)],[(2,⟨142,q.map u⟩),(0,⟨142,r.map u⟩)],3⟩) g0 ⟨rest0,hinit,hfirst,hrest0,rfl⟩ ?_
 clear hinit hrest0 hfirst rest0 g0
 rintro g st ⟨rest,hgr,hQg,hrest,rfl⟩
 have hsplit:g*(y1*4294967296+y2)=g*y1*4294967296+g*y2:=by rw [Nat.mul_add,Nat.mul_assoc]
 have hgy:=hlo g
 have hgh:=hhi g
 rw [hsplit] at hgy hgh
 by_cases hgo:4294967296≤g∨rest*4294967296+x3<g*y2
 ·have htB:g*y1*4294967296+rest*4294967296=top*4294967296:=by rw [← Nat.add_mul,hgr]
  have hgt:Q0<g:=by
   rcases hgo with e | e
   ·exact Nat.lt_of_lt_of_le hQB e
   ·exact hgy (by rw [← htB,Nat.add_assoc];exact Nat.add_lt_add_left e _)
  refine AX.cut (fun st=>st=⟨[(17,.i .u64 rest),(16,.i .u64 g),(14,.i .i64 k),(13,.own 2 0 (K+1-L) 1),(12,.i .i64 L),(11,nv v),(10,.own 0 0 (K+1) 1),(9,.i .u64 s)],[(2,⟨142,q.map u⟩),(0,⟨142,r.map u⟩)],3⟩) ?_ ?_
  ·clear hhi hlo hgh hgy hsplit htB hgt hQg hgr hQB htopb hQ
   by_cases hA:4294967296≤g
   ·refine AX.sD (rgDA [9,10,11,12,13,14,16,17,145]) ?_
    refine AX.condT ?_
    refine AX.keepA [9,10,11,12,13,14,16,17] ?_
    refine AX.skip ?_
    refine nmZ ?_
    first | exact trivial | exact ⟨trivial,trivial⟩
   ·have hA':g<4294967296:=Nat.lt_of_not_le hA
    have hB:rest*4294967296+x3<g*y2:=hgo.resolve_left hA
    have hgb:=mul_bound hA' hw2
    apply AX.sdreg [9,10,11,12,13,14,16,17,145] (by kernel_rfl) (by simp only [pq];rfl)
    ·repeat (first
    |(apply RunD.op rfl;· rfl
      ·rfl
      iterate 2 (· (simp (disch:=omega) only [go_sem,i64_of,u32_of,u64_of,Nat.reduceLT,Nat.reduceLeDiff,Nat.reduceEqDiff,Nat.reduceAdd,Nat.reduceSub,Nat.reduceMul,Nat.reducePow,Nat.reduceBEq,Int.reduceLE,Int.reduceLT,Int.reduceToNat,Int.reduceEq,Int.reduceNeg,↓reduceIte,reduceCtorEq,← Int.natCast_add,← Int.natCast_mul,k2,k4,hvL,hy2,hx3,shl32,ori' hr3 hrest];rfl))
      ·(simp only [pb,Nat.reduceLT,Nat.reduceAdd,reduceIte];rfl)
      ·rfl)
    |(apply RunD.skip;· rfl
      ·(simp only [pb,Nat.reduceLT,Nat.reduceAdd,reduceIte];rfl)
      ·rfl))
     exact RunD.nil
    ·repeat (first | exact Keep.nil | (apply Keep.take;· rfl) | (apply Keep.drop;· rfl))
    ·kernel_rfl
    refine AX.condT ?_
    refine AX.keepA [9,10,11,12,13,14,16,17] ?_
    refine AX.skip ?_
    refine nmZ ?_
    first | exact trivial | exact ⟨trivial,trivial⟩
  rintro st rfl
  clear hsplit hgy hgh
  obtain ⟨g',rfl⟩:∃ g',g=g'+1:=⟨g-1,by omega⟩
  rw [Nat.add_mul,Nat.one_mul] at hgr
  have eg:((g'+1:Nat):Int)-1=(g':Int):=by omega
  have hgh':=hhi g'
  rw [show g' * (y1*4294967296+y2)=g' * y1*4294967296+g' * y2 by rw [Nat.mul_add,Nat.mul_assoc]] at hgh'
  have hg64:g'≤g' * y1:=Nat.le_mul_of_pos_right _ (by omega)
  have hg65:g' < 18446744073709551616:=by omega
  refine AX.block ?_
  refine AX.sR (rgW [9,10,11,12,13,14,16,17] (aI @eg oT) oT) ?_
  refine AX.sR (rgW [9,10,11,12,13,14,16,17] (aI @k3 (aI @hvL (aI @hy1 (aI @cAdd oT)))) oT) ?_
  by_cases hov:4294967296≤rest+y1
  ·refine AX.sR (rgA [9,10,11,12,13,14,16,17,157]) ?_
   refine AX.condT ?_
   refine AX.keepA [9,10,11,12,13,14,16] ?_
   refine AX.exit ?_
   refine nmZ ?_
   have hlt:g' < 4294967296:=by
    apply Nat.lt_of_mul_lt_mul_right (a:=y1)
    have:(y1+1)*4294967296=4294967296*y1+4294967296:=by rw [Nat.add_mul,Nat.mul_comm]
    omega
   have hgb:=mul_bound hlt hw2
   apply hQ g' (by omega) (hgh' (by omega) (Nat.le_of_lt hlt)) hlt
  ·refine AX.sR (rgA [9,10,11,12,13,14,16,17,157]) ?_
   refine AX.condF ?_
   refine AX.keepA [9,10,11,12,13,14,16,17] ?_
   refine AX.skip ?_
   refine nmZ ?_
   exact ⟨g',_,id,Nat.lt_succ_self _,
    leA
    , ⟨rest+y1,by omega,by omega,by omega,rfl⟩⟩
 ·have hA:g<4294967296:=Nat.lt_of_not_le fun e=>hgo (.inl e)
  have hB:¬ rest*4294967296+x3<g*y2:=fun e=>hgo (.inr e)
  have hgb:=mul_bound hA hw2
  refine AX.seq ?_
  apply AX.sdreg [9,10,11,12,13,14,16,145] (by kernel_rfl) (by simp only [pq];rfl)
  ·repeat (first
  |(apply RunD.op rfl;· rfl
    ·rfl
    iterate 2 (· (simp (disch:=omega) only [go_sem,i64_of,u32_of,u64_of,Nat.reduceLT,Nat.reduceLeDiff,Nat.reduceEqDiff,Nat.reduceAdd,Nat.reduceSub,Nat.reduceMul,Nat.reducePow,Nat.reduceBEq,Int.reduceLE,Int.reduceLT,Int.reduceToNat,Int.reduceEq,Int.reduceNeg,↓reduceIte,reduceCtorEq,← Int.natCast_add,← Int.natCast_mul,k2,k4,hvL,hy2,hx3,shl32,ori' hr3 hrest];rfl))
    ·(simp only [pb,Nat.reduceLT,Nat.reduceAdd,reduceIte];rfl)
    ·rfl)
  |(apply RunD.skip;· rfl
    ·(simp only [pb,Nat.reduceLT,Nat.reduceAdd,reduceIte];rfl)
    ·rfl))
   exact RunD.nil
  ·repeat (first | exact Keep.nil | (apply Keep.take;· rfl) | (apply Keep.drop;· rfl))
  ·kernel_rfl
  refine AX.condF ?_
  refine AX.keepA [9,10,11,12,13,14,16] ?_
  refine AX.exit ?_
  refine nmZ ?_
  have hg1:g≤Q0+1:=by
   apply hgh
   ·have e5:g*y1*4294967296+rest*4294967296=top*4294967296:=by rw [← Nat.add_mul,hgr]
    omega
   ·omega
  exact hQ g hQg hg1 hA
end Go.Proofs.YteidabibgjokkaaGreatDoor
