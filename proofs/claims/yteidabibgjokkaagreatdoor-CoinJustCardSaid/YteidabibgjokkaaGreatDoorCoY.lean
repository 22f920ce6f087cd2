import Derived.Test.YteidabibgjokkaaGreatDoorMC
import Derived.Test.YteidabibgjokkaaGreatDoorLiftY
import Derived.Shelf.Strconv.Itoa3
import Derived.Lib.ItoaNum
set_option maxRecDepth 20000
set_option linter.all false
namespace Go.Proofs.YteidabibgjokkaaGreatDoor
open Go Go.Proofs.YteidabibgjokkaaGreatDoor.Lift
attribute [local irreducible] Lift.PCall Lift.HCall
def rhoI:Go.Shelf.Ren:=⟨fun
 | 129=>168
 | 171=>76
 | 243=>125
 | 246=>149
 | 283=>159
 | 284=>160
 | 285=>161
 | 286=>162
 | 317=>167
 | 318=>169
 | 319=>170
 | 320=>171
 | 337=>177
 | 338=>178
 | n=>n,fun
 | 0=>0
 | 2=>2
 | 3=>3
 | 4=>4
 | 5=>5
 | 9=>9
 | 20=>20
 | 37=>190
 | 46=>76
 | 51=>142
 | 53=>106
 | 171=>187
 | 173=>191
 | 212=>197
 | 213=>198
 | 232=>204
 | 233=>205
 | n=>n,fun
 | 17=>0
 | 18=>1
 | 19=>2
 | n=>n⟩
theorem layI:LaysM.n171 Tryz.prog rhoI where
 mixed:=by kernel_rfl
 f129:=by kernel_rfl
 f171:=by kernel_rfl
 f243:=by kernel_rfl
 f246:=by kernel_rfl
 f283:=by kernel_rfl
 f284:=by kernel_rfl
 f285:=by kernel_rfl
 f286:=by kernel_rfl
 f317:=by kernel_rfl
 f318:=by kernel_rfl
 f319:=by kernel_rfl
 f320:=by kernel_rfl
 f337:=by kernel_rfl
 f338:=by kernel_rfl
 t0:=by kernel_rfl
 a0:=fun _=>by kernel_rfl
 z0:=fun _=>by kernel_rfl
 v0:=fun _=>by kernel_rfl
 t2:=by kernel_rfl
 a2:=fun _=>by kernel_rfl
 z2:=fun _=>by kernel_rfl
 v2:=fun _=>by kernel_rfl
 t3:=by kernel_rfl
 a3:=fun _=>by kernel_rfl
 z3:=fun _=>by kernel_rfl
 v3:=fun _=>by kernel_rfl
 t4:=by kernel_rfl
 a4:=fun _=>by kernel_rfl
 z4:=fun _=>by kernel_rfl
 v4:=fun _=>by kernel_rfl
 t5:=by kernel_rfl
 a5:=fun _=>by kernel_rfl
 z5:=fun _=>by kernel_rfl
 v5:=fun _=>by kernel_rfl
 t9:=by kernel_rfl
 a9:=fun _=>by kernel_rfl
 z9:=fun _=>by kernel_rfl
 v9:=fun _=>by kernel_rfl
 t20:=by kernel_rfl
 a20:=fun _=>by kernel_rfl
 z20:=fun _=>by kernel_rfl
 v20:=fun _=>by kernel_rfl
 t37:=by kernel_rfl
 a37:=fun _=>by kernel_rfl
 z37:=fun _=>by kernel_rfl
 v37:=fun _=>by kernel_rfl
 t46:=by kernel_rfl
 a46:=fun _=>by kernel_rfl
 z46:=fun _=>by kernel_rfl
 v46:=fun _=>by kernel_rfl
 t51:=by kernel_rfl
 a51:=fun _=>by kernel_rfl
 z51:=fun _=>by kernel_rfl
 v51:=fun _=>by kernel_rfl
 t53:=by kernel_rfl
 a53:=fun _=>by kernel_rfl
 z53:=fun _=>by kernel_rfl
 v53:=fun _=>by kernel_rfl
 t171:=by kernel_rfl
 a171:=fun _=>by kernel_rfl
 z171:=fun _=>by kernel_rfl
 v171:=fun _=>by kernel_rfl
 t173:=by kernel_rfl
 a173:=fun _=>by kernel_rfl
 z173:=fun _=>by kernel_rfl
 v173:=fun _=>by kernel_rfl
 t212:=by kernel_rfl
 a212:=fun _=>by kernel_rfl
 z212:=fun _=>by kernel_rfl
 v212:=fun _=>by kernel_rfl
 t213:=by kernel_rfl
 a213:=fun _=>by kernel_rfl
 z213:=fun _=>by kernel_rfl
 t232:=by kernel_rfl
 a232:=fun _=>by kernel_rfl
 z232:=fun _=>by kernel_rfl
 v232:=fun _=>by kernel_rfl
 t233:=by kernel_rfl
 a233:=fun _=>by kernel_rfl
 z233:=fun _=>by kernel_rfl
 v233:=fun _=>by kernel_rfl
 g17:=by kernel_rfl
 g18:=by kernel_rfl
 g19:=by kernel_rfl
 i0:=by kernel_rfl
 i2:=by kernel_rfl
 i3:=by kernel_rfl
 i4:=by kernel_rfl
 i5:=by kernel_rfl
 i9:=by kernel_rfl
 i20:=by kernel_rfl
 i37:=by kernel_rfl
 i46:=by kernel_rfl
 i51:=by kernel_rfl
 i53:=by kernel_rfl
 i171:=by kernel_rfl
 i173:=by kernel_rfl
 i212:=by kernel_rfl
 i232:=by kernel_rfl
 i233:=by kernel_rfl
 m17:=by kernel_rfl
 m18:=by kernel_rfl
 m19:=by kernel_rfl
def TabP (w:World):Prop:=Lib.TabIs Tryz.prog w "internal/strconv.uint64pow10" .u64 Lib.pow10Tab
theorem tabP_st:Stab TabP:=fun w w' h hs=>by
 unfold TabP Lib.TabIs World.var? at *
 cases hg:Tryz.prog.globalNamed "internal/strconv.uint64pow10" with
 | none=>rw [hg] at h;cases h
 | some g=>
  rw [hg] at h
  simp only [Option.bind_some] at h ⊢
  cases hw:w.heap[g]? with
  | none=>rw [hw] at h;cases h
  | some o=>
   rw [hs.keep g (lt_of_heap hw) (fun f=>f),hw]
   rw [hw] at h
   exact h
theorem step_grow (w:World)(k:Nat)(os:Array Obj):Step (fun _=>False) w (Go.Sort.grow (w.drewN k) os) where
 size:=by
  show w.heap.size≤(w.heap++os).size
  simp
 os:=rfl
 tape:=rfl
 output:=rfl
 keep b hb _:=by
  show (w.heap++os)[b]? = w.heap[b]?
  rw [Array.getElem?_append_left hb]
 shape b c T z h:=⟨c,rfl,by
  show (w.heap++os)[b]? = _
  rw [Array.getElem?_append_left (lt_of_heap h)]
  exact h⟩
def itB (x:Int):ByteArray:=⟨(Lib.itoa x).toArray⟩
theorem dec_len:∀ (k u:Nat),u<10 ^ (k+1)→(Lib.decDigits u).length≤k+1
 | 0,u,h=>by
  rw [Lib.decDigits,dif_pos (by omega)]
  exact Nat.le_refl _
 | k+1,u,h=>by
  rw [Lib.decDigits]
  split
  ·simp
  ·have ih:=dec_len k (u / 10) (by rw [Nat.pow_succ] at h;omega)
   rw [List.length_append,List.length_singleton]
   omega
theorem itB_size {x:Int} (h0:0≤x)(h1:x≤100000):(itB x).size≤20:=by
 have e:Lib.itoa x=Lib.decDigits x.toNat:=if_neg (by omega)
 have h:=dec_len 5 x.toNat (by omega)
 show (Lib.itoa x).toArray.size≤20
 rw [e,List.size_toArray]
 omega
theorem itoaT_ok (n:Int)(h0:0≤n)(h1:n≤100000):PCallT TabP Tryz.prog 76 [.i .i64 n] (.s (itB n)):=by
 refine ⟨Tryz.call76,fun O w xs hΦ hO hsz hr=>?_⟩
 obtain ⟨xl⟩:=xs
 match xl,hsz with
 | [a],hs3=>
 have h2:Rep O w _ _ a (.i .i64 n):=hr 0 (by simp)
 have e1:=h2.int_inv.1
 subst e1
 have hk:=Any.strconv_Itoa layI n (by omega) (by omega) w hΦ
 refine Calls.mono hk ?_
 rintro e w' ⟨rfl,k,os,rfl⟩
 refine ⟨_,rfl,step_grow w k os,fun _=>none,fun h q hq=>?_,fun h b hb=>?_,fun h h' b hb=>?_,.s ?_⟩
 ·simp at hq
 ·simp at hb
 ·simp at hb
 ·exact Nat.lt_of_le_of_lt (itB_size h0 h1) (by decide)
theorem dec_dig:∀ (k u:Nat),u<10 ^ (k+1)→∀ c ∈ Lib.decDigits u,c≠32
 | 0,u,h,c,hc=>by
  rw [Lib.decDigits,dif_pos (by omega)] at hc
  simp only [List.mem_singleton] at hc
  subst hc
  have hu:u<10:=by omega
  intro e
  have:=congrArg UInt8.toNat e
  rw [UInt8.toNat_ofNat_of_lt' (by show 48+u<256;omega)] at this
  have:48+u=32:=this
  omega
 | k+1,u,h,c,hc=>by
  rw [Lib.decDigits] at hc
  split at hc
  ·rename_i hu
   simp only [List.mem_singleton] at hc
   subst hc
   intro e
   have:=congrArg UInt8.toNat e
   rw [UInt8.toNat_ofNat_of_lt' (by show 48+u<256;omega)] at this
   have:48+u=32:=this
   omega
  ·rcases List.mem_append.1 hc with hc | hc
   ·exact dec_dig k (u / 10) (by rw [Nat.pow_succ] at h;omega) c hc
   ·simp only [List.mem_singleton] at hc
    subst hc
    intro e
    have:=congrArg UInt8.toNat e
    rw [UInt8.toNat_ofNat_of_lt' (by show 48+u % 10<256;omega)] at this
    have:48+u % 10=32:=this
    omega
def dval (l:List UInt8):Nat:=l.foldl (fun a c=>a*10+(c.toNat-48)) 0
theorem dval_dec:∀ (k u:Nat),u<10 ^ (k+1)→dval (Lib.decDigits u)=u
 | 0,u,h=>by
  rw [Lib.decDigits,dif_pos (by omega)]
  show 0*10+((UInt8.ofNat (48+u)).toNat-48)=u
  rw [UInt8.toNat_ofNat_of_lt' (by show 48+u<256;omega)]
  omega
 | k+1,u,h=>by
  rw [Lib.decDigits]
  split
  ·show 0*10+((UInt8.ofNat (48+u)).toNat-48)=u
   rw [UInt8.toNat_ofNat_of_lt' (by show 48+u<256;omega)]
   omega
  ·have ih:=dval_dec k (u / 10) (by rw [Nat.pow_succ] at h;omega)
   unfold dval at *
   rw [List.foldl_append,ih]
   show u / 10*10+((UInt8.ofNat (48+u % 10)).toNat-48)=u
   rw [UInt8.toNat_ofNat_of_lt' (by show 48+u % 10<256;omega)]
   omega
theorem dec_inj {u v:Nat} (hu:u≤100000)(hv:v≤100000)(h:Lib.decDigits u=Lib.decDigits v):u=v:=by
 have h1:=dval_dec 5 u (by omega)
 have h2:=dval_dec 5 v (by omega)
 rw [← h1,h,h2]
theorem split32:∀ {a b r s:List UInt8},(∀ c ∈ a,c≠32)→(∀ c ∈ b,c≠32)→a++32 :: r=b++32 :: s→a=b∧r=s
 | [],[],r,s,_,_,h=>by
  simp at h
  exact ⟨rfl,h⟩
 | [],y :: b,r,s,_,hb,h=>by
  simp at h
  exact absurd h.1.symm (hb y (by simp))
 | x :: a,[],r,s,ha,_,h=>by
  simp at h
  exact absurd h.1 (ha x (by simp))
 | x :: a,y :: b,r,s,ha,hb,h=>by
  simp at h
  obtain ⟨h1,h2⟩:=split32 (a:=a) (b:=b) (fun c hc=>ha c (by simp [hc])) (fun c hc=>hb c (by simp [hc])) h.2
  exact ⟨by rw [h.1,h1],h2⟩
def nameL:List Int→List UInt8
 | []=>[]
 | x :: l=>Lib.itoa x++32 :: nameL l
theorem nameB_fold:∀ (l:List Int) (s:ByteArray),(l.foldl (fun s x=>s++(itB x++⟨#[32]⟩)) s).data.toList=s.data.toList++nameL l
 | [],s=>by simp [nameL]
 | x :: l,s=>by
  rw [List.foldl_cons,nameB_fold l]
  have e:(s++(itB x++⟨#[32]⟩):ByteArray).data.toList=s.data.toList++(Lib.itoa x++[32]):=by
   rw [ByteArray.data_append,ByteArray.data_append,Array.toList_append,Array.toList_append]
   rfl
  rw [e,nameL]
  simp
theorem nameL_inj:∀ {a b:List Int},a.length=b.length→(∀ x ∈ a,0≤x∧x≤100000)→(∀ x ∈ b,0≤x∧x≤100000)→nameL a=nameL b→a=b
 | [],[],_,_,_,_=>rfl
 | [],_ :: _,h,_,_,_=>by cases h
 | _ :: _,[],h,_,_,_=>by cases h
 | x :: a,y :: b,h,ha,hb,e=>by
  have hx:=ha x (by simp)
  have hy:=hb y (by simp)
  have ex:Lib.itoa x=Lib.decDigits x.toNat:=if_neg (by omega)
  have ey:Lib.itoa y=Lib.decDigits y.toNat:=if_neg (by omega)
  rw [nameL,nameL,ex,ey] at e
  obtain ⟨h1,h2⟩:=split32 (dec_dig 5 x.toNat (by omega)) (dec_dig 5 y.toNat (by omega)) e
  have h3:=dec_inj (by omega) (by omega) h1
  have h4:=nameL_inj (a:=a) (b:=b) (by simpa using h) (fun z hz=>ha z (by simp [hz])) (fun z hz=>hb z (by simp [hz])) h2
  rw [h4,show x=y by omega]
theorem nameB_inj {a b:List Int} (h:a.length=b.length)(ha:∀ x ∈ a,0≤x∧x≤100000)(hb:∀ x ∈ b,0≤x∧x≤100000)(e:nameB itB a=nameB itB b):a=b:=by
 have h1:=nameB_fold a ByteArray.empty
 have h2:=nameB_fold b ByteArray.empty
 have e2:(nameB itB a).data.toList=(nameB itB b).data.toList:=by rw [e]
 unfold nameB at e2
 rw [h1,h2] at e2
 exact nameL_inj h ha hb (by simpa using e2)
set_option maxHeartbeats 4000000 in
theorem cnameT_ok {Φ:World→Prop} (hSt:Stab Φ)(f:Int→ByteArray)(l:List Int)(hl:l.length≤64)(hf:∀ x ∈ l,(f x).size≤20)(hI:∀ x ∈ l,PCallT Φ Tryz.prog 76 [.i .i64 x] (.s (f x))):PCallT Φ Tryz.prog 40 [.sl (wl l)] (.s (nameB f l)):=by
 refine PCallT.of_ax Tryz.call40 Tryz.func40 rfl (by simp [Tryz.ntmps40]) fun O w hPh=>?_
 simp only [Tryz.ntmps40,Tryz.results40,argFr]
 have hml:=wl_length l
 have hsz:=nameB_size hf
 refine AX.sR (rgAV [0]) ?_
 refine AX.sR (rgAV [0,3]) ?_
 refine AX.seq ?_
 refine AX.sR (rgWV [3,6,7,8] (aI @hml oT) oT) ?_
 refine AX.weaken id (st':=⟨[(8,.i .i64 (0:Nat)),(7,.i .i64 l.length),(6,.sl (wl l)),(3,.s ByteArray.empty)],[],0⟩)
  leQ6
  ?_
 refine AX.block ?_
 refine AX.loop (fun N st=>∃ (i:Nat) (s:ByteArray),i≤l.length∧N=l.length-i∧s=nameB f (l.take i)∧st=⟨[(8,.i .i64 i),(7,.i .i64 l.length),(6,.sl (wl l)),(3,.s s)],[],0⟩) l.length ⟨0,_,Nat.zero_le _,rfl,rfl,rfl⟩ ?_
 rintro N st ⟨i,s,hi,rfl,hs,rfl⟩
 by_cases h1:i<l.length
 ·have hg:=wl_get h1
  have hsn:=nameB_take (f:=f) h1
  have b1:=hsz i hi
  have c1:=hI _ (getD_mem_W h1)
  have b2:=hf _ (getD_mem_W h1)
  rw [← hs] at hsn b1
  have b3:(f (l.getD i 0)++⟨#[32]⟩).size=(f (l.getD i 0)).size+1:=by rw [ByteArray.size_append];rfl
  generalize l.getD i 0=x at *
  generalize wl l=A at *
  generalize f x=fx at *
  have k1:=fun x y t y'=>effCatS (P:=Tryz.prog) (t:=t) (y':=y') (x:=x) (y:=y) (a:=fx) (b:=⟨#[32]⟩) (by rw [show (⟨#[32]⟩:ByteArray).size=1 from rfl];omega)
  have k2:=fun x y t y'=>effCatS (P:=Tryz.prog) (t:=t) (y':=y') (x:=x) (y:=y) (a:=s) (b:=fx++⟨#[32]⟩) (by omega)
  refine AX.sR (rgAV [3,6,7,8,9]) ?_
  refine AX.seq ?_
  refine AX.condT ?_
  refine AX.keepA [3,6,7,8] ?_
  refine AX.skip ?_
  refine nmZ ?_
  refine AX.seq ?_
  refine AX.block ?_
  refine AX.sR (rgWV [3,5,6,7,8] (aI @hml (aI @hg oT)) oT) ?_
  apply AX.regS [3,6,7,8] (by simp only [pq];rfl)
  ·repeat (first
  |(apply RunS.op rfl;· rfl
    ·(simp only [opsOf,valsOf,valOf,lkp,ofConst,ofCell,Array.toList,Option.toList,List.map_cons,List.map_nil,List.cons_append,List.nil_append,List.append_nil,Nat.reduceEqDiff,Nat.reducePow,Nat.reduceLT,Nat.reduceLeDiff,reduceIte,if_true,if_false,IntKind.min,IntKind.max,IntKind.bits,IntKind.signed,Int.reduceLE,Int.reduceNeg,Int.reducePow,Int.reduceSub,and_self,Bool.false_eq_true,Nat.reduceSub];rfl)
    ·first | exact k1 _ _ _ _ | exact k2 _ _ _ _ | (simp (disch:=omega) only [go_sem,i64_of,u32_of,u64_of,Nat.reduceLT,Nat.reduceLeDiff,Nat.reduceEqDiff,Nat.reduceAdd,Nat.reduceSub,Nat.reduceMul,Nat.reducePow,Nat.reduceBEq,Int.reduceLE,Int.reduceLT,Int.reduceToNat,Int.reduceEq,Int.reduceNeg,↓reduceIte,reduceCtorEq];rfl)
    ·(simp (disch:=omega) only [go_sem,i64_of,u32_of,u64_of,Nat.reduceLT,Nat.reduceLeDiff,Nat.reduceEqDiff,Nat.reduceAdd,Nat.reduceSub,Nat.reduceMul,Nat.reducePow,Nat.reduceBEq,Int.reduceLE,Int.reduceLT,Int.reduceToNat,Int.reduceEq,Int.reduceNeg,↓reduceIte,reduceCtorEq];rfl)
    ·(simp only [pb,Nat.reduceLT,Nat.reduceAdd,reduceIte];rfl))
  |(apply RunS.callT rfl;· rfl
    ·(simp only [opsOf,valsOf,valOf,lkp,ofConst,ofCell,Array.toList,Option.toList,List.map_cons,List.map_nil,List.cons_append,List.nil_append,List.append_nil,Nat.reduceEqDiff,Nat.reducePow,Nat.reduceLT,Nat.reduceLeDiff,reduceIte,if_true,if_false,IntKind.min,IntKind.max,IntKind.bits,IntKind.signed,Int.reduceLE,Int.reduceNeg,Int.reducePow,Int.reduceSub,and_self,Bool.false_eq_true,Nat.reduceSub];rfl)
    ·rfl
    ·exact c1
    ·exact hPh
    ·exact hSt
    ·exact fun _ h=>h
    ·rfl
    ·(simp only [pb,Nat.reduceLT,Nat.reduceAdd,reduceIte];rfl))
  |(apply RunS.skip;· rfl
    ·(simp only [pb,Nat.reduceLT,Nat.reduceAdd,reduceIte];rfl)))
   exact RunS.nil
  ·repeat (first | exact Keep.nil | (apply Keep.take;· rfl) | (apply Keep.drop;· rfl))
  refine nmZ ?_
  refine AX.rR (rgWV [3,6,7,8] (aI @lit_add oT) oT) ?_
  refine nmZ ?_
  refine ⟨_,_,id,?_,
   leQ6
   , ⟨i+1,_,by omega,rfl,hsn.symm,rfl⟩⟩
  omega
 ·obtain rfl:i=l.length:=by omega
  rw [List.take_length] at hs
  rw [← hs]
  refine AX.sR (rgAV [3,6,7,8,9]) ?_
  refine AX.seq ?_
  refine AX.condF ?_
  refine AX.exit ?_
  refine nmZ ?_
  refine AX.sR (rgAV [2]) ?_
  refine AX.ret ⟨.inl rfl,?_⟩
  exact Done.one rfl rfl rfl rfl
set_option maxHeartbeats 16000000 in
theorem make_walkT {Φ:World→Prop} (hSt:Stab Φ) (f:Int→ByteArray) (B:Int) (l0:List Int) (h0:isO l0=true) (hB:sumI l0≤B+1)
  (hfs:∀ x,0≤x→x≤B→(f x).size≤20) (hI:∀ x,0≤x→x≤B→PCallT Φ Tryz.prog 76 [.i .i64 x] (.s (f x)))
  (hinj:∀ a b:List Int,a.length=b.length→(∀ x ∈ a,0≤x∧x≤B)→(∀ x ∈ b,0≤x∧x≤B)→nameB f a=nameB f b→a=b):PCallT Φ Tryz.prog 11 [.sl (wl l0)] (mkV l0):=by
 obtain ⟨hF,n2,n3⟩:=isL_first h0
 obtain ⟨q1,q2,q3⟩:=isO_iff.1 h0
 have c1:=crightO_ok l0 (by omega) (fun x hx=>by have:=q3 x hx;omega)
 have cS:=csum_ok l0 (by omega) (fun x hx=>by have:=q3 x hx;omega)
 rw [h0] at c1
 rw [mkV_eq h0]
 obtain ⟨X,hX⟩:∃ X,mkS (sumI l0) 61 l0 [] []=X:=⟨_,rfl⟩
 rw [hX]
 generalize hn:sumI l0=n at *
 clear hn
 obtain ⟨L,hL⟩:∃ L,l0.length=L:=⟨_,rfl⟩
 rw [hL] at hF q2
 refine PCallT.of_ax Tryz.call11 Tryz.func11 rfl (by simp [Tryz.ntmps11]) fun O w hPh=>?_
 simp only [Tryz.ntmps11,Tryz.results11,argFr]
 refine AX.sR (rgAV [0,2]) ?_
 refine AX.seq ?_
 refine AX.sR (rgCV [0,2,21] (aI c1 oT)) ?_
 refine AX.condF ?_
 refine AX.keepA [0,2] ?_
 refine AX.skip ?_
 refine nmZ ?_
 refine AX.sR (rgCV [0,2,4] (aI cS oT)) ?_
 refine AX.sR (rgAV [0,2,4,5]) ?_
 refine AX.sR (rgAV [0,2,4,5,6]) ?_
 refine AX.own0c 2 0 64 2 rfl rfl (by show 0<1;decide) ?_
 refine AX.sR (rgAV [2,4,5,6,7]) ?_
 refine AX.weaken id (st':=⟨[(7,.sl (wl l0)),(6,.ptr 2 0),(5,.mp 1),(4,.i .i64 n),(2,.ptr 0 0)],[(3,⟨64,wl (fl ([]:T2))⟩),(2,⟨25,[.own 3 0 ([]:T2).length 2]⟩),(1,⟨85,[.tab []]⟩),(0,⟨25,[.nl]⟩)],4⟩)
  leQ6
  ?_
 refine AX.block ?_
 refine AX.loop (fun N st=>∃ (R:List Int) (M:Lv) (S:T2) (m:Nat),IsL n L R m∧1≤m∧lookL R M=none∧(∀ p ∈ M,p.1.length=L∧(∀ x ∈ p.1,0≤x∧x<n)∧p.2≤60)∧61≤S.length+N∧S.length≤60∧mkS n N R M S=X∧st=⟨[(7,.sl (wl R)),(6,.ptr 2 0),(5,.mp 1),(4,.i .i64 n),(2,.ptr 0 0)],[(3,⟨64,wl (fl S)⟩),(2,⟨25,[.own 3 0 (S).length 2]⟩),(1,⟨85,[.tab (ksM f M)]⟩),(0,⟨25,[.nl]⟩)],4⟩) 61 ⟨l0,[],[],1,hF,Nat.le_refl _,rfl,(fun p hp=>by cases hp),by simp,by simp,hX,rfl⟩ ?_
 clear c1 cS hX hF h0 q1 q3 hL
 clear l0
 rintro N st ⟨R,M,S,m,hR,hm,hlk,hM,hN,hS,hmk,rfl⟩
 obtain ⟨k,rfl⟩:∃ k,N=k+1:=⟨N-1,by omega⟩
 obtain ⟨hmo,hL2⟩:=hR.next (by omega)
 have hmL:=hR.m_lt (by omega)
 obtain ⟨hdv,htd⟩:=hR.div (by omega)
 have lR:=hR.len
 have cN1:=cnameT_ok hSt f R (by omega) (fun x hx=>hfs x (hR.bd x hx).1 (by have:=(hR.bd x hx).2;omega)) (fun x hx=>hI x (hR.bd x hx).1 (by have:=(hR.bd x hx).2;omega))
 have cS1:=csum_ok R (by omega) (fun x hx=>by have:=hR.bd x hx;omega)
 have cX:=cnext_ok R n (by omega) (fun x hx=>by have:=hR.bd x hx;omega) (by omega)
 have hob:∀ x ∈ outI n R R.length,0≤x∧x≤64:=fun x hx=>by
  obtain ⟨j,hj,rfl⟩:=mem_outI hx
  omega
 have hol:=outI_le n R R.length
 obtain ⟨o,ho⟩:∃ o,outI n R R.length=o:=⟨_,rfl⟩
 obtain ⟨l,hl⟩:∃ l,nxtI n R R.length=l:=⟨_,rfl⟩
 rw [ho] at hmo hL2 cX hob hol
 rw [hl] at hL2 cX
 have ll:=hL2.len
 have cN2:=cnameT_ok hSt f l (by omega) (fun x hx=>hfs x (hL2.bd x hx).1 (by have:=(hL2.bd x hx).2;omega)) (fun x hx=>hI x (hL2.bd x hx).1 (by have:=(hL2.bd x hx).2;omega))
 have hf1:K0.find (.s (nameB f R)) (ksM f M)=some none:=by
  rw [find_ks (fun p hp e=>hinj R p.1 (lR.trans (hM p hp).1.symm) (fun x hx=>by have:=hR.bd x hx;omega) (fun x hx=>by have:=(hM p hp).2.1 x hx;omega) e),hlk]
  rfl
 have hM2:∀ p ∈ M++[(R,S.length)],p.1.length=L∧(∀ x ∈ p.1,0≤x∧x<n)∧p.2≤60:=fun p hp=>by
  rcases List.mem_append.1 hp with hp | hp
  ·exact hM p hp
  ·simp only [List.mem_singleton] at hp
   subst hp
   exact ⟨lR,hR.bd,hS⟩
 have hf2:K0.find (.s (nameB f l)) (ksM f (M++[(R,S.length)]))=some ((lookL l (M++[(R,S.length)])).map fun v=>K0.i .i64 v):=find_ks (fun p hp e=>hinj l p.1 (ll.trans (hM2 p hp).1.symm) (fun x hx=>by have:=hL2.bd x hx;omega) (fun x hx=>by have:=(hM2 p hp).2.1 x hx;omega) e)
 have hks:=ksM_app f M R S.length
 obtain ⟨q,hq⟩:∃ q,lookL l (M++[(R,S.length)])=q:=⟨_,rfl⟩
 have hqb:∀ v,q=some v→v≤60:=fun v hv=>(hM2 _ (lookL_mem (hq.trans hv))).2.2
 rw [mkS_succ hdv ho hl hq] at hmk
 rw [hq] at hf2
 have hlo:=wl_length o
 have hol64:o.length≤64:=by omega
 have hm64:m≤64:=by omega
 obtain ⟨more,hmore⟩:∃ more,2*m-o.length=more:=⟨_,rfl⟩
 have hm2:2*(m:Int)-(o.length:Int)=(more:Int):=by omega
 have hmo128:more≤128:=by omega
 rw [hmore] at hmk hL2
 have hn0:(n=0)=False:=by simp only [eq_iff_iff,iff_false];omega
 generalize sumI R=sR at *
 generalize nameB f R=NR at *
 generalize nameB f l=NL at *
 generalize hKM:ksM f M=K at *
 generalize hKM2:ksM f (M++[(R,S.length)])=K2 at *
 refine AX.block ?_
 apply AX.sdregC [2,4,5,6,7] (by kernel_rfl) (by simp only [pq];rfl)
 ·repeat (first
 |(apply RunC.op rfl;· rfl
   ·(simp only [opsOf,valsOf,valOf,lkp,ofConst,ofCell,Array.toList,Option.toList,List.map_cons,List.map_nil,List.cons_append,List.nil_append,List.append_nil,Nat.reduceEqDiff,Nat.reducePow,Nat.reduceLT,Nat.reduceLeDiff,reduceIte,if_true,if_false,IntKind.min,IntKind.max,IntKind.bits,IntKind.signed,Int.reduceLE,Int.reduceNeg,Int.reducePow,Int.reduceSub,and_self,Bool.false_eq_true,Nat.reduceSub];rfl)
   iterate 2 (· (simp (disch:=omega) only [go_sem,i64_of,u32_of,u64_of,Nat.reduceLT,Nat.reduceLeDiff,Nat.reduceEqDiff,Nat.reduceAdd,Nat.reduceSub,Nat.reduceMul,Nat.reducePow,Nat.reduceBEq,Int.reduceLE,Int.reduceLT,Int.reduceToNat,Int.reduceEq,Int.reduceNeg,↓reduceIte,reduceCtorEq,hf1];rfl))
   ·(simp only [pb,Nat.reduceLT,Nat.reduceAdd,reduceIte];rfl)
   ·rfl)
 |(apply RunC.callT rfl;· rfl
   ·(simp only [opsOf,valsOf,valOf,lkp,ofConst,ofCell,Array.toList,Option.toList,List.map_cons,List.map_nil,List.cons_append,List.nil_append,List.append_nil,Nat.reduceEqDiff,Nat.reducePow,Nat.reduceLT,Nat.reduceLeDiff,reduceIte,if_true,if_false,IntKind.min,IntKind.max,IntKind.bits,IntKind.signed,Int.reduceLE,Int.reduceNeg,Int.reducePow,Int.reduceSub,and_self,Bool.false_eq_true,Nat.reduceSub];rfl)
   ·rfl
   ·(first | (simp only [cnlL,cnl,List.append_nil,List.cons_append,List.nil_append];exact cN1) | exact cN1)
   ·exact hPh
   ·exact hSt
   ·exact fun _ h=>h
   ·rfl
   ·(simp only [pb,Nat.reduceLT,Nat.reduceAdd,reduceIte];rfl)
   ·rfl)
 |(apply RunC.skip;· rfl
   ·(simp only [pb,Nat.reduceLT,Nat.reduceAdd,reduceIte];rfl)
   ·rfl))
  exact RunC.nil
 ·repeat (first | exact Keep.nil | (apply Keep.take;· rfl) | (apply Keep.drop;· rfl))
 ·kernel_rfl
 rw [hks]
 refine AX.sR (rgWV [2,4,5,6,7,8] (aI @hn0 (aI @htd oT)) (aI cS1 oT)) ?_
 refine AX.sR (rgCV [2,4,5,6,8,9,10] (aI cX oT)) ?_
 refine AX.sR (rgWV [2,4,5,6,8,9,10,11] (aI @hlo (aI @hm2 oT)) oT) ?_
 refine AX.cut (fun st=>Le 0 id ⟨[(13,.b q.isSome),(12,.i .i64 ((q.getD 0:Nat):Int)),(11,.i .i64 more),(10,.sl (wl l)),(9,.sl (wl o)),(8,.i .i64 m),(6,.ptr 2 0),(5,.mp 1),(4,.i .i64 n),(2,.ptr 0 0)],[(3,⟨64,wl (fl S)⟩),(2,⟨25,[.own 3 0 (S).length 2]⟩),(1,⟨85,[.tab K2]⟩),(0,⟨25,[.nl]⟩)],4⟩ st) ?_ ?_
 ·cases q with
  | none=>
   replace hf2:K0.find (.s NL) K2=some none:=hf2
   apply AX.regS [2,4,5,6,8,9,10,11,12,13] (by simp only [pq];rfl)
   ·repeat (first
   |(apply RunS.op rfl;· rfl
     ·(simp only [opsOf,valsOf,valOf,lkp,ofConst,ofCell,Array.toList,Option.toList,List.map_cons,List.map_nil,List.cons_append,List.nil_append,List.append_nil,Nat.reduceEqDiff,Nat.reducePow,Nat.reduceLT,Nat.reduceLeDiff,reduceIte,if_true,if_false,IntKind.min,IntKind.max,IntKind.bits,IntKind.signed,Int.reduceLE,Int.reduceNeg,Int.reducePow,Int.reduceSub,and_self,Bool.false_eq_true,Nat.reduceSub];rfl)
     iterate 2 (· (simp (disch:=omega) only [go_sem,i64_of,u32_of,u64_of,Nat.reduceLT,Nat.reduceLeDiff,Nat.reduceEqDiff,Nat.reduceAdd,Nat.reduceSub,Nat.reduceMul,Nat.reducePow,Nat.reduceBEq,Int.reduceLE,Int.reduceLT,Int.reduceToNat,Int.reduceEq,Int.reduceNeg,↓reduceIte,reduceCtorEq,hf2];rfl))
     ·(simp only [pb,Nat.reduceLT,Nat.reduceAdd,reduceIte];rfl))
   |(apply RunS.callT rfl;· rfl
     ·(simp only [opsOf,valsOf,valOf,lkp,ofConst,ofCell,Array.toList,Option.toList,List.map_cons,List.map_nil,List.cons_append,List.nil_append,List.append_nil,Nat.reduceEqDiff,Nat.reducePow,Nat.reduceLT,Nat.reduceLeDiff,reduceIte,if_true,if_false,IntKind.min,IntKind.max,IntKind.bits,IntKind.signed,Int.reduceLE,Int.reduceNeg,Int.reducePow,Int.reduceSub,and_self,Bool.false_eq_true,Nat.reduceSub];rfl)
     ·rfl
     ·exact cN2
     ·exact hPh
     ·exact hSt
     ·exact fun _ h=>h
     ·rfl
     ·(simp only [pb,Nat.reduceLT,Nat.reduceAdd,reduceIte];rfl))
   |(apply RunS.skip;· rfl
     ·(simp only [pb,Nat.reduceLT,Nat.reduceAdd,reduceIte];rfl)))
    exact RunS.nil
   ·repeat (first | exact Keep.nil | (apply Keep.take;· rfl) | (apply Keep.drop;· rfl))
   exact ⟨rfl,
    leQ6
    ⟩
  | some v=>
   replace hf2:K0.find (.s NL) K2=some (some (.i .i64 v)):=hf2
   apply AX.regS [2,4,5,6,8,9,10,11,12,13] (by simp only [pq];rfl)
   ·repeat (first
   |(apply RunS.op rfl;· rfl
     ·(simp only [opsOf,valsOf,valOf,lkp,ofConst,ofCell,Array.toList,Option.toList,List.map_cons,List.map_nil,List.cons_append,List.nil_append,List.append_nil,Nat.reduceEqDiff,Nat.reducePow,Nat.reduceLT,Nat.reduceLeDiff,reduceIte,if_true,if_false,IntKind.min,IntKind.max,IntKind.bits,IntKind.signed,Int.reduceLE,Int.reduceNeg,Int.reducePow,Int.reduceSub,and_self,Bool.false_eq_true,Nat.reduceSub];rfl)
     iterate 2 (· (simp (disch:=omega) only [go_sem,i64_of,u32_of,u64_of,Nat.reduceLT,Nat.reduceLeDiff,Nat.reduceEqDiff,Nat.reduceAdd,Nat.reduceSub,Nat.reduceMul,Nat.reducePow,Nat.reduceBEq,Int.reduceLE,Int.reduceLT,Int.reduceToNat,Int.reduceEq,Int.reduceNeg,↓reduceIte,reduceCtorEq,hf2];rfl))
     ·(simp only [pb,Nat.reduceLT,Nat.reduceAdd,reduceIte];rfl))
   |(apply RunS.callT rfl;· rfl
     ·(simp only [opsOf,valsOf,valOf,lkp,ofConst,ofCell,Array.toList,Option.toList,List.map_cons,List.map_nil,List.cons_append,List.nil_append,List.append_nil,Nat.reduceEqDiff,Nat.reducePow,Nat.reduceLT,Nat.reduceLeDiff,reduceIte,if_true,if_false,IntKind.min,IntKind.max,IntKind.bits,IntKind.signed,Int.reduceLE,Int.reduceNeg,Int.reducePow,Int.reduceSub,and_self,Bool.false_eq_true,Nat.reduceSub];rfl)
     ·rfl
     ·exact cN2
     ·exact hPh
     ·exact hSt
     ·exact fun _ h=>h
     ·rfl
     ·(simp only [pb,Nat.reduceLT,Nat.reduceAdd,reduceIte];rfl))
   |(apply RunS.skip;· rfl
     ·(simp only [pb,Nat.reduceLT,Nat.reduceAdd,reduceIte];rfl)))
    exact RunS.nil
   ·repeat (first | exact Keep.nil | (apply Keep.take;· rfl) | (apply Keep.drop;· rfl))
   exact ⟨rfl,
    leQ6
    ⟩
 intro st hle
 refine AX.weaken id hle ?_
 clear hle
 refine AX.cut (fun st=>Le 0 id ⟨[(13,.b q.isSome),(12,.i .i64 ((q.getD (S.length+m):Nat):Int)),(11,.i .i64 more),(10,.sl (wl l)),(9,.sl (wl o)),(8,.i .i64 m),(6,.ptr 2 0),(5,.mp 1),(4,.i .i64 n),(2,.ptr 0 0)],[(3,⟨64,wl (fl S)⟩),(2,⟨25,[.own 3 0 (S).length 2]⟩),(1,⟨85,[.tab K2]⟩),(0,⟨25,[.nl]⟩)],4⟩ st) ?_ ?_
 ·cases q with
  | none=>
   refine AX.sR (rgAV [2,4,5,6,8,9,10,11,12,13,56]) ?_
   refine AX.condT ?_
   refine AX.rR (rgWV [2,4,5,6,8,9,10,11,12,13] (aI @lit_add oT) oT) ?_
   exact ⟨rfl,
    leQ6
    ⟩
  | some v=>
   refine AX.sR (rgAV [2,4,5,6,8,9,10,11,12,13,56]) ?_
   refine AX.condF ?_
   refine AX.keepA [2,4,5,6,8,9,10,11,12,13] ?_
   refine AX.skip ?_
   exact ⟨rfl,
    leQ6
    ⟩
 intro st hle
 refine AX.weaken id hle ?_
 clear hle
 have hto:q.getD (S.length+m)≤124:=by
  cases q with
  | none=>show S.length+m≤124;omega
  | some v=>have:=hqb v rfl;show v≤124;omega
 clear hqb hf1 hf2 cN1 cN2 cS1 cX hks hdv htd
 obtain ⟨to,hto2⟩:∃ to,q.getD (S.length+m)=to:=⟨_,rfl⟩
 rw [hto2] at hmk hto ⊢
 refine AX.sR (rgAV [2,4,5,6,8,9,10,11,12,13,14]) ?_
 refine AX.own0 14 3 1 rfl ?_
 refine AX.seq ?_
 refine AX.sR (rgWV [2,4,5,6,8,10,11,12,13,14,62,63,64] (aI @hlo oT) oT) ?_
 refine AX.weaken id (st':=⟨[(64,.i .i64 (0:Nat)),(63,.i .i64 o.length),(62,.sl (wl o)),(14,.own 4 0 (endsO o 0).length 1),(13,.b q.isSome),(12,.i .i64 (to:Nat)),(11,.i .i64 more),(10,.sl (wl l)),(8,.i .i64 m),(6,.ptr 2 0),(5,.mp 1),(4,.i .i64 n),(2,.ptr 0 0)],[(4,⟨3,wl (endsO o 0)⟩),(3,⟨64,wl (fl S)⟩),(2,⟨25,[.own 3 0 (S).length 2]⟩),(1,⟨85,[.tab K2]⟩),(0,⟨25,[.nl]⟩)],5⟩)
  leQ6
  ?_
 refine AX.block ?_
 refine AX.loop (fun N st=>∃ (i:Nat) (e:List Int),i≤o.length∧N=o.length-i∧endsO o i=e∧st=⟨[(64,.i .i64 i),(63,.i .i64 o.length),(62,.sl (wl o)),(14,.own 4 0 e.length 1),(13,.b q.isSome),(12,.i .i64 (to:Nat)),(11,.i .i64 more),(10,.sl (wl l)),(8,.i .i64 m),(6,.ptr 2 0),(5,.mp 1),(4,.i .i64 n),(2,.ptr 0 0)],[(4,⟨3,wl e⟩),(3,⟨64,wl (fl S)⟩),(2,⟨25,[.own 3 0 (S).length 2]⟩),(1,⟨85,[.tab K2]⟩),(0,⟨25,[.nl]⟩)],5⟩) o.length ⟨0,_,Nat.zero_le _,rfl,rfl,rfl⟩ ?_
 rintro N st ⟨i,e,hi,rfl,he,rfl⟩
 by_cases h3:i<o.length
 ·have hg:=wl_get h3
  have hb:=hob _ (getD_mem_W h3)
  have s1:=endsO_succ h3
  have le:=endsO_length hi
  rw [he] at s1 le
  have hle:=wl_length e
  generalize o.getD i 0=x at *
  have happ:=wl_app e (-1-x)
  have hlen:(e++[-1-x]).length=e.length+1:=by simp
  generalize e++[-1-x]=e2 at *
  refine AX.sR (rgAV [2,4,5,6,8,10,11,12,13,14,62,63,64,65]) ?_
  refine AX.seq ?_
  refine AX.condT ?_
  refine AX.keepA [2,4,5,6,8,10,11,12,13,14,62,63,64] ?_
  refine AX.skip ?_
  refine nmZ ?_
  refine AX.seq ?_
  refine AX.block ?_
  refine AX.sR (rgWV [2,4,5,6,8,10,11,12,13,14,16,62,63,64] (aI @hlo (aI @hg oT)) oT) ?_
  refine AX.rR (rgWV [2,4,5,6,8,10,11,12,13,14,62,63,64] (aI @hle (aI @zerosV_1 (aI @tkS (aI @tk0 oT)))) oT) ?_
  refine nmZ ?_
  rw [happ]
  refine AX.rR (rgWV [2,4,5,6,8,10,11,12,13,14,62,63,64] (aI @lit_add oT) oT) ?_
  refine nmZ ?_
  refine ⟨_,_,fun n=>if n=4 then 6 else n,?_,
   leQ6
   , ⟨i+1,e2,by omega,rfl,s1,rfl⟩⟩
  omega
 obtain rfl:i=o.length:=by omega
 refine AX.sR (rgAV [2,4,5,6,8,10,11,12,13,14,62,63,64,65]) ?_
 refine AX.seq ?_
 refine AX.condF ?_
 refine AX.exit ?_
 refine nmZ ?_
 refine AX.seq ?_
 refine AX.sR (rgAV [2,4,5,6,8,10,11,12,13,14,74,75]) ?_
 have hE0:endsO o o.length++endsM to 0=e:=by rw [he];exact List.append_nil e
 refine AX.weaken id (st':=⟨[(75,.i .i64 (0:Nat)),(74,.i .i64 more),(14,.own 4 0 e.length 1),(13,.b q.isSome),(12,.i .i64 (to:Nat)),(11,.i .i64 more),(10,.sl (wl l)),(8,.i .i64 m),(6,.ptr 2 0),(5,.mp 1),(4,.i .i64 n),(2,.ptr 0 0)],[(4,⟨3,wl e⟩),(3,⟨64,wl (fl S)⟩),(2,⟨25,[.own 3 0 (S).length 2]⟩),(1,⟨85,[.tab K2]⟩),(0,⟨25,[.nl]⟩)],5⟩)
  leQ6
  ?_
 refine AX.block ?_
 refine AX.loop (fun N st=>∃ (i:Nat) (e:List Int),i≤more∧N=more-i∧endsO o o.length++endsM to i=e∧st=⟨[(75,.i .i64 i),(74,.i .i64 more),(14,.own 4 0 e.length 1),(13,.b q.isSome),(12,.i .i64 (to:Nat)),(11,.i .i64 more),(10,.sl (wl l)),(8,.i .i64 m),(6,.ptr 2 0),(5,.mp 1),(4,.i .i64 n),(2,.ptr 0 0)],[(4,⟨3,wl e⟩),(3,⟨64,wl (fl S)⟩),(2,⟨25,[.own 3 0 (S).length 2]⟩),(1,⟨85,[.tab K2]⟩),(0,⟨25,[.nl]⟩)],5⟩) more ⟨0,_,Nat.zero_le _,rfl,hE0,rfl⟩ ?_
 clear hE0 he hi
 clear e
 rintro N st ⟨i,e,hi,rfl,he,rfl⟩
 by_cases h4:i<more
 ·have s1:endsO o o.length++endsM to (i+1)=e++[((to+i:Nat):Int)]:=by
   rw [endsM_succ,← List.append_assoc,he]
   simp
  have le:e.length=o.length+i:=by rw [← he,List.length_append,endsO_length (Nat.le_refl _),endsM_length]
  have hle:=wl_length e
  have happ:=wl_app e ((to+i:Nat):Int)
  have hlen:(e++[((to+i:Nat):Int)]).length=e.length+1:=by simp
  have hti:(to:Int)+(i:Int)=((to+i:Nat):Int):=by omega
  generalize ((to+i:Nat):Int)=ti at *
  have hti1:-9223372036854775808≤ti∧ti≤9223372036854775807:=by omega
  generalize e++[ti]=e2 at *
  refine AX.sR (rgAV [2,4,5,6,8,10,11,12,13,14,74,75,76]) ?_
  refine AX.seq ?_
  refine AX.condT ?_
  refine AX.keepA [2,4,5,6,8,10,11,12,13,14,74,75] ?_
  refine AX.skip ?_
  refine nmZ ?_
  refine AX.seq ?_
  refine AX.block ?_
  refine AX.sR (rgAV [2,4,5,6,8,10,11,12,13,14,17,74,75]) ?_
  refine AX.rR (rgWV [2,4,5,6,8,10,11,12,13,14,74,75] (aI @hti (aI @hle (aI @zerosV_1 (aI @tkS (aI @tk0 oT))))) oT) ?_
  refine nmZ ?_
  rw [happ]
  refine AX.rR (rgWV [2,4,5,6,8,10,11,12,13,14,74,75] (aI @lit_add oT) oT) ?_
  refine nmZ ?_
  refine ⟨_,_,fun n=>if n=4 then 6 else n,?_,
   leQ6
   , ⟨i+1,e2,by omega,rfl,s1,rfl⟩⟩
  omega
 obtain rfl:i=more:=by omega
 refine AX.sR (rgAV [2,4,5,6,8,10,11,12,13,14,74,75,76]) ?_
 refine AX.seq ?_
 refine AX.condF ?_
 refine AX.exit ?_
 refine nmZ ?_
 refine AX.seq ?_
 refine AX.sR (rgAV [2,4,5,6,10,11,13,14,85,86]) ?_
 have hE:endsI o to i=e:=he
 have le:e.length=2*m:=by rw [← hE,endsI_length];omega
 rw [hE] at hmk
 clear hE he hob hlo hol hto2 hto
 have hP0:S++pairsI e 0=S:=List.append_nil S
 refine AX.weaken id (st':=⟨[(86,.i .i64 (0:Nat)),(85,.i .i64 m),(14,.own 4 0 e.length 1),(13,.b q.isSome),(11,.i .i64 i),(10,.sl (wl l)),(6,.ptr 2 0),(5,.mp 1),(4,.i .i64 n),(2,.ptr 0 0)],[(4,⟨3,wl e⟩),(3,⟨64,wl (fl S)⟩),(2,⟨25,[.own 3 0 (S).length 2]⟩),(1,⟨85,[.tab K2]⟩),(0,⟨25,[.nl]⟩)],5⟩)
  leQ6
  ?_
 refine AX.block ?_
 refine AX.loop (fun N st=>∃ (j:Nat) (Sj:T2),j≤m∧N=m-j∧S++pairsI e j=Sj∧st=⟨[(86,.i .i64 j),(85,.i .i64 m),(14,.own 4 0 e.length 1),(13,.b q.isSome),(11,.i .i64 i),(10,.sl (wl l)),(6,.ptr 2 0),(5,.mp 1),(4,.i .i64 n),(2,.ptr 0 0)],[(4,⟨3,wl e⟩),(3,⟨64,wl (fl Sj)⟩),(2,⟨25,[.own 3 0 Sj.length 2]⟩),(1,⟨85,[.tab K2]⟩),(0,⟨25,[.nl]⟩)],5⟩) m ⟨0,S,Nat.zero_le _,rfl,hP0,rfl⟩ ?_
 rintro N st ⟨j,Sj,hj,rfl,hSj,rfl⟩
 by_cases h5:j<m
 ·have hg1:=wl_get (l:=e) (j:=2*j) (by omega)
  have hg2:=wl_get (l:=e) (j:=2*j+1) (by omega)
  have s1:S++pairsI e (j+1)=Sj++[(e.getD (2*j) 0,e.getD (2*j+1) 0)]:=by rw [pairsI_succ,← List.append_assoc,hSj]
  have hle:=wl_length e
  have h2j:(2:Int)*(j:Int)=((2*j:Nat):Int):=by omega
  have lSj:Sj.length≤128:=by rw [← hSj,List.length_append,pairsI_length];omega
  have hwf:=wlfl_length Sj
  generalize e.getD (2*j) 0=a at *
  generalize e.getD (2*j+1) 0=b at *
  have happ:=wl_fl Sj a b
  have hlen:(Sj++[(a,b)]).length=Sj.length+1:=by simp
  generalize Sj++[(a,b)]=S2 at *
  refine AX.sR (rgAV [2,4,5,6,10,11,13,14,85,86,87]) ?_
  refine AX.seq ?_
  refine AX.condT ?_
  refine AX.keepA [2,4,5,6,10,11,13,14,85,86] ?_
  refine AX.skip ?_
  refine nmZ ?_
  refine AX.seq ?_
  refine AX.block ?_
  refine AX.sR (rgAV [2,4,5,6,10,11,13,14,18,85,86]) ?_
  refine AX.rD (rgDEV [2,4,5,6,10,11,13,14,85,86] (aI @h2j (aI @hle (aI @hg1 (aI @hg2 (aI @hwf (aI @lit_add (aI @zerosV_1 (aI @tkS (aI @tk0 oT))))))))) oT (aI (effBd2 _ _) (aI (effBs2 _) oT))) ?_
  refine nmZ ?_
  rw [happ]
  refine AX.rR (rgWV [2,4,5,6,10,11,13,14,85,86] (aI @lit_add oT) oT) ?_
  refine nmZ ?_
  refine ⟨_,_,fun n=>if n=3 then 6 else n,?_,
   (leQ6H hlen)
   , ⟨j+1,S2,by omega,rfl,s1,rfl⟩⟩
  omega
 obtain rfl:j=m:=by omega
 refine AX.sR (rgAV [2,4,5,6,10,11,13,14,85,86,87]) ?_
 refine AX.seq ?_
 refine AX.condF ?_
 refine AX.exit ?_
 refine nmZ ?_
 rw [hSj] at hmk
 have lS2:Sj.length=S.length+j:=by rw [← hSj,List.length_append,pairsI_length]
 refine AX.seq ?_
 by_cases h6:60<Sj.length
 ·rw [if_pos h6] at hmk
  subst hmk
  refine AX.sR (rgAV [2,4,5,6,10,11,13,110]) ?_
  refine AX.condT ?_
  refine AX.sR (rgAV [2,3]) ?_
  refine AX.ret ⟨.inl rfl,?_⟩
  exact Done.smpN rfl rfl rfl
 rw [if_neg h6] at hmk
 refine AX.sR (rgAV [2,4,5,6,10,11,13,110]) ?_
 refine AX.condF ?_
 refine AX.keepA [2,4,5,6,10,11,13] ?_
 refine AX.skip ?_
 refine nmZ ?_
 refine AX.seq ?_
 have hfin:q.isSome=true∨i=0→X=some (some Sj):=fun h=>by rw [if_pos h] at hmk;exact hmk.symm
 have hgo:q.isSome=false→i≠0→mkS n k l (M++[(R,S.length)]) Sj=X:=fun h1 h2=>by
  rw [if_neg] at hmk
  ·exact hmk
  ·rw [h1]
   exact fun h=>h.elim Bool.false_ne_true h2
 cases hqs:q.isSome
 ·by_cases h7:i=0
  ·rw [hfin (.inr h7)]
   refine AX.sR (rgAV [2,4,5,6,10,116]) ?_
   refine AX.condT ?_
   refine AX.sR (rgAV [2,3]) ?_
   refine AX.ret ⟨.inl rfl,?_⟩
   exact Done.smpO rfl rfl rfl rfl rfl
  ·have hmk2:=hgo hqs h7
   refine AX.sR (rgAV [2,4,5,6,10,116]) ?_
   refine AX.condF ?_
   refine AX.keepA [2,4,5,6,10] ?_
   refine AX.skip ?_
   refine nmZ ?_
   refine AX.rR (rgAV [2,4,5,6,7]) ?_
   refine nmZ ?_
   subst hKM2
   rw [Option.isSome_eq_false_iff,Option.isNone_iff_eq_none] at hqs
   refine ⟨_,_,id,?_,
    leQ6
    , ⟨l,M++[(R,S.length)],Sj,i,hL2,by omega,hq.trans hqs,hM2,by omega,by omega,hmk2,rfl⟩⟩
   omega
 ·rw [hfin (.inl hqs)]
  refine AX.sR (rgAV [2,4,5,6,10,116]) ?_
  refine AX.condT ?_
  refine AX.sR (rgAV [2,3]) ?_
  refine AX.ret ⟨.inl rfl,?_⟩
  exact Done.smpO rfl rfl rfl rfl rfl
theorem makeT_ok (l:List Int)(h:isO l=true):PCallT TabP Tryz.prog 11 [.sl (wl l)] (mkV l):=by
 obtain ⟨_,n2,n3⟩:=isL_first h
 exact make_walkT tabP_st itB 100000 l h (by omega) (fun x h1 h2=>itB_size h1 h2) (fun x h1 h2=>itoaT_ok x h1 h2) (fun a b h1 h2 h3 h4=>nameB_inj h1 h2 h3 h4)
end Go.Proofs.YteidabibgjokkaaGreatDoor
