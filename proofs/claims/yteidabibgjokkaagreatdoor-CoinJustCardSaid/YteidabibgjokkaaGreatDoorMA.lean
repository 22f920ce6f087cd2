import Derived.Test.YteidabibgjokkaaGreatDoorGF
import Derived.Test.YteidabibgjokkaaGreatDoorJA
import Derived.Test.YteidabibgjokkaaGreatDoorGN
set_option maxRecDepth 20000
set_option linter.all false
namespace Go.Proofs.YteidabibgjokkaaGreatDoor
open Go Go.Proofs.YteidabibgjokkaaGreatDoor.Lift
attribute [local irreducible] Lift.PCall Lift.HCall
abbrev T2:=List (Int × Int)
abbrev p2 (x:Int × Int):V:=.agg [.i .i64 x.1,.i .i64 x.2]
def nx (T:T2):List V:=T.map p2
def smp (T:T2):V:=.agg [.sl (nx T)]
def z2:Int × Int:=(0,0)
theorem nx_length (T:T2):(nx T).length=T.length:=List.length_map ..
theorem nx_get {T:T2} {j:Nat} (h:j<T.length):(nx T).getD j .junk=p2 (T.getD j z2):=by
 simp [nx,List.getD_eq_getElem?_getD,h]
theorem getD_mem_T {T:T2} {j:Nat} (h:j<T.length):T.getD j z2 ∈ T:=by
 rw [List.getD_eq_getElem?_getD,List.getElem?_eq_getElem h]
 exact List.getElem_mem _
def bT (T:T2):Prop:=∀ x ∈ T,(-9223372036854775808≤x.1∧x.1≤9223372036854775807)∧(-9223372036854775808≤x.2∧x.2≤9223372036854775807)
theorem co_lay_int:lay Tryz.prog 3=some ⟨1,false,8,[.i .i64 0]⟩:=by kernel_rfl
theorem co_lay_two:lay Tryz.prog 64=some ⟨2,true,16,[.i .i64 0,.i .i64 0]⟩:=by kernel_rfl
theorem co_lay_next:lay Tryz.prog 23=some ⟨1,false,24,[.nl]⟩:=by kernel_rfl
theorem co_lay_smp:lay Tryz.prog 25=some ⟨1,true,24,[.nl]⟩:=by kernel_rfl
theorem co_lay_smp29:lay Tryz.prog 29=some ⟨1,true,24,[.nl]⟩:=by kernel_rfl
theorem co_lay_bool:lay Tryz.prog 4=some ⟨1,false,1,[.b false]⟩:=by kernel_rfl
theorem co_arr2:arr2 Tryz.prog 64=true:=by kernel_rfl
attribute [go_sem] Tryz.underlying64 Tryz.underlying23 Tryz.underlying25 Tryz.underlying29 Tryz.underlying66 Tryz.underlying22 co_lay_int co_lay_two co_lay_next co_lay_smp co_lay_smp29 co_lay_bool co_arr2
theorem effIx2 {els:List V} {j:Nat} {x y:Operand} (hj:j<els.length) {a b:Int} (he:els.getD j .junk=.agg [.i .i64 a,.i .i64 b]):eff Tryz.prog (.indexAddr 23 x y) [.sl els,.i .i64 (j:Int)]=some (.val (.rp [.i .i64 a,.i .i64 b])):=by
 simp only [eff,effIndexAddr,Tryz.underlying23,co_lay_two,Int.toNat_natCast,he]
 rw [if_pos ⟨by omega,by omega,rfl⟩]
 rfl
def badP (n:Nat) (x:Int × Int):Bool:=decide ((n:Int)≤x.1) || decide (x.1 < -64) || decide ((n:Int)≤x.2) || decide (x.2 < -64)
def isS (T:T2):Bool:=decide (1≤T.length) && decide (T.length≤60) && !T.any (badP T.length)
theorem badP_false {n:Nat} {x:Int × Int}:badP n x=false↔(-64≤x.1∧x.1<n)∧(-64≤x.2∧x.2<n):=by
 unfold badP
 simp only [Bool.or_eq_false_iff,decide_eq_false_iff_not]
 omega
theorem isS_iff {T:T2}:isS T=true↔1≤T.length∧T.length≤60∧∀ x ∈ T,(-64≤x.1∧x.1<T.length)∧(-64≤x.2∧x.2<T.length):=by
 unfold isS
 simp only [Bool.and_eq_true,decide_eq_true_eq,Bool.not_eq_true',List.any_eq_false,and_assoc]
 refine and_congr_right fun _=>and_congr_right fun _=>forall_congr' fun x=>forall_congr' fun _=>?_
 rw [Bool.not_eq_true,badP_false,and_assoc]
theorem bad_ok (n:Nat)(hn:n<2 ^ 62)(a b:Int)(ha:-9223372036854775808≤a∧a≤9223372036854775807)(hb:-9223372036854775808≤b∧b≤9223372036854775807):PCall Tryz.prog 47 [.agg [.i .i64 a,.i .i64 b],.rp [.i .i64 n]] (.b (badP n (a,b))) []:=by
 refine PCall.of_ax Tryz.call47 Tryz.func47 rfl (by simp [Tryz.ntmps47]) fun O w=>?_
 simp only [Tryz.ntmps47,Tryz.results47,argFr]
 refine AX.sR (rgAV [1,2]) ?_
 have e:badP n (a,b)=(decide ((n:Int)≤a) || decide (a < -64) || decide ((n:Int)≤b) || decide (b < -64)):=rfl
 rw [e]
 clear e
 by_cases h1:(n:Int)≤a
 ·rw [decide_eq_true h1,Bool.true_or,Bool.true_or,Bool.true_or]
  refine AX.sR (rgAV [3]) ?_
  refine AX.ret ⟨.inl rfl,?_⟩
  exact Done.one rfl rfl rfl rfl
 ·rw [decide_eq_false h1,Bool.false_or]
  by_cases h2:a < -64
  ·rw [decide_eq_true h2,Bool.true_or,Bool.true_or]
   refine AX.sR (rgAV [3]) ?_
   refine AX.ret ⟨.inl rfl,?_⟩
   exact Done.one rfl rfl rfl rfl
  ·rw [decide_eq_false h2,Bool.false_or]
   by_cases h3:(n:Int)≤b
   ·rw [decide_eq_true h3,Bool.true_or]
    refine AX.sR (rgAV [3]) ?_
    refine AX.ret ⟨.inl rfl,?_⟩
    exact Done.one rfl rfl rfl rfl
   ·rw [decide_eq_false h3,Bool.false_or]
    refine AX.sR (rgAV [3]) ?_
    refine AX.ret ⟨.inl rfl,?_⟩
    exact Done.one rfl rfl rfl rfl
def idxT (p:Int × Int→Bool) (T:T2):Int:=if T.any p then (T.findIdx p:Nat) else -1
theorem idxT_nonneg (p:Int × Int→Bool)(T:T2):decide (0≤idxT p T)=T.any p:=by
 unfold idxT
 cases T.any p
 ·rfl
 ·exact decide_eq_true (by rw [if_pos rfl];omega)
set_option maxHeartbeats 4000000 in
theorem index2_ok (g:FuncId)(cs:List V)(p:Int × Int→Bool)(T:T2)(hl:T.length<2 ^ 40)(hg:∀ x ∈ T,PCall Tryz.prog g [.agg [.i .i64 x.1,.i .i64 x.2],.rp cs] (.b (p x)) []):PCall Tryz.prog 77 [.sl (nx T),.fn g [.rp cs]] (.i .i64 (idxT p T)) []:=by
 refine PCall.of_ax Tryz.call77 Tryz.func77 rfl (by simp [Tryz.ntmps77]) fun O w=>?_
 simp only [Tryz.ntmps77,Tryz.results77,argFr]
 have hml:=nx_length T
 refine AX.sR (rgAV [0,1]) ?_
 refine AX.seq ?_
 refine AX.sR (rgWV [0,1,7,8] (aI @hml oT) oT) ?_
 refine AX.block ?_
 refine AX.loop (fun N st=>∃ j:Nat,j≤T.length∧N=T.length-j∧(∀ k,k<j→p (T.getD k z2)=false)∧st=⟨[(8,.i .i64 j),(7,.i .i64 T.length),(0,.sl (nx T)),(1,.fn g [.rp cs])],[],0⟩) T.length ⟨0,Nat.zero_le _,rfl,fun k hk=>absurd hk (Nat.not_lt_zero _),rfl⟩ ?_
 rintro N st ⟨j,hj,rfl,hno,rfl⟩
 by_cases h1:j<T.length
 ·have hmem:=getD_mem_T h1
  have hcc:=hg _ hmem
  have hix:=fun x y=>effIx2 (x:=x) (y:=y) (els:=nx T) (j:=j) (by omega) (nx_get h1)
  have hfin:p (T.getD j z2)=true→idxT p T=j:=by
   intro hp
   have hgd:∀ k (hk:k<T.length),T.getD k z2=T[k]:=fun k hk=>by rw [List.getD_eq_getElem?_getD,List.getElem?_eq_getElem hk];rfl
   have hany:T.any p=true:=List.any_eq_true.2 ⟨_,hmem,hp⟩
   unfold idxT
   rw [if_pos hany]
   have:=(List.findIdx_eq h1 (p:=p)).2 ⟨by rw [← hgd j h1];exact hp,fun k hk=>by rw [← hgd k (by omega)];exact hno k hk⟩
   omega
  have hno':p (T.getD j z2)=false→∀ k,k<j+1→p (T.getD k z2)=false:=by
   intro h k hk
   by_cases e:k=j
   ·subst e;exact h
   ·exact hno k (by omega)
  clear hmem hg
  generalize T.getD j z2=x at *
  obtain ⟨a,b⟩:=x
  dsimp only at hcc hix
  generalize nx T=sl at *
  cases hp:p (a,b)
  ·have hno2:=hno' hp
   rw [hp] at hcc
   refine AX.sR (rgAV [0,1,7,8,9]) ?_
   refine AX.seq ?_
   refine AX.condT ?_
   refine AX.keepA [0,1,7,8] ?_
   refine AX.skip ?_
   refine nmZ ?_
   refine AX.seq ?_
   refine AX.block ?_
   refine AX.sR (rgAV [0,1,5,7,8]) ?_
   refine AX.sR (rgEV [0,1,5,7,8,16] oT (aI hcc oT) (aI hix oT)) ?_
   refine AX.condF ?_
   refine AX.keepA [0,1,7,8] ?_
   refine AX.skip ?_
   refine nmZ ?_
   refine AX.rR (rgWV [0,1,7,8] (aI @lit_add oT) oT) ?_
   refine nmZ ?_
   refine ⟨_,_,id,?_,
    leA
    , ⟨j+1,by omega,rfl,hno2,rfl⟩⟩
   omega
  ·rw [hfin hp]
   rw [hp] at hcc
   refine AX.sR (rgAV [0,1,7,8,9]) ?_
   refine AX.seq ?_
   refine AX.condT ?_
   refine AX.keepA [0,1,7,8] ?_
   refine AX.skip ?_
   refine nmZ ?_
   refine AX.seq ?_
   refine AX.block ?_
   refine AX.sR (rgAV [0,1,5,7,8]) ?_
   refine AX.sR (rgEV [5,16] oT (aI hcc oT) (aI hix oT)) ?_
   refine AX.condT ?_
   refine AX.sR (rgAV [4]) ?_
   refine AX.ret ⟨.inl rfl,?_⟩
   exact Done.one rfl rfl rfl rfl
 ·have e:idxT p T=-1:=by
   unfold idxT
   rw [if_neg]
   rw [Bool.not_eq_true,List.any_eq_false]
   intro x hx
   obtain ⟨k,hk,rfl⟩:=List.getElem_of_mem hx
   have:=hno k (by omega)
   rw [List.getD_eq_getElem?_getD,List.getElem?_eq_getElem hk] at this
   rw [Bool.not_eq_true]
   exact this
  rw [e]
  refine AX.sR (rgAV [7,8,9]) ?_
  refine AX.seq ?_
  refine AX.condF ?_
  refine AX.exit ?_
  refine nmZ ?_
  refine AX.sR (rgAV [4]) ?_
  refine AX.ret ⟨.inl rfl,?_⟩
  exact Done.one rfl rfl rfl rfl
theorem contains2_ok (g:FuncId)(cs:List V)(p:Int × Int→Bool)(T:T2)(hl:T.length<2 ^ 40)(hg:∀ x ∈ T,PCall Tryz.prog g [.agg [.i .i64 x.1,.i .i64 x.2],.rp cs] (.b (p x)) []):PCall Tryz.prog 46 [.sl (nx T),.fn g [.rp cs]] (.b (T.any p)) []:=by
 have c1:=index2_ok g cs p T hl hg
 have e:=idxT_nonneg p T
 refine PCall.of_ax Tryz.call46 Tryz.func46 rfl (by simp [Tryz.ntmps46]) fun O w=>?_
 simp only [Tryz.ntmps46,Tryz.results46,argFr]
 generalize idxT p T=z at *
 generalize T.any p=z' at *
 generalize nx T=A at *
 refine AX.sR (rgAV [0,1]) ?_
 refine AX.sR (rgWV [4] (aI @e oT) (aI c1 oT)) ?_
 refine AX.ret ⟨.inl rfl,?_⟩
 exact Done.one rfl rfl rfl rfl
theorem cright_smp (T:T2)(hl:T.length<2 ^ 62)(hb:bT T):PCall Tryz.prog 14 [smp T] (.b (isS T)) []:=by
 refine PCall.of_ax Tryz.call14 Tryz.func14 rfl (by simp [Tryz.ntmps14]) fun O w=>?_
 simp only [Tryz.ntmps14,Tryz.results14,argFr]
 have hml:=nx_length T
 unfold smp
 by_cases h1:1≤T.length
 ·by_cases h2:T.length≤60
  ·have c1:=contains2_ok 47 [.i .i64 T.length] (badP T.length) T (by omega) (fun x hx=>bad_ok T.length hl x.1 x.2 (hb x hx).1 (hb x hx).2)
   have e:isS T=!T.any (badP T.length):=by unfold isS;rw [decide_eq_true h1,decide_eq_true h2];rfl
   rw [e]
   generalize T.any (badP T.length)=z at *
   generalize nx T=A at *
   refine AX.sR (rgAV [1]) ?_
   refine AX.sR (rgWV [1,3] (aI @hml oT) oT) ?_
   refine AX.fz 1 (fr':=[(3,.rp [.i .i64 T.length]),(1,.ptr 0 0)]) (hp':=[(0,⟨25,[.sl A]⟩)]) rfl rfl (.cons rfl (.ptr rfl) (.cons rfl .same .nil)) (.keep (by decide) rfl .nil) ?_
   refine AX.sR (rgCV [2] (aI c1 oT)) ?_
   refine AX.ret ⟨.inl rfl,?_⟩
   exact Done.one rfl rfl rfl rfl
  ·have e:isS T=false:=by unfold isS;rw [decide_eq_false h2,Bool.and_false,Bool.false_and]
   rw [e]
   generalize nx T=A at *
   refine AX.sR (rgAV [1]) ?_
   refine AX.sR (rgWV [1,3] (aI @hml oT) oT) ?_
   refine AX.sR (rgAV [2]) ?_
   refine AX.ret ⟨.inl rfl,?_⟩
   exact Done.one rfl rfl rfl rfl
 ·have e:isS T=false:=by unfold isS;rw [decide_eq_false h1];rfl
  rw [e]
  generalize nx T=A at *
  refine AX.sR (rgAV [1]) ?_
  refine AX.sR (rgWV [1,3] (aI @hml oT) oT) ?_
  refine AX.sR (rgAV [2]) ?_
  refine AX.ret ⟨.inl rfl,?_⟩
  exact Done.one rfl rfl rfl rfl
theorem Lift.Done.smp {st:St} {a:Tmp} {h:Nat} {T:TypeId} {l:List V} (h1:lkp st.fr a=some (.ptr h 0))(h2:lkp st.hp h=some ⟨T,[.sl l]⟩):Done Tryz.prog #[.cell a 25] (.agg [.sl l]) [] st:=by
 refine Done.of (vs:=[.agg [.sl l]]) (hp:=st.hp) ?_ rfl rfl rfl rfl
 simp only [resVs,resV,h1,h2,co_lay_smp];rfl
def stepC (x:Int × Int) (c:Bool):Int:=if c=true then x.2 else x.1
end Go.Proofs.YteidabibgjokkaaGreatDoor
