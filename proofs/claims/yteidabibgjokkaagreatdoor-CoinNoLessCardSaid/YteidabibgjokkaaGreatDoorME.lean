import Derived.Test.YteidabibgjokkaaGreatDoorJC
import Derived.Test.YteidabibgjokkaaGreatDoorHN
import Derived.Test.YteidabibgjokkaaGreatDoorMD
import Derived.Test.YteidabibgjokkaaGreatDoorMC
import Derived.Test.YteidabibgjokkaaGreatDoorMJ
set_option maxRecDepth 20000
set_option linter.all false
namespace Go.Proofs.YteidabibgjokkaaGreatDoor
open Go Go.Proofs.YteidabibgjokkaaGreatDoor.Lift
attribute [local irreducible] Lift.PCall Lift.HCall
theorem bigL9 {n:Nat} (hn:n≤9):4*bigL n (1+1)<2 ^ 33:=by
 have h1:=bigL_mono (L:=1+1) hn
 have h2:4*bigL 9 (1+1)<2 ^ 33:=by decide
 omega
theorem sol_small9 {n:Nat} (hn:n≤9) {A:Mx} {b x:Nat→Rat} (hN:NonSing n A)(hA:∀ i j,i<n→j<n→rL (A i j)≤2)(hb:∀ i,i<n→rL (b i)≤2)(hx:∀ i,i<n→(sumN n fun j=>A i j*x j)=b i):∀ i,i<n→rL (x i)≤100000:=by
 intro i hi
 have h1:=sol_small (by omega) hN hA hb hx i hi
 have h2:sysB n (32*2*(n+2))≤sysB 9 (32*2*11):=sysB_mono hn (Nat.mul_le_mul_left _ (by omega))
 have h3:sysB 9 (32*2*11)≤3199000:=by decide
 omega
theorem each_small9 {n m:Nat} {A B:Mx} (hn:n≤9)(hC:isC n m A B=true)(hA:∀ i k,i<n→k<n→rL (A i k)≤1)(hB:∀ i k,i<n→k<m→rL (B i k)≤1):∀ i j,i<n→j<m→rL (eachM n m A B i j)≤100000:=by
 intro i j hi hj
 unfold eachM
 split
 ·rename_i hf
  have hA':∀ i j,i<(pick n (rchB n m A B)).length→j<(pick n (rchB n m A B)).length→rL (subM false (pick n (rchB n m A B)) A i j)≤2:=fun i j hi hj=>subM_len hA (by decide) (pick_get hi).1 (pick_get hj).1
  have hB':∀ i j,i<(pick n (rchB n m A B)).length→j<m→rL (rhsM (pick n (rchB n m A B)) B i j)≤2:=fun i j hi hj=>Nat.le_trans (hB _ j (pick_get hi).1 hj) (by decide)
  obtain ⟨_,h2,_⟩:=fin_spec (n:=(pick n (rchB n m A B)).length) (c:=m) (L:=2) (B:=rhsM (pick n (rchB n m A B)) B) (nonsing_sub hC) hA' hB' (by decide)
  exact sol_small9 (Nat.le_trans (pick_le n _) hn) (nonsing_sub hC) hA' (fun i hi=>hB' i j hi hj) (x:=fun k=>solX _ _ _ k j) (fun i hi=>h2 i j hi hj) _ (pick_at hi hf).1
 ·exact Nat.le_trans rL0 (by decide)
theorem vis_small9 {n m:Nat} {A B:Mx} {v:Nat→Rat} (hn:n≤9)(hC:isC n m A B=true)(hA:∀ i k,i<n→k<n→rL (A i k)≤1)(hvL:∀ i,i<n→rL (v i)≤1):∀ i,i<n→rL (visV n m A B v i)≤100000:=by
 intro i hi
 unfold visV
 split
 ·rename_i hf
  have hA':∀ i j,i<(pick n (rchB n m A B)).length→j<(pick n (rchB n m A B)).length→rL (subM true (pick n (rchB n m A B)) A i j)≤2:=fun i j hi hj=>subM_len hA (by decide) (pick_get hi).1 (pick_get hj).1
  exact sol_small9 (Nat.le_trans (pick_le n _) hn) (nonsing_turn hC hA (by decide)) hA' (fun i hi=>Nat.le_trans (hvL _ (pick_get hi).1) (by decide)) (x:=fun k=>solX _ _ _ k 0) (fun i hi=>vis_sys hC hA (fun i hi=>Nat.le_trans (hvL i hi) (by decide)) (by decide) i hi) _ (pick_at hi hf).1
 ·exact Nat.le_trans rL0 (by decide)
structure Sm9 (n m:Nat) (A B:Mx) (v:Nat→Rat):Prop where
 hn:n≤9
 hm:m≤60
 hA:∀ i k,i<n→k<n→rL (A i k)≤1
 hB:∀ i k,i<n→k<m→rL (B i k)≤1
 hC:isC n m A B=true
 hv:∀ i,i<n→0≤v i
 hvL:∀ i,i<n→rL (v i)≤1
namespace Sm9
variable {n m:Nat} {A B:Mx} {v:Nat→Rat}
theorem right (h:Sm9 n m A B v):PCall Tryz.prog 60 [cV n m A B] (.b true) []:=by
 have c1:=cright_ok n m 1 (by have:=h.hn;omega) (by have:=h.hm;omega) A B h.hA h.hB (by decide) (by decide)
 rwa [h.hC] at c1
theorem hX (h:Sm9 n m A B v):∀ i j,i<n→j<m→rL (eachM n m A B i j)≤100000:=each_small9 h.hn h.hC h.hA h.hB
theorem is (h:Sm9 n m A B v):(chn n m A B).IsEach (eachM n m A B):=each_is h.hC h.hA h.hB (by decide)
theorem each (h:Sm9 n m A B v):PCall Tryz.prog 93 [cV n m A B] (.tup [qM n m (eachM n m A B),.i .i64 0]) []:=
 ceach_ok n m 1 (by have:=h.hn;omega) (by have:=h.hm;omega) A B h.hC h.hA h.hB (by decide) (bigL9 h.hn) (by decide)
theorem ends (h:Sm9 n m A B v):PCall Tryz.prog 53 [cV n m A B,.sl ((vl n v).map rV)] (.tup [.sl ((vl m (thr n v (eachM n m A B))).map rV),rV (neverQ n m A B v),.i .i64 0]) []:=
 ends_ok n m 1 100000 (by have:=h.hn;omega) (by have:=h.hm;omega) A B h.hC h.hA h.hB (by decide) (bigL9 h.hn) (by decide) v h.hv (fun i hi=>Nat.le_trans (h.hvL i hi) (by decide)) h.hX (by decide) (by decide) (by
  have:=h.hn
  have:=h.hm
  have h1:(n+m+1)*(60*(2*100000+1)+1+1)≤70*(60*(2*100000+1)+1+1):=Nat.mul_le_mul_right _ (by omega)
  omega)
theorem endL (h:Sm9 n m A B v):∀ k,k<m→rL (thr n v (eachM n m A B) k)≤2000000:=fun k hk=>by
 have h1:=thr_len (B:=eachM n m A B) (k:=k) (L:=100000) (by decide) (fun i hi=>Nat.le_trans (h.hvL i hi) (by decide)) (fun i hi=>h.hX i k hi hk) n (Nat.le_refl _)
 have h2:n*(2*100000+1)≤9*(2*100000+1):=Nat.mul_le_mul_right _ h.hn
 omega
theorem neverL (h:Sm9 n m A B v):rL (neverQ n m A B v)≤130000000:=by
 have h1:=sumN_len h.hvL n (Nat.le_refl _)
 have h2:=sumN_len h.endL m (Nat.le_refl _)
 have h3:n*(1+1)≤9*(1+1):=Nat.mul_le_mul_right _ h.hn
 have h4:m*(2000000+1)≤60*(2000000+1):=Nat.mul_le_mul_right _ h.hm
 have:=rL_sub _ _ h1 h2
 unfold neverQ
 omega
end Sm9
namespace Sm9
variable {n m:Nat} {A B:Mx} {v:Nat→Rat}
theorem visits (h:Sm9 n m A B v):PCall Tryz.prog 102 [cV n m A B,.sl ((vl n v).map rV)] (if neverQ n m A B v=0 then .tup [.sl ((vl n (visV n m A B v)).map rV),.i .i64 0] else .tup [.sl [],.i .i64 31]) []:=
 visits_ok n m 1 100000 (by have:=h.hn;omega) (by have:=h.hm;omega) A B h.hC h.hA h.hB (by decide) (bigL9 h.hn) (by decide) v h.hv (fun i hi=>Nat.le_trans (h.hvL i hi) (by decide)) h.hX (by decide) (by decide) (by
  have:=h.hn
  have:=h.hm
  have h1:(n+m+1)*(60*(2*100000+1)+1+1)≤70*(60*(2*100000+1)+1+1):=Nat.mul_le_mul_right _ (by omega)
  omega)
theorem isVis (h:Sm9 n m A B v):(chn n m A B).IsVis v (visV n m A B v):=vis_is (L:=1) h.hC h.hA (fun i hi=>Nat.le_trans (h.hvL i hi) (by decide)) (by decide)
theorem visL (h:Sm9 n m A B v):∀ i,i<n→rL (visV n m A B v i)≤100000:=vis_small9 h.hn h.hC h.hA h.hvL
theorem never_eq (h:Sm9 n m A B v):neverQ n m A B v=(chn n m A B).never (eachM n m A B) v:=rfl
end Sm9
theorem Sm9.csteps {n m:Nat} {A B:Mx} {v:Nat→Rat} (h:Sm9 n m A B v)(h0:neverQ n m A B v=0):PCall Tryz.prog 57 [cV n m A B,.sl ((vl n v).map rV)] (.tup [rV (sumN n (visV n m A B v)),.i .i64 0]) []:=
 steps_ok' n m 1 100000 (by have:=h.hn;omega) (by have:=h.hm;omega) A B h.hC h.hA h.hB (by decide) (bigL9 h.hn) (by decide) v h.hv (fun i hi=>Nat.le_trans (h.hvL i hi) (by decide)) h.hX (by decide) (by decide) (by
  have:=h.hn
  have:=h.hm
  have h1:(n+m+1)*(60*(2*100000+1)+1+1)≤70*(60*(2*100000+1)+1+1):=Nat.mul_le_mul_right _ (by omega)
  omega) h0 h.visL
set_option maxHeartbeats 8000000 in
theorem same29_ok (xs ys:List Rat) (L:Nat) (hx:∀ q ∈ xs,rL q≤L) (hy:∀ q ∈ ys,rL q≤L) (hL1:1≤L) (hL:L<2 ^ 33) (lx:xs.length<2 ^ 40) (ly:ys.length<2 ^ 40) :
  PCall Tryz.prog 26 [.sl (xs.map rV),.sl (ys.map rV)] (.b (decide (xs=ys))) []:=by
 refine PCall.of_ax Tryz.call26 Tryz.func26 rfl (by simp [Tryz.ntmps26]) fun O w0=>?_
 simp only [Tryz.ntmps26,Tryz.results26,argFr]
 have hmx:(xs.map rV).length=xs.length:=List.length_map ..
 have hmy:(ys.map rV).length=ys.length:=List.length_map ..
 have ixx:=fun (j:Nat) (h:j<xs.length)=>fun x y=>effIxQ (x:=x) (y:=y) h
 have ixy:=fun (j:Nat) (h:j<ys.length)=>fun x y=>effIxQ (x:=x) (y:=y) h
 refine AX.sR (rgAV [0,1]) ?_
 refine AX.seq ?_
 by_cases h3:xs.length=ys.length
 ·generalize hX:xs.map rV=X at *
  generalize hY:ys.map rV=Y at *
  refine AX.sR (rgWV [0,1,10] (aI @hmx (aI @hmy (aI @h3 oT))) oT) ?_
  refine AX.condF ?_
  refine AX.keepA [0,1] ?_
  refine AX.skip ?_
  refine nmZ ?_
  refine AX.seq ?_
  refine AX.sR (rgWV [0,1,12,13] (aI @hmx oT) oT) ?_
  refine AX.weaken id (st':=⟨[(13,.i .i64 (0:Nat)),(12,.i .i64 xs.length),(1,.sl Y),(0,.sl X)],[],0⟩)
   leQ7
   ?_
  refine AX.block ?_
  refine AX.loop (fun n st=>∃ i:Nat,i≤xs.length∧n=xs.length-i∧(∀ j,j<i→xs.getD j 0=ys.getD j 0)∧st=⟨[(13,.i .i64 i),(12,.i .i64 xs.length),(1,.sl Y),(0,.sl X)],[],0⟩) xs.length ⟨0,Nat.zero_le _,rfl,fun j hj=>absurd hj (Nat.not_lt_zero j),rfl⟩ ?_
  rintro n st ⟨i,hi,rfl,hij,rfl⟩
  by_cases h:i<xs.length
  ·have hxi:=hx (xs.getD i 0) (by rw [List.getD_eq_getElem?_getD,List.getElem?_eq_getElem h];exact List.getElem_mem _)
   have hyi:=hy (ys.getD i 0) (by rw [List.getD_eq_getElem?_getD,List.getElem?_eq_getElem (h3 ▸ h)];exact List.getElem_mem _)
   have ix1:=ixx i h
   have ix2:=ixy i (h3 ▸ h)
   have cp:PCall Tryz.prog 27 [.agg [.b (decide ((xs.getD i 0).num<0)),dg (digits (xs.getD i 0).num.natAbs),dg (digits (xs.getD i 0).den)],.agg [.b (decide ((ys.getD i 0).num<0)),dg (digits (ys.getD i 0).num.natAbs),dg (digits (ys.getD i 0).den)]] (.b (decide (xs.getD i 0=ys.getD i 0))) []:=psame_ok (IsQ.of hxi) (IsQ.of hyi) (by omega) hL1
   by_cases he:xs.getD i 0=ys.getD i 0
   ·rw [decide_eq_true he] at cp
    have hnext:∀ j,j<i+1→xs.getD j 0=ys.getD j 0:=by
     intro j hj
     by_cases e:j=i
     ·subst e;exact he
     ·exact hij j (by omega)
    clear he
    generalize xs.getD i 0=a at ix1 cp
    generalize ys.getD i 0=b at ix2 cp
    refine AX.sR (rgAV [0,1,12,13,14]) ?_
    refine AX.seq ?_
    refine AX.condT ?_
    refine AX.keepA [0,1,12,13] ?_
    refine AX.skip ?_
    refine nmZ ?_
    refine AX.seq ?_
    refine AX.block ?_
    refine AX.sR (rgAV [0,1,5,12,13]) ?_
    refine AX.sD (rgDEV [0,1,12,13,25] oT (aI cp oT) (aI ix1 (aI ix2 oT))) ?_
    refine AX.condF ?_
    refine AX.keepA [0,1,12,13] ?_
    refine AX.skip ?_
    refine nmZ ?_
    refine AX.rR (rgWV [0,1,12,13] (aI @lit_add oT) oT) ?_
    refine nmZ ?_
    refine ⟨_,_,id,?_,
     leQ7
     , ⟨i+1,by omega,rfl,hnext,rfl⟩⟩
    omega
   ·rw [decide_eq_false he] at cp
    have hne:xs≠ys:=fun e=>he (by rw [e])
    rw [decide_eq_false hne]
    clear he
    generalize xs.getD i 0=a at ix1 cp
    generalize ys.getD i 0=b at ix2 cp
    refine AX.sR (rgAV [0,1,12,13,14]) ?_
    refine AX.seq ?_
    refine AX.condT ?_
    refine AX.keepA [0,1,12,13] ?_
    refine AX.skip ?_
    refine nmZ ?_
    refine AX.seq ?_
    refine AX.block ?_
    refine AX.sR (rgAV [0,1,5,12,13]) ?_
    refine AX.sD (rgDEV [0,1,12,13,25] oT (aI cp oT) (aI ix1 (aI ix2 oT))) ?_
    refine AX.condT ?_
    refine AX.sR (rgAV [4]) ?_
    refine AX.ret ⟨.inl rfl,?_⟩
    exact Done.one rfl rfl rfl rfl
  ·have e:xs=ys:=by
    apply List.ext_getElem h3
    intro j hj hj'
    have:=hij j (by omega)
    simpa [List.getD_eq_getElem?_getD,hj,hj'] using this
   rw [decide_eq_true e]
   refine AX.sR (rgAV [0,1,12,13,14]) ?_
   refine AX.seq ?_
   refine AX.condF ?_
   refine AX.exit ?_
   refine nmZ ?_
   refine AX.sR (rgAV [4]) ?_
   refine AX.ret ⟨.inl rfl,?_⟩
   exact Done.one rfl rfl rfl rfl
 ·rw [decide_eq_false (fun h=>h3 (by rw [h]))]
  generalize xs.map rV=X at *
  generalize ys.map rV=Y at *
  refine AX.sR (rgWV [0,1,10] (aI @hmx (aI @hmy oT)) oT) ?_
  refine AX.condT ?_
  refine AX.sR (rgAV [4]) ?_
  refine AX.ret ⟨.inl rfl,?_⟩
  exact Done.one rfl rfl rfl rfl
theorem Lift.Done.smpO1 {st:St} {a:Tmp} {h g k:Nat} {T T':TypeId} {S:T2} (h1:lkp st.fr a=some (.ptr h 0))(h2:lkp st.hp h=some ⟨T,[.own g 0 k 2]⟩)(h3:lkp st.hp g=some ⟨T',wl (fl S)⟩)(hk:k=S.length):Done Tryz.prog #[.cell a 25] (.agg [.sl (nx S)]) [] st:=by
 subst hk
 have e1:List.take (S.length*2) (List.drop 0 (wl (fl S)))=wl (fl S):=by rw [List.drop_zero];exact List.take_of_length_le (by rw [wlfl_length];exact Nat.le_refl _)
 refine Done.of (vs:=[.agg [.own g 0 S.length 2]]) (hp:=dlt st.hp g) ?_ ?_ rfl ?_ ?_
 ·simp only [resVs,resV,h1,h2,co_lay_smp];rfl
 ·simp only [packV,frz,frzL,h3,List.not_mem_nil,if_false,Nat.zero_add,wlfl_length,Nat.le_refl,e1,(wl_hf (fl S)).1,(wl_hf (fl S)).2,and_self,if_true,Nat.zero_lt_succ,Nat.lt_succ_self,true_and,chunks2]
 ·rfl
 ·rfl
theorem Lift.Done.smpN1 {st:St} {a:Tmp} {h:Nat} {T:TypeId} (h1:lkp st.fr a=some (.ptr h 0))(h2:lkp st.hp h=some ⟨T,[.nl]⟩):Done Tryz.prog #[.cell a 25] (.agg [.sl []]) [] st:=by
 refine Done.of (vs:=[.agg [.nl]]) (hp:=st.hp) ?_ rfl rfl rfl rfl
 simp only [resVs,resV,h1,h2,co_lay_smp];rfl
def cut9 (x:Int):Int:=if 9≤x then 0 else x
def cutT (T:T2):T2:=(T.take 9).map fun x=>(cut9 x.1,cut9 x.2)
def fewT (T:T2):T2:=if 100<T.length then [] else if isS T=false∨T.length≤9 then T else cutT T
theorem cutT_length {T:T2} (h:9≤T.length):(cutT T).length=9:=by unfold cutT;rw [List.length_map,List.length_take];omega
theorem cut9_bd {x:Int} (h:-64≤x):-64≤cut9 x∧cut9 x<9:=by unfold cut9;split<;>omega
theorem cutT_is {T:T2} (h:9≤T.length)(hr:∀ x ∈ T,(-64≤x.1∧x.1<T.length)∧-64≤x.2∧x.2<T.length):isS (cutT T)=true:=by
 have hl:=cutT_length h
 refine isS_iff.2 ⟨by omega,by omega,fun x hx=>?_⟩
 obtain ⟨y,hy,rfl⟩:=List.mem_map.1 hx
 have:=hr y (List.mem_of_mem_take hy)
 have h1:=cut9_bd this.1.1
 have h2:=cut9_bd this.2.1
 rw [hl]
 exact ⟨⟨h1.1,by show cut9 y.1 < _;omega⟩,h2.1,by show cut9 y.2 < _;omega⟩
theorem fewT_is (T:T2):isS (fewT T)=false∨(isS (fewT T)=true∧(fewT T).length≤9):=by
 unfold fewT
 by_cases h:100<T.length
 ·rw [if_pos h]
  exact .inl (by decide +kernel)
 rw [if_neg h]
 cases hS:isS T
 ·rw [if_pos (.inl rfl)]
  exact .inl hS
 ·by_cases h9:T.length≤9
  ·rw [if_pos (.inr h9)]
   exact .inr ⟨hS,h9⟩
  ·rw [if_neg (by simp [h9])]
   exact .inr ⟨cutT_is (by omega) (isS_iff.1 hS).2.2,by rw [cutT_length (by omega)];decide⟩
theorem fewT_bd {T:T2} (hb:bT T)(hl:T.length<2 ^ 62):bT (fewT T)∧(fewT T).length<2 ^ 62:=by
 unfold fewT
 by_cases h:100<T.length
 ·rw [if_pos h]
  exact ⟨fun x hx=>(nomatch hx),by decide⟩
 rw [if_neg h]
 split
 ·exact ⟨hb,hl⟩
 ·refine ⟨fun x hx=>?_,?_⟩
  ·obtain ⟨y,hy,rfl⟩:=List.mem_map.1 hx
   have h1:=hb y (List.mem_of_mem_take hy)
   have k:∀ z:Int,(-9223372036854775808≤z∧z≤9223372036854775807)→(-9223372036854775808≤cut9 z∧cut9 z≤9223372036854775807):=fun z hz=>by unfold cut9;split<;>omega
   exact ⟨k _ h1.1,k _ h1.2⟩
  ·unfold cutT
   rw [List.length_map,List.length_take]
   omega
set_option maxHeartbeats 16000000 in
theorem few29_ok (T:T2)(hl:T.length<2 ^ 62)(hb:bT T):PCall Tryz.prog 18 [smp T] (smp (fewT T)) []:=by
 have c0:=of29_ok (nx T)
 have c1:=right29_ok T hl hb
 have hml:=nx_length T
 refine PCall.of_ax Tryz.call18 Tryz.func18 rfl (by simp [Tryz.ntmps18]) fun O w=>?_
 simp only [Tryz.ntmps18,Tryz.results18,argFr]
 unfold fewT
 by_cases h1:100<T.length
 ·rw [if_pos h1]
  unfold smp at *
  generalize nx T=A at *
  refine AX.sR (rgAV [1,2]) ?_
  refine AX.seq ?_
  refine AX.sR (rgWV [1,2,10] (aI @hml oT) oT) ?_
  refine AX.condT ?_
  refine AX.sR (rgAV [2]) ?_
  refine AX.ret ⟨.inl rfl,?_⟩
  exact Done.smpN1 rfl rfl
 rw [if_neg h1]
 cases hS:isS T
 ·rw [if_pos (.inl rfl)]
  rw [hS] at c1
  unfold smp at *
  generalize nx T=A at *
  refine AX.sR (rgAV [1,2]) ?_
  refine AX.seq ?_
  refine AX.sR (rgWV [1,2,10] (aI @hml oT) oT) ?_
  refine AX.condF ?_
  refine AX.keepA [1,2] ?_
  refine AX.skip ?_
  refine nmZ ?_
  refine AX.seq ?_
  refine AX.sR (rgWV [1,2,21] (aI @hml oT) (aI c0 (aI c1 oT))) ?_
  refine AX.condT ?_
  refine AX.sR (rgAV [2]) ?_
  refine AX.ret ⟨.inl rfl,?_⟩
  exact Done.smp rfl rfl
 rw [hS] at c1
 by_cases h9:T.length≤9
 ·rw [if_pos (.inr h9)]
  unfold smp at *
  generalize nx T=A at *
  refine AX.sR (rgAV [1,2]) ?_
  refine AX.seq ?_
  refine AX.sR (rgWV [1,2,10] (aI @hml oT) oT) ?_
  refine AX.condF ?_
  refine AX.keepA [1,2] ?_
  refine AX.skip ?_
  refine nmZ ?_
  refine AX.seq ?_
  refine AX.sR (rgWV [1,2,21] (aI @hml oT) (aI c0 (aI c1 oT))) ?_
  refine AX.condT ?_
  refine AX.sR (rgAV [2]) ?_
  refine AX.ret ⟨.inl rfl,?_⟩
  exact Done.smp rfl rfl
 rw [if_neg (by simp [h9])]
 have hr:=(isS_iff.1 hS).2.2
 unfold smp at *
 refine AX.sR (rgAV [1,2]) ?_
 refine AX.seq ?_
 refine AX.sR (rgWV [1,2,10] (aI @hml oT) oT) ?_
 refine AX.condF ?_
 refine AX.keepA [1,2] ?_
 refine AX.skip ?_
 refine nmZ ?_
 refine AX.seq ?_
 refine AX.sR (rgWV [1,2,21] (aI @hml oT) (aI c0 (aI c1 oT))) ?_
 refine AX.condF ?_
 refine AX.keepA [1,2] ?_
 refine AX.skip ?_
 refine nmZ ?_
 refine AX.sR (rgAV [1,2,3]) ?_
 refine AX.own0c 2 0 64 2 rfl rfl (by show 0<1;decide) ?_
 refine AX.seq ?_
 refine AX.sR (rgAV [1,2,3,4]) ?_
 refine AX.weaken id (st':=⟨[(4,.i .i64 (0:Nat)),(3,.ptr 2 0),(2,.ptr 1 0),(1,.ptr 0 0)],[(3,⟨64,wl (fl ([]:T2))⟩),(2,⟨25,[.own 3 0 ([]:T2).length 2]⟩),(1,⟨25,[.nl]⟩),(0,⟨25,[.sl (nx T)]⟩)],4⟩)
  leQ7
  ?_
 refine AX.block ?_
 refine AX.loop (fun N st=>∃ (i:Nat) (S:T2),i≤9∧N=9-i∧(T.take i).map (fun x=>(cut9 x.1,cut9 x.2))=S∧st=⟨[(4,.i .i64 i),(3,.ptr 2 0),(2,.ptr 1 0),(1,.ptr 0 0)],[(3,⟨64,wl (fl S)⟩),(2,⟨25,[.own 3 0 S.length 2]⟩),(1,⟨25,[.nl]⟩),(0,⟨25,[.sl (nx T)]⟩)],4⟩) 9 ⟨0,[],Nat.zero_le _,rfl,rfl,rfl⟩ ?_
 rintro N st ⟨i,S,hi,rfl,hSi,rfl⟩
 by_cases h3:i<9
 ·have hix:=fun x y=>effIx2 (x:=x) (y:=y) (els:=nx T) (j:=i) (by omega) (nx_get (by omega))
  have hrx:=hr _ (getD_mem_T (show i<T.length by omega))
  have lS:S.length=i:=by rw [← hSi,List.length_map,List.length_take];omega
  have s1:(T.take (i+1)).map (fun x=>(cut9 x.1,cut9 x.2))=S++[(cut9 (T.getD i z2).1,cut9 (T.getD i z2).2)]:=by
   rw [← hSi,List.take_succ_eq_append_getElem (by omega),List.map_append]
   have e:T.getD i z2=T[i]:=by rw [List.getD_eq_getElem?_getD,List.getElem?_eq_getElem (by omega)];rfl
   rw [e]
   rfl
  generalize T.getD i z2=x at *
  obtain ⟨a,b⟩:=x
  dsimp only at hix hrx s1
  generalize nx T=A at *
  refine AX.seq ?_
  refine AX.sR (rgAV [1,2,3,4,24]) ?_
  refine AX.condT ?_
  refine AX.keepA [1,2,3,4] ?_
  refine AX.skip ?_
  refine nmZ ?_
  refine AX.seq ?_
  refine AX.block ?_
  refine AX.sR (rgEV [1,2,3,4,5] oT oT (aI hix oT)) ?_
  refine AX.seq ?_
  refine AX.sR (rgAV [1,2,3,4,5,6]) ?_
  refine AX.weaken id (st':=⟨[(6,.i .i64 (0:Nat)),(5,.ptr 4 0),(4,.i .i64 i),(3,.ptr 2 0),(2,.ptr 1 0),(1,.ptr 0 0)],[(4,⟨64,[.i .i64 a,.i .i64 b]⟩),(3,⟨64,wl (fl S)⟩),(2,⟨25,[.own 3 0 S.length 2]⟩),(1,⟨25,[.nl]⟩),(0,⟨25,[.sl A]⟩)],5⟩)
   leQ7
   ?_
  refine AX.block ?_
  refine AX.loop (fun N st=>∃ (j:Nat) (p q:Int),j≤2∧N=2-j∧((j=0∧p=a∧q=b)∨(j=1∧p=cut9 a∧q=b)∨(j=2∧p=cut9 a∧q=cut9 b))∧st=⟨[(6,.i .i64 j),(5,.ptr 4 0),(4,.i .i64 i),(3,.ptr 2 0),(2,.ptr 1 0),(1,.ptr 0 0)],[(4,⟨64,[.i .i64 p,.i .i64 q]⟩),(3,⟨64,wl (fl S)⟩),(2,⟨25,[.own 3 0 S.length 2]⟩),(1,⟨25,[.nl]⟩),(0,⟨25,[.sl A]⟩)],5⟩) 2 ⟨0,a,b,Nat.zero_le _,rfl,.inl ⟨rfl,rfl,rfl⟩,rfl⟩ ?_
  rintro N st ⟨j,p,q,hj,rfl,hc,rfl⟩
  rcases hc with ⟨rfl,rfl,rfl⟩ | ⟨rfl,hp,rfl⟩ | ⟨rfl,hp,hq⟩
  ·refine AX.seq ?_
   refine AX.sR (rgAV [1,2,3,4,5,6,33]) ?_
   refine AX.condT ?_
   refine AX.keepA [1,2,3,4,5,6] ?_
   refine AX.skip ?_
   refine nmZ ?_
   refine AX.seq ?_
   refine AX.block ?_
   by_cases h5:9≤p
   ·have e:0=cut9 p:=by unfold cut9;rw [if_pos h5]
    refine AX.sR (rgAV [1,2,3,4,5,6,39]) ?_
    refine AX.condT ?_
    refine AX.rR (rgAV [1,2,3,4,5,6]) ?_
    refine nmZ ?_
    refine AX.rR (rgWV [1,2,3,4,5,6] (aI @lit_add oT) oT) ?_
    refine nmZ ?_
    refine ⟨_,_,id,?_,
     leQ7
     , ⟨1,0,q,by omega,rfl,.inr (.inl ⟨rfl,e,rfl⟩),rfl⟩⟩
    omega
   ·have e:p=cut9 p:=by unfold cut9;rw [if_neg h5]
    refine AX.sR (rgAV [1,2,3,4,5,6,39]) ?_
    refine AX.condF ?_
    refine AX.keepA [1,2,3,4,5,6] ?_
    refine AX.skip ?_
    refine nmZ ?_
    refine AX.rR (rgWV [1,2,3,4,5,6] (aI @lit_add oT) oT) ?_
    refine nmZ ?_
    refine ⟨_,_,id,?_,
     leQ7
     , ⟨1,p,q,by omega,rfl,.inr (.inl ⟨rfl,e,rfl⟩),rfl⟩⟩
    omega
  ·refine AX.seq ?_
   refine AX.sR (rgAV [1,2,3,4,5,6,33]) ?_
   refine AX.condT ?_
   refine AX.keepA [1,2,3,4,5,6] ?_
   refine AX.skip ?_
   refine nmZ ?_
   refine AX.seq ?_
   refine AX.block ?_
   by_cases h5:9≤q
   ·have e:0=cut9 q:=by unfold cut9;rw [if_pos h5]
    refine AX.sR (rgAV [1,2,3,4,5,6,39]) ?_
    refine AX.condT ?_
    refine AX.rR (rgAV [1,2,3,4,5,6]) ?_
    refine nmZ ?_
    refine AX.rR (rgWV [1,2,3,4,5,6] (aI @lit_add oT) oT) ?_
    refine nmZ ?_
    refine ⟨_,_,id,?_,
     leQ7
     , ⟨2,p,0,by omega,rfl,.inr (.inr ⟨rfl,hp,e⟩),rfl⟩⟩
    omega
   ·have e:q=cut9 q:=by unfold cut9;rw [if_neg h5]
    refine AX.sR (rgAV [1,2,3,4,5,6,39]) ?_
    refine AX.condF ?_
    refine AX.keepA [1,2,3,4,5,6] ?_
    refine AX.skip ?_
    refine nmZ ?_
    refine AX.rR (rgWV [1,2,3,4,5,6] (aI @lit_add oT) oT) ?_
    refine nmZ ?_
    refine ⟨_,_,id,?_,
     leQ7
     , ⟨2,p,q,by omega,rfl,.inr (.inr ⟨rfl,hp,e⟩),rfl⟩⟩
    omega
  ·subst hp hq
   have hwf:=wlfl_length S
   have happ:=wl_fl S (cut9 a) (cut9 b)
   have hlen:(S++[(cut9 a,cut9 b)]).length=S.length+1:=by simp
   generalize cut9 a=p at *
   generalize cut9 b=q at *
   generalize S++[(p,q)]=S2 at *
   refine AX.seq ?_
   refine AX.sR (rgAV [1,2,3,4,5,6,33]) ?_
   refine AX.condF ?_
   refine AX.exit ?_
   refine nmZ ?_
   refine AX.rR (rgEV [1,2,3,4] (aI @hwf (aI @zerosV_1 (aI @tkS (aI @tk0 oT)))) oT (aI (effBs2 _) oT)) ?_
   refine nmZ ?_
   rw [happ]
   refine AX.rR (rgWV [1,2,3,4] (aI @lit_add oT) oT) ?_
   refine nmZ ?_
   refine ⟨_,_,fun n=>if n=3 then 6 else n,?_,
    (leQ7H hlen)
    , ⟨i+1,S2,by omega,rfl,s1,rfl⟩⟩
   omega
 obtain rfl:i=9:=by omega
 refine AX.seq ?_
 refine AX.sR (rgAV [1,2,3,4,24]) ?_
 refine AX.condF ?_
 refine AX.exit ?_
 refine nmZ ?_
 refine AX.sR (rgAV [2]) ?_
 refine AX.ret ⟨.inl rfl,?_⟩
 have e:cutT T=S:=hSi
 rw [e]
 exact Done.smpO1 rfl rfl rfl rfl
theorem sumN_hit0 {v:Int} {w:Nat→Int}:∀ n,(∀ k,k<n→v≠w k)→sumN n (fun k=>((hit v (w k):Nat):Rat))=0
 | 0,_=>rfl
 | n+1,h=>by
  show sumN n (fun k=>((hit v (w k):Nat):Rat))+((hit v (w n):Nat):Rat)=0
  rw [sumN_hit0 n fun k hk=>h k (by omega),show hit v (w n)=0 from if_neg (h n (by omega))]
  decide +kernel
theorem sumN_hit1 {w:Nat→Int} {k0:Nat} (hw:∀ k,w k=w k0→k=k0):∀ n,k0<n→sumN n (fun k=>((hit (w k0) (w k):Nat):Rat))=1
 | n+1,h=>by
  show sumN n (fun k=>((hit (w k0) (w k):Nat):Rat))+((hit (w k0) (w n):Nat):Rat)=1
  by_cases e:k0=n
  ·subst e
   rw [sumN_hit0 k0 fun k hk e=>by have:=hw k e.symm;omega,show hit (w k0) (w k0)=1 from if_pos rfl]
   decide +kernel
  ·rw [sumN_hit1 hw n (by omega),show hit (w k0) (w n)=0 from if_neg fun h=>e (hw n h.symm).symm]
   decide +kernel
theorem hit_sum {v:Int} {n m:Nat} (h1:v<n)(h2:-v≤m):sumN n (fun k=>((hit v (wM k):Nat):Rat))+sumN m (fun k=>((hit v (wE k):Nat):Rat))=1:=by
 by_cases h:v<0
 ·obtain ⟨k0,rfl⟩:∃ k0:Nat,v=wE k0:=⟨(-1-v).toNat,by unfold wE;omega⟩
  rw [sumN_hit0 n fun k _ e=>by unfold wM wE at e;omega,sumN_hit1 (wE_inj k0) m (by unfold wE at h2;omega)]
  decide +kernel
 ·obtain ⟨k0,rfl⟩:∃ k0:Nat,v=wM k0:=⟨v.toNat,by unfold wM;omega⟩
  rw [sumN_hit1 (wM_inj k0) n (by unfold wM at h1;omega),sumN_hit0 m fun k _ e=>by unfold wM wE at e;omega]
  decide +kernel
theorem cnt_full {T:T2} {w:Nat→Int} {a k:Nat} (h:a<T.length):cnt T w T.length 0 a k=hit (T.getD a z2).1 (w k)+hit (T.getD a z2).2 (w k):=by
 unfold cnt
 rw [if_pos (.inl h),if_pos (.inl h)]
theorem hM_row {T:T2} {w:Nat→Int} {a n:Nat} (h:a<T.length):sumN n (hM T w T.length 0 a)=(sumN n (fun k=>((hit (T.getD a z2).1 (w k):Nat):Rat))+sumN n (fun k=>((hit (T.getD a z2).2 (w k):Nat):Rat)))*(1 / 2):=by
 rw [← sumN_add,← sumN_mulr]
 refine sumN_congr fun k _=>?_
 show ((cnt T w T.length 0 a k:Nat):Rat) / 2=_
 rw [cnt_full h]
 push_cast
 grind
theorem hM_nonneg (T:T2)(w:Nat→Int)(i j a k:Nat):0≤hM T w i j a k:=by
 have h:=cnt_le T w i j a k
 unfold hM
 generalize cnt T w i j a k=c at *
 match c,h with
 | 0,_=>decide +kernel
 | 1,_=>decide +kernel
 | 2,_=>decide +kernel
theorem chain_isC {T:T2} {m:Nat} (hr:∀ x ∈ T,(-64≤x.1∧x.1<T.length)∧-64≤x.2∧x.2<T.length)(hm:∀ i,i<T.length→-(T.getD i z2).1≤m∧-(T.getD i z2).2≤m):isC T.length m (chA T) (chB T)=true:=by
 unfold isC
 rw [decide_eq_true_eq]
 intro i hi
 refine ⟨fun k _=>hM_nonneg ..,fun k _=>hM_nonneg ..,?_⟩
 have e1:sumN T.length (chA T i)=_:=hM_row (w:=wM) (n:=T.length) hi
 have e2:sumN m (chB T i)=_:=hM_row (w:=wE) (n:=m) hi
 rw [e1,e2]
 have hx:=hr _ (getD_mem_T hi)
 have hy:=hm i hi
 have s1:=hit_sum (n:=T.length) (m:=m) hx.1.2 hy.1
 have s2:=hit_sum (n:=T.length) (m:=m) hx.2.2 hy.2
 grind
theorem sm9_of {T:T2} (hS:isS T=true)(h9:T.length≤9) {m:Nat} (hm60:¬ 60<exI T T.length)(hmx:exT T=m):Sm9 T.length m (chA T) (chB T) e1:=by
 have hr:=(isS_iff.1 hS).2.2
 have hex:=exI_bd hr T.length (Nat.le_refl _)
 have hmI:exI T T.length=(m:Int):=by rw [← hmx];unfold exT;omega
 have hge:=exI_ge T T.length
 rw [hmI] at hge hm60
 exact ⟨h9,by omega,fun i k _ _=>hM_len ..,fun i k _ _=>hM_len ..,chain_isC hr hge,fun i _=>by unfold e1;split<;>decide,fun i _=>by unfold e1;split<;>decide +kernel⟩
set_option maxHeartbeats 16000000 in
theorem cchain_limit (T:T2)(hS:isS T=true)(hm60:60<exI T T.length):PCall Tryz.prog 19 [smp T] (.tup [zC,.i .i64 2]) []:=by
 obtain ⟨n1,n2,hr⟩:=isS_iff.1 hS
 have hb:bT T:=fun x hx=>by have:=hr x hx;omega
 have c1:=cright_smp T (by omega) hb
 rw [hS] at c1
 have hml:=nx_length T
 have hex:=exI_bd hr
 obtain ⟨m,hmx⟩:∃ m,exT T=m:=⟨_,rfl⟩
 have hmI:exI T T.length=(m:Int):=by have:=hex T.length (Nat.le_refl _);rw [← hmx];unfold exT;omega
 have hge:=exI_ge T T.length
 rw [hmI] at hge hm60
 refine PCall.of_ax Tryz.call19 Tryz.func19 rfl (by simp [Tryz.ntmps19]) fun O w=>?_
 simp only [Tryz.ntmps19,Tryz.results19,argFr]
 unfold smp at *
 refine AX.sR (rgAV [1,2]) ?_
 refine AX.seq ?_
 refine AX.sR (rgCV [1,2,19] (aI c1 oT)) ?_
 refine AX.condF ?_
 refine AX.keepA [1,2] ?_
 refine AX.skip ?_
 refine nmZ ?_
 clear c1
 refine AX.sR (rgWV [1,2,4,5] (aI @hml oT) oT) ?_
 refine AX.seq ?_
 refine AX.sR (rgWV [1,2,4,5,25,26,27] (aI @hml oT) oT) ?_
 refine AX.weaken id (st':=⟨[(27,.i .i64 (0:Nat)),(26,.i .i64 T.length),(25,.sl (nx T)),(5,.i .i64 0),(4,.i .i64 T.length),(2,.ptr 1 0),(1,.ptr 0 0)],[(1,⟨43,[.i .i64 0,.i .i64 0,.nl,.i .i64 0,.i .i64 0,.nl]⟩),(0,⟨25,[.sl (nx T)]⟩)],2⟩)
  leQ7
  ?_
 refine AX.block ?_
 refine AX.loop (fun N st=>∃ (i:Nat) (s:Int),i≤T.length∧N=T.length-i∧exI T i=s∧st=⟨[(27,.i .i64 i),(26,.i .i64 T.length),(25,.sl (nx T)),(5,.i .i64 s),(4,.i .i64 T.length),(2,.ptr 1 0),(1,.ptr 0 0)],[(1,⟨43,[.i .i64 0,.i .i64 0,.nl,.i .i64 0,.i .i64 0,.nl]⟩),(0,⟨25,[.sl (nx T)]⟩)],2⟩) T.length ⟨0,0,Nat.zero_le _,rfl,rfl,rfl⟩ ?_
 rintro N st ⟨i,s,hi,rfl,hs,rfl⟩
 by_cases h3:i<T.length
 ·have hix:=fun x y=>effIx2 (x:=x) (y:=y) (els:=nx T) (j:=i) (by omega) (nx_get h3)
  have hrx:=hr _ (getD_mem_T h3)
  have s1:exI T (i+1)=mx3 s (T.getD i z2).1 (T.getD i z2).2:=by rw [exI,hs]
  have hsb:=hex i hi
  rw [hs] at hsb
  generalize T.getD i z2=x at *
  obtain ⟨a,b⟩:=x
  dsimp only at hix hrx s1
  have k1:(if 0-b > (if 0-a > s then 0-a else s) then 0-b else (if 0-a > s then 0-a else s))=mx3 s a b:=by unfold mx3;simp only [Int.zero_sub]
  generalize nx T=A at *
  refine AX.sR (rgAV [1,2,4,5,25,26,27,28]) ?_
  refine AX.seq ?_
  refine AX.condT ?_
  refine AX.keepA [1,2,4,5,25,26,27] ?_
  refine AX.skip ?_
  refine nmZ ?_
  refine AX.seq ?_
  refine AX.block ?_
  refine AX.sR (rgEV [1,2,4,5,7,25,26,27] oT oT (aI hix oT)) ?_
  apply AX.reg [1,2,4,5,25,26,27] (by simp only [pq];rfl)
  ·repeat (first
  |(apply RunO.op rfl;· rfl
    ·(simp only [opsOf,valsOf,valOf,lkp,ofConst,ofCell,Array.toList,Option.toList,List.map_cons,List.map_nil,List.cons_append,List.nil_append,List.append_nil,Nat.reduceEqDiff,Nat.reducePow,Nat.reduceLT,Nat.reduceLeDiff,reduceIte,if_true,if_false,IntKind.min,IntKind.max,IntKind.bits,IntKind.signed,Int.reduceLE,Int.reduceNeg,Int.reducePow,Int.reduceSub,and_self,Bool.false_eq_true,Nat.reduceSub];rfl)
    ·first | exact effMx | (simp (disch:=omega) only [go_sem,i64_of,u32_of,u64_of,Nat.reduceLT,Nat.reduceLeDiff,Nat.reduceEqDiff,Nat.reduceAdd,Nat.reduceSub,Nat.reduceMul,Nat.reducePow,Nat.reduceBEq,Int.reduceLE,Int.reduceLT,Int.reduceToNat,Int.reduceEq,Int.reduceNeg,↓reduceIte,reduceCtorEq];rfl)
    ·(simp (disch:=omega) only [go_sem,i64_of,u32_of,u64_of,Nat.reduceLT,Nat.reduceLeDiff,Nat.reduceEqDiff,Nat.reduceAdd,Nat.reduceSub,Nat.reduceMul,Nat.reducePow,Nat.reduceBEq,Int.reduceLE,Int.reduceLT,Int.reduceToNat,Int.reduceEq,Int.reduceNeg,↓reduceIte,reduceCtorEq];rfl)
    ·(simp only [pb,Nat.reduceLT,Nat.reduceAdd,reduceIte];rfl))
  |(apply RunO.skip;· rfl
    ·(simp only [pb,Nat.reduceLT,Nat.reduceAdd,reduceIte];rfl)))
   exact RunO.nil
  ·repeat (first | exact Keep.nil | (apply Keep.take;· rfl) | (apply Keep.drop;· rfl))
  refine nmZ ?_
  refine AX.rR (rgWV [1,2,4,5,25,26,27] (aI @lit_add oT) oT) ?_
  refine nmZ ?_
  refine ⟨_,_,id,?_,
   leQ7
   , ⟨i+1,_,by omega,rfl,s1,rfl⟩⟩
  omega
 obtain rfl:i=T.length:=by omega
 obtain rfl:s=(m:Int):=hs.symm.trans hmI
 refine AX.sR (rgAV [1,2,4,5,25,26,27,28]) ?_
 refine AX.seq ?_
 refine AX.condF ?_
 refine AX.exit ?_
 refine nmZ ?_
 refine AX.seq ?_
 refine AX.sR (rgAV [1,2,4,5,41]) ?_
 refine AX.condT ?_
 refine AX.sR (rgAV [2,3]) ?_
 refine AX.ret ⟨.inl rfl,?_⟩
 exact Done.chnN rfl rfl rfl
set_option maxHeartbeats 16000000 in
theorem cmean_any {T:T2} {n m:Nat} {a b:List V} {xs:List Rat} {s:Bool} {x y:List Nat} {e:Int} (hl:T.length=n) (cc:PCall Tryz.prog 19 [smp T] (.tup [.agg [.i .i64 n,.i .i64 n,.sl a,.i .i64 n,.i .i64 m,.sl b],.i .i64 0]) [])
  (cs:PCall Tryz.prog 54 [.i .i64 n] (.sl (xs.map rV)) [])
  (ct:PCall Tryz.prog 57 [.agg [.i .i64 n,.i .i64 n,.sl a,.i .i64 n,.i .i64 m,.sl b],.sl (xs.map rV)] (.tup [rR s x y,.i .i64 e]) []) :
  PCall Tryz.prog 23 [smp T] (.tup [rR s x y,.i .i64 e]) []:=by
 have hml:=(nx_length T).trans hl
 refine PCall.of_ax Tryz.call23 Tryz.func23 rfl (by simp [Tryz.ntmps23]) fun O w=>?_
 simp only [Tryz.ntmps23,Tryz.results23,argFr]
 unfold smp at *
 unfold rV rR at ct
 generalize nx T=A at *
 refine AX.sR (rgAV [1,2]) ?_
 refine AX.sR (rgCV [1,2,4,5] (aI cc oT)) ?_
 refine AX.seq ?_
 refine AX.sR (rgAV [1,2,4,5,12]) ?_
 refine AX.condF ?_
 refine AX.keepA [1,2,4] ?_
 refine AX.skip ?_
 refine nmZ ?_
 refine AX.sD (rgDWV [2,3] (aI @hml oT) (aI cs (aI ct oT))) ?_
 refine AX.ret ⟨.inl rfl,?_⟩
 exact Done.cellE rfl rfl rfl
theorem same29_nil:PCall Tryz.prog 26 [.sl (([]:List Rat).map rV),.sl (([]:List Rat).map rV)] (.b true) []:=same29_ok [] [] 1 (fun q h=>nomatch h) (fun q h=>nomatch h) (by decide) (by decide) (by decide) (by decide)
end Go.Proofs.YteidabibgjokkaaGreatDoor
