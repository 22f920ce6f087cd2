import Derived.Test.YteidabibgjokkaaGreatDoorJC
import Derived.Test.YteidabibgjokkaaGreatDoorHN
import Derived.Test.YteidabibgjokkaaGreatDoorMD
import Derived.Test.YteidabibgjokkaaGreatDoorMC
import Derived.Test.YteidabibgjokkaaGreatDoorMJ
set_option maxRecDepth 20000
set_option linter.all false
namespace Go.Proofs.YteidabibgjokkaaGreatDoor
open Go Go.Proofs.YteidabibgjokkaaGreatDoor.Lift
attribute [local irreducible] Lift.PCall Lift.HCall
theorem bigL9 {n:Nat} (hn:n≤9):4*bigL n (1+1)<2 ^ 33:=by
 have h1:=bigL_mono (L:=1+1) hn
 have h2:4*bigL 9 (1+1)<2 ^ 33:=by decide
 omega
theorem sol_small9 {n:Nat} (hn:n≤9) {A:Mx} {b x:Nat→Rat} (hN:NonSing n A)(hA:∀ i j,i<n→j<n→rL (A i j)≤2)(hb:∀ i,i<n→rL (b i)≤2)(hx:∀ i,i<n→(sumN n fun j=>A i j*x j)=b i):∀ i,i<n→rL (x i)≤100000:=by
 intro i hi
 have h1:=sol_small (by omega) hN hA hb hx i hi
 have h2:sysB n (32*2*(n+2))≤sysB 9 (32*2*11):=sysB_mono hn (Nat.mul_le_mul_left _ (by omega))
 have h3:sysB 9 (32*2*11)≤3199000:=by decide
 omega
theorem each_small9 {n m:Nat} {A B:Mx} (hn:n≤9)(hC:isC n m A B=true)(hA:∀ i k,i<n→k<n→rL (A i k)≤1)(hB:∀ i k,i<n→k<m→rL (B i k)≤1):∀ i j,i<n→j<m→rL (eachM n m A B i j)≤100000:=by
 intro i j hi hj
 unfold eachM
 split
 ·rename_i hf
  have hA':∀ i j,i<(pick n (rchB n m A B)).length→j<(pick n (rchB n m A B)).length→rL (subM false (pick n (rchB n m A B)) A i j)≤2:=fun i j hi hj=>subM_len hA (by decide) (pick_get hi).1 (pick_get hj).1
  have hB':∀ i j,i<(pick n (rchB n m A B)).length→j<m→rL (rhsM (pick n (rchB n m A B)) B i j)≤2:=fun i j hi hj=>Nat.le_trans (hB _ j (pick_get hi).1 hj) (by decide)
  obtain ⟨_,h2,_⟩:=fin_spec (n:=(pick n (rchB n m A B)).length) (c:=m) (L:=2) (B:=rhsM (pick n (rchB n m A B)) B) (nonsing_sub hC) hA' hB' (by decide)
  exact sol_small9 (Nat.le_trans (pick_le n _) hn) (nonsing_sub hC) hA' (fun i hi=>hB' i j hi hj) (x:=fun k=>solX _ _ _ k j) (fun i hi=>h2 i j hi hj) _ (pick_at hi hf).1
 ·exact Nat.le_trans rL0 (by decide)
theorem vis_small9 {n m:Nat} {A B:Mx} {v:Nat→Rat} (hn:n≤9)(hC:isC n m A B=true)(hA:∀ i k,i<n→k<n→rL (A i k)≤1)(hvL:∀ i,i<n→rL (v i)≤1):∀ i,i<n→rL (visV n m A B v i)≤100000:=by
 intro i hi
 unfold visV
 split
 ·rename_i hf
  have hA':∀ i j,i<(pick n (rchB n m A B)).length→j<(pick n (rchB n m A B)).length→rL (subM true (pick n (rchB n m A B)) A i j)≤2:=fun i j hi hj=>subM_len hA (by decide) (pick_get hi).1 (pick_get hj).1
  exact sol_small9 (Nat.le_trans (pick_le n _) hn) (nonsing_turn hC hA (by decide)) hA' (fun i hi=>Nat.le_trans (hvL _ (pick_get hi).1) (by decide)) (x:=fun k=>solX _ _ _ k 0) (fun i hi=>vis_sys hC hA (fun i hi=>Nat.le_trans (hvL i hi) (by decide)) (by decide) i hi) _ (pick_at hi hf).1
 ·exact Nat.le_trans rL0 (by decide)
structure Sm9 (n m:Nat) (A B:Mx) (v:Nat→Rat):Prop where
 hn:n≤9
 hm:m≤60
 hA:∀ i k,i<n→k<n→rL (A i k)≤1
 hB:∀ i k,i<n→k<m→rL (B i k)≤1
 hC:isC n m A B=true
 hv:∀ i,i<n→0≤v i
 hvL:∀ i,i<n→rL (v i)≤1
namespace Sm9
variable {n m:Nat} {A B:Mx} {v:Nat→Rat}
theorem right (h:Sm9 n m A B v):PCall Tryz.prog 60 [cV n m A B] (.b true) []:=by
 have c1:=cright_ok n m 1 (by have:=h.hn;omega) (by have:=h.hm;omega) A B h.hA h.hB (by decide) (by decide)
 rwa [h.hC] at c1
theorem hX (h:Sm9 n m A B v):∀ i j,i<n→j<m→rL (eachM n m A B i j)≤100000:=each_small9 h.hn h.hC h.hA h.hB
theorem is (h:Sm9 n m A B v):(chn n m A B).IsEach (eachM n m A B):=each_is h.hC h.hA h.hB (by decide)
theorem each (h:Sm9 n m A B v):PCall Tryz.prog 93 [cV n m A B] (.tup [qM n m (eachM n m A B),.i .i64 0]) []:=
 ceach_ok n m 1 (by have:=h.hn;omega) (by have:=h.hm;omega) A B h.hC h.hA h.hB (by decide) (bigL9 h.hn) (by decide)
theorem ends (h:Sm9 n m A B v):PCall Tryz.prog 53 [cV n m A B,.sl ((vl n v).map rV)] (.tup [.sl ((vl m (thr n v (eachM n m A B))).map rV),rV (neverQ n m A B v),.i .i64 0]) []:=
 ends_ok n m 1 100000 (by have:=h.hn;omega) (by have:=h.hm;omega) A B h.hC h.hA h.hB (by decide) (bigL9 h.hn) (by decide) v h.hv (fun i hi=>Nat.le_trans (h.hvL i hi) (by decide)) h.hX (by decide) (by decide) (by
  have:=h.hn
  have:=h.hm
  have h1:(n+m+1)*(60*(2*100000+1)+1+1)≤70*(60*(2*100000+1)+1+1):=Nat.mul_le_mul_right _ (by omega)
  omega)
end Sm9
namespace Sm9
variable {n m:Nat} {A B:Mx} {v:Nat→Rat}
theorem isVis (h:Sm9 n m A B v):(chn n m A B).IsVis v (visV n m A B v):=vis_is (L:=1) h.hC h.hA (fun i hi=>Nat.le_trans (h.hvL i hi) (by decide)) (by decide)
theorem visL (h:Sm9 n m A B v):∀ i,i<n→rL (visV n m A B v i)≤100000:=vis_small9 h.hn h.hC h.hA h.hvL
theorem never_eq (h:Sm9 n m A B v):neverQ n m A B v=(chn n m A B).never (eachM n m A B) v:=rfl
end Sm9
theorem Sm9.csteps {n m:Nat} {A B:Mx} {v:Nat→Rat} (h:Sm9 n m A B v)(h0:neverQ n m A B v=0):PCall Tryz.prog 57 [cV n m A B,.sl ((vl n v).map rV)] (.tup [rV (sumN n (visV n m A B v)),.i .i64 0]) []:=
 steps_ok' n m 1 100000 (by have:=h.hn;omega) (by have:=h.hm;omega) A B h.hC h.hA h.hB (by decide) (bigL9 h.hn) (by decide) v h.hv (fun i hi=>Nat.le_trans (h.hvL i hi) (by decide)) h.hX (by decide) (by decide) (by
  have:=h.hn
  have:=h.hm
  have h1:(n+m+1)*(60*(2*100000+1)+1+1)≤70*(60*(2*100000+1)+1+1):=Nat.mul_le_mul_right _ (by omega)
  omega) h0 h.visL
theorem sumN_hit0 {v:Int} {w:Nat→Int}:∀ n,(∀ k,k<n→v≠w k)→sumN n (fun k=>((hit v (w k):Nat):Rat))=0
 | 0,_=>rfl
 | n+1,h=>by
  show sumN n (fun k=>((hit v (w k):Nat):Rat))+((hit v (w n):Nat):Rat)=0
  rw [sumN_hit0 n fun k hk=>h k (by omega),show hit v (w n)=0 from if_neg (h n (by omega))]
  decide +kernel
theorem sumN_hit1 {w:Nat→Int} {k0:Nat} (hw:∀ k,w k=w k0→k=k0):∀ n,k0<n→sumN n (fun k=>((hit (w k0) (w k):Nat):Rat))=1
 | n+1,h=>by
  show sumN n (fun k=>((hit (w k0) (w k):Nat):Rat))+((hit (w k0) (w n):Nat):Rat)=1
  by_cases e:k0=n
  ·subst e
   rw [sumN_hit0 k0 fun k hk e=>by have:=hw k e.symm;omega,show hit (w k0) (w k0)=1 from if_pos rfl]
   decide +kernel
  ·rw [sumN_hit1 hw n (by omega),show hit (w k0) (w n)=0 from if_neg fun h=>e (hw n h.symm).symm]
   decide +kernel
theorem hit_sum {v:Int} {n m:Nat} (h1:v<n)(h2:-v≤m):sumN n (fun k=>((hit v (wM k):Nat):Rat))+sumN m (fun k=>((hit v (wE k):Nat):Rat))=1:=by
 by_cases h:v<0
 ·obtain ⟨k0,rfl⟩:∃ k0:Nat,v=wE k0:=⟨(-1-v).toNat,by unfold wE;omega⟩
  rw [sumN_hit0 n fun k _ e=>by unfold wM wE at e;omega,sumN_hit1 (wE_inj k0) m (by unfold wE at h2;omega)]
  decide +kernel
 ·obtain ⟨k0,rfl⟩:∃ k0:Nat,v=wM k0:=⟨v.toNat,by unfold wM;omega⟩
  rw [sumN_hit1 (wM_inj k0) n (by unfold wM at h1;omega),sumN_hit0 m fun k _ e=>by unfold wM wE at e;omega]
  decide +kernel
theorem cnt_full {T:T2} {w:Nat→Int} {a k:Nat} (h:a<T.length):cnt T w T.length 0 a k=hit (T.getD a z2).1 (w k)+hit (T.getD a z2).2 (w k):=by
 unfold cnt
 rw [if_pos (.inl h),if_pos (.inl h)]
theorem hM_row {T:T2} {w:Nat→Int} {a n:Nat} (h:a<T.length):sumN n (hM T w T.length 0 a)=(sumN n (fun k=>((hit (T.getD a z2).1 (w k):Nat):Rat))+sumN n (fun k=>((hit (T.getD a z2).2 (w k):Nat):Rat)))*(1 / 2):=by
 rw [← sumN_add,← sumN_mulr]
 refine sumN_congr fun k _=>?_
 show ((cnt T w T.length 0 a k:Nat):Rat) / 2=_
 rw [cnt_full h]
 push_cast
 grind
theorem hM_nonneg (T:T2)(w:Nat→Int)(i j a k:Nat):0≤hM T w i j a k:=by
 have h:=cnt_le T w i j a k
 unfold hM
 generalize cnt T w i j a k=c at *
 match c,h with
 | 0,_=>decide +kernel
 | 1,_=>decide +kernel
 | 2,_=>decide +kernel
theorem chain_isC {T:T2} {m:Nat} (hr:∀ x ∈ T,(-64≤x.1∧x.1<T.length)∧-64≤x.2∧x.2<T.length)(hm:∀ i,i<T.length→-(T.getD i z2).1≤m∧-(T.getD i z2).2≤m):isC T.length m (chA T) (chB T)=true:=by
 unfold isC
 rw [decide_eq_true_eq]
 intro i hi
 refine ⟨fun k _=>hM_nonneg ..,fun k _=>hM_nonneg ..,?_⟩
 have e1:sumN T.length (chA T i)=_:=hM_row (w:=wM) (n:=T.length) hi
 have e2:sumN m (chB T i)=_:=hM_row (w:=wE) (n:=m) hi
 rw [e1,e2]
 have hx:=hr _ (getD_mem_T hi)
 have hy:=hm i hi
 have s1:=hit_sum (n:=T.length) (m:=m) hx.1.2 hy.1
 have s2:=hit_sum (n:=T.length) (m:=m) hx.2.2 hy.2
 grind
end Go.Proofs.YteidabibgjokkaaGreatDoor
