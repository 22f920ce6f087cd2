import Derived.Test.YteidabibgjokkaaGreatDoorHF
import Derived.Test.YteidabibgjokkaaGreatDoorMO
set_option maxRecDepth 20000
set_option linter.all false
namespace Go.Proofs.YteidabibgjokkaaGreatDoor
open Go Go.Proofs.YteidabibgjokkaaGreatDoor.Lift
attribute [local irreducible] Lift.PCall Lift.HCall
inductive Few:V→Prop
 | shape (R1 C1 R2 C2:Int) (xs ys:List RT) (h1:bd R1) (h2:bd C1) (h3:bd R2) (h4:bd C2) (hx:okX xs) (hy:okX ys) (lx:xs.length≤4000) (ly:ys.length≤4000) (hno:(isM R1 C1 xs && isM R2 C2 ys && decide (R1=C1) && decide (R2=R1))=false):Few (.agg [.i .i64 R1,.i .i64 C1,.sl (xs.map fR),.i .i64 R2,.i .i64 C2,.sl (ys.map fR)])
 | rows (n m:Nat) (A B:Mx) (hn:n≤60) (hm:m≤60) (hA:∀ i k,i<n→k<n→rL (A i k)≤3) (hB:∀ i k,i<n→k<m→rL (B i k)≤3) (hC:isC n m A B=false):Few (cV n m A B)
 | ok (n m:Nat) (A B:Mx) (hn:n≤8) (hm:m≤5) (hA:∀ i k,i<n→k<n→rL (A i k)≤38) (hB:∀ i k,i<n→k<m→rL (B i k)≤38) (hC:isC n m A B=true):Few (cV n m A B)
set_option maxHeartbeats 4000000 in
theorem cends_not (R1 C1 R2 C2:Int) (x y sl:List V) (hr:PCall Tryz.prog 60 [.agg [.i .i64 R1,.i .i64 C1,.sl x,.i .i64 R2,.i .i64 C2,.sl y]] (.b false) []) :
  PCall Tryz.prog 53 [.agg [.i .i64 R1,.i .i64 C1,.sl x,.i .i64 R2,.i .i64 C2,.sl y],.sl sl] (.tup [.sl [],zR,.i .i64 1]) []:=by
 refine PCall.of_ax Tryz.call53 Tryz.func53 rfl (by simp [Tryz.ntmps53]) fun O w=>?_
 simp only [Tryz.ntmps53,Tryz.results53,argFr]
 refine AX.sR (rgAV [1,2,5]) ?_
 refine AX.seq ?_
 refine AX.sR (rgCV [1,2,5,18] (aI hr oT)) ?_
 refine AX.condT ?_
 refine AX.sR (rgAV [4,5,6]) ?_
 refine AX.ret ⟨.inl rfl,?_⟩
 exact dnQ5
set_option maxHeartbeats 4000000 in
theorem cends_arg (n m:Nat) (A B:Mx) (sl:List V) (hr:PCall Tryz.prog 60 [cV n m A B] (.b true) []) (hw:PCall Tryz.prog 61 [cV n m A B,.sl sl] (.b false) []) :
  PCall Tryz.prog 53 [cV n m A B,.sl sl] (.tup [.sl [],zR,.i .i64 1]) []:=by
 refine PCall.of_ax Tryz.call53 Tryz.func53 rfl (by simp [Tryz.ntmps53]) fun O w=>?_
 simp only [Tryz.ntmps53,Tryz.results53,argFr]
 unfold cV at *
 generalize (mcells n A (n*n)).map rV=Ac at *
 generalize (mcells m B (n*m)).map rV=Bc at *
 refine AX.sR (rgAV [1,2,5]) ?_
 refine AX.seq ?_
 refine AX.sR (rgCV [1,2,5,18] (aI hr (aI hw oT))) ?_
 refine AX.condT ?_
 refine AX.sR (rgAV [4,5,6]) ?_
 refine AX.ret ⟨.inl rfl,?_⟩
 exact dnQ5
theorem bigL8 {n:Nat} (hn:n≤8):4*bigL n (38+1)<2 ^ 33:=by
 have h1:=bigL_mono (L:=38+1) hn
 have h2:4*bigL 8 (38+1)<2 ^ 33:=by decide
 omega
structure Small (n m:Nat) (A B:Mx) (v:Nat→Rat):Prop where
 hn:n≤8
 hm:m≤5
 hA:∀ i k,i<n→k<n→rL (A i k)≤38
 hB:∀ i k,i<n→k<m→rL (B i k)≤38
 hC:isC n m A B=true
 hv:∀ i,i<n→0≤v i
 hvL:∀ i,i<n→rL (v i)≤3
namespace Small
variable {n m:Nat} {A B:Mx} {v:Nat→Rat}
theorem right (h:Small n m A B v):PCall Tryz.prog 60 [cV n m A B] (.b true) []:=by
 have c1:=cright_ok n m 38 (by have:=h.hn;omega) (by have:=h.hm;omega) A B h.hA h.hB (by decide) (by decide)
 rwa [h.hC] at c1
theorem hX (h:Small n m A B v):∀ i j,i<n→j<m→rL (eachM n m A B i j)≤100000:=each_small h.hn h.hC h.hA h.hB
theorem is (h:Small n m A B v):(chn n m A B).IsEach (eachM n m A B):=each_is h.hC h.hA h.hB (by decide)
theorem each (h:Small n m A B v):PCall Tryz.prog 93 [cV n m A B] (.tup [qM n m (eachM n m A B),.i .i64 0]) []:=
 ceach_ok n m 38 (by have:=h.hn;omega) (by have:=h.hm;omega) A B h.hC h.hA h.hB (by decide) (bigL8 h.hn) (by decide)
theorem ends (h:Small n m A B v):PCall Tryz.prog 53 [cV n m A B,.sl ((vl n v).map rV)] (.tup [.sl ((vl m (thr n v (eachM n m A B))).map rV),rV (neverQ n m A B v),.i .i64 0]) []:=
 ends_ok n m 38 100000 (by have:=h.hn;omega) (by have:=h.hm;omega) A B h.hC h.hA h.hB (by decide) (bigL8 h.hn) (by decide) v h.hv (fun i hi=>Nat.le_trans (h.hvL i hi) (by decide)) h.hX (by decide) (by decide) (by
  have:=h.hn
  have:=h.hm
  have h1:(n+m+1)*(60*(2*100000+1)+1+1)≤14*(60*(2*100000+1)+1+1):=Nat.mul_le_mul_right _ (by omega)
  omega)
end Small
theorem Few.ends {c:V} (h:Few c) {ss:List RT} (hs:okX ss) (hl:ss.length≤100) (hs3:∀ x ∈ ss,x.2.1.length≤3∧x.2.2.length≤3) :
  PCall Tryz.prog 53 [c,.sl (ss.map fR)] (.tup [.sl [],zR,.i .i64 1]) []∨∃ (n m:Nat) (A B:Mx) (v:Nat→Rat),c=cV n m A B∧ss.map fR=(vl n v).map rV∧Small n m A B v:=by
 cases h with
 | shape R1 C1 R2 C2 xs ys h1 h2 h3 h4 hx hy lx ly hno=>exact .inl (cends_not R1 C1 R2 C2 _ _ _ (cright_not R1 C1 R2 C2 xs ys h1 h2 h3 h4 hx hy (by omega) (by omega) hno))
 | rows n m A B hn hm hA hB hC=>
  have c1:=cright_ok n m 3 hn hm A B hA hB (by decide) (by decide)
  rw [hC] at c1
  exact .inl (cends_not n n n m _ _ _ c1)
 | ok n m A B hn hm hA hB hC=>
  have c1:=cright_ok n m 38 (by omega) (by omega) A B hA hB (by decide) (by decide)
  rw [hC] at c1
  have w1:=weights_ok n m A B (by omega) ss (by omega) hs
  cases hW:isW n ss with
  | false=>
   rw [hW] at w1
   exact .inl (cends_arg n m A B _ c1 w1)
  | true=>
   obtain ⟨v,rfl,hv⟩:=isW_vec (fun x hx=>⟨(hs x hx).1,(hs x hx).2.1⟩) hW
   refine .inr ⟨n,m,A,B,v,rfl,map_toRT _,hn,hm,hA,hB,hC,hv,fun i hi=>?_⟩
   have hm:toRT (v i) ∈ (vl n v).map toRT:=List.mem_map.2 ⟨v i,List.mem_map.2 ⟨i,by simpa using hi,rfl⟩,rfl⟩
   exact toRT_len (hs3 _ hm).1 (hs3 _ hm).2
namespace Small
variable {n m:Nat} {A B:Mx} {v:Nat→Rat}
theorem isVis (h:Small n m A B v):(chn n m A B).IsVis v (visV n m A B v):=vis_is (L:=38) h.hC h.hA (fun i hi=>Nat.le_trans (h.hvL i hi) (by decide)) (by decide)
theorem visL (h:Small n m A B v):∀ i,i<n→rL (visV n m A B v i)≤100000:=vis_small h.hn h.hC h.hA h.hvL
theorem never_eq (h:Small n m A B v):neverQ n m A B v=(chn n m A B).never (eachM n m A B) v:=rfl
end Small
end Go.Proofs.YteidabibgjokkaaGreatDoor
