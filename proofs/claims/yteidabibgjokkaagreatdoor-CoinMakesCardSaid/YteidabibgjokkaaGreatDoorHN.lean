import Derived.Test.YteidabibgjokkaaGreatDoorHF
import Derived.Test.YteidabibgjokkaaGreatDoorMO
set_option maxRecDepth 20000
set_option linter.all false
namespace Go.Proofs.YteidabibgjokkaaGreatDoor
open Go Go.Proofs.YteidabibgjokkaaGreatDoor.Lift
attribute [local irreducible] Lift.PCall Lift.HCall
inductive Few:V→Prop
 | shape (R1 C1 R2 C2:Int) (xs ys:List RT) (h1:bd R1) (h2:bd C1) (h3:bd R2) (h4:bd C2) (hx:okX xs) (hy:okX ys) (lx:xs.length≤4000) (ly:ys.length≤4000) (hno:(isM R1 C1 xs && isM R2 C2 ys && decide (R1=C1) && decide (R2=R1))=false):Few (.agg [.i .i64 R1,.i .i64 C1,.sl (xs.map fR),.i .i64 R2,.i .i64 C2,.sl (ys.map fR)])
 | rows (n m:Nat) (A B:Mx) (hn:n≤60) (hm:m≤60) (hA:∀ i k,i<n→k<n→rL (A i k)≤3) (hB:∀ i k,i<n→k<m→rL (B i k)≤3) (hC:isC n m A B=false):Few (cV n m A B)
 | ok (n m:Nat) (A B:Mx) (hn:n≤8) (hm:m≤5) (hA:∀ i k,i<n→k<n→rL (A i k)≤38) (hB:∀ i k,i<n→k<m→rL (B i k)≤38) (hC:isC n m A B=true):Few (cV n m A B)
theorem bigL8 {n:Nat} (hn:n≤8):4*bigL n (38+1)<2 ^ 33:=by
 have h1:=bigL_mono (L:=38+1) hn
 have h2:4*bigL 8 (38+1)<2 ^ 33:=by decide
 omega
structure Small (n m:Nat) (A B:Mx) (v:Nat→Rat):Prop where
 hn:n≤8
 hm:m≤5
 hA:∀ i k,i<n→k<n→rL (A i k)≤38
 hB:∀ i k,i<n→k<m→rL (B i k)≤38
 hC:isC n m A B=true
 hv:∀ i,i<n→0≤v i
 hvL:∀ i,i<n→rL (v i)≤3
namespace Small
variable {n m:Nat} {A B:Mx} {v:Nat→Rat}
theorem right (h:Small n m A B v):PCall Tryz.prog 60 [cV n m A B] (.b true) []:=by
 have c1:=cright_ok n m 38 (by have:=h.hn;omega) (by have:=h.hm;omega) A B h.hA h.hB (by decide) (by decide)
 rwa [h.hC] at c1
theorem hX (h:Small n m A B v):∀ i j,i<n→j<m→rL (eachM n m A B i j)≤100000:=each_small h.hn h.hC h.hA h.hB
theorem is (h:Small n m A B v):(chn n m A B).IsEach (eachM n m A B):=each_is h.hC h.hA h.hB (by decide)
theorem each (h:Small n m A B v):PCall Tryz.prog 93 [cV n m A B] (.tup [qM n m (eachM n m A B),.i .i64 0]) []:=
 ceach_ok n m 38 (by have:=h.hn;omega) (by have:=h.hm;omega) A B h.hC h.hA h.hB (by decide) (bigL8 h.hn) (by decide)
end Small
namespace Small
variable {n m:Nat} {A B:Mx} {v:Nat→Rat}
theorem isVis (h:Small n m A B v):(chn n m A B).IsVis v (visV n m A B v):=vis_is (L:=38) h.hC h.hA (fun i hi=>Nat.le_trans (h.hvL i hi) (by decide)) (by decide)
theorem visL (h:Small n m A B v):∀ i,i<n→rL (visV n m A B v i)≤100000:=vis_small h.hn h.hC h.hA h.hvL
end Small
end Go.Proofs.YteidabibgjokkaaGreatDoor
