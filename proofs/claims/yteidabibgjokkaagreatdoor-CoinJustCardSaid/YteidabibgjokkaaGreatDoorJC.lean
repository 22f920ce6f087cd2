import Derived.Test.YteidabibgjokkaaGreatDoorHF
import Derived.Test.YteidabibgjokkaaGreatDoorJA
import Derived.Test.YteidabibgjokkaaGreatDoorHN
import Derived.Test.YteidabibgjokkaaGreatDoorHB
set_option maxRecDepth 20000
set_option linter.all false
namespace Go.Proofs.YteidabibgjokkaaGreatDoor
open Go Go.Proofs.YteidabibgjokkaaGreatDoor.Lift
attribute [local irreducible] Lift.PCall Lift.HCall
theorem Chn.IsVis.unique {c:Chn} (hc:c.Ok) {v x y:Nat→Rat} (h:c.IsVis v x)(h':c.IsVis v y):∀ i,i<c.n→x i=y i:=fun i hi=>by
 have key:∀ x y:Nat→Rat,c.IsVis v x→c.IsVis v y→0≤x i-y i:=fun x y h h'=>by
  have hd:c.IsVis (fun _=>0) (fun i=>x i-y i):=⟨fun i hi hr=>by rw [h.z i hi hr,h'.z i hi hr];grind,fun i hi hr=>by
   have e:(sumN c.n fun k=>(x k-y k)*c.M k i)=(sumN c.n fun k=>x k*c.M k i)-sumN c.n fun k=>y k*c.M k i:=by
    rw [← sumN_sub]
    exact sumN_congr fun k _=>by grind
   rw [e,h.eq i hi hr,h'.eq i hi hr]
   grind⟩
  exact hd.nonneg hc (fun _ _=>Rat.le_refl) i hi
 have h1:=key x y h h'
 have h2:=key y x h' h
 grind
theorem psame_q {q:Rat} {L:Nat} (h:rL q≤L)(hL:L<2 ^ 33)(hL1:1≤L):PCall Tryz.prog 27 [rV q,rV q] (.b true) []:=by
 have:=psame_ok (IsQ.of h) (IsQ.of h) hL hL1
 rwa [decide_eq_true rfl] at this
theorem Small.csteps {n m:Nat} {A B:Mx} {v:Nat→Rat} (h:Small n m A B v)(h0:neverQ n m A B v=0):PCall Tryz.prog 57 [cV n m A B,.sl ((vl n v).map rV)] (.tup [rV (sumN n (visV n m A B v)),.i .i64 0]) []:=
 steps_ok' n m 38 100000 (by have:=h.hn;omega) (by have:=h.hm;omega) A B h.hC h.hA h.hB (by decide) (bigL8 h.hn) (by decide) v h.hv (fun i hi=>Nat.le_trans (h.hvL i hi) (by decide)) h.hX (by decide) (by decide) (by
  have:=h.hn
  have:=h.hm
  have h1:(n+m+1)*(60*(2*100000+1)+1+1)≤14*(60*(2*100000+1)+1+1):=Nat.mul_le_mul_right _ (by omega)
  omega) h0 h.visL
end Go.Proofs.YteidabibgjokkaaGreatDoor
