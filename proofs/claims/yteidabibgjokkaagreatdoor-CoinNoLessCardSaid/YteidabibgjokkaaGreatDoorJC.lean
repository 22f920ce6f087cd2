import Derived.Test.YteidabibgjokkaaGreatDoorHF
import Derived.Test.YteidabibgjokkaaGreatDoorJA
import Derived.Test.YteidabibgjokkaaGreatDoorHN
import Derived.Test.YteidabibgjokkaaGreatDoorHB
set_option maxRecDepth 20000
set_option linter.all false
namespace Go.Proofs.YteidabibgjokkaaGreatDoor
open Go Go.Proofs.YteidabibgjokkaaGreatDoor.Lift
attribute [local irreducible] Lift.PCall Lift.HCall
theorem Chn.IsVis.unique {c:Chn} (hc:c.Ok) {v x y:Nat→Rat} (h:c.IsVis v x)(h':c.IsVis v y):∀ i,i<c.n→x i=y i:=fun i hi=>by
 have key:∀ x y:Nat→Rat,c.IsVis v x→c.IsVis v y→0≤x i-y i:=fun x y h h'=>by
  have hd:c.IsVis (fun _=>0) (fun i=>x i-y i):=⟨fun i hi hr=>by rw [h.z i hi hr,h'.z i hi hr];grind,fun i hi hr=>by
   have e:(sumN c.n fun k=>(x k-y k)*c.M k i)=(sumN c.n fun k=>x k*c.M k i)-sumN c.n fun k=>y k*c.M k i:=by
    rw [← sumN_sub]
    exact sumN_congr fun k _=>by grind
   rw [e,h.eq i hi hr,h'.eq i hi hr]
   grind⟩
  exact hd.nonneg hc (fun _ _=>Rat.le_refl) i hi
 have h1:=key x y h h'
 have h2:=key y x h' h
 grind
theorem psame_z:PCall Tryz.prog 27 [zR,zR] (.b true) []:=by
 have z:IsQ zR (rq false (val []) (val [])) 1:=IsQ.raw (s:=false) (a:=[]) (b:=[]) (fun d h=>nomatch h) (fun d h=>nomatch h) (by decide) (by decide)
 have:=psame_ok z z (by decide) (by decide)
 rwa [decide_eq_true rfl] at this
theorem psame_q {q:Rat} {L:Nat} (h:rL q≤L)(hL:L<2 ^ 33)(hL1:1≤L):PCall Tryz.prog 27 [rV q,rV q] (.b true) []:=by
 have:=psame_ok (IsQ.of h) (IsQ.of h) hL hL1
 rwa [decide_eq_true rfl] at this
theorem csteps_err (c:V)(e:Int)(R1 C1 R2 C2:Int)(x y sl:List V)(hc:c=.agg [.i .i64 R1,.i .i64 C1,.sl x,.i .i64 R2,.i .i64 C2,.sl y])(he:e≠0)(cv:PCall Tryz.prog 102 [c,.sl sl] (.tup [.sl [],.i .i64 e]) []):PCall Tryz.prog 57 [c,.sl sl] (.tup [zR,.i .i64 e]) []:=by
 subst hc
 refine PCall.of_ax Tryz.call57 Tryz.func57 rfl (by simp [Tryz.ntmps57]) fun O w=>?_
 simp only [Tryz.ntmps57,Tryz.results57,argFr]
 refine AX.sR (rgAV [1,2,4]) ?_
 refine AX.sR (rgCV [4,6,7] (aI cv oT)) ?_
 refine AX.seq ?_
 refine AX.sR (rgWV [4,6,7,15] (aI @he oT) oT) ?_
 refine AX.condT ?_
 refine AX.sR (rgAV [4,5]) ?_
 refine AX.ret ⟨.inl rfl,?_⟩
 exact dnQ8
theorem Small.csteps {n m:Nat} {A B:Mx} {v:Nat→Rat} (h:Small n m A B v)(h0:neverQ n m A B v=0):PCall Tryz.prog 57 [cV n m A B,.sl ((vl n v).map rV)] (.tup [rV (sumN n (visV n m A B v)),.i .i64 0]) []:=
 steps_ok' n m 38 100000 (by have:=h.hn;omega) (by have:=h.hm;omega) A B h.hC h.hA h.hB (by decide) (bigL8 h.hn) (by decide) v h.hv (fun i hi=>Nat.le_trans (h.hvL i hi) (by decide)) h.hX (by decide) (by decide) (by
  have:=h.hn
  have:=h.hm
  have h1:(n+m+1)*(60*(2*100000+1)+1+1)≤14*(60*(2*100000+1)+1+1):=Nat.mul_le_mul_right _ (by omega)
  omega) h0 h.visL
end Go.Proofs.YteidabibgjokkaaGreatDoor
