/- Statements about chains: ChainMet. -/
import Derived.Test.YtepkjfnffbdcoaaGreatChV
import Derived.Test.YtepkjfnffbdcoaaGreatHN
set_option linter.unusedVariables false
set_option maxRecDepth 20000
set_option linter.unusedSimpArgs false
namespace Go.Proofs.YtepkjfnffbdcoaaGreat
open Go Go.Proofs.YtepkjfnffbdcoaaGreat.Lift
attribute [local irreducible] Lift.PCall Lift.HCall
set_option maxHeartbeats 4000000 in
theorem cvisits_err (c : V) (R1 C1 R2 C2 : Int) (x y sl : List V) (hc : c = .agg [.i .i64 R1, .i .i64 C1, .sl x, .i .i64 R2, .i .i64 C2, .sl y]) (ce : PCall Tryz.prog 18 [c, .sl sl] (.tup [.sl [], zR, .i .i64 1]) []) : PCall Tryz.prog 24 [c, .sl sl] (.tup [.sl [], .i .i64 1]) [] := by
 subst hc
 refine PCall.of_ax Tryz.call24 Tryz.func24 rfl (by simp [Tryz.ntmps24]) fun O w => ?_
 simp only [Tryz.ntmps24, Tryz.results24, argFr]
 refine AX.sR (rgAV [2, 3]) ?_
 refine AX.sR (rgCV [2, 3, 7, 8] (aI ce oT)) ?_
 refine AX.seq ?_
 refine AX.sR (rgAV [2, 3, 7, 8, 22]) ?_
 refine AX.condT (h := ?_)
 refine AX.sR (rgAV [4, 5]) ?_
 refine AX.ret ⟨.inl rfl, ?_⟩
 exact dnQ5
namespace Small
variable {n m : Nat} {A B : Mx} {v : Nat → Rat}
theorem visits (h : Small n m A B v) : PCall Tryz.prog 24 [cV n m A B, .sl ((vl n v).map rV)] (if neverQ n m A B v = 0 then .tup [.sl ((vl n (visV n m A B v)).map rV), .i .i64 0] else .tup [.sl [], .i .i64 31]) [] :=
 visits_ok n m 38 100000 (by have := h.hn; omega) (by have := h.hm; omega) A B h.hC h.hA h.hB (by decide) (bigL8 h.hn) (by decide) v h.hv (fun i hi => Nat.le_trans (h.hvL i hi) (by decide)) h.hX (by decide) (by decide) (by
  have := h.hn
  have := h.hm
  have h1 : (n + m + 1) * (60 * (2 * 100000 + 1) + 1 + 1) ≤ 14 * (60 * (2 * 100000 + 1) + 1 + 1) := Nat.mul_le_mul_right _ (by omega)
  omega)
theorem isVis (h : Small n m A B v) : (chn n m A B).IsVis v (visV n m A B v) := vis_is (L := 38) h.hC h.hA (fun i hi => Nat.le_trans (h.hvL i hi) (by decide)) (by decide)
theorem visL (h : Small n m A B v) : ∀ i, i < n → rL (visV n m A B v i) ≤ 100000 := vis_small h.hn h.hC h.hA h.hvL
theorem never_eq (h : Small n m A B v) : neverQ n m A B v = (chn n m A B).never (eachM n m A B) v := rfl
end Small
end Go.Proofs.YtepkjfnffbdcoaaGreat
