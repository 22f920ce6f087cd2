/- The reference's chains: Ends; and statements about chains: ChainEnds. -/
import Derived.Test.YtepkjfnffbdcoaaGreatJB
import Derived.Test.YtepkjfnffbdcoaaGreatHN
import Derived.Test.YtepkjfnffbdcoaaGreatHC
set_option linter.unusedVariables false
set_option maxRecDepth 20000
set_option linter.unusedSimpArgs false
namespace Go.Proofs.YtepkjfnffbdcoaaGreat
open Go Go.Proofs.YtepkjfnffbdcoaaGreat.Lift
attribute [local irreducible] Lift.PCall Lift.HCall
set_option maxHeartbeats 4000000 in
theorem rends_not (R1 C1 R2 C2 : Int) (x y sl : List V) (hr : PCall Tryz.prog 42 [.agg [.i .i64 R1, .i .i64 C1, .sl x, .i .i64 R2, .i .i64 C2, .sl y]] (.b false) []) :
  PCall Tryz.prog 19 [.agg [.i .i64 R1, .i .i64 C1, .sl x, .i .i64 R2, .i .i64 C2, .sl y], .sl sl] (.tup [.sl [], zR, .i .i64 1]) [] := by
 refine PCall.of_ax Tryz.call19 Tryz.func19 rfl (by simp [Tryz.ntmps19]) fun O w => ?_
 simp only [Tryz.ntmps19, Tryz.results19, argFr]
 refine AX.sR (rgAV [1, 2, 5]) ?_
 refine AX.seq ?_
 refine AX.sR (rgCV [1, 2, 5, 20] (aI hr oT)) ?_
 refine AX.condT (h := ?_)
 refine AX.sR (rgAV [4, 5, 6]) ?_
 refine AX.ret ⟨.inl rfl, ?_⟩
 exact dnQ8
set_option maxHeartbeats 4000000 in
theorem rends_arg (n m : Nat) (A B : Mx) (sl : List V) (hr : PCall Tryz.prog 42 [cV n m A B] (.b true) []) (hw : PCall Tryz.prog 44 [.sl sl, .i .i64 n] (.b false) []) :
  PCall Tryz.prog 19 [cV n m A B, .sl sl] (.tup [.sl [], zR, .i .i64 1]) [] := by
 refine PCall.of_ax Tryz.call19 Tryz.func19 rfl (by simp [Tryz.ntmps19]) fun O w => ?_
 simp only [Tryz.ntmps19, Tryz.results19, argFr]
 unfold cV at *
 generalize (mcells n A (n * n)).map rV = Ac at *
 generalize (mcells m B (n * m)).map rV = Bc at *
 refine AX.sR (rgAV [1, 2, 5]) ?_
 refine AX.seq ?_
 refine AX.sR (rgCV [1, 2, 5, 20] (aI hr (aI hw oT))) ?_
 refine AX.condT (h := ?_)
 refine AX.sR (rgAV [4, 5, 6]) ?_
 refine AX.ret ⟨.inl rfl, ?_⟩
 exact dnQ8
theorem five8 {n : Nat} (hn : n ≤ 8) : 5 ^ n * (38 + 2) < 2 ^ 30 := by
 have h1 : 5 ^ n * (38 + 2) ≤ 5 ^ 8 * (38 + 2) := Nat.mul_le_mul_right _ (Nat.pow_le_pow_right (by decide) hn)
 have h2 : 5 ^ 8 * (38 + 2) < 2 ^ 30 := by decide
 omega
theorem Small.reach {n m : Nat} {A B : Mx} {v : Nat → Rat} (h : Small n m A B v) : PCall Tryz.prog 16 [cV n m A B] (.tup [qM n m (eachM n m A B), .i .i64 0]) [] :=
 r20each_ok n m 38 (by have := h.hn; omega) (by have := h.hm; omega) A B _ h.hC h.is h.hA h.hB (by decide) (by decide) (five8 h.hn)
set_option maxHeartbeats 8000000 in
theorem Small.rends {n m : Nat} {A B : Mx} {v : Nat → Rat} (h : Small n m A B v) : PCall Tryz.prog 19 [cV n m A B, .sl ((vl n v).map rV)] (.tup [.sl ((vl m (thr n v (eachM n m A B))).map rV), rV (neverQ n m A B v), .i .i64 0]) [] := by
 have hn := h.hn
 have hm := h.hm
 have cr := r20right_ok n m 38 (by omega) (by omega) A B h.hA h.hB (by decide) (by decide)
 rw [h.hC] at cr
 have cw := rweights_q n 3 (by omega) v h.hv h.hvL (by decide)
 have ce := h.reach
 have cb := rby_ok n m 100000 (by omega) (by omega) v (eachM n m A B) (fun i hi => Nat.le_trans (h.hvL i hi) (by decide)) h.hX (by decide) (by decide)
 have cs1 := pvsum h.hvL (by decide) (by omega)
 have cs2 := pvsum h.endL (by decide) (by omega)
 have h1 := sumN_len h.hvL n (Nat.le_refl _)
 have h2 := sumN_len h.endL m (Nat.le_refl _)
 have h3 : n * (3 + 1) ≤ 8 * (3 + 1) := Nat.mul_le_mul_right _ h.hn
 have h4 : m * (2000000 + 1) ≤ 5 * (2000000 + 1) := Nat.mul_le_mul_right _ h.hm
 have cd : PCall Tryz.prog 48 [.agg [.b (decide ((sumN n v).num < 0)), dg (digits (sumN n v).num.natAbs), dg (digits (sumN n v).den)], .agg [.b (decide ((sumN m (thr n v (eachM n m A B))).num < 0)), dg (digits (sumN m (thr n v (eachM n m A B))).num.natAbs), dg (digits (sumN m (thr n v (eachM n m A B))).den)]] (rV (neverQ n m A B v)) [] := psub_ok (L := 11000000) (IsQ.of (by omega)) (IsQ.of (by omega)) (by decide) (by decide)
 refine PCall.of_ax Tryz.call19 Tryz.func19 rfl (by simp [Tryz.ntmps19]) fun O w => ?_
 simp only [Tryz.ntmps19, Tryz.results19, argFr]
 clear h h1 h2 h3 h4
 unfold cV qM mV at *
 generalize (mcells n A (n * n)).map rV = Ac at *
 generalize (mcells m B (n * m)).map rV = Bc at *
 generalize neverQ n m A B v = nq at *
 generalize sumN m (thr n v (eachM n m A B)) = s2 at *
 generalize sumN n v = s1 at *
 generalize (vl m (thr n v (eachM n m A B))).map rV = Le' at *
 generalize (mcells m (eachM n m A B) (n * m)).map rV = Xc at *
 generalize (vl n v).map rV = Sc at *
 refine AX.sR (rgAV [1, 2, 5]) ?_
 refine AX.seq ?_
 refine AX.sR (rgCV [1, 2, 5, 20] (aI cr (aI cw oT))) ?_
 refine AX.condF (h := ?_)
 refine AX.keepA [1, 2, 5] (h := ?_)
 refine AX.skip ?_
 refine nmZ (h := ?_)
 refine AX.sR (rgCV [1, 5, 7] (aI ce oT)) ?_
 refine AX.sR (rgCV [1, 5, 9] (aI cb oT)) ?_
 refine AX.sR (rgCV [4, 5, 6] (aI cs1 (aI cs2 (aI cd oT)))) ?_
 refine AX.ret ⟨.inl rfl, ?_⟩
 exact dnQ8
theorem same_nil : PCall Tryz.prog 21 [.sl [], .sl []] (.b true) [] := c20same_ok [] [] 1 (fun q h => nomatch h) (fun q h => nomatch h) (by decide) (by decide) (by decide) (by decide)
theorem psame_z : PCall Tryz.prog 22 [zR, zR] (.b true) [] := by
 have z : IsQ zR (rq false (val []) (val [])) 1 := IsQ.raw (s := false) (a := []) (b := []) (fun d h => nomatch h) (fun d h => nomatch h) (by decide) (by decide)
 have := psame_ok z z (by decide) (by decide)
 rwa [decide_eq_true rfl] at this
theorem psame_q {q : Rat} {L : Nat} (h : rL q ≤ L) (hL : L < 2 ^ 33) (hL1 : 1 ≤ L) : PCall Tryz.prog 22 [rV q, rV q] (.b true) [] := by
 have := psame_ok (IsQ.of h) (IsQ.of h) hL hL1
 rwa [decide_eq_true rfl] at this
end Go.Proofs.YtepkjfnffbdcoaaGreat
