/- Statements about chains: ChainRows. -/
import Derived.Test.YtepkjfnffbdcoaaGreatJE
import Derived.Test.YtepkjfnffbdcoaaGreatLawD3
set_option linter.unusedVariables false
set_option maxRecDepth 20000
set_option linter.unusedSimpArgs false
namespace Go.Proofs.YtepkjfnffbdcoaaGreat
open Go Go.Proofs.YtepkjfnffbdcoaaGreat.Lift
attribute [local irreducible] Lift.PCall Lift.HCall
set_option maxHeartbeats 4000000 in
theorem wat_ok (r c L : Nat) (hr : r ≤ 60) (hc : c ≤ 60) (X : Mx) (hX : ∀ i k, i < r → k < c → rL (X i k) ≤ L) (hL : L < 2 ^ 36) (i k : Nat) (hi : i < r) (hk : k < c) :
  PCall Tryz.prog 35 [qM r c X, .i .i64 i, .i .i64 k] (.agg [.b (decide ((X i k).num < 0)), dg (digits (X i k).num.natAbs), dg (digits (X i k).den)]) [] := by
 have cr := wright_q r c hr hc X (fun i k hi hk => by have := hX i k hi hk; omega)
 have ix := fun x y => effIxM (x := x) (y := y) X hi hk rfl
 have m1 : (i : Int) * (c : Int) = ((i * c : Nat) : Int) := (Int.natCast_mul i c).symm
 have a1 : ((i * c : Nat) : Int) + (k : Int) = ((i * c + k : Nat) : Int) := (Int.natCast_add _ _).symm
 have b1 : i * c ≤ 60 * 60 := Nat.mul_le_mul (by omega) hc
 unfold qM mV at *
 generalize (mcells c X (r * c)).map rV = Xc at *
 generalize X i k = p at *
 generalize i * c + k = z at *
 generalize i * c = z1 at *
 refine PCall.of_ax Tryz.call35 Tryz.func35 rfl (by simp [Tryz.ntmps35]) fun O w => ?_
 simp only [Tryz.ntmps35, Tryz.results35, argFr]
 refine AX.sR (rgAV [1, 2, 3, 6]) ?_
 refine AX.seq ?_
 refine AX.sR (rgCV [1, 2, 3, 6, 29] (aI cr oT)) ?_
 refine AX.condF ?_
 refine AX.keepA [1, 2, 3, 6] ?_
 refine AX.skip ?_
 refine nmZ ?_
 refine AX.sR (rgEV [6] (aI @m1 (aI @a1 oT)) oT (aI ix oT)) ?_
 refine AX.ret ⟨.inl rfl, ?_⟩
 exact dnQ5
end Go.Proofs.YtepkjfnffbdcoaaGreat
