/- Statements about chains: ChainMet. -/
import Derived.Test.YtepkjfnffbdcoaaGreatChV
import Derived.Test.YtepkjfnffbdcoaaGreatHN
set_option linter.unusedVariables false
set_option maxRecDepth 20000
set_option linter.unusedSimpArgs false
namespace Go.Proofs.YtepkjfnffbdcoaaGreat
open Go Go.Proofs.YtepkjfnffbdcoaaGreat.Lift
attribute [local irreducible] Lift.PCall Lift.HCall
namespace Small
variable {n m : Nat} {A B : Mx} {v : Nat → Rat}
end Small
theorem wrow_ok (n m L : Nat) (hn : n ≤ 60) (hm : m ≤ 60) (v : Nat → Rat) (B : Mx) (hv : ∀ i, i < n → rL (v i) ≤ L) (hB : ∀ i k, i < n → k < m → rL (B i k) ≤ L) (hL1 : 1 ≤ L) (hL : 60 * (2 * L + 1) + 1 < 2 ^ 34) :
    PCall Tryz.prog 36 [.agg [.i .i64 1, .i .i64 n, .sl ((vl n v).map rV)], .agg [.i .i64 n, .i .i64 m, .sl ((mcells m B (n * m)).map rV)]] (.tup [.agg [.i .i64 1, .i .i64 m, .sl ((vl m (thr n v B)).map rV)], .i .i64 0]) [] := by
  have cm := wmul_ok 1 n m L (by decide) hn hm (fun _ k => v k) B (fun _ j _ hj => hv j hj) hB hL1 hL
  unfold qM mV at cm
  have e1 : mcells m (mulM n (fun _ k => v k) B) (1 * m) = vl m (thr n v B) := by
    rw [← mcells_one]
    rfl
  rw [mcells_one, e1] at cm
  exact cm
end Go.Proofs.YtepkjfnffbdcoaaGreat
