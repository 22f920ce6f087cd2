/- Chains: Holds. -/
import Derived.Test.YtepkjfnffbdcoaaGreatHI
import Derived.Test.YtepkjfnffbdcoaaGreatHL
import Derived.Test.YtepkjfnffbdcoaaGreatHN
set_option linter.unusedVariables false
set_option maxRecDepth 20000
set_option linter.unusedSimpArgs false
namespace Go.Proofs.YtepkjfnffbdcoaaGreat
open Go Go.Proofs.YtepkjfnffbdcoaaGreat.Lift
attribute [local irreducible] Lift.PCall Lift.HCall
theorem mcells_len {r c : Nat} {X : Mx} {L : Nat} (h : ∀ i k, i < r → k < c → rL (X i k) ≤ L) : ∀ q ∈ mcells c X (r * c), rL q ≤ L := by
 intro q hq
 obtain ⟨j, hj, rfl⟩ := List.mem_map.1 hq
 have hj : j < r * c := by simpa using hj
 have hc0 : 0 < c := Nat.pos_of_ne_zero fun e => by subst e; simp at hj
 exact h _ _ ((Nat.div_lt_iff_lt_mul hc0).2 hj) (Nat.mod_lt _ hc0)
end Go.Proofs.YtepkjfnffbdcoaaGreat
/- Statements about chains: ChainOnly. -/
set_option linter.unusedVariables false
set_option linter.unusedSimpArgs false
namespace Go.Proofs.YtepkjfnffbdcoaaGreat
open Go Go.Proofs.YtepkjfnffbdcoaaGreat.Lift
attribute [local irreducible] Lift.PCall Lift.HCall
set_option maxHeartbeats 4000000 in
theorem ceach_not (R1 C1 R2 C2 : Int) (x y : List V) (hr : PCall Tryz.prog 41 [.agg [.i .i64 R1, .i .i64 C1, .sl x, .i .i64 R2, .i .i64 C2, .sl y]] (.b false) []) :
  PCall Tryz.prog 15 [.agg [.i .i64 R1, .i .i64 C1, .sl x, .i .i64 R2, .i .i64 C2, .sl y]] (.tup [.agg [.i .i64 0, .i .i64 0, .sl []], .i .i64 1]) [] := by
 refine PCall.of_ax Tryz.call15 Tryz.func15 rfl (by simp [Tryz.ntmps15]) fun O w => ?_
 simp only [Tryz.ntmps15, Tryz.results15, argFr]
 refine AX.sR (rgAV [1, 2]) ?_
 refine AX.seq ?_
 refine AX.sR (rgCV [1, 2, 12] (aI hr oT)) ?_
 refine AX.condT ?_
 refine AX.sR (rgAV [2, 3]) ?_
 refine AX.ret ⟨.inl rfl, ?_⟩
 exact dnQ5
end Go.Proofs.YtepkjfnffbdcoaaGreat
