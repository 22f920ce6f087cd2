/- The reference's matrices: Zero, Identity. -/
import Derived.Test.YtepkjfnffbdcoaaGreatRfF
import Derived.Test.YtepkjfnffbdcoaaGreatRfI
set_option linter.unusedVariables false
set_option maxRecDepth 20000
set_option linter.unusedSimpArgs false
namespace Go.Proofs.YtepkjfnffbdcoaaGreat
open Go Go.Proofs.YtepkjfnffbdcoaaGreat.Lift
attribute [local irreducible] Lift.PCall Lift.HCall
set_option maxHeartbeats 8000000 in
theorem rzero_own (r c : Nat) (hr : r ≤ 60) (hc : c ≤ 60) : PCall Tryz.prog 62 [.i .i64 r, .i .i64 c] (.tup [.agg [.i .i64 r, .i .i64 c, .own 0 0 (r * c) 3], .i .i64 0]) [⟨41, qrow (mcells c (fun _ _ => 0) (r * c))⟩] := by
 have cz := wzeros_own r c hr hc
 refine PCall.of_ax Tryz.call62 Tryz.func62 rfl (by simp [Tryz.ntmps62]) fun O w0 => ?_
 simp only [Tryz.ntmps62, Tryz.results62, argFr]
 generalize hK : r * c = K at *
 generalize mcells c (fun _ _ => 0) K = zs at *
 refine AX.sR (rgAV [0, 1, 4]) ?_
 refine AX.seq ?_
 refine AX.block ?_
 refine AX.sR (rgAV [0, 1, 4, 6]) ?_
 refine AX.condF (h := ?_)
 refine AX.sR (rgAV [0, 1, 4, 14]) ?_
 refine AX.condF (h := ?_)
 refine AX.keepA [0, 1, 4] (h := ?_)
 refine AX.skip ?_
 refine nmZ (h := ?_)
 refine AX.sR (rgCV [4, 5] (aI cz oT)) ?_
 refine AX.ret ⟨.inl rfl, ?_⟩
 rw [ren_q]
 exact Done.matRowE lay_mat19 rfl rfl rfl rfl
def idM (t : Nat) : Mx := fun i k => if i = k ∧ i < t then 1 else 0
set_option maxHeartbeats 8000000 in
theorem rone_own (n : Nat) (hn : n ≤ 60) : PCall Tryz.prog 106 [.i .i64 n] (.agg [.i .i64 n, .i .i64 n, .own 0 0 (n * n) 3]) [⟨41, qrow (mcells n (idM n) (n * n))⟩] := by
 have cz := wzeros_own n n hn hn
 have cone : PCall Tryz.prog 45 [] (.agg [.b (decide ((1 : Rat).num < 0)), dg (digits (1 : Rat).num.natAbs), dg (digits (1 : Rat).den)]) [] := pone_ok
 have hnn : n * n ≤ 60 * 60 := Nat.mul_le_mul hn hn
 have e0 : mcells n (fun _ _ => (0 : Rat)) (n * n) = mcells n (idM 0) (n * n) := mcells_congr fun i k hi hk => by
  unfold idM
  rw [if_neg (fun h => Nat.not_lt_zero _ h.2)]
 rw [e0] at cz
 refine PCall.of_ax Tryz.call106 Tryz.func106 rfl (by simp [Tryz.ntmps106]) fun O w0 => ?_
 simp only [Tryz.ntmps106, Tryz.results106, argFr]
 obtain ⟨K, hK⟩ : ∃ K, n * n = K := ⟨_, rfl⟩
 rw [hK] at cz hnn ⊢
 refine AX.sR (rgAV [0, 2]) ?_
 refine AX.sR (rgCV [0, 2, 3] (aI cz oT)) ?_
 refine AX.seq ?_
 refine AX.sR (rgAV [0, 2, 3, 4]) ?_
 refine AX.weaken id (st' := ⟨[(4, .i .i64 (0 : Nat)), (3, .ptr 2 0), (2, .ptr 0 0), (0, .i .i64 n)], [(2, ⟨32, [.i .i64 n, .i .i64 n, .own 1 0 K 3]⟩), (1, ⟨41, qrow (mcells n (idM 0) K)⟩), (0, ⟨32, [.i .i64 0, .i .i64 0, .nl]⟩)], 3⟩)
  leQ8
  ?_
 refine AX.block ?_
 refine AX.loop (fun N st => ∃ t : Nat, t ≤ n ∧ N = n - t ∧ st = ⟨[(4, .i .i64 t), (3, .ptr 2 0), (2, .ptr 0 0), (0, .i .i64 n)], [(2, ⟨32, [.i .i64 n, .i .i64 n, .own 1 0 K 3]⟩), (1, ⟨41, qrow (mcells n (idM t) K)⟩), (0, ⟨32, [.i .i64 0, .i .i64 0, .nl]⟩)], 3⟩) n ⟨0, Nat.zero_le _, rfl, rfl⟩ ?_
 rintro N st ⟨t, ht, rfl, rfl⟩
 refine AX.seq ?_
 by_cases h1 : t < n
 ·obtain ⟨z, hz⟩ : ∃ z, t * n + t = z := ⟨_, rfl⟩
  have m1 : (t : Int) * (n : Int) = ((t * n : Nat) : Int) := (Int.natCast_mul t n).symm
  have a1 : ((t * n : Nat) : Int) + (t : Int) = (z : Int) := by rw [← Int.natCast_add, hz]
  have hzK : z < K := by
   rw [← hz, ← hK]
   have : (t + 1) * n ≤ n * n := Nat.mul_le_mul_right _ h1
   rw [Nat.succ_mul] at this
   omega
  have hl := qlen n n (idM t)
  have hset := qset (n := n) (idM t) 1 h1 h1 hz
  have hnext : mcells n (updM (idM t) t t 1) (n * n) = mcells n (idM (t + 1)) (n * n) := mcells_congr fun i k hi hk => by
   unfold updM idM
   by_cases e : i = t ∧ k = t
   ·rw [if_pos e, if_pos ⟨by omega, by omega⟩]
   ·rw [if_neg e]
    by_cases e2 : i = k ∧ i < t
    ·rw [if_pos e2, if_pos ⟨e2.1, by omega⟩]
    ·rw [if_neg e2, if_neg (fun h => e2 ⟨h.1, by
      by_cases e3 : i = t
      ·exact absurd ⟨e3, by omega⟩ e
      ·omega⟩)]
  rw [hnext] at hset
  rw [hK] at hl hset
  refine AX.sR (rgAV [0, 2, 3, 4, 10]) ?_
  refine AX.condT (h := ?_)
  refine AX.keepA [0, 2, 3, 4] (h := ?_)
  refine AX.skip ?_
  refine nmZ (h := ?_)
  refine AX.seq ?_
  refine AX.block ?_
  refine AX.rD (rgDWV [0, 2, 3, 4] (aI @m1 (aI @a1 (aI @hl oT))) (aI cone oT)) ?_
  refine nmZ (h := ?_)
  rw [hset]
  refine AX.rR (rgWV [0, 2, 3, 4] (aI @lit_add oT) oT) ?_
  refine nmZ (h := ?_)
  refine ⟨_, _, id, ?_,
   leQ8
   , ⟨t + 1, by omega, rfl, rfl⟩⟩
  omega
 ·obtain rfl : n = t := by omega
  refine AX.sR (rgAV [0, 2, 3, 4, 10]) ?_
  refine AX.condF (h := ?_)
  refine AX.exit ?_
  refine nmZ (h := ?_)
  refine AX.sR (rgAV [2]) ?_
  refine AX.ret ⟨.inl rfl, ?_⟩
  exact Done.matRow lay_mat19 rfl rfl rfl
set_option maxHeartbeats 8000000 in
theorem rident_own (n : Nat) (hn : n ≤ 60) : PCall Tryz.prog 61 [.i .i64 n] (.tup [.agg [.i .i64 n, .i .i64 n, .own 0 0 (n * n) 3], .i .i64 0]) [⟨41, qrow (mcells n (idM n) (n * n))⟩] := by
 have cz := rone_own n hn
 refine PCall.of_ax Tryz.call61 Tryz.func61 rfl (by simp [Tryz.ntmps61]) fun O w0 => ?_
 simp only [Tryz.ntmps61, Tryz.results61, argFr]
 generalize hK : n * n = K at *
 generalize mcells n (idM n) K = zs at *
 refine AX.sR (rgAV [0, 2]) ?_
 refine AX.seq ?_
 refine AX.block ?_
 refine AX.sR (rgAV [0, 2, 4]) ?_
 refine AX.condF (h := ?_)
 refine AX.sR (rgAV [0, 2, 8]) ?_
 refine AX.condF (h := ?_)
 refine AX.keepA [0, 2] (h := ?_)
 refine AX.skip ?_
 refine nmZ (h := ?_)
 refine AX.sR (rgCV [2, 3] (aI cz oT)) ?_
 refine AX.ret ⟨.inl rfl, ?_⟩
 rw [ren_q]
 exact Done.matRowE lay_mat19 rfl rfl rfl rfl
end Go.Proofs.YtepkjfnffbdcoaaGreat
