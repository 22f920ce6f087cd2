/- Power by squaring. -/
import Derived.Test.YtepkjfnffbdcoaaNatF
set_option linter.unusedVariables false
set_option maxRecDepth 20000
set_option linter.unusedSimpArgs false
namespace Go.Proofs.Ytepkjfnffbdcoaa
open Go Go.Proofs.Ytepkjfnffbdcoaa.Lift
attribute [local irreducible] Lift.PCall Lift.HCall

theorem and_one (n : Nat) (h : n < 9223372036854775808) : andI .i64 (n : Int) 1 = ((n % 2 : Nat) : Int) := by
  show (((BitVec.ofInt 64 (n : Int) &&& BitVec.ofInt 64 1).toNat : Nat) : Int) = _
  rw [BitVec.toNat_and, ofInt_toNat64 n (by omega)]
  rw [show (BitVec.ofInt 64 1).toNat = 1 from rfl, Nat.and_one_is_mod]
theorem shr1 (n : Nat) : Int.fdiv (n : Int) (2 ^ (min 1 64)) = ((n / 2 : Nat) : Int) := by
  rw [shr_nat]; rfl
theorem pow_even {o y N : Nat} (h : N % 2 = 0) : o * (y * y) ^ (N / 2) = o * y ^ N := by
  rw [← Nat.pow_two, ← Nat.pow_mul, show 2 * (N / 2) = N by omega]
theorem pow_odd {o y N : Nat} (h : N % 2 = 1) : o * y * (y * y) ^ (N / 2) = o * y ^ N := by
  rw [← Nat.pow_two, ← Nat.pow_mul, Nat.mul_assoc, ← Nat.pow_succ', show (2 * (N / 2)).succ = N by omega]
theorem le_of_pow {o y N A : Nat} (h : o * y ^ N = A) (hA : 0 < A) (hN : 0 < N) : 0 < o ∧ 0 < y ∧ o ≤ A ∧ y ≤ A := by
  have ho : 0 < o := Nat.pos_of_ne_zero (by rintro rfl; simp at h; omega)
  have hy : 0 < y := Nat.pos_of_ne_zero (by rintro rfl; rw [Nat.zero_pow hN] at h; simp at h; omega)
  have hp : 0 < y ^ N := Nat.pow_pos hy
  refine ⟨ho, hy, by rw [← h]; exact Nat.le_mul_of_pos_right o hp, ?_⟩
  have h1 : y ≤ y ^ N := by
    have := Nat.pow_le_pow_right hy hN
    rwa [Nat.pow_one] at this
  have h2 : y ^ N ≤ o * y ^ N := Nat.le_mul_of_pos_left _ ho
  omega

end Go.Proofs.Ytepkjfnffbdcoaa
