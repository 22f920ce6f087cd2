/- Powers: plain facts. -/
import Derived.Test.YtepkjfnffbdcoaaGJ
set_option linter.unusedVariables false
set_option maxRecDepth 20000
set_option linter.unusedSimpArgs false
namespace Go.Proofs.Ytepkjfnffbdcoaa
open Go Go.Proofs.Ytepkjfnffbdcoaa.Lift
attribute [local irreducible] Lift.PCall Lift.HCall

def powLim (m : Nat) (n : Int) : Prop := 0 < blen m ∧ ((100000 / blen m : Nat) : Int) < n
instance (m : Nat) (n : Int) : Decidable (powLim m n) := inferInstanceAs (Decidable (_ ∧ _))
def powN (m : Nat) (n : Int) : Nat := if n < 0 then 0 else if powLim m n then 0 else m ^ n.toNat
def powE (m : Nat) (n : Int) : Int := if n < 0 then 1 else if powLim m n then 2 else 0

theorem blen_eq_zero {m : Nat} : blen m = 0 ↔ m = 0 := by
  constructor
  · intro h
    by_cases h0 : m = 0
    · exact h0
    · have := blen_pos h0; omega
  · rintro rfl; rfl
theorem digits_len_pow {m n K : Nat} (h : blen m * n ≤ 32 * K) : (digits (m ^ n)).length ≤ K + 1 := by
  apply digits_length_le
  have h1 : m ^ n ≤ (2 ^ blen m) ^ n := Nat.pow_le_pow_left (Nat.le_of_lt (lt_blen m)) n
  rw [← Nat.pow_mul] at h1
  have h2 : 2 ^ (blen m * n) ≤ 2 ^ (32 * K) := Nat.pow_le_pow_right (by omega) h
  have h3 : (4294967296 : Nat) ^ (K + 1) = 2 ^ (32 * (K + 1)) := by
    rw [show (4294967296 : Nat) = 2 ^ 32 from rfl, ← Nat.pow_mul]
  have h4 : (2 : Nat) ^ (32 * K) < 2 ^ (32 * (K + 1)) := Nat.pow_lt_pow_right (by omega) (by omega)
  rw [h3]
  omega
theorem pow_lim_le {m n : Nat} (h : ¬ powLim m n) : m ≠ 0 → blen m * n ≤ 32 * 3125 := by
  intro h0
  have hp := blen_pos h0
  have h1 : n ≤ 100000 / blen m := by
    apply Classical.byContradiction
    intro h2
    exact h ⟨hp, by omega⟩
  have := Nat.mul_le_mul_left (blen m) h1
  have h2 := Nat.mul_div_le 100000 (blen m)
  omega


end Go.Proofs.Ytepkjfnffbdcoaa
