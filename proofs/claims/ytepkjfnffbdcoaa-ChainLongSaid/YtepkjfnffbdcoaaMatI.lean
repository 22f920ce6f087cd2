/- Matrices: Add, times and Mul of the program. -/
import Derived.Test.YtepkjfnffbdcoaaHG
set_option linter.unusedVariables false
set_option maxRecDepth 20000
set_option linter.unusedSimpArgs false
namespace Go.Proofs.Ytepkjfnffbdcoaa
open Go Go.Proofs.Ytepkjfnffbdcoaa.Lift
attribute [local irreducible] Lift.PCall Lift.HCall

def addM (A B : Mx) : Mx := fun i k => A i k + B i k
/-- The product over n. -/
def mulM (n : Nat) (A B : Mx) : Mx := fun i k => sumN n fun j => A i j * B j k
theorem rL0 : rL 0 ≤ 1 := by
  have : rL (rq false 0 1) ≤ 1 := rL_rq (by rw [digits_zero]; exact Nat.zero_le _) (by rw [show (1 : Nat) = 0 + 1 from rfl]; exact digits_length_le (by decide)) (Nat.le_refl _)
  exact this
theorem sumN_len {n : Nat} {f : Nat → Rat} {L : Nat} (h : ∀ i, i < n → rL (f i) ≤ L) : ∀ m, m ≤ n → rL (sumN m f) ≤ m * (L + 1) + 1 := by
  intro m
  induction m with
  | zero => intro _; have := rL0; show rL 0 ≤ _; omega
  | succ m ih =>
    intro hm
    have h1 := rL_add (sumN m f) (f m) (ih (by omega)) (h m (by omega))
    rw [sumN_succ, Nat.succ_mul]
    omega
theorem mulM_len {n L : Nat} {A B : Mx} {i k : Nat} (hL1 : 1 ≤ L) (hA : ∀ j, j < n → rL (A i j) ≤ L) (hB : ∀ j, j < n → rL (B j k) ≤ L) : ∀ m, m ≤ n → rL (mulM m A B i k) ≤ m * (2 * L + 1) + 1 := fun m hm => by
  have := sumN_len (L := 2 * L) (f := fun j => A i j * B j k) (n := n) (fun j hj => by have := rL_mul (A i j) (B j k) (hA j hj) (hB j hj) (by omega); omega) m hm
  exact this
theorem num0 {q : Rat} : (digits q.num.natAbs).length = 0 ↔ q = 0 := by rw [digits_len_zero, Int.natAbs_eq_zero, Rat.num_eq_zero]

end Go.Proofs.Ytepkjfnffbdcoaa
