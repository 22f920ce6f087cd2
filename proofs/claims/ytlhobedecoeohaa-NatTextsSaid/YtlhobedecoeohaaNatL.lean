/- Plain facts of the long division (Knuth's bounds). -/
import Derived.Test.YtlhobedecoeohaaNatJ
set_option linter.unusedVariables false
set_option linter.unusedSimpArgs false
namespace Go.Proofs.Ytlhobedecoeohaa
open Go Go.Proofs.Ytlhobedecoeohaa.Lift

/-- A guess that is too great against the leading digits is too great. -/
theorem kn_low {U v P g : Nat} (hP : 0 < P) (h : U / P < g * (v / P)) : U / v < g ∨ v = 0 := by
  by_cases hv : v = 0
  · exact .inr hv
  left
  rw [Nat.div_lt_iff_lt_mul (Nat.pos_of_ne_zero hv)]
  have h1 : v / P * P ≤ v := Nat.div_mul_le_self v P
  have h2 : g * (v / P * P) ≤ g * v := Nat.mul_le_mul_left _ h1
  have h3 : (U / P + 1) * P ≤ g * (v / P) * P := Nat.mul_le_mul_right _ h
  have h4 := Nat.lt_div_mul_add (a := U) hP
  rw [Nat.add_mul, Nat.one_mul] at h3
  rw [← Nat.mul_assoc] at h2
  omega
/-- A guess that fits the leading digits is at most one too great. -/
theorem kn_high {U v P g B : Nat} (hP : 0 < P) (hv : 0 < v) (h : g * (v / P) ≤ U / P) (hg : g ≤ B) (hB : B * P ≤ v) : g ≤ U / v + 1 := by
  have h1 : v ≤ v / P * P + P := Nat.le_of_lt (Nat.lt_div_mul_add hP)
  have h2 : g * v ≤ g * (v / P * P + P) := Nat.mul_le_mul_left _ h1
  have h3 : g * (v / P) * P ≤ U / P * P := Nat.mul_le_mul_right _ h
  have h4 : U / P * P ≤ U := Nat.div_mul_le_self U P
  have h5 : g * P ≤ B * P := Nat.mul_le_mul_right _ hg
  rw [Nat.mul_add, ← Nat.mul_assoc] at h2
  have h6 : g * v ≤ U + v := by omega
  cases g with
  | zero => exact Nat.zero_le _
  | succ g =>
    rw [Nat.add_mul, Nat.one_mul] at h6
    have : g ≤ U / v := by
      rw [Nat.le_div_iff_mul_le hv]
      omega
    exact Nat.add_le_add_right this 1
/-- The first guess is not too small, and its rest is known. -/
theorem kn_first {U v W : Nat} (hW : 0 < W) (hv1 : 0 < v / W) (hv : 0 < v) : U / v ≤ U / W / (v / W) := by
  rw [Nat.le_div_iff_mul_le hv1, Nat.le_div_iff_mul_le hW]
  have h1 : U / v * v ≤ U := Nat.div_mul_le_self U v
  have h2 : U / v * (v / W * W) ≤ U / v * v := Nat.mul_le_mul_left _ (Nat.div_mul_le_self v W)
  rw [← Nat.mul_assoc] at h2
  omega
theorem kn_top {U v W B : Nat} (hW : 0 < W) (h : U < v * B) : U / W < (v / W + 1) * B := by
  rw [Nat.div_lt_iff_lt_mul hW]
  have h1 : v ≤ v / W * W + W := Nat.le_of_lt (Nat.lt_div_mul_add hW)
  have h2 : v * B ≤ (v / W * W + W) * B := Nat.mul_le_mul_right _ h1
  have e : (v / W + 1) * B * W = (v / W * W + W) * B := by
    rw [Nat.mul_right_comm, Nat.add_mul (v / W) 1 W, Nat.one_mul]
  omega

end Go.Proofs.Ytlhobedecoeohaa
