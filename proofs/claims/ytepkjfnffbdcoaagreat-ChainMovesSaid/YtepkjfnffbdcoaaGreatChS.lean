/- Chains: how long the weights after some moves are, by common denominators. -/
import Derived.Test.YtepkjfnffbdcoaaGreatLawC4
set_option linter.unusedVariables false
set_option maxRecDepth 20000
set_option linter.unusedSimpArgs false
namespace Go.Proofs.YtepkjfnffbdcoaaGreat
open Go Go.Proofs.YtepkjfnffbdcoaaGreat.Lift
attribute [local irreducible] Lift.PCall Lift.HCall

theorem HD.mulr {q : Rat} {D : Nat} (h : HD q D) (E : Nat) : HD q (D * E) := by
  obtain ⟨z, hz⟩ := h
  refine ⟨z * E, ?_⟩
  rw [Int.natCast_mul, Rat.intCast_mul, Rat.intCast_mul, ← hz]
  grind
theorem HD.mull {q : Rat} {D : Nat} (h : HD q D) (E : Nat) : HD q (E * D) := by rw [Nat.mul_comm]; exact h.mulr E
theorem HD.mul {p q : Rat} {D E : Nat} (hp : HD p D) (hq : HD q E) : HD (p * q) (D * E) := by
  obtain ⟨z, hz⟩ := hp
  obtain ⟨y, hy⟩ := hq
  refine ⟨z * y, ?_⟩
  rw [Int.natCast_mul, Rat.intCast_mul, Rat.intCast_mul, ← hz, ← hy]
  grind
theorem HD.adds {p q : Rat} {D : Nat} (hp : HD p D) (hq : HD q D) : HD (p + q) D := by
  obtain ⟨z, hz⟩ := hp
  obtain ⟨y, hy⟩ := hq
  refine ⟨z + y, ?_⟩
  rw [Rat.intCast_add, ← hz, ← hy]
  grind
theorem HD.zero (D : Nat) : HD 0 D := ⟨0, by rw [Rat.zero_mul]; rfl⟩
theorem HD.sums {D : Nat} {f : Nat → Rat} : ∀ n, (∀ i, i < n → HD (f i) D) → HD (sumN n f) D := by
  intro n
  induction n with
  | zero => intro _; exact HD.zero D
  | succ n ih => intro h; exact (ih fun i hi => h i (by omega)).adds (h n (by omega))
theorem HD.common {K : Nat} {f : Nat → Rat} : ∀ n, (∀ i, i < n → rL (f i) ≤ K) → ∃ D, D ≠ 0 ∧ (∀ i, i < n → HD (f i) D) ∧ (digits D).length ≤ n * K + 1 := by
  intro n
  induction n with
  | zero =>
    intro _
    refine ⟨1, by decide, fun i hi => absurd hi (Nat.not_lt_zero _), ?_⟩
    rw [show (1 : Nat) = 0 + 1 from rfl]
    exact Nat.le_trans (digits_length_le (k := 1) (by decide)) (by omega)
  | succ n ih =>
    intro h
    obtain ⟨D, h1, h2, h3⟩ := ih fun i hi => h i (by omega)
    have h4 : (digits (f n).den).length ≤ K := Nat.le_trans (Nat.le_max_right _ _) (h n (by omega))
    refine ⟨D * (f n).den, Nat.mul_ne_zero h1 (f n).den_nz, fun i hi => ?_, ?_⟩
    · by_cases e : i = n
      · subst e
        exact (HD.self _).mull D
      · exact (h2 i (by omega)).mulr _
    · have := digits_len_mul D (f n).den
      rw [Nat.succ_mul]
      omega
theorem HD.matrix {K m : Nat} {A : Mx} : ∀ n, (∀ i k, i < n → k < m → rL (A i k) ≤ K) → ∃ D, D ≠ 0 ∧ (∀ i k, i < n → k < m → HD (A i k) D) ∧ (digits D).length ≤ n * (m * K + 1) + 1 := by
  intro n
  induction n with
  | zero =>
    intro _
    refine ⟨1, by decide, fun i k hi => absurd hi (Nat.not_lt_zero _), ?_⟩
    rw [show (1 : Nat) = 0 + 1 from rfl]
    exact Nat.le_trans (digits_length_le (k := 1) (by decide)) (by omega)
  | succ n ih =>
    intro h
    obtain ⟨D, h1, h2, h3⟩ := ih fun i k hi => h i k (by omega)
    obtain ⟨E, f1, f2, f3⟩ := HD.common m fun k hk => h n k (by omega) hk
    refine ⟨D * E, Nat.mul_ne_zero h1 f1, fun i k hi hk => ?_, ?_⟩
    · by_cases e : i = n
      · subst e
        exact (f2 k hk).mull D
      · exact (h2 i k (by omega) hk).mulr _
    · have := digits_len_mul D E
      rw [Nat.succ_mul]
      omega
theorem HD.len2 {q : Rat} {D N : Nat} (h : HD q D) (hD : D ≠ 0) (hN : N ≠ 0) (h0 : 0 ≤ q) (h1 : q ≤ ((N : Int) : Rat)) : rL q ≤ (digits N).length + (digits D).length := by
  obtain ⟨z, hz⟩ := h
  have hD1 : (0 : Int) < (D : Int) := by omega
  have hD0 : (0 : Rat) < ((D : Int) : Rat) := by exact_mod_cast hD1
  have e : q = mkRat z D := by
    rw [Rat.mkRat_eq_div]
    have e2 : ((D : Int) : Rat) = (D : Rat) := rfl
    rw [e2] at hz hD0
    rw [← hz]
    grind
  have hz0 : 0 ≤ z := by
    have : (0 : Rat) ≤ (z : Rat) := by rw [← hz]; exact Rat.mul_nonneg h0 (Rat.le_of_lt hD0)
    exact_mod_cast this
  have hz1 : z ≤ ((N * D : Nat) : Int) := by
    have : (z : Rat) ≤ (((N * D : Nat) : Int) : Rat) := by
      rw [← hz, Int.natCast_mul, Rat.intCast_mul]
      exact Rat.mul_le_mul_of_nonneg_right h1 (Rat.le_of_lt hD0)
    exact_mod_cast this
  have hl : 1 ≤ (digits D).length := Nat.pos_of_ne_zero fun e => hD (digits_len_zero.1 e)
  have hm := digits_len_mul N D
  rw [e]
  exact rL_mk _ _ _ (Nat.le_trans (digits_len_mono (n := N * D) (by omega)) hm) (by omega) (by omega)
/-- The weights after some moves: a common denominator. -/
theorem atC_HD {n : Nat} {A : Mx} {v : Nat → Rat} {E P : Nat} (hv : ∀ i, i < n → HD (v i) E) (hA : ∀ i k, i < n → k < n → HD (A i k) P) : ∀ t i, i < n → HD (atC n A v t i) (E * P ^ t) := by
  intro t
  induction t with
  | zero =>
    intro i hi
    rw [Nat.pow_zero, Nat.mul_one]
    exact hv i hi
  | succ t ih =>
    intro k hk
    rw [Nat.pow_succ, ← Nat.mul_assoc]
    exact HD.sums n fun i hi => (ih i hi).mul (hA i k hi hk)
theorem outC_HD {n m : Nat} {A B : Mx} {v : Nat → Rat} {E P : Nat} (hv : ∀ i, i < n → HD (v i) E) (hA : ∀ i k, i < n → k < n → HD (A i k) P) (hB : ∀ i k, i < n → k < m → HD (B i k) P) : ∀ t k, k < m → HD (outC n A B v t k) (E * P ^ t) := by
  intro t
  induction t with
  | zero =>
    intro k _
    exact HD.zero _
  | succ t ih =>
    intro k hk
    rw [Nat.pow_succ, ← Nat.mul_assoc]
    exact ((ih k hk).mulr P).adds (HD.sums n fun i hi => (atC_HD hv hA t i hi).mul (hB i k hi hk))

theorem at_atC (n m : Nat) (A B : Mx) (v : Nat → Rat) : ∀ t, (chn n m A B).at v t = atC n A v t ∧ (chn n m A B).outs v t = outC n A B v t := by
  intro t
  induction t with
  | zero => exact ⟨rfl, rfl⟩
  | succ t ih =>
    refine ⟨?_, ?_⟩
    · show (chn n m A B).step ((chn n m A B).at v t) = thr n (atC n A v t) A
      rw [ih.1]
      rfl
    · show (fun k => (chn n m A B).outs v t k + (chn n m A B).ended ((chn n m A B).at v t) k) = fun k => outC n A B v t k + thr n (atC n A v t) B k
      rw [ih.1, ih.2]
      rfl
theorem outC_nonneg {n m : Nat} {A B : Mx} {v : Nat → Rat} (hC : isC n m A B = true) (hv : ∀ i, i < n → 0 ≤ v i) : ∀ t k, k < m → 0 ≤ outC n A B v t k := by
  intro t
  have hOk := isC_ok hC
  induction t with
  | zero => intro k _; show (0 : Rat) ≤ 0; exact Rat.le_refl
  | succ t ih =>
    intro k hk
    have h1 := ih k hk
    have h2 : 0 ≤ thr n (atC n A v t) B k := sumN_nonneg fun i hi => by
      have h3 := Chn.at_nonneg hOk hv t i hi
      rw [(at_atC n m A B v t).1] at h3
      exact Rat.mul_nonneg h3 (hOk.E0 i k hi hk)
    show 0 ≤ outC n A B v t k + thr n (atC n A v t) B k
    grind
theorem le_pow3 {q : Rat} (h0 : 0 ≤ q) (h : rL q ≤ 3) : q ≤ ((79228162514264337593543950336 : Int) : Rat) := by
  obtain ⟨z, hz⟩ := HD.self q
  have hd : (1 : Int) ≤ (q.den : Int) := by have := q.den_pos; omega
  have hd1 : (1 : Rat) ≤ ((q.den : Int) : Rat) := by exact_mod_cast hd
  have h1 : q * 1 ≤ q * ((q.den : Int) : Rat) := Rat.mul_le_mul_of_nonneg_left hd1 h0
  rw [Rat.mul_one, hz] at h1
  have e : q.num = z := by
    have e1 : q * ((q.den : Int) : Rat) = (q.num : Rat) := by
      have e : q = (q.num : Rat) / (q.den : Rat) := by rw [← Rat.mkRat_eq_div, Rat.mkRat_self]
      have hd : (q.den : Rat) ≠ 0 := by exact_mod_cast q.den_nz
      have e2 : ((q.den : Int) : Rat) = (q.den : Rat) := rfl
      rw [e2]
      grind
    rw [hz] at e1
    exact_mod_cast e1.symm
  have hl : (digits q.num.natAbs).length ≤ 3 := Nat.le_trans (Nat.le_max_left _ _) h
  have hv := val_lt (Dg_digits q.num.natAbs)
  rw [val_digits] at hv
  have hp : (4294967296 : Nat) ^ (digits q.num.natAbs).length ≤ 4294967296 ^ 3 := Nat.pow_le_pow_right (by omega) hl
  have hz2 : z ≤ 79228162514264337593543950336 := by
    have : q.num.natAbs < 79228162514264337593543950336 := Nat.lt_of_lt_of_le hv (Nat.le_trans hp (by decide))
    omega
  have : (z : Rat) ≤ ((79228162514264337593543950336 : Int) : Rat) := Rat.intCast_le_intCast.2 hz2
  exact Rat.le_trans h1 this
theorem move_len {n m : Nat} {A B : Mx} (hC : isC n m A B = true) (hn : n ≤ 8) (hm : m ≤ 5) (hA : ∀ i k, i < n → k < n → rL (A i k) ≤ 38) (hB : ∀ i k, i < n → k < m → rL (B i k) ≤ 38) {v : Nat → Rat} (hv : ∀ i, i < n → 0 ≤ v i) (hvL : ∀ i, i < n → rL (v i) ≤ 3) {t : Nat} (ht : t ≤ 14) :
    (∀ i, i < n → rL (atC n A v t i) ≤ 60000) ∧ ∀ k, k < m → rL (outC n A B v t k) ≤ 60000 := by
  have hOk := isC_ok hC
  obtain ⟨E, e1, e2, e3⟩ := HD.common n hvL
  obtain ⟨P, p1, p2, p3⟩ := HD.matrix (A := A) (m := n) n hA
  obtain ⟨Q, q1, q2, q3⟩ := HD.matrix (A := B) (m := m) n hB
  have pA : ∀ i k, i < n → k < n → HD (A i k) (P * Q) := fun i k hi hk => (p2 i k hi hk).mulr Q
  have pB : ∀ i k, i < n → k < m → HD (B i k) (P * Q) := fun i k hi hk => (q2 i k hi hk).mull P
  have b1 : n * (n * 38 + 1) ≤ 8 * (8 * 38 + 1) := Nat.mul_le_mul hn (by omega)
  have b2 : n * (m * 38 + 1) ≤ 8 * (5 * 38 + 1) := Nat.mul_le_mul hn (by omega)
  have b3 := digits_len_mul P Q
  have hpow : ∀ t, (digits ((P * Q) ^ t)).length ≤ t * (digits (P * Q)).length + 1 := by
    intro t
    induction t with
    | zero =>
      rw [Nat.pow_zero, show (1 : Nat) = 0 + 1 from rfl]
      exact Nat.le_trans (digits_length_le (k := 1) (by decide)) (by omega)
    | succ t ih =>
      have := digits_len_mul ((P * Q) ^ t) (P * Q)
      rw [Nat.pow_succ, Nat.succ_mul]
      omega
  have b4 := hpow t
  have b5 := digits_len_mul E ((P * Q) ^ t)
  have b6 : t * (digits (P * Q)).length ≤ 14 * 4000 := Nat.mul_le_mul ht (by omega)
  have hD : E * (P * Q) ^ t ≠ 0 := Nat.mul_ne_zero e1 (Nat.ne_of_gt (Nat.pow_pos (Nat.pos_of_ne_zero (Nat.mul_ne_zero p1 q1))))
  have hN : (digits (8 * 79228162514264337593543950336)).length ≤ 4 := digits_length_le (k := 4) (by decide)
  have htot := Chn.total hOk v t
  rw [(at_atC n m A B v t).1, (at_atC n m A B v t).2] at htot
  have htot : sumN n (atC n A v t) + sumN m (outC n A B v t) = sumN n v := htot
  have h0 : ∀ i, i < n → 0 ≤ atC n A v t i := fun i hi => by
    have h3 := Chn.at_nonneg hOk hv t i hi
    rwa [(at_atC n m A B v t).1] at h3
  have ho0 := outC_nonneg hC hv t
  have hS : sumN n v ≤ (((8 * 79228162514264337593543950336 : Nat) : Int) : Rat) := by
    have key : ∀ r, r ≤ n → sumN r v ≤ (((r * 79228162514264337593543950336 : Nat) : Int) : Rat) := by
      intro r
      induction r with
      | zero => intro _; exact Rat.le_refl
      | succ r ih =>
        intro hr
        have h1 := ih (by omega)
        have h2 := le_pow3 (hv r (by omega)) (hvL r (by omega))
        have e : (((r + 1) * 79228162514264337593543950336 : Nat) : Int) = ((r * 79228162514264337593543950336 : Nat) : Int) + 79228162514264337593543950336 := by omega
        rw [sumN_succ, e, Rat.intCast_add]
        grind
    refine Rat.le_trans (key n (Nat.le_refl _)) ?_
    have : ((n * 79228162514264337593543950336 : Nat) : Int) ≤ ((8 * 79228162514264337593543950336 : Nat) : Int) := by omega
    exact Rat.intCast_le_intCast.2 this
  have s1 : 0 ≤ sumN m (outC n A B v t) := sumN_nonneg ho0
  have s2 : 0 ≤ sumN n (atC n A v t) := sumN_nonneg h0
  refine ⟨fun i hi => ?_, fun k hk => ?_⟩
  · have h1 := le_sumN hi h0
    have := (atC_HD e2 pA t i hi).len2 hD (N := 8 * 79228162514264337593543950336) (by decide) (h0 i hi) (Rat.le_trans (by grind) hS)
    omega
  · have h1 := le_sumN hk ho0
    have := (outC_HD e2 pA pB t k hk).len2 hD (N := 8 * 79228162514264337593543950336) (by decide) (ho0 k hk) (Rat.le_trans (by grind) hS)
    omega

end Go.Proofs.YtepkjfnffbdcoaaGreat
