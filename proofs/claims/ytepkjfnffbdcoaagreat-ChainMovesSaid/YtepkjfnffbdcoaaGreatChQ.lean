/- Chains cut to a few states: what they are, and how long their cells. -/
import Derived.Test.YtepkjfnffbdcoaaGreatChP
set_option linter.unusedVariables false
set_option maxRecDepth 20000
set_option linter.unusedSimpArgs false
namespace Go.Proofs.YtepkjfnffbdcoaaGreat
open Go Go.Proofs.YtepkjfnffbdcoaaGreat.Lift
attribute [local irreducible] Lift.PCall Lift.HCall

/-! ### Common denominators -/
def HD (q : Rat) (D : Nat) : Prop := ∃ z : Int, q * ((D : Int) : Rat) = (z : Rat)
theorem HD.self (q : Rat) : HD q q.den := ⟨q.num, by
  have e : q = (q.num : Rat) / (q.den : Rat) := by rw [← Rat.mkRat_eq_div, Rat.mkRat_self]
  have hd : (q.den : Rat) ≠ 0 := by exact_mod_cast q.den_nz
  have e2 : ((q.den : Int) : Rat) = (q.den : Rat) := rfl
  rw [e2]
  grind⟩
theorem HD.add {p q : Rat} {D E : Nat} (hp : HD p D) (hq : HD q E) : HD (p + q) (D * E) := by
  obtain ⟨z, hz⟩ := hp
  obtain ⟨y, hy⟩ := hq
  refine ⟨z * E + y * D, ?_⟩
  have h1 : (((D * E : Nat) : Int) : Rat) = ((D : Int) : Rat) * ((E : Int) : Rat) := by rw [Int.natCast_mul, Rat.intCast_mul]
  have h2 : ((z * E + y * D : Int) : Rat) = (z : Rat) * ((E : Int) : Rat) + (y : Rat) * ((D : Int) : Rat) := by rw [Rat.intCast_add, Rat.intCast_mul, Rat.intCast_mul]
  rw [h1, h2, ← hz, ← hy]
  grind
theorem HD.one_sub {q : Rat} {D : Nat} (h : HD q D) : HD (1 - q) D := by
  obtain ⟨z, hz⟩ := h
  refine ⟨D - z, ?_⟩
  rw [Rat.intCast_sub, ← hz]
  grind
theorem HD.len {q : Rat} {D : Nat} (h : HD q D) (hD : D ≠ 0) (h0 : 0 ≤ q) (h1 : q ≤ 1) : rL q ≤ (digits D).length := by
  obtain ⟨z, hz⟩ := h
  have hD1 : (0 : Int) < (D : Int) := by omega
  have hD0 : (0 : Rat) < ((D : Int) : Rat) := by exact_mod_cast hD1
  have e : q = mkRat z D := by
    rw [Rat.mkRat_eq_div]
    have e2 : ((D : Int) : Rat) = (D : Rat) := rfl
    rw [e2] at hz hD0
    rw [← hz]
    grind
  have hz0 : 0 ≤ z := by
    have : (0 : Rat) ≤ (z : Rat) := by rw [← hz]; exact Rat.mul_nonneg h0 (Rat.le_of_lt hD0)
    exact_mod_cast this
  have hz1 : z ≤ D := by
    have : (z : Rat) ≤ ((D : Int) : Rat) := by
      rw [← hz]
      have := Rat.mul_le_mul_of_nonneg_right h1 (Rat.le_of_lt hD0)
      rwa [Rat.one_mul] at this
    exact_mod_cast this
  have hl : 1 ≤ (digits D).length := Nat.pos_of_ne_zero fun e => hD (digits_len_zero.1 e)
  rw [e]
  exact rL_mk _ _ _ (digits_len_mono (by omega)) (Nat.le_refl _) hl
theorem HD.sum {K : Nat} {f : Nat → Rat} : ∀ n, (∀ i, i < n → rL (f i) ≤ K) → ∃ D, D ≠ 0 ∧ HD (sumN n f) D ∧ (digits D).length ≤ n * K + 1 := by
  intro n
  induction n with
  | zero =>
    intro _
    refine ⟨1, by decide, ⟨0, ?_⟩, ?_⟩
    · show (0 : Rat) * _ = _
      rw [Rat.zero_mul]
      rfl
    · rw [show (1 : Nat) = 0 + 1 from rfl]
      exact Nat.le_trans (digits_length_le (k := 1) (by decide)) (by omega)
  | succ n ih =>
    intro h
    obtain ⟨D, h1, h2, h3⟩ := ih fun i hi => h i (by omega)
    have h4 : (digits (f n).den).length ≤ K := Nat.le_trans (Nat.le_max_right _ _) (h n (by omega))
    refine ⟨D * (f n).den, Nat.mul_ne_zero h1 (f n).den_nz, h2.add (HD.self _), ?_⟩
    have := digits_len_mul D (f n).den
    rw [Nat.succ_mul]
    omega

/-! ### The cut chain -/
theorem sumN_split (a b : Nat) (f : Nat → Rat) : sumN (a + b) f = sumN a f + sumN b fun i => f (a + i) := by
  induction b with
  | zero =>
    show _ = _ + 0
    rw [Rat.add_zero]
    rfl
  | succ b ih =>
    show sumN (a + b) f + f (a + b) = sumN a f + (sumN b _ + f (a + b))
    rw [ih]
    grind
/-- What is cut off a row. -/
def offR (n m k j : Nat) (A B : Mx) (i : Nat) : Rat := sumN (n - k) (fun c => A i (k + c)) + sumN (m - j) (fun c => B i (j + c))
def fewA (n m k j : Nat) (A B : Mx) : Mx := fun i c => if c = 0 then A i 0 + offR n m k j A B i else A i c
theorem few_sum {n m k j : Nat} {A B : Mx} (hk : 0 < k) (i : Nat) : sumN k (fewA n m k j A B i) = sumN k (A i) + offR n m k j A B i := by
  have key : ∀ t, sumN (t + 1) (fewA n m k j A B i) = sumN (t + 1) (A i) + offR n m k j A B i := by
    intro t
    induction t with
    | zero =>
      show 0 + fewA n m k j A B i 0 = 0 + A i 0 + _
      unfold fewA
      rw [if_pos rfl]
      grind
    | succ t ih =>
      have e : fewA n m k j A B i (t + 1) = A i (t + 1) := if_neg (by omega)
      show sumN (t + 1) (fewA n m k j A B i) + fewA n m k j A B i (t + 1) = (sumN (t + 1) (A i) + A i (t + 1)) + _
      rw [ih, e]
      grind
  obtain ⟨t, rfl⟩ : ∃ t, k = t + 1 := ⟨k - 1, by omega⟩
  exact key t
theorem few_isC {n m k j : Nat} {A B : Mx} (hC : isC n m A B = true) (hk : k ≤ n) (hj : j ≤ m) : isC k j (fewA n m k j A B) B = true := by
  have h := of_decide_eq_true hC
  refine decide_eq_true fun i hi => ?_
  obtain ⟨h1, h2, h3⟩ := h i (by omega)
  have e1 := sumN_split k (n - k) (A i)
  have e2 := sumN_split j (m - j) (B i)
  rw [show k + (n - k) = n by omega] at e1
  rw [show j + (m - j) = m by omega] at e2
  have ho : 0 ≤ offR n m k j A B i := by
    have a1 : 0 ≤ sumN (n - k) (fun c => A i (k + c)) := sumN_nonneg fun c hc => h1 _ (by omega)
    have a2 : 0 ≤ sumN (m - j) (fun c => B i (j + c)) := sumN_nonneg fun c hc => h2 _ (by omega)
    unfold offR
    grind
  refine ⟨fun c hc => ?_, fun c hc => h2 c (by omega), ?_⟩
  · unfold fewA
    split
    · have := h1 0 (by omega)
      grind
    · exact h1 c (by omega)
  · rw [few_sum (by omega)]
    unfold offR
    grind
theorem few_len {n m k j : Nat} {A B : Mx} (hC : isC n m A B = true) (hk : k ≤ n) (hj : j ≤ m) (hk8 : k ≤ 8) (hj5 : j ≤ 5) (hA : ∀ i c, i < n → c < n → rL (A i c) ≤ 3) (hB : ∀ i c, i < n → c < m → rL (B i c) ≤ 3) : ∀ i c, i < k → c < k → rL (fewA n m k j A B i c) ≤ 38 := by
  intro i c hi hc
  have h' := of_decide_eq_true (few_isC hC hk hj)
  obtain ⟨g1, g2, g3⟩ := h' i hi
  by_cases hc0 : c = 0
  · subst hc0
    obtain ⟨t, rfl⟩ : ∃ t, k = t + 1 := ⟨k - 1, by omega⟩
    have e1 := sumN_split 1 t (fewA n m (t + 1) j A B i)
    rw [Nat.add_comm 1 t] at e1
    have e2 : sumN 1 (fewA n m (t + 1) j A B i) = fewA n m (t + 1) j A B i 0 := by
      show 0 + _ = _
      rw [Rat.zero_add]
    have e3 : (sumN t fun c => fewA n m (t + 1) j A B i (1 + c)) = sumN t fun c => A i (1 + c) := sumN_congr fun c _ => if_neg (by omega)
    rw [e2, e3] at e1
    obtain ⟨D, d1, d2, d3⟩ := HD.sum (K := 3) (f := fun c => A i (1 + c)) t fun c hc => hA i (1 + c) (by omega) (by omega)
    obtain ⟨E, f1, f2, f3⟩ := HD.sum (K := 3) (f := fun c => B i c) j fun c hc => hB i c (by omega) (by omega)
    have hsum := (d2.add f2).one_sub
    have e4 : 1 - ((sumN t fun c => A i (1 + c)) + sumN j fun c => B i c) = fewA n m (t + 1) j A B i 0 := by
      have g3 : sumN (t + 1) (fewA n m (t + 1) j A B i) + (sumN j fun c => B i c) = 1 := g3
      grind
    rw [e4] at hsum
    have hle : fewA n m (t + 1) j A B i 0 ≤ 1 := by
      have a1 := le_sumN (k := 0) (by omega) (fun c hc => g1 c hc)
      have a2 : 0 ≤ sumN j (B i) := sumN_nonneg fun c hc => g2 c hc
      grind
    have := hsum.len (Nat.mul_ne_zero d1 f1) (g1 0 (by omega)) hle
    have hm := digits_len_mul D E
    omega
  · have e : fewA n m k j A B i c = A i c := if_neg hc0
    rw [e]
    exact Nat.le_trans (hA i c (by omega) (by omega)) (by decide)

end Go.Proofs.YtepkjfnffbdcoaaGreat
