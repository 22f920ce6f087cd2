/- Chains: the equations of the visits as the reference sets them up (plain). -/
import Derived.Test.YtepkjfnffbdcoaaGreatChV
import Derived.Test.YtepkjfnffbdcoaaGreatJB
set_option linter.unusedVariables false
set_option maxRecDepth 20000
set_option linter.unusedSimpArgs false
namespace Go.Proofs.YtepkjfnffbdcoaaGreat
open Go Go.Proofs.YtepkjfnffbdcoaaGreat.Lift
attribute [local irreducible] Lift.PCall Lift.HCall
noncomputable def metB (n : Nat) (A : Mx) (v : Nat → Rat) (k : Nat) : Bool := @decide (∃ i, i < n ∧ 0 < v i ∧ To n A i k) (Classical.propDecidable _)
theorem metB_iff {n : Nat} {A : Mx} {v : Nat → Rat} {k : Nat} : metB n A v k = true ↔ ∃ i, i < n ∧ 0 < v i ∧ To n A i k := by
 unfold metB
 exact @decide_eq_true_iff _ (Classical.propDecidable _)
theorem Chn.IsVis.unique {c : Chn} (hc : c.Ok) {v x y : Nat → Rat} (h : c.IsVis v x) (h' : c.IsVis v y) : ∀ i, i < c.n → x i = y i := fun i hi => by
 have key : ∀ x y : Nat → Rat, c.IsVis v x → c.IsVis v y → 0 ≤ x i - y i := fun x y h h' => by
  have hd : c.IsVis (fun _ => 0) (fun i => x i - y i) := ⟨fun i hi hr => by rw [h.z i hi hr, h'.z i hi hr]; grind, fun i hi hr => by
   have e : (sumN c.n fun k => (x k - y k) * c.M k i) = (sumN c.n fun k => x k * c.M k i) - sumN c.n fun k => y k * c.M k i := by
    rw [← sumN_sub]
    exact sumN_congr fun k _ => by grind
   rw [e, h.eq i hi hr, h'.eq i hi hr]
   grind⟩
  exact hd.nonneg hc (fun _ _ => Rat.le_refl) i hi
 have h1 := key x y h h'
 have h2 := key y x h' h
 grind
theorem met_rch {n m : Nat} {A B X : Mx} {v : Nat → Rat} (hC : isC n m A B = true) (hX : (chn n m A B).IsEach X) (hv : ∀ i, i < n → 0 ≤ v i) (h0 : (chn n m A B).never X v = 0) {k : Nat} (hk : k < n) (h : metB n A v k = true) : (chn n m A B).Rch k := by
 have hOk := isC_ok hC
 obtain ⟨i, hi, hvi, ht⟩ := metB_iff.1 h
 have row : ∀ i, i < n → sumN m (X i) ≤ 1 := fun i hi => (hX.row hOk i hi).1
 have h1 : v i * (1 - sumN m (X i)) = 0 := by
  rw [(chn n m A B).never_eq] at h0
  exact sumN_zero_inv (n := n) (f := fun i => v i * (1 - sumN m (X i))) hi (fun j hj => Rat.mul_nonneg (hv j hj) (by have := row j hj; grind)) h0
 have h2 : sumN m (X i) = 1 := by
  rcases Rat.mul_eq_zero.1 h1 with e | e <;> grind
 have key : ∀ k, To n A i k → k < n ∧ sumN m (X k) = 1 := fun k ht => by
  induction ht with
  | self hi => exact ⟨hi, h2⟩
  | move _ hb hab ih =>
   rename_i a b _
   refine ⟨hb, ?_⟩
   have hl := hX.lost hOk (i := a) ih.1
   change 1 - sumN m (X a) = sumN n fun k => A a k * (1 - sumN m (X k)) at hl
   rw [ih.2] at hl
   have h3 := sumN_zero_inv (n := n) (f := fun k => A a k * (1 - sumN m (X k))) hb (fun j hj => Rat.mul_nonneg (hOk.M0 a j ih.1 hj) (by have := row j hj; grind)) (by rw [← hl]; grind)
   have h3 : A a b * (1 - sumN m (X b)) = 0 := h3
   rcases Rat.mul_eq_zero.1 h3 with e | e <;> grind
 obtain ⟨hk, hs⟩ := key k ht
 apply Classical.byContradiction
 intro hr
 have : sumN m (X k) = 0 := sumN_eq_zero fun j hj => hX.z k j hk hj hr
 rw [this] at hs
 exact absurd hs (by decide)
def eqV (r : Nat → Bool) (A : Mx) (i0 k0 : Nat) : Mx := eqA r (fun i k => A k i) i0 k0
def eqW (r : Nat → Bool) (v : Nat → Rat) (i0 : Nat) : Mx := fun i _ => if i < i0 ∧ r i = true then v i else 0
theorem met_vis {n m : Nat} {A B X : Mx} {v x : Nat → Rat} (hC : isC n m A B = true) (hX : (chn n m A B).IsEach X) (hv : ∀ i, i < n → 0 ≤ v i) (h0 : (chn n m A B).never X v = 0) (w : Nat → Rat) (hw : ∀ i, i < n → metB n A v i = false → w i = 0)
  (hz : ∀ i, i < n → metB n A v i = false → x i = 0) (he : ∀ i, i < n → metB n A v i = true → x i = w i + sumN n fun k => x k * A k i) : (chn n m A B).IsVis w x := by
 have hOk := isC_ok hC
 refine ⟨fun i hi hr => hz i hi ?_, fun i hi hr => ?_⟩
 ·cases hb : metB n A v i
  ·rfl
  ·exact absurd (met_rch hC hX hv h0 hi hb) hr
 ·cases hb : metB n A v i
  ·rw [hz i hi hb, hw i hi hb, sumN_eq_zero]
   ·grind
   ·intro k hk
    cases hk' : metB n A v k
    ·rw [hz k hk hk', Rat.zero_mul]
    ·have : A k i = 0 := by
      have h1 : 0 ≤ A k i := hOk.M0 k i hk hi
      have h2 : ¬ 0 < A k i := fun hp => by
       obtain ⟨j, hj, hvj, ht⟩ := metB_iff.1 hk'
       have : metB n A v i = true := metB_iff.2 ⟨j, hj, hvj, .move ht hi hp⟩
       rw [hb] at this
       cases this
      grind
     show x k * A k i = 0
     rw [this, Rat.mul_zero]
  ·exact he i hi hb
theorem eqV_zero {n : Nat} {r : Nat → Bool} {A : Mx} {y : Nat → Rat} {w : Rat} {k : Nat} (hk : k < n) (hr : r k = false) (h : (sumN n fun j => eqV r A n 0 k j * y j) = w) : y k = w := by
 rw [sumN_congr (g := fun j => dlt1 k j * y j) (fun j hj => by unfold eqV eqA; rw [if_neg (fun h => by rw [hr] at h; cases h.2.1)])] at h
 rw [sumN_single hk fun j hj hne => by unfold dlt1; rw [if_neg (fun e => hne e.symm), Rat.zero_mul]] at h
 unfold dlt1 at h
 rwa [if_pos rfl, Rat.one_mul] at h
theorem eqV_met {n : Nat} {r : Nat → Bool} {A : Mx} {y : Nat → Rat} {w : Rat} {i : Nat} (hi : i < n) (hr : r i = true) (hz : ∀ k, k < n → r k = false → y k = 0) (h : (sumN n fun j => eqV r A n 0 i j * y j) = w) : y i = w + sumN n fun k => y k * A k i := by
 unfold eqV at h
 rw [eq_rowA (m := 0) (A := fun i k => A k i) i hi hz, if_pos hr] at h
 have e : (sumN n fun k => (fun i k => A k i) i k * y k) = sumN n fun k => y k * A k i := sumN_congr fun k _ => Rat.mul_comm ..
 rw [e] at h
 grind
theorem eqV_nonsing {n m : Nat} {A B X : Mx} {v : Nat → Rat} (hC : isC n m A B = true) (hX : (chn n m A B).IsEach X) (hv : ∀ i, i < n → 0 ≤ v i) (h0 : (chn n m A B).never X v = 0) : NonSing n (eqV (metB n A v) A n 0) := by
 intro y hy
 have hz : ∀ k, k < n → metB n A v k = false → y k = 0 := fun k hk hr => eqV_zero hk hr (hy k hk)
 have h1 := met_vis hC hX hv h0 (fun _ => 0) (fun _ _ _ => rfl) hz fun i hi hr => eqV_met hi hr hz (hy i hi)
 have h2 : (chn n m A B).IsVis (fun _ => 0) (fun _ => 0) := ⟨fun _ _ _ => rfl, fun i hi hr => by
  rw [sumN_eq_zero fun k hk => Rat.zero_mul _]
  grind⟩
 exact h1.unique (isC_ok hC) h2
theorem met_of {n : Nat} {A : Mx} {v : Nat → Rat} (hv : ∀ i, i < n → 0 ≤ v i) {i : Nat} (hi : i < n) (h : metB n A v i = false) : v i = 0 := by
 have h1 : ¬ 0 < v i := fun hp => by
  have : metB n A v i = true := metB_iff.2 ⟨i, hi, hp, .self hi⟩
  rw [h] at this
  cases this
 have := hv i hi
 grind
theorem eqV_sol {n m L : Nat} {A B X : Mx} {v x : Nat → Rat} (hC : isC n m A B = true) (hX : (chn n m A B).IsEach X) (hv : ∀ i, i < n → 0 ≤ v i) (h0 : (chn n m A B).never X v = 0) (hA : ∀ i k, i < n → k < n → rL (A i k) ≤ L) (hvL : ∀ i, i < n → rL (v i) ≤ L) (hx : (chn n m A B).IsVis v x) :
  ∀ i c, i < n → c < 1 → (sumN n fun j => eqV (metB n A v) A n 0 i j * (fun j _ => x j : Mx) j c) = eqW (metB n A v) v n i c := by
 have hN := eqV_nonsing hC hX hv h0
 have hl : ∀ i j, i < n → j < n → rL (eqV (metB n A v) A n 0 i j) ≤ L + 2 := fun i j hi hj => eqA_len (fun i k hi hk => hA k i hk hi) i j hi hj
 have hb : ∀ i j, i < n → j < 1 → rL (eqW (metB n A v) v n i j) ≤ L + 2 := fun i j hi hj => by
  unfold eqW
  split
  ·have := hvL i hi
   omega
  ·have : rL 0 ≤ 1 := by decide +kernel
   omega
 obtain ⟨_, hs, _⟩ := fin_spec (c := 1) hN hl hb (by omega)
 obtain ⟨z, hz⟩ : ∃ z : Nat → Rat, z = fun i => solX n (eqV (metB n A v) A n 0) (eqW (metB n A v) v n) i 0 := ⟨_, rfl⟩
 have hs' : ∀ i, i < n → (sumN n fun j => eqV (metB n A v) A n 0 i j * z j) = eqW (metB n A v) v n i 0 := fun i hi => by rw [hz]; exact hs i 0 hi (by decide)
 have hzz : ∀ k, k < n → metB n A v k = false → z k = 0 := fun k hk hr => by
  have := eqV_zero hk hr (hs' k hk)
  rw [this]
  exact if_neg (fun h => by rw [hr] at h; cases h.2)
 have hvis := met_vis hC hX hv h0 v (fun i hi hr => met_of hv hi hr) hzz fun i hi hr => by
  have := eqV_met hi hr hzz (hs' i hi)
  rw [this]
  unfold eqW
  rw [if_pos ⟨hi, hr⟩]
 have heq := hvis.unique (isC_ok hC) hx
 intro i c hi hc
 obtain rfl : c = 0 := by omega
 rw [← hs' i hi]
 exact sumN_congr fun j hj => by rw [heq j hj]
end Go.Proofs.YtepkjfnffbdcoaaGreat
