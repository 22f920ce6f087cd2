/- Chains: expected visits. -/
import Derived.Test.YteidabibgjokkaaGreatDoorHF
import Derived.Test.YteidabibgjokkaaGreatDoorHL
set_option linter.unusedVariables false
set_option maxRecDepth 20000
set_option linter.unusedSimpArgs false
namespace Go.Proofs.YteidabibgjokkaaGreatDoor
open Go Go.Proofs.YteidabibgjokkaaGreatDoor.Lift
attribute [local irreducible] Lift.PCall Lift.HCall
/-- The expected visits of the states that reach an exit. -/
structure Chn.IsVis (c : Chn) (v x : Nat → Rat) : Prop where
  z : ∀ i, i < c.n → ¬ c.Rch i → x i = 0
  eq : ∀ i, i < c.n → c.Rch i → x i = v i + sumN c.n fun k => x k * c.M k i
/-! ### What Visits computes -/
theorem pk_sumT {n : Nat} {f : Nat → Bool} {A : Mx} {i : Nat} (hi : i < (pick n f).length) (y : Nat → Rat) : (sumN (pick n f).length fun k => pkM true (pick n f) A i k * y k) = sumN n fun k => lift n f y k * A k ((pick n f).getD i 0) := by
  have := sumN_pick f (fun j k => y j * A k ((pick n f).getD i 0)) n
  have e : (sumN n fun k => lift n f y k * A k ((pick n f).getD i 0)) = sumN n fun k => if f k = true then y (pick k f).length * A k ((pick n f).getD i 0) else 0 := by
    refine sumN_congr fun k _ => ?_
    unfold lift
    split
    · rfl
    · exact Rat.zero_mul _
  rw [e, this]
  refine sumN_congr fun k _ => ?_
  unfold pkM
  rw [if_pos rfl]
  exact Rat.mul_comm _ _
theorem vis_sys {n m L : Nat} {A B : Mx} {v : Nat → Rat} (hC : isC n m A B = true) (hA : ∀ i k, i < n → k < n → rL (A i k) ≤ L) (hvL : ∀ i, i < n → rL (v i) ≤ L + 1) (hL1 : 1 ≤ L) : ∀ i, i < (pick n (rchB n m A B)).length →
    (sumN (pick n (rchB n m A B)).length fun k => subM true (pick n (rchB n m A B)) A i k * solX (pick n (rchB n m A B)).length (subM true (pick n (rchB n m A B)) A) (fun i _ => v ((pick n (rchB n m A B)).getD i 0)) k 0) = v ((pick n (rchB n m A B)).getD i 0) := by
  obtain ⟨_, h2, _⟩ := fin_spec (n := (pick n (rchB n m A B)).length) (c := 1) (L := L + 1) (B := fun i _ => v ((pick n (rchB n m A B)).getD i 0)) (nonsing_turn hC hA hL1) (fun i j hi hj => subM_len hA hL1 (pick_get hi).1 (pick_get hj).1) (fun i j hi hj => hvL _ (pick_get hi).1) (by omega)
  exact fun i hi => h2 i 0 hi (by decide)
theorem vis_is {n m L : Nat} {A B : Mx} {v : Nat → Rat} (hC : isC n m A B = true) (hA : ∀ i k, i < n → k < n → rL (A i k) ≤ L) (hvL : ∀ i, i < n → rL (v i) ≤ L + 1) (hL1 : 1 ≤ L) : (chn n m A B).IsVis v (visV n m A B v) := by
  refine ⟨fun i hi hr => if_neg fun h => hr (rchB_iff.1 h), fun i hi hr => ?_⟩
  have hi : i < n := hi
  have hf := rchB_iff.2 hr
  obtain ⟨h3, h4⟩ := pick_at hi hf
  have h5 := vis_sys hC hA hvL hL1 _ h3
  rw [subM_sum h3, pk_sumT h3, h4] at h5
  have e1 : visV n m A B v i = solX (pick n (rchB n m A B)).length (subM true (pick n (rchB n m A B)) A) (fun i _ => v ((pick n (rchB n m A B)).getD i 0)) (pick i (rchB n m A B)).length 0 := if_pos hf
  have e2 : (sumN n fun k => visV n m A B v k * A k i) = sumN n fun k => lift n (rchB n m A B) (fun k => solX (pick n (rchB n m A B)).length (subM true (pick n (rchB n m A B)) A) (fun i _ => v ((pick n (rchB n m A B)).getD i 0)) k 0) k * A k i := rfl
  show visV n m A B v i = v i + sumN n fun k => visV n m A B v k * A k i
  rw [e1, e2]
  grind
theorem vis_small {n m : Nat} {A B : Mx} {v : Nat → Rat} (hn : n ≤ 8) (hC : isC n m A B = true) (hA : ∀ i k, i < n → k < n → rL (A i k) ≤ 38) (hvL : ∀ i, i < n → rL (v i) ≤ 3) : ∀ i, i < n → rL (visV n m A B v i) ≤ 100000 := by
  intro i hi
  unfold visV
  split
  · rename_i hf
    have hA' : ∀ i j, i < (pick n (rchB n m A B)).length → j < (pick n (rchB n m A B)).length → rL (subM true (pick n (rchB n m A B)) A i j) ≤ 39 := fun i j hi hj => subM_len hA (by decide) (pick_get hi).1 (pick_get hj).1
    exact sol_small8 (Nat.le_trans (pick_le n _) hn) (nonsing_turn hC hA (by decide)) hA' (fun i hi => Nat.le_trans (hvL _ (pick_get hi).1) (by decide)) (x := fun k => solX _ _ _ k 0) (fun i hi => vis_sys hC hA (fun i hi => Nat.le_trans (hvL i hi) (by decide)) (by decide) i hi) _ (pick_at hi hf).1
  · exact Nat.le_trans rL0 (by decide)
end Go.Proofs.YteidabibgjokkaaGreatDoor
