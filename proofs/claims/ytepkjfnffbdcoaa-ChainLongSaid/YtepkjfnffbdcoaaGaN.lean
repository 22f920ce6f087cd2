/- Elimination as a whole: what is left when the program's steps are done, and how long the numbers are. -/
import Derived.Test.YtepkjfnffbdcoaaHK
set_option linter.unusedVariables false
set_option maxRecDepth 20000
set_option linter.unusedSimpArgs false
namespace Go.Proofs.Ytepkjfnffbdcoaa
open Go Go.Proofs.Ytepkjfnffbdcoaa.Lift
attribute [local irreducible] Lift.PCall Lift.HCall

def clrTo (A : Mx) (c : Nat) : Nat → Mx
  | 0 => A
  | t + 1 => clearM (clrTo A c t) c (c + 1 + t) (clrTo A c t (c + 1 + t) c / clrTo A c t c c)
def swapIf (A : Mx) (p c : Nat) : Mx := if p = c then A else swapM A p c
def elim (n : Nat) (A : Mx) : Nat → Mx × Bool
  | 0 => (A, false)
  | c + 1 => (clrTo (swapIf (elim n A c).1 (pivI n (elim n A c).1 c c).toNat c) c (n - (c + 1)), if (pivI n (elim n A c).1 c c).toNat = c then (elim n A c).2 else !(elim n A c).2)

theorem swapM_at (A : Mx) (p r i j : Nat) : swapM A p r i j = if i = p then A r j else if i = r then A p j else A i j := by
  unfold swapM
  by_cases h1 : i = p
  · rw [if_pos h1, if_pos h1]
  · rw [if_neg h1, if_neg h1]
    by_cases h2 : i = r
    · rw [if_pos h2, if_pos h2]
    · rw [if_neg h2, if_neg h2]
theorem RowEq.swapIf {n : Nat} (A : Mx) {p c : Nat} (hp : p < n) (hc : c < n) : RowEq n A (swapIf A p c) := by
  unfold Go.Proofs.Ytepkjfnffbdcoaa.swapIf
  split
  · exact RowEq.refl _ _
  · exact RowEq.swap A hp hc
theorem swapIf_piv (A : Mx) (p c : Nat) : swapIf A p c c = A p := by
  unfold swapIf
  split
  · rename_i e; rw [e]
  · rename_i e
    unfold swapM
    rw [if_neg (fun h => e h.symm), if_pos rfl]
/-- What clearing has done after t rows. -/
theorem clrTo_spec {A : Mx} {c : Nat} (h0 : A c c ≠ 0) : ∀ t, (∀ i, (i ≤ c ∨ c + t < i) → clrTo A c t i = A i) ∧ (∀ i, c < i → i ≤ c + t → clrTo A c t i = fun j => A i j - A i c / A c c * A c j) := by
  intro t
  induction t with
  | zero => exact ⟨fun _ _ => rfl, fun i h1 h2 => by omega⟩
  | succ t ih =>
    obtain ⟨h1, h2⟩ := ih
    have ec : clrTo A c t c = A c := h1 c (.inl (Nat.le_refl _))
    have et : clrTo A c t (c + 1 + t) = A (c + 1 + t) := h1 _ (.inr (by omega))
    refine ⟨fun i hi => ?_, fun i g1 g2 => ?_⟩
    · funext j
      show clearM (clrTo A c t) c (c + 1 + t) _ i j = _
      unfold clearM
      rw [if_neg (by omega), h1 i (by omega)]
    · funext j
      show clearM (clrTo A c t) c (c + 1 + t) _ i j = _
      unfold clearM
      by_cases e : i = c + 1 + t
      · subst e
        rw [if_pos rfl, et, ec]
      · rw [if_neg e, h2 i g1 (by omega)]
theorem clrTo_RowEq {n c : Nat} {A : Mx} (hc : c < n) : ∀ t, c + t < n → RowEq n A (clrTo A c t) := by
  intro t
  induction t with
  | zero => exact fun _ => RowEq.refl _ _
  | succ t ih => exact fun h => (ih (by omega)).trans (RowEq.clear _ _ hc (by omega) (by omega))
theorem clrTo_len {n w c L : Nat} {A : Mx} (h0 : A c c ≠ 0) (hc : c < n) (hw : n ≤ w) (hL : ∀ i j, i < n → j < w → rL (A i j) ≤ L) (hL1 : 1 ≤ L) : ∀ t, c + t < n → ∀ i j, i < n → j < w → rL (clrTo A c t i j) ≤ 4 * L + 1 := by
  intro t ht i j hi hj
  obtain ⟨h1, h2⟩ := clrTo_spec h0 t
  by_cases h : c < i ∧ i ≤ c + t
  · rw [h2 i h.1 h.2]
    have e1 := hL i c hi (by omega)
    have e2 := hL c c hc (by omega)
    have e3 := hL c j hc hj
    have e4 := hL i j hi hj
    have e5 := rL_div (A i c) (A c c) e1 e2 (by omega)
    have e6 := rL_mul (A i c / A c c) (A c j) e5 e3 (by omega)
    have e7 := rL_sub (A i j) (A i c / A c c * A c j) e4 e6
    show rL (A i j - A i c / A c c * A c j) ≤ _
    omega
  · rw [h1 i (by omega)]
    have := hL i j hi hj
    omega
theorem elim_spec {n w L : Nat} {A : Mx} (hw : n ≤ w) (hA : NonSing n A) (hL : ∀ i j, i < n → j < w → rL (A i j) ≤ L) (hL1 : 1 ≤ L) : ∀ c, c ≤ n → RowEq n A (elim n A c).1 ∧ Tri n (elim n A c).1 c ∧ (∀ i j, i < n → j < w → rL ((elim n A c).1 i j) + 1 ≤ 4 ^ c * (L + 1)) ∧
    (c < n → ∃ p : Nat, pivI n (elim n A c).1 c c = p ∧ c ≤ p ∧ p < n ∧ (elim n A c).1 p c ≠ 0) := by
  have piv : ∀ c, c < n → RowEq n A (elim n A c).1 → Tri n (elim n A c).1 c → ∃ p : Nat, pivI n (elim n A c).1 c c = p ∧ c ≤ p ∧ p < n ∧ (elim n A c).1 p c ≠ 0 := by
    intro c hc he ht
    obtain ⟨i, h1, h2, h3⟩ := hA.pivot he hc ht
    rcases pivS_spec (fun i => wq ((elim n A c).1 i c)) (fun i => decide ((elim n A c).1 i c ≠ 0)) c (n - c) with ⟨_, h⟩ | ⟨p, g1, g2, g3, g4⟩
    · have := h i h1 (by omega)
      exact absurd h3 (of_decide_eq_false this)
    · exact ⟨p, g1, g2, by omega, of_decide_eq_true g4⟩
  intro c
  induction c with
  | zero =>
    intro _
    have ht : Tri n (elim n A 0).1 0 := fun j hj => absurd hj (Nat.not_lt_zero j)
    exact ⟨RowEq.refl _ _, ht, fun i j hi hj => by have := hL i j hi hj; show rL (A i j) + 1 ≤ _; simp; omega, fun h => piv 0 h (RowEq.refl _ _) ht⟩
  | succ c ih =>
    intro hc
    obtain ⟨i1, i2, i3, i4⟩ := ih (by omega)
    obtain ⟨p, p1, p2, p3, p4⟩ := i4 (by omega)
    have ee : (elim n A (c + 1)).1 = clrTo (swapIf (elim n A c).1 p c) c (n - (c + 1)) := by
      show clrTo (swapIf (elim n A c).1 (pivI n (elim n A c).1 c c).toNat c) c (n - (c + 1)) = _
      rw [p1, Int.toNat_natCast]
    have hcc : swapIf (elim n A c).1 p c c c ≠ 0 := by rw [swapIf_piv]; exact p4
    have hrow : RowEq n A (elim n A (c + 1)).1 := by
      rw [ee]
      exact (i1.trans (RowEq.swapIf _ p3 (by omega))).trans (clrTo_RowEq (by omega) _ (by omega))
    have hsw : ∀ i j, i < n → j < c → swapIf (elim n A c).1 p c i j = (elim n A c).1 i j := by
      intro i j hi hj
      unfold swapIf
      split
      · rfl
      · rename_i e
        unfold swapM
        obtain ⟨t1, t2⟩ := i2 j hj
        split
        · rename_i e2
          subst e2
          rw [t2 c hj (by omega), t2 i (by omega) hi]
        · split
          · rename_i e2
            subst e2
            rw [t2 i hj hi, t2 p (by omega) p3]
          · rfl
    have htri : Tri n (elim n A (c + 1)).1 (c + 1) := by
      rw [ee]
      obtain ⟨s1, s2⟩ := clrTo_spec hcc (n - (c + 1))
      intro j hj
      by_cases e : j = c
      · subst e
        refine ⟨by rw [s1 j (.inl (Nat.le_refl _))]; exact hcc, fun i hi hin => ?_⟩
        rw [s2 i hi (by omega)]
        show swapIf _ p j i j - swapIf _ p j i j / swapIf _ p j j j * swapIf _ p j j j = 0
        rw [Rat.div_mul_cancel hcc]
        grind
      · have hjc : j < c := by omega
        obtain ⟨t1, t2⟩ := i2 j hjc
        refine ⟨by rw [s1 j (.inl (by omega)), hsw j j (by omega) hjc]; exact t1, fun i hi hin => ?_⟩
        by_cases h : c < i
        · rw [s2 i h (by omega)]
          show swapIf _ p c i j - swapIf _ p c i c / swapIf _ p c c c * swapIf _ p c c j = 0
          rw [hsw i j hin hjc, hsw c j (by omega) hjc, t2 i hi hin, t2 c hjc (by omega)]
          grind
        · rw [s1 i (.inl (by omega)), hsw i j hin hjc]
          exact t2 i hi hin
    have hlen : ∀ i j, i < n → j < w → rL ((elim n A (c + 1)).1 i j) + 1 ≤ 4 ^ (c + 1) * (L + 1) := by
      intro i j hi hj
      rw [ee]
      have hq : 1 ≤ 4 ^ c := Nat.pow_pos (by omega)
      have hq2 : 1 * (L + 1) ≤ 4 ^ c * (L + 1) := Nat.mul_le_mul_right _ hq
      have h1 : ∀ i j, i < n → j < w → rL (swapIf (elim n A c).1 p c i j) ≤ 4 ^ c * (L + 1) - 1 := by
        intro i j hi hj
        unfold swapIf
        split
        · have := i3 i j hi hj; omega
        · rw [swapM_at]
          split
          · have := i3 c j (by omega) hj; omega
          · split
            · have := i3 p j p3 hj; omega
            · have := i3 i j hi hj; omega
      have := clrTo_len hcc (by omega) hw h1 (by omega) (n - (c + 1)) (by omega) i j hi hj
      have e4 : 4 ^ (c + 1) * (L + 1) = 4 * (4 ^ c * (L + 1)) := by rw [Nat.pow_succ, Nat.mul_comm (4 ^ c) 4, Nat.mul_assoc]
      rw [e4]
      omega
    exact ⟨hrow, htri, hlen, fun h => piv (c + 1) h hrow htri⟩

/-! ### From below -/
def bakTo (A : Mx) (i : Nat) : Nat → Mx
  | 0 => A
  | t + 1 => clearM (bakTo A i t) i t (bakTo A i t t i / bakTo A i t i i)
def bakS (n : Nat) (A : Mx) : Nat → Mx
  | 0 => A
  | s + 1 => bakTo (bakS n A s) (n - 1 - s) (n - 1 - s)
theorem bakTo_spec {A : Mx} {i : Nat} (h0 : A i i ≠ 0) : ∀ t, t ≤ i → (∀ r, t ≤ r → bakTo A i t r = A r) ∧ (∀ r, r < t → bakTo A i t r = fun j => A r j - A r i / A i i * A i j) := by
  intro t
  induction t with
  | zero => exact fun _ => ⟨fun _ _ => rfl, fun r h => absurd h (Nat.not_lt_zero r)⟩
  | succ t ih =>
    intro ht
    obtain ⟨h1, h2⟩ := ih (by omega)
    have ei : bakTo A i t i = A i := h1 i (by omega)
    have et : bakTo A i t t = A t := h1 t (Nat.le_refl _)
    refine ⟨fun r hr => ?_, fun r hr => ?_⟩
    · funext j
      show clearM (bakTo A i t) i t _ r j = _
      unfold clearM
      rw [if_neg (by omega), h1 r (by omega)]
    · funext j
      show clearM (bakTo A i t) i t _ r j = _
      unfold clearM
      by_cases e : r = t
      · subst e
        rw [if_pos rfl, et, ei]
      · rw [if_neg e, h2 r (by omega)]
theorem bakTo_RowEq {n i : Nat} {A : Mx} (hi : i < n) : ∀ t, t ≤ i → RowEq n A (bakTo A i t) := by
  intro t
  induction t with
  | zero => exact fun _ => RowEq.refl _ _
  | succ t ih => exact fun h => (ih (by omega)).trans (RowEq.clear _ _ hi (by omega) (by omega))
/-- After s rows from below: the last s columns are a diagonal; the rest is as it was. -/
theorem bakS_spec {n w U : Nat} {T : Mx} (hw : n ≤ w) (hT : Tri n T n) (hU : ∀ i j, i < n → j < w → rL (T i j) ≤ U) (hU1 : 1 ≤ U) : ∀ s, s ≤ n → RowEq n T (bakS n T s) ∧ (∀ i j, i < n → j < n → bakS n T s i j = if i ≠ j ∧ (j < i ∨ n ≤ j + s) then 0 else T i j) ∧
    (∀ i q, i < n → n ≤ q → q < w → rL (bakS n T s i q) + 2 * U + 1 ≤ 2 ^ s * (3 * U + 1)) ∧ (∀ t i j, s < n → t ≤ n - 1 - s → i < n → j < w → rL (bakTo (bakS n T s) (n - 1 - s) t i j) + 2 * U + 1 ≤ 2 * 2 ^ s * (3 * U + 1)) := by
  have key : ∀ s, s < n → (∀ i j, i < n → j < n → bakS n T s i j = if i ≠ j ∧ (j < i ∨ n ≤ j + s) then 0 else T i j) → (∀ i q, i < n → n ≤ q → q < w → rL (bakS n T s i q) + 2 * U + 1 ≤ 2 ^ s * (3 * U + 1)) →
      ∀ t, t ≤ n - 1 - s → (∀ i j, i < n → j < n → bakTo (bakS n T s) (n - 1 - s) t i j = if i < t ∧ j = n - 1 - s then 0 else bakS n T s i j) ∧ (∀ i q, i < n → n ≤ q → q < w → rL (bakTo (bakS n T s) (n - 1 - s) t i q) + 2 * U + 1 ≤ 2 * 2 ^ s * (3 * U + 1)) := by
    intro s hs e1 e2 t ht
    generalize hi0 : n - 1 - s = i0 at *
    generalize bakS n T s = B at *
    have hi0n : i0 < n := by omega
    have hd : B i0 i0 = T i0 i0 := by rw [e1 i0 i0 hi0n hi0n, if_neg (fun h => h.1 rfl)]
    have h0 : B i0 i0 ≠ 0 := by rw [hd]; exact (hT i0 hi0n).1
    obtain ⟨s1, s2⟩ := bakTo_spec h0 t ht
    have hone : 1 ≤ 2 ^ s := Nat.one_le_two_pow
    have hmul : 1 * (3 * U + 1) ≤ 2 ^ s * (3 * U + 1) := Nat.mul_le_mul_right _ hone
    refine ⟨fun i j hi hj => ?_, fun i q hi hq hqw => ?_⟩
    · by_cases h : i < t
      · rw [s2 i h]
        show B i j - B i i0 / B i0 i0 * B i0 j = _
        by_cases e : j = i0
        · subst e
          rw [if_pos ⟨h, rfl⟩, Rat.div_mul_cancel h0]
          grind
        · rw [if_neg (fun h => e h.2)]
          have hz : B i0 j = 0 := by
            rw [e1 i0 j hi0n hj, if_pos ⟨fun h => e h.symm, by omega⟩]
          rw [hz]
          grind
      · rw [s1 i (by omega), if_neg (fun h' => h h'.1)]
    · have b1 := e2 i q hi hq hqw
      by_cases h : i < t
      · rw [s2 i h]
        show rL (B i q - B i i0 / B i0 i0 * B i0 q) + 2 * U + 1 ≤ _
        have b2 := e2 i0 q hi0n hq hqw
        have hii : B i i0 = T i i0 := by rw [e1 i i0 hi hi0n, if_neg (by omega)]
        have l1 : rL (B i i0) ≤ U := by rw [hii]; exact hU i i0 hi (by omega)
        have l2 : rL (B i0 i0) ≤ U := by rw [hd]; exact hU i0 i0 hi0n (by omega)
        have l3 := rL_div (B i i0) (B i0 i0) l1 l2 (by omega)
        have l4 : rL (B i0 q) ≤ 2 ^ s * (3 * U + 1) - 2 * U - 1 := by omega
        have l5 := rL_mul (B i i0 / B i0 i0) (B i0 q) l3 l4 (by omega)
        have l6 : rL (B i q) ≤ 2 ^ s * (3 * U + 1) - 2 * U - 1 := by omega
        have l7 := rL_sub (B i q) (B i i0 / B i0 i0 * B i0 q) l6 l5
        have : 2 * 2 ^ s * (3 * U + 1) = 2 ^ s * (3 * U + 1) + 2 ^ s * (3 * U + 1) := by rw [Nat.mul_assoc, Nat.two_mul]
        omega
      · rw [s1 i (by omega)]
        have : 2 * 2 ^ s * (3 * U + 1) = 2 ^ s * (3 * U + 1) + 2 ^ s * (3 * U + 1) := by rw [Nat.mul_assoc, Nat.two_mul]
        omega
  have all : ∀ s, s ≤ n → RowEq n T (bakS n T s) ∧ (∀ i j, i < n → j < n → bakS n T s i j = if i ≠ j ∧ (j < i ∨ n ≤ j + s) then 0 else T i j) ∧ (∀ i q, i < n → n ≤ q → q < w → rL (bakS n T s i q) + 2 * U + 1 ≤ 2 ^ s * (3 * U + 1)) := by
    intro s
    induction s with
    | zero =>
      intro _
      refine ⟨RowEq.refl _ _, fun i j hi hj => ?_, fun i q hi hq hqw => ?_⟩
      · show T i j = _
        by_cases h : i ≠ j ∧ (j < i ∨ n ≤ j + 0)
        · rw [if_pos h]
          exact (hT j hj).2 i (by omega) hi
        · rw [if_neg h]
      · have := hU i q hi hqw
        show rL (T i q) + 2 * U + 1 ≤ _
        simp
        omega
    | succ s ih =>
      intro hs
      obtain ⟨i1, i2, i3⟩ := ih (by omega)
      obtain ⟨k1, k2⟩ := key s (by omega) i2 i3 (n - 1 - s) (Nat.le_refl _)
      refine ⟨i1.trans (bakTo_RowEq (by omega) _ (Nat.le_refl _)), fun i j hi hj => ?_, fun i q hi hq hqw => ?_⟩
      · show bakTo (bakS n T s) (n - 1 - s) (n - 1 - s) i j = _
        rw [k1 i j hi hj]
        by_cases h : i < n - 1 - s ∧ j = n - 1 - s
        · rw [if_pos h, if_pos ⟨by omega, by omega⟩]
        · rw [if_neg h, i2 i j hi hj]
          by_cases h2 : i ≠ j ∧ (j < i ∨ n ≤ j + s)
          · rw [if_pos h2, if_pos ⟨h2.1, by omega⟩]
          · rw [if_neg h2]
            by_cases h3 : i ≠ j ∧ (j < i ∨ n ≤ j + (s + 1))
            · exact absurd (show i < n - 1 - s ∧ j = n - 1 - s from ⟨by omega, by omega⟩) h
            · rw [if_neg h3]
      · have := k2 i q hi hq hqw
        rw [Nat.pow_succ, Nat.mul_comm (2 ^ s) 2]
        exact this
  intro s hs
  obtain ⟨a1, a2, a3⟩ := all s hs
  refine ⟨a1, a2, a3, fun t i j hsn ht hi hj => ?_⟩
  obtain ⟨k1, k2⟩ := key s hsn a2 a3 t ht
  by_cases hjn : j < n
  · rw [k1 i j hi hjn]
    have hone : 1 ≤ 2 ^ s := Nat.one_le_two_pow
    have hmul : 1 * (3 * U + 1) ≤ 2 ^ s * (3 * U + 1) := Nat.mul_le_mul_right _ hone
    have : 2 * 2 ^ s * (3 * U + 1) = 2 ^ s * (3 * U + 1) + 2 ^ s * (3 * U + 1) := by rw [Nat.mul_assoc, Nat.two_mul]
    have z : rL 0 ≤ 1 := by
      have : rL (rq false 0 1) ≤ 1 := rL_rq (by rw [digits_zero]; exact Nat.zero_le _) (by rw [show (1 : Nat) = 0 + 1 from rfl]; exact digits_length_le (by decide)) (Nat.le_refl _)
      exact this
    split
    · omega
    · rw [a2 i j hi hjn]
      split
      · omega
      · have := hU i j hi hj
        omega
  · exact k2 i j hi (by omega) hj

end Go.Proofs.Ytepkjfnffbdcoaa
