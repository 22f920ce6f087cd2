/- Statements about chains: ChainMoves behind the cut. -/
import Derived.Test.YtepkjfnffbdcoaaGreatHF
import Derived.Test.YtepkjfnffbdcoaaGreatOpenC
set_option linter.unusedVariables false
set_option maxRecDepth 20000
set_option linter.unusedSimpArgs false
namespace Go.Proofs.YtepkjfnffbdcoaaGreat
open Go Go.Proofs.YtepkjfnffbdcoaaGreat.Lift
attribute [local irreducible] Lift.PCall Lift.HCall
end Go.Proofs.YtepkjfnffbdcoaaGreat
/- Statements about chains: what few gives; ChainMoves. -/
set_option linter.unusedVariables false
set_option linter.unusedSimpArgs false
namespace Go.Proofs.YtepkjfnffbdcoaaGreat
open Go Go.Proofs.YtepkjfnffbdcoaaGreat.Lift
attribute [local irreducible] Lift.PCall Lift.HCall
inductive Few : V → Prop
 | shape (R1 C1 R2 C2 : Int) (xs ys : List RT) (h1 : bd R1) (h2 : bd C1) (h3 : bd R2) (h4 : bd C2) (hx : okX xs) (hy : okX ys) (lx : xs.length ≤ 4000) (ly : ys.length ≤ 4000) (hno : (isM R1 C1 xs && isM R2 C2 ys && decide (R1 = C1) && decide (R2 = R1)) = false) : Few (.agg [.i .i64 R1, .i .i64 C1, .sl (xs.map fR), .i .i64 R2, .i .i64 C2, .sl (ys.map fR)])
 | rows (n m : Nat) (A B : Mx) (hn : n ≤ 60) (hm : m ≤ 60) (hA : ∀ i k, i < n → k < n → rL (A i k) ≤ 3) (hB : ∀ i k, i < n → k < m → rL (B i k) ≤ 3) (hC : isC n m A B = false) : Few (cV n m A B)
 | ok (n m : Nat) (A B : Mx) (hn : n ≤ 8) (hm : m ≤ 5) (hA : ∀ i k, i < n → k < n → rL (A i k) ≤ 38) (hB : ∀ i k, i < n → k < m → rL (B i k) ≤ 38) (hC : isC n m A B = true) : Few (cV n m A B)
theorem lcut_mem {r c : Nat} {most : Nat} {xs : List RT} {A : Mx} (h : lcut most xs = (mcells c A (r * c)).map toRT) (hl : ∀ x ∈ lcut most xs, x.2.1.length ≤ 3 ∧ x.2.2.length ≤ 3) : ∀ i k, i < r → k < c → rL (A i k) ≤ 3 := by
 intro i k hi hk
 have hm : toRT (A i k) ∈ lcut most xs := by
  rw [h]
  refine List.mem_map.2 ⟨_, ?_, rfl⟩
  obtain ⟨h1, h2⟩ := mcells_get (r := r) (c := c) A hi hk
  rw [List.getD_eq_getElem?_getD, List.getElem?_eq_getElem (by rw [mcells_length]; exact h1)] at h2
  exact h2 ▸ List.getElem_mem _
 exact toRT_len (hl _ hm).1 (hl _ hm).2
theorem few_all (R1 C1 R2 C2 : Int) (xs ys ss : List RT) (h1 : bd R1) (h2 : bd C1) (h3 : bd R2) (h4 : bd C2) (hx : okRT xs) (hy : okRT ys) (hs : okRT ss) (lx : xs.length < 2 ^ 62) (ly : ys.length < 2 ^ 62) (ls : ss.length < 2 ^ 62) :
  ∃ (c' : V) (S' : List RT), PCall Tryz.prog 14 [.agg [.i .i64 R1, .i .i64 C1, .sl (xs.map fR), .i .i64 R2, .i .i64 C2, .sl (ys.map fR)], .sl (ss.map fR)] (.tup [c', .sl (S'.map fR)]) [] ∧ Few c' ∧ okX S' ∧ S'.length ≤ 100 ∧ ∀ x ∈ S', x.2.1.length ≤ 3 ∧ x.2.2.length ≤ 3 := by
 obtain ⟨X1, X2, X3⟩ := lcut_ok (most := 4000) (xs := xs) fun x h => ⟨(hx x h).1, (hx x h).2.1⟩
 obtain ⟨Y1, Y2, Y3⟩ := lcut_ok (most := 4000) (xs := ys) fun x h => ⟨(hy x h).1, (hy x h).2.1⟩
 obtain ⟨S1, S2, S3⟩ := lcut_ok (most := 100) (xs := ss) fun x h => ⟨(hs x h).1, (hs x h).2.1⟩
 have kx : ∀ x ∈ xs, x.2.1.length < 2 ^ 62 ∧ x.2.2.length < 2 ^ 62 := fun x h => (hx x h).2.2
 have ky : ∀ x ∈ ys, x.2.1.length < 2 ^ 62 ∧ x.2.2.length < 2 ^ 62 := fun x h => (hy x h).2.2
 have ks : ∀ x ∈ ss, x.2.1.length < 2 ^ 62 ∧ x.2.2.length < 2 ^ 62 := fun x h => (hs x h).2.2
 cases hM : (isM R1 C1 (lcut 4000 xs) && isM R2 C2 (lcut 4000 ys) && decide (R1 = C1) && decide (R2 = R1)) with
 | false =>
  have cr := r20right_not R1 C1 R2 C2 _ _ h1 h2 h3 h4 X1 Y1 (by omega) (by omega) hM
  exact ⟨_, _, few_same R1 C1 R2 C2 xs ys ss h1 h4 lx ly ls kx ky ks false cr (.inl rfl), .shape R1 C1 R2 C2 _ _ h1 h2 h3 h4 X1 Y1 X2 Y2 hM, S1, S2, S3⟩
 | true =>
  simp only [Bool.and_eq_true, decide_eq_true_eq] at hM
  obtain ⟨⟨⟨m1, m2⟩, e1⟩, e2⟩ := hM
  obtain ⟨n, c, A, rfl, rfl, hn, _, hXA⟩ := isM_mat (fun x h => ⟨(X1 x h).1, (X1 x h).2.1⟩) m1
  obtain ⟨n2, m, B, rfl, rfl, _, hm, hYB⟩ := isM_mat (fun x h => ⟨(Y1 x h).1, (Y1 x h).2.1⟩) m2
  obtain rfl : n = c := by omega
  obtain rfl : n2 = n := by omega
  have hA := lcut_mem hXA X3
  have hB := lcut_mem hYB Y3
  have eX : (lcut 4000 xs).map fR = (mcells n2 A (n2 * n2)).map rV := by rw [hXA, map_toRT]
  have eY : (lcut 4000 ys).map fR = (mcells m B (n2 * m)).map rV := by rw [hYB, map_toRT]
  have cr := r20right_ok n2 m 3 hn hm A B hA hB (by decide) (by decide)
  have hfs := few_same n2 n2 n2 m xs ys ss h1 h4 lx ly ls kx ky ks (isC n2 m A B)
  rw [eX, eY] at hfs
  cases hC : isC n2 m A B with
  | false => exact ⟨_, _, hfs cr (.inl hC), .rows n2 m A B hn hm hA hB hC, S1, S2, S3⟩
  | true =>
   by_cases hb : n2 ≤ 8 ∧ m ≤ 5
   ·exact ⟨_, _, hfs cr (.inr (by omega)), .ok n2 m A B hb.1 hb.2 (fun i k hi hk => Nat.le_trans (hA i k hi hk) (by decide)) (fun i k hi hk => Nat.le_trans (hB i k hi hk) (by decide)) hC, S1, S2, S3⟩
   ·obtain ⟨k, hk⟩ : ∃ k, k = if 8 < n2 then 8 else n2 := ⟨_, rfl⟩
    obtain ⟨j, hj⟩ : ∃ j, j = if 5 < m then 5 else m := ⟨_, rfl⟩
    have k1 : k ≤ n2 ∧ k ≤ 8 := by rw [hk]; split <;> omega
    have j1 : j ≤ m ∧ j ≤ 5 := by rw [hj]; split <;> omega
    have cf := few_cut n2 m k j hn hm hk hj (by omega) A B hC hA hB _ _ xs ys ss rfl rfl lx ly ls kx ky ks eX eY
    exact ⟨_, _, cf, .ok k j _ B k1.2 j1.2 (few_len hC k1.1 j1.1 k1.2 j1.2 hA hB) (fun i c hi hc => Nat.le_trans (hB i c (by omega) (by omega)) (by decide)) (few_isC hC k1.1 j1.1),
     fun x h => S1 x (List.mem_of_mem_take h), by rw [List.length_take]; omega, fun x h => S3 x (List.mem_of_mem_take h)⟩
end Go.Proofs.YtepkjfnffbdcoaaGreat
/- Statements about chains: Ends of what few gives. -/
set_option linter.unusedVariables false
set_option linter.unusedSimpArgs false
namespace Go.Proofs.YtepkjfnffbdcoaaGreat
open Go Go.Proofs.YtepkjfnffbdcoaaGreat.Lift
attribute [local irreducible] Lift.PCall Lift.HCall
theorem bigL8 {n : Nat} (hn : n ≤ 8) : 4 * bigL n (38 + 1) < 2 ^ 33 := by
 have h1 := bigL_mono (L := 38 + 1) hn
 have h2 : 4 * bigL 8 (38 + 1) < 2 ^ 33 := by decide
 omega
structure Small (n m : Nat) (A B : Mx) (v : Nat → Rat) : Prop where
 hn : n ≤ 8
 hm : m ≤ 5
 hA : ∀ i k, i < n → k < n → rL (A i k) ≤ 38
 hB : ∀ i k, i < n → k < m → rL (B i k) ≤ 38
 hC : isC n m A B = true
 hv : ∀ i, i < n → 0 ≤ v i
 hvL : ∀ i, i < n → rL (v i) ≤ 3
namespace Small
variable {n m : Nat} {A B : Mx} {v : Nat → Rat}
theorem right (h : Small n m A B v) : PCall Tryz.prog 41 [cV n m A B] (.b true) [] := by
 have c1 := cright_ok n m 38 (by have := h.hn; omega) (by have := h.hm; omega) A B h.hA h.hB (by decide) (by decide)
 rwa [h.hC] at c1
theorem hX (h : Small n m A B v) : ∀ i j, i < n → j < m → rL (eachM n m A B i j) ≤ 100000 := each_small h.hn h.hC h.hA h.hB
theorem is (h : Small n m A B v) : (chn n m A B).IsEach (eachM n m A B) := each_is h.hC h.hA h.hB (by decide)
theorem each (h : Small n m A B v) : PCall Tryz.prog 15 [cV n m A B] (.tup [qM n m (eachM n m A B), .i .i64 0]) [] :=
 ceach_ok n m 38 (by have := h.hn; omega) (by have := h.hm; omega) A B h.hC h.hA h.hB (by decide) (bigL8 h.hn) (by decide)
end Small
theorem cmpR_not_gt {p q : Rat} (h : p ≤ q) : ¬ 0 < cmpR p q := by
 unfold cmpR
 split
 ·decide
 ·split
  ·decide
  ·rename_i h1 h2
   exact absurd (show p < q by grind) h1
end Go.Proofs.YtepkjfnffbdcoaaGreat
