/- Statements about chains: of; few where nothing is cut. -/
import Derived.Test.YtepkjfnffbdcoaaGreatLawC2
import Derived.Test.YtepkjfnffbdcoaaGreatChQ
set_option linter.unusedVariables false
set_option maxRecDepth 20000
set_option linter.unusedSimpArgs false
namespace Go.Proofs.YtepkjfnffbdcoaaGreat
open Go Go.Proofs.YtepkjfnffbdcoaaGreat.Lift
attribute [local irreducible] Lift.PCall Lift.HCall

/-- A part of a matrix's row as a slice. -/
theorem effSliceSeg {p m i o t : Nat} (X : Mx) (hi : i < p) (hot : o + t ≤ m) (hpm : p * m ≤ 60 * 60) (x lo hi' : Operand) {a b : Int} (ha : a = ((i * m + o : Nat) : Int)) (hb : b = ((i * m + o + t : Nat) : Int)) :
    eff Tryz.prog (.slice 22 x (some lo) (some hi') none) [.sl ((mcells m X (p * m)).map rV), .i .i64 a, .i .i64 b] = some (.val (.sl ((vl t fun c => X i (o + c)).map rV))) := by
  subst ha hb
  by_cases ht : m = 0
  · subst ht
    obtain ⟨rfl, rfl⟩ : o = 0 ∧ t = 0 := by omega
    have e : (mcells 0 X (p * 0)).map rV = [] := rfl
    have e2 : (vl 0 fun c => X i (0 + c)).map rV = [] := rfl
    rw [e, e2]
    simp only [Nat.mul_zero, Nat.add_zero]
    simp only [eff, effSlice, lowHigh, sliceV, bound, Tryz.underlying22, lay_ratio, Option.isSome_some, Option.isSome_none]
    rfl
  have ht : 0 < m := Nat.pos_of_ne_zero ht
  have hl : ((mcells m X (p * m)).map rV).length = p * m := by rw [List.length_map, mcells_length]
  have hle : i * m + m ≤ p * m := by
    have : (i + 1) * m ≤ p * m := Nat.mul_le_mul_right _ hi
    rwa [Nat.succ_mul] at this
  have hrow : List.drop (i * m + o) (List.take (i * m + o + t) ((mcells m X (p * m)).map rV)) = (vl t fun c => X i (o + c)).map rV := by
    rw [← List.map_take, ← List.map_drop]
    congr 1
    apply List.ext_getElem?
    intro j
    rw [List.getElem?_drop, List.getElem?_take]
    by_cases hj : j < t
    · rw [if_pos (by omega)]
      have h1 : (mcells m X (p * m))[i * m + o + j]? = some (X i (o + j)) := by
        obtain ⟨h1, h2⟩ := mcells_get (r := p) (c := m) X hi (show o + j < m by omega)
        rw [← Nat.add_assoc] at h1 h2
        have hl : i * m + o + j < (mcells m X (p * m)).length := by rw [mcells_length]; exact h1
        rw [List.getD_eq_getElem?_getD, List.getElem?_eq_getElem hl] at h2
        rw [List.getElem?_eq_getElem hl]
        exact congrArg some h2
      rw [h1]
      simp [vl, hj]
    · rw [if_neg (by omega)]
      exact (List.getElem?_eq_none (by rw [vl_length]; omega)).symm
  have h3 : (((mcells m X (p * m)).map rV).getD 0 .junk).cells.length = 3 := by
    rw [getD_rV (by rw [mcells_length]; omega)]
    rfl
  generalize (mcells m X (p * m)).map rV = Xl at *
  simp only [eff, effSlice, lowHigh, sliceV, bound, Tryz.underlying22, lay_ratio, Option.isSome_some, Option.isSome_none]
  rw [if_pos ⟨by omega, by omega, by rw [hl]; omega, h3⟩, Int.toNat_natCast, Int.toNat_natCast, hrow]

set_option maxHeartbeats 2000000 in
theorem lof_ok (R1 C1 R2 C2 : Int) (x y : List V) : PCall Tryz.prog 17 [.agg [.i .i64 R1, .i .i64 C1, .sl x, .i .i64 R2, .i .i64 C2, .sl y]] (.agg [.i .i64 R1, .i .i64 C1, .sl x, .i .i64 R2, .i .i64 C2, .sl y]) [] := by
  refine PCall.of_ax Tryz.call17 Tryz.func17 rfl (by simp [Tryz.ntmps17]) fun O w => ?_
  simp only [Tryz.ntmps17, Tryz.results17, argFr]
  refine AX.sregAV [1, 2] (hq := ?_)
  refine AX.sregAV [2] (hq := ?_)
  refine AX.ret (And.intro (Or.inl rfl) ?_)
  exact dnQ5
/-- A list cut. -/
def lcut (most : Nat) (xs : List RT) : List RT := (xs.take most).map cut3
theorem lcut_ok {most : Nat} {xs : List RT} (h : ∀ x ∈ xs, Dg x.2.1 ∧ Dg x.2.2) : okX (lcut most xs) ∧ (lcut most xs).length ≤ most ∧ ∀ x ∈ lcut most xs, x.2.1.length ≤ 3 ∧ x.2.2.length ≤ 3 := by
  have h3 : ∀ x ∈ lcut most xs, (Dg x.2.1 ∧ Dg x.2.2) ∧ x.2.1.length ≤ 3 ∧ x.2.2.length ≤ 3 := by
    intro x hx
    obtain ⟨y, hy, rfl⟩ := List.mem_map.1 hx
    obtain ⟨h1, h2⟩ := h y (List.mem_of_mem_take hy)
    refine ⟨⟨fun d hd => h1 d (List.mem_of_mem_take hd), fun d hd => h2 d (List.mem_of_mem_take hd)⟩, ?_, ?_⟩
    · show (y.2.1.take 3).length ≤ 3
      rw [List.length_take]
      omega
    · show (y.2.2.take 3).length ≤ 3
      rw [List.length_take]
      omega
  refine ⟨fun x hx => ?_, ?_, fun x hx => (h3 x hx).2⟩
  · obtain ⟨⟨h1, h2⟩, h4, h5⟩ := h3 x hx
    exact ⟨h1, h2, by omega, by omega⟩
  · unfold lcut
    rw [List.length_map, List.length_take]
    omega

set_option maxHeartbeats 8000000 in
/-- few leaves a chain that is not right, or small, but for its digits. -/
theorem few_same (R1 C1 R2 C2 : Int) (xs ys ss : List RT) (hR1 : -9223372036854775808 ≤ R1 ∧ R1 ≤ 9223372036854775807) (hC2 : -9223372036854775808 ≤ C2 ∧ C2 ≤ 9223372036854775807) (lx : xs.length < 2 ^ 62) (ly : ys.length < 2 ^ 62) (ls : ss.length < 2 ^ 62)
    (hx : ∀ x ∈ xs, x.2.1.length < 2 ^ 62 ∧ x.2.2.length < 2 ^ 62) (hy : ∀ x ∈ ys, x.2.1.length < 2 ^ 62 ∧ x.2.2.length < 2 ^ 62) (hs : ∀ x ∈ ss, x.2.1.length < 2 ^ 62 ∧ x.2.2.length < 2 ^ 62) (b : Bool)
    (hr : PCall Tryz.prog 42 [.agg [.i .i64 R1, .i .i64 C1, .sl ((lcut 4000 xs).map fR), .i .i64 R2, .i .i64 C2, .sl ((lcut 4000 ys).map fR)]] (.b b) []) (hb : b = false ∨ (R1 ≤ 8 ∧ C2 ≤ 5)) :
    PCall Tryz.prog 14 [.agg [.i .i64 R1, .i .i64 C1, .sl (xs.map fR), .i .i64 R2, .i .i64 C2, .sl (ys.map fR)], .sl (ss.map fR)] (.tup [.agg [.i .i64 R1, .i .i64 C1, .sl ((lcut 4000 xs).map fR), .i .i64 R2, .i .i64 C2, .sl ((lcut 4000 ys).map fR)], .sl ((lcut 100 ss).map fR)]) [] := by
  have c1 := llist_ok 4000 (by decide) xs lx hx
  have c2 := llist_ok 4000 (by decide) ys ly hy
  have c3 := llist_ok 100 (by decide) ss ls hs
  have cof := lof_ok R1 C1 R2 C2 ((lcut 4000 xs).map fR) ((lcut 4000 ys).map fR)
  unfold lcut at *
  refine PCall.of_ax Tryz.call14 Tryz.func14 rfl (by simp [Tryz.ntmps14]) fun O w => ?_
  simp only [Tryz.ntmps14, Tryz.results14, argFr]
  generalize ((xs.take 4000).map cut3).map fR = X1 at *
  generalize ((ys.take 4000).map cut3).map fR = Y1 at *
  generalize ((ss.take 100).map cut3).map fR = S1 at *
  generalize xs.map fR = X0 at *
  generalize ys.map fR = Y0 at *
  generalize ss.map fR = S0 at *
  have c1 : PCall Tryz.prog 29 [.sl X0, .i .i64 4000] (.sl X1) [] := c1
  have c2 : PCall Tryz.prog 29 [.sl Y0, .i .i64 4000] (.sl Y1) [] := c2
  have c3 : PCall Tryz.prog 29 [.sl S0, .i .i64 100] (.sl S1) [] := c3
  refine AX.sregAV [1, 2, 4] (hq := ?_)
  refine AX.sdregCV [1, 2, 4] (aI c1 (aI c2 (aI c3 oT))) (hq := ?_)
  refine AX.sdregAV [1, 2, 4, 6, 7] (hq := ?_)
  refine AX.seq ?_
  cases b
  · refine AX.sregCV [1, 2, 4, 6, 7, 46] (aI cof (aI hr oT)) (hq := ?_)
    refine AX.condT (h := ?_)
    refine AX.sregAV [4, 5] (hq := ?_)
    refine AX.ret (And.intro (Or.inl rfl) ?_)
    exact dnQ5
  · have hb' : R1 ≤ 8 ∧ C2 ≤ 5 := by simpa using hb
    obtain ⟨b1, b2⟩ := hb'
    refine AX.sregCV [1, 2, 4, 6, 7, 46] (aI cof (aI hr oT)) (hq := ?_)
    refine AX.condT (h := ?_)
    refine AX.sregAV [4, 5] (hq := ?_)
    refine AX.ret (And.intro (Or.inl rfl) ?_)
    exact dnQ5

end Go.Proofs.YtepkjfnffbdcoaaGreat
