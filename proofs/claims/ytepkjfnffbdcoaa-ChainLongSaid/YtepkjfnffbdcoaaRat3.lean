/- Fractions: Add, Sub, Least, size, Make, Right. -/
import Derived.Test.YtepkjfnffbdcoaaRat2
set_option linter.unusedVariables false
set_option maxRecDepth 20000
set_option linter.unusedSimpArgs false
namespace Go.Proofs.Ytepkjfnffbdcoaa
open Go Go.Proofs.Ytepkjfnffbdcoaa.Lift
attribute [local irreducible] Lift.PCall Lift.HCall

set_option maxRecDepth 20000 in
set_option maxHeartbeats 8000000 in
theorem qadd_ok {x y : V} {p q : Rat} {L : Nat} (hx : IsQ x p L) (hy : IsQ y q L) (hL : L < 2 ^ 34) : PCall Try.prog 20 [x, y] (rV (p + q)) [] := by
  have c1 := sign_ok hx (by omega)
  have c2 := sign_ok hy (by omega)
  obtain ⟨s, a, b, rfl, ha, hb, hp, hla, hlb⟩ := hx
  obtain ⟨t, c, d, rfl, hc, hd, hq, hlc, hld⟩ := hy
  refine PCall.of_ax Try.call20 Try.func20 rfl (by simp [Try.ntmps20]) fun O w => ?_
  simp only [Try.ntmps20, Try.results20, argFr]
  have m1 := mul_ok a d ha hd (by omega) (by omega)
  have m2 := mul_ok c b hc hb (by omega) (by omega)
  have m3 := mul_ok b d hb hd (by omega) (by omega)
  have k1 := made_ok t c d hc hd (by omega) (by omega)
  have k2 := made_ok s a b ha hb (by omega) (by omega)
  rw [hq] at k1
  rw [hp] at k2
  have l1 := digits_len_mul (val a) (val d)
  have l2 := digits_len_mul (val c) (val b)
  have l3 := digits_len_mul (val b) (val d)
  have e1 := digits_length_val ha
  have e2 := digits_length_val hb
  have e3 := digits_length_val hc
  have e4 := digits_length_val hd
  have hzp := sgnR_eq_zero (q := p)
  have hzq := sgnR_eq_zero (q := q)
  refine AX.sregAV [2, 3, 4] (hq := ?_)
  refine AX.seq ?_
  refine AX.block ?_
  by_cases h0 : p = 0
  · have hz0 := hzp.2 h0
    have epq : p + q = q := by rw [h0, Rat.zero_add]
    rw [epq]
    generalize sgnR p = Z at *
    refine AX.sregCV [2, 3, 4, 10] (And.intro c1 True.intro) (hq := ?_)
    refine AX.condT (h := ?_)
    refine AX.sregCV [4] (And.intro k1 True.intro) (hq := ?_)
    refine AX.ret (And.intro (Or.inl rfl) ?_)
    exact Done.cell rfl rfl
  have hz0 : sgnR p ≠ 0 := fun e => h0 (hzp.1 e)
  generalize sgnR p = Z at *
  refine AX.sregCV [2, 3, 4, 10] (And.intro c1 True.intro) (hq := ?_)
  refine AX.condF (h := ?_)
  by_cases h1 : q = 0
  · have hz1 := hzq.2 h1
    have epq : p + q = p := by rw [h1, Rat.add_zero]
    rw [epq]
    generalize sgnR q = Y at *
    refine AX.sregCV [2, 3, 4, 21] (And.intro c2 True.intro) (hq := ?_)
    refine AX.condT (h := ?_)
    refine AX.sregCV [4] (And.intro k2 True.intro) (hq := ?_)
    refine AX.ret (And.intro (Or.inl rfl) ?_)
    exact Done.cell rfl rfl
  have hz1 : sgnR q ≠ 0 := fun e => h1 (hzq.1 e)
  generalize sgnR q = Y at *
  refine AX.sregCV [2, 3, 4, 21] (And.intro c2 True.intro) (hq := ?_)
  refine AX.condF (h := ?_)
  refine AX.keepA [2, 3, 4] (h := ?_)
  refine AX.skip ?_
  try simp only [thenS_normal, thenS_ret, thenS_exit, blockS_normal, blockS_ret, blockS_exit, backS_ret, backS_exit, if_true]
  have hb0 : val b ≠ 0 := fun e => h0 (by rw [← hp, e, rq_den0])
  have hd0 : val d ≠ 0 := fun e => h1 (by rw [← hq, e, rq_den0])
  have key : p + q = rq s (val a) (val b) + rq t (val c) (val d) := by rw [hp, hq]
  have ks : s = t → rq s (val a) (val b) + rq t (val c) (val d) = rq s (val a * val d + val c * val b) (val b * val d) := by
    rintro rfl
    exact add_same s hb0 hd0
  have kg := fun h => add_ge (s := s) (t := t) h (m := val a) (p := val c) hb0 hd0
  have kl := fun h => add_lt (s := s) (t := t) h (m := val a) (p := val c) hb0 hd0
  rw [← hp] at k2
  clear hp hq c1 c2 k1 k2 hzp hzq hz0 hz1 h0 h1 hb0 hd0
  rw [key]
  clear key p q Z Y
  generalize rq s (val a) (val b) + rq t (val c) (val d) = R at *
  generalize val a * val d = X at *
  generalize val c * val b = Y at *
  generalize val b * val d = D at *
  refine AX.sdregCV [2, 3, 4, 5, 6, 7] (And.intro m1 (And.intro m2 (And.intro m3 True.intro))) (hq := ?_)
  refine AX.seq ?_
  by_cases hst : s = t
  · have ladd := digits_len_add X Y
    have c1 := add_n X Y (by omega) (by omega)
    have c2 := made_ok s (digits (X + Y)) (digits D) (Dg_digits _) (Dg_digits _) (by omega) (by omega)
    rw [val_digits, val_digits, ← ks hst] at c2
    subst hst
    apply AX.sreg [2, 3, 4, 5, 6, 7, 51] (by simp only [pq]; rfl)
    · repeat (first
     | (apply RunO.op rfl; · rfl
        · (simp only [opsOf, valsOf, valOf, lkp, ofConst, ofCell, Array.toList, Option.toList, List.map_cons, List.map_nil, List.cons_append, List.nil_append, List.append_nil, Nat.reduceEqDiff, Nat.reducePow, Nat.reduceLT, Nat.reduceLeDiff, reduceIte, if_true, if_false, IntKind.min, IntKind.max, IntKind.bits, IntKind.signed, Int.reduceLE, Int.reduceNeg, Int.reducePow, Int.reduceSub, and_self, Bool.false_eq_true, Nat.reduceSub]; rfl)
        iterate 2 (· (simp (disch := omega) only [go_sem, i64_of, u32_of, u64_of, Nat.reduceLT, Nat.reduceLeDiff, Nat.reduceEqDiff, Nat.reduceAdd, Nat.reduceSub, Nat.reduceMul, Nat.reducePow, Nat.reduceBEq, Int.reduceLE, Int.reduceLT, Int.reduceToNat, Int.reduceEq, Int.reduceNeg, reduceIte, reduceCtorEq, beq_self_eq_true]; rfl))
        · (simp only [pb, Nat.reduceLT, Nat.reduceAdd, reduceIte]; rfl))
     | (apply RunO.skip; · rfl
        · (simp only [pb, Nat.reduceLT, Nat.reduceAdd, reduceIte]; rfl)))
      exact RunO.nil
    · repeat (first | exact Keep.nil | (apply Keep.take; · rfl) | (apply Keep.drop; · rfl))
    refine AX.condT (h := ?_)
    refine AX.sdregCV [4] (And.intro c1 (And.intro c2 True.intro)) (hq := ?_)
    refine AX.ret (And.intro (Or.inl rfl) ?_)
    exact Done.cell rfl rfl
  have hbe : (s == t) = false := beq_false_of_ne hst
  refine AX.sregWV [2, 3, 4, 5, 6, 7, 51] (And.intro @hbe True.intro) True.intro (hq := ?_)
  refine AX.condF (h := ?_)
  refine AX.keepA [2, 3, 4, 5, 6, 7] (h := ?_)
  refine AX.skip ?_
  try simp only [thenS_normal, thenS_ret, thenS_exit, blockS_normal, blockS_ret, blockS_exit, backS_ret, backS_exit, if_true]
  have c3 := cmp_n X Y (by omega) (by omega)
  refine AX.cut (fun st => ∃ (r : Bool) (a' b' : List Nat) (U W : Nat), W ≤ U ∧ (digits U).length < 2 ^ 35 ∧ (digits W).length < 2 ^ 35 ∧ rq r (U - W) D = R ∧
    Le 0 id ⟨[(7, nv D), (6, nv W), (5, nv U), (4, .ptr 2 0), (2, .ptr 0 0)], [(2, ⟨25, [.b false, .nl, .nl]⟩), (0, ⟨25, [.b r, dg a', dg b']⟩)], 3⟩ st) ?_ ?_
  · by_cases hlt : X < Y
    · rw [cmp_lt hlt] at c3
      refine AX.sregCV [2, 3, 4, 5, 6, 7, 62] (And.intro c3 True.intro) (hq := ?_)
      refine AX.condT (h := ?_)
      refine AX.regAV [2, 4, 5, 6, 7] (hq := ?_)
      refine ⟨by first | exact trivial | rfl, t, c, d, Y, X, Nat.le_of_lt hlt, by omega, by omega, (kl hst hlt).symm, ?_⟩
      refine (
        leA
        )
    · have hcz : ¬ cmp X Y < 0 := by
        unfold cmp
        rw [if_neg hlt]
        split <;> omega
      generalize cmp X Y = Z at *
      refine AX.sregCV [2, 3, 4, 5, 6, 7, 62] (And.intro c3 True.intro) (hq := ?_)
      refine AX.condF (h := ?_)
      refine AX.keepA [2, 4, 5, 6, 7] (h := ?_)
      refine AX.skip ?_
      try simp only [thenS_normal, thenS_ret, thenS_exit, blockS_normal, blockS_ret, blockS_exit, backS_ret, backS_exit, if_true]
      refine ⟨by first | exact trivial | rfl, s, a, b, X, Y, by omega, by omega, by omega, (kg hst (by omega)).symm, ?_⟩
      refine (
        leA
        )
  rintro st ⟨r, a', b', U, W, hWU, hlU, hlW, hR, hle⟩
  refine AX.weaken id hle ?_
  have c4 := sub_n U W (by omega) (by omega)
  rw [if_neg (by omega)] at c4
  unfold numE at c4
  have lsub := digits_len_mono (Nat.sub_le U W)
  have c5 := made_ok r (digits (U - W)) (digits D) (Dg_digits _) (Dg_digits _) (by omega) (by omega)
  rw [val_digits, val_digits, hR] at c5
  generalize U - W = S at *
  refine AX.sregCV [2, 4, 7, 8] (And.intro c4 True.intro) (hq := ?_)
  refine AX.sregCV [4] (And.intro c5 True.intro) (hq := ?_)
  refine AX.ret (And.intro (Or.inl rfl) ?_)
  exact Done.cell rfl rfl

theorem rL_neg (q : Rat) : rL (-q) = rL q := by
  show max (digits (-q.num).natAbs).length (digits q.den).length = _
  rw [Int.natAbs_neg]
  rfl

set_option maxHeartbeats 2000000 in
theorem qsub_ok {x y : V} {p q : Rat} {L : Nat} (hx : IsQ x p L) (hy : IsQ y q L) (hL : L < 2 ^ 33) (hL1 : 1 ≤ L) : PCall Try.prog 76 [x, y] (rV (p - q)) [] := by
  have c1 := qneg_ok hy (by omega)
  have hn : IsQ (rV (-q)) (-q) L := by
    obtain ⟨t, c, d, rfl, hc, hd, hq, hlc, hld⟩ := hy
    refine IsQ.of ?_
    rw [rL_neg, ← hq]
    exact rL_rq (Nat.le_trans (digits_length_val hc) hlc) (Nat.le_trans (digits_length_val hd) hld) hL1
  have c2 := qadd_ok hx hn (by omega)
  rw [← Rat.sub_eq_add_neg] at c2
  obtain ⟨s, a, b, rfl, ha, hb, hp, hla, hlb⟩ := hx
  obtain ⟨t, c, d, rfl, hc, hd, hq, hlc, hld⟩ := hy
  refine PCall.of_ax Try.call76 Try.func76 rfl (by simp [Try.ntmps76]) fun O w => ?_
  simp only [Try.ntmps76, Try.results76, argFr]
  generalize -q = nq at *
  generalize p - q = r at *
  refine AX.sregAV [2, 3, 4] (hq := ?_)
  refine AX.sdregCV [4] (And.intro c1 (And.intro c2 True.intro)) (hq := ?_)
  refine AX.ret (And.intro (Or.inl rfl) ?_)
  exact Done.cell rfl rfl

/-- A fraction out of two numbers. -/
def rz (p q : Int) : Rat := rq (decide (p < 0) != decide (q < 0)) p.natAbs q.natAbs

end Go.Proofs.Ytepkjfnffbdcoaa
