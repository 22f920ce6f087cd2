/- Len32. -/
import Derived.Test.YtepkjfnffbdcoaaGG
set_option linter.unusedVariables false
set_option maxRecDepth 20000
set_option linter.unusedSimpArgs false
namespace Go.Proofs.Ytepkjfnffbdcoaa
open Go Go.Proofs.Ytepkjfnffbdcoaa.Lift
attribute [local irreducible] Lift.PCall Lift.HCall

set_option maxRecDepth 20000 in
theorem len32_ok (x : Nat) (hx : x < 4294967296) : PCall Try.prog 85 [.i .u32 x] (.i .i64 (blen x)) [] := by
  refine PCall.of_ax Try.call85 Try.func85 rfl (by simp [Try.ntmps85]) fun O w => ?_
  simp only [Try.ntmps85, Try.results85, argFr]
  refine AX.sregA [0, 2] (hq := ?_)
  refine AX.cut (fun st => ∃ (c y : Nat), y < 65536 ∧ c ≤ 16 ∧ blen x = c + blen y ∧ st = ⟨[(2, .i .i64 c), (0, .i .u32 y)], [], 0⟩) ?_ ?_
  · by_cases h : 65536 ≤ x
    · refine AX.sregA [0, 2, 4] (hq := ?_)
      refine AX.condT (h := ?_)
      refine AX.sregW [0, 2] (And.intro @shr_nat True.intro) True.intro (hq := ?_)
      refine AX.regA [0, 2] (hq := ?_)
      have := blen_shift (n := x) 16 (by simp; omega)
      exact ⟨rfl, 16, x / 2 ^ 16, by omega, by omega, by omega, rfl⟩
    · refine AX.sregA [0, 2, 4] (hq := ?_)
      refine AX.condF (h := ?_)
      refine AX.keepA [0, 2] (h := ?_)
      refine AX.skip ?_
      exact ⟨rfl, 0, x, by omega, by omega, by omega, rfl⟩
  · rintro st ⟨c, y, hy, hc, hb, rfl⟩
    refine AX.cut (fun st => ∃ (c y : Nat), y < 256 ∧ c ≤ 24 ∧ blen x = c + blen y ∧ st = ⟨[(2, .i .i64 c), (0, .i .u32 y)], [], 0⟩) ?_ ?_
    · by_cases h : 256 ≤ y
      · refine AX.sregA [0, 2, 8] (hq := ?_)
        refine AX.condT (h := ?_)
        refine AX.sregW [0, 2] (And.intro @shr_nat True.intro) True.intro (hq := ?_)
        refine AX.regA [0, 2] (hq := ?_)
        have := blen_shift (n := y) 8 (by simp; omega)
        exact ⟨rfl, c + 8, y / 2 ^ 8, by omega, by omega, by omega, rfl⟩
      · refine AX.sregA [0, 2, 8] (hq := ?_)
        refine AX.condF (h := ?_)
        refine AX.keepA [0, 2] (h := ?_)
        refine AX.skip ?_
        exact ⟨rfl, c, y, by omega, by omega, by omega, rfl⟩
    · rintro st ⟨c, y, hy, hc, hb, rfl⟩
      have hb1 : blen y ≤ 8 := blen_le (by omega)
      apply AX.sreg [2] (by simp only [pq]; rfl)
      · repeat (first
       | (apply RunO.op rfl; · rfl
          · first | exact valsStr (by kernel_rfl) rfl | rfl
          · first | exact effIdx Try.underlying9 (by kernel_rfl) hy | (simp (disch := omega) only [go_sem, i64_of, u32_of, u64_of, Nat.reduceLT, Nat.reduceLeDiff, Nat.reduceEqDiff, Nat.reduceAdd, Nat.reduceSub, Nat.reduceMul, Nat.reducePow, Nat.reduceBEq, Int.reduceLE, Int.reduceLT, Int.reduceToNat, Int.reduceEq, Int.reduceNeg, reduceIte, reduceCtorEq, u8n]; rfl)
          · (simp (disch := omega) only [go_sem, i64_of, u32_of, u64_of, Nat.reduceLT, Nat.reduceLeDiff, Nat.reduceEqDiff, Nat.reduceAdd, Nat.reduceSub, Nat.reduceMul, Nat.reducePow, Nat.reduceBEq, Int.reduceLE, Int.reduceLT, Int.reduceToNat, Int.reduceEq, Int.reduceNeg, reduceIte, reduceCtorEq, u8n]; rfl)
          · (simp only [pb, Nat.reduceLT, Nat.reduceAdd, reduceIte]; rfl))
       | (apply RunO.skip; · rfl
          · (simp only [pb, Nat.reduceLT, Nat.reduceAdd, reduceIte]; rfl)))
        exact RunO.nil
      · repeat (first | exact Keep.nil | (apply Keep.take; · rfl) | (apply Keep.drop; · rfl))
      refine AX.ret (And.intro (Or.inl rfl) ?_)
      rw [tab_fact (by kernel_rfl) hy, i64n _ (by omega), ← Int.natCast_add, i64n _ (by omega), ← hb]
      exact Done.one rfl (by simp only [frz]; rfl) rfl rfl


end Go.Proofs.Ytepkjfnffbdcoaa

/- Add. -/
set_option linter.unusedVariables false
set_option linter.unusedSimpArgs false
namespace Go.Proofs.Ytepkjfnffbdcoaa
open Go Go.Proofs.Ytepkjfnffbdcoaa.Lift
attribute [local irreducible] Lift.PCall Lift.HCall

theorem add_ok (a b : List Nat) (ha : Dg a) (hb : Dg b) (hla : a.length < 2 ^ 39) (hlb : b.length < 2 ^ 39) : PCall Try.prog 42 [dg a, dg b] (nv (val a + val b)) [] := by
  refine PCall.of_ax Try.call42 Try.func42 rfl (by simp [Try.ntmps42]) fun O w => ?_
  simp only [Try.ntmps42, Try.results42, argFr]
  have c1 := ntrim_ok a ha (by omega)
  have c2 := ntrim_ok b hb (by omega)
  have hma := digits_length_val ha
  have hmb := digits_length_val hb
  generalize val a = m at *
  generalize val b = n at *
  refine AX.sregAV [0, 1] (hq := ?_)
  refine AX.sregCV [0, 1] (And.intro c1 (And.intro c2 True.intro)) (hq := ?_)
  refine AX.cut (fun st => ∃ x y : Nat, x + y = m + n ∧ (digits y).length ≤ (digits x).length ∧ (digits x).length < 2 ^ 39 ∧ st = ⟨[(1, nv y), (0, nv x)], [], 0⟩) ?_ ?_
  · by_cases h : (digits m).length < (digits n).length
    · refine AX.sregAV [0, 1, 17] (hq := ?_)
      refine AX.condT (h := ?_)
      refine AX.regAV [0, 1] (hq := ?_)
      exact ⟨rfl, n, m, Nat.add_comm .., by omega, by omega, rfl⟩
    · refine AX.sregAV [0, 1, 17] (hq := ?_)
      refine AX.condF (h := ?_)
      refine AX.keepA [0, 1] (h := ?_)
      refine AX.skip ?_
      exact ⟨rfl, m, n, rfl, by omega, by omega, rfl⟩
  rintro st ⟨x, y, hxy, hl, hlx, rfl⟩
  rw [← hxy]
  clear c1 c2 hma hmb hxy
  have hdx := Dg_digits x
  have hdy := Dg_digits y
  refine AX.sregWV [0, 1, 5] (And.intro @lit_add True.intro) True.intro (hq := ?_)
  refine AX.sregAV [0, 1, 5, 6] (hq := ?_)
  refine AX.seq ?_
  refine AX.sregAV [0, 1, 5, 6, 24, 25, 26] (hq := ?_)
  refine AX.block ?_
  refine AX.loop (fun N st => ∃ (i c : Nat) (o : List Nat), N = (digits x).length - i ∧ i ≤ (digits x).length ∧ o.length = i ∧ Dg o ∧ c ≤ 1 ∧ val o + 4294967296 ^ i * c = val ((digits x).take i) + val ((digits y).take i) ∧
    st = ⟨[(26, .i .i64 i), (25, .i .i64 (digits x).length), (24, nv x), (6, .i .u64 c), (5, .own 0 0 i 1), (1, nv y), (0, nv x)], [(0, ⟨59, o.map u⟩)], 1⟩) (digits x).length ⟨0, 0, [], rfl, Nat.zero_le _, rfl, Dg_nil, by omega, by simp [val], rfl⟩ ?_
  rintro N st ⟨i, c, o, rfl, hi, ho, hdo, hc, hval, rfl⟩
  by_cases h : i < (digits x).length
  · refine AX.sregAV [0, 1, 5, 6, 24, 25, 26, 27] (hq := ?_)
    refine AX.seq ?_
    refine AX.condT (h := ?_)
    refine AX.skip ?_
    try simp only [thenS_normal, thenS_ret, thenS_exit, blockS_normal, blockS_ret, blockS_exit, backS_ret, backS_exit, if_true]
    refine AX.seq ?_
    refine AX.block ?_
    have hx := Dg_getD hdx i
    have hy := Dg_getD hdy i
    refine AX.sregAV [0, 1, 5, 6, 7, 8, 24, 25, 26] (hq := ?_)
    refine AX.sregWV [0, 1, 5, 6, 7, 24, 25, 26] (And.intro @cAdd True.intro) True.intro (hq := ?_)
    refine AX.cut (fun st => st = ⟨[(6, .i .u64 (c + (digits x).getD i 0 + (digits y).getD i 0 : Nat)), (7, .i .i64 i), (26, .i .i64 i), (25, .i .i64 (digits x).length), (24, nv x), (5, .own 0 0 i 1), (1, nv y), (0, nv x)], [(0, ⟨59, o.map u⟩)], 1⟩) ?_ ?_
    · by_cases h2 : i < (digits y).length
      · refine AX.sregAV [0, 1, 5, 6, 7, 24, 25, 26, 38] (hq := ?_)
        refine AX.condT (h := ?_)
        refine AX.regWV [0, 1, 5, 6, 7, 24, 25, 26] (And.intro @cAdd True.intro) True.intro (hq := ?_)
        exact ⟨rfl, rfl⟩
      · refine AX.sregAV [0, 1, 5, 6, 7, 24, 25, 26, 38] (hq := ?_)
        refine AX.condF (h := ?_)
        refine AX.keepA [0, 1, 5, 6, 7, 24, 25, 26] (h := ?_)
        refine AX.skip ?_
        rw [getD_out (l := digits y) (by omega)]
        exact ⟨rfl, rfl⟩
    rintro st rfl
    generalize hs : c + (digits x).getD i 0 + (digits y).getD i 0 = s
    refine AX.sregWV [0, 1, 5, 6, 24, 25, 26] (And.intro @u32n True.intro) True.intro (hq := ?_)
    refine AX.regWV [0, 1, 5, 6, 24, 25, 26] (And.intro @shr32 True.intro) True.intro (hq := ?_)
    try simp only [thenS_normal, thenS_ret, thenS_exit, blockS_normal, blockS_ret, blockS_exit, backS_ret, backS_exit, if_true]
    refine AX.regWV [0, 1, 5, 6, 24, 25, 26] (And.intro @lit_add True.intro) True.intro (hq := ?_)
    try simp only [thenS_normal, thenS_ret, thenS_exit, blockS_normal, blockS_ret, blockS_exit, backS_ret, backS_exit, if_true]
    refine ⟨(digits x).length - (i + 1), _, fun _ => 2, by omega,
      leA
      , ⟨i + 1, s / 4294967296, o ++ [s % 4294967296], rfl, by omega, by simp [ho], ?_, by omega, ?_, rfl⟩⟩
    · rw [Dg_append, Dg_cons]; exact ⟨hdo, Nat.mod_lt _ (by omega), Dg_nil⟩
    · rw [sum_step ho (by omega), val_take_step, val_take_step, ← hs, Nat.mul_add, Nat.mul_add]
      omega
  · refine AX.sregAV [0, 1, 5, 6, 24, 25, 26, 27] (hq := ?_)
    refine AX.seq ?_
    refine AX.condF (h := ?_)
    refine AX.exit ?_
    try simp only [thenS_normal, thenS_ret, thenS_exit, blockS_normal, blockS_ret, blockS_exit, backS_ret, backS_exit, if_true]
    have hi' : i = (digits x).length := by omega
    have hd2 : Dg (o ++ [c]) := by rw [Dg_append, Dg_cons]; exact ⟨hdo, by omega, Dg_nil⟩
    have c3 := ntrim_ok (o ++ [c]) hd2 (by simp; omega)
    have hv : val (o ++ [c]) = x + y := by
      rw [val_append, ho]
      simp only [val, Nat.mul_zero, Nat.add_zero]
      rw [hval, hi', List.take_length, val_digits, List.take_of_length_le hl, val_digits]
    rw [hv] at c3
    have hcm : c % 4294967296 = c := Nat.mod_eq_of_lt (by omega)
    refine AX.sregWV [4] (And.intro @u32n (And.intro @hcm True.intro)) (And.intro c3 True.intro) (hq := ?_)
    refine AX.ret (And.intro (Or.inl rfl) ?_)
    exact Done.sl rfl

end Go.Proofs.Ytepkjfnffbdcoaa
