/- The reference's Add; Sub. -/
import Derived.Test.YtlhobedecoeohaaNat6
set_option linter.unusedVariables false
set_option linter.unusedSimpArgs false
namespace Go.Proofs.Ytlhobedecoeohaa
open Go Go.Proofs.Ytlhobedecoeohaa.Lift

theorem lit_rem (n : Nat) : Int.tmod (n : Int) 4294967296 = ((n % 4294967296 : Nat) : Int) := rfl
theorem lit_quo (n : Nat) : Int.tdiv (n : Int) 4294967296 = ((n / 4294967296 : Nat) : Int) := rfl

theorem radd_ok (a b : List Nat) (ha : Dg a) (hb : Dg b) (hla : a.length < 2 ^ 29) (hlb : b.length < 2 ^ 29) : PCall Try.prog 31 [dg a, dg b] (nv (val a + val b)) [] := by
  refine PCall.of_ax Try.call31 Try.func31 rfl (by simp [Try.ntmps31]) fun O w => ?_
  simp only [Try.ntmps31, Try.results31, argFr]
  apply AX.sreg [0, 1] (by simp only [pq]; rfl)
  · repeat (first
   | (apply RunO.op rfl; · rfl
      · rfl
      iterate 2 (· (simp (disch := omega) only [go_sem, i64_of, u32_of, u64_of, Nat.reduceLT, Nat.reduceLeDiff, Nat.reduceEqDiff, Nat.reduceAdd, Nat.reduceSub, Nat.reduceMul, Nat.reducePow, Nat.reduceBEq, Int.reduceLE, Int.reduceLT, Int.reduceToNat, Int.reduceEq, Int.reduceNeg, reduceIte, reduceCtorEq]; rfl))
      · (simp only [pb, Nat.reduceLT, Nat.reduceAdd, reduceIte]; rfl))
   | (apply RunO.skip; · rfl
      · (simp only [pb, Nat.reduceLT, Nat.reduceAdd, reduceIte]; rfl)))
    exact RunO.nil
  · repeat (first | exact Keep.nil | (apply Keep.take; · rfl) | (apply Keep.drop; · rfl))
  apply AX.sreg [0, 1, 5] (by simp only [pq]; rfl)
  · repeat (first
   | (apply RunO.op rfl; · rfl
      · rfl
      iterate 2 (· (simp (disch := omega) only [go_sem, i64_of, u32_of, u64_of, Nat.reduceLT, Nat.reduceLeDiff, Nat.reduceEqDiff, Nat.reduceAdd, Nat.reduceSub, Nat.reduceMul, Nat.reducePow, Nat.reduceBEq, Int.reduceLE, Int.reduceLT, Int.reduceToNat, Int.reduceEq, Int.reduceNeg, reduceIte, reduceCtorEq]; rfl))
      · (simp only [pb, Nat.reduceLT, Nat.reduceAdd, reduceIte]; rfl))
   | (apply RunO.skip; · rfl
      · (simp only [pb, Nat.reduceLT, Nat.reduceAdd, reduceIte]; rfl)))
    exact RunO.nil
  · repeat (first | exact Keep.nil | (apply Keep.take; · rfl) | (apply Keep.drop; · rfl))
  apply AX.sreg [0, 1, 5, 6] (by simp only [pq]; rfl)
  · repeat (first
   | (apply RunO.op rfl; · rfl
      · rfl
      iterate 2 (· (simp (disch := omega) only [go_sem, i64_of, u32_of, u64_of, Nat.reduceLT, Nat.reduceLeDiff, Nat.reduceEqDiff, Nat.reduceAdd, Nat.reduceSub, Nat.reduceMul, Nat.reducePow, Nat.reduceBEq, Int.reduceLE, Int.reduceLT, Int.reduceToNat, Int.reduceEq, Int.reduceNeg, reduceIte, reduceCtorEq]; rfl))
      · (simp only [pb, Nat.reduceLT, Nat.reduceAdd, reduceIte]; rfl))
   | (apply RunO.skip; · rfl
      · (simp only [pb, Nat.reduceLT, Nat.reduceAdd, reduceIte]; rfl)))
    exact RunO.nil
  · repeat (first | exact Keep.nil | (apply Keep.take; · rfl) | (apply Keep.drop; · rfl))
  refine AX.seq ?_
  apply AX.sreg [0, 1, 5, 6, 7] (by simp only [pq]; rfl)
  · repeat (first
   | (apply RunO.op rfl; · rfl
      · rfl
      iterate 2 (· (simp (disch := omega) only [go_sem, i64_of, u32_of, u64_of, Nat.reduceLT, Nat.reduceLeDiff, Nat.reduceEqDiff, Nat.reduceAdd, Nat.reduceSub, Nat.reduceMul, Nat.reducePow, Nat.reduceBEq, Int.reduceLE, Int.reduceLT, Int.reduceToNat, Int.reduceEq, Int.reduceNeg, reduceIte, reduceCtorEq]; rfl))
      · (simp only [pb, Nat.reduceLT, Nat.reduceAdd, reduceIte]; rfl))
   | (apply RunO.skip; · rfl
      · (simp only [pb, Nat.reduceLT, Nat.reduceAdd, reduceIte]; rfl)))
    exact RunO.nil
  · repeat (first | exact Keep.nil | (apply Keep.take; · rfl) | (apply Keep.drop; · rfl))
  refine AX.own0 5 50 1 rfl ?_
  apply AX.keep (l := [0, 1, 5, 6, 7])
  · repeat (first | exact Keep.nil | (apply Keep.take; · rfl) | (apply Keep.drop; · rfl))
  refine AX.block ?_
  refine AX.loop (fun N st => ∃ (i c : Nat) (o : List Nat), N = (a.length + b.length - i) * 2 + c ∧ i ≤ a.length + b.length + 1 ∧ (a.length < i → b.length < i → c = 0) ∧ o.length = i ∧ Dg o ∧ c ≤ 1 ∧ val o + 4294967296 ^ i * c = val (a.take i) + val (b.take i) ∧
    st = ⟨[(5, .own 0 0 i 1), (7, .i .i64 i), (6, .i .u64 c), (0, dg a), (1, dg b)], [(0, ⟨50, o.map u⟩)], 1⟩) ((a.length + b.length) * 2) ⟨0, 0, [], rfl, by omega, by omega, rfl, Dg_nil, by omega, by simp [val], rfl⟩ ?_
  rintro N st ⟨i, c, o, rfl, hi, hcz, ho, hdo, hc, hval, rfl⟩
  by_cases h : i < a.length ∨ i < b.length ∨ 0 < c
  · refine AX.cut (fun st => st = ⟨[(5, .own 0 0 i 1), (7, .i .i64 i), (6, .i .u64 c), (0, dg a), (1, dg b)], [(0, ⟨50, o.map u⟩)], 1⟩) ?_ ?_
    · by_cases h1 : i < a.length
      · apply AX.sreg [0, 1, 5, 6, 7, 22] (by simp only [pq]; rfl)
        · repeat (first
         | (apply RunO.op rfl; · rfl
            · rfl
            iterate 2 (· (simp (disch := omega) only [go_sem, i64_of, u32_of, u64_of, Nat.reduceLT, Nat.reduceLeDiff, Nat.reduceEqDiff, Nat.reduceAdd, Nat.reduceSub, Nat.reduceMul, Nat.reducePow, Nat.reduceBEq, Int.reduceLE, Int.reduceLT, Int.reduceToNat, Int.reduceEq, Int.reduceNeg, reduceIte, reduceCtorEq]; rfl))
            · (simp only [pb, Nat.reduceLT, Nat.reduceAdd, reduceIte]; rfl))
         | (apply RunO.skip; · rfl
            · (simp only [pb, Nat.reduceLT, Nat.reduceAdd, reduceIte]; rfl)))
          exact RunO.nil
        · repeat (first | exact Keep.nil | (apply Keep.take; · rfl) | (apply Keep.drop; · rfl))
        refine AX.cond_true (by simp only [valOf, lkp, if_true, if_false, Nat.reduceEqDiff, reduceIte]) ?_
        apply AX.keep (l := [0, 1, 5, 6, 7])
        · repeat (first | exact Keep.nil | (apply Keep.take; · rfl) | (apply Keep.drop; · rfl))
        refine AX.skip ?_
        exact ⟨rfl, rfl⟩
      · by_cases h2 : i < b.length
        · apply AX.sreg [0, 1, 5, 6, 7, 22] (by simp only [pq]; rfl)
          · repeat (first
           | (apply RunO.op rfl; · rfl
              · rfl
              iterate 2 (· (simp (disch := omega) only [go_sem, i64_of, u32_of, u64_of, Nat.reduceLT, Nat.reduceLeDiff, Nat.reduceEqDiff, Nat.reduceAdd, Nat.reduceSub, Nat.reduceMul, Nat.reducePow, Nat.reduceBEq, Int.reduceLE, Int.reduceLT, Int.reduceToNat, Int.reduceEq, Int.reduceNeg, reduceIte, reduceCtorEq]; rfl))
              · (simp only [pb, Nat.reduceLT, Nat.reduceAdd, reduceIte]; rfl))
           | (apply RunO.skip; · rfl
              · (simp only [pb, Nat.reduceLT, Nat.reduceAdd, reduceIte]; rfl)))
            exact RunO.nil
          · repeat (first | exact Keep.nil | (apply Keep.take; · rfl) | (apply Keep.drop; · rfl))
          refine AX.cond_true (by simp only [valOf, lkp, if_true, if_false, Nat.reduceEqDiff, reduceIte]) ?_
          apply AX.keep (l := [0, 1, 5, 6, 7])
          · repeat (first | exact Keep.nil | (apply Keep.take; · rfl) | (apply Keep.drop; · rfl))
          refine AX.skip ?_
          exact ⟨rfl, rfl⟩
        · apply AX.sreg [0, 1, 5, 6, 7, 22] (by simp only [pq]; rfl)
          · repeat (first
           | (apply RunO.op rfl; · rfl
              · rfl
              iterate 2 (· (simp (disch := omega) only [go_sem, i64_of, u32_of, u64_of, Nat.reduceLT, Nat.reduceLeDiff, Nat.reduceEqDiff, Nat.reduceAdd, Nat.reduceSub, Nat.reduceMul, Nat.reducePow, Nat.reduceBEq, Int.reduceLE, Int.reduceLT, Int.reduceToNat, Int.reduceEq, Int.reduceNeg, reduceIte, reduceCtorEq]; rfl))
              · (simp only [pb, Nat.reduceLT, Nat.reduceAdd, reduceIte]; rfl))
           | (apply RunO.skip; · rfl
              · (simp only [pb, Nat.reduceLT, Nat.reduceAdd, reduceIte]; rfl)))
            exact RunO.nil
          · repeat (first | exact Keep.nil | (apply Keep.take; · rfl) | (apply Keep.drop; · rfl))
          refine AX.cond_true (by simp only [valOf, lkp, if_true, if_false, Nat.reduceEqDiff, reduceIte]) ?_
          apply AX.keep (l := [0, 1, 5, 6, 7])
          · repeat (first | exact Keep.nil | (apply Keep.take; · rfl) | (apply Keep.drop; · rfl))
          refine AX.skip ?_
          exact ⟨rfl, rfl⟩
    rintro st rfl
    have hx := Dg_getD ha i
    have hy := Dg_getD hb i
    have hzz : a.length ≤ i → b.length ≤ i → a.getD i 0 + b.getD i 0 = 0 := fun e1 e2 => by rw [getD_out e1, getD_out e2]
    refine AX.seq ?_
    refine AX.block ?_
    apply AX.sreg [0, 1, 5, 7, 8] (by simp only [pq]; rfl)
    · repeat (first
     | (apply RunO.op rfl; · rfl
        · rfl
        iterate 2 (· (simp (disch := omega) only [go_sem, i64_of, u32_of, u64_of, Nat.reduceLT, Nat.reduceLeDiff, Nat.reduceEqDiff, Nat.reduceAdd, Nat.reduceSub, Nat.reduceMul, Nat.reducePow, Nat.reduceBEq, Int.reduceLE, Int.reduceLT, Int.reduceToNat, Int.reduceEq, Int.reduceNeg, reduceIte, reduceCtorEq, ← Int.natCast_add]; rfl))
        · (simp only [pb, Nat.reduceLT, Nat.reduceAdd, reduceIte]; rfl))
     | (apply RunO.call rfl; · rfl
        · rfl
        · (simp (disch := omega) only [go_sem, i64_of, u32_of, u64_of, Nat.reduceLT, Nat.reduceLeDiff, Nat.reduceEqDiff, Nat.reduceAdd, Nat.reduceSub, Nat.reduceMul, Nat.reducePow, Nat.reduceBEq, Int.reduceLE, Int.reduceLT, Int.reduceToNat, Int.reduceEq, Int.reduceNeg, reduceIte, reduceCtorEq, ← Int.natCast_add]; rfl)
        · rfl
        · (first | exact at_ok a i ha (by omega) | exact at_ok b i hb (by omega))
        · (simp (disch := omega) only [go_sem, i64_of, u32_of, u64_of, Nat.reduceLT, Nat.reduceLeDiff, Nat.reduceEqDiff, Nat.reduceAdd, Nat.reduceSub, Nat.reduceMul, Nat.reducePow, Nat.reduceBEq, Int.reduceLE, Int.reduceLT, Int.reduceToNat, Int.reduceEq, Int.reduceNeg, reduceIte, reduceCtorEq, ← Int.natCast_add]; rfl)
        · (simp only [pb, Nat.reduceLT, Nat.reduceAdd, reduceIte]; rfl))
     | (apply RunO.skip; · rfl
        · (simp only [pb, Nat.reduceLT, Nat.reduceAdd, reduceIte]; rfl)))
      exact RunO.nil
    · repeat (first | exact Keep.nil | (apply Keep.take; · rfl) | (apply Keep.drop; · rfl))
    generalize hs : a.getD i 0 + b.getD i 0 + c = s
    apply AX.sreg [0, 1, 5, 7, 8] (by simp only [pq]; rfl)
    · repeat (first
     | (apply RunO.op rfl; · rfl
        · rfl
        iterate 2 (· (simp (disch := omega) only [go_sem, i64_of, u32_of, u64_of, Nat.reduceLT, Nat.reduceLeDiff, Nat.reduceEqDiff, Nat.reduceAdd, Nat.reduceSub, Nat.reduceMul, Nat.reducePow, Nat.reduceBEq, Int.reduceLE, Int.reduceLT, Int.reduceToNat, Int.reduceEq, Int.reduceNeg, reduceIte, reduceCtorEq, lit_rem, u32n, Nat.mod_mod]; rfl))
        · (simp only [pb, Nat.reduceLT, Nat.reduceAdd, reduceIte]; rfl))
     | (apply RunO.skip; · rfl
        · (simp only [pb, Nat.reduceLT, Nat.reduceAdd, reduceIte]; rfl)))
      exact RunO.nil
    · repeat (first | exact Keep.nil | (apply Keep.take; · rfl) | (apply Keep.drop; · rfl))
    apply AX.reg [0, 1, 5, 6, 7] (by simp only [pq]; rfl)
    · repeat (first
     | (apply RunO.op rfl; · rfl
        · rfl
        iterate 2 (· (simp (disch := omega) only [go_sem, i64_of, u32_of, u64_of, Nat.reduceLT, Nat.reduceLeDiff, Nat.reduceEqDiff, Nat.reduceAdd, Nat.reduceSub, Nat.reduceMul, Nat.reducePow, Nat.reduceBEq, Int.reduceLE, Int.reduceLT, Int.reduceToNat, Int.reduceEq, Int.reduceNeg, reduceIte, reduceCtorEq, lit_quo]; rfl))
        · (simp only [pb, Nat.reduceLT, Nat.reduceAdd, reduceIte]; rfl))
     | (apply RunO.skip; · rfl
        · (simp only [pb, Nat.reduceLT, Nat.reduceAdd, reduceIte]; rfl)))
      exact RunO.nil
    · repeat (first | exact Keep.nil | (apply Keep.take; · rfl) | (apply Keep.drop; · rfl))
    try simp only [thenS_normal, thenS_ret, thenS_exit, blockS_normal, blockS_ret, blockS_exit, backS_ret, backS_exit, if_true]
    apply AX.reg [0, 1, 5, 6, 7] (by simp only [pq]; rfl)
    · repeat (first
     | (apply RunO.op rfl; · rfl
        · rfl
        iterate 2 (· (simp (disch := omega) only [go_sem, i64_of, u32_of, u64_of, Nat.reduceLT, Nat.reduceLeDiff, Nat.reduceEqDiff, Nat.reduceAdd, Nat.reduceSub, Nat.reduceMul, Nat.reducePow, Nat.reduceBEq, Int.reduceLE, Int.reduceLT, Int.reduceToNat, Int.reduceEq, Int.reduceNeg, reduceIte, reduceCtorEq, lit_add]; rfl))
        · (simp only [pb, Nat.reduceLT, Nat.reduceAdd, reduceIte]; rfl))
     | (apply RunO.skip; · rfl
        · (simp only [pb, Nat.reduceLT, Nat.reduceAdd, reduceIte]; rfl)))
      exact RunO.nil
    · repeat (first | exact Keep.nil | (apply Keep.take; · rfl) | (apply Keep.drop; · rfl))
    try simp only [thenS_normal, thenS_ret, thenS_exit, blockS_normal, blockS_ret, blockS_exit, backS_ret, backS_exit, if_true]
    refine ⟨(a.length + b.length - (i + 1)) * 2 + s / 4294967296, _, fun _ => 2, by omega,
      ⟨by simp only [LeFr, LeHp, lkp, V.ren, V.renL, Row.ren, V.lt, V.ltL, renL_u, ltL_u, List.length_append, List.length_cons, List.length_nil, List.length_set, id_eq, Option.some.injEq, V.i.injEq, V.b.injEq, V.own.injEq, Row.mk.injEq, decide_true, decide_eq_true_eq, true_and, and_true, Bool.and_true, Bool.true_and, if_true, if_false, and_self, Nat.reduceLT, Nat.reduceLeDiff, Nat.reduceEqDiff, Nat.reduceAdd, Nat.reduceSub, Nat.reduceMul, Nat.reducePow, Nat.reduceBEq, Int.reduceLE, Int.reduceLT, Int.reduceToNat, Int.reduceEq, Int.reduceNeg, reduceIte, reduceCtorEq] <;> (first | done | trivial | (and_intros <;> first | trivial | omega | assumption)), by simp only [LeFr, LeHp, lkp, V.ren, V.renL, Row.ren, V.lt, V.ltL, renL_u, ltL_u, List.length_append, List.length_cons, List.length_nil, List.length_set, id_eq, Option.some.injEq, V.i.injEq, V.b.injEq, V.own.injEq, Row.mk.injEq, decide_true, decide_eq_true_eq, true_and, and_true, Bool.and_true, Bool.true_and, if_true, if_false, and_self, Nat.reduceLT, Nat.reduceLeDiff, Nat.reduceEqDiff, Nat.reduceAdd, Nat.reduceSub, Nat.reduceMul, Nat.reducePow, Nat.reduceBEq, Int.reduceLE, Int.reduceLT, Int.reduceToNat, Int.reduceEq, Int.reduceNeg, reduceIte, reduceCtorEq] <;> (first | done | trivial | (and_intros <;> first | trivial | omega | assumption)), by simp [Apart], by first | exact Nat.zero_le _ | simp, by intro n hn; first | rfl | exact absurd hn (Nat.not_lt_zero _)⟩
      , ⟨i + 1, s / 4294967296, o ++ [s % 4294967296], rfl, by omega, by omega, by simp [ho], ?_, by omega, ?_, rfl⟩⟩
    · rw [Dg_append, Dg_cons]; exact ⟨hdo, Nat.mod_lt _ (by omega), Dg_nil⟩
    · rw [sum_step ho (by omega), val_take_step, val_take_step, ← hs, Nat.mul_add, Nat.mul_add]
      omega
  · have h1 : ¬ i < a.length := fun e => h (.inl e)
    have h2 : ¬ i < b.length := fun e => h (.inr (.inl e))
    have h3 : c = 0 := by
      have : ¬ 0 < c := fun e => h (.inr (.inr e))
      omega
    subst h3
    refine AX.seq ?_
    apply AX.sreg [0, 1, 5, 6, 7, 22] (by simp only [pq]; rfl)
    · repeat (first
     | (apply RunO.op rfl; · rfl
        · rfl
        iterate 2 (· (simp (disch := omega) only [go_sem, i64_of, u32_of, u64_of, Nat.reduceLT, Nat.reduceLeDiff, Nat.reduceEqDiff, Nat.reduceAdd, Nat.reduceSub, Nat.reduceMul, Nat.reducePow, Nat.reduceBEq, Int.reduceLE, Int.reduceLT, Int.reduceToNat, Int.reduceEq, Int.reduceNeg, reduceIte, reduceCtorEq]; rfl))
        · (simp only [pb, Nat.reduceLT, Nat.reduceAdd, reduceIte]; rfl))
     | (apply RunO.skip; · rfl
        · (simp only [pb, Nat.reduceLT, Nat.reduceAdd, reduceIte]; rfl)))
      exact RunO.nil
    · repeat (first | exact Keep.nil | (apply Keep.take; · rfl) | (apply Keep.drop; · rfl))
    refine AX.cond_false (by simp only [valOf, lkp, if_true, if_false, Nat.reduceEqDiff, reduceIte]) ?_
    refine AX.exit ?_
    try simp only [thenS_normal, thenS_ret, thenS_exit, blockS_normal, blockS_ret, blockS_exit, backS_ret, backS_exit, if_true]
    have c3 := rntrim_ok o hdo (by omega)
    have hv : val o = val a + val b := by
      rw [List.take_of_length_le (by omega), List.take_of_length_le (by omega)] at hval
      omega
    rw [hv] at c3
    have ht : List.take i o = o := List.take_of_length_le (by omega)
    apply AX.sreg [4] (by simp only [pq]; rfl)
    · repeat (first
     | (apply RunO.op rfl; · rfl
        · rfl
        iterate 2 (· (simp (disch := omega) only [go_sem, i64_of, u32_of, u64_of, Nat.reduceLT, Nat.reduceLeDiff, Nat.reduceEqDiff, Nat.reduceAdd, Nat.reduceSub, Nat.reduceMul, Nat.reducePow, Nat.reduceBEq, Int.reduceLE, Int.reduceLT, Int.reduceToNat, Int.reduceEq, Int.reduceNeg, reduceIte, reduceCtorEq, ht]; rfl))
        · (simp only [pb, Nat.reduceLT, Nat.reduceAdd, reduceIte]; rfl))
     | (apply RunO.call rfl; · rfl
        · rfl
        · (simp (disch := omega) only [go_sem, i64_of, u32_of, u64_of, Nat.reduceLT, Nat.reduceLeDiff, Nat.reduceEqDiff, Nat.reduceAdd, Nat.reduceSub, Nat.reduceMul, Nat.reducePow, Nat.reduceBEq, Int.reduceLE, Int.reduceLT, Int.reduceToNat, Int.reduceEq, Int.reduceNeg, reduceIte, reduceCtorEq, ht]; rfl)
        · rfl
        · (first | exact c3)
        · (simp (disch := omega) only [go_sem, i64_of, u32_of, u64_of, Nat.reduceLT, Nat.reduceLeDiff, Nat.reduceEqDiff, Nat.reduceAdd, Nat.reduceSub, Nat.reduceMul, Nat.reducePow, Nat.reduceBEq, Int.reduceLE, Int.reduceLT, Int.reduceToNat, Int.reduceEq, Int.reduceNeg, reduceIte, reduceCtorEq, ht]; rfl)
        · (simp only [pb, Nat.reduceLT, Nat.reduceAdd, reduceIte]; rfl))
     | (apply RunO.skip; · rfl
        · (simp only [pb, Nat.reduceLT, Nat.reduceAdd, reduceIte]; rfl)))
      exact RunO.nil
    · repeat (first | exact Keep.nil | (apply Keep.take; · rfl) | (apply Keep.drop; · rfl))
    refine AX.ret (And.intro (Or.inl rfl) ?_)
    exact Done.sl rfl

end Go.Proofs.Ytlhobedecoeohaa
