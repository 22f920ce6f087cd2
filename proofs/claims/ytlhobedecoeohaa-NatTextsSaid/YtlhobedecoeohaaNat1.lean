/- The small functions on numbers: trim, at, Right, Of, Compare, Bits, Small. -/
import Derived.Test.YtlhobedecoeohaaNatN
import Derived.Test.YtlhobedecoeohaaProg
import Derived.KernelRfl
set_option linter.unusedVariables false
set_option linter.unusedSimpArgs false
namespace Go.Proofs.Ytlhobedecoeohaa
open Go Go.Proofs.Ytlhobedecoeohaa.Lift

theorem lay_u32 : lay Try.prog 50 = some ⟨1, false, 4, [.i .u32 0]⟩ := by kernel_rfl
theorem lay_nat : lay Try.prog 23 = some ⟨1, false, 24, [.nl]⟩ := by kernel_rfl
theorem lay_u8 : lay Try.prog 5 = some ⟨1, false, 1, [.i .u8 0]⟩ := by kernel_rfl
attribute [go_sem] Try.underlying3 Try.underlying4 Try.underlying9 Try.underlying5 Try.underlying24 Try.underlying51 Try.underlying50 Try.underlying23 Try.underlying49 Try.underlying62 Try.underlying35 lay_u32 lay_nat lay_u8

theorem trim_ok (l : List Nat) (hl : l.length < 2 ^ 30) : PCall Try.prog 46 [dg l] (dg (trim l)) [] := by
  refine PCall.of_ax Try.call46 Try.func46 rfl (by simp [Try.ntmps46]) fun O w => ?_
  simp only [Try.ntmps46, Try.results46, argFr]
  apply AX.sreg [0] (by simp only [pq]; rfl)
  · repeat (first
   | (apply RunO.op rfl; · rfl
      · rfl
      iterate 2 (· (simp (disch := omega) only [go_sem, i64_of, u32_of, u64_of, Nat.reduceLT, Nat.reduceLeDiff, Nat.reduceEqDiff, Nat.reduceAdd, Nat.reduceSub, Nat.reduceMul, Nat.reducePow, Nat.reduceBEq, Int.reduceLE, Int.reduceLT, Int.reduceToNat, Int.reduceEq, Int.reduceNeg, reduceIte, reduceCtorEq]; rfl))
      · (simp only [pb, Nat.reduceLT, Nat.reduceAdd, reduceIte]; rfl))
   | (apply RunO.skip; · rfl
      · (simp only [pb, Nat.reduceLT, Nat.reduceAdd, reduceIte]; rfl)))
    exact RunO.nil
  · repeat (first | exact Keep.nil | (apply Keep.take; · rfl) | (apply Keep.drop; · rfl))
  apply AX.sreg [0, 3] (by simp only [pq]; rfl)
  · repeat (first
   | (apply RunO.op rfl; · rfl
      · rfl
      iterate 2 (· (simp (disch := omega) only [go_sem, i64_of, u32_of, u64_of, Nat.reduceLT, Nat.reduceLeDiff, Nat.reduceEqDiff, Nat.reduceAdd, Nat.reduceSub, Nat.reduceMul, Nat.reducePow, Nat.reduceBEq, Int.reduceLE, Int.reduceLT, Int.reduceToNat, Int.reduceEq, Int.reduceNeg, reduceIte, reduceCtorEq]; rfl))
      · (simp only [pb, Nat.reduceLT, Nat.reduceAdd, reduceIte]; rfl))
   | (apply RunO.skip; · rfl
      · (simp only [pb, Nat.reduceLT, Nat.reduceAdd, reduceIte]; rfl)))
    exact RunO.nil
  · repeat (first | exact Keep.nil | (apply Keep.take; · rfl) | (apply Keep.drop; · rfl))
  refine AX.seq (AX.block ?_)
  refine AX.loop (fun n st => ∃ k : Nat, k ≤ l.length ∧ n = k ∧ tr l l.length = tr l k ∧ st = ⟨[(3, .i .i64 k), (0, dg l)], [], 0⟩) l.length ⟨l.length, Nat.le_refl _, rfl, rfl, rfl⟩ ?_
  rintro n st ⟨k, hk, rfl, htr, rfl⟩
  refine AX.seq ?_
  cases n with
  | zero =>
    apply AX.sreg [0, 3, 15] (by simp only [pq]; rfl)
    · repeat (first
     | (apply RunO.op rfl; · rfl
        · rfl
        iterate 2 (· (simp (disch := omega) only [go_sem, i64_of, u32_of, u64_of, Nat.reduceLT, Nat.reduceLeDiff, Nat.reduceEqDiff, Nat.reduceAdd, Nat.reduceSub, Nat.reduceMul, Nat.reducePow, Nat.reduceBEq, Int.reduceLE, Int.reduceLT, Int.reduceToNat, Int.reduceEq, Int.reduceNeg, reduceIte, reduceCtorEq]; rfl))
        · (simp only [pb, Nat.reduceLT, Nat.reduceAdd, reduceIte]; rfl))
     | (apply RunO.skip; · rfl
        · (simp only [pb, Nat.reduceLT, Nat.reduceAdd, reduceIte]; rfl)))
      exact RunO.nil
    · repeat (first | exact Keep.nil | (apply Keep.take; · rfl) | (apply Keep.drop; · rfl))
    refine AX.cond_false (by simp only [valOf, lkp, if_true, if_false, Nat.reduceEqDiff, reduceIte]) ?_
    refine AX.exit ?_
    simp only [thenS_exit, backS_exit, blockS_exit, if_true, thenS_normal]
    apply AX.sreg [2] (by simp only [pq]; rfl)
    · repeat (first
     | (apply RunO.op rfl; · rfl
        · rfl
        iterate 2 (· (simp (disch := omega) only [go_sem, i64_of, u32_of, u64_of, Nat.reduceLT, Nat.reduceLeDiff, Nat.reduceEqDiff, Nat.reduceAdd, Nat.reduceSub, Nat.reduceMul, Nat.reducePow, Nat.reduceBEq, Int.reduceLE, Int.reduceLT, Int.reduceToNat, Int.reduceEq, Int.reduceNeg, reduceIte, reduceCtorEq]; rfl))
        · (simp only [pb, Nat.reduceLT, Nat.reduceAdd, reduceIte]; rfl))
     | (apply RunO.skip; · rfl
        · (simp only [pb, Nat.reduceLT, Nat.reduceAdd, reduceIte]; rfl)))
      exact RunO.nil
    · repeat (first | exact Keep.nil | (apply Keep.take; · rfl) | (apply Keep.drop; · rfl))
    refine AX.ret ⟨.inl rfl, ?_⟩
    rw [trim, htr, tr]
    exact Done.one rfl (by simp only [frz]; rfl) rfl rfl
  | succ k =>
    have hk1 : ((k + 1 : Nat) : Int) - 1 = k := by omega
    by_cases hz : l.getD k 0 = 0
    · apply AX.sreg [0, 3, 15] (by simp only [pq]; rfl)
      · repeat (first
       | (apply RunO.op rfl; · rfl
          · rfl
          iterate 2 (· (simp (disch := omega) only [go_sem, i64_of, u32_of, u64_of, Nat.reduceLT, Nat.reduceLeDiff, Nat.reduceEqDiff, Nat.reduceAdd, Nat.reduceSub, Nat.reduceMul, Nat.reducePow, Nat.reduceBEq, Int.reduceLE, Int.reduceLT, Int.reduceToNat, Int.reduceEq, Int.reduceNeg, reduceIte, reduceCtorEq, hk1, hz]; rfl))
          · (simp only [pb, Nat.reduceLT, Nat.reduceAdd, reduceIte]; rfl))
       | (apply RunO.skip; · rfl
          · (simp only [pb, Nat.reduceLT, Nat.reduceAdd, reduceIte]; rfl)))
        exact RunO.nil
      · repeat (first | exact Keep.nil | (apply Keep.take; · rfl) | (apply Keep.drop; · rfl))
      refine AX.cond_true (by simp only [valOf, lkp, if_true, if_false, Nat.reduceEqDiff, reduceIte]) ?_
      refine AX.skip ?_
      simp only [thenS_normal]
      refine AX.block ?_
      apply AX.reg [0, 3] (by simp only [pq]; rfl)
      · repeat (first
       | (apply RunO.op rfl; · rfl
          · rfl
          iterate 2 (· (simp (disch := omega) only [go_sem, i64_of, u32_of, u64_of, Nat.reduceLT, Nat.reduceLeDiff, Nat.reduceEqDiff, Nat.reduceAdd, Nat.reduceSub, Nat.reduceMul, Nat.reducePow, Nat.reduceBEq, Int.reduceLE, Int.reduceLT, Int.reduceToNat, Int.reduceEq, Int.reduceNeg, reduceIte, reduceCtorEq, hk1]; rfl))
          · (simp only [pb, Nat.reduceLT, Nat.reduceAdd, reduceIte]; rfl))
       | (apply RunO.skip; · rfl
          · (simp only [pb, Nat.reduceLT, Nat.reduceAdd, reduceIte]; rfl)))
        exact RunO.nil
      · repeat (first | exact Keep.nil | (apply Keep.take; · rfl) | (apply Keep.drop; · rfl))
      simp only [blockS_normal]
      refine ⟨k, _, id, Nat.lt_succ_self k,
        ⟨by simp only [LeFr, LeHp, lkp, V.ren, V.renL, Row.ren, V.lt, V.ltL, renL_u, ltL_u, List.length_append, List.length_cons, List.length_nil, List.length_set, id_eq, Option.some.injEq, V.i.injEq, V.b.injEq, V.own.injEq, Row.mk.injEq, decide_true, decide_eq_true_eq, true_and, and_true, Bool.and_true, Bool.true_and, if_true, if_false, and_self, Nat.reduceLT, Nat.reduceLeDiff, Nat.reduceEqDiff, Nat.reduceAdd, Nat.reduceSub, Nat.reduceMul, Nat.reducePow, Nat.reduceBEq, Int.reduceLE, Int.reduceLT, Int.reduceToNat, Int.reduceEq, Int.reduceNeg, reduceIte, reduceCtorEq] <;> (first | done | trivial | (and_intros <;> first | trivial | omega | assumption)), by simp only [LeFr, LeHp, lkp, V.ren, V.renL, Row.ren, V.lt, V.ltL, renL_u, ltL_u, List.length_append, List.length_cons, List.length_nil, List.length_set, id_eq, Option.some.injEq, V.i.injEq, V.b.injEq, V.own.injEq, Row.mk.injEq, decide_true, decide_eq_true_eq, true_and, and_true, Bool.and_true, Bool.true_and, if_true, if_false, and_self, Nat.reduceLT, Nat.reduceLeDiff, Nat.reduceEqDiff, Nat.reduceAdd, Nat.reduceSub, Nat.reduceMul, Nat.reducePow, Nat.reduceBEq, Int.reduceLE, Int.reduceLT, Int.reduceToNat, Int.reduceEq, Int.reduceNeg, reduceIte, reduceCtorEq] <;> (first | done | trivial | (and_intros <;> first | trivial | omega | assumption)), by simp [Apart], by first | exact Nat.zero_le _ | simp, by intro n hn; first | rfl | exact absurd hn (Nat.not_lt_zero _)⟩
        , ⟨k, by omega, rfl, by rw [htr, tr, if_pos hz], rfl⟩⟩
    · apply AX.sreg [0, 3, 15] (by simp only [pq]; rfl)
      · repeat (first
       | (apply RunO.op rfl; · rfl
          · rfl
          iterate 2 (· (simp (disch := omega) only [go_sem, i64_of, u32_of, u64_of, Nat.reduceLT, Nat.reduceLeDiff, Nat.reduceEqDiff, Nat.reduceAdd, Nat.reduceSub, Nat.reduceMul, Nat.reducePow, Nat.reduceBEq, Int.reduceLE, Int.reduceLT, Int.reduceToNat, Int.reduceEq, Int.reduceNeg, reduceIte, reduceCtorEq, hk1]; rfl))
          · (simp only [pb, Nat.reduceLT, Nat.reduceAdd, reduceIte]; rfl))
       | (apply RunO.skip; · rfl
          · (simp only [pb, Nat.reduceLT, Nat.reduceAdd, reduceIte]; rfl)))
        exact RunO.nil
      · repeat (first | exact Keep.nil | (apply Keep.take; · rfl) | (apply Keep.drop; · rfl))
      refine AX.cond_false (by simp only [valOf, lkp, if_true, if_false, Nat.reduceEqDiff, reduceIte]) ?_
      refine AX.exit ?_
      simp only [thenS_exit, backS_exit, blockS_exit, if_true, thenS_normal]
      apply AX.sreg [2] (by simp only [pq]; rfl)
      · repeat (first
       | (apply RunO.op rfl; · rfl
          · rfl
          iterate 2 (· (simp (disch := omega) only [go_sem, i64_of, u32_of, u64_of, Nat.reduceLT, Nat.reduceLeDiff, Nat.reduceEqDiff, Nat.reduceAdd, Nat.reduceSub, Nat.reduceMul, Nat.reducePow, Nat.reduceBEq, Int.reduceLE, Int.reduceLT, Int.reduceToNat, Int.reduceEq, Int.reduceNeg, reduceIte, reduceCtorEq]; rfl))
          · (simp only [pb, Nat.reduceLT, Nat.reduceAdd, reduceIte]; rfl))
       | (apply RunO.skip; · rfl
          · (simp only [pb, Nat.reduceLT, Nat.reduceAdd, reduceIte]; rfl)))
        exact RunO.nil
      · repeat (first | exact Keep.nil | (apply Keep.take; · rfl) | (apply Keep.drop; · rfl))
      refine AX.ret ⟨.inl rfl, ?_⟩
      rw [trim, htr, tr, if_neg hz]
      exact Done.one rfl (by simp only [frz]; rfl) rfl rfl

theorem rtrim_ok (l : List Nat) (hl : l.length < 2 ^ 30) : PCall Try.prog 47 [dg l] (dg (trim l)) [] := by
  refine PCall.of_ax Try.call47 Try.func47 rfl (by simp [Try.ntmps47]) fun O w => ?_
  simp only [Try.ntmps47, Try.results47, argFr]
  apply AX.sreg [0] (by simp only [pq]; rfl)
  · repeat (first
   | (apply RunO.op rfl; · rfl
      · rfl
      iterate 2 (· (simp (disch := omega) only [go_sem, i64_of, u32_of, u64_of, Nat.reduceLT, Nat.reduceLeDiff, Nat.reduceEqDiff, Nat.reduceAdd, Nat.reduceSub, Nat.reduceMul, Nat.reducePow, Nat.reduceBEq, Int.reduceLE, Int.reduceLT, Int.reduceToNat, Int.reduceEq, Int.reduceNeg, reduceIte, reduceCtorEq]; rfl))
      · (simp only [pb, Nat.reduceLT, Nat.reduceAdd, reduceIte]; rfl))
   | (apply RunO.skip; · rfl
      · (simp only [pb, Nat.reduceLT, Nat.reduceAdd, reduceIte]; rfl)))
    exact RunO.nil
  · repeat (first | exact Keep.nil | (apply Keep.take; · rfl) | (apply Keep.drop; · rfl))
  apply AX.sreg [0, 3] (by simp only [pq]; rfl)
  · repeat (first
   | (apply RunO.op rfl; · rfl
      · rfl
      iterate 2 (· (simp (disch := omega) only [go_sem, i64_of, u32_of, u64_of, Nat.reduceLT, Nat.reduceLeDiff, Nat.reduceEqDiff, Nat.reduceAdd, Nat.reduceSub, Nat.reduceMul, Nat.reducePow, Nat.reduceBEq, Int.reduceLE, Int.reduceLT, Int.reduceToNat, Int.reduceEq, Int.reduceNeg, reduceIte, reduceCtorEq]; rfl))
      · (simp only [pb, Nat.reduceLT, Nat.reduceAdd, reduceIte]; rfl))
   | (apply RunO.skip; · rfl
      · (simp only [pb, Nat.reduceLT, Nat.reduceAdd, reduceIte]; rfl)))
    exact RunO.nil
  · repeat (first | exact Keep.nil | (apply Keep.take; · rfl) | (apply Keep.drop; · rfl))
  refine AX.seq (AX.block ?_)
  refine AX.loop (fun n st => ∃ k : Nat, k ≤ l.length ∧ n = k ∧ tr l l.length = tr l k ∧ st = ⟨[(3, .i .i64 k), (0, dg l)], [], 0⟩) l.length ⟨l.length, Nat.le_refl _, rfl, rfl, rfl⟩ ?_
  rintro n st ⟨k, hk, rfl, htr, rfl⟩
  refine AX.seq ?_
  cases n with
  | zero =>
    apply AX.sreg [0, 3, 15] (by simp only [pq]; rfl)
    · repeat (first
     | (apply RunO.op rfl; · rfl
        · rfl
        iterate 2 (· (simp (disch := omega) only [go_sem, i64_of, u32_of, u64_of, Nat.reduceLT, Nat.reduceLeDiff, Nat.reduceEqDiff, Nat.reduceAdd, Nat.reduceSub, Nat.reduceMul, Nat.reducePow, Nat.reduceBEq, Int.reduceLE, Int.reduceLT, Int.reduceToNat, Int.reduceEq, Int.reduceNeg, reduceIte, reduceCtorEq]; rfl))
        · (simp only [pb, Nat.reduceLT, Nat.reduceAdd, reduceIte]; rfl))
     | (apply RunO.skip; · rfl
        · (simp only [pb, Nat.reduceLT, Nat.reduceAdd, reduceIte]; rfl)))
      exact RunO.nil
    · repeat (first | exact Keep.nil | (apply Keep.take; · rfl) | (apply Keep.drop; · rfl))
    refine AX.cond_false (by simp only [valOf, lkp, if_true, if_false, Nat.reduceEqDiff, reduceIte]) ?_
    refine AX.exit ?_
    simp only [thenS_exit, backS_exit, blockS_exit, if_true, thenS_normal]
    apply AX.sreg [2] (by simp only [pq]; rfl)
    · repeat (first
     | (apply RunO.op rfl; · rfl
        · rfl
        iterate 2 (· (simp (disch := omega) only [go_sem, i64_of, u32_of, u64_of, Nat.reduceLT, Nat.reduceLeDiff, Nat.reduceEqDiff, Nat.reduceAdd, Nat.reduceSub, Nat.reduceMul, Nat.reducePow, Nat.reduceBEq, Int.reduceLE, Int.reduceLT, Int.reduceToNat, Int.reduceEq, Int.reduceNeg, reduceIte, reduceCtorEq]; rfl))
        · (simp only [pb, Nat.reduceLT, Nat.reduceAdd, reduceIte]; rfl))
     | (apply RunO.skip; · rfl
        · (simp only [pb, Nat.reduceLT, Nat.reduceAdd, reduceIte]; rfl)))
      exact RunO.nil
    · repeat (first | exact Keep.nil | (apply Keep.take; · rfl) | (apply Keep.drop; · rfl))
    refine AX.ret ⟨.inl rfl, ?_⟩
    rw [trim, htr, tr]
    exact Done.own rfl rfl (by simp) rfl
  | succ k =>
    have hk1 : ((k + 1 : Nat) : Int) - 1 = k := by omega
    by_cases hz : l.getD k 0 = 0
    · apply AX.sreg [0, 3, 15] (by simp only [pq]; rfl)
      · repeat (first
       | (apply RunO.op rfl; · rfl
          · rfl
          iterate 2 (· (simp (disch := omega) only [go_sem, i64_of, u32_of, u64_of, Nat.reduceLT, Nat.reduceLeDiff, Nat.reduceEqDiff, Nat.reduceAdd, Nat.reduceSub, Nat.reduceMul, Nat.reducePow, Nat.reduceBEq, Int.reduceLE, Int.reduceLT, Int.reduceToNat, Int.reduceEq, Int.reduceNeg, reduceIte, reduceCtorEq, hk1, hz]; rfl))
          · (simp only [pb, Nat.reduceLT, Nat.reduceAdd, reduceIte]; rfl))
       | (apply RunO.skip; · rfl
          · (simp only [pb, Nat.reduceLT, Nat.reduceAdd, reduceIte]; rfl)))
        exact RunO.nil
      · repeat (first | exact Keep.nil | (apply Keep.take; · rfl) | (apply Keep.drop; · rfl))
      refine AX.cond_true (by simp only [valOf, lkp, if_true, if_false, Nat.reduceEqDiff, reduceIte]) ?_
      refine AX.skip ?_
      simp only [thenS_normal]
      refine AX.block ?_
      apply AX.reg [0, 3] (by simp only [pq]; rfl)
      · repeat (first
       | (apply RunO.op rfl; · rfl
          · rfl
          iterate 2 (· (simp (disch := omega) only [go_sem, i64_of, u32_of, u64_of, Nat.reduceLT, Nat.reduceLeDiff, Nat.reduceEqDiff, Nat.reduceAdd, Nat.reduceSub, Nat.reduceMul, Nat.reducePow, Nat.reduceBEq, Int.reduceLE, Int.reduceLT, Int.reduceToNat, Int.reduceEq, Int.reduceNeg, reduceIte, reduceCtorEq, hk1]; rfl))
          · (simp only [pb, Nat.reduceLT, Nat.reduceAdd, reduceIte]; rfl))
       | (apply RunO.skip; · rfl
          · (simp only [pb, Nat.reduceLT, Nat.reduceAdd, reduceIte]; rfl)))
        exact RunO.nil
      · repeat (first | exact Keep.nil | (apply Keep.take; · rfl) | (apply Keep.drop; · rfl))
      simp only [blockS_normal]
      refine ⟨k, _, id, Nat.lt_succ_self k,
        ⟨by simp only [LeFr, LeHp, lkp, V.ren, V.renL, Row.ren, V.lt, V.ltL, renL_u, ltL_u, List.length_append, List.length_cons, List.length_nil, List.length_set, id_eq, Option.some.injEq, V.i.injEq, V.b.injEq, V.own.injEq, Row.mk.injEq, decide_true, decide_eq_true_eq, true_and, and_true, Bool.and_true, Bool.true_and, if_true, if_false, and_self, Nat.reduceLT, Nat.reduceLeDiff, Nat.reduceEqDiff, Nat.reduceAdd, Nat.reduceSub, Nat.reduceMul, Nat.reducePow, Nat.reduceBEq, Int.reduceLE, Int.reduceLT, Int.reduceToNat, Int.reduceEq, Int.reduceNeg, reduceIte, reduceCtorEq] <;> (first | done | trivial | (and_intros <;> first | trivial | omega | assumption)), by simp only [LeFr, LeHp, lkp, V.ren, V.renL, Row.ren, V.lt, V.ltL, renL_u, ltL_u, List.length_append, List.length_cons, List.length_nil, List.length_set, id_eq, Option.some.injEq, V.i.injEq, V.b.injEq, V.own.injEq, Row.mk.injEq, decide_true, decide_eq_true_eq, true_and, and_true, Bool.and_true, Bool.true_and, if_true, if_false, and_self, Nat.reduceLT, Nat.reduceLeDiff, Nat.reduceEqDiff, Nat.reduceAdd, Nat.reduceSub, Nat.reduceMul, Nat.reducePow, Nat.reduceBEq, Int.reduceLE, Int.reduceLT, Int.reduceToNat, Int.reduceEq, Int.reduceNeg, reduceIte, reduceCtorEq] <;> (first | done | trivial | (and_intros <;> first | trivial | omega | assumption)), by simp [Apart], by first | exact Nat.zero_le _ | simp, by intro n hn; first | rfl | exact absurd hn (Nat.not_lt_zero _)⟩
        , ⟨k, by omega, rfl, by rw [htr, tr, if_pos hz], rfl⟩⟩
    · apply AX.sreg [0, 3, 15] (by simp only [pq]; rfl)
      · repeat (first
       | (apply RunO.op rfl; · rfl
          · rfl
          iterate 2 (· (simp (disch := omega) only [go_sem, i64_of, u32_of, u64_of, Nat.reduceLT, Nat.reduceLeDiff, Nat.reduceEqDiff, Nat.reduceAdd, Nat.reduceSub, Nat.reduceMul, Nat.reducePow, Nat.reduceBEq, Int.reduceLE, Int.reduceLT, Int.reduceToNat, Int.reduceEq, Int.reduceNeg, reduceIte, reduceCtorEq, hk1]; rfl))
          · (simp only [pb, Nat.reduceLT, Nat.reduceAdd, reduceIte]; rfl))
       | (apply RunO.skip; · rfl
          · (simp only [pb, Nat.reduceLT, Nat.reduceAdd, reduceIte]; rfl)))
        exact RunO.nil
      · repeat (first | exact Keep.nil | (apply Keep.take; · rfl) | (apply Keep.drop; · rfl))
      refine AX.cond_false (by simp only [valOf, lkp, if_true, if_false, Nat.reduceEqDiff, reduceIte]) ?_
      refine AX.exit ?_
      simp only [thenS_exit, backS_exit, blockS_exit, if_true, thenS_normal]
      apply AX.sreg [2] (by simp only [pq]; rfl)
      · repeat (first
       | (apply RunO.op rfl; · rfl
          · rfl
          iterate 2 (· (simp (disch := omega) only [go_sem, i64_of, u32_of, u64_of, Nat.reduceLT, Nat.reduceLeDiff, Nat.reduceEqDiff, Nat.reduceAdd, Nat.reduceSub, Nat.reduceMul, Nat.reducePow, Nat.reduceBEq, Int.reduceLE, Int.reduceLT, Int.reduceToNat, Int.reduceEq, Int.reduceNeg, reduceIte, reduceCtorEq]; rfl))
          · (simp only [pb, Nat.reduceLT, Nat.reduceAdd, reduceIte]; rfl))
       | (apply RunO.skip; · rfl
          · (simp only [pb, Nat.reduceLT, Nat.reduceAdd, reduceIte]; rfl)))
        exact RunO.nil
      · repeat (first | exact Keep.nil | (apply Keep.take; · rfl) | (apply Keep.drop; · rfl))
      refine AX.ret ⟨.inl rfl, ?_⟩
      rw [trim, htr, tr, if_neg hz]
      exact Done.own rfl rfl (by simp) rfl

theorem clone_ok (l : List Nat) (hl : l.length < 2 ^ 30) : PCall Try.prog 48 [dg l] (dg l) [] := by
  refine PCall.of_ax Try.call48 Try.func48 rfl (by simp [Try.ntmps48]) fun O w => ?_
  simp only [Try.ntmps48, Try.results48, argFr]
  apply AX.sreg [0, 2] (by simp only [pq]; rfl)
  · repeat (first
   | (apply RunO.op rfl; · rfl
      · rfl
      iterate 2 (· (simp (disch := omega) only [go_sem, i64_of, u32_of, u64_of, Nat.reduceLT, Nat.reduceLeDiff, Nat.reduceEqDiff, Nat.reduceAdd, Nat.reduceSub, Nat.reduceMul, Nat.reducePow, Nat.reduceBEq, Int.reduceLE, Int.reduceLT, Int.reduceToNat, Int.reduceEq, Int.reduceNeg, reduceIte, reduceCtorEq]; rfl))
      · (simp only [pb, Nat.reduceLT, Nat.reduceAdd, reduceIte]; rfl))
   | (apply RunO.skip; · rfl
      · (simp only [pb, Nat.reduceLT, Nat.reduceAdd, reduceIte]; rfl)))
    exact RunO.nil
  · repeat (first | exact Keep.nil | (apply Keep.take; · rfl) | (apply Keep.drop; · rfl))
  refine AX.seq ?_
  cases l with
  | nil =>
    refine AX.seq (AX.isnil (t0 := 0) (t3 := 3) (t4 := 4) rfl rfl rfl rfl rfl rfl (fun _ => rfl) Try.underlying23 rfl ⟨(by decide : 3 < 8), (by decide : 4 < 8)⟩ fun b => ?_)
    try simp only [thenS_normal, thenS_ret, thenS_exit, blockS_normal, blockS_ret, blockS_exit, backS_ret, backS_exit, if_true]
    cases b with
    | true =>
      refine AX.cond_true (by simp only [valOf, lkp, if_true, if_false, Nat.reduceEqDiff, reduceIte]) ?_
      apply AX.sreg [0, 2] (by simp only [pq]; rfl)
      · repeat (first
       | (apply RunO.op rfl; · rfl
          · rfl
          iterate 2 (· (simp (disch := omega) only [go_sem, i64_of, u32_of, u64_of, Nat.reduceLT, Nat.reduceLeDiff, Nat.reduceEqDiff, Nat.reduceAdd, Nat.reduceSub, Nat.reduceMul, Nat.reducePow, Nat.reduceBEq, Int.reduceLE, Int.reduceLT, Int.reduceToNat, Int.reduceEq, Int.reduceNeg, reduceIte, reduceCtorEq]; rfl))
          · (simp only [pb, Nat.reduceLT, Nat.reduceAdd, reduceIte]; rfl))
       | (apply RunO.skip; · rfl
          · (simp only [pb, Nat.reduceLT, Nat.reduceAdd, reduceIte]; rfl)))
        exact RunO.nil
      · repeat (first | exact Keep.nil | (apply Keep.take; · rfl) | (apply Keep.drop; · rfl))
      refine AX.ret (And.intro (Or.inl rfl) ?_)
      exact Done.one rfl (by simp only [frz]; rfl) rfl rfl
    | false =>
      refine AX.cond_false (by simp only [valOf, lkp, if_true, if_false, Nat.reduceEqDiff, reduceIte]) ?_
      refine AX.skip ?_
      try simp only [thenS_normal, thenS_ret, thenS_exit, blockS_normal, blockS_ret, blockS_exit, backS_ret, backS_exit, if_true]
      apply AX.sreg [2] (by simp only [pq]; rfl)
      · repeat (first
       | (apply RunO.op rfl; · rfl
          · rfl
          iterate 2 (· (simp (disch := omega) only [go_sem, i64_of, u32_of, u64_of, Nat.reduceLT, Nat.reduceLeDiff, Nat.reduceEqDiff, Nat.reduceAdd, Nat.reduceSub, Nat.reduceMul, Nat.reducePow, Nat.reduceBEq, Int.reduceLE, Int.reduceLT, Int.reduceToNat, Int.reduceEq, Int.reduceNeg, reduceIte, reduceCtorEq]; rfl))
          · (simp only [pb, Nat.reduceLT, Nat.reduceAdd, reduceIte]; rfl))
       | (apply RunO.skip; · rfl
          · (simp only [pb, Nat.reduceLT, Nat.reduceAdd, reduceIte]; rfl)))
        exact RunO.nil
      · repeat (first | exact Keep.nil | (apply Keep.take; · rfl) | (apply Keep.drop; · rfl))
      refine AX.ret ⟨.inl rfl, ?_⟩
      exact Done.own (l := []) rfl rfl rfl rfl
  | cons x l =>
    apply AX.sreg [0, 4] (by simp only [pq]; rfl)
    · repeat (first
     | (apply RunO.op rfl; · rfl
        · rfl
        iterate 2 (· (simp (disch := omega) only [go_sem, i64_of, u32_of, u64_of, Nat.reduceLT, Nat.reduceLeDiff, Nat.reduceEqDiff, Nat.reduceAdd, Nat.reduceSub, Nat.reduceMul, Nat.reducePow, Nat.reduceBEq, Int.reduceLE, Int.reduceLT, Int.reduceToNat, Int.reduceEq, Int.reduceNeg, reduceIte, reduceCtorEq]; rfl))
        · (simp only [pb, Nat.reduceLT, Nat.reduceAdd, reduceIte]; rfl))
     | (apply RunO.skip; · rfl
        · (simp only [pb, Nat.reduceLT, Nat.reduceAdd, reduceIte]; rfl)))
      exact RunO.nil
    · repeat (first | exact Keep.nil | (apply Keep.take; · rfl) | (apply Keep.drop; · rfl))
    refine AX.cond_false (by simp only [valOf, lkp, if_true, if_false, Nat.reduceEqDiff, reduceIte]) ?_
    refine AX.skip ?_
    try simp only [thenS_normal, thenS_ret, thenS_exit, blockS_normal, blockS_ret, blockS_exit, backS_ret, backS_exit, if_true]
    generalize x :: l = L at *
    apply AX.sreg [2] (by simp only [pq]; rfl)
    · repeat (first
     | (apply RunO.op rfl; · rfl
        · rfl
        iterate 2 (· (simp (disch := omega) only [go_sem, i64_of, u32_of, u64_of, Nat.reduceLT, Nat.reduceLeDiff, Nat.reduceEqDiff, Nat.reduceAdd, Nat.reduceSub, Nat.reduceMul, Nat.reducePow, Nat.reduceBEq, Int.reduceLE, Int.reduceLT, Int.reduceToNat, Int.reduceEq, Int.reduceNeg, reduceIte, reduceCtorEq]; rfl))
        · (simp only [pb, Nat.reduceLT, Nat.reduceAdd, reduceIte]; rfl))
     | (apply RunO.skip; · rfl
        · (simp only [pb, Nat.reduceLT, Nat.reduceAdd, reduceIte]; rfl)))
      exact RunO.nil
    · repeat (first | exact Keep.nil | (apply Keep.take; · rfl) | (apply Keep.drop; · rfl))
    refine AX.ret ⟨.inl rfl, ?_⟩
    exact Done.own (l := L) rfl rfl (by simp) rfl

theorem at_ok (l : List Nat) (i : Nat) (hd : Dg l) (hl : l.length < 2 ^ 30) : PCall Try.prog 50 [dg l, .i .i64 i] (.i .u64 (l.getD i 0 : Nat)) [] := by
  refine PCall.of_ax Try.call50 Try.func50 rfl (by simp [Try.ntmps50]) fun O w => ?_
  simp only [Try.ntmps50, Try.results50, argFr]
  have hb := Dg_getD hd i
  apply AX.sreg [0, 1] (by simp only [pq]; rfl)
  · repeat (first
   | (apply RunO.op rfl; · rfl
      · rfl
      iterate 2 (· (simp (disch := omega) only [go_sem, i64_of, u32_of, u64_of, Nat.reduceLT, Nat.reduceLeDiff, Nat.reduceEqDiff, Nat.reduceAdd, Nat.reduceSub, Nat.reduceMul, Nat.reducePow, Nat.reduceBEq, Int.reduceLE, Int.reduceLT, Int.reduceToNat, Int.reduceEq, Int.reduceNeg, reduceIte, reduceCtorEq]; rfl))
      · (simp only [pb, Nat.reduceLT, Nat.reduceAdd, reduceIte]; rfl))
   | (apply RunO.skip; · rfl
      · (simp only [pb, Nat.reduceLT, Nat.reduceAdd, reduceIte]; rfl)))
    exact RunO.nil
  · repeat (first | exact Keep.nil | (apply Keep.take; · rfl) | (apply Keep.drop; · rfl))
  refine AX.seq ?_
  by_cases h : i < l.length
  · apply AX.sreg [0, 1, 8] (by simp only [pq]; rfl)
    · repeat (first
     | (apply RunO.op rfl; · rfl
        · rfl
        iterate 2 (· (simp (disch := omega) only [go_sem, i64_of, u32_of, u64_of, Nat.reduceLT, Nat.reduceLeDiff, Nat.reduceEqDiff, Nat.reduceAdd, Nat.reduceSub, Nat.reduceMul, Nat.reducePow, Nat.reduceBEq, Int.reduceLE, Int.reduceLT, Int.reduceToNat, Int.reduceEq, Int.reduceNeg, reduceIte, reduceCtorEq]; rfl))
        · (simp only [pb, Nat.reduceLT, Nat.reduceAdd, reduceIte]; rfl))
     | (apply RunO.skip; · rfl
        · (simp only [pb, Nat.reduceLT, Nat.reduceAdd, reduceIte]; rfl)))
      exact RunO.nil
    · repeat (first | exact Keep.nil | (apply Keep.take; · rfl) | (apply Keep.drop; · rfl))
    refine AX.cond_true (by simp only [valOf, lkp, if_true, if_false, Nat.reduceEqDiff, reduceIte]) ?_
    apply AX.sreg [4] (by simp only [pq]; rfl)
    · repeat (first
     | (apply RunO.op rfl; · rfl
        · rfl
        iterate 2 (· (simp (disch := omega) only [go_sem, i64_of, u32_of, u64_of, Nat.reduceLT, Nat.reduceLeDiff, Nat.reduceEqDiff, Nat.reduceAdd, Nat.reduceSub, Nat.reduceMul, Nat.reducePow, Nat.reduceBEq, Int.reduceLE, Int.reduceLT, Int.reduceToNat, Int.reduceEq, Int.reduceNeg, reduceIte, reduceCtorEq]; rfl))
        · (simp only [pb, Nat.reduceLT, Nat.reduceAdd, reduceIte]; rfl))
     | (apply RunO.skip; · rfl
        · (simp only [pb, Nat.reduceLT, Nat.reduceAdd, reduceIte]; rfl)))
      exact RunO.nil
    · repeat (first | exact Keep.nil | (apply Keep.take; · rfl) | (apply Keep.drop; · rfl))
    refine AX.ret (And.intro (Or.inl rfl) ?_)
    exact Done.one rfl (by simp only [frz]; rfl) rfl rfl
  · apply AX.sreg [0, 1, 8] (by simp only [pq]; rfl)
    · repeat (first
     | (apply RunO.op rfl; · rfl
        · rfl
        iterate 2 (· (simp (disch := omega) only [go_sem, i64_of, u32_of, u64_of, Nat.reduceLT, Nat.reduceLeDiff, Nat.reduceEqDiff, Nat.reduceAdd, Nat.reduceSub, Nat.reduceMul, Nat.reducePow, Nat.reduceBEq, Int.reduceLE, Int.reduceLT, Int.reduceToNat, Int.reduceEq, Int.reduceNeg, reduceIte, reduceCtorEq]; rfl))
        · (simp only [pb, Nat.reduceLT, Nat.reduceAdd, reduceIte]; rfl))
     | (apply RunO.skip; · rfl
        · (simp only [pb, Nat.reduceLT, Nat.reduceAdd, reduceIte]; rfl)))
      exact RunO.nil
    · repeat (first | exact Keep.nil | (apply Keep.take; · rfl) | (apply Keep.drop; · rfl))
    refine AX.cond_false (by simp only [valOf, lkp, if_true, if_false, Nat.reduceEqDiff, reduceIte]) ?_
    refine AX.skip ?_
    try simp only [thenS_normal, thenS_ret, thenS_exit, blockS_normal, blockS_ret, blockS_exit, backS_ret, backS_exit, if_true]
    apply AX.sreg [4] (by simp only [pq]; rfl)
    · repeat (first
     | (apply RunO.op rfl; · rfl
        · rfl
        iterate 2 (· (simp (disch := omega) only [go_sem, i64_of, u32_of, u64_of, Nat.reduceLT, Nat.reduceLeDiff, Nat.reduceEqDiff, Nat.reduceAdd, Nat.reduceSub, Nat.reduceMul, Nat.reducePow, Nat.reduceBEq, Int.reduceLE, Int.reduceLT, Int.reduceToNat, Int.reduceEq, Int.reduceNeg, reduceIte, reduceCtorEq]; rfl))
        · (simp only [pb, Nat.reduceLT, Nat.reduceAdd, reduceIte]; rfl))
     | (apply RunO.skip; · rfl
        · (simp only [pb, Nat.reduceLT, Nat.reduceAdd, reduceIte]; rfl)))
      exact RunO.nil
    · repeat (first | exact Keep.nil | (apply Keep.take; · rfl) | (apply Keep.drop; · rfl))
    refine AX.ret ⟨.inl rfl, ?_⟩
    have : l.getD i 0 = 0 := by rw [List.getD_eq_getElem?_getD, List.getElem?_eq_none (by omega)]; rfl
    rw [this]
    exact Done.one rfl (by simp only [frz]; rfl) rfl rfl

end Go.Proofs.Ytlhobedecoeohaa
